import Derived.Test.YtihdilnanhjedaaAm22x
import Derived.LoopN
set_option linter.unusedVariables false
set_option linter.unusedSimpArgs false
/- Loops of few rounds; the comparison of bytes. -/
namespace Go.Am
open Go

/-- a loop that goes round so often, or less -/
def aRounds (P : Program) (h0 : AH) (c : Code) (Q : Exit → Array Value → AH → Prop) : Nat → Array Value → AH → Prop
  | 0, _, _ => False
  | n + 1, a, h => ay P h0 c (thenA (aRounds P h0 c Q n) Q) a h

theorem AWP.rounds {P : Program} {h0 : AH} {c : Code} {Q : Exit → Array Value → AH → Prop} (n : Nat) {a : Array Value} {h : AH} (ha : aRounds P h0 c Q n a h) : AWP P h0 (.loop c) Q a h := by
  intro f0 w0 f a' w s0 g ro hrb
  refine wpIn_loop_rounds n ?_
  induction n generalizing f a h a' w with
  | zero => exact ha.elim
  | succ n ih =>
    refine Go.wpIn_mono (ay_sound c _ _ _ ha f0 w0 f a' w s0 g ro hrb) fun e a1 w1 hq => ?_
    cases e with
    | normal =>
      obtain ⟨f1, b, h1, hk, g1⟩ := hq
      exact ih hk f1 a1 w1 g1
    | exit id => exact hq
    | goto l => exact hq
    | ret => exact hq
    | panic c => exact hq
    | outgrown => exact hq

section
variable {P : Program} {h0 h : AH} {c : Code} {Q : Exit → Array Value → AH → Prop} {a : Array Value}
theorem rounds1 : aRounds P h0 c Q 1 a h = ay P h0 c (thenA (fun _ _ => False) Q) a h := rfl
theorem rounds2 : aRounds P h0 c Q 2 a h = ay P h0 c (thenA (aRounds P h0 c Q 1) Q) a h := rfl
theorem rounds3 : aRounds P h0 c Q 3 a h = ay P h0 c (thenA (aRounds P h0 c Q 2) Q) a h := rfl
end

/-! the comparison -/
def mkCmp (n o n2 o2 : Nat) : Option AObj → Option AObj → Option Value
  | some (.cells A _ _), some (.cells B _ _) =>
    if o + n ≤ A.size ∧ o2 + n2 ≤ B.size ∧ (A.extract o (o + n)).all isByte = true ∧ (B.extract o2 (o2 + n2)).all isByte = true then some (.int .i64 (cmpV (A.extract o (o + n)) (B.extract o2 (o2 + n2)))) else none
  | _, _ => none

theorem acompare_rows {h : AH} {b o n c b2 o2 n2 c2 : Nat} (hn : (n == 0) = false) (hn2 : (n2 == 0) = false) :
    acompare h (.slice (some ⟨b, o, none⟩) n c) (.slice (some ⟨b2, o2, none⟩) n2 c2) = mkCmp n o n2 o2 h[b]? h[b2]? := by
  have h1 : n ≠ 0 := by simpa using hn
  have h2 : n2 ≠ 0 := by simpa using hn2
  simp only [acompare, isSlice, and_self, if_true, asource, h1, h2, if_false, Nat.mul_one]
  generalize h[b]? = x
  generalize h[b2]? = y
  cases x with
  | none => rfl
  | some x =>
    cases x with
    | cells A es rw =>
      by_cases l1 : o + n ≤ A.size
      · cases y with
        | none => simp [mkCmp, l1]
        | some y =>
          cases y with
          | cells B es2 rw2 =>
            by_cases l2 : o2 + n2 ≤ B.size
            · simp only [mkCmp, l1, l2, if_true, true_and]
            · simp [mkCmp, l1, l2]
          | _ => simp [mkCmp, l1]
      · cases y with
        | none => simp [mkCmp, l1]
        | some y => cases y <;> simp [mkCmp, l1]
    | _ => rfl

def srcRow (n o m : Nat) : Option AObj → Option (Nat × Array Value)
  | some (.cells c _ _) => if o + n * m ≤ c.size then some (n, c.extract o (o + n * m)) else none
  | _ => none
theorem asource_row {h : AH} {b o n c m : Nat} (hn : (n == 0) = false) : asource h m (.slice (some ⟨b, o, none⟩) n c) = srcRow n o m h[b]? := by
  have h1 : n ≠ 0 := by simpa using hn
  simp only [asource, h1, if_false]
  generalize h[b]? = x
  cases x with
  | none => rfl
  | some x => cases x <;> rfl

theorem bytes_plain {A : Array Value} (h : A.all isByte = true) : A.all plain1 = true := by
  rw [Array.all_eq_true] at h ⊢
  intro i hi
  have := h i hi
  unfold isByte at this
  split at this
  · rename_i e; rw [e]; rfl
  · cases this
theorem fame_plain {A : Array Value} {s i : Int} (h : A.all isByte = true) : (fame A s i).all plain1 = true := by
  unfold fame
  rw [Array.all_append, bytes_plain h]; simp [plain1]

theorem fame_zblit {A c : Array Value} {s i : Int} (hA : A.size = 20) : blit (zeros c 22) 0 (fame A s i).toList = fame A s i := blit_all (by rw [fame_size hA]; simp [zeros])
theorem zeros_size22 {c : Array Value} : (zeros c 22).size = 22 := by simp [zeros]

/-- a slice over a new row of plain cells, which a temporary holds -/
theorem apost_row {P : Program} {h0 t : AH} {fn : Func} {R : Value → AH → Prop} {j k o len cap es : Nat} {c : Array Value} {rw : Bool} (hr : fn.results = #[.tmp j]) (l : List Value) (hl : l.getD j junk = .slice (some ⟨h0.length + k, o, none⟩) len cap)
    (ht : t[k]? = some (.cells c es rw)) (hp : c.all plain1 = true) (hR : R (.slice (some ⟨h0.length, o, none⟩) len cap) (h0 ++ [.cells c es rw])) : apost P h0 fn R .ret l.toArray (h0 ++ t) :=
  apost_slice (by rw [aresults_tmp hr, getD_lit, hl]) ht hp hR

/-- one plain result; nothing new -/
theorem apost_tmp0 {P : Program} {h0 : AH} {fn : Func} {R : Value → AH → Prop} {v : Value} {k : Nat} (hr : fn.results = #[.tmp k]) (hp : plainB v = true) (hR : R v h0) (l : List Value) (hl : l.getD k junk = v) : apost P h0 fn R .ret l.toArray h0 :=
  apost_plain (by rw [aresults_tmp hr, getD_lit, hl]) hp (keeps_refl _) hR

/-- one plain result that a cell holds -/
theorem apost_cell {P : Program} {h0 : AH} {fn : Func} {R : Value → AH → Prop} {v p : Value} {k : Nat} {ty : TypeId} (hr : fn.results = #[.cell k ty]) (hp : plainB v = true) (hR : R v h0) (l : List Value) (t : AH) (hl : l.getD k junk = p) (hv : aload P (h0 ++ t) ty p = some v) : apost P h0 fn R .ret l.toArray (h0 ++ t) :=
  apost_plain (by rw [aresults_cell hr, getD_lit, hl, hv]) hp (keeps_append _ _) hR

theorem cmpV_self (c : Array Value) : cmpV c c = 0 := by
  unfold cmpV Extern.BytealgCompare.cmp
  rw [List.find?_eq_none.2 (fun i _ => by simp)]
  simp
end Go.Am
set_option linter.unusedVariables false
set_option linter.unusedSimpArgs false
/- What is not needed any more is forgotten, at a loop's head. -/
namespace Go.Am
open Go

/-- rows of values, one renamed to the other -/
inductive Rens (σ : Nat → Nat) (L : Nat) : List Value → List Value → Prop
  | nil : Rens σ L [] []
  | cons {v1 v : Value} {l1 l : List Value} (h : VRen σ L v1 v) (r : Rens σ L l1 l) : Rens σ L (v1 :: l1) (v :: l)

theorem Rens.length {σ : Nat → Nat} {L : Nat} {l1 l : List Value} (h : Rens σ L l1 l) : l1.length = l.length := by
  induction h with
  | nil => rfl
  | cons _ _ ih => simp [ih]
theorem Rens.get {σ : Nat → Nat} {L : Nat} {l1 l : List Value} (h : Rens σ L l1 l) : ∀ i : Nat, VRen σ L (l1.getD i junk) (l.getD i junk) := by
  induction h with
  | nil => intro i; simp; exact .junk _
  | cons h _ ih =>
    intro i
    cases i with
    | zero => simpa using h
    | succ i => simpa using ih i

theorem Forget.list {h0 t t1 : AH} {l l1 : List Value} (js : List Nat) (hl : js.length = t1.length) (hnd : js.Nodup)
    (hobj : ∀ i o1, t1[i]? = some o1 → o1.alive = true → ∃ o, t[js.getD i i]? = some o ∧ ORen (pick h0.length js) (h0.length + t1.length) o1 o)
    (hv : Rens (pick h0.length js) (h0.length + t1.length) l1 l) : Forget h0 l.toArray (h0 ++ t) l1.toArray (h0 ++ t1) := by
  refine .inr ⟨pick h0.length js, GC.pick js hl hnd hobj, by simpa using hv.length, fun i => ?_⟩
  have e1 : l1.toArray.getD i junk = l1.getD i junk := by simp [Array.getD_eq_getD_getElem?, List.getD]
  have e2 : l.toArray.getD i junk = l.getD i junk := by simp [Array.getD_eq_getD_getElem?, List.getD]
  rw [e1, e2]
  simpa using hv.get i
end Go.Am
set_option linter.unusedVariables false
set_option linter.unusedSimpArgs false
/- Freezing: a block that nobody writes any more becomes a value. -/
namespace Go.Am
open Go

/-- a value that names no block -/
inductive Tree : Value → Prop
  | junk : Tree junk
  | plain (v : Value) (h : plain1 v = true) : Tree v
  | agg (xs : Array Value) (h : ∀ i : Nat, Tree (xs.getD i Am.junk)) : Tree (.agg xs)
  | tuple (xs : Array Value) (h : ∀ i : Nat, Tree (xs.getD i Am.junk)) : Tree (.tuple xs)
  | iface (t : TypeId) (v : Value) (h : Tree v) : Tree (.iface t v)
  | func (fn : Fn) (xs cs : Array Value) (hfn : Fn.plain fn = true) (h : ∀ i : Nat, Tree (xs.getD i Am.junk)) (k : ∀ i : Nat, Tree (cs.getD i Am.junk)) : Tree (.func fn xs cs)
  | fz (cs : Array Value) (n : Nat) (h : ∀ i : Nat, Tree (cs.getD i Am.junk)) : Tree (.func (.yield 0) cs #[.int .i64 n])
  | fp (cs : Array Value) (n : Nat) (h : ∀ i : Nat, Tree (cs.getD i Am.junk)) : Tree (.func (.yield 1) cs #[.int .i64 n])

theorem Tree.ren {σ : Nat → Nat} {L : Nat} {v : Value} (h : Tree v) : VRen σ L v v := by
  induction h with
  | junk => exact .junk _
  | plain v h => exact .plain v h
  | agg xs h ih => exact .agg xs xs rfl ih
  | tuple xs h ih => exact .tuple xs xs rfl ih
  | iface t v h ih => exact .iface t v v ih
  | func fn xs cs hfn h k ih1 ih2 => exact .func fn xs xs cs cs hfn rfl ih1 rfl ih2
  | fz cs n h ih => exact .fz cs cs n rfl ih
  | fp cs n h ih => exact .fp cs cs n rfl ih

/-- what a value becomes when blocks become values -/
inductive Rf (h h1 : AH) : Value → Value → Prop
  | same (v : Value) : Rf h h1 v v
  | junk (v : Value) : Rf h h1 v junk
  | slice (b o n cap es : Nat) (c c1 : Array Value) (rw : Bool) (hb : h[b]? = some (.cells c es rw)) (hd : h1[b]? = some .dead) (hle : o + c1.size ≤ c.size) (hn : n ≤ cap) (h0 : n = 0 → c1.size = 0)
      (hxy : ∀ i : Nat, i < c1.size → Rf h h1 (c.getD (o + i) Am.junk) (c1.getD i Am.junk)) : Rf h h1 (.slice (some ⟨b, o, none⟩) n cap) (.func (.yield 0) c1 #[.int .i64 n])
  | empty (b o cap : Nat) : Rf h h1 (.slice (some ⟨b, o, none⟩) 0 cap) (.func (.yield 0) #[] #[.int .i64 (0 : Nat)])
  | ptr (b o es : Nat) (c c1 : Array Value) (rw : Bool) (hb : h[b]? = some (.cells c es rw)) (hd : h1[b]? = some .dead) (hle : c1.size = c.size)
      (hxy : ∀ i : Nat, i < c1.size → Rf h h1 (c.getD i Am.junk) (c1.getD i Am.junk)) : Rf h h1 (.pointer (some ⟨b, o, none⟩)) (.func (.yield 1) c1 #[.int .i64 o])
  | agg (xs ys : Array Value) (hx : xs.size = ys.size) (hxy : ∀ i : Nat, Rf h h1 (xs.getD i Am.junk) (ys.getD i Am.junk)) : Rf h h1 (.agg xs) (.agg ys)
  | tuple (xs ys : Array Value) (hx : xs.size = ys.size) (hxy : ∀ i : Nat, Rf h h1 (xs.getD i Am.junk) (ys.getD i Am.junk)) : Rf h h1 (.tuple xs) (.tuple ys)
  | iface (t : TypeId) (v v1 : Value) (hv : Rf h h1 v v1) : Rf h h1 (.iface t v) (.iface t v1)
  | func (fn : Fn) (xs ys cs ds : Array Value) (hfn : Fn.plain fn = true) (hx : xs.size = ys.size) (hxy : ∀ i : Nat, Rf h h1 (xs.getD i Am.junk) (ys.getD i Am.junk))
      (hc : cs.size = ds.size) (hcd : ∀ i : Nat, Rf h h1 (cs.getD i Am.junk) (ds.getD i Am.junk)) : Rf h h1 (.func fn xs cs) (.func fn ys ds)

/-- what a heap becomes -/
structure HFz (h h1 : AH) : Prop where
  len : h1.length = h.length
  obj : ∀ (b : Nat) (o1 : AObj), h1[b]? = some o1 → o1.alive = true → h[b]? = some o1 ∨ ∃ (c c1 : Array Value) (es : Nat) (rw : Bool), h[b]? = some (.cells c es rw) ∧ o1 = .cells c1 es rw ∧ c1.size = c.size ∧ ∀ i : Nat, i < c.size → Rf h h1 (c.getD i Am.junk) (c1.getD i Am.junk)

theorem freeze_rel {P : Program} {f f1 : Emb} {h h1 : AH} {w : World} (hs : Sim P f h w) (hlen : h1.length = h.length) (hag : Emb.Agree h.length f f1)
    (hrom : ∀ (b : Nat) (c : Array Value) (es : Nat) (rw : Bool), h[b]? = some (.cells c es rw) → h1[b]? = some .dead → ∃ ds el fr, w.heap[(f b).blk]? = some (.cells ds el fr) ∧ f1.rom (f b).blk = some ds) :
    ∀ {v v1 : Value}, Rf h h1 v v1 → ∀ {v' : Value}, VRel f h.length v v' → VRel f1 h1.length v1 v' := by
  intro v v1 r
  have row : ∀ {b : Nat} {c : Array Value} {es : Nat} {rw : Bool}, h[b]? = some (.cells c es rw) → h1[b]? = some .dead → ∃ ds, f1.rom (f b).blk = some ds ∧ (f b).off + c.size ≤ ds.size ∧
      ∀ i : Nat, i < c.size → VRel f h.length (c.getD i Am.junk) (ds.getD ((f b).off + i) Am.junk) ∧ (ds.getD ((f b).off + i) Am.junk).oneCell' = true := by
    intro b c es rw hb hd
    obtain ⟨ds, el, fr, k1, k2⟩ := hrom b c es rw hb hd
    obtain ⟨ds', el', fr', g1, g2, g3⟩ := hs.held hb
    rw [k1] at g1
    cases g1
    exact ⟨ds, k2, g2, g3⟩
  induction r with
  | same v => intro v' hv; exact hv.mono (by omega) hag
  | junk v => intro v' hv; exact .junk _
  | slice b o n cap es c c1 rw hb hd hle hn h0 hxy ih =>
    intro v' hv
    obtain ⟨ds, k1, k2, k3⟩ := row hb hd
    rcases hv.slice_inv with ⟨c', rfl, hbL, hc⟩ | ⟨rfl, rfl, a', rfl, _⟩
    · refine .fz c1 n _ _ _ ds k1 (by omega) (Nat.le_trans hn hc.le) (fun i => ?_) (fun i hi => ?_)
      · by_cases hi : i < c1.size
        · rw [if_pos hi, Nat.add_assoc]
          exact ih i hi (k3 (o + i) (by omega)).1
        · rw [getD_ge i hi]; exact .junk _
      · rw [Nat.add_assoc]; exact (k3 (o + i) (by omega)).2
    · have : c1 = #[] := Array.eq_empty_of_size_eq_zero (h0 rfl)
      subst this
      exact .fz0 _ _
  | empty b o cap =>
    intro v' hv
    rcases hv.slice_inv with ⟨c', rfl, hbL, hc⟩ | ⟨_, _, a', rfl, _⟩
    · exact .fz0 _ _
    · exact .fz0 _ _
  | ptr b o es c c1 rw hb hd hle hxy ih =>
    intro v' hv
    obtain ⟨ds, k1, k2, k3⟩ := row hb hd
    obtain ⟨rfl, hbL⟩ := hv.ptr_inv
    refine .fp c1 o _ (f b).off _ ds k1 (by omega) rfl (fun i => ?_) (fun i hi => (k3 i (by omega)).2)
    by_cases hi : i < c1.size
    · rw [if_pos hi]
      exact ih i hi (k3 i (by omega)).1
    · rw [getD_ge i hi]; exact .junk _
  | agg xs ys hx hxy ih =>
    intro v' hv
    obtain ⟨zs, rfl, h2, h3⟩ := hv.agg_inv
    exact .agg ys zs (by omega) (fun i => ih i (h3 i).1) fun i => (h3 i).2
  | tuple xs ys hx hxy ih =>
    intro v' hv
    obtain ⟨zs, rfl, h2, h3⟩ := hv.tuple_inv
    exact .tuple ys zs (by omega) (fun i => ih i (h3 i))
  | iface t v v1 hv0 ih =>
    intro v' hv
    cases hv with
    | iface _ _ u hu => exact .iface t v1 u (ih hu)
  | func fn xs ys cs ds hfn hx hxy hc hcd ih1 ih2 =>
    intro v' hv
    cases hv with
    | func _ _ zs _ es hfn' hx' hxy' hc' hcd' => exact .func fn ys zs ds es hfn' (by omega) (fun i => ih1 i (hxy' i)) (by omega) (fun i => ih2 i (hcd' i))
    | fz => cases hfn
    | fz0 => cases hfn
    | bnil => cases hfn
    | fp => cases hfn

open Classical in
/-- the blocks that become values are known for ever -/
noncomputable def Emb.froze (f : Emb) (h h1 : AH) (w : World) : Emb :=
  ⟨f.img, fun r => if ∃ (b : Nat) (c : Array Value) (es : Nat) (rw : Bool), h[b]? = some (.cells c es rw) ∧ h1[b]? = some .dead ∧ (f b).blk = r then
    (match w.heap[r]? with | some (.cells ds _ _) => some ds | _ => f.rom r) else f.rom r⟩

open Classical in
theorem froze_agree {P : Program} {f : Emb} {h h1 : AH} {w : World} (hs : Sim P f h w) : Emb.Agree h.length f (f.froze h h1 w) := by
  refine ⟨fun _ _ => rfl, fun r ds e => ?_⟩
  show (if _ then _ else _) = _
  split
  · obtain ⟨⟨el, fr, k1⟩, _⟩ := hs.rom r ds e
    rw [k1]
  · exact e

open Classical in
theorem froze_sim {P : Program} {f : Emb} {h h1 : AH} {w : World} (hs : Sim P f h w) (hz : HFz h h1) : Sim P (f.froze h h1 w) h1 w ∧
    ∀ (b : Nat) (c : Array Value) (es : Nat) (rw : Bool), h[b]? = some (.cells c es rw) → h1[b]? = some .dead → ∃ ds el fr, w.heap[(f b).blk]? = some (.cells ds el fr) ∧ (f.froze h h1 w).rom (f b).blk = some ds := by
  have hrom : ∀ (b : Nat) (c : Array Value) (es : Nat) (rw : Bool), h[b]? = some (.cells c es rw) → h1[b]? = some .dead → ∃ ds el fr, w.heap[(f b).blk]? = some (.cells ds el fr) ∧ (f.froze h h1 w).rom (f b).blk = some ds := by
    intro b c es rw hb hd
    obtain ⟨ds, el, fr, g1, _⟩ := hs.held hb
    refine ⟨ds, el, fr, g1, ?_⟩
    show (if _ then _ else _) = _
    rw [if_pos ⟨b, c, es, rw, hb, hd, rfl⟩, g1]
  have hag := froze_agree (h1 := h1) hs
  have old : ∀ (b : Nat) (o1 : AObj), h1[b]? = some o1 → o1.alive = true → ∃ o, h[b]? = some o ∧ o.alive = true ∧ o.rw = o1.rw := by
    intro b o1 hb ha
    rcases hz.obj b o1 hb ha with h2 | ⟨c, c1, es, rw, h2, rfl, _⟩
    · exact ⟨o1, h2, ha, rfl⟩
    · exact ⟨_, h2, rfl, rfl⟩
  refine ⟨⟨fun b o1 hb ha => ?_, fun b b' o o' hb hb' ha ha' hrw hne => ?_, hs.glob, by rw [hz.len]; exact hs.size, fun r ds e => ?_, hs.laid, fun b o1 hb => ?_⟩, hrom⟩
  · rcases hz.obj b o1 hb ha with h2 | ⟨c, c1, es, rw, h2, rfl, h3, h4⟩
    · obtain ⟨o', k1, k2⟩ := hs.obj b o1 h2 ha
      exact ⟨o', k1, k2.mono (by rw [hz.len]; exact Nat.le_refl _) hag⟩
    · obtain ⟨o', k1, c', el, fr, rfl, k2, k3, k4, k5, k6, k7⟩ := hs.obj b _ h2 rfl
      refine ⟨_, k1, c', el, fr, rfl, by rw [h3]; exact k2, k3, k4, k5, k6, fun i hi => ⟨?_, (k7 i (by omega)).2⟩⟩
      exact freeze_rel hs hz.len hag hrom (h4 i (by omega)) (k7 i (by omega)).1
  · obtain ⟨p, q1, q2, q3⟩ := old b o hb ha
    obtain ⟨p', q1', q2', q3'⟩ := old b' o' hb' ha'
    exact hs.sep b b' p p' q1 q1' q2 q2' (by rw [q3]; exact hrw) hne
  · change (if _ then _ else _) = some ds at e
    split at e
    · rename_i hx
      obtain ⟨b, c, es, rw, hb, hd, rfl⟩ := hx
      obtain ⟨ds', el, fr, g1, _⟩ := hs.held hb
      rw [g1] at e
      cases e
      refine ⟨⟨el, fr, g1⟩, fun b' o' hb' hrw' => ?_⟩
      obtain ⟨p', q1', q2', q3'⟩ := old b' o' hb' (rw_alive hrw')
      have hne : b' ≠ b := fun e => by subst e; rw [hd] at hb'; cases hb'; cases hrw'
      exact hs.sep b' b p' _ q1' hb q2' rfl (by rw [q3']; exact hrw') hne
    · obtain ⟨g1, g2⟩ := hs.rom r ds e
      refine ⟨g1, fun b' o' hb' hrw' => ?_⟩
      obtain ⟨p', q1', q2', q3'⟩ := old b' o' hb' (rw_alive hrw')
      exact g2 b' p' q1' (by rw [q3']; exact hrw')
  · by_cases ha : o1.alive = true
    · rcases hz.obj b o1 hb ha with h2 | ⟨c, c1, es, rw, h2, rfl, h3, h4⟩
      · exact hs.ok b o1 h2
      · trivial
    · cases o1 <;> first | trivial | exact absurd rfl ha

theorem Eases.freeze {P : Program} {h0 : AH} {a a1 : Array Value} {h h1 : AH} (hz : HFz h h1) (hsz : a1.size = a.size) (hv : ∀ i : Nat, Rf h h1 (a.getD i junk) (a1.getD i junk)) : Eases P h0 a h a1 h1 := by
  intro f0 w0 f a' w s0 g
  obtain ⟨k1, k2⟩ := froze_sim (h1 := h1) g.sim hz
  have hag := froze_agree (h1 := h1) g.sim
  refine ⟨f.froze h h1 w, k1, ⟨hsz.trans g.tm.1, fun i => freeze_rel g.sim hz.len hag k2 (hv i) (g.tm.2 i)⟩, g.df.ren fun b o hb hrw => ?_, g.keep, fun b o hb hrw => ?_, g.agree.trans hag g.len, by rw [hz.len]; exact g.len⟩
  · rcases hz.obj b o hb (rw_alive hrw) with h2 | ⟨c, c1, es, rw, h2, rfl, _⟩
    · exact ⟨b, o, h2, hrw, rfl⟩
    · exact ⟨b, _, h2, hrw, rfl⟩
  · have : ∃ o2, h[b]? = some o2 ∧ o2.rw = true := by
      rcases hz.obj b o hb (rw_alive hrw) with h2 | ⟨c, c1, es, rw, h2, rfl, _⟩
      · exact ⟨o, h2, hrw⟩
      · exact ⟨_, h2, hrw⟩
    obtain ⟨o2, h2, h3⟩ := this
    exact g.own b o2 h2 h3

/-- all that is new becomes a value -/
def dieNew (h0 h : AH) : AH := h0 ++ List.replicate (h.length - h0.length) .dead

theorem dieNew_get {h0 h : AH} {b : Nat} {o : AObj} (hb : (dieNew h0 h)[b]? = some o) (ha : o.alive = true) : b < h0.length ∧ h0[b]? = some o := by
  unfold dieNew at hb
  by_cases hl : b < h0.length
  · rw [List.getElem?_append_left hl] at hb; exact ⟨hl, hb⟩
  · rw [List.getElem?_append_right (by omega), List.getElem?_replicate] at hb
    split at hb
    · cases hb; cases ha
    · cases hb

theorem dieNew_dead {h0 h : AH} {b : Nat} (h1 : h0.length ≤ b) (h2 : b < h.length) : (dieNew h0 h)[b]? = some .dead := by
  unfold dieNew
  rw [List.getElem?_append_right h1, List.getElem?_replicate, if_pos (by omega)]

theorem Eases.reify {P : Program} {h0 h : AH} {v v1 : Value} (hk : keeps h0 h) (hr : Rf h (dieNew h0 h) v v1) (ht : Tree v1) : Eases P h0 #[v] h #[v1] h0 := by
  refine Eases.trans (a1 := #[v1]) (h1 := dieNew h0 h) (Eases.freeze ⟨by have := hk.1; simp [dieNew]; omega, fun b o1 hb ha => ?_⟩ rfl fun i => ?_) (ForgetV.eases (.inr ⟨id, GC.drop ?_ ?_, ht.ren⟩))
  · obtain ⟨h1, h2⟩ := dieNew_get hb ha
    exact .inl (by rw [hk.2 b h1]; exact h2)
  · cases i with
    | zero => exact hr
    | succ i => simp [Array.getD]; exact .same _
  · simp [dieNew]
  · intro b hb
    simp [dieNew, List.getElem?_append_left hb]

theorem apost_tree {P : Program} {h0 h : AH} {fn : Func} {R : Value → AH → Prop} {a : Array Value} {v v1 : Value} (hv : aresults P fn a h = some v) (hk : keeps h0 h) (hr : Rf h (dieNew h0 h) v v1) (ht : Tree v1) (hR : R v1 h0) :
    apost P h0 fn R .ret a h := ⟨v, v1, h0, hv, .reify hk hr ht, hR⟩
theorem apost_tree_n {P : Program} {h0 h : AH} {fn : Func} {R : Value → AH → Prop} {a : Array Value} {v v1 : Value} (hv : aresults P fn a h = some v) (hk : keeps h0 h) (hr : Rf h (dieNew h0 h) v v1) (ht : Tree v1) (hR : R v1 h0) :
    apost P h0 fn R .normal a h := ⟨v, v1, h0, hv, .reify hk hr ht, hR⟩
end Go.Am
