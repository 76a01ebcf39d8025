import Derived.Test.YtogefnepdjkioaaAm26
set_option linter.unusedVariables false
set_option linter.unusedSimpArgs false
/- Freezing: a block that nobody writes any more becomes a value. -/
namespace Go.Am
open Go

/-- a value that names no block -/
inductive Tree : Value → Prop
  | junk : Tree junk
  | plain (v : Value) (h : plain1 v = true) : Tree v
  | agg (xs : Array Value) (h : ∀ i : Nat, Tree (xs.getD i Am.junk)) : Tree (.agg xs)
  | tuple (xs : Array Value) (h : ∀ i : Nat, Tree (xs.getD i Am.junk)) : Tree (.tuple xs)
  | iface (t : TypeId) (v : Value) (h : Tree v) : Tree (.iface t v)
  | func (fn : Fn) (xs cs : Array Value) (hfn : Fn.plain fn = true) (h : ∀ i : Nat, Tree (xs.getD i Am.junk)) (k : ∀ i : Nat, Tree (cs.getD i Am.junk)) : Tree (.func fn xs cs)
  | fz (cs : Array Value) (n : Nat) (h : ∀ i : Nat, Tree (cs.getD i Am.junk)) : Tree (.func (.yield 0) cs #[.int .i64 n])
  | fp (cs : Array Value) (n : Nat) (h : ∀ i : Nat, Tree (cs.getD i Am.junk)) : Tree (.func (.yield 1) cs #[.int .i64 n])

theorem Tree.ren {σ : Nat → Nat} {L : Nat} {v : Value} (h : Tree v) : VRen σ L v v := by
  induction h with
  | junk => exact .junk _
  | plain v h => exact .plain v h
  | agg xs h ih => exact .agg xs xs rfl ih
  | tuple xs h ih => exact .tuple xs xs rfl ih
  | iface t v h ih => exact .iface t v v ih
  | func fn xs cs hfn h k ih1 ih2 => exact .func fn xs xs cs cs hfn rfl ih1 rfl ih2
  | fz cs n h ih => exact .fz cs cs n rfl ih
  | fp cs n h ih => exact .fp cs cs n rfl ih

/-- what a value becomes when blocks become values -/
inductive Rf (h h1 : AH) : Value → Value → Prop
  | same (v : Value) : Rf h h1 v v
  | junk (v : Value) : Rf h h1 v junk
  | slice (b o n cap es : Nat) (c c1 : Array Value) (rw : Bool) (hb : h[b]? = some (.cells c es rw)) (hd : h1[b]? = some .dead) (hle : o + c1.size ≤ c.size) (hn : n ≤ cap) (h0 : n = 0 → c1.size = 0)
      (hxy : ∀ i : Nat, i < c1.size → Rf h h1 (c.getD (o + i) Am.junk) (c1.getD i Am.junk)) : Rf h h1 (.slice (some ⟨b, o, none⟩) n cap) (.func (.yield 0) c1 #[.int .i64 n])
  | empty (b o cap : Nat) : Rf h h1 (.slice (some ⟨b, o, none⟩) 0 cap) (.func (.yield 0) #[] #[.int .i64 (0 : Nat)])
  | ptr (b o es : Nat) (c c1 : Array Value) (rw : Bool) (hb : h[b]? = some (.cells c es rw)) (hd : h1[b]? = some .dead) (hle : c1.size = c.size)
      (hxy : ∀ i : Nat, i < c1.size → Rf h h1 (c.getD i Am.junk) (c1.getD i Am.junk)) : Rf h h1 (.pointer (some ⟨b, o, none⟩)) (.func (.yield 1) c1 #[.int .i64 o])
  | agg (xs ys : Array Value) (hx : xs.size = ys.size) (hxy : ∀ i : Nat, Rf h h1 (xs.getD i Am.junk) (ys.getD i Am.junk)) : Rf h h1 (.agg xs) (.agg ys)
  | tuple (xs ys : Array Value) (hx : xs.size = ys.size) (hxy : ∀ i : Nat, Rf h h1 (xs.getD i Am.junk) (ys.getD i Am.junk)) : Rf h h1 (.tuple xs) (.tuple ys)
  | iface (t : TypeId) (v v1 : Value) (hv : Rf h h1 v v1) : Rf h h1 (.iface t v) (.iface t v1)
  | func (fn : Fn) (xs ys cs ds : Array Value) (hfn : Fn.plain fn = true) (hx : xs.size = ys.size) (hxy : ∀ i : Nat, Rf h h1 (xs.getD i Am.junk) (ys.getD i Am.junk))
      (hc : cs.size = ds.size) (hcd : ∀ i : Nat, Rf h h1 (cs.getD i Am.junk) (ds.getD i Am.junk)) : Rf h h1 (.func fn xs cs) (.func fn ys ds)

/-- what a heap becomes -/
structure HFz (h h1 : AH) : Prop where
  len : h1.length = h.length
  obj : ∀ (b : Nat) (o1 : AObj), h1[b]? = some o1 → o1.alive = true → h[b]? = some o1 ∨ ∃ (c c1 : Array Value) (es : Nat) (rw : Bool), h[b]? = some (.cells c es rw) ∧ o1 = .cells c1 es rw ∧ c1.size = c.size ∧ ∀ i : Nat, i < c.size → Rf h h1 (c.getD i Am.junk) (c1.getD i Am.junk)

theorem freeze_rel {P : Program} {f f1 : Emb} {h h1 : AH} {w : World} (hs : Sim P f h w) (hlen : h1.length = h.length) (hag : Emb.Agree h.length f f1)
    (hrom : ∀ (b : Nat) (c : Array Value) (es : Nat) (rw : Bool), h[b]? = some (.cells c es rw) → h1[b]? = some .dead → ∃ ds el fr, w.heap[(f b).blk]? = some (.cells ds el fr) ∧ f1.rom (f b).blk = some ds) :
    ∀ {v v1 : Value}, Rf h h1 v v1 → ∀ {v' : Value}, VRel f h.length v v' → VRel f1 h1.length v1 v' := by
  intro v v1 r
  have row : ∀ {b : Nat} {c : Array Value} {es : Nat} {rw : Bool}, h[b]? = some (.cells c es rw) → h1[b]? = some .dead → ∃ ds, f1.rom (f b).blk = some ds ∧ (f b).off + c.size ≤ ds.size ∧
      ∀ i : Nat, i < c.size → VRel f h.length (c.getD i Am.junk) (ds.getD ((f b).off + i) Am.junk) ∧ (ds.getD ((f b).off + i) Am.junk).oneCell' = true := by
    intro b c es rw hb hd
    obtain ⟨ds, el, fr, k1, k2⟩ := hrom b c es rw hb hd
    obtain ⟨ds', el', fr', g1, g2, g3⟩ := hs.held hb
    rw [k1] at g1
    cases g1
    exact ⟨ds, k2, g2, g3⟩
  induction r with
  | same v => intro v' hv; exact hv.mono (by omega) hag
  | junk v => intro v' hv; exact .junk _
  | slice b o n cap es c c1 rw hb hd hle hn h0 hxy ih =>
    intro v' hv
    obtain ⟨ds, k1, k2, k3⟩ := row hb hd
    rcases hv.slice_inv with ⟨c', rfl, hbL, hc⟩ | ⟨rfl, rfl, a', rfl, _⟩
    · refine .fz c1 n _ _ _ ds k1 (by omega) (Nat.le_trans hn hc.le) (fun i => ?_) (fun i hi => ?_)
      · by_cases hi : i < c1.size
        · rw [if_pos hi, Nat.add_assoc]
          exact ih i hi (k3 (o + i) (by omega)).1
        · rw [getD_ge i hi]; exact .junk _
      · rw [Nat.add_assoc]; exact (k3 (o + i) (by omega)).2
    · have : c1 = #[] := Array.eq_empty_of_size_eq_zero (h0 rfl)
      subst this
      exact .fz0 _ _
  | empty b o cap =>
    intro v' hv
    rcases hv.slice_inv with ⟨c', rfl, hbL, hc⟩ | ⟨_, _, a', rfl, _⟩
    · exact .fz0 _ _
    · exact .fz0 _ _
  | ptr b o es c c1 rw hb hd hle hxy ih =>
    intro v' hv
    obtain ⟨ds, k1, k2, k3⟩ := row hb hd
    obtain ⟨rfl, hbL⟩ := hv.ptr_inv
    refine .fp c1 o _ (f b).off _ ds k1 (by omega) rfl (fun i => ?_) (fun i hi => (k3 i (by omega)).2)
    by_cases hi : i < c1.size
    · rw [if_pos hi]
      exact ih i hi (k3 i (by omega)).1
    · rw [getD_ge i hi]; exact .junk _
  | agg xs ys hx hxy ih =>
    intro v' hv
    obtain ⟨zs, rfl, h2, h3⟩ := hv.agg_inv
    exact .agg ys zs (by omega) (fun i => ih i (h3 i).1) fun i => (h3 i).2
  | tuple xs ys hx hxy ih =>
    intro v' hv
    obtain ⟨zs, rfl, h2, h3⟩ := hv.tuple_inv
    exact .tuple ys zs (by omega) (fun i => ih i (h3 i))
  | iface t v v1 hv0 ih =>
    intro v' hv
    cases hv with
    | iface _ _ u hu => exact .iface t v1 u (ih hu)
  | func fn xs ys cs ds hfn hx hxy hc hcd ih1 ih2 =>
    intro v' hv
    cases hv with
    | func _ _ zs _ es hfn' hx' hxy' hc' hcd' => exact .func fn ys zs ds es hfn' (by omega) (fun i => ih1 i (hxy' i)) (by omega) (fun i => ih2 i (hcd' i))
    | fz => cases hfn
    | fz0 => cases hfn
    | fp => cases hfn

open Classical in
/-- the blocks that become values are known for ever -/
noncomputable def Emb.froze (f : Emb) (h h1 : AH) (w : World) : Emb :=
  ⟨f.img, fun r => if ∃ (b : Nat) (c : Array Value) (es : Nat) (rw : Bool), h[b]? = some (.cells c es rw) ∧ h1[b]? = some .dead ∧ (f b).blk = r then
    (match w.heap[r]? with | some (.cells ds _ _) => some ds | _ => f.rom r) else f.rom r⟩

open Classical in
theorem froze_agree {P : Program} {f : Emb} {h h1 : AH} {w : World} (hs : Sim P f h w) : Emb.Agree h.length f (f.froze h h1 w) := by
  refine ⟨fun _ _ => rfl, fun r ds e => ?_⟩
  show (if _ then _ else _) = _
  split
  · obtain ⟨⟨el, fr, k1⟩, _⟩ := hs.rom r ds e
    rw [k1]
  · exact e

open Classical in
theorem froze_sim {P : Program} {f : Emb} {h h1 : AH} {w : World} (hs : Sim P f h w) (hz : HFz h h1) : Sim P (f.froze h h1 w) h1 w ∧
    ∀ (b : Nat) (c : Array Value) (es : Nat) (rw : Bool), h[b]? = some (.cells c es rw) → h1[b]? = some .dead → ∃ ds el fr, w.heap[(f b).blk]? = some (.cells ds el fr) ∧ (f.froze h h1 w).rom (f b).blk = some ds := by
  have hrom : ∀ (b : Nat) (c : Array Value) (es : Nat) (rw : Bool), h[b]? = some (.cells c es rw) → h1[b]? = some .dead → ∃ ds el fr, w.heap[(f b).blk]? = some (.cells ds el fr) ∧ (f.froze h h1 w).rom (f b).blk = some ds := by
    intro b c es rw hb hd
    obtain ⟨ds, el, fr, g1, _⟩ := hs.held hb
    refine ⟨ds, el, fr, g1, ?_⟩
    show (if _ then _ else _) = _
    rw [if_pos ⟨b, c, es, rw, hb, hd, rfl⟩, g1]
  have hag := froze_agree (h1 := h1) hs
  have old : ∀ (b : Nat) (o1 : AObj), h1[b]? = some o1 → o1.alive = true → ∃ o, h[b]? = some o ∧ o.alive = true ∧ o.rw = o1.rw := by
    intro b o1 hb ha
    rcases hz.obj b o1 hb ha with h2 | ⟨c, c1, es, rw, h2, rfl, _⟩
    · exact ⟨o1, h2, ha, rfl⟩
    · exact ⟨_, h2, rfl, rfl⟩
  refine ⟨⟨fun b o1 hb ha => ?_, fun b b' o o' hb hb' ha ha' hrw hne => ?_, hs.glob, by rw [hz.len]; exact hs.size, fun r ds e => ?_, hs.laid, fun b o1 hb => ?_⟩, hrom⟩
  · rcases hz.obj b o1 hb ha with h2 | ⟨c, c1, es, rw, h2, rfl, h3, h4⟩
    · obtain ⟨o', k1, k2⟩ := hs.obj b o1 h2 ha
      exact ⟨o', k1, k2.mono (by rw [hz.len]; exact Nat.le_refl _) hag⟩
    · obtain ⟨o', k1, c', el, fr, rfl, k2, k3, k4, k5, k6, k7⟩ := hs.obj b _ h2 rfl
      refine ⟨_, k1, c', el, fr, rfl, by rw [h3]; exact k2, k3, k4, k5, k6, fun i hi => ⟨?_, (k7 i (by omega)).2⟩⟩
      exact freeze_rel hs hz.len hag hrom (h4 i (by omega)) (k7 i (by omega)).1
  · obtain ⟨p, q1, q2, q3⟩ := old b o hb ha
    obtain ⟨p', q1', q2', q3'⟩ := old b' o' hb' ha'
    exact hs.sep b b' p p' q1 q1' q2 q2' (by rw [q3]; exact hrw) hne
  · change (if _ then _ else _) = some ds at e
    split at e
    · rename_i hx
      obtain ⟨b, c, es, rw, hb, hd, rfl⟩ := hx
      obtain ⟨ds', el, fr, g1, _⟩ := hs.held hb
      rw [g1] at e
      cases e
      refine ⟨⟨el, fr, g1⟩, fun b' o' hb' hrw' => ?_⟩
      obtain ⟨p', q1', q2', q3'⟩ := old b' o' hb' (rw_alive hrw')
      have hne : b' ≠ b := fun e => by subst e; rw [hd] at hb'; cases hb'; cases hrw'
      exact hs.sep b' b p' _ q1' hb q2' rfl (by rw [q3']; exact hrw') hne
    · obtain ⟨g1, g2⟩ := hs.rom r ds e
      refine ⟨g1, fun b' o' hb' hrw' => ?_⟩
      obtain ⟨p', q1', q2', q3'⟩ := old b' o' hb' (rw_alive hrw')
      exact g2 b' p' q1' (by rw [q3']; exact hrw')
  · by_cases ha : o1.alive = true
    · rcases hz.obj b o1 hb ha with h2 | ⟨c, c1, es, rw, h2, rfl, h3, h4⟩
      · exact hs.ok b o1 h2
      · trivial
    · cases o1 <;> first | trivial | exact absurd rfl ha

theorem Eases.freeze {P : Program} {h0 : AH} {a a1 : Array Value} {h h1 : AH} (hz : HFz h h1) (hsz : a1.size = a.size) (hv : ∀ i : Nat, Rf h h1 (a.getD i junk) (a1.getD i junk)) : Eases P h0 a h a1 h1 := by
  intro f0 w0 f a' w s0 g
  obtain ⟨k1, k2⟩ := froze_sim (h1 := h1) g.sim hz
  have hag := froze_agree (h1 := h1) g.sim
  refine ⟨f.froze h h1 w, k1, ⟨hsz.trans g.tm.1, fun i => freeze_rel g.sim hz.len hag k2 (hv i) (g.tm.2 i)⟩, g.df, g.keep, fun b o hb hrw => ?_, g.agree.trans hag g.len, by rw [hz.len]; exact g.len⟩
  have : ∃ o2, h[b]? = some o2 ∧ o2.rw = true := by
    rcases hz.obj b o hb (rw_alive hrw) with h2 | ⟨c, c1, es, rw, h2, rfl, _⟩
    · exact ⟨o, h2, hrw⟩
    · exact ⟨_, h2, hrw⟩
  obtain ⟨o2, h2, h3⟩ := this
  exact g.own b o2 h2 h3

/-- all that is new becomes a value -/
def dieNew (h0 h : AH) : AH := h0 ++ List.replicate (h.length - h0.length) .dead

theorem dieNew_get {h0 h : AH} {b : Nat} {o : AObj} (hb : (dieNew h0 h)[b]? = some o) (ha : o.alive = true) : b < h0.length ∧ h0[b]? = some o := by
  unfold dieNew at hb
  by_cases hl : b < h0.length
  · rw [List.getElem?_append_left hl] at hb; exact ⟨hl, hb⟩
  · rw [List.getElem?_append_right (by omega), List.getElem?_replicate] at hb
    split at hb
    · cases hb; cases ha
    · cases hb

theorem dieNew_dead {h0 h : AH} {b : Nat} (h1 : h0.length ≤ b) (h2 : b < h.length) : (dieNew h0 h)[b]? = some .dead := by
  unfold dieNew
  rw [List.getElem?_append_right h1, List.getElem?_replicate, if_pos (by omega)]

theorem Eases.reify {P : Program} {h0 h : AH} {v v1 : Value} (hk : keeps h0 h) (hr : Rf h (dieNew h0 h) v v1) (ht : Tree v1) : Eases P h0 #[v] h #[v1] h0 := by
  refine Eases.trans (a1 := #[v1]) (h1 := dieNew h0 h) (Eases.freeze ⟨by have := hk.1; simp [dieNew]; omega, fun b o1 hb ha => ?_⟩ rfl fun i => ?_) (ForgetV.eases (.inr ⟨id, GC.drop ?_ ?_, ht.ren⟩))
  · obtain ⟨h1, h2⟩ := dieNew_get hb ha
    exact .inl (by rw [hk.2 b h1]; exact h2)
  · cases i with
    | zero => exact hr
    | succ i => simp [Array.getD]; exact .same _
  · simp [dieNew]
  · intro b hb
    simp [dieNew, List.getElem?_append_left hb]

theorem apost_tree {P : Program} {h0 h : AH} {fn : Func} {R : Value → AH → Prop} {a : Array Value} {v v1 : Value} (hv : aresults P fn a h = some v) (hk : keeps h0 h) (hr : Rf h (dieNew h0 h) v v1) (ht : Tree v1) (hR : R v1 h0) :
    apost P h0 fn R .ret a h := ⟨v, v1, h0, hv, .reify hk hr ht, hR⟩
theorem apost_tree_n {P : Program} {h0 h : AH} {fn : Func} {R : Value → AH → Prop} {a : Array Value} {v v1 : Value} (hv : aresults P fn a h = some v) (hk : keeps h0 h) (hr : Rf h (dieNew h0 h) v v1) (ht : Tree v1) (hR : R v1 h0) :
    apost P h0 fn R .normal a h := ⟨v, v1, h0, hv, .reify hk hr ht, hR⟩
end Go.Am
