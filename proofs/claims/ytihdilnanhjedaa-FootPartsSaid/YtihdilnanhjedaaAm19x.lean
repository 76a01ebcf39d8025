import Derived.Test.YtihdilnanhjedaaAm16x
import Derived.ProofKit
import Derived.OpenShut
set_option linter.unusedVariables false
set_option linter.unusedSimpArgs false
/- Booleans at a gate; the smaller and the greater one. -/
namespace Go.Am
open Go
theorem beq_ft : (false == true) = false := rfl
theorem beq_tf : (true == false) = false := rfl
theorem beq_ff : (false == false) = true := rfl
theorem beq_tt : (true == true) = true := rfl

section
variable {P : Program} {ops : Array Oper} {Q : Exit → Array Value → AH → Prop} {rest : List Oper} {a : Array Value} {h : AH} {ρ : Operand → Value} {dst : Option Tmp} {ty : TypeId} {pos : String} {after : Array Edge} {guard : Option (Nat × Bool)}
def amin (P : Program) (ts : Array TypeId) (ty : TypeId) (x y : Value) : Option Value := if (#[x, y].all plainB) = true then plainOut (pureRun P (Builtin.min_ ts ty #[x, y])) else none
/-- two whole numbers -/
theorem amin_int {ts : Array TypeId} {k k2 : IntKind} {a b : Int} : amin P ts ty (.int k a) (.int k2 b) = some (.int k (if b < a then b else a)) := by
  have e1 : (#[Value.int k a, Value.int k2 b].all plainB) = true := by simp [plainB, plain1]
  have e2 : Builtin.min_ ts ty #[Value.int k a, Value.int k2 b] = pure (.int k (if b < a then b else a)) := by simp [Builtin.min_, Builtin.min2]
  unfold amin
  rw [if_pos e1, e2]; rfl
theorem aop_min {x y : Operand} {ts : Array TypeId} : aop P ρ h ⟨dst, .call ⟨.builtin .min, #[x, y], ts⟩, ty, pos, after, guard⟩ = aval h (amin P ts ty (ρ x) (ρ y)) := by
  simp only [aop, abuiltin, List.map_toArray, List.map_cons, List.map_nil, amin]
  split <;> rfl
def amax (P : Program) (ts : Array TypeId) (ty : TypeId) (x y : Value) : Option Value := if (#[x, y].all plainB) = true then plainOut (pureRun P (Builtin.max_ ts ty #[x, y])) else none
/-- two whole numbers -/
theorem amax_int {ts : Array TypeId} {k k2 : IntKind} {a b : Int} : amax P ts ty (.int k a) (.int k2 b) = some (.int k (if b > a then b else a)) := by
  have e1 : (#[Value.int k a, Value.int k2 b].all plainB) = true := by simp [plainB, plain1]
  have e2 : Builtin.max_ ts ty #[Value.int k a, Value.int k2 b] = pure (.int k (if b > a then b else a)) := by simp [Builtin.max_, Builtin.max2]
  unfold amax
  rw [if_pos e1, e2]; rfl
theorem aop_max {x y : Operand} {ts : Array TypeId} : aop P ρ h ⟨dst, .call ⟨.builtin .max, #[x, y], ts⟩, ty, pos, after, guard⟩ = aval h (amax P ts ty (ρ x) (ρ y)) := by
  simp only [aop, abuiltin, List.map_toArray, List.map_cons, List.map_nil, amax]
  split <;> rfl
end

section
variable {P : Program} {ops : Array Oper} {Q : Exit → Array Value → AH → Prop} {rest : List Oper} {a : Array Value} {h H0 : AH} {dst : Option Tmp} {o : Oper} {F : FuncId} {args : Array Value}
/-- a call whose contract is known -/
theorem astep_calls {R : Value → AH → Prop} (hc : ACalls P F args h R) (hn : ∀ v h1, R v h1 → awl P ops Q rest (aput a dst v) h1) : astep P ops Q rest dst a h (some (.enter F args)) := ⟨R, hc, hn⟩
/-- a call that tells one value and leaves all as it was -/
theorem astep_call {v : Value} {h2 : AH} (hc : ACalls P F args h (fun u h' => u = v ∧ h' = h2)) (hn : awl P ops Q rest (aput a dst v) h2) : astep P ops Q rest dst a h (some (.enter F args)) :=
  ⟨_, hc, fun _ _ e => by obtain ⟨rfl, rfl⟩ := e; exact hn⟩
theorem dstep_calls {R : Value → AH → Prop} (hc : ACalls P F args h R) (hn : ∀ v h1, R v h1 → Pres H0 h1 ∧ awd P ops H0 Q rest (aput a o.dst v) h1) (hcm : Calm P ops F args h R := by exact .inl rfl) : dstep P ops H0 Q rest o a h (some (.enter F args)) := ⟨R, hc, hcm, hn⟩
theorem dstep_call {v : Value} {h2 : AH} (hc : ACalls P F args h (fun u h' => u = v ∧ h' = h2)) (hp : Pres H0 h2) (hn : awd P ops H0 Q rest (aput a o.dst v) h2) (hcm : Calm P ops F args h (fun u h' => u = v ∧ h' = h2) := by exact .inl rfl) : dstep P ops H0 Q rest o a h (some (.enter F args)) :=
  ⟨_, hc, hcm, fun _ _ e => by obtain ⟨rfl, rfl⟩ := e; exact ⟨hp, hn⟩⟩
/-- a call that leaves the heap alone, where something new is made at any time -/
theorem dstep_callA {v : Value} (hc : ∀ x : AH, ACalls P F args (h ++ x) (fun u h' => u = v ∧ h' = h ++ x)) (hp : Pres H0 h) (hn : awd P ops H0 Q rest (aput a o.dst v) h) : dstep P ops H0 Q rest o a h (some (.enter F args)) := by
  have hc0 := hc []
  rw [List.append_nil] at hc0
  exact ⟨_, hc0, .inr ⟨fun u h1 e => e.2, fun x => (hc x).mono fun u h1 e => ⟨⟨e.1, rfl⟩, e.2⟩⟩, fun _ _ e => by obtain ⟨rfl, rfl⟩ := e; exact ⟨hp, hn⟩⟩
theorem pres_refl : Pres H0 H0 := fun _ _ => rfl
theorem pres_append (l : AH) : Pres H0 (H0 ++ l) := fun _ hb => List.getElem?_append_left hb
end

/-! numbers -/
theorem bits_u8 : IntKind.u8.bits = 8 := rfl
theorem bits_u16 : IntKind.u16.bits = 16 := rfl
theorem bits_u32 : IntKind.u32.bits = 32 := rfl
theorem bits_u64 : IntKind.u64.bits = 64 := rfl
theorem bits_i64 : IntKind.i64.bits = 64 := rfl
theorem bits_i32 : IntKind.i32.bits = 32 := rfl
theorem wrap_i64_of (n : Int) (h0 : -9223372036854775808 ≤ n) (h1 : n < 9223372036854775808) : IntKind.i64.wrap n = n := by
  unfold IntKind.wrap
  simp only [IntKind.bits, IntKind.signed]
  first | omega | (simp; omega) | (split <;> omega)
theorem cast0 : ((0 : Nat) : Int) = 0 := rfl
theorem cast1 : ((1 : Nat) : Int) = 1 := rfl

/-! rows that are written -/
theorem blit_all {c d : Array Value} (h : c.size = d.size) : blit c 0 d.toList = d := by rw [blit_whole _ _ (by simp [h])]
theorem blit_one {c : Array Value} {k : Nat} {v : Value} : blit c k #[v].toList = c.setIfInBounds k v := rfl
theorem blit_one' {c : Array Value} {k : Nat} {v : Value} : blit c k [v] = c.setIfInBounds k v := rfl


/-- one plain result that a temporary holds -/
theorem apost_tmp {P : Program} {h0 : AH} {fn : Func} {R : Value → AH → Prop} {v : Value} {k : Nat} (hr : fn.results = #[.tmp k]) (hp : plainB v = true) (hR : R v h0) (l : List Value) (t : AH) (hl : l.getD k junk = v) : apost P h0 fn R .ret l.toArray (h0 ++ t) :=
  apost_plain (by rw [aresults_tmp hr, getD_lit, hl]) hp (keeps_append _ _) hR
end Go.Am
set_option linter.unusedVariables false
set_option linter.unusedSimpArgs false
/- From what is read of an argument to an abstract value. -/
namespace Go.Am
open Go

/-- cells that are told of alone, and rows of such -/
def okLeaf (P : Program) : Nat → TypeId → Bool
  | 0, _ => false
  | m + 1, t =>
    match P.underlying t with
    | some .bool | some (.int _) | some .string => true
    | some (.slice e) => match flat P 8 e with
      | some l => l.length != 0 && l.length == P.cellsOf e && l.all (okLeaf P m)
      | none => false
    | _ => false

/-- what is known of a cell that came in: all of it, as a value -/
inductive TLeaf (P : Program) : TypeId → Value → Prop
  | bool {t : TypeId} (b : Bool) (hu : P.underlying t = some .bool) : TLeaf P t (.bool b)
  | int {t : TypeId} {k : IntKind} (n : Int) (hu : P.underlying t = some (.int k)) (hw : (Lit.int k n).wf = true) : TLeaf P t (.int k n)
  | string {t : TypeId} (s : ByteArray) (hu : P.underlying t = some .string) (hs : s.size ≤ maxLen) : TLeaf P t (.string s)
  | nil {t e : TypeId} (hu : P.underlying t = some (.slice e)) : TLeaf P t (.slice none 0 0)
  | slice {t e : TypeId} (l : List TypeId) (len : Nat) (c : Array Value) (hu : P.underlying t = some (.slice e)) (hl : flat P 8 e = some l) (he : P.cellsOf e = l.length) (h0 : l.length ≠ 0) (hm : len ≤ maxLen)
      (hc : c.size = len * l.length) (hall : ∀ i j, i < len → j < l.length → TLeaf P (l.getD j 0) (c.getD (i * l.length + j) junk)) : TLeaf P t (fz c len)

variable {H : Type} {enc : TypeId × Value → H} {P : Program} {w : World} {base : Nat} {spare : Nat → Bool} {held : Bool}

/-- what is read of one cell -/
def LeafAt (enc : TypeId × Value → H) (P : Program) (w : World) (base : Nat) (spare : Nat → Bool) (held : Bool) (N : Nat) (cs : List Value) (i : Nat) (u : TypeId) : Prop :=
  ∃ c n x, cs[i]? = some c ∧ n ≤ N ∧ DataW.trod enc P w base spare held n u [c] = some x

theorem LeafAt.up {N N' : Nat} (hN : N ≤ N') {cs : List Value} {i : Nat} {u : TypeId} (h : LeafAt enc P w base spare held N cs i u) : LeafAt enc P w base spare held N' cs i u :=
  let ⟨c, n, x, h1, h2, h3⟩ := h; ⟨c, n, x, h1, Nat.le_trans h2 hN, h3⟩

theorem LeafAt.piece {N : Nat} {cs : List Value} {o m i : Nat} {u : TypeId} (h : LeafAt enc P w base spare held N ((cs.drop o).take m) i u) : LeafAt enc P w base spare held N cs (o + i) u := by
  obtain ⟨c, n, x, h1, h2, h3⟩ := h
  refine ⟨c, n, x, ?_, h2, h3⟩
  rw [List.getElem?_take] at h1
  split at h1
  · rw [List.getElem?_drop] at h1; exact h1
  · cases h1

theorem trod_flat : ∀ (m : Nat) (n : Nat) (t : TypeId) (cs : List Value) (x : DataW H × List MemPlace) (ts : List TypeId), DataW.trod enc P w base spare held n t cs = some x → flat P m t = some ts →
    cs.length = ts.length ∧ ∀ i u, ts[i]? = some u → LeafAt enc P w base spare held n cs i u := by
  intro m
  induction m with
  | zero => intro n t cs x ts _ h; simp [flat] at h
  | succ m ih =>
    intro n t cs x ts hx hf
    have one : ∀ c, cs = [c] → ts = [t] → cs.length = ts.length ∧ ∀ i u, ts[i]? = some u → LeafAt enc P w base spare held n cs i u := by
      rintro c rfl rfl
      refine ⟨rfl, fun i u hu => ?_⟩
      cases i with
      | zero => simp at hu; subst hu; exact ⟨c, n, x, rfl, Nat.le_refl _, hx⟩
      | succ i => simp at hu
    unfold flat at hf
    cases hu : P.underlying t with
    | none => simp [hu] at hf
    | some d =>
      rw [hu] at hf
      cases d with
      | bool => obtain ⟨b, rfl, _⟩ := DataW.trod_bool hu hx; exact one _ rfl (by simpa using hf.symm)
      | int k => obtain ⟨b, rfl, _⟩ := DataW.trod_int hu hx; exact one _ rfl (by simpa using hf.symm)
      | string => obtain ⟨b, rfl, _⟩ := DataW.trod_string hu hx; exact one _ rfl (by simpa using hf.symm)
      | slice e =>
        rcases DataW.trod_slice hu hx with ⟨rfl, _⟩ | ⟨a, len, cap, elems, rest, n', _, rfl, _⟩
        · exact one _ rfl (by simpa using hf.symm)
        · exact one _ rfl (by simpa using hf.symm)
      | struct fs =>
        obtain ⟨xs, n', rfl, _, hlen, hxs, hread⟩ := DataW.trod_struct hu hx
        simp only [Option.bind_eq_some_iff] at hf
        obtain ⟨l, hl, hf⟩ := hf
        split at hf
        · rename_i hll
          cases hf
          refine ⟨hlen.trans hll.symm, ?_⟩
          have key : ∀ (fl : List Field) (acc l : List TypeId), (∀ f ∈ fl, ∃ y, DataW.trod enc P w base spare held n' f.type ((cs.drop f.offset).take (P.cellsOf f.type)) = some y) →
              fl.foldlM (fun (acc : List TypeId) fld => if fld.offset = acc.length then (flat P m fld.type).bind fun l => if l.length = P.cellsOf fld.type then some (acc ++ l) else none else none) acc = some l →
              (∀ i u, acc[i]? = some u → LeafAt enc P w base spare held n' cs i u) → ∀ i u, l[i]? = some u → LeafAt enc P w base spare held n' cs i u := by
            intro fl
            induction fl with
            | nil => intro acc l _ h1 h2; simp at h1; subst h1; exact h2
            | cons f fl ih2 =>
              intro acc l hr h1 h2
              rw [List.foldlM_cons] at h1
              simp only [Option.bind_eq_bind, Option.bind_eq_some_iff] at h1
              obtain ⟨acc2, h3, h4⟩ := h1
              split at h3
              · rename_i ho
                rw [Option.bind_eq_some_iff] at h3
                obtain ⟨l2, h5, h6⟩ := h3
                split at h6
                · cases h6
                  refine ih2 _ _ (fun g hg => hr g (List.mem_cons_of_mem _ hg)) h4 fun i u hi => ?_
                  by_cases hlt : i < acc.length
                  · rw [List.getElem?_append_left hlt] at hi; exact h2 i u hi
                  · rw [List.getElem?_append_right (by omega)] at hi
                    obtain ⟨y, hy⟩ := hr f (List.mem_cons_self ..)
                    have := ((ih n' _ _ _ _ hy h5).2 _ _ hi).piece
                    rwa [ho, show acc.length + (i - acc.length) = i by omega] at this
                · cases h6
              · cases h3
          intro i u hi
          refine (key fs.toList [] _ (fun f hf => ?_) hl (fun i u h => by simp at h) i u hi).up (Nat.le_succ _)
          obtain ⟨j, hj⟩ := List.mem_iff_getElem?.1 hf
          have hj' : fs[j]? = some f := by simpa using hj
          rw [hread j f hj']
          have : j < xs.length := by
            rw [hxs]
            obtain ⟨h, _⟩ := Array.getElem?_eq_some_iff.1 hj'
            exact h
          exact ⟨_, List.getElem?_eq_getElem this⟩
        · cases hf
      | array k e =>
        obtain ⟨xs, n', rfl, _, hlen, hxs, hread⟩ := DataW.trod_array hu hx
        rw [Option.bind_eq_some_iff] at hf
        obtain ⟨l, hl, hf⟩ := hf
        split at hf
        · rename_i hll
          cases hf
          obtain ⟨e1, e2⟩ := hll
          refine ⟨by simp [hlen, e2], fun i u hi => ?_⟩
          have hpos : 0 < l.length := by
            rcases Nat.eq_zero_or_pos l.length with h0 | h0
            · have : l = [] := List.length_eq_zero_iff.1 h0
              subst this
              simp at hi
            · exact h0
          have hik : i < k * l.length := by
            have := (List.getElem?_eq_some_iff.1 hi).1
            simpa using this
          have hq : i / l.length < k := (Nat.div_lt_iff_lt_mul hpos).2 hik
          have hrep : ∀ (k i : Nat), i < k * l.length → ((List.replicate k l).flatten)[i]? = l[i % l.length]? := by
            intro k
            induction k with
            | zero => intro i h; simp at h
            | succ k ih3 =>
              intro i h
              rw [List.replicate_succ, List.flatten_cons]
              by_cases hlt : i < l.length
              · rw [List.getElem?_append_left hlt, Nat.mod_eq_of_lt hlt]
              · rw [List.getElem?_append_right (by omega), ih3 _ (by rw [Nat.add_mul, Nat.one_mul] at h; omega)]
                congr 1
                exact (Nat.mod_eq_sub_mod (by omega)).symm
          rw [hrep k i hik] at hi
          have hy := hread (i / l.length) hq
          have : i / l.length < xs.length := by omega
          rw [List.getElem?_eq_getElem this] at hy
          have := ((ih n' _ _ _ _ hy hl).2 _ _ hi).piece
          rw [← e1] at this
          have e3 : i / l.length * l.length + i % l.length = i := by rw [Nat.mul_comm]; exact Nat.div_add_mod _ _
          rw [e3] at this
          exact this.up (Nat.le_succ _)
        · cases hf
      | _ => simp at hf
end Go.Am
set_option linter.unusedVariables false
set_option linter.unusedSimpArgs false
/- From what is read of an argument to an abstract value: rows in memory. -/
namespace Go.Am
open Go

/-- nothing that may be written -/
def NoRW (h : AH) : Prop := ∀ (b : Nat) (o : AObj), h[b]? = some o → o.rw = false

theorem NoRW.append {h l : AH} (h1 : NoRW h) (h2 : NoRW l) : NoRW (h ++ l) := fun b o hb => by
  by_cases hlt : b < h.length
  · rw [List.getElem?_append_left hlt] at hb; exact h1 b o hb
  · rw [List.getElem?_append_right (by omega)] at hb; exact h2 _ o hb

theorem NoRW.one {o : AObj} (h : o.rw = false) : NoRW [o] := fun b o' hb => by
  cases b with
  | zero => simp at hb; subst hb; exact h
  | succ b => simp at hb

/-- one more row is known for ever -/
def Emb.know (f : Emb) (r : Nat) (c : Array Value) : Emb := ⟨f.img, fun q => if q = r then some c else f.rom q⟩

theorem Sim.know {P : Program} {f : Emb} {h : AH} {w : World} (hs : Sim P f h w) {r : Nat} {c : Array Value} {el : TypeId} {fr : Nat × Nat} (hr : w.heap[r]? = some (.cells c el fr)) (hno : ∀ b o, h[b]? = some o → o.rw = true → (f b).blk ≠ r) :
    Sim P (f.know r c) h w ∧ ∀ L, Emb.Agree L f (f.know r c) := by
  have hag : ∀ L, Emb.Agree L f (f.know r c) := fun L => ⟨fun _ _ => rfl, fun q ds e => by
    show (if q = r then some c else f.rom q) = some ds
    split
    · rename_i hq
      subst hq
      obtain ⟨⟨el2, fr2, h1⟩, _⟩ := hs.rom q ds e
      rw [hr] at h1
      cases h1; rfl
    · exact e⟩
  refine ⟨⟨fun b o hb ha => ?_, hs.sep, hs.glob, hs.size, fun q ds e => ?_, hs.laid, hs.ok⟩, hag⟩
  · obtain ⟨o', h1, h2⟩ := hs.obj b o hb ha
    exact ⟨o', h1, h2.mono (Nat.le_refl _) (hag _)⟩
  · change (if q = r then some c else f.rom q) = some ds at e
    split at e
    · rename_i hq
      subst hq
      cases e
      exact ⟨⟨el, fr, hr⟩, hno⟩
    · exact hs.rom q ds e

/-- more is known of one world -/
structure Ext (P : Program) (w : World) (f : Emb) (h : AH) (f' : Emb) : Prop where
  sim : Sim P f' h w
  agree : Emb.Agree h.length f f'

theorem Ext.refl {P : Program} {w : World} {f : Emb} {h : AH} (hs : Sim P f h w) : Ext P w f h f := ⟨hs, .refl _ _⟩
theorem Ext.trans {P : Program} {w : World} {f f1 f2 : Emb} {h : AH} (e1 : Ext P w f h f1) (e2 : Ext P w f1 h f2) : Ext P w f h f2 :=
  ⟨e2.sim, e1.agree.trans e2.agree (Nat.le_refl _)⟩

def Told (P : Program) (w : World) (f : Emb) (h : AH) (t : TypeId) (v : Value) : Prop :=
  ∃ f' v', Ext P w f h f' ∧ VRel f' h.length v' v ∧ TLeaf P t v'

theorem rows_abs {P : Program} {w : World} {Rd : TypeId → Value → Prop} (habs : ∀ t v, Rd t v → v.oneCell' = true ∧ ∀ f h, Sim P f h w → NoRW h → Told P w f h t v) :
    ∀ (us : List TypeId) (vs : List Value), us.length = vs.length → (∀ (i : Nat) (u : TypeId) (v : Value), us[i]? = some u → vs[i]? = some v → Rd u v) → ∀ f h, Sim P f h w → NoRW h →
      ∃ (f' : Emb) (vs' : List Value), Ext P w f h f' ∧ vs'.length = vs.length ∧ (∀ i : Nat, VRel f' h.length (vs'.getD i junk) (vs.getD i junk) ∧ (i < vs.length → (vs.getD i junk).oneCell' = true)) ∧ ∀ i, i < us.length → TLeaf P (us.getD i 0) (vs'.getD i junk) := by
  intro us
  induction us with
  | nil =>
    intro vs hl _ f h hs hn
    cases vs with
    | nil => exact ⟨f, [], .refl hs, rfl, fun i => ⟨by simp; exact .junk _, fun h => by simp at h⟩, fun i h => by simp at h⟩
    | cons v vs => simp at hl
  | cons u us ih =>
    intro vs hl hr f h hs hn
    cases vs with
    | nil => simp at hl
    | cons v vs =>
      obtain ⟨h1, f1, v1, e1, r1, a1⟩ := let x := habs u v (hr 0 u v rfl rfl); (⟨x.1, x.2 f h hs hn⟩ : _ ∧ _)
      obtain ⟨f2, vs2, e2, hlen, r2, a2⟩ := ih vs (by simpa using hl) (fun i u v hu hv => hr (i + 1) u v (by simpa using hu) (by simpa using hv)) f1 h e1.sim hn
      refine ⟨f2, v1 :: vs2, e1.trans e2, by simp [hlen], fun i => ?_, fun i hi => ?_⟩
      · cases i with
        | zero => exact ⟨by simpa using r1.mono (Nat.le_refl _) e2.agree, fun _ => by simpa using h1⟩
        | succ i => simpa using r2 i
      · cases i with
        | zero => simpa using a1
        | succ i => simpa using a2 i (by simpa using hi)

variable {H : Type} {enc : TypeId × Value → H} {P : Program} {w : World} {base : Nat} {spare : Nat → Bool} {held : Bool}

theorem cell_of {w : World} {a : Addr} {v : Value} (h : w.cell? a = some v) : a.spot = none ∧ ∃ c el fr, w.heap[a.block]? = some (.cells c el fr) ∧ c[a.off]? = some v := by
  unfold World.cell? at h
  split at h
  · rename_i c el fr hc
    split at h
    · cases h
    · rename_i hsp
      exact ⟨by simpa using hsp, c, el, fr, hc, h⟩
  · cases h

theorem leaf_abs (hspare : ∀ b, spare b = true) : ∀ (N n m : Nat) (t : TypeId) (v : Value) (x : DataW H × List MemPlace), n ≤ N → DataW.trod enc P w base spare held n t [v] = some x → okLeaf P m t = true →
    v.oneCell' = true ∧ ∀ f h, Sim P f h w → NoRW h → Told P w f h t v := by
  intro N
  induction N with
  | zero =>
    intro n m t v x hn hx
    obtain rfl : n = 0 := by omega
    simp [DataW.trod] at hx
  | succ N ih =>
    intro n m t v x hn hx ho
    have plain : ∀ f h, Sim P f h w → (∀ f L, VRel f L v v) → TLeaf P t v → Told P w f h t v := fun f h hs hv hl => ⟨f, v, .refl hs, hv _ _, hl⟩
    cases m with
    | zero => simp [okLeaf] at ho
    | succ m =>
      unfold okLeaf at ho
      cases hu : P.underlying t with
      | none => simp [hu] at ho
      | some d =>
        rw [hu] at ho
        cases d with
        | bool =>
          obtain ⟨b, e, _⟩ := DataW.trod_bool hu hx
          cases e
          exact ⟨rfl, fun f h hs _ => plain f h hs (fun _ _ => .bool b) (.bool b hu)⟩
        | int k =>
          obtain ⟨b, e, _, hw⟩ := DataW.trod_int hu hx
          cases e
          exact ⟨rfl, fun f h hs _ => plain f h hs (fun _ _ => .int k b) (.int b hu hw)⟩
        | string =>
          obtain ⟨b, e, _, hw⟩ := DataW.trod_string hu hx
          cases e
          exact ⟨rfl, fun f h hs _ => plain f h hs (fun _ _ => .string b) (.string b hu hw)⟩
        | slice e =>
          simp only at ho
          cases hf : flat P 8 e with
          | none => simp [hf] at ho
          | some l =>
            simp only [hf, Bool.and_eq_true, bne_iff_ne, ne_eq, beq_iff_eq] at ho
            obtain ⟨⟨h0, he⟩, hall⟩ := ho
            rcases DataW.trod_slice hu hx with ⟨e1, _⟩ | ⟨a, len, cap, elems, rest, n', rfl, e1, _, _, hlc, hmax, hel, hread, hrest, _⟩
            · cases e1
              exact ⟨rfl, fun f h hs _ => plain f h hs (fun _ _ => .nilSlice 0 0) (.nil hu)⟩
            · cases e1
              refine ⟨rfl, fun f h hs hno => ?_⟩
              by_cases hz : len = 0
              · subst hz
                exact ⟨f, fz #[] 0, .refl hs, .fz0 a cap, .slice l 0 #[] hu hf he.symm h0 (Nat.zero_le _) (by simp) fun i j hi => by omega⟩
              · have hcell : ∀ i j, i < len → j < l.length → ∃ c n2 y, w.cell? ((a.add (i * l.length)).add j) = some c ∧ n2 ≤ N ∧ DataW.trod enc P w base spare held n2 (l.getD j 0) [c] = some y := by
                  intro i j hi hj
                  have h1 := hread i hi
                  rw [List.getElem?_eq_getElem (by omega), Option.bind_eq_some_iff] at h1
                  obtain ⟨cs, hcs, hy⟩ := h1
                  obtain ⟨_, hcl, hcg⟩ := World.cells?_some hcs
                  obtain ⟨c, n2, y, h2, h3, h4⟩ := (trod_flat 8 _ _ _ _ _ hy hf).2 j (l.getD j 0) (by rw [List.getElem?_eq_getElem hj]; simp [List.getD, hj])
                  rw [← he] at hcg hcl
                  exact ⟨c, n2, y, by rw [hcg j hj, h2], by omega, h4⟩
                obtain ⟨c0, _, _, hc0, _⟩ := hcell 0 0 (by omega) (by omega)
                obtain ⟨hsp, c', el, fr, hblk, _⟩ := cell_of hc0
                obtain ⟨ab, ao, as⟩ := a
                simp only [Nat.zero_mul, Addr.add, if_true] at hsp hblk
                subst hsp
                have hget : ∀ i j, i < len → j < l.length → ∃ c n2 y, c'[ao + (i * l.length + j)]? = some c ∧ n2 ≤ N ∧ DataW.trod enc P w base spare held n2 (l.getD j 0) [c] = some y := by
                  intro i j hi hj
                  obtain ⟨c, n2, y, h1, h2, h3⟩ := hcell i j hi hj
                  refine ⟨c, n2, y, ?_, h2, h3⟩
                  obtain ⟨_, c2, el2, fr2, h4, h5⟩ := cell_of h1
                  have e1 : (((⟨ab, ao, none⟩ : Addr).add (i * l.length)).add j).block = ab := by unfold Addr.add; split <;> split <;> rfl
                  have e2 : (((⟨ab, ao, none⟩ : Addr).add (i * l.length)).add j).off = ao + (i * l.length + j) := by unfold Addr.add; split <;> split <;> simp_all <;> omega
                  rw [e1, hblk] at h4
                  rw [e2] at h5
                  cases h4
                  exact h5
                have hpos : 0 < l.length := by omega
                let us := (List.range (len * l.length)).map fun q => l.getD (q % l.length) 0
                let vs := (List.range (len * l.length)).map fun q => c'.getD (ao + q) junk
                have hq : ∀ q, q < len * l.length → ∃ c n2 y, c'[ao + q]? = some c ∧ n2 ≤ N ∧ DataW.trod enc P w base spare held n2 (l.getD (q % l.length) 0) [c] = some y := by
                  intro q hq
                  have := hget (q / l.length) (q % l.length) ((Nat.div_lt_iff_lt_mul hpos).2 hq) (Nat.mod_lt _ hpos)
                  rwa [show q / l.length * l.length + q % l.length = q by rw [Nat.mul_comm]; exact Nat.div_add_mod _ _] at this
                obtain ⟨f1, vs1, e1, hl1, r1, a1⟩ := rows_abs (P := P) (w := w) (Rd := fun t v => ∃ n2 y, n2 ≤ N ∧ DataW.trod enc P w base spare held n2 t [v] = some y ∧ okLeaf P m t = true)
                  (fun t v ⟨n2, y, h1, h2, h3⟩ => ih n2 m t v y h1 h2 h3) us vs (by simp [us, vs]) (by
                    intro i u v hu hv
                    have hi : i < len * l.length := by
                      have := (List.getElem?_eq_some_iff.1 hu).1
                      simpa [us] using this
                    obtain ⟨c, n2, y, h1, h2, h3⟩ := hq i hi
                    simp only [us, vs, List.getElem?_map, List.getElem?_range hi, Option.map_some, Option.some.injEq] at hu hv
                    subst hu; subst hv
                    refine ⟨n2, y, h2, by rw [show c'.getD (ao + i) junk = c by simp [Array.getD_eq_getD_getElem?, h1]]; exact h3, ?_⟩
                    rw [List.all_eq_true] at hall
                    refine hall _ ?_
                    have : i % l.length < l.length := Nat.mod_lt _ hpos
                    simp only [List.getD, List.getElem?_eq_getElem this, Option.getD_some]
                    exact List.getElem_mem _) f h hs hno
                have hvl : vs1.length = len * l.length := by rw [hl1]; simp [vs]
                have hcap : len * l.length ≤ cap * l.length := Nat.mul_le_mul_right _ hlc
                have hsz : ao + len * l.length ≤ c'.size := by
                  have hlast : len * l.length - 1 < len * l.length := by
                    have := Nat.mul_pos (Nat.pos_of_ne_zero hz) hpos
                    omega
                  obtain ⟨c, _, _, h1, _⟩ := hq (len * l.length - 1) hlast
                  have := (Array.getElem?_eq_some_iff.1 h1).1
                  omega
                obtain ⟨k1, k2⟩ := e1.sim.know hblk (fun b o hb ho => by rw [hno b o hb] at ho; cases ho)
                refine ⟨f1.know ab c', fz vs1.toArray len, e1.trans ⟨k1, k2 _⟩, ?_, ?_⟩
                · refine .fz _ _ ab ao _ c' (by simp [Emb.know]) (by simp [hvl]; exact hsz) hlc (fun i => ?_) (fun i hi => ?_)
                  · by_cases hi : i < vs1.toArray.size
                    · rw [if_pos hi]
                      have hi' : i < len * l.length := by simpa [hvl] using hi
                      have := (r1 i).1.mono (Nat.le_refl _) (k2 h.length)
                      have e2 : vs.getD i junk = c'.getD (ao + i) junk := by simp [vs, List.getD, hi']
                      rw [e2] at this
                      have e3 : vs1.toArray.getD i junk = vs1.getD i junk := by simp [Array.getD_eq_getD_getElem?, List.getD]
                      rw [e3]
                      exact this
                    · rw [getD_ge i hi]; exact .junk _
                  · have hi' : i < len * l.length := by simpa [hvl] using hi
                    have e2 : vs.getD i junk = c'.getD (ao + i) junk := by simp [vs, List.getD, hi']
                    rw [← e2]
                    exact (r1 i).2 (by simp [vs]; exact hi')
                · refine TLeaf.slice l len vs1.toArray hu hf he.symm h0 (by omega) (by simp [hvl]) fun i j hi hj => ?_
                  have hij : i * l.length + j < len * l.length := by
                    have : (i + 1) * l.length ≤ len * l.length := Nat.mul_le_mul_right _ hi
                    rw [Nat.add_mul, Nat.one_mul] at this
                    omega
                  have := a1 (i * l.length + j) (by simp [us]; exact hij)
                  have e2 : us.getD (i * l.length + j) 0 = l.getD j 0 := by
                    simp only [us, List.getD, List.getElem?_map, List.getElem?_range hij, Option.map_some, Option.getD_some]
                    rw [Nat.mul_comm, Nat.mul_add_mod, Nat.mod_eq_of_lt hj]
                  have e3 : vs1.toArray.getD (i * l.length + j) junk = vs1.getD (i * l.length + j) junk := by simp [Array.getD_eq_getD_getElem?, List.getD]
                  rw [e2] at this
                  rw [e3]
                  exact this
        | _ => simp at ho
end Go.Am
