import Derived.Test.YtogefnepdjkioaaAm25
set_option linter.unusedVariables false
set_option linter.unusedSimpArgs false
/- What is not needed any more is forgotten, at a loop's head. -/
namespace Go.Am
open Go

/-- rows of values, one renamed to the other -/
inductive Rens (σ : Nat → Nat) (L : Nat) : List Value → List Value → Prop
  | nil : Rens σ L [] []
  | cons {v1 v : Value} {l1 l : List Value} (h : VRen σ L v1 v) (r : Rens σ L l1 l) : Rens σ L (v1 :: l1) (v :: l)

theorem Rens.length {σ : Nat → Nat} {L : Nat} {l1 l : List Value} (h : Rens σ L l1 l) : l1.length = l.length := by
  induction h with
  | nil => rfl
  | cons _ _ ih => simp [ih]
theorem Rens.get {σ : Nat → Nat} {L : Nat} {l1 l : List Value} (h : Rens σ L l1 l) : ∀ i : Nat, VRen σ L (l1.getD i junk) (l.getD i junk) := by
  induction h with
  | nil => intro i; simp; exact .junk _
  | cons h _ ih =>
    intro i
    cases i with
    | zero => simpa using h
    | succ i => simpa using ih i

theorem Forget.list {h0 t t1 : AH} {l l1 : List Value} (js : List Nat) (hl : js.length = t1.length) (hnd : js.Nodup)
    (hobj : ∀ i o1, t1[i]? = some o1 → o1.alive = true → ∃ o, t[js.getD i i]? = some o ∧ ORen (pick h0.length js) (h0.length + t1.length) o1 o)
    (hv : Rens (pick h0.length js) (h0.length + t1.length) l1 l) : Forget h0 l.toArray (h0 ++ t) l1.toArray (h0 ++ t1) := by
  refine .inr ⟨pick h0.length js, GC.pick js hl hnd hobj, by simpa using hv.length, fun i => ?_⟩
  have e1 : l1.toArray.getD i junk = l1.getD i junk := by simp [Array.getD_eq_getD_getElem?, List.getD]
  have e2 : l.toArray.getD i junk = l.getD i junk := by simp [Array.getD_eq_getD_getElem?, List.getD]
  rw [e1, e2]
  simpa using hv.get i
end Go.Am
