import Derived.Test.YtihdilnanhjedaaBelB
set_option linter.all false
set_option linter.unusedSimpArgs false
set_option linter.unusedVariables false
/- Belongs, both -/
namespace Go.Proofs
open Go Go.Am

/-- does a slot belong to an address? -/
def belB (s : List Ev) (a : Addr20) (slot : Word4) : Bool := decide (slot = wideW a) || s.any (belP (wideW a) slot)

theorem near_no {slot v : Word4} (h : ¬ valW (sb slot v 4).1 < 2 ^ 64) : nearW slot v = false := by unfold nearW; rw [decide_eq_false h]; rfl
theorem near_is {slot v : Word4} {n : Int} (h : valW (sb slot v 4).1 < 2 ^ 64) (hn : n = (((sb slot v 4).1[0].toNat : Nat) : Int)) : nearW slot v = decide (n ≤ 128) := by unfold nearW; rw [decide_eq_true h, hn]; rfl
theorem oren3 {σ : Nat → Nat} {L : Nat} {x : Addr20} {a b : Word4} : ∀ o ∈ [AObj.cells (encAddr x).toArray 0 true, AObj.cells (encWord a).toArray 0 true, AObj.cells (encWord b).toArray 0 true], ORen σ L o o := by
  intro o ho
  simp only [List.mem_cons, List.not_mem_nil, or_false] at ho
  rcases ho with rfl | rfl | rfl
  · exact ORen.plainCells (tree_encAddr _)
  · exact ORen.plainCells (tree_encWord _)
  · exact ORen.plainCells (tree_encWord _)

set_option maxRecDepth 10000 in
set_option maxHeartbeats 4000000 in
theorem belongs_calls (s : Sl Ev) (hs : s.l.length < 2 ^ 63) (a : Addr20) (slot : Word4) (h : AH) :
    ACalls Try.prog 12 #[slV encEv s, .agg (encAddr a).toArray, .agg (encWord slot).toArray] h (fun v h' => v = .bool (belB s.l a slot) ∧ h' = h) := by
  refine ACalls.of_ay Try.func12 rfl Try.ntmps12 ⟨_, _, rfl, rfl⟩ ?_; simp only [List.length_cons, List.length_nil, Nat.reduceAdd, Nat.reduceSub, List.replicate_succ, List.replicate_zero, List.cons_append, List.nil_append]
  simp (implicitDefEqProofs := false) (maxSteps := 2000000) only [go_sem, Nat.reduceAdd, Nat.reduceSub, Nat.reduceMul, Nat.reduceLT, Nat.reduceLeDiff, Nat.reduceEqDiff, Nat.reduceBEq, Nat.reduceBNe, Nat.reducePow, Int.reduceBEq, Int.reduceBNe, Int.reduceEq, Int.reduceLT, Int.reduceLE, Int.reduceNeg, Int.reduceToNat, Int.reduceMul, Int.reduceAdd, Int.reduceSub, Int.reducePow, Int.reduceFDiv, reduceCtorEq, reduceIte, length_encAddr]
  refine astep_call (wide_calls a _) ?_
  simp (implicitDefEqProofs := false) (maxSteps := 2000000) only [go_sem, Nat.reduceAdd, Nat.reduceSub, Nat.reduceMul, Nat.reduceLT, Nat.reduceLeDiff, Nat.reduceEqDiff, Nat.reduceBEq, Nat.reduceBNe, Nat.reducePow, Int.reduceBEq, Int.reduceBNe, Int.reduceEq, Int.reduceLT, Int.reduceLE, Int.reduceNeg, Int.reduceToNat, Int.reduceMul, Int.reduceAdd, Int.reduceSub, Int.reducePow, Int.reduceFDiv, reduceCtorEq, reduceIte]
  refine astep_call (wbytes_calls (wideW a) _) ?_
  simp (implicitDefEqProofs := false) (maxSteps := 2000000) only [go_sem, Nat.reduceAdd, Nat.reduceSub, Nat.reduceMul, Nat.reduceLT, Nat.reduceLeDiff, Nat.reduceEqDiff, Nat.reduceBEq, Nat.reduceBNe, Nat.reducePow, Int.reduceBEq, Int.reduceBNe, Int.reduceEq, Int.reduceLT, Int.reduceLE, Int.reduceNeg, Int.reduceToNat, Int.reduceMul, Int.reduceAdd, Int.reduceSub, Int.reducePow, Int.reduceFDiv, reduceCtorEq, reduceIte, length_encWord, length_encAddr]
  refine ⟨by kernel_rfl, by kernel_rfl, ?_⟩
  refine dstep_call (wide_calls a _) pres_refl ?_
  simp (implicitDefEqProofs := false) (maxSteps := 2000000) only [go_sem, Nat.reduceAdd, Nat.reduceSub, Nat.reduceMul, Nat.reduceLT, Nat.reduceLeDiff, Nat.reduceEqDiff, Nat.reduceBEq, Nat.reduceBNe, Nat.reducePow, Int.reduceBEq, Int.reduceBNe, Int.reduceEq, Int.reduceLT, Int.reduceLE, Int.reduceNeg, Int.reduceToNat, Int.reduceMul, Int.reduceAdd, Int.reduceSub, Int.reducePow, Int.reduceFDiv, reduceCtorEq, reduceIte]
  cases hE : decide (slot = wideW a) with
  | true =>
    simp (implicitDefEqProofs := false) (maxSteps := 2000000) only [go_sem, Nat.reduceAdd, Nat.reduceSub, Nat.reduceMul, Nat.reduceLT, Nat.reduceLeDiff, Nat.reduceEqDiff, Nat.reduceBEq, Nat.reduceBNe, Nat.reducePow, Int.reduceBEq, Int.reduceBNe, Int.reduceEq, Int.reduceLT, Int.reduceLE, Int.reduceNeg, Int.reduceToNat, Int.reduceMul, Int.reduceAdd, Int.reduceSub, Int.reducePow, Int.reduceFDiv, reduceCtorEq, reduceIte]
    exact apost_tmp (v := .bool (belB s.l a slot)) rfl rfl ⟨rfl, rfl⟩ _ _ (by rw [belB, hE]; rfl)
  | false =>
    simp (implicitDefEqProofs := false) (maxSteps := 2000000) only [go_sem, Nat.reduceAdd, Nat.reduceSub, Nat.reduceMul, Nat.reduceLT, Nat.reduceLeDiff, Nat.reduceEqDiff, Nat.reduceBEq, Nat.reduceBNe, Nat.reducePow, Int.reduceBEq, Int.reduceBNe, Int.reduceEq, Int.reduceLT, Int.reduceLE, Int.reduceNeg, Int.reduceToNat, Int.reduceMul, Int.reduceAdd, Int.reduceSub, Int.reducePow, Int.reduceFDiv, reduceCtorEq, reduceIte]
    refine astep_call (containsE_calls s hs _ _ _ _ (.ptr _ _ _ (by simp) rfl) (.ptr _ _ _ (by simp) rfl) (by kernel_rfl) (belP (wideW a) slot) fun x _ => belFn_calls x (wideW a) slot _ (h.length + 2) (h.length + 1) ?_ ?_) ?_
    · exact at_new _ _ _
    · exact at_new _ _ _
    simp (implicitDefEqProofs := false) (maxSteps := 2000000) only [go_sem, Nat.reduceAdd, Nat.reduceSub, Nat.reduceMul, Nat.reduceLT, Nat.reduceLeDiff, Nat.reduceEqDiff, Nat.reduceBEq, Nat.reduceBNe, Nat.reducePow, Int.reduceBEq, Int.reduceBNe, Int.reduceEq, Int.reduceLT, Int.reduceLE, Int.reduceNeg, Int.reduceToNat, Int.reduceMul, Int.reduceAdd, Int.reduceSub, Int.reducePow, Int.reduceFDiv, reduceCtorEq, reduceIte]
    exact apost_tmp (v := .bool (belB s.l a slot)) rfl rfl ⟨rfl, rfl⟩ _ _ (by rw [belB, hE]; rfl)

end Go.Proofs
