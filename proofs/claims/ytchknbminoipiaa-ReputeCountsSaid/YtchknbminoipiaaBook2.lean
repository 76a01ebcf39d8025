import Derived.Test.YtchknbminoipiaaBook1
set_option linter.unusedSimpArgs false
set_option linter.unusedVariables false
namespace Go.Proofs
open Go Go.Am

set_option maxRecDepth 10000 in
set_option maxHeartbeats 4000000 in
theorem searchE (B : Array Value) (hB : B.size = 20) (bB : B.all isByte = true) (h : AH) :
    ACalls Try.prog 18 #[.slice none 0 0, .agg B, .func (.func 19) #[] #[]] h (fun v h' => v = .tuple #[.int .i64 0, .bool false] ∧ h' = h) := by
  refine ACalls.of_ay Try.func18 rfl Try.ntmps18 ⟨_, _, rfl, rfl⟩ ?_
  simp only [List.length_cons, List.length_nil, Nat.reduceAdd, Nat.reduceSub, List.replicate_succ, List.replicate_zero, List.cons_append, List.nil_append]
  simp (implicitDefEqProofs := false) only [go_sem, Nat.reduceAdd, Nat.reduceSub, Nat.reduceMul, Nat.reduceLT, Nat.reduceLeDiff, Nat.reduceEqDiff, Nat.reduceBEq, Nat.reduceBNe, Nat.reducePow, Int.reduceBEq, Int.reduceBNe, Int.reduceEq, Int.reduceLT, Int.reduceLE, Int.reduceNeg, Int.reduceToNat, Int.reduceMul, Int.reduceAdd, Int.reduceSub, Int.reducePow, Int.reduceFDiv, reduceCtorEq, reduceIte, hB, bB, List.size_toArray]
  refine AWP.rounds 2 ?_
  simp (implicitDefEqProofs := false) only [go_sem, Nat.reduceAdd, Nat.reduceSub, Nat.reduceMul, Nat.reduceLT, Nat.reduceLeDiff, Nat.reduceEqDiff, Nat.reduceBEq, Nat.reduceBNe, Nat.reducePow, Int.reduceBEq, Int.reduceBNe, Int.reduceEq, Int.reduceLT, Int.reduceLE, Int.reduceNeg, Int.reduceToNat, Int.reduceMul, Int.reduceAdd, Int.reduceSub, Int.reducePow, Int.reduceFDiv, reduceCtorEq, reduceIte, hB, bB, List.size_toArray, rounds2, rounds1]
  refine ⟨by kernel_rfl, by kernel_rfl, ?_⟩
  exact apost_tmp2x rfl ⟨rfl, rfl⟩ _ _ (by simp only [List.getD_cons_succ, List.getD_cons_zero]) (by simp only [List.getD_cons_succ, List.getD_cons_zero])
theorem searchS (A B : Array Value) (hA : A.size = 20) (hB : B.size = 20) (bA : A.all isByte = true) (bB : B.all isByte = true) (s i : Int) {b : Nat} {h : AH} (hb : h[b]? = some (.cells (fame A s i) 22 true)) :
    ACalls Try.prog 18 #[.slice (some ⟨b, 0, none⟩) 1 1, .agg B, .func (.func 19) #[] #[]] h (fun v h' => v = .tuple #[.int .i64 (if cmpV A B < 0 then 1 else 0), .bool (cmpV A B == 0)] ∧ h' = h) := by
  have hbo := at_old hb
  have hB2 : B.extract 0 20 = B := by rw [Array.extract_eq_self_of_le]; omega
  refine ACalls.of_ay Try.func18 rfl Try.ntmps18 ⟨_, _, rfl, rfl⟩ ?_
  simp only [List.length_cons, List.length_nil, Nat.reduceAdd, Nat.reduceSub, List.replicate_succ, List.replicate_zero, List.cons_append, List.nil_append]
  simp (implicitDefEqProofs := false) only [go_sem, Nat.reduceAdd, Nat.reduceSub, Nat.reduceMul, Nat.reduceLT, Nat.reduceLeDiff, Nat.reduceEqDiff, Nat.reduceBEq, Nat.reduceBNe, Nat.reducePow, Int.reduceBEq, Int.reduceBNe, Int.reduceEq, Int.reduceLT, Int.reduceLE, Int.reduceNeg, Int.reduceToNat, Int.reduceMul, Int.reduceAdd, Int.reduceSub, Int.reducePow, Int.reduceFDiv, reduceCtorEq, reduceIte, hb, hbo, hB2, fame_mk, fame_all hA, fame_addr hA, fame_size hA, fame_seen hA, fame_incl hA, hA, hB, bA, bB, List.size_toArray]
  refine AWP.rounds 2 ?_
  simp (implicitDefEqProofs := false) only [go_sem, Nat.reduceAdd, Nat.reduceSub, Nat.reduceMul, Nat.reduceLT, Nat.reduceLeDiff, Nat.reduceEqDiff, Nat.reduceBEq, Nat.reduceBNe, Nat.reducePow, Int.reduceBEq, Int.reduceBNe, Int.reduceEq, Int.reduceLT, Int.reduceLE, Int.reduceNeg, Int.reduceToNat, Int.reduceMul, Int.reduceAdd, Int.reduceSub, Int.reducePow, Int.reduceFDiv, reduceCtorEq, reduceIte, hb, hbo, hB2, fame_mk, fame_all hA, fame_addr hA, fame_size hA, fame_seen hA, fame_incl hA, hA, hB, bA, bB, List.size_toArray, rounds2, rounds1]
  refine ⟨by kernel_rfl, by kernel_rfl, ?_⟩
  refine dstep_call (amongFn_calls A B hA hB bA bB s i _) pres_refl ?_
  by_cases hc : cmpV A B < 0
  · have hc2 : (cmpV A B == 0) = false := by simp; omega
    simp (implicitDefEqProofs := false) only [go_sem, Nat.reduceAdd, Nat.reduceSub, Nat.reduceMul, Nat.reduceLT, Nat.reduceLeDiff, Nat.reduceEqDiff, Nat.reduceBEq, Nat.reduceBNe, Nat.reducePow, Int.reduceBEq, Int.reduceBNe, Int.reduceEq, Int.reduceLT, Int.reduceLE, Int.reduceNeg, Int.reduceToNat, Int.reduceMul, Int.reduceAdd, Int.reduceSub, Int.reducePow, Int.reduceFDiv, reduceCtorEq, reduceIte, hb, hbo, hB2, hc, hc2, fame_mk, fame_all hA, fame_addr hA, fame_size hA, fame_seen hA, fame_incl hA, hA, hB, bA, bB, List.size_toArray, rounds2, rounds1]
    refine ⟨by kernel_rfl, by kernel_rfl, ?_⟩
    exact apost_tmp2x rfl ⟨rfl, rfl⟩ _ _ (by simp only [List.getD_cons_succ, List.getD_cons_zero, if_pos hc]) (by simp only [List.getD_cons_succ, List.getD_cons_zero, hc2])
  · have hc2 : True := trivial
    simp (implicitDefEqProofs := false) only [go_sem, Nat.reduceAdd, Nat.reduceSub, Nat.reduceMul, Nat.reduceLT, Nat.reduceLeDiff, Nat.reduceEqDiff, Nat.reduceBEq, Nat.reduceBNe, Nat.reducePow, Int.reduceBEq, Int.reduceBNe, Int.reduceEq, Int.reduceLT, Int.reduceLE, Int.reduceNeg, Int.reduceToNat, Int.reduceMul, Int.reduceAdd, Int.reduceSub, Int.reducePow, Int.reduceFDiv, reduceCtorEq, reduceIte, hb, hbo, hB2, hc, hc2, fame_mk, fame_all hA, fame_addr hA, fame_size hA, fame_seen hA, fame_incl hA, hA, hB, bA, bB, List.size_toArray, rounds2, rounds1]
    refine ⟨by kernel_rfl, by kernel_rfl, ?_⟩
    refine dstep_call (amongFn_calls A B hA hB bA bB s i _) pres_refl ?_
    simp (implicitDefEqProofs := false) only [go_sem, Nat.reduceAdd, Nat.reduceSub, Nat.reduceMul, Nat.reduceLT, Nat.reduceLeDiff, Nat.reduceEqDiff, Nat.reduceBEq, Nat.reduceBNe, Nat.reducePow, Int.reduceBEq, Int.reduceBNe, Int.reduceEq, Int.reduceLT, Int.reduceLE, Int.reduceNeg, Int.reduceToNat, Int.reduceMul, Int.reduceAdd, Int.reduceSub, Int.reducePow, Int.reduceFDiv, reduceCtorEq, reduceIte, hb, hbo, hB2, hc, hc2, fame_mk, fame_all hA, fame_addr hA, fame_size hA, fame_seen hA, fame_incl hA, hA, hB, bA, bB, List.size_toArray, rounds2, rounds1]
    exact apost_tmp2x rfl ⟨rfl, rfl⟩ _ _ (by simp only [List.getD_cons_succ, List.getD_cons_zero, if_neg hc]) (by simp only [List.getD_cons_succ, List.getD_cons_zero])
end Go.Proofs
