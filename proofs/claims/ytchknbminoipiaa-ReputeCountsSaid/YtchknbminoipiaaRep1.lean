import Derived.Test.YtchknbminoipiaaBook3
import Derived.Test.YtchknbminoipiaaAm49x
set_option linter.unusedSimpArgs false
set_option linter.unusedVariables false
namespace Go.Proofs
open Go Go.Am

set_option maxRecDepth 10000 in
set_option maxHeartbeats 4000000 in
theorem bookE (h : AH) : ACalls Try.prog 13 #[.slice none 0 0] h (fun v h' => v = .slice none 0 0 ∧ h' = h) := by
  refine ACalls.of_ay Try.func13 rfl Try.ntmps13 ⟨_, _, rfl, rfl⟩ ?_; simp only [List.length_cons, List.length_nil, Nat.reduceAdd, Nat.reduceSub, List.replicate_succ, List.replicate_zero, List.cons_append, List.nil_append]
  simp (implicitDefEqProofs := false) only [go_sem, Nat.reduceAdd, Nat.reduceSub, Nat.reduceMul, Nat.reduceLT, Nat.reduceLeDiff, Nat.reduceEqDiff, Nat.reduceBEq, Nat.reduceBNe, Nat.reducePow, Int.reduceBEq, Int.reduceBNe, Int.reduceEq, Int.reduceLT, Int.reduceLE, Int.reduceNeg, Int.reduceToNat, Int.reduceMul, Int.reduceAdd, Int.reduceSub, Int.reducePow, Int.reduceFDiv, reduceCtorEq, reduceIte, List.size_toArray]
  refine AWP.rounds 1 ?_
  simp (implicitDefEqProofs := false) only [go_sem, Nat.reduceAdd, Nat.reduceSub, Nat.reduceMul, Nat.reduceLT, Nat.reduceLeDiff, Nat.reduceEqDiff, Nat.reduceBEq, Nat.reduceBNe, Nat.reducePow, Int.reduceBEq, Int.reduceBNe, Int.reduceEq, Int.reduceLT, Int.reduceLE, Int.reduceNeg, Int.reduceToNat, Int.reduceMul, Int.reduceAdd, Int.reduceSub, Int.reducePow, Int.reduceFDiv, reduceCtorEq, reduceIte, rounds1, List.size_toArray]
  exact apost_tmp0 rfl rfl ⟨rfl, rfl⟩ _ (by simp only [List.getD_cons_succ, List.getD_cons_zero])

set_option maxRecDepth 10000 in
set_option maxHeartbeats 4000000 in
theorem bookS1 (A : Array Value) (hA : A.size = 20) (bA : A.all isByte = true) (s i : Int) {b : Nat} {rw : Bool} {h : AH} (hb : h[b]? = some (.cells (fame A s i) 22 rw)) (hn : ¬ (s = 0 ∧ i = 0)) :
    ACalls Try.prog 13 #[.slice (some ⟨b, 0, none⟩) 1 1] h (fun v h' => v = .slice (some ⟨h.length, 0, none⟩) 1 1 ∧ h' = h ++ [.cells (fame A s i) 22 true]) := by
  refine ACalls.of_ay Try.func13 rfl Try.ntmps13 ⟨_, _, rfl, rfl⟩ ?_; simp only [List.length_cons, List.length_nil, Nat.reduceAdd, Nat.reduceSub, List.replicate_succ, List.replicate_zero, List.cons_append, List.nil_append]
  simp (implicitDefEqProofs := false) only [go_sem, Nat.reduceAdd, Nat.reduceSub, Nat.reduceMul, Nat.reduceLT, Nat.reduceLeDiff, Nat.reduceEqDiff, Nat.reduceBEq, Nat.reduceBNe, Nat.reducePow, Int.reduceBEq, Int.reduceBNe, Int.reduceEq, Int.reduceLT, Int.reduceLE, Int.reduceNeg, Int.reduceToNat, Int.reduceMul, Int.reduceAdd, Int.reduceSub, Int.reducePow, Int.reduceFDiv, reduceCtorEq, reduceIte, hb, at_old hb, fame_mk, fame_all hA, fame_addr hA, fame_size hA, fame_seen hA, fame_incl hA, fame0_size, fame_zblit hA, zeros_size22, fame0_blit hA, hA, bA, List.size_toArray]
  refine AWP.rounds 2 ?_
  simp (implicitDefEqProofs := false) only [go_sem, Nat.reduceAdd, Nat.reduceSub, Nat.reduceMul, Nat.reduceLT, Nat.reduceLeDiff, Nat.reduceEqDiff, Nat.reduceBEq, Nat.reduceBNe, Nat.reducePow, Int.reduceBEq, Int.reduceBNe, Int.reduceEq, Int.reduceLT, Int.reduceLE, Int.reduceNeg, Int.reduceToNat, Int.reduceMul, Int.reduceAdd, Int.reduceSub, Int.reducePow, Int.reduceFDiv, reduceCtorEq, reduceIte, hb, at_old hb, rounds2, rounds1, fame_mk, fame_all hA, fame_addr hA, fame_size hA, fame_seen hA, fame_incl hA, fame0_size, fame_zblit hA, zeros_size22, fame0_blit hA, hA, bA, List.size_toArray]
  refine astep_call (putE1 A hA bA s i _ hn) ?_
  simp (implicitDefEqProofs := false) only [go_sem, Nat.reduceAdd, Nat.reduceSub, Nat.reduceMul, Nat.reduceLT, Nat.reduceLeDiff, Nat.reduceEqDiff, Nat.reduceBEq, Nat.reduceBNe, Nat.reducePow, Int.reduceBEq, Int.reduceBNe, Int.reduceEq, Int.reduceLT, Int.reduceLE, Int.reduceNeg, Int.reduceToNat, Int.reduceMul, Int.reduceAdd, Int.reduceSub, Int.reducePow, Int.reduceFDiv, reduceCtorEq, reduceIte, hb, at_old hb, rounds2, rounds1, fame_mk, fame_all hA, fame_addr hA, fame_size hA, fame_seen hA, fame_incl hA, fame0_size, fame_zblit hA, zeros_size22, fame0_blit hA, hA, bA, List.size_toArray]
  exact apost_row (k := 1) (c := fame A s i) (es := 22) (rw := true) (o := 0) (len := 1) (cap := 1) rfl _ (by simp only [List.getD_cons_succ, List.getD_cons_zero, Nat.add_zero]) rfl (fame_plain bA) ⟨rfl, rfl⟩

set_option maxRecDepth 10000 in
set_option maxHeartbeats 4000000 in
theorem findE (A : Array Value) (hA : A.size = 20) (bA : A.all isByte = true) (h : AH) :
    ACalls Try.prog 7 #[.slice none 0 0, .agg A] h (fun v h' => v = .agg (fame A 0 0) ∧ h' = h) := by
  have hA2 : A.extract 0 20 = A := by rw [Array.extract_eq_self_of_le]; omega
  refine ACalls.of_ay Try.func7 rfl Try.ntmps7 ⟨_, _, rfl, rfl⟩ ?_; simp only [List.length_cons, List.length_nil, Nat.reduceAdd, Nat.reduceSub, List.replicate_succ, List.replicate_zero, List.cons_append, List.nil_append]
  simp (implicitDefEqProofs := false) only [go_sem, Nat.reduceAdd, Nat.reduceSub, Nat.reduceMul, Nat.reduceLT, Nat.reduceLeDiff, Nat.reduceEqDiff, Nat.reduceBEq, Nat.reduceBNe, Nat.reducePow, Int.reduceBEq, Int.reduceBNe, Int.reduceEq, Int.reduceLT, Int.reduceLE, Int.reduceNeg, Int.reduceToNat, Int.reduceMul, Int.reduceAdd, Int.reduceSub, Int.reducePow, Int.reduceFDiv, reduceCtorEq, reduceIte, fame_mk, fame_all hA, fame_addr hA, fame_size hA, fame_seen hA, fame_incl hA, fame0_size, fame_zblit hA, zeros_size22, fame0_blit hA, fame0_addr hA, fame_set_seen hA, fame_set_incl hA, hA, bA, hA2, List.size_toArray]
  refine astep_call (bookE _) ?_
  simp (implicitDefEqProofs := false) only [go_sem, Nat.reduceAdd, Nat.reduceSub, Nat.reduceMul, Nat.reduceLT, Nat.reduceLeDiff, Nat.reduceEqDiff, Nat.reduceBEq, Nat.reduceBNe, Nat.reducePow, Int.reduceBEq, Int.reduceBNe, Int.reduceEq, Int.reduceLT, Int.reduceLE, Int.reduceNeg, Int.reduceToNat, Int.reduceMul, Int.reduceAdd, Int.reduceSub, Int.reducePow, Int.reduceFDiv, reduceCtorEq, reduceIte, fame_mk, fame_all hA, fame_addr hA, fame_size hA, fame_seen hA, fame_incl hA, fame0_size, fame_zblit hA, zeros_size22, fame0_blit hA, fame0_addr hA, fame_set_seen hA, fame_set_incl hA, hA, bA, hA2, List.size_toArray]
  refine astep_call (amongE A hA bA _) ?_
  simp (implicitDefEqProofs := false) only [go_sem, Nat.reduceAdd, Nat.reduceSub, Nat.reduceMul, Nat.reduceLT, Nat.reduceLeDiff, Nat.reduceEqDiff, Nat.reduceBEq, Nat.reduceBNe, Nat.reducePow, Int.reduceBEq, Int.reduceBNe, Int.reduceEq, Int.reduceLT, Int.reduceLE, Int.reduceNeg, Int.reduceToNat, Int.reduceMul, Int.reduceAdd, Int.reduceSub, Int.reducePow, Int.reduceFDiv, reduceCtorEq, reduceIte, fame_mk, fame_all hA, fame_addr hA, fame_size hA, fame_seen hA, fame_incl hA, fame0_size, fame_zblit hA, zeros_size22, fame0_blit hA, fame0_addr hA, fame_set_seen hA, fame_set_incl hA, hA, bA, hA2, List.size_toArray]
  exact apost_cell (v := .agg (fame A 0 0)) (p := .pointer (some ⟨h.length + 1, 0, none⟩)) rfl (fame_plain bA) ⟨rfl, rfl⟩ _ _ (by simp only [List.getD_cons_succ, List.getD_cons_zero]) (by simp (implicitDefEqProofs := false) only [go_sem, Nat.reduceAdd, Nat.reduceSub, Nat.reduceMul, Nat.reduceLT, Nat.reduceLeDiff, Nat.reduceEqDiff, Nat.reduceBEq, Nat.reduceBNe, Nat.reducePow, Int.reduceBEq, Int.reduceBNe, Int.reduceEq, Int.reduceLT, Int.reduceLE, Int.reduceNeg, Int.reduceToNat, Int.reduceMul, Int.reduceAdd, Int.reduceSub, Int.reducePow, Int.reduceFDiv, reduceCtorEq, reduceIte, fame_mk, fame_all hA, fame_addr hA, fame_size hA, fame_seen hA, fame_incl hA, fame0_size, fame_zblit hA, zeros_size22, fame0_blit hA, fame0_addr hA, fame_set_seen hA, fame_set_incl hA, hA, bA, hA2, List.size_toArray])

set_option maxRecDepth 10000 in
set_option maxHeartbeats 4000000 in
theorem findS (A : Array Value) (hA : A.size = 20) (bA : A.all isByte = true) (s i : Int) {b : Nat} {rw : Bool} {h : AH} (hb : h[b]? = some (.cells (fame A s i) 22 rw)) (hn : ¬ (s = 0 ∧ i = 0)) :
    ACalls Try.prog 7 #[.slice (some ⟨b, 0, none⟩) 1 1, .agg A] h (fun v h' => v = .agg (fame A s i) ∧ h' = h) := by
  have hA2 : A.extract 0 20 = A := by rw [Array.extract_eq_self_of_le]; omega
  have hself : cmpV A A = 0 := cmpV_self A
  have hlt : ¬ (0 : Int) < 0 := by omega
  refine ACalls.of_ay Try.func7 rfl Try.ntmps7 ⟨_, _, rfl, rfl⟩ ?_; simp only [List.length_cons, List.length_nil, Nat.reduceAdd, Nat.reduceSub, List.replicate_succ, List.replicate_zero, List.cons_append, List.nil_append]
  simp (implicitDefEqProofs := false) only [go_sem, Nat.reduceAdd, Nat.reduceSub, Nat.reduceMul, Nat.reduceLT, Nat.reduceLeDiff, Nat.reduceEqDiff, Nat.reduceBEq, Nat.reduceBNe, Nat.reducePow, Int.reduceBEq, Int.reduceBNe, Int.reduceEq, Int.reduceLT, Int.reduceLE, Int.reduceNeg, Int.reduceToNat, Int.reduceMul, Int.reduceAdd, Int.reduceSub, Int.reducePow, Int.reduceFDiv, reduceCtorEq, reduceIte, fame_mk, fame_all hA, fame_addr hA, fame_size hA, fame_seen hA, fame_incl hA, fame0_size, fame_zblit hA, zeros_size22, fame0_blit hA, fame0_addr hA, fame_set_seen hA, fame_set_incl hA, hA, bA, hA2, List.size_toArray]
  have hc := bookS1 A hA bA s i (at_old hb [.cells A 0 true, .cells (fame (Array.replicate 20 (.int .u8 0)) 0 0) 0 true]) hn
  refine astep_call hc ?_
  simp (implicitDefEqProofs := false) only [go_sem, Nat.reduceAdd, Nat.reduceSub, Nat.reduceMul, Nat.reduceLT, Nat.reduceLeDiff, Nat.reduceEqDiff, Nat.reduceBEq, Nat.reduceBNe, Nat.reducePow, Int.reduceBEq, Int.reduceBNe, Int.reduceEq, Int.reduceLT, Int.reduceLE, Int.reduceNeg, Int.reduceToNat, Int.reduceMul, Int.reduceAdd, Int.reduceSub, Int.reducePow, Int.reduceFDiv, reduceCtorEq, reduceIte, fame_mk, fame_all hA, fame_addr hA, fame_size hA, fame_seen hA, fame_incl hA, fame0_size, fame_zblit hA, zeros_size22, fame0_blit hA, fame0_addr hA, fame_set_seen hA, fame_set_incl hA, hA, bA, hA2, List.size_toArray]
  have hc := amongS A A hA hA bA bA s i (b := h.length + 2) (h := h ++ [.cells A 0 true, .cells (fame (Array.replicate 20 (.int .u8 0)) 0 0) 0 true, .cells (fame A s i) 22 true]) (by simp)
  rw [hself] at hc
  refine astep_call hc ?_
  simp (implicitDefEqProofs := false) only [go_sem, Nat.reduceAdd, Nat.reduceSub, Nat.reduceMul, Nat.reduceLT, Nat.reduceLeDiff, Nat.reduceEqDiff, Nat.reduceBEq, Nat.reduceBNe, Nat.reducePow, Int.reduceBEq, Int.reduceBNe, Int.reduceEq, Int.reduceLT, Int.reduceLE, Int.reduceNeg, Int.reduceToNat, Int.reduceMul, Int.reduceAdd, Int.reduceSub, Int.reducePow, Int.reduceFDiv, reduceCtorEq, reduceIte, hlt, fame_mk, fame_all hA, fame_addr hA, fame_size hA, fame_seen hA, fame_incl hA, fame0_size, fame_zblit hA, zeros_size22, fame0_blit hA, fame0_addr hA, fame_set_seen hA, fame_set_incl hA, hA, bA, hA2, List.size_toArray]
  exact apost_cell (v := .agg (fame A s i)) (p := .pointer (some ⟨h.length + 1, 0, none⟩)) rfl (fame_plain bA) ⟨rfl, rfl⟩ _ _ (by simp only [List.getD_cons_succ, List.getD_cons_zero]) (by simp (implicitDefEqProofs := false) only [go_sem, Nat.reduceAdd, Nat.reduceSub, Nat.reduceMul, Nat.reduceLT, Nat.reduceLeDiff, Nat.reduceEqDiff, Nat.reduceBEq, Nat.reduceBNe, Nat.reducePow, Int.reduceBEq, Int.reduceBNe, Int.reduceEq, Int.reduceLT, Int.reduceLE, Int.reduceNeg, Int.reduceToNat, Int.reduceMul, Int.reduceAdd, Int.reduceSub, Int.reducePow, Int.reduceFDiv, reduceCtorEq, reduceIte, fame_mk, fame_all hA, fame_addr hA, fame_size hA, fame_seen hA, fame_incl hA, fame0_size, fame_zblit hA, zeros_size22, fame0_blit hA, fame0_addr hA, fame_set_seen hA, fame_set_incl hA, hA, bA, hA2, List.size_toArray])

end Go.Proofs
