import Derived.Test.YtchknbminoipiaaBook2
set_option linter.unusedSimpArgs false
set_option linter.unusedVariables false
namespace Go.Proofs
open Go Go.Am

set_option maxRecDepth 10000 in
set_option maxHeartbeats 4000000 in
theorem amongE (B : Array Value) (hB : B.size = 20) (bB : B.all isByte = true) (h : AH) :
    ACalls Try.prog 14 #[.slice none 0 0, .agg B] h (fun v h' => v = .tuple #[.int .i64 0, .bool false] ∧ h' = h) := by
  have hB2 : B.extract 0 20 = B := by rw [Array.extract_eq_self_of_le]; omega
  refine ACalls.of_ay Try.func14 rfl Try.ntmps14 ⟨_, _, rfl, rfl⟩ ?_; simp only [List.length_cons, List.length_nil, Nat.reduceAdd, Nat.reduceSub, List.replicate_succ, List.replicate_zero, List.cons_append, List.nil_append]
  simp (implicitDefEqProofs := false) only [go_sem, Nat.reduceAdd, Nat.reduceSub, Nat.reduceMul, Nat.reduceLT, Nat.reduceLeDiff, Nat.reduceEqDiff, Nat.reduceBEq, Nat.reduceBNe, Nat.reducePow, Int.reduceBEq, Int.reduceBNe, Int.reduceEq, Int.reduceLT, Int.reduceLE, Int.reduceNeg, Int.reduceToNat, Int.reduceMul, Int.reduceAdd, Int.reduceSub, Int.reducePow, Int.reduceFDiv, reduceCtorEq, reduceIte, hB, hB2, bB, List.size_toArray]
  refine astep_call (searchE B hB bB _) ?_
  simp (implicitDefEqProofs := false) only [go_sem, Nat.reduceAdd, Nat.reduceSub, Nat.reduceMul, Nat.reduceLT, Nat.reduceLeDiff, Nat.reduceEqDiff, Nat.reduceBEq, Nat.reduceBNe, Nat.reducePow, Int.reduceBEq, Int.reduceBNe, Int.reduceEq, Int.reduceLT, Int.reduceLE, Int.reduceNeg, Int.reduceToNat, Int.reduceMul, Int.reduceAdd, Int.reduceSub, Int.reducePow, Int.reduceFDiv, reduceCtorEq, reduceIte, hB, hB2, bB, List.size_toArray]
  exact apost_tmp2x rfl ⟨rfl, rfl⟩ _ _ (by simp only [List.getD_cons_succ, List.getD_cons_zero]) (by simp only [List.getD_cons_succ, List.getD_cons_zero])

set_option maxRecDepth 10000 in
set_option maxHeartbeats 4000000 in
theorem amongS (A B : Array Value) (hA : A.size = 20) (hB : B.size = 20) (bA : A.all isByte = true) (bB : B.all isByte = true) (s i : Int) {b : Nat} {h : AH} (hb : h[b]? = some (.cells (fame A s i) 22 true)) :
    ACalls Try.prog 14 #[.slice (some ⟨b, 0, none⟩) 1 1, .agg B] h (fun v h' => v = .tuple #[.int .i64 (if cmpV A B < 0 then 1 else 0), .bool (cmpV A B == 0)] ∧ h' = h) := by
  have hB2 : B.extract 0 20 = B := by rw [Array.extract_eq_self_of_le]; omega
  refine ACalls.of_ay Try.func14 rfl Try.ntmps14 ⟨_, _, rfl, rfl⟩ ?_; simp only [List.length_cons, List.length_nil, Nat.reduceAdd, Nat.reduceSub, List.replicate_succ, List.replicate_zero, List.cons_append, List.nil_append]
  simp (implicitDefEqProofs := false) only [go_sem, Nat.reduceAdd, Nat.reduceSub, Nat.reduceMul, Nat.reduceLT, Nat.reduceLeDiff, Nat.reduceEqDiff, Nat.reduceBEq, Nat.reduceBNe, Nat.reducePow, Int.reduceBEq, Int.reduceBNe, Int.reduceEq, Int.reduceLT, Int.reduceLE, Int.reduceNeg, Int.reduceToNat, Int.reduceMul, Int.reduceAdd, Int.reduceSub, Int.reducePow, Int.reduceFDiv, reduceCtorEq, reduceIte, hB, hB2, bB, List.size_toArray]
  have hc := searchS A B hA hB bA bB s i (at_old hb [.cells B 0 true])
  refine astep_call hc ?_
  simp (implicitDefEqProofs := false) only [go_sem, Nat.reduceAdd, Nat.reduceSub, Nat.reduceMul, Nat.reduceLT, Nat.reduceLeDiff, Nat.reduceEqDiff, Nat.reduceBEq, Nat.reduceBNe, Nat.reducePow, Int.reduceBEq, Int.reduceBNe, Int.reduceEq, Int.reduceLT, Int.reduceLE, Int.reduceNeg, Int.reduceToNat, Int.reduceMul, Int.reduceAdd, Int.reduceSub, Int.reducePow, Int.reduceFDiv, reduceCtorEq, reduceIte, hB, hB2, bB, List.size_toArray]
  exact apost_tmp2x rfl ⟨rfl, rfl⟩ _ _ (by simp only [List.getD_cons_succ, List.getD_cons_zero]) (by simp only [List.getD_cons_succ, List.getD_cons_zero])

set_option maxRecDepth 10000 in
set_option maxHeartbeats 4000000 in
theorem insertE (B : Array Value) (hB : B.size = 20) (bB : B.all isByte = true) (s i : Int) {b : Nat} {h : AH} (hb : h[b]? = some (.cells (fame B s i) 22 true)) :
    ACalls Try.prog 17 #[.slice none 0 0, .int .i64 0, .slice (some ⟨b, 0, none⟩) 1 1] h (fun v h' => v = .slice (some ⟨h.length, 0, none⟩) 1 1 ∧ h' = h ++ [.cells (fame B s i) 22 true]) := by
  have hB2 : True := trivial
  refine ACalls.of_ay Try.func17 rfl Try.ntmps17 ⟨_, _, rfl, rfl⟩ ?_
  simp only [List.length_cons, List.length_nil, Nat.reduceAdd, Nat.reduceSub, List.replicate_succ, List.replicate_zero, List.cons_append, List.nil_append]
  simp (implicitDefEqProofs := false) only [go_sem, Nat.reduceAdd, Nat.reduceSub, Nat.reduceMul, Nat.reduceLT, Nat.reduceLeDiff, Nat.reduceEqDiff, Nat.reduceBEq, Nat.reduceBNe, Nat.reducePow, Int.reduceBEq, Int.reduceBNe, Int.reduceEq, Int.reduceLT, Int.reduceLE, Int.reduceNeg, Int.reduceToNat, Int.reduceMul, Int.reduceAdd, Int.reduceSub, Int.reducePow, Int.reduceFDiv, reduceCtorEq, reduceIte, hb, at_old hb, fame_mk, fame_all hB, fame_addr hB, fame_size hB, fame_seen hB, fame_incl hB, fame0_size, fame_zblit hB, zeros_size22, hB, hB2, bB, List.size_toArray]
  exact apost_row (k := 0) (c := fame B s i) (es := 22) (rw := true) (o := 0) (len := 1) (cap := 1) rfl _ (by simp only [List.getD_cons_succ, List.getD_cons_zero, Nat.add_zero]) rfl (fame_plain bB) ⟨rfl, rfl⟩

set_option maxRecDepth 10000 in
set_option maxHeartbeats 4000000 in
theorem putE0 (B : Array Value) (hB : B.size = 20) (bB : B.all isByte = true) (s i : Int) (h : AH) (hs : s = 0) (hi : i = 0) :
    ACalls Try.prog 12 #[.slice none 0 0, .agg (fame B s i)] h (fun v h' => v = .slice none 0 0 ∧ h' = h) := by
  have hB2 : B.extract 0 20 = B := by rw [Array.extract_eq_self_of_le]; omega
  have hs1 : (s == 0) = true := by simp [hs]
  have hi1 : (i == 0) = true := by simp [hi]
  refine ACalls.of_ay Try.func12 rfl Try.ntmps12 ⟨_, _, rfl, rfl⟩ ?_; simp only [List.length_cons, List.length_nil, Nat.reduceAdd, Nat.reduceSub, List.replicate_succ, List.replicate_zero, List.cons_append, List.nil_append]
  simp (implicitDefEqProofs := false) only [go_sem, Nat.reduceAdd, Nat.reduceSub, Nat.reduceMul, Nat.reduceLT, Nat.reduceLeDiff, Nat.reduceEqDiff, Nat.reduceBEq, Nat.reduceBNe, Nat.reducePow, Int.reduceBEq, Int.reduceBNe, Int.reduceEq, Int.reduceLT, Int.reduceLE, Int.reduceNeg, Int.reduceToNat, Int.reduceMul, Int.reduceAdd, Int.reduceSub, Int.reducePow, Int.reduceFDiv, reduceCtorEq, reduceIte, fame_mk, fame_all hB, fame_addr hB, fame_size hB, fame_seen hB, fame_incl hB, fame0_size, fame_zblit hB, zeros_size22, hB, hB2, bB, List.size_toArray]
  refine astep_call (amongE B hB bB _) ?_
  simp (implicitDefEqProofs := false) only [go_sem, Nat.reduceAdd, Nat.reduceSub, Nat.reduceMul, Nat.reduceLT, Nat.reduceLeDiff, Nat.reduceEqDiff, Nat.reduceBEq, Nat.reduceBNe, Nat.reducePow, Int.reduceBEq, Int.reduceBNe, Int.reduceEq, Int.reduceLT, Int.reduceLE, Int.reduceNeg, Int.reduceToNat, Int.reduceMul, Int.reduceAdd, Int.reduceSub, Int.reducePow, Int.reduceFDiv, reduceCtorEq, reduceIte, hs1, hi1, fame_mk, fame_all hB, fame_addr hB, fame_size hB, fame_seen hB, fame_incl hB, fame0_size, fame_zblit hB, zeros_size22, hB, hB2, bB, List.size_toArray]
  exact apost_tmp rfl rfl ⟨rfl, rfl⟩ _ _ (by simp only [List.getD_cons_succ, List.getD_cons_zero])

set_option maxRecDepth 10000 in
set_option maxHeartbeats 4000000 in
theorem putE1 (B : Array Value) (hB : B.size = 20) (bB : B.all isByte = true) (s i : Int) (h : AH) (hn : ¬ (s = 0 ∧ i = 0)) :
    ACalls Try.prog 12 #[.slice none 0 0, .agg (fame B s i)] h (fun v h' => v = .slice (some ⟨h.length, 0, none⟩) 1 1 ∧ h' = h ++ [.cells (fame B s i) 22 true]) := by
  have hB2 : B.extract 0 20 = B := by rw [Array.extract_eq_self_of_le]; omega
  by_cases hs : s = 0
  · have hs1 : (s == 0) = true := by simp [hs]
    have hi1 : (i == 0) = false := by simp; omega
    refine ACalls.of_ay Try.func12 rfl Try.ntmps12 ⟨_, _, rfl, rfl⟩ ?_; simp only [List.length_cons, List.length_nil, Nat.reduceAdd, Nat.reduceSub, List.replicate_succ, List.replicate_zero, List.cons_append, List.nil_append]
    simp (implicitDefEqProofs := false) only [go_sem, Nat.reduceAdd, Nat.reduceSub, Nat.reduceMul, Nat.reduceLT, Nat.reduceLeDiff, Nat.reduceEqDiff, Nat.reduceBEq, Nat.reduceBNe, Nat.reducePow, Int.reduceBEq, Int.reduceBNe, Int.reduceEq, Int.reduceLT, Int.reduceLE, Int.reduceNeg, Int.reduceToNat, Int.reduceMul, Int.reduceAdd, Int.reduceSub, Int.reducePow, Int.reduceFDiv, reduceCtorEq, reduceIte, fame_mk, fame_all hB, fame_addr hB, fame_size hB, fame_seen hB, fame_incl hB, fame0_size, fame_zblit hB, zeros_size22, hB, hB2, bB, List.size_toArray]
    refine astep_call (amongE B hB bB _) ?_
    simp (implicitDefEqProofs := false) only [go_sem, Nat.reduceAdd, Nat.reduceSub, Nat.reduceMul, Nat.reduceLT, Nat.reduceLeDiff, Nat.reduceEqDiff, Nat.reduceBEq, Nat.reduceBNe, Nat.reducePow, Int.reduceBEq, Int.reduceBNe, Int.reduceEq, Int.reduceLT, Int.reduceLE, Int.reduceNeg, Int.reduceToNat, Int.reduceMul, Int.reduceAdd, Int.reduceSub, Int.reducePow, Int.reduceFDiv, reduceCtorEq, reduceIte, hs1, hi1, fame_mk, fame_all hB, fame_addr hB, fame_size hB, fame_seen hB, fame_incl hB, fame0_size, fame_zblit hB, zeros_size22, hB, hB2, bB, List.size_toArray]
    have hc := insertE B hB bB s i (b := h.length + 1) (h := h ++ [.cells (fame B s i) 0 true, .cells (fame B s i) 22 true]) (by simp)
    refine astep_call hc ?_
    simp (implicitDefEqProofs := false) only [go_sem, Nat.reduceAdd, Nat.reduceSub, Nat.reduceMul, Nat.reduceLT, Nat.reduceLeDiff, Nat.reduceEqDiff, Nat.reduceBEq, Nat.reduceBNe, Nat.reducePow, Int.reduceBEq, Int.reduceBNe, Int.reduceEq, Int.reduceLT, Int.reduceLE, Int.reduceNeg, Int.reduceToNat, Int.reduceMul, Int.reduceAdd, Int.reduceSub, Int.reducePow, Int.reduceFDiv, reduceCtorEq, reduceIte, fame_mk, fame_all hB, fame_addr hB, fame_size hB, fame_seen hB, fame_incl hB, fame0_size, fame_zblit hB, zeros_size22, hB, hB2, bB, List.size_toArray]
    exact apost_row (k := 2) (c := fame B s i) (es := 22) (rw := true) (o := 0) (len := 1) (cap := 1) rfl _ (by simp only [List.getD_cons_succ, List.getD_cons_zero, Nat.add_zero]) rfl (fame_plain bB) ⟨rfl, rfl⟩
  · have hs1 : (s == 0) = false := by simp [hs]
    refine ACalls.of_ay Try.func12 rfl Try.ntmps12 ⟨_, _, rfl, rfl⟩ ?_; simp only [List.length_cons, List.length_nil, Nat.reduceAdd, Nat.reduceSub, List.replicate_succ, List.replicate_zero, List.cons_append, List.nil_append]
    simp (implicitDefEqProofs := false) only [go_sem, Nat.reduceAdd, Nat.reduceSub, Nat.reduceMul, Nat.reduceLT, Nat.reduceLeDiff, Nat.reduceEqDiff, Nat.reduceBEq, Nat.reduceBNe, Nat.reducePow, Int.reduceBEq, Int.reduceBNe, Int.reduceEq, Int.reduceLT, Int.reduceLE, Int.reduceNeg, Int.reduceToNat, Int.reduceMul, Int.reduceAdd, Int.reduceSub, Int.reducePow, Int.reduceFDiv, reduceCtorEq, reduceIte, fame_mk, fame_all hB, fame_addr hB, fame_size hB, fame_seen hB, fame_incl hB, fame0_size, fame_zblit hB, zeros_size22, hB, hB2, bB, List.size_toArray]
    refine astep_call (amongE B hB bB _) ?_
    simp (implicitDefEqProofs := false) only [go_sem, Nat.reduceAdd, Nat.reduceSub, Nat.reduceMul, Nat.reduceLT, Nat.reduceLeDiff, Nat.reduceEqDiff, Nat.reduceBEq, Nat.reduceBNe, Nat.reducePow, Int.reduceBEq, Int.reduceBNe, Int.reduceEq, Int.reduceLT, Int.reduceLE, Int.reduceNeg, Int.reduceToNat, Int.reduceMul, Int.reduceAdd, Int.reduceSub, Int.reducePow, Int.reduceFDiv, reduceCtorEq, reduceIte, hs1, fame_mk, fame_all hB, fame_addr hB, fame_size hB, fame_seen hB, fame_incl hB, fame0_size, fame_zblit hB, zeros_size22, hB, hB2, bB, List.size_toArray]
    have hc := insertE B hB bB s i (b := h.length + 1) (h := h ++ [.cells (fame B s i) 0 true, .cells (fame B s i) 22 true]) (by simp)
    refine astep_call hc ?_
    simp (implicitDefEqProofs := false) only [go_sem, Nat.reduceAdd, Nat.reduceSub, Nat.reduceMul, Nat.reduceLT, Nat.reduceLeDiff, Nat.reduceEqDiff, Nat.reduceBEq, Nat.reduceBNe, Nat.reducePow, Int.reduceBEq, Int.reduceBNe, Int.reduceEq, Int.reduceLT, Int.reduceLE, Int.reduceNeg, Int.reduceToNat, Int.reduceMul, Int.reduceAdd, Int.reduceSub, Int.reducePow, Int.reduceFDiv, reduceCtorEq, reduceIte, fame_mk, fame_all hB, fame_addr hB, fame_size hB, fame_seen hB, fame_incl hB, fame0_size, fame_zblit hB, zeros_size22, hB, hB2, bB, List.size_toArray]
    exact apost_row (k := 2) (c := fame B s i) (es := 22) (rw := true) (o := 0) (len := 1) (cap := 1) rfl _ (by simp only [List.getD_cons_succ, List.getD_cons_zero, Nat.add_zero]) rfl (fame_plain bB) ⟨rfl, rfl⟩
end Go.Proofs
