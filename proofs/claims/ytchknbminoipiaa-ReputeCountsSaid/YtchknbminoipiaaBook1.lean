import Derived.Test.YtchknbminoipiaaFacts
import Derived.Test.YtchknbminoipiaaAm49x
set_option linter.unusedSimpArgs false
set_option linter.unusedVariables false
namespace Go.Proofs
open Go Go.Am

set_option maxRecDepth 10000 in
set_option maxHeartbeats 4000000 in
theorem bytesCompare_calls {A B : Array Value} {b b2 n n2 : Nat} {es es2 : Nat} {rw rw2 : Bool} {h : AH} (hn : (n == 0) = false) (hn2 : (n2 == 0) = false) (hb : h[b]? = some (.cells A es rw)) (hb2 : h[b2]? = some (.cells B es2 rw2)) (hA : n ≤ A.size) (hB : n2 ≤ B.size) (bA : (A.extract 0 n).all isByte = true) (bB : (B.extract 0 n2).all isByte = true) :
    ACalls Try.prog 20 #[.slice (some ⟨b, 0, none⟩) n n, .slice (some ⟨b2, 0, none⟩) n2 n2] h (fun v h' => v = .int .i64 (cmpV (A.extract 0 n) (B.extract 0 n2)) ∧ h' = h) := by
  refine ACalls.of_ay Try.func20 rfl Try.ntmps20 ⟨_, _, rfl, rfl⟩ ?_; simp only [List.length_cons, List.length_nil, Nat.reduceAdd, Nat.reduceSub, List.replicate_succ, List.replicate_zero, List.cons_append, List.nil_append]
  simp (implicitDefEqProofs := false) only [go_sem, Nat.reduceAdd, Nat.reduceSub, Nat.reduceMul, Nat.reduceLT, Nat.reduceLeDiff, Nat.reduceEqDiff, Nat.reduceBEq, Nat.reduceBNe, Nat.reducePow, Int.reduceBEq, Int.reduceBNe, Int.reduceEq, Int.reduceLT, Int.reduceLE, Int.reduceNeg, Int.reduceToNat, Int.reduceMul, Int.reduceAdd, Int.reduceSub, Int.reducePow, Int.reduceFDiv, reduceCtorEq, reduceIte, hn, hn2, hb, hb2, hA, hB, bA, bB]
  simpa using apost_tmp (P := Try.prog) (fn := Try.f20) (h0 := h) (R := fun v h' => v = .int .i64 (cmpV (A.extract 0 n) (B.extract 0 n2)) ∧ h' = h) rfl rfl ⟨rfl, rfl⟩ _ [] (by simp only [List.getD_cons_succ, List.getD_cons_zero])

set_option maxRecDepth 10000 in
set_option maxHeartbeats 4000000 in
theorem amongFn_calls (A B : Array Value) (hA : A.size = 20) (hB : B.size = 20) (bA : A.all isByte = true) (bB : B.all isByte = true) (s i : Int) (h : AH) :
    ACalls Try.prog 19 #[.agg (fame A s i), .agg B] h (fun v h' => v = .int .i64 (cmpV A B) ∧ h' = h) := by
  have hB2 : B.extract 0 20 = B := by rw [Array.extract_eq_self_of_le]; omega
  refine ACalls.of_ay Try.func19 rfl Try.ntmps19 ⟨_, _, rfl, rfl⟩ ?_; simp only [List.length_cons, List.length_nil, Nat.reduceAdd, Nat.reduceSub, List.replicate_succ, List.replicate_zero, List.cons_append, List.nil_append]
  simp (implicitDefEqProofs := false) only [go_sem, Nat.reduceAdd, Nat.reduceSub, Nat.reduceMul, Nat.reduceLT, Nat.reduceLeDiff, Nat.reduceEqDiff, Nat.reduceBEq, Nat.reduceBNe, Nat.reducePow, Int.reduceBEq, Int.reduceBNe, Int.reduceEq, Int.reduceLT, Int.reduceLE, Int.reduceNeg, Int.reduceToNat, Int.reduceMul, Int.reduceAdd, Int.reduceSub, Int.reducePow, Int.reduceFDiv, reduceCtorEq, reduceIte, fame_mk, fame_all hA, fame_addr hA, fame_size hA, fame_seen hA, fame_incl hA, hA, hB, bA, bB, List.size_toArray]
  refine ⟨by kernel_rfl, by kernel_rfl, ?_⟩
  have hc := bytesCompare_calls (A := fame A s i) (B := B) (b := h.length) (b2 := h.length + 1) (n := 20) (n2 := 20) (es := 0) (es2 := 0) (rw := true) (rw2 := true) (h := h ++ [AObj.cells (fame A s i) 0 true, AObj.cells B 0 true]) rfl rfl (by simp) (by simp) (by rw [fame_size hA]; omega) (by omega) (by rw [fame_addr hA]; exact bA) (by rw [hB2]; exact bB)
  rw [fame_addr hA, hB2] at hc
  refine dstep_call hc pres_refl ?_
  simp (implicitDefEqProofs := false) only [go_sem, Nat.reduceAdd, Nat.reduceSub, Nat.reduceMul, Nat.reduceLT, Nat.reduceLeDiff, Nat.reduceEqDiff, Nat.reduceBEq, Nat.reduceBNe, Nat.reducePow, Int.reduceBEq, Int.reduceBNe, Int.reduceEq, Int.reduceLT, Int.reduceLE, Int.reduceNeg, Int.reduceToNat, Int.reduceMul, Int.reduceAdd, Int.reduceSub, Int.reducePow, Int.reduceFDiv, reduceCtorEq, reduceIte, fame_mk, fame_all hA, fame_addr hA, fame_size hA, fame_seen hA, fame_incl hA, hA, hB, bA, bB, List.size_toArray]
  exact apost_tmp rfl rfl ⟨rfl, rfl⟩ _ _ (by simp only [List.getD_cons_succ, List.getD_cons_zero])

end Go.Proofs
