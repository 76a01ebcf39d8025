import Derived.Test.YtlimncmlocojkaaDoorFacts
import Derived.Test.YtlimncmlocojkaaDoorAm40x
set_option linter.unusedSimpArgs false
set_option linter.unusedVariables false
/- turning round -/
namespace Go.Proofs
open Go Go.Am

set_option maxRecDepth 10000 in
set_option maxHeartbeats 4000000 in
theorem rotl_calls (a : UInt32) (n : Nat) (h0 : 0 < n) (h1 : n < 32) (h : AH) :
    ACalls Tryd.prog 15 #[.int .u32 ((a.toNat : Nat) : Int), .int .i64 (-(n : Int))] h (fun v h' => v = .int .u32 (((ror a n).toNat : Nat) : Int) ∧ h' = h) := by
  refine ACalls.of_ay Tryd.func15 rfl Tryd.ntmps15 ⟨_, _, rfl, rfl⟩ ?_; simp only [List.length_cons, List.length_nil, Nat.reduceAdd, Nat.reduceSub, List.replicate_succ, List.replicate_zero, List.cons_append, List.nil_append]
  have e1 : IntKind.u64.wrap (-(n : Int)) = ((18446744073709551616 - n : Nat) : Int) := by
    simp only [IntKind.wrap, IntKind.bits, IntKind.signed, Bool.false_and, Bool.false_eq_true, if_false]; omega
  have e2 : IntKind.u64.wrap ((BitVec.ofInt 64 ((18446744073709551616 - n : Nat) : Int) &&& BitVec.ofInt 64 31).toNat : Nat) = ((32 - n : Nat) : Int) := by
    have h3 : n = 1 ∨ n = 2 ∨ n = 3 ∨ n = 4 ∨ n = 5 ∨ n = 6 ∨ n = 7 ∨ n = 8 ∨ n = 9 ∨ n = 10 ∨ n = 11 ∨ n = 12 ∨ n = 13 ∨ n = 14 ∨ n = 15 ∨ n = 16 ∨ n = 17 ∨ n = 18 ∨ n = 19 ∨ n = 20 ∨ n = 21 ∨ n = 22 ∨ n = 23 ∨ n = 24 ∨ n = 25 ∨ n = 26 ∨ n = 27 ∨ n = 28 ∨ n = 29 ∨ n = 30 ∨ n = 31 := by omega
    rcases h3 with rfl | rfl | rfl | rfl | rfl | rfl | rfl | rfl | rfl | rfl | rfl | rfl | rfl | rfl | rfl | rfl | rfl | rfl | rfl | rfl | rfl | rfl | rfl | rfl | rfl | rfl | rfl | rfl | rfl | rfl | rfl <;> decide
  have e5 : ∀ {t : TypeId} {x y : Operand}, abinOp Tryd.prog .and t x y (.int .u64 ((18446744073709551616 - n : Nat) : Int)) (.int .u64 31) = some (.int .u64 ((32 - n : Nat) : Int)) := by
    intro t x y
    rw [abin_and]
    exact congrArg (fun n => some (Value.int .u64 n)) e2
  have e3 : IntKind.u64.wrap ((32 : Int) - ((32 - n : Nat) : Int)) = ((n : Nat) : Int) := by rw [wrap_u64_of _ (by omega) (by omega)]; omega
  have e4 : shlN a (32 - n) ||| shrN a n = ror a n := UInt32.or_comm _ _
  simp (implicitDefEqProofs := false) only [go_sem, Nat.reduceAdd, Nat.reduceSub, Nat.reduceMul, Nat.reduceLT, Nat.reduceLeDiff, Nat.reduceEqDiff, Nat.reduceBEq, Nat.reduceBNe, Nat.reducePow, Int.reduceBEq, Int.reduceBNe, Int.reduceEq, Int.reduceLT, Int.reduceLE, Int.reduceNeg, Int.reduceToNat, Int.reduceMul, Int.reduceAdd, Int.reduceSub, Int.reducePow, Int.reduceFDiv, reduceCtorEq, reduceIte, e1, e5, e3, e4, abin_shl32, abin_shr32]
  exact apost_tmp0 rfl rfl ⟨rfl, rfl⟩ _ rfl

set_option maxRecDepth 10000 in
set_option maxHeartbeats 4000000 in
theorem right_calls (a : UInt32) (n : Nat) (h0 : 0 < n) (h1 : n < 32) (h : AH) :
    ACalls Tryd.prog 12 #[.int .u32 ((a.toNat : Nat) : Int), .int .i64 (n : Int)] h (fun v h' => v = .int .u32 (((ror a n).toNat : Nat) : Int) ∧ h' = h) := by
  refine ACalls.of_ay Tryd.func12 rfl Tryd.ntmps12 ⟨_, _, rfl, rfl⟩ ?_; simp only [List.length_cons, List.length_nil, Nat.reduceAdd, Nat.reduceSub, List.replicate_succ, List.replicate_zero, List.cons_append, List.nil_append]
  have e1 : aunOp Tryd.prog .neg (.int .i64 (n : Int)) = some (.int .i64 (-(n : Int))) := by
    show some (Value.int .i64 (IntKind.i64.wrap (0 - (n : Int)))) = _
    rw [wrap_i64_of _ (by omega) (by omega), Int.zero_sub]
  simp (implicitDefEqProofs := false) only [go_sem, Nat.reduceAdd, Nat.reduceSub, Nat.reduceMul, Nat.reduceLT, Nat.reduceLeDiff, Nat.reduceEqDiff, Nat.reduceBEq, Nat.reduceBNe, Nat.reducePow, Int.reduceBEq, Int.reduceBNe, Int.reduceEq, Int.reduceLT, Int.reduceLE, Int.reduceNeg, Int.reduceToNat, Int.reduceMul, Int.reduceAdd, Int.reduceSub, Int.reducePow, Int.reduceFDiv, reduceCtorEq, reduceIte, e1]
  refine astep_call (rotl_calls a n h0 h1 _) ?_
  simp (implicitDefEqProofs := false) only [go_sem, Nat.reduceAdd, Nat.reduceSub, Nat.reduceMul, Nat.reduceLT, Nat.reduceLeDiff, Nat.reduceEqDiff, Nat.reduceBEq, Nat.reduceBNe, Nat.reducePow, Int.reduceBEq, Int.reduceBNe, Int.reduceEq, Int.reduceLT, Int.reduceLE, Int.reduceNeg, Int.reduceToNat, Int.reduceMul, Int.reduceAdd, Int.reduceSub, Int.reducePow, Int.reduceFDiv, reduceCtorEq, reduceIte]
  exact apost_tmp0 rfl rfl ⟨rfl, rfl⟩ _ rfl

set_option maxRecDepth 10000 in
set_option maxHeartbeats 4000000 in
theorem rrot_calls (a : UInt32) (n : Nat) (h0 : 0 < n) (h1 : n < 32) (h : AH) :
    ACalls Tryd.prog 13 #[.int .u32 ((a.toNat : Nat) : Int), .int .i64 (n : Int)] h (fun v h' => v = .int .u32 (((ror a n).toNat : Nat) : Int) ∧ h' = h) := by
  refine ACalls.of_ay Tryd.func13 rfl Tryd.ntmps13 ⟨_, _, rfl, rfl⟩ ?_; simp only [List.length_cons, List.length_nil, Nat.reduceAdd, Nat.reduceSub, List.replicate_succ, List.replicate_zero, List.cons_append, List.nil_append]
  have e1 : IntKind.u64.wrap (n : Int) = (n : Int) := wrap_u64_of _ (by omega) (by omega)
  have e2 : IntKind.i64.wrap ((32 : Int) - (n : Int)) = ((32 - n : Nat) : Int) := by rw [wrap_i64_of _ (by omega) (by omega)]; omega
  have e3 : IntKind.u64.wrap ((32 - n : Nat) : Int) = ((32 - n : Nat) : Int) := wrap_u64_of _ (by omega) (by omega)
  simp (implicitDefEqProofs := false) only [go_sem, Nat.reduceAdd, Nat.reduceSub, Nat.reduceMul, Nat.reduceLT, Nat.reduceLeDiff, Nat.reduceEqDiff, Nat.reduceBEq, Nat.reduceBNe, Nat.reducePow, Int.reduceBEq, Int.reduceBNe, Int.reduceEq, Int.reduceLT, Int.reduceLE, Int.reduceNeg, Int.reduceToNat, Int.reduceMul, Int.reduceAdd, Int.reduceSub, Int.reducePow, Int.reduceFDiv, reduceCtorEq, reduceIte, e1, e2, e3, abin_shl32, abin_shr32]
  exact apost_tmp0 rfl rfl ⟨rfl, rfl⟩ _ rfl
theorem right2 (a : UInt32) (h : AH) : ACalls Tryd.prog 12 #[.int .u32 ((a.toNat : Nat) : Int), .int .i64 2] h (fun v h' => v = .int .u32 (((ror a 2).toNat : Nat) : Int) ∧ h' = h) := right_calls a 2 (by decide) (by decide) h
theorem rrot2 (a : UInt32) (h : AH) : ACalls Tryd.prog 13 #[.int .u32 ((a.toNat : Nat) : Int), .int .i64 2] h (fun v h' => v = .int .u32 (((ror a 2).toNat : Nat) : Int) ∧ h' = h) := rrot_calls a 2 (by decide) (by decide) h
theorem right6 (a : UInt32) (h : AH) : ACalls Tryd.prog 12 #[.int .u32 ((a.toNat : Nat) : Int), .int .i64 6] h (fun v h' => v = .int .u32 (((ror a 6).toNat : Nat) : Int) ∧ h' = h) := right_calls a 6 (by decide) (by decide) h
theorem rrot6 (a : UInt32) (h : AH) : ACalls Tryd.prog 13 #[.int .u32 ((a.toNat : Nat) : Int), .int .i64 6] h (fun v h' => v = .int .u32 (((ror a 6).toNat : Nat) : Int) ∧ h' = h) := rrot_calls a 6 (by decide) (by decide) h
theorem right7 (a : UInt32) (h : AH) : ACalls Tryd.prog 12 #[.int .u32 ((a.toNat : Nat) : Int), .int .i64 7] h (fun v h' => v = .int .u32 (((ror a 7).toNat : Nat) : Int) ∧ h' = h) := right_calls a 7 (by decide) (by decide) h
theorem rrot7 (a : UInt32) (h : AH) : ACalls Tryd.prog 13 #[.int .u32 ((a.toNat : Nat) : Int), .int .i64 7] h (fun v h' => v = .int .u32 (((ror a 7).toNat : Nat) : Int) ∧ h' = h) := rrot_calls a 7 (by decide) (by decide) h
theorem right11 (a : UInt32) (h : AH) : ACalls Tryd.prog 12 #[.int .u32 ((a.toNat : Nat) : Int), .int .i64 11] h (fun v h' => v = .int .u32 (((ror a 11).toNat : Nat) : Int) ∧ h' = h) := right_calls a 11 (by decide) (by decide) h
theorem rrot11 (a : UInt32) (h : AH) : ACalls Tryd.prog 13 #[.int .u32 ((a.toNat : Nat) : Int), .int .i64 11] h (fun v h' => v = .int .u32 (((ror a 11).toNat : Nat) : Int) ∧ h' = h) := rrot_calls a 11 (by decide) (by decide) h
theorem right13 (a : UInt32) (h : AH) : ACalls Tryd.prog 12 #[.int .u32 ((a.toNat : Nat) : Int), .int .i64 13] h (fun v h' => v = .int .u32 (((ror a 13).toNat : Nat) : Int) ∧ h' = h) := right_calls a 13 (by decide) (by decide) h
theorem rrot13 (a : UInt32) (h : AH) : ACalls Tryd.prog 13 #[.int .u32 ((a.toNat : Nat) : Int), .int .i64 13] h (fun v h' => v = .int .u32 (((ror a 13).toNat : Nat) : Int) ∧ h' = h) := rrot_calls a 13 (by decide) (by decide) h
theorem right17 (a : UInt32) (h : AH) : ACalls Tryd.prog 12 #[.int .u32 ((a.toNat : Nat) : Int), .int .i64 17] h (fun v h' => v = .int .u32 (((ror a 17).toNat : Nat) : Int) ∧ h' = h) := right_calls a 17 (by decide) (by decide) h
theorem rrot17 (a : UInt32) (h : AH) : ACalls Tryd.prog 13 #[.int .u32 ((a.toNat : Nat) : Int), .int .i64 17] h (fun v h' => v = .int .u32 (((ror a 17).toNat : Nat) : Int) ∧ h' = h) := rrot_calls a 17 (by decide) (by decide) h
theorem right18 (a : UInt32) (h : AH) : ACalls Tryd.prog 12 #[.int .u32 ((a.toNat : Nat) : Int), .int .i64 18] h (fun v h' => v = .int .u32 (((ror a 18).toNat : Nat) : Int) ∧ h' = h) := right_calls a 18 (by decide) (by decide) h
theorem rrot18 (a : UInt32) (h : AH) : ACalls Tryd.prog 13 #[.int .u32 ((a.toNat : Nat) : Int), .int .i64 18] h (fun v h' => v = .int .u32 (((ror a 18).toNat : Nat) : Int) ∧ h' = h) := rrot_calls a 18 (by decide) (by decide) h
theorem right19 (a : UInt32) (h : AH) : ACalls Tryd.prog 12 #[.int .u32 ((a.toNat : Nat) : Int), .int .i64 19] h (fun v h' => v = .int .u32 (((ror a 19).toNat : Nat) : Int) ∧ h' = h) := right_calls a 19 (by decide) (by decide) h
theorem rrot19 (a : UInt32) (h : AH) : ACalls Tryd.prog 13 #[.int .u32 ((a.toNat : Nat) : Int), .int .i64 19] h (fun v h' => v = .int .u32 (((ror a 19).toNat : Nat) : Int) ∧ h' = h) := rrot_calls a 19 (by decide) (by decide) h
theorem right22 (a : UInt32) (h : AH) : ACalls Tryd.prog 12 #[.int .u32 ((a.toNat : Nat) : Int), .int .i64 22] h (fun v h' => v = .int .u32 (((ror a 22).toNat : Nat) : Int) ∧ h' = h) := right_calls a 22 (by decide) (by decide) h
theorem rrot22 (a : UInt32) (h : AH) : ACalls Tryd.prog 13 #[.int .u32 ((a.toNat : Nat) : Int), .int .i64 22] h (fun v h' => v = .int .u32 (((ror a 22).toNat : Nat) : Int) ∧ h' = h) := rrot_calls a 22 (by decide) (by decide) h
theorem right25 (a : UInt32) (h : AH) : ACalls Tryd.prog 12 #[.int .u32 ((a.toNat : Nat) : Int), .int .i64 25] h (fun v h' => v = .int .u32 (((ror a 25).toNat : Nat) : Int) ∧ h' = h) := right_calls a 25 (by decide) (by decide) h
theorem rrot25 (a : UInt32) (h : AH) : ACalls Tryd.prog 13 #[.int .u32 ((a.toNat : Nat) : Int), .int .i64 25] h (fun v h' => v = .int .u32 (((ror a 25).toNat : Nat) : Int) ∧ h' = h) := rrot_calls a 25 (by decide) (by decide) h
end Go.Proofs
