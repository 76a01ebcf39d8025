import Derived.Test.YtihdilnanhjedaaWord3
set_option linter.unusedSimpArgs false
set_option linter.unusedVariables false
set_option maxRecDepth 100000
namespace Go.Proofs
open Go Go.Am

/-- a word that is small -/
def smallV (a : Word4) : Value := .tuple #[.int .u64 (if valW a < 2 ^ 64 then ((a[0].toNat : Nat) : Int) else 0), .bool (decide (valW a < 2 ^ 64))]
theorem smallV_yes {a : Word4} (h : valW a < 2 ^ 64) : smallV a = .tuple #[.int .u64 ((a[0].toNat : Nat) : Int), .bool true] := by unfold smallV; rw [if_pos h, decide_eq_true h]
theorem smallV_no {a : Word4} (h : ¬ valW a < 2 ^ 64) : smallV a = .tuple #[.int .u64 0, .bool false] := by unfold smallV; rw [if_neg h, decide_eq_false h]

set_option maxRecDepth 10000 in
set_option maxHeartbeats 4000000 in
theorem wsmall_calls (a : Word4) (h : AH) :
    ACalls Try.prog 34 #[.agg (encWord a).toArray] h (fun v h' => v = smallV a ∧ h' = h) := by
  refine ACalls.of_ay Try.func34 rfl Try.ntmps34 ⟨_, _, rfl, rfl⟩ ?_; simp only [List.length_cons, List.length_nil, Nat.reduceAdd, Nat.reduceSub, List.replicate_succ, List.replicate_zero, List.cons_append, List.nil_append]
  have b0 := a[0].toNat_lt; have b1 := a[1].toNat_lt; have b2 := a[2].toNat_lt; have b3 := a[3].toNat_lt
  have hv : valW a < 2 ^ 64 ↔ (a[1] ||| a[2] ||| a[3]).toNat = 0 := by
    rw [UInt64.toNat_or, UInt64.toNat_or, Nat.or_eq_zero_iff, Nat.or_eq_zero_iff]
    unfold valW; omega
  cases q1 : (((((a[1] ||| a[2] ||| a[3]).toNat : Nat) : Int)) != 0) with
  | true =>
    have hn : ¬ valW a < 2 ^ 64 := by rw [hv]; rw [bne_iff_ne] at q1; omega
    rw [smallV_no hn]
    simp (implicitDefEqProofs := false) (maxSteps := 2000000) only [go_sem, Nat.reduceAdd, Nat.reduceSub, Nat.reduceMul, Nat.reduceLT, Nat.reduceLeDiff, Nat.reduceEqDiff, Nat.reduceBEq, Nat.reduceBNe, Nat.reducePow, Int.reduceBEq, Int.reduceBNe, Int.reduceEq, Int.reduceLT, Int.reduceLE, Int.reduceNeg, Int.reduceToNat, Int.reduceMul, Int.reduceAdd, Int.reduceSub, Int.reducePow, Int.reduceFDiv, reduceCtorEq, reduceIte, encWord_get a (show 0 < 4 by decide), encWord_get a (show 1 < 4 by decide), encWord_get a (show 2 < 4 by decide), encWord_get a (show 3 < 4 by decide), q1]
    exact apost_nb rfl rfl rfl ⟨rfl, rfl⟩
  | false =>
    have hn : valW a < 2 ^ 64 := by rw [hv]; simp only [bne_eq_false_iff_eq] at q1; omega
    rw [smallV_yes hn]
    simp (implicitDefEqProofs := false) (maxSteps := 2000000) only [go_sem, Nat.reduceAdd, Nat.reduceSub, Nat.reduceMul, Nat.reduceLT, Nat.reduceLeDiff, Nat.reduceEqDiff, Nat.reduceBEq, Nat.reduceBNe, Nat.reducePow, Int.reduceBEq, Int.reduceBNe, Int.reduceEq, Int.reduceLT, Int.reduceLE, Int.reduceNeg, Int.reduceToNat, Int.reduceMul, Int.reduceAdd, Int.reduceSub, Int.reducePow, Int.reduceFDiv, reduceCtorEq, reduceIte, encWord_get a (show 0 < 4 by decide), encWord_get a (show 1 < 4 by decide), encWord_get a (show 2 < 4 by decide), encWord_get a (show 3 < 4 by decide), q1]
    exact apost_nb rfl rfl rfl ⟨rfl, rfl⟩
end Go.Proofs
