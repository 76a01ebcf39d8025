import Derived.Test.YtihdilnanhjedaaWord3
import Derived.Test.YtihdilnanhjedaaAm55x
set_option linter.unusedSimpArgs false
set_option linter.unusedVariables false
set_option maxRecDepth 100000
namespace Go.Proofs
open Go Go.Am

theorem valW_less {a b : Word4} {i : Nat} (hi : i < 4) (heq : ∀ j (hj : j < 4), i + 1 ≤ j → a[j] = b[j]) (h : a[i].toNat < b[i].toNat) : valW a < valW b := by
  have := a[0].toNat_lt; have := a[1].toNat_lt; have := a[2].toNat_lt; have := a[3].toNat_lt
  have := b[0].toNat_lt; have := b[1].toNat_lt; have := b[2].toNat_lt; have := b[3].toNat_lt
  unfold valW
  have : i = 0 ∨ i = 1 ∨ i = 2 ∨ i = 3 := by omega
  rcases this with rfl | rfl | rfl | rfl
  · rw [heq 1 (by decide) (by decide), heq 2 (by decide) (by decide), heq 3 (by decide) (by decide)]; omega
  · rw [heq 2 (by decide) (by decide), heq 3 (by decide) (by decide)]; omega
  · rw [heq 3 (by decide) (by decide)]; omega
  · omega

set_option maxRecDepth 10000 in
set_option maxHeartbeats 4000000 in
theorem rcmp_calls (a b : Word4) (h : AH) :
    ACalls Try.prog 63 #[.agg (encWord a).toArray, .agg (encWord b).toArray] h (fun v h' => v = .int .i64 (sgn (valW a) (valW b)) ∧ h' = h) := by
  refine ACalls.of_ay Try.func63 rfl Try.ntmps63 ⟨_, _, rfl, rfl⟩ ?_; simp only [List.length_cons, List.length_nil, Nat.reduceAdd, Nat.reduceSub, List.replicate_succ, List.replicate_zero, List.cons_append, List.nil_append]
  simp (implicitDefEqProofs := false) (maxSteps := 2000000) only [go_sem, Nat.reduceAdd, Nat.reduceSub, Nat.reduceMul, Nat.reduceLT, Nat.reduceLeDiff, Nat.reduceEqDiff, Nat.reduceBEq, Nat.reduceBNe, Nat.reducePow, Int.reduceBEq, Int.reduceBNe, Int.reduceEq, Int.reduceLT, Int.reduceLE, Int.reduceNeg, Int.reduceToNat, Int.reduceMul, Int.reduceAdd, Int.reduceSub, Int.reducePow, Int.reduceFDiv, reduceCtorEq, reduceIte]
  refine AWP.loopI (fun i : Nat => i) (fun i => [junk, junk, .pointer (some ⟨h.length, 0, none⟩), .pointer (some ⟨h.length + 1, 0, none⟩), junk, .int .i64 ((i : Int) - 1), junk, junk, junk, junk, junk, junk, junk, junk, junk, junk, junk, junk, junk, junk, junk, junk, junk, junk])
    (fun i => h ++ [.cells (encWord a).toArray 0 true, .cells (encWord b).toArray 0 true]) (fun i => i ≤ 4 ∧ ∀ j (hj : j < 4), i ≤ j → a[j] = b[j]) 4 ⟨Nat.le_refl _, fun j h1 h2 => by omega⟩ ?_ ?_
  · refine Keeps.easeL oren_words ?_
    repeat (first | exact Keeps.nil | refine Keeps.junk _ ?_ | refine Keeps.keep (by first | exact .plain _ rfl | exact .ptr _ _ _ (by simp) rfl) ?_)
  · intro i hi
    obtain ⟨hi, heq⟩ := hi
    cases i with
    | zero =>
      simp (implicitDefEqProofs := false) (maxSteps := 2000000) only [go_sem, Nat.reduceAdd, Nat.reduceSub, Nat.reduceMul, Nat.reduceLT, Nat.reduceLeDiff, Nat.reduceEqDiff, Nat.reduceBEq, Nat.reduceBNe, Nat.reducePow, Int.reduceBEq, Int.reduceBNe, Int.reduceEq, Int.reduceLT, Int.reduceLE, Int.reduceNeg, Int.reduceToNat, Int.reduceMul, Int.reduceAdd, Int.reduceSub, Int.reducePow, Int.reduceFDiv, reduceCtorEq, reduceIte, Int.ofNat_zero, Int.zero_sub, Int.natCast_zero]
      have e : a = b := Vector.ext fun j hj => heq j hj (Nat.zero_le _)
      exact apost_tmp (v := .int .i64 0) rfl rfl ⟨by rw [e]; simp [sgn], rfl⟩ _ _ rfl
    | succ i =>
      have hlt : i < 4 := by omega
      have h43 : i ≤ 3 := by omega
      have hl4 : ((i : Nat) : Int) < 4 := by omega
      have hs : (((i + 1 : Nat) : Int) - 1) = ((i : Nat) : Int) := by omega
      have hw1 : IntKind.i64.wrap ((i : Int) - 1) = (i : Int) - 1 := wrap_i64_of _ (by omega) (by omega)
      by_cases q1 : a[i].toNat < b[i].toNat
      · simp (implicitDefEqProofs := false) (maxSteps := 2000000) only [go_sem, Nat.reduceAdd, Nat.reduceSub, Nat.reduceMul, Nat.reduceLT, Nat.reduceLeDiff, Nat.reduceEqDiff, Nat.reduceBEq, Nat.reduceBNe, Nat.reducePow, Int.reduceBEq, Int.reduceBNe, Int.reduceEq, Int.reduceLT, Int.reduceLE, Int.reduceNeg, Int.reduceToNat, Int.reduceMul, Int.reduceAdd, Int.reduceSub, Int.reducePow, Int.reduceFDiv, reduceCtorEq, reduceIte, hs, hl4, h43, hw1, encWord_get _ hlt, q1]
        refine ⟨by kernel_rfl, by kernel_rfl, ?_⟩
        exact apost_tmp (v := .int .i64 (-1)) rfl rfl ⟨by simp [sgn, valW_less hlt heq q1], rfl⟩ _ _ rfl
      · by_cases q2 : b[i].toNat < a[i].toNat
        · simp (implicitDefEqProofs := false) (maxSteps := 2000000) only [go_sem, Nat.reduceAdd, Nat.reduceSub, Nat.reduceMul, Nat.reduceLT, Nat.reduceLeDiff, Nat.reduceEqDiff, Nat.reduceBEq, Nat.reduceBNe, Nat.reducePow, Int.reduceBEq, Int.reduceBNe, Int.reduceEq, Int.reduceLT, Int.reduceLE, Int.reduceNeg, Int.reduceToNat, Int.reduceMul, Int.reduceAdd, Int.reduceSub, Int.reducePow, Int.reduceFDiv, reduceCtorEq, reduceIte, hs, hl4, h43, hw1, encWord_get _ hlt, q1, q2]
          refine ⟨by kernel_rfl, by kernel_rfl, by kernel_rfl, by kernel_rfl, ?_⟩
          have := valW_less hlt (fun j hj hle => (heq j hj hle).symm) q2
          exact apost_tmp (v := .int .i64 1) rfl rfl ⟨by unfold sgn; rw [if_neg (by omega), if_pos this], rfl⟩ _ _ rfl
        · simp (implicitDefEqProofs := false) (maxSteps := 2000000) only [go_sem, Nat.reduceAdd, Nat.reduceSub, Nat.reduceMul, Nat.reduceLT, Nat.reduceLeDiff, Nat.reduceEqDiff, Nat.reduceBEq, Nat.reduceBNe, Nat.reducePow, Int.reduceBEq, Int.reduceBNe, Int.reduceEq, Int.reduceLT, Int.reduceLE, Int.reduceNeg, Int.reduceToNat, Int.reduceMul, Int.reduceAdd, Int.reduceSub, Int.reducePow, Int.reduceFDiv, reduceCtorEq, reduceIte, hs, hl4, h43, hw1, encWord_get _ hlt, q1, q2]
          refine ⟨by kernel_rfl, by kernel_rfl, by kernel_rfl, by kernel_rfl, ?_⟩
          refine ⟨i, by omega, ⟨by omega, fun j hj hle => ?_⟩, ?_⟩
          · by_cases he : i = j
            · subst he; exact UInt64.toNat_inj.1 (by omega)
            · exact heq j hj (by omega)
          · refine Keeps.easeL oren_words ?_
            repeat (first | exact Keeps.nil | refine Keeps.junk _ ?_ | refine Keeps.keep (by first | exact .plain _ rfl | exact .ptr _ _ _ (by simp) rfl) ?_)

end Go.Proofs
