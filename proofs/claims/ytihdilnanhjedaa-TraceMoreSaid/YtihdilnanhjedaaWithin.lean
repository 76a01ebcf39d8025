import Derived.Test.YtihdilnanhjedaaPlT
import Derived.Test.YtihdilnanhjedaaAm37x
import Derived.Test.YtihdilnanhjedaaAm55x
set_option linter.unusedSimpArgs false
set_option linter.unusedVariables false
/- places among places -/
namespace Go.Proofs
open Go Go.Am

theorem sub_of_mem {a b : List Pl} (ha : a.Pairwise fun x y => x.rank < y.rank) (hb : b.Pairwise fun x y => x.rank < y.rank) (h : ∀ x ∈ a, x ∈ b) : a.Sublist b := by
  induction b generalizing a with
  | nil =>
    cases a with
    | nil => exact .slnil
    | cons x a => exact absurd (h x (by simp)) (by simp)
  | cons y b ih =>
    rw [List.pairwise_cons] at hb
    cases a with
    | nil => exact List.nil_sublist _
    | cons x a =>
      rw [List.pairwise_cons] at ha
      by_cases hxy : x = y
      · subst hxy
        refine .cons_cons _ (ih ha.2 hb.2 fun z hz => ?_)
        rcases List.mem_cons.1 (h z (List.mem_cons_of_mem _ hz)) with rfl | h1
        · have := ha.1 z hz; omega
        · exact h1
      · refine .cons _ (ih (List.pairwise_cons.2 ha) hb.2 fun z hz => ?_)
        have hx : x ∈ b := (List.mem_cons.1 (h x (by simp))).resolve_left hxy
        have h1 := hb.1 x hx
        rcases List.mem_cons.1 (h z hz) with rfl | h2
        · rcases List.mem_cons.1 hz with rfl | h3
          · omega
          · have := ha.1 z h3; omega
        · exact h2
theorem sub_step {a b : List Pl} {i k : Nat} (hi : i < a.length) (hk : k < b.length) (hne : b[k] ≠ a[i]) (h : (a.drop i).Sublist (b.drop k)) : (a.drop i).Sublist (b.drop (k + 1)) := by
  rw [List.drop_eq_getElem_cons hi, List.drop_eq_getElem_cons hk] at h
  rw [List.drop_eq_getElem_cons hi]
  generalize b[k] = y at h hne
  generalize a[i] = x at h hne ⊢
  cases h with
  | cons _ h => exact h
  | cons_cons _ h => exact absurd rfl hne
theorem sub_next {a b : List Pl} {i k : Nat} (h : (a.drop i).Sublist (b.drop k)) : (a.drop (i + 1)).Sublist (b.drop k) := by
  refine List.Sublist.trans ?_ h
  rw [← List.drop_drop]; exact List.drop_sublist _ _
theorem sub_lt {a b : List Pl} {i k : Nat} (hi : i < a.length) (h : (a.drop i).Sublist (b.drop k)) : k < b.length := by
  have := h.length_le
  simp at this; omega

set_option maxRecDepth 10000 in
set_option maxHeartbeats 4000000 in
theorem within_calls (a b : Sl Pl) (ha : a.l.length < 2 ^ 62) (hb : b.l.length < 2 ^ 62) (hsub : a.l.Sublist b.l) (h : AH) :
    ACalls Try.prog 13 #[slV encPl a, slV encPl b] h (fun v h' => v = .bool true ∧ h' = h) := by
  refine ACalls.of_ay Try.func13 rfl Try.ntmps13 ⟨_, _, rfl, rfl⟩ ?_; simp only [List.length_cons, List.length_nil, Nat.reduceAdd, Nat.reduceSub, List.replicate_succ, List.replicate_zero, List.cons_append, List.nil_append]
  simp (implicitDefEqProofs := false) (maxSteps := 2000000) only [go_sem, Nat.reduceAdd, Nat.reduceSub, Nat.reduceMul, Nat.reduceLT, Nat.reduceLeDiff, Nat.reduceEqDiff, Nat.reduceBEq, Nat.reduceBNe, Nat.reducePow, Int.reduceBEq, Int.reduceBNe, Int.reduceEq, Int.reduceLT, Int.reduceLE, Int.reduceNeg, Int.reduceToNat, Int.reduceMul, Int.reduceAdd, Int.reduceSub, Int.reducePow, Int.reduceFDiv, reduceCtorEq, reduceIte]
  refine AWP.loopI (fun p : Nat × Nat => a.l.length - p.1) (fun p => [slV encPl a, slV encPl b, junk, junk, junk, .int .i64 (p.2 : Nat), .int .i64 (p.1 : Nat), junk, junk, junk, junk, junk, junk, junk, junk, junk, junk, junk, junk, junk, junk, junk, junk, junk, junk, junk, junk, junk, junk, junk, junk, junk, junk, junk]) (fun _ => h) (fun p => p.1 ≤ a.l.length ∧ p.2 ≤ b.l.length ∧ (a.l.drop p.1).Sublist (b.l.drop p.2)) (0, 0) ⟨Nat.zero_le _, Nat.zero_le _, hsub⟩ ?_ ?_
  · refine Keeps.ease0 ?_
    repeat (first | exact Keeps.nil | refine Keeps.junk _ ?_ | refine Keeps.keep (by first | exact .plain _ rfl | exact (Tree.slV tree_encPl _).ren) ?_)
  · rintro ⟨i, k0⟩ ⟨hi, hk0, hs0⟩
    simp only at hi hk0 hs0
    by_cases hlt : i < a.l.length
    · simp (implicitDefEqProofs := false) (maxSteps := 2000000) only [go_sem, Nat.reduceAdd, Nat.reduceSub, Nat.reduceMul, Nat.reduceLT, Nat.reduceLeDiff, Nat.reduceEqDiff, Nat.reduceBEq, Nat.reduceBNe, Nat.reducePow, Int.reduceBEq, Int.reduceBNe, Int.reduceEq, Int.reduceLT, Int.reduceLE, Int.reduceNeg, Int.reduceToNat, Int.reduceMul, Int.reduceAdd, Int.reduceSub, Int.reducePow, Int.reduceFDiv, reduceCtorEq, reduceIte, hlt]
      refine AWP.loopI (fun k : Nat => b.l.length - k) (fun k => [slV encPl a, slV encPl b, junk, junk, junk, .int .i64 (k : Nat), .int .i64 (i : Nat), junk, junk, junk, junk, junk, junk, junk, junk, junk, junk, junk, junk, junk, junk, junk, junk, junk, junk, junk, junk, junk, junk, junk, junk, junk, junk, junk]) (fun _ => h) (fun k => k ≤ b.l.length ∧ (a.l.drop i).Sublist (b.l.drop k)) k0 ⟨hk0, hs0⟩ ?_ ?_
      · refine Keeps.ease0 ?_
        repeat (first | exact Keeps.nil | refine Keeps.junk _ ?_ | refine Keeps.keep (by first | exact .plain _ rfl | exact (Tree.slV tree_encPl _).ren) ?_)
      · rintro k ⟨hk, hs⟩
        have hkl := sub_lt hlt hs
        have hw : IntKind.i64.wrap ((i : Int) + 1) = ((i + 1 : Nat) : Int) := by rw [wrap_i64_of _ (by omega) (by omega), ofNat_succ']
        have hw2 : IntKind.i64.wrap ((k : Int) + 1) = ((k + 1 : Nat) : Int) := by rw [wrap_i64_of _ (by omega) (by omega), ofNat_succ']
        have hkn : (((k : Nat) : Int) == ((b.l.length : Nat) : Int)) = false := by rw [beq_eq_false_iff_ne]; omega
        by_cases he : b.l[k] = a.l[i]
        · simp (implicitDefEqProofs := false) (maxSteps := 2000000) only [go_sem, Nat.reduceAdd, Nat.reduceSub, Nat.reduceMul, Nat.reduceLT, Nat.reduceLeDiff, Nat.reduceEqDiff, Nat.reduceBEq, Nat.reduceBNe, Nat.reducePow, Int.reduceBEq, Int.reduceBNe, Int.reduceEq, Int.reduceLT, Int.reduceLE, Int.reduceNeg, Int.reduceToNat, Int.reduceMul, Int.reduceAdd, Int.reduceSub, Int.reducePow, Int.reduceFDiv, reduceCtorEq, reduceIte, hlt, hkl, he, hw, hkn]
          refine ⟨by kernel_rfl, by kernel_rfl, ?_⟩
          refine ⟨(i + 1, k), by show a.l.length - (i + 1) < a.l.length - i; omega, ⟨by show i + 1 ≤ _; omega, hk, sub_next hs⟩, Keeps.ease0 ?_⟩
          repeat (first | exact Keeps.nil | refine Keeps.junk _ ?_ | refine Keeps.keep (by first | exact .plain _ rfl | exact (Tree.slV tree_encPl _).ren) ?_)
        · simp (implicitDefEqProofs := false) (maxSteps := 2000000) only [go_sem, Nat.reduceAdd, Nat.reduceSub, Nat.reduceMul, Nat.reduceLT, Nat.reduceLeDiff, Nat.reduceEqDiff, Nat.reduceBEq, Nat.reduceBNe, Nat.reducePow, Int.reduceBEq, Int.reduceBNe, Int.reduceEq, Int.reduceLT, Int.reduceLE, Int.reduceNeg, Int.reduceToNat, Int.reduceMul, Int.reduceAdd, Int.reduceSub, Int.reducePow, Int.reduceFDiv, reduceCtorEq, reduceIte, hlt, hkl, he, hw2]
          refine ⟨by kernel_rfl, by kernel_rfl, ?_⟩
          refine ⟨k + 1, by omega, ⟨by omega, sub_step hlt hkl he hs⟩, Keeps.ease0 ?_⟩
          repeat (first | exact Keeps.nil | refine Keeps.junk _ ?_ | refine Keeps.keep (by first | exact .plain _ rfl | exact (Tree.slV tree_encPl _).ren) ?_)
    · simp (implicitDefEqProofs := false) (maxSteps := 2000000) only [go_sem, Nat.reduceAdd, Nat.reduceSub, Nat.reduceMul, Nat.reduceLT, Nat.reduceLeDiff, Nat.reduceEqDiff, Nat.reduceBEq, Nat.reduceBNe, Nat.reducePow, Int.reduceBEq, Int.reduceBNe, Int.reduceEq, Int.reduceLT, Int.reduceLE, Int.reduceNeg, Int.reduceToNat, Int.reduceMul, Int.reduceAdd, Int.reduceSub, Int.reducePow, Int.reduceFDiv, reduceCtorEq, reduceIte, hlt]
      exact apost_tmp0 rfl rfl ⟨rfl, rfl⟩ _ rfl
end Go.Proofs
