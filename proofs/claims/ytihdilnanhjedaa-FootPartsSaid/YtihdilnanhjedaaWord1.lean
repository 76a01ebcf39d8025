import Derived.Test.YtihdilnanhjedaaFacts
import Derived.Test.YtihdilnanhjedaaAm37x
set_option linter.unusedSimpArgs false
set_option linter.unusedVariables false
/- words, read -/
namespace Go.Proofs
open Go Go.Am

set_option maxRecDepth 10000 in
set_option maxHeartbeats 4000000 in
theorem wread_calls (s : Sl UInt8) (hs : s.l.length < 2 ^ 63) (h : AH) :
    ACalls Try.prog 50 #[slV encU8 s] h (fun v h' => v = .agg (encWord (rdW s.l)).toArray ∧ h' = h) := by
  refine ACalls.of_ay Try.func50 rfl Try.ntmps50 ⟨_, _, rfl, rfl⟩ ?_; simp only [List.length_cons, List.length_nil, Nat.reduceAdd, Nat.reduceSub, List.replicate_succ, List.replicate_zero, List.cons_append, List.nil_append]
  have hw : IntKind.i64.wrap ((s.l.length : Nat) - (32 : Int)) = (s.l.length : Nat) - (32 : Int) := wrap_i64_of _ (by omega) (by omega)
  have hm : (if (0 : Int) > ((s.l.length : Nat) : Int) - 32 then (0 : Int) else ((s.l.length : Nat) : Int) - 32) = ((s.l.length - 32 : Nat) : Int) := by split <;> omega
  have hle : s.l.length - 32 ≤ s.l.length := Nat.sub_le _ _
  simp (implicitDefEqProofs := false) (maxSteps := 2000000) only [go_sem, Nat.reduceAdd, Nat.reduceSub, Nat.reduceMul, Nat.reduceLT, Nat.reduceLeDiff, Nat.reduceEqDiff, Nat.reduceBEq, Nat.reduceBNe, Nat.reducePow, Int.reduceBEq, Int.reduceBNe, Int.reduceEq, Int.reduceLT, Int.reduceLE, Int.reduceNeg, Int.reduceToNat, Int.reduceMul, Int.reduceAdd, Int.reduceSub, Int.reducePow, Int.reduceFDiv, reduceCtorEq, reduceIte, hw, hm, hle]
  generalize hs2 : (⟨s.nil, List.drop (s.l.length - 32) (List.take s.l.length s.l), _⟩ : Sl UInt8) = s2
  have hl2 : s2.l = s.l.drop (s.l.length - 32) := by rw [← hs2]; simp
  have hn2 : s2.l.length = min 32 s.l.length := by rw [hl2]; simp; omega
  rw [← rdW_last, ← hl2, ← hn2]
  rw [zeroW_enc]
  refine AWP.loopI (fun i : Nat => s2.l.length - i) (fun i => [slV encU8 s2, junk, .pointer (some ⟨h.length, 0, none⟩), .pointer (some ⟨h.length + 1, 0, none⟩), junk, junk, junk, junk, junk, junk, junk, junk, .int .i64 (s2.l.length : Nat), .int .i64 (i : Nat), junk, junk, junk, junk, junk, junk, junk, junk, junk, junk, junk, junk, junk, junk, junk, junk, junk, junk, junk, junk, junk, junk, junk]) (fun i => h ++ [.cells (encWord zeroW).toArray 0 true, .cells (encWord (rd s2.l i)).toArray 0 true]) (fun i => i ≤ s2.l.length) 0 (Nat.zero_le _) ?_ ?_
  · have e12 : (List.drop (s.l.length - 32) (List.take s.l.length s.l)).length = s2.l.length := by rw [← hs2]
    rw [e12]
    refine Keeps.easeL oren_words ?_
    repeat (first | exact Keeps.nil | refine Keeps.junk _ ?_ | refine Keeps.keep (by first | exact .plain _ rfl | exact (Tree.slV tree_encU8 _).ren | exact .ptr _ _ _ (by simp) rfl) ?_)
  · intro i hi
    by_cases hlt : i < s2.l.length
    · have h4 : i / 8 < 4 := by omega
      have h43 : i / 8 ≤ 3 := by omega
      have h4' : ((i / 8 : Nat) : Int) < 4 := by omega
      have hq : IntKind.i64.wrap ((i : Int).tdiv 8) = ((i / 8 : Nat) : Int) := by rw [show (i : Int).tdiv 8 = ((i / 8 : Nat) : Int) from rfl]; exact wrap_i64_of _ (by omega) (by omega)
      have hr : (i : Int).tmod 8 = ((i % 8 : Nat) : Int) := rfl
      have hm8 : IntKind.i64.wrap (((i % 8 : Nat) : Int) * 8) = ((8 * (i % 8) : Nat) : Int) := by rw [wrap_i64_of _ (by omega) (by omega)]; omega
      have h1 : IntKind.i64.wrap ((s2.l.length : Nat) - (1 : Int)) = ((s2.l.length - 1 : Nat) : Int) := by rw [wrap_i64_of _ (by omega) (by omega)]; omega
      have h2 : IntKind.i64.wrap (((s2.l.length - 1 : Nat) : Int) - (i : Int)) = ((s2.l.length - 1 - i : Nat) : Int) := by rw [wrap_i64_of _ (by omega) (by omega)]; omega
      have h3 : s2.l.length - 1 - i < s2.l.length := by omega
      have hn0 : ¬ ((8 * (i % 8) : Nat) : Int) < 0 := by omega
      have hcv : IntKind.u64.wrap (((s2.l[s2.l.length - 1 - i]).toNat : Nat) : Int) = (((s2.l[s2.l.length - 1 - i]).toNat : Nat) : Int) := by
        have := (s2.l[s2.l.length - 1 - i]).toNat_lt
        exact wrap_u64_of _ (by omega) (by omega)
      have hw1 : IntKind.i64.wrap ((i : Int) + 1) = ((i + 1 : Nat) : Int) := by rw [wrap_i64_of _ (by omega) (by omega), ofNat_succ']
      have hsh := u64_shl s2.l[s2.l.length - 1 - i] (k := i % 8) (Nat.mod_lt _ (by decide))
      simp (implicitDefEqProofs := false) (maxSteps := 2000000) only [go_sem, Nat.reduceAdd, Nat.reduceSub, Nat.reduceMul, Nat.reduceLT, Nat.reduceLeDiff, Nat.reduceEqDiff, Nat.reduceBEq, Nat.reduceBNe, Nat.reducePow, Int.reduceBEq, Int.reduceBNe, Int.reduceEq, Int.reduceLT, Int.reduceLE, Int.reduceNeg, Int.reduceToNat, Int.reduceMul, Int.reduceAdd, Int.reduceSub, Int.reducePow, Int.reduceFDiv, reduceCtorEq, reduceIte, hlt, hq, h4', hr, hm8, h1, h2, h3, hcv, abin_shl hn0, hsh, encWord_get _ h4, encWord_set _ h4, hw1, h43]
      refine ⟨by kernel_rfl, by kernel_rfl, .inr ⟨rfl, by decide⟩, ?_⟩
      rw [← rd_succ hlt h4]
      refine ⟨i + 1, by omega, by omega, Keeps.easeL oren_words ?_⟩
      repeat (first | exact Keeps.nil | refine Keeps.junk _ ?_ | refine Keeps.keep (by first | exact .plain _ rfl | exact (Tree.slV tree_encU8 _).ren | exact .ptr _ _ _ (by simp) rfl) ?_)
    · simp (implicitDefEqProofs := false) (maxSteps := 2000000) only [go_sem, Nat.reduceAdd, Nat.reduceSub, Nat.reduceMul, Nat.reduceLT, Nat.reduceLeDiff, Nat.reduceEqDiff, Nat.reduceBEq, Nat.reduceBNe, Nat.reducePow, Int.reduceBEq, Int.reduceBNe, Int.reduceEq, Int.reduceLT, Int.reduceLE, Int.reduceNeg, Int.reduceToNat, Int.reduceMul, Int.reduceAdd, Int.reduceSub, Int.reducePow, Int.reduceFDiv, reduceCtorEq, reduceIte, hlt]
      have hie : i = s2.l.length := by omega
      subst hie
      exact apost_cell rfl (encWord_plain _) ⟨rfl, rfl⟩ _ _ rfl (by simp (implicitDefEqProofs := false) (maxSteps := 2000000) only [go_sem, Nat.reduceAdd, Nat.reduceSub, Nat.reduceMul, Nat.reduceLT, Nat.reduceLeDiff, Nat.reduceEqDiff, Nat.reduceBEq, Nat.reduceBNe, Nat.reducePow, Int.reduceBEq, Int.reduceBNe, Int.reduceEq, Int.reduceLT, Int.reduceLE, Int.reduceNeg, Int.reduceToNat, Int.reduceMul, Int.reduceAdd, Int.reduceSub, Int.reducePow, Int.reduceFDiv, reduceCtorEq, reduceIte, length_encWord])
end Go.Proofs
