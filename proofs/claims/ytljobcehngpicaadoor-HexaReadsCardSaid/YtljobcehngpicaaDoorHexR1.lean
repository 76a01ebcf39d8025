import Derived.Test.YtljobcehngpicaaDoorHexB
import Derived.Test.YtljobcehngpicaaDoorAm49x
set_option linter.unusedSimpArgs false
set_option linter.unusedVariables false
/- words moved by bits -/
namespace Go.Proofs
open Go Go.Am

theorem oren_w3 {L : Nat} {a b c : Word4} : ∀ o ∈ [AObj.cells (encWord a).toArray 0 true, AObj.cells (encWord b).toArray 0 true, AObj.cells (encWord c).toArray 0 true], ORen id L o o := by
  intro o ho
  simp only [List.mem_cons, List.not_mem_nil, or_false] at ho
  rcases ho with rfl | rfl | rfl <;> exact ORen.plainCells (tree_encWord _)
set_option maxRecDepth 10000 in
set_option maxHeartbeats 4000000 in
theorem rfrom4_calls (h : AH) : ACalls Tryd.prog 30 #[.int .u64 4] h (fun v h' => v = .agg (encWord (fromW 4)).toArray ∧ h' = h) := by
  refine ACalls.of_ay Tryd.func30 rfl Tryd.ntmps30 ⟨_, _, rfl, rfl⟩ ?_; simp only [List.length_cons, List.length_nil, Nat.reduceAdd, Nat.reduceSub, List.replicate_succ, List.replicate_zero, List.cons_append, List.nil_append]
  simp (implicitDefEqProofs := false) only [go_sem, Nat.reduceAdd, Nat.reduceSub, Nat.reduceMul, Nat.reduceLT, Nat.reduceLeDiff, Nat.reduceEqDiff, Nat.reduceBEq, Nat.reduceBNe, Nat.reducePow, Int.reduceBEq, Int.reduceBNe, Int.reduceEq, Int.reduceLT, Int.reduceLE, Int.reduceNeg, Int.reduceToNat, Int.reduceMul, Int.reduceAdd, Int.reduceSub, Int.reducePow, Int.reduceFDiv, reduceCtorEq, reduceIte]
  exact apost_cell rfl (encWord_plain (fromW 4)) ⟨rfl, rfl⟩ _ _ rfl (by simp (implicitDefEqProofs := false) only [go_sem, Nat.reduceAdd, Nat.reduceSub, Nat.reduceMul, Nat.reduceLT, Nat.reduceLeDiff, Nat.reduceEqDiff, Nat.reduceBEq, Nat.reduceBNe, Nat.reducePow, Int.reduceBEq, Int.reduceBNe, Int.reduceEq, Int.reduceLT, Int.reduceLE, Int.reduceNeg, Int.reduceToNat, Int.reduceMul, Int.reduceAdd, Int.reduceSub, Int.reducePow, Int.reduceFDiv, reduceCtorEq, reduceIte, length_encWord]; rfl)

set_option maxRecDepth 10000 in
set_option maxHeartbeats 4000000 in
theorem small4_calls (h : AH) : ACalls Tryd.prog 50 #[.agg (encWord (fromW 4)).toArray] h (fun v h' => v = .tuple #[.int .u64 4, .bool true] ∧ h' = h) := by
  have e : (encWord (fromW 4)).toArray = #[.int .u64 4, .int .u64 0, .int .u64 0, .int .u64 0] := rfl
  rw [e]
  refine ACalls.of_ay Tryd.func50 rfl Tryd.ntmps50 ⟨_, _, rfl, rfl⟩ ?_; simp only [List.length_cons, List.length_nil, Nat.reduceAdd, Nat.reduceSub, List.replicate_succ, List.replicate_zero, List.cons_append, List.nil_append]
  simp (implicitDefEqProofs := false) only [go_sem, Nat.reduceAdd, Nat.reduceSub, Nat.reduceMul, Nat.reduceLT, Nat.reduceLeDiff, Nat.reduceEqDiff, Nat.reduceBEq, Nat.reduceBNe, Nat.reducePow, Int.reduceBEq, Int.reduceBNe, Int.reduceEq, Int.reduceLT, Int.reduceLE, Int.reduceNeg, Int.reduceToNat, Int.reduceMul, Int.reduceAdd, Int.reduceSub, Int.reducePow, Int.reduceFDiv, reduceCtorEq, reduceIte]
  exact apost_pp1 _ _ rfl rfl rfl (.plain _ rfl) (.plain _ rfl) ⟨rfl, rfl⟩

set_option maxRecDepth 10000 in
set_option maxHeartbeats 4000000 in
theorem far4_calls (h : AH) : ACalls Tryd.prog 42 #[.agg (encWord (fromW 4)).toArray] h (fun v h' => v = .int .i64 4 ∧ h' = h) := by
  refine ACalls.of_ay Tryd.func42 rfl Tryd.ntmps42 ⟨_, _, rfl, rfl⟩ ?_; simp only [List.length_cons, List.length_nil, Nat.reduceAdd, Nat.reduceSub, List.replicate_succ, List.replicate_zero, List.cons_append, List.nil_append]
  simp (implicitDefEqProofs := false) only [go_sem, Nat.reduceAdd, Nat.reduceSub, Nat.reduceMul, Nat.reduceLT, Nat.reduceLeDiff, Nat.reduceEqDiff, Nat.reduceBEq, Nat.reduceBNe, Nat.reducePow, Int.reduceBEq, Int.reduceBNe, Int.reduceEq, Int.reduceLT, Int.reduceLE, Int.reduceNeg, Int.reduceToNat, Int.reduceMul, Int.reduceAdd, Int.reduceSub, Int.reducePow, Int.reduceFDiv, reduceCtorEq, reduceIte, length_encWord]
  refine astep_call (small4_calls _) ?_
  simp (implicitDefEqProofs := false) only [go_sem, Nat.reduceAdd, Nat.reduceSub, Nat.reduceMul, Nat.reduceLT, Nat.reduceLeDiff, Nat.reduceEqDiff, Nat.reduceBEq, Nat.reduceBNe, Nat.reducePow, Int.reduceBEq, Int.reduceBNe, Int.reduceEq, Int.reduceLT, Int.reduceLE, Int.reduceNeg, Int.reduceToNat, Int.reduceMul, Int.reduceAdd, Int.reduceSub, Int.reducePow, Int.reduceFDiv, reduceCtorEq, reduceIte]
  exact apost_tmp rfl rfl ⟨rfl, rfl⟩ _ _ rfl

set_option maxRecDepth 10000 in
set_option maxHeartbeats 4000000 in
theorem rbit_calls (w : Word4) (k : Nat) (hk : k < 256) (h : AH) : ACalls Tryd.prog 48 #[.agg (encWord w).toArray, .int .i64 ((k : Nat) : Int)] h (fun v h' => v = .bool (wbit w k) ∧ h' = h) := by
  refine ACalls.of_ay Tryd.func48 rfl Tryd.ntmps48 ⟨_, _, rfl, rfl⟩ ?_; simp only [List.length_cons, List.length_nil, Nat.reduceAdd, Nat.reduceSub, List.replicate_succ, List.replicate_zero, List.cons_append, List.nil_append]
  have h4 : k / 64 < 4 := by omega
  have h43 : k / 64 ≤ 3 := by omega
  have h4' : ((k / 64 : Nat) : Int) < 4 := by omega
  have hq : IntKind.i64.wrap ((k : Int).tdiv 64) = ((k / 64 : Nat) : Int) := by rw [show (k : Int).tdiv 64 = ((k / 64 : Nat) : Int) from rfl]; exact wrap_i64_of _ (by omega) (by omega)
  have hr : (k : Int).tmod 64 = ((k % 64 : Nat) : Int) := rfl
  have hcs : IntKind.u64.wrap ((k % 64 : Nat) : Int) = ((k % 64 : Nat) : Int) := wrap_u64_of _ (by omega) (by omega)
  have hlt := w[k / 64].toNat_lt
  have hd : w[k / 64].toNat / 2 ^ (k % 64) < 18446744073709551616 := Nat.lt_of_le_of_lt (Nat.div_le_self _ _) hlt
  simp (implicitDefEqProofs := false) only [go_sem, Nat.reduceAdd, Nat.reduceSub, Nat.reduceMul, Nat.reduceLT, Nat.reduceLeDiff, Nat.reduceEqDiff, Nat.reduceBEq, Nat.reduceBNe, Nat.reducePow, Int.reduceBEq, Int.reduceBNe, Int.reduceEq, Int.reduceLT, Int.reduceLE, Int.reduceNeg, Int.reduceToNat, Int.reduceMul, Int.reduceAdd, Int.reduceSub, Int.reducePow, Int.reduceFDiv, reduceCtorEq, reduceIte, hq, hr, h4', h43, hcs, encWord_get _ h4, ↓abin_shrN (show k % 64 < 64 by omega), hd, bit_eq, length_encWord]
  have e : wbit w k = w[k / 64].toNat.testBit (k % 64) := by rw [wbit, dif_pos h4]
  rw [e]
  exact apost_tmp rfl rfl ⟨rfl, rfl⟩ _ _ rfl

set_option maxRecDepth 10000 in
set_option maxHeartbeats 4000000 in
theorem rwith_calls (w : Word4) (k : Nat) (hk : k < 256) (b : Bool) (h : AH) : ACalls Tryd.prog 49 #[.agg (encWord w).toArray, .int .i64 ((k : Nat) : Int), .bool b] h (fun v h' => v = .agg (encWord (withW w k b)).toArray ∧ h' = h) := by
  refine ACalls.of_ay Tryd.func49 rfl Tryd.ntmps49 ⟨_, _, rfl, rfl⟩ ?_; simp only [List.length_cons, List.length_nil, Nat.reduceAdd, Nat.reduceSub, List.replicate_succ, List.replicate_zero, List.cons_append, List.nil_append]
  have h4 : k / 64 < 4 := by omega
  have h43 : k / 64 ≤ 3 := by omega
  have h4' : ((k / 64 : Nat) : Int) < 4 := by omega
  have hq : IntKind.i64.wrap ((k : Int).tdiv 64) = ((k / 64 : Nat) : Int) := by rw [show (k : Int).tdiv 64 = ((k / 64 : Nat) : Int) from rfl]; exact wrap_i64_of _ (by omega) (by omega)
  have hr : (k : Int).tmod 64 = ((k % 64 : Nat) : Int) := rfl
  have hcs : IntKind.u64.wrap ((k % 64 : Nat) : Int) = ((k % 64 : Nat) : Int) := wrap_u64_of _ (by omega) (by omega)
  cases b with
  | true =>
    have e : withW w k true = w.set (k / 64) (w[k / 64] ||| bitAt (k % 64)) := by rw [withW, dif_pos h4]; rfl
    rw [e]
    simp (implicitDefEqProofs := false) only [go_sem, Nat.reduceAdd, Nat.reduceSub, Nat.reduceMul, Nat.reduceLT, Nat.reduceLeDiff, Nat.reduceEqDiff, Nat.reduceBEq, Nat.reduceBNe, Nat.reducePow, Int.reduceBEq, Int.reduceBNe, Int.reduceEq, Int.reduceLT, Int.reduceLE, Int.reduceNeg, Int.reduceToNat, Int.reduceMul, Int.reduceAdd, Int.reduceSub, Int.reducePow, Int.reduceFDiv, reduceCtorEq, reduceIte, hq, hr, h4', h43, hcs, encWord_get _ h4, encWord_set _ h4, ↓abin_shlBit (show k % 64 < 64 by omega), length_encWord]
    exact apost_cell rfl (encWord_plain _) ⟨rfl, rfl⟩ _ _ rfl (by simp (implicitDefEqProofs := false) only [go_sem, Nat.reduceAdd, Nat.reduceSub, Nat.reduceMul, Nat.reduceLT, Nat.reduceLeDiff, Nat.reduceEqDiff, Nat.reduceBEq, Nat.reduceBNe, Nat.reducePow, Int.reduceBEq, Int.reduceBNe, Int.reduceEq, Int.reduceLT, Int.reduceLE, Int.reduceNeg, Int.reduceToNat, Int.reduceMul, Int.reduceAdd, Int.reduceSub, Int.reducePow, Int.reduceFDiv, reduceCtorEq, reduceIte, length_encWord])
  | false =>
    have e : withW w k false = w.set (k / 64) (w[k / 64] &&& ~~~(bitAt (k % 64))) := by rw [withW, dif_pos h4]; rfl
    rw [e]
    simp (implicitDefEqProofs := false) only [go_sem, Nat.reduceAdd, Nat.reduceSub, Nat.reduceMul, Nat.reduceLT, Nat.reduceLeDiff, Nat.reduceEqDiff, Nat.reduceBEq, Nat.reduceBNe, Nat.reducePow, Int.reduceBEq, Int.reduceBNe, Int.reduceEq, Int.reduceLT, Int.reduceLE, Int.reduceNeg, Int.reduceToNat, Int.reduceMul, Int.reduceAdd, Int.reduceSub, Int.reducePow, Int.reduceFDiv, reduceCtorEq, reduceIte, hq, hr, h4', h43, hcs, encWord_get _ h4, encWord_set _ h4, ↓abin_shlBit (show k % 64 < 64 by omega), length_encWord]
    exact apost_cell rfl (encWord_plain _) ⟨rfl, rfl⟩ _ _ rfl (by simp (implicitDefEqProofs := false) only [go_sem, Nat.reduceAdd, Nat.reduceSub, Nat.reduceMul, Nat.reduceLT, Nat.reduceLeDiff, Nat.reduceEqDiff, Nat.reduceBEq, Nat.reduceBNe, Nat.reducePow, Int.reduceBEq, Int.reduceBNe, Int.reduceEq, Int.reduceLT, Int.reduceLE, Int.reduceNeg, Int.reduceToNat, Int.reduceMul, Int.reduceAdd, Int.reduceSub, Int.reducePow, Int.reduceFDiv, reduceCtorEq, reduceIte, length_encWord])

set_option maxRecDepth 10000 in
set_option maxHeartbeats 4000000 in
theorem rshift_calls (w : Word4) (n : Nat) (hn : n < 256) (h : AH) : ACalls Tryd.prog 41 #[.agg (encWord w).toArray, .int .i64 ((n : Nat) : Int), .bool false] h (fun v h' => v = .agg (encWord (shlW w n)).toArray ∧ h' = h) := by
  refine ACalls.of_ay Tryd.func41 rfl Tryd.ntmps41 ⟨_, _, rfl, rfl⟩ ?_; simp only [List.length_cons, List.length_nil, Nat.reduceAdd, Nat.reduceSub, List.replicate_succ, List.replicate_zero, List.cons_append, List.nil_append]
  simp (implicitDefEqProofs := false) only [go_sem, Nat.reduceAdd, Nat.reduceSub, Nat.reduceMul, Nat.reduceLT, Nat.reduceLeDiff, Nat.reduceEqDiff, Nat.reduceBEq, Nat.reduceBNe, Nat.reducePow, Int.reduceBEq, Int.reduceBNe, Int.reduceEq, Int.reduceLT, Int.reduceLE, Int.reduceNeg, Int.reduceToNat, Int.reduceMul, Int.reduceAdd, Int.reduceSub, Int.reducePow, Int.reduceFDiv, reduceCtorEq, reduceIte]
  rw [zeroW_enc]
  refine AWP.loopI (fun i : Nat => 256 - i) (fun i => [junk, .int .i64 ((n : Nat) : Int), .bool false, .pointer (some ⟨h.length, 0, none⟩), junk, junk, .pointer (some ⟨h.length + 1, 0, none⟩), .pointer (some ⟨h.length + 2, 0, none⟩), .int .i64 ((i : Nat) : Int), junk, junk, junk, junk, junk, junk, junk, junk, junk, junk, junk, junk, junk, junk, junk, junk, junk, junk, junk, junk, junk, junk, junk, junk, junk, junk]) (fun i => h ++ [.cells (encWord w).toArray 0 true, .cells (encWord zeroW).toArray 0 true, .cells (encWord (bw (shlB w n) i)).toArray 0 true]) (fun i => i ≤ 256) 0 (Nat.zero_le _) ?_ ?_
  · refine Keeps.easeL oren_w3 ?_
    repeat (first | exact Keeps.nil | refine Keeps.junk _ ?_ | refine Keeps.keep (by first | exact .plain _ rfl | exact .plain rfl | exact .ptr _ _ _ (by simp) rfl) ?_)
  · intro i hi
    by_cases hlt : i < 256
    · have hl : ((i : Nat) : Int) < 256 := by omega
      have hw1 : IntKind.i64.wrap ((i : Int) + 1) = ((i + 1 : Nat) : Int) := by rw [wrap_i64_of _ (by omega) (by omega), ofNat_succ']
      have hsub : IntKind.i64.wrap (((i : Nat) : Int) - ((n : Nat) : Int)) = ((i : Nat) : Int) - ((n : Nat) : Int) := wrap_i64_of _ (by omega) (by omega)
      by_cases hle : n ≤ i
      · have g0 : (0 : Int) ≤ ((i : Nat) : Int) - ((n : Nat) : Int) := by omega
        have g1 : ((i : Nat) : Int) - ((n : Nat) : Int) < 256 := by omega
        have gn : ((i : Nat) : Int) - ((n : Nat) : Int) = ((i - n : Nat) : Int) := by omega
        have hb : shlB w n i = wbit w (i - n) := by rw [shlB, decide_eq_true hle]; rfl
        rw [gn] at g0 g1
        have hsub := hsub.trans gn
        have hbc := fun H => rbit_calls w (i - n) (by omega) H
        rw [← hb] at hbc
        simp (implicitDefEqProofs := false) only [go_sem, Nat.reduceAdd, Nat.reduceSub, Nat.reduceMul, Nat.reduceLT, Nat.reduceLeDiff, Nat.reduceEqDiff, Nat.reduceBEq, Nat.reduceBNe, Nat.reducePow, Int.reduceBEq, Int.reduceBNe, Int.reduceEq, Int.reduceLT, Int.reduceLE, Int.reduceNeg, Int.reduceToNat, Int.reduceMul, Int.reduceAdd, Int.reduceSub, Int.reducePow, Int.reduceFDiv, reduceCtorEq, reduceIte, hl, hsub, g0, g1, length_encWord]
        refine astep_calls (hbc _) ?_
        intro v h1 hR
        obtain ⟨rfl, rfl⟩ := hR
        simp (implicitDefEqProofs := false) only [go_sem, Nat.reduceAdd, Nat.reduceSub, Nat.reduceMul, Nat.reduceLT, Nat.reduceLeDiff, Nat.reduceEqDiff, Nat.reduceBEq, Nat.reduceBNe, Nat.reducePow, Int.reduceBEq, Int.reduceBNe, Int.reduceEq, Int.reduceLT, Int.reduceLE, Int.reduceNeg, Int.reduceToNat, Int.reduceMul, Int.reduceAdd, Int.reduceSub, Int.reducePow, Int.reduceFDiv, reduceCtorEq, reduceIte, length_encWord]
        refine astep_calls (rwith_calls (bw (shlB w n) i) i hlt (shlB w n i) _) ?_
        intro v h1 hR
        obtain ⟨rfl, rfl⟩ := hR
        simp (implicitDefEqProofs := false) only [go_sem, Nat.reduceAdd, Nat.reduceSub, Nat.reduceMul, Nat.reduceLT, Nat.reduceLeDiff, Nat.reduceEqDiff, Nat.reduceBEq, Nat.reduceBNe, Nat.reducePow, Int.reduceBEq, Int.reduceBNe, Int.reduceEq, Int.reduceLT, Int.reduceLE, Int.reduceNeg, Int.reduceToNat, Int.reduceMul, Int.reduceAdd, Int.reduceSub, Int.reducePow, Int.reduceFDiv, reduceCtorEq, reduceIte, length_encWord, hw1]
        refine ⟨i + 1, by omega, by omega, ?_⟩
        rw [show bw (shlB w n) (i + 1) = withW (bw (shlB w n) i) i (shlB w n i) by rw [bw]]
        refine Keeps.easeL oren_w3 ?_
        repeat (first | exact Keeps.nil | refine Keeps.junk _ ?_ | refine Keeps.keep (by first | exact .plain _ rfl | exact .plain rfl | exact .ptr _ _ _ (by simp) rfl) ?_)
      · have g0 : ¬ (0 : Int) ≤ ((i : Nat) : Int) - ((n : Nat) : Int) := by omega
        have hb : shlB w n i = false := by rw [shlB, decide_eq_false hle]; rfl
        simp (implicitDefEqProofs := false) only [go_sem, Nat.reduceAdd, Nat.reduceSub, Nat.reduceMul, Nat.reduceLT, Nat.reduceLeDiff, Nat.reduceEqDiff, Nat.reduceBEq, Nat.reduceBNe, Nat.reducePow, Int.reduceBEq, Int.reduceBNe, Int.reduceEq, Int.reduceLT, Int.reduceLE, Int.reduceNeg, Int.reduceToNat, Int.reduceMul, Int.reduceAdd, Int.reduceSub, Int.reducePow, Int.reduceFDiv, reduceCtorEq, reduceIte, hl, hsub, g0, length_encWord]
        refine astep_calls (rwith_calls (bw (shlB w n) i) i hlt false _) ?_
        intro v h1 hR
        obtain ⟨rfl, rfl⟩ := hR
        simp (implicitDefEqProofs := false) only [go_sem, Nat.reduceAdd, Nat.reduceSub, Nat.reduceMul, Nat.reduceLT, Nat.reduceLeDiff, Nat.reduceEqDiff, Nat.reduceBEq, Nat.reduceBNe, Nat.reducePow, Int.reduceBEq, Int.reduceBNe, Int.reduceEq, Int.reduceLT, Int.reduceLE, Int.reduceNeg, Int.reduceToNat, Int.reduceMul, Int.reduceAdd, Int.reduceSub, Int.reducePow, Int.reduceFDiv, reduceCtorEq, reduceIte, length_encWord, hw1]
        refine ⟨i + 1, by omega, by omega, ?_⟩
        rw [show bw (shlB w n) (i + 1) = withW (bw (shlB w n) i) i (false) by rw [bw, hb]]
        refine Keeps.easeL oren_w3 ?_
        repeat (first | exact Keeps.nil | refine Keeps.junk _ ?_ | refine Keeps.keep (by first | exact .plain _ rfl | exact .plain rfl | exact .ptr _ _ _ (by simp) rfl) ?_)
    · have hl : ¬ ((i : Nat) : Int) < 256 := by omega
      have hie : i = 256 := by omega
      subst hie
      simp (implicitDefEqProofs := false) only [go_sem, Nat.reduceAdd, Nat.reduceSub, Nat.reduceMul, Nat.reduceLT, Nat.reduceLeDiff, Nat.reduceEqDiff, Nat.reduceBEq, Nat.reduceBNe, Nat.reducePow, Int.reduceBEq, Int.reduceBNe, Int.reduceEq, Int.reduceLT, Int.reduceLE, Int.reduceNeg, Int.reduceToNat, Int.reduceMul, Int.reduceAdd, Int.reduceSub, Int.reducePow, Int.reduceFDiv, reduceCtorEq, reduceIte, hl, length_encWord]
      exact apost_cell rfl (encWord_plain _) ⟨rfl, rfl⟩ _ _ rfl (by simp (implicitDefEqProofs := false) only [go_sem, Nat.reduceAdd, Nat.reduceSub, Nat.reduceMul, Nat.reduceLT, Nat.reduceLeDiff, Nat.reduceEqDiff, Nat.reduceBEq, Nat.reduceBNe, Nat.reducePow, Int.reduceBEq, Int.reduceBNe, Int.reduceEq, Int.reduceLT, Int.reduceLE, Int.reduceNeg, Int.reduceToNat, Int.reduceMul, Int.reduceAdd, Int.reduceSub, Int.reducePow, Int.reduceFDiv, reduceCtorEq, reduceIte, length_encWord]; rfl)

set_option maxRecDepth 10000 in
set_option maxHeartbeats 4000000 in
theorem rshl4_calls (w : Word4) (h : AH) : ACalls Tryd.prog 29 #[.agg (encWord (fromW 4)).toArray, .agg (encWord w).toArray] h (fun v h' => v = .agg (encWord (shlW w 4)).toArray ∧ h' = h) := by
  refine ACalls.of_ay Tryd.func29 rfl Tryd.ntmps29 ⟨_, _, rfl, rfl⟩ ?_; simp only [List.length_cons, List.length_nil, Nat.reduceAdd, Nat.reduceSub, List.replicate_succ, List.replicate_zero, List.cons_append, List.nil_append]
  simp (implicitDefEqProofs := false) only [go_sem, Nat.reduceAdd, Nat.reduceSub, Nat.reduceMul, Nat.reduceLT, Nat.reduceLeDiff, Nat.reduceEqDiff, Nat.reduceBEq, Nat.reduceBNe, Nat.reducePow, Int.reduceBEq, Int.reduceBNe, Int.reduceEq, Int.reduceLT, Int.reduceLE, Int.reduceNeg, Int.reduceToNat, Int.reduceMul, Int.reduceAdd, Int.reduceSub, Int.reducePow, Int.reduceFDiv, reduceCtorEq, reduceIte, length_encWord]
  refine ⟨by kernel_rfl, by kernel_rfl, ?_⟩
  refine dstep_call (far4_calls _) pres_refl ?_
  simp (implicitDefEqProofs := false) only [go_sem, Nat.reduceAdd, Nat.reduceSub, Nat.reduceMul, Nat.reduceLT, Nat.reduceLeDiff, Nat.reduceEqDiff, Nat.reduceBEq, Nat.reduceBNe, Nat.reducePow, Int.reduceBEq, Int.reduceBNe, Int.reduceEq, Int.reduceLT, Int.reduceLE, Int.reduceNeg, Int.reduceToNat, Int.reduceMul, Int.reduceAdd, Int.reduceSub, Int.reducePow, Int.reduceFDiv, reduceCtorEq, reduceIte, length_encWord]
  refine dstep_call (rshift_calls w 4 (by decide) _) pres_refl ?_
  simp (implicitDefEqProofs := false) only [go_sem, Nat.reduceAdd, Nat.reduceSub, Nat.reduceMul, Nat.reduceLT, Nat.reduceLeDiff, Nat.reduceEqDiff, Nat.reduceBEq, Nat.reduceBNe, Nat.reducePow, Int.reduceBEq, Int.reduceBNe, Int.reduceEq, Int.reduceLT, Int.reduceLE, Int.reduceNeg, Int.reduceToNat, Int.reduceMul, Int.reduceAdd, Int.reduceSub, Int.reducePow, Int.reduceFDiv, reduceCtorEq, reduceIte, length_encWord]
  refine ⟨.inr ⟨rfl, by decide⟩, ?_⟩
  exact apost_cell rfl (encWord_plain _) ⟨rfl, rfl⟩ _ _ rfl (by simp (implicitDefEqProofs := false) only [go_sem, Nat.reduceAdd, Nat.reduceSub, Nat.reduceMul, Nat.reduceLT, Nat.reduceLeDiff, Nat.reduceEqDiff, Nat.reduceBEq, Nat.reduceBNe, Nat.reducePow, Int.reduceBEq, Int.reduceBNe, Int.reduceEq, Int.reduceLT, Int.reduceLE, Int.reduceNeg, Int.reduceToNat, Int.reduceMul, Int.reduceAdd, Int.reduceSub, Int.reducePow, Int.reduceFDiv, reduceCtorEq, reduceIte, length_encWord])
end Go.Proofs
