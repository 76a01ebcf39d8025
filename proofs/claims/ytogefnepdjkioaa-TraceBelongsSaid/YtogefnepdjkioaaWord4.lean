import Derived.Test.YtogefnepdjkioaaWord3
set_option linter.unusedSimpArgs false
set_option linter.unusedVariables false
/- words: the document's differences -/
namespace Go.Proofs
open Go Go.Am

theorem u64_add (x y : UInt64) : IntKind.u64.wrap (((x.toNat : Nat) : Int) + ((y.toNat : Nat) : Int)) = (((x + y).toNat : Nat) : Int) := by
  rw [UInt64.toNat_add]
  simp only [IntKind.wrap, IntKind.bits, IntKind.signed, Bool.false_and, Bool.false_eq_true, if_false]
  omega
theorem encWord_lit (w : Word4) : encWord w = [.int .u64 ((w[0].toNat : Nat) : Int), .int .u64 ((w[1].toNat : Nat) : Int), .int .u64 ((w[2].toNat : Nat) : Int), .int .u64 ((w[3].toNat : Nat) : Int)] := by
  apply List.ext_getElem?
  intro i
  by_cases hi : i < 4
  · rw [encWord_get w hi]
    match i, hi with
    | 0, _ => rfl
    | 1, _ => rfl
    | 2, _ => rfl
    | 3, _ => rfl
  · rw [List.getElem?_eq_none (by simp [length_encWord]; omega), List.getElem?_eq_none (by simp; omega)]

set_option maxRecDepth 10000 in
set_option maxHeartbeats 4000000 in
theorem rnot_calls (a : Word4) (h : AH) : ACalls Try.prog 59 #[.agg (encWord a).toArray] h (fun v h' => v = .agg (encWord (notW a)).toArray ∧ h' = h) := by
  refine ACalls.of_ay Try.func59 rfl Try.ntmps59 ⟨_, _, rfl, rfl⟩ ?_; simp only [List.length_cons, List.length_nil, Nat.reduceAdd, Nat.reduceSub, List.replicate_succ, List.replicate_zero, List.cons_append, List.nil_append]
  simp (implicitDefEqProofs := false) only [go_sem, Nat.reduceAdd, Nat.reduceSub, Nat.reduceMul, Nat.reduceLT, Nat.reduceLeDiff, Nat.reduceEqDiff, Nat.reduceBEq, Nat.reduceBNe, Nat.reducePow, Int.reduceBEq, Int.reduceBNe, Int.reduceEq, Int.reduceLT, Int.reduceLE, Int.reduceNeg, Int.reduceToNat, Int.reduceMul, Int.reduceAdd, Int.reduceSub, Int.reducePow, Int.reduceFDiv, reduceCtorEq, reduceIte, encWord_get a (show 0 < 4 by decide), encWord_get a (show 1 < 4 by decide), encWord_get a (show 2 < 4 by decide), encWord_get a (show 3 < 4 by decide)]
  exact apost_cell rfl (encWord_plain _) ⟨rfl, rfl⟩ _ _ rfl (by simp (implicitDefEqProofs := false) only [go_sem, Nat.reduceAdd, Nat.reduceSub, Nat.reduceMul, Nat.reduceLT, Nat.reduceLeDiff, Nat.reduceEqDiff, Nat.reduceBEq, Nat.reduceBNe, Nat.reducePow, Int.reduceBEq, Int.reduceBNe, Int.reduceEq, Int.reduceLT, Int.reduceLE, Int.reduceNeg, Int.reduceToNat, Int.reduceMul, Int.reduceAdd, Int.reduceSub, Int.reducePow, Int.reduceFDiv, reduceCtorEq, reduceIte]; rfl)

set_option maxRecDepth 10000 in
set_option maxHeartbeats 4000000 in
theorem rfrom_calls (x : UInt64) (h : AH) : ACalls Try.prog 60 #[.int .u64 ((x.toNat : Nat) : Int)] h (fun v h' => v = .agg (encWord (fromW x)).toArray ∧ h' = h) := by
  refine ACalls.of_ay Try.func60 rfl Try.ntmps60 ⟨_, _, rfl, rfl⟩ ?_; simp only [List.length_cons, List.length_nil, Nat.reduceAdd, Nat.reduceSub, List.replicate_succ, List.replicate_zero, List.cons_append, List.nil_append]
  simp (implicitDefEqProofs := false) only [go_sem, Nat.reduceAdd, Nat.reduceSub, Nat.reduceMul, Nat.reduceLT, Nat.reduceLeDiff, Nat.reduceEqDiff, Nat.reduceBEq, Nat.reduceBNe, Nat.reducePow, Int.reduceBEq, Int.reduceBNe, Int.reduceEq, Int.reduceLT, Int.reduceLE, Int.reduceNeg, Int.reduceToNat, Int.reduceMul, Int.reduceAdd, Int.reduceSub, Int.reducePow, Int.reduceFDiv, reduceCtorEq, reduceIte]
  exact apost_cell rfl (encWord_plain _) ⟨rfl, rfl⟩ _ _ rfl (by simp (implicitDefEqProofs := false) only [go_sem, Nat.reduceAdd, Nat.reduceSub, Nat.reduceMul, Nat.reduceLT, Nat.reduceLeDiff, Nat.reduceEqDiff, Nat.reduceBEq, Nat.reduceBNe, Nat.reducePow, Int.reduceBEq, Int.reduceBNe, Int.reduceEq, Int.reduceLT, Int.reduceLE, Int.reduceNeg, Int.reduceToNat, Int.reduceMul, Int.reduceAdd, Int.reduceSub, Int.reducePow, Int.reduceFDiv, reduceCtorEq, reduceIte]; rfl)

set_option maxRecDepth 10000 in
set_option maxHeartbeats 4000000 in
theorem radd_calls (a b : Word4) (h : AH) :
    ACalls Try.prog 46 #[.agg (encWord a).toArray, .agg (encWord b).toArray] h (fun v h' => v = .tuple #[.agg (encWord (ad a b 4).1).toArray, .bool (((((ad a b 4).2.toNat : Nat) : Int)) == 1)] ∧ h' = h) := by
  refine ACalls.of_ay Try.func46 rfl Try.ntmps46 ⟨_, _, rfl, rfl⟩ ?_; simp only [List.length_cons, List.length_nil, Nat.reduceAdd, Nat.reduceSub, List.replicate_succ, List.replicate_zero, List.cons_append, List.nil_append]
  simp (implicitDefEqProofs := false) only [go_sem, Nat.reduceAdd, Nat.reduceSub, Nat.reduceMul, Nat.reduceLT, Nat.reduceLeDiff, Nat.reduceEqDiff, Nat.reduceBEq, Nat.reduceBNe, Nat.reducePow, Int.reduceBEq, Int.reduceBNe, Int.reduceEq, Int.reduceLT, Int.reduceLE, Int.reduceNeg, Int.reduceToNat, Int.reduceMul, Int.reduceAdd, Int.reduceSub, Int.reducePow, Int.reduceFDiv, reduceCtorEq, reduceIte]
  rw [zeroW_enc]
  refine AWP.loopI (fun i : Nat => 4 - i) (fun i => [junk, junk, .pointer (some ⟨h.length, 0, none⟩), .pointer (some ⟨h.length + 1, 0, none⟩), .pointer (some ⟨h.length + 2, 0, none⟩), junk, .pointer (some ⟨h.length + 3, 0, none⟩), .int .u64 ((((ad a b i).2.toNat : Nat) : Int)), .int .i64 (i : Nat), junk, junk, junk, junk, junk, junk, junk, junk, junk, junk, junk, junk, junk, junk, junk, junk, junk, junk, junk, junk, junk, junk, junk, junk, junk, junk, junk, junk, junk, junk, junk, junk])
    (fun i => h ++ [.cells (encWord a).toArray 0 true, .cells (encWord b).toArray 0 true, .cells (encWord zeroW).toArray 0 true, .cells (encWord (ad a b i).1).toArray 0 true]) (fun i => i ≤ 4) 0 (Nat.zero_le _) ?_ ?_
  · simp only [ad_0]
    refine Keeps.easeL oren4 ?_
    repeat (first | exact Keeps.nil | refine Keeps.junk _ ?_ | refine Keeps.keep (by first | exact .plain _ rfl | exact .ptr _ _ _ (by simp) rfl) ?_)
  · intro i hi
    by_cases hlt : i < 4
    · have h43 : i ≤ 3 := by omega
      have hl4 : ((i : Nat) : Int) < 4 := by omega
      have hw1 : IntKind.i64.wrap ((i : Int) + 1) = ((i + 1 : Nat) : Int) := by rw [wrap_i64_of _ (by omega) (by omega), ofNat_succ']
      have hle := ad_le a b i
      have x1 := a[i].toNat_lt
      have x2 := b[i].toNat_lt
      have s1 : (a[i] + b[i]).toNat = (a[i].toNat + b[i].toNat) % 2 ^ 64 := UInt64.toNat_add _ _
      have s2 : (a[i] + b[i] + (ad a b i).2).toNat = ((a[i] + b[i]).toNat + (ad a b i).2.toNat) % 2 ^ 64 := UInt64.toNat_add _ _
      have hcar : (car a[i] b[i] (ad a b i).2).toNat = if 2 ^ 64 ≤ a[i].toNat + b[i].toNat + (ad a b i).2.toNat then 1 else 0 := by unfold car; split <;> rfl
      by_cases q1 : (a[i] + b[i]).toNat < a[i].toNat
      · by_cases q2 : (a[i] + b[i] + (ad a b i).2).toNat < (a[i] + b[i]).toNat
        · exfalso; omega
        · have hc : (car a[i] b[i] (ad a b i).2).toNat = 1 := by rw [hcar, if_pos (by omega)]
          simp (implicitDefEqProofs := false) only [go_sem, Nat.reduceAdd, Nat.reduceSub, Nat.reduceMul, Nat.reduceLT, Nat.reduceLeDiff, Nat.reduceEqDiff, Nat.reduceBEq, Nat.reduceBNe, Nat.reducePow, Int.reduceBEq, Int.reduceBNe, Int.reduceEq, Int.reduceLT, Int.reduceLE, Int.reduceNeg, Int.reduceToNat, Int.reduceMul, Int.reduceAdd, Int.reduceSub, Int.reducePow, Int.reduceFDiv, reduceCtorEq, reduceIte, hl4, h43, hw1, encWord_get _ hlt, encWord_set _ hlt, u64_add, q1, q2]
          refine ⟨by kernel_rfl, by kernel_rfl, ?_⟩
          refine ⟨i + 1, by omega, by omega, ?_⟩
          simp only [ad_succ a b hlt, hc]
          refine Keeps.easeL oren4 ?_
          repeat (first | exact Keeps.nil | refine Keeps.junk _ ?_ | refine Keeps.keep (by first | exact .plain _ rfl | exact .ptr _ _ _ (by simp) rfl) ?_)
      · by_cases q2 : (a[i] + b[i] + (ad a b i).2).toNat < (a[i] + b[i]).toNat
        · have hc : (car a[i] b[i] (ad a b i).2).toNat = 1 := by rw [hcar, if_pos (by omega)]
          simp (implicitDefEqProofs := false) only [go_sem, Nat.reduceAdd, Nat.reduceSub, Nat.reduceMul, Nat.reduceLT, Nat.reduceLeDiff, Nat.reduceEqDiff, Nat.reduceBEq, Nat.reduceBNe, Nat.reducePow, Int.reduceBEq, Int.reduceBNe, Int.reduceEq, Int.reduceLT, Int.reduceLE, Int.reduceNeg, Int.reduceToNat, Int.reduceMul, Int.reduceAdd, Int.reduceSub, Int.reducePow, Int.reduceFDiv, reduceCtorEq, reduceIte, hl4, h43, hw1, encWord_get _ hlt, encWord_set _ hlt, u64_add, q1, q2]
          refine ⟨by kernel_rfl, by kernel_rfl, ?_⟩
          refine ⟨i + 1, by omega, by omega, ?_⟩
          simp only [ad_succ a b hlt, hc]
          refine Keeps.easeL oren4 ?_
          repeat (first | exact Keeps.nil | refine Keeps.junk _ ?_ | refine Keeps.keep (by first | exact .plain _ rfl | exact .ptr _ _ _ (by simp) rfl) ?_)
        · have hc : (car a[i] b[i] (ad a b i).2).toNat = 0 := by rw [hcar, if_neg (by omega)]
          simp (implicitDefEqProofs := false) only [go_sem, Nat.reduceAdd, Nat.reduceSub, Nat.reduceMul, Nat.reduceLT, Nat.reduceLeDiff, Nat.reduceEqDiff, Nat.reduceBEq, Nat.reduceBNe, Nat.reducePow, Int.reduceBEq, Int.reduceBNe, Int.reduceEq, Int.reduceLT, Int.reduceLE, Int.reduceNeg, Int.reduceToNat, Int.reduceMul, Int.reduceAdd, Int.reduceSub, Int.reducePow, Int.reduceFDiv, reduceCtorEq, reduceIte, hl4, h43, hw1, encWord_get _ hlt, encWord_set _ hlt, u64_add, q1, q2]
          refine ⟨by kernel_rfl, by kernel_rfl, ?_⟩
          refine ⟨i + 1, by omega, by omega, ?_⟩
          simp only [ad_succ a b hlt, hc]
          refine Keeps.easeL oren4 ?_
          repeat (first | exact Keeps.nil | refine Keeps.junk _ ?_ | refine Keeps.keep (by first | exact .plain _ rfl | exact .ptr _ _ _ (by simp) rfl) ?_)
    · have hl4 : ¬ ((i : Nat) : Int) < 4 := by omega
      simp (implicitDefEqProofs := false) only [go_sem, Nat.reduceAdd, Nat.reduceSub, Nat.reduceMul, Nat.reduceLT, Nat.reduceLeDiff, Nat.reduceEqDiff, Nat.reduceBEq, Nat.reduceBNe, Nat.reducePow, Int.reduceBEq, Int.reduceBNe, Int.reduceEq, Int.reduceLT, Int.reduceLE, Int.reduceNeg, Int.reduceToNat, Int.reduceMul, Int.reduceAdd, Int.reduceSub, Int.reducePow, Int.reduceFDiv, reduceCtorEq, reduceIte, hl4]
      have hie : i = 4 := by omega
      subst hie
      exact apost_wb rfl (by simp (implicitDefEqProofs := false) only [go_sem, Nat.reduceAdd, Nat.reduceSub, Nat.reduceMul, Nat.reduceLT, Nat.reduceLeDiff, Nat.reduceEqDiff, Nat.reduceBEq, Nat.reduceBNe, Nat.reducePow, Int.reduceBEq, Int.reduceBNe, Int.reduceEq, Int.reduceLT, Int.reduceLE, Int.reduceNeg, Int.reduceToNat, Int.reduceMul, Int.reduceAdd, Int.reduceSub, Int.reducePow, Int.reduceFDiv, reduceCtorEq, reduceIte, length_encWord]) rfl ⟨rfl, rfl⟩

set_option maxRecDepth 10000 in
set_option maxHeartbeats 4000000 in
theorem rneg_calls (a : Word4) (h : AH) : ACalls Try.prog 47 #[.agg (encWord a).toArray] h (fun v h' => v = .agg (encWord (negW a)).toArray ∧ h' = h) := by
  refine ACalls.of_ay Try.func47 rfl Try.ntmps47 ⟨_, _, rfl, rfl⟩ ?_; simp only [List.length_cons, List.length_nil, Nat.reduceAdd, Nat.reduceSub, List.replicate_succ, List.replicate_zero, List.cons_append, List.nil_append]
  simp (implicitDefEqProofs := false) only [go_sem, Nat.reduceAdd, Nat.reduceSub, Nat.reduceMul, Nat.reduceLT, Nat.reduceLeDiff, Nat.reduceEqDiff, Nat.reduceBEq, Nat.reduceBNe, Nat.reducePow, Int.reduceBEq, Int.reduceBNe, Int.reduceEq, Int.reduceLT, Int.reduceLE, Int.reduceNeg, Int.reduceToNat, Int.reduceMul, Int.reduceAdd, Int.reduceSub, Int.reducePow, Int.reduceFDiv, reduceCtorEq, reduceIte, length_encWord]
  refine astep_call (rnot_calls a _) ?_
  simp (implicitDefEqProofs := false) only [go_sem, Nat.reduceAdd, Nat.reduceSub, Nat.reduceMul, Nat.reduceLT, Nat.reduceLeDiff, Nat.reduceEqDiff, Nat.reduceBEq, Nat.reduceBNe, Nat.reducePow, Int.reduceBEq, Int.reduceBNe, Int.reduceEq, Int.reduceLT, Int.reduceLE, Int.reduceNeg, Int.reduceToNat, Int.reduceMul, Int.reduceAdd, Int.reduceSub, Int.reducePow, Int.reduceFDiv, reduceCtorEq, reduceIte]
  refine astep_call (rfrom_calls 1 _) ?_
  simp (implicitDefEqProofs := false) only [go_sem, Nat.reduceAdd, Nat.reduceSub, Nat.reduceMul, Nat.reduceLT, Nat.reduceLeDiff, Nat.reduceEqDiff, Nat.reduceBEq, Nat.reduceBNe, Nat.reducePow, Int.reduceBEq, Int.reduceBNe, Int.reduceEq, Int.reduceLT, Int.reduceLE, Int.reduceNeg, Int.reduceToNat, Int.reduceMul, Int.reduceAdd, Int.reduceSub, Int.reducePow, Int.reduceFDiv, reduceCtorEq, reduceIte]
  refine astep_call (radd_calls (notW a) (fromW 1) _) ?_
  simp (implicitDefEqProofs := false) only [go_sem, Nat.reduceAdd, Nat.reduceSub, Nat.reduceMul, Nat.reduceLT, Nat.reduceLeDiff, Nat.reduceEqDiff, Nat.reduceBEq, Nat.reduceBNe, Nat.reducePow, Int.reduceBEq, Int.reduceBNe, Int.reduceEq, Int.reduceLT, Int.reduceLE, Int.reduceNeg, Int.reduceToNat, Int.reduceMul, Int.reduceAdd, Int.reduceSub, Int.reducePow, Int.reduceFDiv, reduceCtorEq, reduceIte, length_encWord]
  exact apost_cell rfl (encWord_plain _) ⟨rfl, rfl⟩ _ _ rfl (by simp (implicitDefEqProofs := false) only [go_sem, Nat.reduceAdd, Nat.reduceSub, Nat.reduceMul, Nat.reduceLT, Nat.reduceLeDiff, Nat.reduceEqDiff, Nat.reduceBEq, Nat.reduceBNe, Nat.reducePow, Int.reduceBEq, Int.reduceBNe, Int.reduceEq, Int.reduceLT, Int.reduceLE, Int.reduceNeg, Int.reduceToNat, Int.reduceMul, Int.reduceAdd, Int.reduceSub, Int.reducePow, Int.reduceFDiv, reduceCtorEq, reduceIte, length_encWord]; rfl)

theorem valW_less {a b : Word4} {i : Nat} (hi : i < 4) (heq : ∀ j (hj : j < 4), i + 1 ≤ j → a[j] = b[j]) (h : a[i].toNat < b[i].toNat) : valW a < valW b := by
  have := a[0].toNat_lt; have := a[1].toNat_lt; have := a[2].toNat_lt; have := a[3].toNat_lt
  have := b[0].toNat_lt; have := b[1].toNat_lt; have := b[2].toNat_lt; have := b[3].toNat_lt
  unfold valW
  have : i = 0 ∨ i = 1 ∨ i = 2 ∨ i = 3 := by omega
  rcases this with rfl | rfl | rfl | rfl
  · rw [heq 1 (by decide) (by decide), heq 2 (by decide) (by decide), heq 3 (by decide) (by decide)]; omega
  · rw [heq 2 (by decide) (by decide), heq 3 (by decide) (by decide)]; omega
  · rw [heq 3 (by decide) (by decide)]; omega
  · omega

set_option maxRecDepth 10000 in
set_option maxHeartbeats 4000000 in
theorem rcmp_calls (a b : Word4) (h : AH) :
    ACalls Try.prog 48 #[.agg (encWord a).toArray, .agg (encWord b).toArray] h (fun v h' => ∃ n : Int, v = .int .i64 n ∧ (n < 0 ↔ valW a < valW b) ∧ h' = h) := by
  refine ACalls.of_ay Try.func48 rfl Try.ntmps48 ⟨_, _, if valW a < valW b then -1 else 0, rfl, by split <;> simp [*], rfl⟩ ?_; simp only [List.length_cons, List.length_nil, Nat.reduceAdd, Nat.reduceSub, List.replicate_succ, List.replicate_zero, List.cons_append, List.nil_append]
  simp (implicitDefEqProofs := false) only [go_sem, Nat.reduceAdd, Nat.reduceSub, Nat.reduceMul, Nat.reduceLT, Nat.reduceLeDiff, Nat.reduceEqDiff, Nat.reduceBEq, Nat.reduceBNe, Nat.reducePow, Int.reduceBEq, Int.reduceBNe, Int.reduceEq, Int.reduceLT, Int.reduceLE, Int.reduceNeg, Int.reduceToNat, Int.reduceMul, Int.reduceAdd, Int.reduceSub, Int.reducePow, Int.reduceFDiv, reduceCtorEq, reduceIte]
  refine AWP.loopI (fun i : Nat => i) (fun i => [junk, junk, .pointer (some ⟨h.length, 0, none⟩), .pointer (some ⟨h.length + 1, 0, none⟩), junk, .int .i64 ((i : Int) - 1), junk, junk, junk, junk, junk, junk, junk, junk, junk, junk, junk, junk, junk, junk, junk, junk, junk, junk])
    (fun i => h ++ [.cells (encWord a).toArray 0 true, .cells (encWord b).toArray 0 true]) (fun i => i ≤ 4 ∧ ∀ j (hj : j < 4), i ≤ j → a[j] = b[j]) 4 ⟨Nat.le_refl _, fun j h1 h2 => by omega⟩ ?_ ?_
  · refine Keeps.easeL oren_words ?_
    repeat (first | exact Keeps.nil | refine Keeps.junk _ ?_ | refine Keeps.keep (by first | exact .plain _ rfl | exact .ptr _ _ _ (by simp) rfl) ?_)
  · intro i hi
    obtain ⟨hi, heq⟩ := hi
    cases i with
    | zero =>
      simp (implicitDefEqProofs := false) only [go_sem, Nat.reduceAdd, Nat.reduceSub, Nat.reduceMul, Nat.reduceLT, Nat.reduceLeDiff, Nat.reduceEqDiff, Nat.reduceBEq, Nat.reduceBNe, Nat.reducePow, Int.reduceBEq, Int.reduceBNe, Int.reduceEq, Int.reduceLT, Int.reduceLE, Int.reduceNeg, Int.reduceToNat, Int.reduceMul, Int.reduceAdd, Int.reduceSub, Int.reducePow, Int.reduceFDiv, reduceCtorEq, reduceIte, Int.ofNat_zero, Int.zero_sub, Int.natCast_zero]
      have e : a = b := Vector.ext fun j hj => heq j hj (Nat.zero_le _)
      exact apost_tmp (v := .int .i64 0) rfl rfl ⟨_, rfl, by rw [e]; simp, rfl⟩ _ _ rfl
    | succ i =>
      have hlt : i < 4 := by omega
      have h43 : i ≤ 3 := by omega
      have hl4 : ((i : Nat) : Int) < 4 := by omega
      have hs : (((i + 1 : Nat) : Int) - 1) = ((i : Nat) : Int) := by omega
      have hw1 : IntKind.i64.wrap ((i : Int) - 1) = (i : Int) - 1 := wrap_i64_of _ (by omega) (by omega)
      by_cases q1 : a[i].toNat < b[i].toNat
      · simp (implicitDefEqProofs := false) only [go_sem, Nat.reduceAdd, Nat.reduceSub, Nat.reduceMul, Nat.reduceLT, Nat.reduceLeDiff, Nat.reduceEqDiff, Nat.reduceBEq, Nat.reduceBNe, Nat.reducePow, Int.reduceBEq, Int.reduceBNe, Int.reduceEq, Int.reduceLT, Int.reduceLE, Int.reduceNeg, Int.reduceToNat, Int.reduceMul, Int.reduceAdd, Int.reduceSub, Int.reducePow, Int.reduceFDiv, reduceCtorEq, reduceIte, hs, hl4, h43, hw1, encWord_get _ hlt, q1]
        refine ⟨by kernel_rfl, by kernel_rfl, ?_⟩
        exact apost_tmp (v := .int .i64 (-1)) rfl rfl ⟨_, rfl, by simp [valW_less hlt heq q1], rfl⟩ _ _ rfl
      · by_cases q2 : b[i].toNat < a[i].toNat
        · simp (implicitDefEqProofs := false) only [go_sem, Nat.reduceAdd, Nat.reduceSub, Nat.reduceMul, Nat.reduceLT, Nat.reduceLeDiff, Nat.reduceEqDiff, Nat.reduceBEq, Nat.reduceBNe, Nat.reducePow, Int.reduceBEq, Int.reduceBNe, Int.reduceEq, Int.reduceLT, Int.reduceLE, Int.reduceNeg, Int.reduceToNat, Int.reduceMul, Int.reduceAdd, Int.reduceSub, Int.reducePow, Int.reduceFDiv, reduceCtorEq, reduceIte, hs, hl4, h43, hw1, encWord_get _ hlt, q1, q2]
          refine ⟨by kernel_rfl, by kernel_rfl, by kernel_rfl, by kernel_rfl, ?_⟩
          have := valW_less hlt (fun j hj hle => (heq j hj hle).symm) q2
          exact apost_tmp (v := .int .i64 1) rfl rfl ⟨_, rfl, ⟨fun h1 => absurd h1 (by decide), fun h1 => by omega⟩, rfl⟩ _ _ rfl
        · simp (implicitDefEqProofs := false) only [go_sem, Nat.reduceAdd, Nat.reduceSub, Nat.reduceMul, Nat.reduceLT, Nat.reduceLeDiff, Nat.reduceEqDiff, Nat.reduceBEq, Nat.reduceBNe, Nat.reducePow, Int.reduceBEq, Int.reduceBNe, Int.reduceEq, Int.reduceLT, Int.reduceLE, Int.reduceNeg, Int.reduceToNat, Int.reduceMul, Int.reduceAdd, Int.reduceSub, Int.reducePow, Int.reduceFDiv, reduceCtorEq, reduceIte, hs, hl4, h43, hw1, encWord_get _ hlt, q1, q2]
          refine ⟨by kernel_rfl, by kernel_rfl, by kernel_rfl, by kernel_rfl, ?_⟩
          refine ⟨i, by omega, ⟨by omega, fun j hj hle => ?_⟩, ?_⟩
          · by_cases he : i = j
            · subst he; exact UInt64.toNat_inj.1 (by omega)
            · exact heq j hj (by omega)
          · refine Keeps.easeL oren_words ?_
            repeat (first | exact Keeps.nil | refine Keeps.junk _ ?_ | refine Keeps.keep (by first | exact .plain _ rfl | exact .ptr _ _ _ (by simp) rfl) ?_)

set_option maxRecDepth 10000 in
set_option maxHeartbeats 4000000 in
theorem rsub_calls (a b : Word4) (h : AH) :
    ACalls Try.prog 30 #[.agg (encWord a).toArray, .agg (encWord b).toArray] h (fun v h' => v = .tuple #[.agg (encWord (sb a b 4).1).toArray, .bool (((((sb a b 4).2.toNat : Nat) : Int)) != 0)] ∧ h' = h) := by
  refine ACalls.of_ay Try.func30 rfl Try.ntmps30 ⟨_, _, rfl, rfl⟩ ?_; simp only [List.length_cons, List.length_nil, Nat.reduceAdd, Nat.reduceSub, List.replicate_succ, List.replicate_zero, List.cons_append, List.nil_append]
  simp (implicitDefEqProofs := false) only [go_sem, Nat.reduceAdd, Nat.reduceSub, Nat.reduceMul, Nat.reduceLT, Nat.reduceLeDiff, Nat.reduceEqDiff, Nat.reduceBEq, Nat.reduceBNe, Nat.reducePow, Int.reduceBEq, Int.reduceBNe, Int.reduceEq, Int.reduceLT, Int.reduceLE, Int.reduceNeg, Int.reduceToNat, Int.reduceMul, Int.reduceAdd, Int.reduceSub, Int.reducePow, Int.reduceFDiv, reduceCtorEq, reduceIte, length_encWord]
  refine ⟨by kernel_rfl, by kernel_rfl, ?_⟩
  refine dstep_callA (fun x => rneg_calls b _) pres_refl ?_
  simp (implicitDefEqProofs := false) only [go_sem, Nat.reduceAdd, Nat.reduceSub, Nat.reduceMul, Nat.reduceLT, Nat.reduceLeDiff, Nat.reduceEqDiff, Nat.reduceBEq, Nat.reduceBNe, Nat.reducePow, Int.reduceBEq, Int.reduceBNe, Int.reduceEq, Int.reduceLT, Int.reduceLE, Int.reduceNeg, Int.reduceToNat, Int.reduceMul, Int.reduceAdd, Int.reduceSub, Int.reducePow, Int.reduceFDiv, reduceCtorEq, reduceIte]
  refine dstep_callA (fun x => radd_calls a (negW b) _) pres_refl ?_
  simp (implicitDefEqProofs := false) only [go_sem, Nat.reduceAdd, Nat.reduceSub, Nat.reduceMul, Nat.reduceLT, Nat.reduceLeDiff, Nat.reduceEqDiff, Nat.reduceBEq, Nat.reduceBNe, Nat.reducePow, Int.reduceBEq, Int.reduceBNe, Int.reduceEq, Int.reduceLT, Int.reduceLE, Int.reduceNeg, Int.reduceToNat, Int.reduceMul, Int.reduceAdd, Int.reduceSub, Int.reducePow, Int.reduceFDiv, reduceCtorEq, reduceIte, length_encWord]
  refine ⟨by kernel_rfl, by kernel_rfl, ?_⟩
  refine dstep_calls (rcmp_calls a b _) ?_
  intro v h1 hR
  obtain ⟨n, rfl, hn, rfl⟩ := hR
  refine ⟨pres_refl, ?_⟩
  have hb : decide (n < 0) = ((((sb a b 4).2.toNat : Nat) : Int) != 0) := by
    have h1 := sb_borrow a b
    have h2 := sb_le a b 4
    rw [Bool.eq_iff_iff, decide_eq_true_iff, bne_iff_ne, hn]
    omega
  simp (implicitDefEqProofs := false) only [go_sem, Nat.reduceAdd, Nat.reduceSub, Nat.reduceMul, Nat.reduceLT, Nat.reduceLeDiff, Nat.reduceEqDiff, Nat.reduceBEq, Nat.reduceBNe, Nat.reducePow, Int.reduceBEq, Int.reduceBNe, Int.reduceEq, Int.reduceLT, Int.reduceLE, Int.reduceNeg, Int.reduceToNat, Int.reduceMul, Int.reduceAdd, Int.reduceSub, Int.reducePow, Int.reduceFDiv, reduceCtorEq, reduceIte, length_encWord]
  rw [hb, show (ad a (negW b) 4).1 = (sb a b 4).1 from sub_same a b]
  refine ⟨.inr ⟨rfl, by decide⟩, ?_⟩
  exact apost_wb rfl (by simp (implicitDefEqProofs := false) only [go_sem, Nat.reduceAdd, Nat.reduceSub, Nat.reduceMul, Nat.reduceLT, Nat.reduceLeDiff, Nat.reduceEqDiff, Nat.reduceBEq, Nat.reduceBNe, Nat.reducePow, Int.reduceBEq, Int.reduceBNe, Int.reduceEq, Int.reduceLT, Int.reduceLE, Int.reduceNeg, Int.reduceToNat, Int.reduceMul, Int.reduceAdd, Int.reduceSub, Int.reducePow, Int.reduceFDiv, reduceCtorEq, reduceIte, length_encWord]) rfl ⟨rfl, rfl⟩

/-- a word that is small -/
def smallV (a : Word4) : Value := .tuple #[.int .u64 (if valW a < 2 ^ 64 then ((a[0].toNat : Nat) : Int) else 0), .bool (decide (valW a < 2 ^ 64))]
theorem smallV_yes {a : Word4} (h : valW a < 2 ^ 64) : smallV a = .tuple #[.int .u64 ((a[0].toNat : Nat) : Int), .bool true] := by unfold smallV; rw [if_pos h, decide_eq_true h]
theorem smallV_no {a : Word4} (h : ¬ valW a < 2 ^ 64) : smallV a = .tuple #[.int .u64 0, .bool false] := by unfold smallV; rw [if_neg h, decide_eq_false h]

set_option maxRecDepth 10000 in
set_option maxHeartbeats 4000000 in
theorem rsmall_calls (a : Word4) (h : AH) :
    ACalls Try.prog 31 #[.agg (encWord a).toArray] h (fun v h' => v = smallV a ∧ h' = h) := by
  refine ACalls.of_ay Try.func31 rfl Try.ntmps31 ⟨_, _, rfl, rfl⟩ ?_; simp only [List.length_cons, List.length_nil, Nat.reduceAdd, Nat.reduceSub, List.replicate_succ, List.replicate_zero, List.cons_append, List.nil_append]
  have b0 := a[0].toNat_lt; have b1 := a[1].toNat_lt; have b2 := a[2].toNat_lt; have b3 := a[3].toNat_lt
  have hv : valW a < 2 ^ 64 ↔ a[1].toNat = 0 ∧ a[2].toNat = 0 ∧ a[3].toNat = 0 := by unfold valW; omega
  cases q1 : ((((a[1].toNat : Nat) : Int)) != 0) with
  | true =>
    have hn : ¬ valW a < 2 ^ 64 := by rw [hv]; rw [bne_iff_ne] at q1; omega
    rw [smallV_no hn]
    simp (implicitDefEqProofs := false) only [go_sem, Nat.reduceAdd, Nat.reduceSub, Nat.reduceMul, Nat.reduceLT, Nat.reduceLeDiff, Nat.reduceEqDiff, Nat.reduceBEq, Nat.reduceBNe, Nat.reducePow, Int.reduceBEq, Int.reduceBNe, Int.reduceEq, Int.reduceLT, Int.reduceLE, Int.reduceNeg, Int.reduceToNat, Int.reduceMul, Int.reduceAdd, Int.reduceSub, Int.reducePow, Int.reduceFDiv, reduceCtorEq, reduceIte, encWord_get a (show 0 < 4 by decide), encWord_get a (show 1 < 4 by decide), encWord_get a (show 2 < 4 by decide), encWord_get a (show 3 < 4 by decide), q1]
    exact apost_nb rfl rfl rfl ⟨rfl, rfl⟩
  | false =>
  cases q2 : ((((a[2].toNat : Nat) : Int)) != 0) with
  | true =>
    have hn : ¬ valW a < 2 ^ 64 := by rw [hv]; rw [bne_iff_ne] at q2; omega
    rw [smallV_no hn]
    simp (implicitDefEqProofs := false) only [go_sem, Nat.reduceAdd, Nat.reduceSub, Nat.reduceMul, Nat.reduceLT, Nat.reduceLeDiff, Nat.reduceEqDiff, Nat.reduceBEq, Nat.reduceBNe, Nat.reducePow, Int.reduceBEq, Int.reduceBNe, Int.reduceEq, Int.reduceLT, Int.reduceLE, Int.reduceNeg, Int.reduceToNat, Int.reduceMul, Int.reduceAdd, Int.reduceSub, Int.reducePow, Int.reduceFDiv, reduceCtorEq, reduceIte, encWord_get a (show 0 < 4 by decide), encWord_get a (show 1 < 4 by decide), encWord_get a (show 2 < 4 by decide), encWord_get a (show 3 < 4 by decide), q1, q2]
    exact apost_nb rfl rfl rfl ⟨rfl, rfl⟩
  | false =>
  cases q3 : ((((a[3].toNat : Nat) : Int)) != 0) with
  | true =>
    have hn : ¬ valW a < 2 ^ 64 := by rw [hv]; rw [bne_iff_ne] at q3; omega
    rw [smallV_no hn]
    simp (implicitDefEqProofs := false) only [go_sem, Nat.reduceAdd, Nat.reduceSub, Nat.reduceMul, Nat.reduceLT, Nat.reduceLeDiff, Nat.reduceEqDiff, Nat.reduceBEq, Nat.reduceBNe, Nat.reducePow, Int.reduceBEq, Int.reduceBNe, Int.reduceEq, Int.reduceLT, Int.reduceLE, Int.reduceNeg, Int.reduceToNat, Int.reduceMul, Int.reduceAdd, Int.reduceSub, Int.reducePow, Int.reduceFDiv, reduceCtorEq, reduceIte, encWord_get a (show 0 < 4 by decide), encWord_get a (show 1 < 4 by decide), encWord_get a (show 2 < 4 by decide), encWord_get a (show 3 < 4 by decide), q1, q2, q3]
    exact apost_nb rfl rfl rfl ⟨rfl, rfl⟩
  | false =>
    have hn : valW a < 2 ^ 64 := by rw [hv]; simp only [bne_eq_false_iff_eq] at q1 q2 q3; omega
    rw [smallV_yes hn]
    simp (implicitDefEqProofs := false) only [go_sem, Nat.reduceAdd, Nat.reduceSub, Nat.reduceMul, Nat.reduceLT, Nat.reduceLeDiff, Nat.reduceEqDiff, Nat.reduceBEq, Nat.reduceBNe, Nat.reducePow, Int.reduceBEq, Int.reduceBNe, Int.reduceEq, Int.reduceLT, Int.reduceLE, Int.reduceNeg, Int.reduceToNat, Int.reduceMul, Int.reduceAdd, Int.reduceSub, Int.reducePow, Int.reduceFDiv, reduceCtorEq, reduceIte, encWord_get a (show 0 < 4 by decide), encWord_get a (show 1 < 4 by decide), encWord_get a (show 2 < 4 by decide), encWord_get a (show 3 < 4 by decide), q1, q2, q3]
    exact apost_nb rfl rfl rfl ⟨rfl, rfl⟩

set_option maxRecDepth 10000 in
set_option maxHeartbeats 4000000 in
theorem wsmall_calls (a : Word4) (h : AH) :
    ACalls Try.prog 27 #[.agg (encWord a).toArray] h (fun v h' => v = smallV a ∧ h' = h) := by
  refine ACalls.of_ay Try.func27 rfl Try.ntmps27 ⟨_, _, rfl, rfl⟩ ?_; simp only [List.length_cons, List.length_nil, Nat.reduceAdd, Nat.reduceSub, List.replicate_succ, List.replicate_zero, List.cons_append, List.nil_append]
  have b0 := a[0].toNat_lt; have b1 := a[1].toNat_lt; have b2 := a[2].toNat_lt; have b3 := a[3].toNat_lt
  have hv : valW a < 2 ^ 64 ↔ (a[1] ||| a[2] ||| a[3]).toNat = 0 := by
    rw [UInt64.toNat_or, UInt64.toNat_or, Nat.or_eq_zero_iff, Nat.or_eq_zero_iff]
    unfold valW; omega
  cases q1 : (((((a[1] ||| a[2] ||| a[3]).toNat : Nat) : Int)) != 0) with
  | true =>
    have hn : ¬ valW a < 2 ^ 64 := by rw [hv]; rw [bne_iff_ne] at q1; omega
    rw [smallV_no hn]
    simp (implicitDefEqProofs := false) only [go_sem, Nat.reduceAdd, Nat.reduceSub, Nat.reduceMul, Nat.reduceLT, Nat.reduceLeDiff, Nat.reduceEqDiff, Nat.reduceBEq, Nat.reduceBNe, Nat.reducePow, Int.reduceBEq, Int.reduceBNe, Int.reduceEq, Int.reduceLT, Int.reduceLE, Int.reduceNeg, Int.reduceToNat, Int.reduceMul, Int.reduceAdd, Int.reduceSub, Int.reducePow, Int.reduceFDiv, reduceCtorEq, reduceIte, encWord_get a (show 0 < 4 by decide), encWord_get a (show 1 < 4 by decide), encWord_get a (show 2 < 4 by decide), encWord_get a (show 3 < 4 by decide), q1]
    exact apost_nb rfl rfl rfl ⟨rfl, rfl⟩
  | false =>
    have hn : valW a < 2 ^ 64 := by rw [hv]; simp only [bne_eq_false_iff_eq] at q1; omega
    rw [smallV_yes hn]
    simp (implicitDefEqProofs := false) only [go_sem, Nat.reduceAdd, Nat.reduceSub, Nat.reduceMul, Nat.reduceLT, Nat.reduceLeDiff, Nat.reduceEqDiff, Nat.reduceBEq, Nat.reduceBNe, Nat.reducePow, Int.reduceBEq, Int.reduceBNe, Int.reduceEq, Int.reduceLT, Int.reduceLE, Int.reduceNeg, Int.reduceToNat, Int.reduceMul, Int.reduceAdd, Int.reduceSub, Int.reducePow, Int.reduceFDiv, reduceCtorEq, reduceIte, encWord_get a (show 0 < 4 by decide), encWord_get a (show 1 < 4 by decide), encWord_get a (show 2 < 4 by decide), encWord_get a (show 3 < 4 by decide), q1]
    exact apost_nb rfl rfl rfl ⟨rfl, rfl⟩
end Go.Proofs
