import Derived.Test.YtihdilnanhjedaaPlT
import Derived.Test.YtihdilnanhjedaaWord3
set_option linter.unusedSimpArgs false
set_option linter.unusedVariables false
set_option maxRecDepth 100000
/- comparing -/
namespace Go.Proofs
open Go Go.Am

set_option maxHeartbeats 4000000 in
theorem bytesCompare_calls {A B : Array Value} {b b2 n n2 : Nat} {es es2 : Nat} {rw rw2 : Bool} {h : AH} (hn : (n == 0) = false) (hn2 : (n2 == 0) = false) (hb : h[b]? = some (.cells A es rw)) (hb2 : h[b2]? = some (.cells B es2 rw2)) (hA : n ≤ A.size) (hB : n2 ≤ B.size) (bA : (A.extract 0 n).all isByte = true) (bB : (B.extract 0 n2).all isByte = true) :
    ACalls Try.prog 45 #[.slice (some ⟨b, 0, none⟩) n n, .slice (some ⟨b2, 0, none⟩) n2 n2] h (fun v h' => v = .int .i64 (cmpV (A.extract 0 n) (B.extract 0 n2)) ∧ h' = h) := by
  refine ACalls.of_ay Try.func45 rfl Try.ntmps45 ⟨_, _, rfl, rfl⟩ ?_; simp only [List.length_cons, List.length_nil, Nat.reduceAdd, Nat.reduceSub, List.replicate_succ, List.replicate_zero, List.cons_append, List.nil_append]
  simp (implicitDefEqProofs := false) (maxSteps := 2000000) only [go_sem, Nat.reduceAdd, Nat.reduceSub, Nat.reduceMul, Nat.reduceLT, Nat.reduceLeDiff, Nat.reduceEqDiff, Nat.reduceBEq, Nat.reduceBNe, Nat.reducePow, Int.reduceBEq, Int.reduceBNe, Int.reduceEq, Int.reduceLT, Int.reduceLE, Int.reduceNeg, Int.reduceToNat, Int.reduceMul, Int.reduceAdd, Int.reduceSub, Int.reducePow, Int.reduceFDiv, reduceCtorEq, reduceIte, hn, hn2, hb, hb2, hA, hB, bA, bB]
  simpa using apost_tmp (P := Try.prog) (fn := Try.f45) (h0 := h) (R := fun v h' => v = .int .i64 (cmpV (A.extract 0 n) (B.extract 0 n2)) ∧ h' = h) rfl rfl ⟨rfl, rfl⟩ _ [] (by simp only [List.getD_cons_succ, List.getD_cons_zero])

/-- two places' addresses -/
theorem plCompare_calls (p q : Pl) {b b2 es es2 : Nat} {rw rw2 : Bool} {h : AH} (hb : h[b]? = some (.cells (encPl p).toArray es rw)) (hb2 : h[b2]? = some (.cells (encPl q).toArray es2 rw2)) :
    ACalls Try.prog 45 #[.slice (some ⟨b, 0, none⟩) 20 20, .slice (some ⟨b2, 0, none⟩) 20 20] h (fun v h' => v = .int .i64 (sgn (addrN p.addr) (addrN q.addr)) ∧ h' = h) := by
  have := bytesCompare_calls (n := 20) (n2 := 20) rfl rfl hb hb2 (by rw [size_encPl]; omega) (by rw [size_encPl]; omega) (by rw [pl_addr]; exact bytes_addr _) (by rw [pl_addr]; exact bytes_addr _)
  rw [pl_addr, pl_addr, cmpV_addr] at this
  exact this

set_option maxHeartbeats 4000000 in
theorem wcmp_calls (a b : Word4) (h : AH) :
    ACalls Try.prog 47 #[.agg (encWord a).toArray, .agg (encWord b).toArray] h (fun v h' => v = .int .i64 (sgn (valW a) (valW b)) ∧ h' = h) := by
  refine ACalls.of_ay Try.func47 rfl Try.ntmps47 ⟨_, _, rfl, rfl⟩ ?_; simp only [List.length_cons, List.length_nil, Nat.reduceAdd, Nat.reduceSub, List.replicate_succ, List.replicate_zero, List.cons_append, List.nil_append]
  simp (implicitDefEqProofs := false) (maxSteps := 2000000) only [go_sem, Nat.reduceAdd, Nat.reduceSub, Nat.reduceMul, Nat.reduceLT, Nat.reduceLeDiff, Nat.reduceEqDiff, Nat.reduceBEq, Nat.reduceBNe, Nat.reducePow, Int.reduceBEq, Int.reduceBNe, Int.reduceEq, Int.reduceLT, Int.reduceLE, Int.reduceNeg, Int.reduceToNat, Int.reduceMul, Int.reduceAdd, Int.reduceSub, Int.reducePow, Int.reduceFDiv, reduceCtorEq, reduceIte, length_encWord]
  refine astep_call (wsub_calls a b _) ?_
  have hbw := sb_borrow a b
  by_cases h1 : valW a < valW b
  · have e : ((((sb a b 4).2.toNat : Nat) : Int) != 0) = true := by simp; omega
    have e2 : sgn (valW a) (valW b) = -1 := by unfold sgn; rw [if_pos h1]
    simp (implicitDefEqProofs := false) (maxSteps := 2000000) only [go_sem, Nat.reduceAdd, Nat.reduceSub, Nat.reduceMul, Nat.reduceLT, Nat.reduceLeDiff, Nat.reduceEqDiff, Nat.reduceBEq, Nat.reduceBNe, Nat.reducePow, Int.reduceBEq, Int.reduceBNe, Int.reduceEq, Int.reduceLT, Int.reduceLE, Int.reduceNeg, Int.reduceToNat, Int.reduceMul, Int.reduceAdd, Int.reduceSub, Int.reducePow, Int.reduceFDiv, reduceCtorEq, reduceIte, length_encWord, e]
    rw [e2]
    exact apost_tmp rfl rfl ⟨rfl, rfl⟩ _ _ rfl
  · have e : ((((sb a b 4).2.toNat : Nat) : Int) != 0) = false := by simp; omega
    by_cases h2 : a = b
    · have e2 : sgn (valW a) (valW b) = 0 := by rw [h2]; exact sgn_self _
      have e3 : decide (a = b) = true := decide_eq_true h2
      simp (implicitDefEqProofs := false) (maxSteps := 2000000) only [go_sem, Nat.reduceAdd, Nat.reduceSub, Nat.reduceMul, Nat.reduceLT, Nat.reduceLeDiff, Nat.reduceEqDiff, Nat.reduceBEq, Nat.reduceBNe, Nat.reducePow, Int.reduceBEq, Int.reduceBNe, Int.reduceEq, Int.reduceLT, Int.reduceLE, Int.reduceNeg, Int.reduceToNat, Int.reduceMul, Int.reduceAdd, Int.reduceSub, Int.reducePow, Int.reduceFDiv, reduceCtorEq, reduceIte, length_encWord, e, e3]
      rw [e2]
      exact apost_tmp rfl rfl ⟨rfl, rfl⟩ _ _ rfl
    · have h3 : valW a ≠ valW b := fun e => h2 (valW_inj e)
      have e2 : sgn (valW a) (valW b) = 1 := by unfold sgn; rw [if_neg h1, if_pos (by omega)]
      have e3 : decide (a = b) = false := decide_eq_false h2
      simp (implicitDefEqProofs := false) (maxSteps := 2000000) only [go_sem, Nat.reduceAdd, Nat.reduceSub, Nat.reduceMul, Nat.reduceLT, Nat.reduceLeDiff, Nat.reduceEqDiff, Nat.reduceBEq, Nat.reduceBNe, Nat.reducePow, Int.reduceBEq, Int.reduceBNe, Int.reduceEq, Int.reduceLT, Int.reduceLE, Int.reduceNeg, Int.reduceToNat, Int.reduceMul, Int.reduceAdd, Int.reduceSub, Int.reducePow, Int.reduceFDiv, reduceCtorEq, reduceIte, length_encWord, e, e3]
      rw [e2]
      exact apost_tmp rfl rfl ⟨rfl, rfl⟩ _ _ rfl

set_option maxHeartbeats 4000000 in
theorem isNaN_calls (n : Int) (h : AH) : ACalls Try.prog 62 #[.int .i64 n] h (fun v h' => v = .bool false ∧ h' = h) := by
  refine ACalls.of_ay Try.func62 rfl Try.ntmps62 ⟨_, _, rfl, rfl⟩ ?_; simp only [List.length_cons, List.length_nil, Nat.reduceAdd, Nat.reduceSub, List.replicate_succ, List.replicate_zero, List.cons_append, List.nil_append]
  have e : (n != n) = false := by simp
  simp (implicitDefEqProofs := false) (maxSteps := 2000000) only [go_sem, Nat.reduceAdd, Nat.reduceSub, Nat.reduceMul, Nat.reduceLT, Nat.reduceLeDiff, Nat.reduceEqDiff, Nat.reduceBEq, Nat.reduceBNe, Nat.reducePow, Int.reduceBEq, Int.reduceBNe, Int.reduceEq, Int.reduceLT, Int.reduceLE, Int.reduceNeg, Int.reduceToNat, Int.reduceMul, Int.reduceAdd, Int.reduceSub, Int.reducePow, Int.reduceFDiv, reduceCtorEq, reduceIte, e]
  exact apost_tmp0 rfl rfl ⟨rfl, rfl⟩ _ rfl

set_option maxHeartbeats 4000000 in
theorem ccmp_calls (m n : Nat) (h : AH) : ACalls Try.prog 46 #[.int .i64 ((m : Nat) : Int), .int .i64 ((n : Nat) : Int)] h (fun v h' => v = .int .i64 (sgn m n) ∧ h' = h) := by
  refine ACalls.of_ay Try.func46 rfl Try.ntmps46 ⟨_, _, rfl, rfl⟩ ?_; simp only [List.length_cons, List.length_nil, Nat.reduceAdd, Nat.reduceSub, List.replicate_succ, List.replicate_zero, List.cons_append, List.nil_append]
  simp (implicitDefEqProofs := false) (maxSteps := 2000000) only [go_sem, Nat.reduceAdd, Nat.reduceSub, Nat.reduceMul, Nat.reduceLT, Nat.reduceLeDiff, Nat.reduceEqDiff, Nat.reduceBEq, Nat.reduceBNe, Nat.reducePow, Int.reduceBEq, Int.reduceBNe, Int.reduceEq, Int.reduceLT, Int.reduceLE, Int.reduceNeg, Int.reduceToNat, Int.reduceMul, Int.reduceAdd, Int.reduceSub, Int.reducePow, Int.reduceFDiv, reduceCtorEq, reduceIte]
  refine astep_call (isNaN_calls _ _) ?_
  simp (implicitDefEqProofs := false) (maxSteps := 2000000) only [go_sem, Nat.reduceAdd, Nat.reduceSub, Nat.reduceMul, Nat.reduceLT, Nat.reduceLeDiff, Nat.reduceEqDiff, Nat.reduceBEq, Nat.reduceBNe, Nat.reducePow, Int.reduceBEq, Int.reduceBNe, Int.reduceEq, Int.reduceLT, Int.reduceLE, Int.reduceNeg, Int.reduceToNat, Int.reduceMul, Int.reduceAdd, Int.reduceSub, Int.reducePow, Int.reduceFDiv, reduceCtorEq, reduceIte]
  refine astep_call (isNaN_calls _ _) ?_
  by_cases h1 : m < n
  · have e2 : sgn m n = -1 := by unfold sgn; rw [if_pos h1]
    simp (implicitDefEqProofs := false) (maxSteps := 2000000) only [go_sem, Nat.reduceAdd, Nat.reduceSub, Nat.reduceMul, Nat.reduceLT, Nat.reduceLeDiff, Nat.reduceEqDiff, Nat.reduceBEq, Nat.reduceBNe, Nat.reducePow, Int.reduceBEq, Int.reduceBNe, Int.reduceEq, Int.reduceLT, Int.reduceLE, Int.reduceNeg, Int.reduceToNat, Int.reduceMul, Int.reduceAdd, Int.reduceSub, Int.reducePow, Int.reduceFDiv, reduceCtorEq, reduceIte, h1]
    rw [e2]
    exact apost_tmp0 rfl rfl ⟨rfl, rfl⟩ _ rfl
  · by_cases h2 : n < m
    · have e2 : sgn m n = 1 := by unfold sgn; rw [if_neg h1, if_pos h2]
      simp (implicitDefEqProofs := false) (maxSteps := 2000000) only [go_sem, Nat.reduceAdd, Nat.reduceSub, Nat.reduceMul, Nat.reduceLT, Nat.reduceLeDiff, Nat.reduceEqDiff, Nat.reduceBEq, Nat.reduceBNe, Nat.reducePow, Int.reduceBEq, Int.reduceBNe, Int.reduceEq, Int.reduceLT, Int.reduceLE, Int.reduceNeg, Int.reduceToNat, Int.reduceMul, Int.reduceAdd, Int.reduceSub, Int.reducePow, Int.reduceFDiv, reduceCtorEq, reduceIte, h1, h2]
      rw [e2]
      exact apost_tmp0 rfl rfl ⟨rfl, rfl⟩ _ rfl
    · have e2 : sgn m n = 0 := by unfold sgn; rw [if_neg h1, if_neg h2]
      simp (implicitDefEqProofs := false) (maxSteps := 2000000) only [go_sem, Nat.reduceAdd, Nat.reduceSub, Nat.reduceMul, Nat.reduceLT, Nat.reduceLeDiff, Nat.reduceEqDiff, Nat.reduceBEq, Nat.reduceBNe, Nat.reducePow, Int.reduceBEq, Int.reduceBNe, Int.reduceEq, Int.reduceLT, Int.reduceLE, Int.reduceNeg, Int.reduceToNat, Int.reduceMul, Int.reduceAdd, Int.reduceSub, Int.reducePow, Int.reduceFDiv, reduceCtorEq, reduceIte, h1, h2]
      rw [e2]
      exact apost_tmp0 rfl rfl ⟨rfl, rfl⟩ _ rfl

set_option maxHeartbeats 4000000 in
theorem cor_calls (x y z : Int) {b es : Nat} {h : AH} (hb : h[b]? = some (.cells #[.int .i64 x, .int .i64 y, .int .i64 z] es true)) : ACalls Try.prog 44 #[.slice (some ⟨b, 0, none⟩) 3 3] h (fun v h' => v = .int .i64 (if x ≠ 0 then x else if y ≠ 0 then y else z) ∧ h' = h) := by
  refine ACalls.of_ay Try.func44 rfl Try.ntmps44 ⟨_, _, rfl, rfl⟩ ?_; simp only [List.length_cons, List.length_nil, Nat.reduceAdd, Nat.reduceSub, List.replicate_succ, List.replicate_zero, List.cons_append, List.nil_append]
  simp (implicitDefEqProofs := false) (maxSteps := 2000000) only [go_sem, Nat.reduceAdd, Nat.reduceSub, Nat.reduceMul, Nat.reduceLT, Nat.reduceLeDiff, Nat.reduceEqDiff, Nat.reduceBEq, Nat.reduceBNe, Nat.reducePow, Int.reduceBEq, Int.reduceBNe, Int.reduceEq, Int.reduceLT, Int.reduceLE, Int.reduceNeg, Int.reduceToNat, Int.reduceMul, Int.reduceAdd, Int.reduceSub, Int.reducePow, Int.reduceFDiv, reduceCtorEq, reduceIte, hb]
  refine AWP.rounds 4 ?_
  have i1 : IntKind.i64.wrap (0 + 1) = 1 := rfl
  have i2 : IntKind.i64.wrap (1 + 1) = 2 := rfl
  have i3 : IntKind.i64.wrap (2 + 1) = 3 := rfl
  by_cases hx : x = 0
  · subst hx
    by_cases hy : y = 0
    · subst hy
      by_cases hz : z = 0
      · subst hz
        simp (implicitDefEqProofs := false) (maxSteps := 2000000) only [go_sem, Nat.reduceAdd, Nat.reduceSub, Nat.reduceMul, Nat.reduceLT, Nat.reduceLeDiff, Nat.reduceEqDiff, Nat.reduceBEq, Nat.reduceBNe, Nat.reducePow, Int.reduceBEq, Int.reduceBNe, Int.reduceEq, Int.reduceLT, Int.reduceLE, Int.reduceNeg, Int.reduceToNat, Int.reduceMul, Int.reduceAdd, Int.reduceSub, Int.reducePow, Int.reduceFDiv, reduceCtorEq, reduceIte, hb, aRounds, i1, i2, i3, Nat.reduceMod]
        exact apost_tmp0 rfl rfl ⟨rfl, rfl⟩ _ rfl
      · have ez : (z != 0) = true := by simpa using hz
        simp (implicitDefEqProofs := false) (maxSteps := 2000000) only [go_sem, Nat.reduceAdd, Nat.reduceSub, Nat.reduceMul, Nat.reduceLT, Nat.reduceLeDiff, Nat.reduceEqDiff, Nat.reduceBEq, Nat.reduceBNe, Nat.reducePow, Int.reduceBEq, Int.reduceBNe, Int.reduceEq, Int.reduceLT, Int.reduceLE, Int.reduceNeg, Int.reduceToNat, Int.reduceMul, Int.reduceAdd, Int.reduceSub, Int.reducePow, Int.reduceFDiv, reduceCtorEq, reduceIte, hb, aRounds, i1, i2, i3, ez]
        exact apost_tmp0 rfl rfl ⟨rfl, rfl⟩ _ rfl
    · have ey : (y != 0) = true := by simpa using hy
      simp (implicitDefEqProofs := false) (maxSteps := 2000000) only [go_sem, Nat.reduceAdd, Nat.reduceSub, Nat.reduceMul, Nat.reduceLT, Nat.reduceLeDiff, Nat.reduceEqDiff, Nat.reduceBEq, Nat.reduceBNe, Nat.reducePow, Int.reduceBEq, Int.reduceBNe, Int.reduceEq, Int.reduceLT, Int.reduceLE, Int.reduceNeg, Int.reduceToNat, Int.reduceMul, Int.reduceAdd, Int.reduceSub, Int.reducePow, Int.reduceFDiv, reduceCtorEq, reduceIte, hb, aRounds, i1, i2, i3, ey]
      exact apost_tmp0 (v := .int .i64 y) rfl rfl ⟨by simp [hy], rfl⟩ _ rfl
  · have ex : (x != 0) = true := by simpa using hx
    simp (implicitDefEqProofs := false) (maxSteps := 2000000) only [go_sem, Nat.reduceAdd, Nat.reduceSub, Nat.reduceMul, Nat.reduceLT, Nat.reduceLeDiff, Nat.reduceEqDiff, Nat.reduceBEq, Nat.reduceBNe, Nat.reducePow, Int.reduceBEq, Int.reduceBNe, Int.reduceEq, Int.reduceLT, Int.reduceLE, Int.reduceNeg, Int.reduceToNat, Int.reduceMul, Int.reduceAdd, Int.reduceSub, Int.reducePow, Int.reduceFDiv, reduceCtorEq, reduceIte, hb, aRounds, i1, i2, i3, ex]
    exact apost_tmp0 (v := .int .i64 x) rfl rfl ⟨by simp [hx], rfl⟩ _ rfl

set_option maxHeartbeats 4000000 in
theorem side_calls (p : Pl) (h : AH) : ACalls Try.prog 43 #[.agg (encPl p).toArray] h (fun v h' => v = .int .i64 (((if p.whole then 0 else 1 : Nat)) : Int) ∧ h' = h) := by
  refine ACalls.of_ay Try.func43 rfl Try.ntmps43 ⟨_, _, rfl, rfl⟩ ?_; simp only [List.length_cons, List.length_nil, Nat.reduceAdd, Nat.reduceSub, List.replicate_succ, List.replicate_zero, List.cons_append, List.nil_append]
  cases hw : p.whole with
  | true =>
    simp (implicitDefEqProofs := false) (maxSteps := 2000000) only [go_sem, Nat.reduceAdd, Nat.reduceSub, Nat.reduceMul, Nat.reduceLT, Nat.reduceLeDiff, Nat.reduceEqDiff, Nat.reduceBEq, Nat.reduceBNe, Nat.reducePow, Int.reduceBEq, Int.reduceBNe, Int.reduceEq, Int.reduceLT, Int.reduceLE, Int.reduceNeg, Int.reduceToNat, Int.reduceMul, Int.reduceAdd, Int.reduceSub, Int.reducePow, Int.reduceFDiv, reduceCtorEq, reduceIte, hw]
    exact apost_tmp rfl rfl ⟨rfl, rfl⟩ _ _ rfl
  | false =>
    simp (implicitDefEqProofs := false) (maxSteps := 2000000) only [go_sem, Nat.reduceAdd, Nat.reduceSub, Nat.reduceMul, Nat.reduceLT, Nat.reduceLeDiff, Nat.reduceEqDiff, Nat.reduceBEq, Nat.reduceBNe, Nat.reducePow, Int.reduceBEq, Int.reduceBNe, Int.reduceEq, Int.reduceLT, Int.reduceLE, Int.reduceNeg, Int.reduceToNat, Int.reduceMul, Int.reduceAdd, Int.reduceSub, Int.reducePow, Int.reduceFDiv, reduceCtorEq, reduceIte, hw]
    exact apost_tmp rfl rfl ⟨rfl, rfl⟩ _ _ rfl

theorem sgn_ne {m n : Nat} : (sgn m n ≠ 0) = ¬ (m = n) := by rw [ne_eq, sgn_zero]
theorem cmp_or (p q : Pl) : (if sgn (addrN p.addr) (addrN q.addr) ≠ 0 then sgn (addrN p.addr) (addrN q.addr) else if sgn (if p.whole then 0 else 1) (if q.whole then 0 else 1) ≠ 0 then sgn (if p.whole then 0 else 1) (if q.whole then 0 else 1) else sgn (valW p.key) (valW q.key)) = cmpPl p q := by
  rw [cmpPl_eq]
  congr 1
  cases p.whole <;> cases q.whole <;> simp [sgn]

set_option maxHeartbeats 4000000 in
theorem tcompare_calls (p q : Pl) (h : AH) : ACalls Try.prog 25 #[.agg (encPl p).toArray, .agg (encPl q).toArray] h (fun v h' => v = .int .i64 (cmpPl p q) ∧ h' = h) := by
  refine ACalls.of_ay Try.func25 rfl Try.ntmps25 ⟨_, _, rfl, rfl⟩ ?_; simp only [List.length_cons, List.length_nil, Nat.reduceAdd, Nat.reduceSub, List.replicate_succ, List.replicate_zero, List.cons_append, List.nil_append]
  simp (implicitDefEqProofs := false) (maxSteps := 2000000) only [go_sem, Nat.reduceAdd, Nat.reduceSub, Nat.reduceMul, Nat.reduceLT, Nat.reduceLeDiff, Nat.reduceEqDiff, Nat.reduceBEq, Nat.reduceBNe, Nat.reducePow, Int.reduceBEq, Int.reduceBNe, Int.reduceEq, Int.reduceLT, Int.reduceLE, Int.reduceNeg, Int.reduceToNat, Int.reduceMul, Int.reduceAdd, Int.reduceSub, Int.reducePow, Int.reduceFDiv, reduceCtorEq, reduceIte]
  refine ⟨by kernel_rfl, by kernel_rfl, ?_⟩
  refine dstep_call (plCompare_calls p q (h := h ++ [.cells (encPl p).toArray 0 true, .cells (encPl q).toArray 0 true]) (at_new0 _ _) (at_new _ _ 1)) pres_refl ?_
  simp (implicitDefEqProofs := false) (maxSteps := 2000000) only [go_sem, Nat.reduceAdd, Nat.reduceSub, Nat.reduceMul, Nat.reduceLT, Nat.reduceLeDiff, Nat.reduceEqDiff, Nat.reduceBEq, Nat.reduceBNe, Nat.reducePow, Int.reduceBEq, Int.reduceBNe, Int.reduceEq, Int.reduceLT, Int.reduceLE, Int.reduceNeg, Int.reduceToNat, Int.reduceMul, Int.reduceAdd, Int.reduceSub, Int.reducePow, Int.reduceFDiv, reduceCtorEq, reduceIte]
  refine dstep_call (side_calls p _) pres_refl ?_
  simp (implicitDefEqProofs := false) (maxSteps := 2000000) only [go_sem, Nat.reduceAdd, Nat.reduceSub, Nat.reduceMul, Nat.reduceLT, Nat.reduceLeDiff, Nat.reduceEqDiff, Nat.reduceBEq, Nat.reduceBNe, Nat.reducePow, Int.reduceBEq, Int.reduceBNe, Int.reduceEq, Int.reduceLT, Int.reduceLE, Int.reduceNeg, Int.reduceToNat, Int.reduceMul, Int.reduceAdd, Int.reduceSub, Int.reducePow, Int.reduceFDiv, reduceCtorEq, reduceIte]
  refine dstep_call (side_calls q _) pres_refl ?_
  simp (implicitDefEqProofs := false) (maxSteps := 2000000) only [go_sem, Nat.reduceAdd, Nat.reduceSub, Nat.reduceMul, Nat.reduceLT, Nat.reduceLeDiff, Nat.reduceEqDiff, Nat.reduceBEq, Nat.reduceBNe, Nat.reducePow, Int.reduceBEq, Int.reduceBNe, Int.reduceEq, Int.reduceLT, Int.reduceLE, Int.reduceNeg, Int.reduceToNat, Int.reduceMul, Int.reduceAdd, Int.reduceSub, Int.reducePow, Int.reduceFDiv, reduceCtorEq, reduceIte]
  refine dstep_call (ccmp_calls _ _ _) pres_refl ?_
  simp (implicitDefEqProofs := false) (maxSteps := 2000000) only [go_sem, Nat.reduceAdd, Nat.reduceSub, Nat.reduceMul, Nat.reduceLT, Nat.reduceLeDiff, Nat.reduceEqDiff, Nat.reduceBEq, Nat.reduceBNe, Nat.reducePow, Int.reduceBEq, Int.reduceBNe, Int.reduceEq, Int.reduceLT, Int.reduceLE, Int.reduceNeg, Int.reduceToNat, Int.reduceMul, Int.reduceAdd, Int.reduceSub, Int.reducePow, Int.reduceFDiv, reduceCtorEq, reduceIte]
  refine dstep_call (wcmp_calls _ _ _) pres_refl ?_
  simp (implicitDefEqProofs := false) (maxSteps := 2000000) only [go_sem, Nat.reduceAdd, Nat.reduceSub, Nat.reduceMul, Nat.reduceLT, Nat.reduceLeDiff, Nat.reduceEqDiff, Nat.reduceBEq, Nat.reduceBNe, Nat.reducePow, Int.reduceBEq, Int.reduceBNe, Int.reduceEq, Int.reduceLT, Int.reduceLE, Int.reduceNeg, Int.reduceToNat, Int.reduceMul, Int.reduceAdd, Int.reduceSub, Int.reducePow, Int.reduceFDiv, reduceCtorEq, reduceIte]
  refine dstep_call (cor_calls _ _ _ (at_new _ _ 2)) (pres_pre (by simp [Pre])) ?_
  simp (implicitDefEqProofs := false) (maxSteps := 2000000) only [go_sem, Nat.reduceAdd, Nat.reduceSub, Nat.reduceMul, Nat.reduceLT, Nat.reduceLeDiff, Nat.reduceEqDiff, Nat.reduceBEq, Nat.reduceBNe, Nat.reducePow, Int.reduceBEq, Int.reduceBNe, Int.reduceEq, Int.reduceLT, Int.reduceLE, Int.reduceNeg, Int.reduceToNat, Int.reduceMul, Int.reduceAdd, Int.reduceSub, Int.reducePow, Int.reduceFDiv, reduceCtorEq, reduceIte]
  rw [cmp_or]
  exact apost_tmp rfl rfl ⟨rfl, rfl⟩ _ _ rfl

set_option maxHeartbeats 4000000 in
theorem fcompare_calls (p q : Pl) (h : AH) : ACalls Try.prog 55 #[.agg (encPl p).toArray, .agg (encPl q).toArray] h (fun v h' => v = .int .i64 (cmpPl p q) ∧ h' = h) := by
  refine ACalls.of_ay Try.func55 rfl Try.ntmps55 ⟨_, _, rfl, rfl⟩ ?_; simp only [List.length_cons, List.length_nil, Nat.reduceAdd, Nat.reduceSub, List.replicate_succ, List.replicate_zero, List.cons_append, List.nil_append]
  simp (implicitDefEqProofs := false) (maxSteps := 2000000) only [go_sem, Nat.reduceAdd, Nat.reduceSub, Nat.reduceMul, Nat.reduceLT, Nat.reduceLeDiff, Nat.reduceEqDiff, Nat.reduceBEq, Nat.reduceBNe, Nat.reducePow, Int.reduceBEq, Int.reduceBNe, Int.reduceEq, Int.reduceLT, Int.reduceLE, Int.reduceNeg, Int.reduceToNat, Int.reduceMul, Int.reduceAdd, Int.reduceSub, Int.reducePow, Int.reduceFDiv, reduceCtorEq, reduceIte]
  refine ⟨by kernel_rfl, by kernel_rfl, ?_⟩
  refine dstep_call (plCompare_calls p q (h := h ++ [.cells (encPl p).toArray 0 true, .cells (encPl q).toArray 0 true]) (at_new0 _ _) (at_new _ _ 1)) pres_refl ?_
  by_cases h0 : sgn (addrN p.addr) (addrN q.addr) = 0
  · have e0 : (sgn (addrN p.addr) (addrN q.addr) != 0) = false := by simp [h0]
    by_cases h1 : p.whole = q.whole
    · have e1 : (p.whole == q.whole) = true := by simp [h1]
      simp (implicitDefEqProofs := false) (maxSteps := 2000000) only [go_sem, Nat.reduceAdd, Nat.reduceSub, Nat.reduceMul, Nat.reduceLT, Nat.reduceLeDiff, Nat.reduceEqDiff, Nat.reduceBEq, Nat.reduceBNe, Nat.reducePow, Int.reduceBEq, Int.reduceBNe, Int.reduceEq, Int.reduceLT, Int.reduceLE, Int.reduceNeg, Int.reduceToNat, Int.reduceMul, Int.reduceAdd, Int.reduceSub, Int.reducePow, Int.reduceFDiv, reduceCtorEq, reduceIte, e0, e1]
      refine astep_call (wcmp_calls _ _ _) ?_
      simp (implicitDefEqProofs := false) (maxSteps := 2000000) only [go_sem, Nat.reduceAdd, Nat.reduceSub, Nat.reduceMul, Nat.reduceLT, Nat.reduceLeDiff, Nat.reduceEqDiff, Nat.reduceBEq, Nat.reduceBNe, Nat.reducePow, Int.reduceBEq, Int.reduceBNe, Int.reduceEq, Int.reduceLT, Int.reduceLE, Int.reduceNeg, Int.reduceToNat, Int.reduceMul, Int.reduceAdd, Int.reduceSub, Int.reducePow, Int.reduceFDiv, reduceCtorEq, reduceIte]
      exact apost_tmp (v := .int .i64 (sgn (valW p.key) (valW q.key))) rfl rfl ⟨by rw [cmpPl_eq, if_neg (by simp [h0]), if_pos h1], rfl⟩ _ _ rfl
    · have e1 : (p.whole == q.whole) = false := by simp [h1]
      cases h2 : p.whole with
      | true =>
        rw [h2] at e1
        simp (implicitDefEqProofs := false) (maxSteps := 2000000) only [go_sem, Nat.reduceAdd, Nat.reduceSub, Nat.reduceMul, Nat.reduceLT, Nat.reduceLeDiff, Nat.reduceEqDiff, Nat.reduceBEq, Nat.reduceBNe, Nat.reducePow, Int.reduceBEq, Int.reduceBNe, Int.reduceEq, Int.reduceLT, Int.reduceLE, Int.reduceNeg, Int.reduceToNat, Int.reduceMul, Int.reduceAdd, Int.reduceSub, Int.reducePow, Int.reduceFDiv, reduceCtorEq, reduceIte, e0, e1, h2]
        exact apost_tmp (v := .int .i64 (-1)) rfl rfl ⟨by rw [cmpPl_eq, if_neg (by simp [h0]), if_neg h1, if_pos h2], rfl⟩ _ _ rfl
      | false =>
        rw [h2] at e1
        simp (implicitDefEqProofs := false) (maxSteps := 2000000) only [go_sem, Nat.reduceAdd, Nat.reduceSub, Nat.reduceMul, Nat.reduceLT, Nat.reduceLeDiff, Nat.reduceEqDiff, Nat.reduceBEq, Nat.reduceBNe, Nat.reducePow, Int.reduceBEq, Int.reduceBNe, Int.reduceEq, Int.reduceLT, Int.reduceLE, Int.reduceNeg, Int.reduceToNat, Int.reduceMul, Int.reduceAdd, Int.reduceSub, Int.reducePow, Int.reduceFDiv, reduceCtorEq, reduceIte, e0, e1, h2]
        exact apost_tmp (v := .int .i64 1) rfl rfl ⟨by rw [cmpPl_eq, if_neg (by simp [h0]), if_neg h1, if_neg (by simp [h2])], rfl⟩ _ _ rfl
  · have e0 : (sgn (addrN p.addr) (addrN q.addr) != 0) = true := by simp [h0]
    simp (implicitDefEqProofs := false) (maxSteps := 2000000) only [go_sem, Nat.reduceAdd, Nat.reduceSub, Nat.reduceMul, Nat.reduceLT, Nat.reduceLeDiff, Nat.reduceEqDiff, Nat.reduceBEq, Nat.reduceBNe, Nat.reducePow, Int.reduceBEq, Int.reduceBNe, Int.reduceEq, Int.reduceLT, Int.reduceLE, Int.reduceNeg, Int.reduceToNat, Int.reduceMul, Int.reduceAdd, Int.reduceSub, Int.reducePow, Int.reduceFDiv, reduceCtorEq, reduceIte, e0]
    exact apost_tmp (v := .int .i64 (sgn (addrN p.addr) (addrN q.addr))) rfl rfl ⟨by rw [cmpPl_eq, if_pos h0], rfl⟩ _ _ rfl
end Go.Proofs
