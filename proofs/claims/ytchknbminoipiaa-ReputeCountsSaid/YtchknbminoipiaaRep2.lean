import Derived.Test.YtchknbminoipiaaRep1
set_option linter.unusedSimpArgs false
set_option linter.unusedVariables false
namespace Go.Proofs
open Go Go.Am

theorem fame_blit {A : Array Value} {s i s' i' : Int} (hA : A.size = 20) : blit (fame A s i) 0 (fame A s' i').toList = fame A s' i' := by
  rw [blit_list (by rw [Array.length_toList, fame_size hA, fame_size hA])]
set_option maxRecDepth 10000 in
set_option maxHeartbeats 4000000 in
/-- another one's address -/
theorem findD (A B : Array Value) (hA : A.size = 20) (bA : A.all isByte = true) (hB : B.size = 20) (bB : B.all isByte = true) (hne : cmpV A B ≠ 0) (s i : Int) {b : Nat} {rw : Bool} {h : AH} (hb : h[b]? = some (.cells (fame A s i) 22 rw)) (hn : ¬ (s = 0 ∧ i = 0)) :
    ACalls Try.prog 7 #[.slice (some ⟨b, 0, none⟩) 1 1, .agg B] h (fun v h' => v = .agg (fame B 0 0) ∧ h' = h) := by
  have hB2 : B.extract 0 20 = B := by rw [Array.extract_eq_self_of_le]; omega
  have hc0 : (cmpV A B == 0) = false := by rw [beq_eq_false_iff_ne]; exact hne
  refine ACalls.of_ay Try.func7 rfl Try.ntmps7 ⟨_, _, rfl, rfl⟩ ?_; simp only [List.length_cons, List.length_nil, Nat.reduceAdd, Nat.reduceSub, List.replicate_succ, List.replicate_zero, List.cons_append, List.nil_append]
  simp (implicitDefEqProofs := false) only [go_sem, Nat.reduceAdd, Nat.reduceSub, Nat.reduceMul, Nat.reduceLT, Nat.reduceLeDiff, Nat.reduceEqDiff, Nat.reduceBEq, Nat.reduceBNe, Nat.reducePow, Int.reduceBEq, Int.reduceBNe, Int.reduceEq, Int.reduceLT, Int.reduceLE, Int.reduceNeg, Int.reduceToNat, Int.reduceMul, Int.reduceAdd, Int.reduceSub, Int.reducePow, Int.reduceFDiv, reduceCtorEq, reduceIte, fame_mk, fame_all hB, fame_addr hB, fame_size hB, fame_seen hB, fame_incl hB, fame0_size, fame_zblit hB, zeros_size22, fame0_blit hB, fame0_addr hB, hB, bB, hB2, List.size_toArray]
  have hc := bookS1 A hA bA s i (at_old hb [.cells B 0 true, .cells (fame (Array.replicate 20 (.int .u8 0)) 0 0) 0 true]) hn
  refine astep_call hc ?_
  simp (implicitDefEqProofs := false) only [go_sem, Nat.reduceAdd, Nat.reduceSub, Nat.reduceMul, Nat.reduceLT, Nat.reduceLeDiff, Nat.reduceEqDiff, Nat.reduceBEq, Nat.reduceBNe, Nat.reducePow, Int.reduceBEq, Int.reduceBNe, Int.reduceEq, Int.reduceLT, Int.reduceLE, Int.reduceNeg, Int.reduceToNat, Int.reduceMul, Int.reduceAdd, Int.reduceSub, Int.reducePow, Int.reduceFDiv, reduceCtorEq, reduceIte, fame_mk, fame_all hB, fame_addr hB, fame_size hB, fame_seen hB, fame_incl hB, fame0_size, fame_zblit hB, zeros_size22, fame0_blit hB, fame0_addr hB, hB, bB, hB2, List.size_toArray]
  have hc := amongS A B hA hB bA bB s i (b := h.length + 2) (h := h ++ [.cells B 0 true, .cells (fame (Array.replicate 20 (.int .u8 0)) 0 0) 0 true, .cells (fame A s i) 22 true]) (by simp)
  rw [hc0] at hc
  refine astep_call hc ?_
  simp (implicitDefEqProofs := false) only [go_sem, Nat.reduceAdd, Nat.reduceSub, Nat.reduceMul, Nat.reduceLT, Nat.reduceLeDiff, Nat.reduceEqDiff, Nat.reduceBEq, Nat.reduceBNe, Nat.reducePow, Int.reduceBEq, Int.reduceBNe, Int.reduceEq, Int.reduceLT, Int.reduceLE, Int.reduceNeg, Int.reduceToNat, Int.reduceMul, Int.reduceAdd, Int.reduceSub, Int.reducePow, Int.reduceFDiv, reduceCtorEq, reduceIte, fame_mk, fame_all hB, fame_addr hB, fame_size hB, fame_seen hB, fame_incl hB, fame0_size, fame_zblit hB, zeros_size22, fame0_blit hB, fame0_addr hB, fame_set_seen hB, fame_set_incl hB, hB, bB, hB2, List.size_toArray]
  exact apost_cell (v := .agg (fame B 0 0)) (p := .pointer (some ⟨h.length + 1, 0, none⟩)) rfl (fame_plain bB) ⟨rfl, rfl⟩ _ _ (by simp only [List.getD_cons_succ, List.getD_cons_zero]) (by simp (implicitDefEqProofs := false) only [go_sem, Nat.reduceAdd, Nat.reduceSub, Nat.reduceMul, Nat.reduceLT, Nat.reduceLeDiff, Nat.reduceEqDiff, Nat.reduceBEq, Nat.reduceBNe, Nat.reducePow, Int.reduceBEq, Int.reduceBNe, Int.reduceEq, Int.reduceLT, Int.reduceLE, Int.reduceNeg, Int.reduceToNat, Int.reduceMul, Int.reduceAdd, Int.reduceSub, Int.reducePow, Int.reduceFDiv, reduceCtorEq, reduceIte, fame_mk, fame_all hB, fame_addr hB, fame_size hB, fame_seen hB, fame_incl hB, fame0_size, fame_zblit hB, zeros_size22, fame0_blit hB, fame0_addr hB, fame_set_seen hB, fame_set_incl hB, hB, bB, hB2, List.size_toArray])

theorem oren_fame {A : Array Value} {s i : Int} {es : Nat} {rw : Bool} {σ : Nat → Nat} {L : Nat} (bA : A.all isByte = true) : ORen σ L (.cells (fame A s i) es rw) (.cells (fame A s i) es rw) := oren_plain (fame_plain bA)
set_option maxRecDepth 10000 in
set_option maxHeartbeats 4000000 in
/-- an entry in its own place -/
theorem putS (A : Array Value) (hA : A.size = 20) (bA : A.all isByte = true) (s i s' i' : Int) (hn : ¬ (s' = 0 ∧ i' = 0)) {b : Nat} {h : AH} (hb : h[b]? = some (.cells (fame A s i) 22 true)) :
    ACalls Try.prog 12 #[.slice (some ⟨b, 0, none⟩) 1 1, .agg (fame A s' i')] h (fun v h' => v = .slice (some ⟨b, 0, none⟩) 1 1 ∧ h' = h.set b (.cells (fame A s' i') 22 true)) := by
  have hA2 : A.extract 0 20 = A := by rw [Array.extract_eq_self_of_le]; omega
  have hself : cmpV A A = 0 := cmpV_self A
  have hlt : ¬ (0 : Int) < 0 := by omega
  have hbl : b < h.length := (List.getElem?_eq_some_iff.1 hb).1
  have hfr : ∀ t : AH, (h ++ t)[b]? = some (.cells (fame A s i) 22 true) := fun t => by rw [at_front hbl]; exact hb
  have hst : ∀ (t : AH) (o : AObj), (h ++ t).set b o = h.set b o ++ t := fun t o => set_front hbl
  have hc := amongS A A hA hA bA bA s i (b := b) (h := h ++ [.cells (fame A s' i') 0 true]) (hfr _)
  rw [hself] at hc
  by_cases hs : s' = 0
  · have hs1 : (s' == 0) = true := by simp [hs]
    have hi1 : (i' == 0) = false := by simp; omega
    refine ACalls.of_ay Try.func12 rfl Try.ntmps12 ⟨_, _, rfl, rfl⟩ ?_; simp only [List.length_cons, List.length_nil, Nat.reduceAdd, Nat.reduceSub, List.replicate_succ, List.replicate_zero, List.cons_append, List.nil_append]
    simp (implicitDefEqProofs := false) only [go_sem, Nat.reduceAdd, Nat.reduceSub, Nat.reduceMul, Nat.reduceLT, Nat.reduceLeDiff, Nat.reduceEqDiff, Nat.reduceBEq, Nat.reduceBNe, Nat.reducePow, Int.reduceBEq, Int.reduceBNe, Int.reduceEq, Int.reduceLT, Int.reduceLE, Int.reduceNeg, Int.reduceToNat, Int.reduceMul, Int.reduceAdd, Int.reduceSub, Int.reducePow, Int.reduceFDiv, reduceCtorEq, reduceIte, fame_mk, fame_all hA, fame_addr hA, fame_size hA, fame_seen hA, fame_incl hA, fame0_size, fame_zblit hA, zeros_size22, hA, hA2, bA, List.size_toArray]
    refine astep_call hc ?_
    simp (implicitDefEqProofs := false) only [go_sem, Nat.reduceAdd, Nat.reduceSub, Nat.reduceMul, Nat.reduceLT, Nat.reduceLeDiff, Nat.reduceEqDiff, Nat.reduceBEq, Nat.reduceBNe, Nat.reducePow, Int.reduceBEq, Int.reduceBNe, Int.reduceEq, Int.reduceLT, Int.reduceLE, Int.reduceNeg, Int.reduceToNat, Int.reduceMul, Int.reduceAdd, Int.reduceSub, Int.reducePow, Int.reduceFDiv, reduceCtorEq, reduceIte, hlt, hs1, hi1, hfr, hst, fame_blit hA, fame_mk, fame_all hA, fame_addr hA, fame_size hA, fame_seen hA, fame_incl hA, fame0_size, fame_zblit hA, zeros_size22, hA, hA2, bA, List.size_toArray]
    exact apost_wroteV (v := .slice (some ⟨b, 0, none⟩) 1 1) rfl (fun L => oren_fame bA) (fun L hL => .slice _ _ _ _ _ (by omega) rfl) ⟨rfl, rfl⟩ _ rfl
  · have hs1 : (s' == 0) = false := by simp [hs]
    refine ACalls.of_ay Try.func12 rfl Try.ntmps12 ⟨_, _, rfl, rfl⟩ ?_; simp only [List.length_cons, List.length_nil, Nat.reduceAdd, Nat.reduceSub, List.replicate_succ, List.replicate_zero, List.cons_append, List.nil_append]
    simp (implicitDefEqProofs := false) only [go_sem, Nat.reduceAdd, Nat.reduceSub, Nat.reduceMul, Nat.reduceLT, Nat.reduceLeDiff, Nat.reduceEqDiff, Nat.reduceBEq, Nat.reduceBNe, Nat.reducePow, Int.reduceBEq, Int.reduceBNe, Int.reduceEq, Int.reduceLT, Int.reduceLE, Int.reduceNeg, Int.reduceToNat, Int.reduceMul, Int.reduceAdd, Int.reduceSub, Int.reducePow, Int.reduceFDiv, reduceCtorEq, reduceIte, fame_mk, fame_all hA, fame_addr hA, fame_size hA, fame_seen hA, fame_incl hA, fame0_size, fame_zblit hA, zeros_size22, hA, hA2, bA, List.size_toArray]
    refine astep_call hc ?_
    simp (implicitDefEqProofs := false) only [go_sem, Nat.reduceAdd, Nat.reduceSub, Nat.reduceMul, Nat.reduceLT, Nat.reduceLeDiff, Nat.reduceEqDiff, Nat.reduceBEq, Nat.reduceBNe, Nat.reducePow, Int.reduceBEq, Int.reduceBNe, Int.reduceEq, Int.reduceLT, Int.reduceLE, Int.reduceNeg, Int.reduceToNat, Int.reduceMul, Int.reduceAdd, Int.reduceSub, Int.reducePow, Int.reduceFDiv, reduceCtorEq, reduceIte, hlt, hs1, hfr, hst, fame_blit hA, fame_mk, fame_all hA, fame_addr hA, fame_size hA, fame_seen hA, fame_incl hA, fame0_size, fame_zblit hA, zeros_size22, hA, hA2, bA, List.size_toArray]
    exact apost_wroteV (v := .slice (some ⟨b, 0, none⟩) 1 1) rfl (fun L => oren_fame bA) (fun L hL => .slice _ _ _ _ _ (by omega) rfl) ⟨rfl, rfl⟩ _ rfl

set_option maxRecDepth 10000 in
set_option maxHeartbeats 4000000 in
theorem next_calls (n : Nat) (hn : n < 1000) (h : AH) : ACalls Try.prog 11 #[.int .u64 ((n : Nat) : Int)] h (fun v h' => v = .int .u64 ((n + 1 : Nat) : Int) ∧ h' = h) := by
  have h1 : (((n : Nat) : Int) == 18446744073709551615) = false := by rw [beq_eq_false_iff_ne]; omega
  have h2 : IntKind.u64.wrap (((n : Nat) : Int) + 1) = ((n + 1 : Nat) : Int) := by rw [wrap_u64_of _ (by omega) (by omega)]; omega
  refine ACalls.of_ay Try.func11 rfl Try.ntmps11 ⟨_, _, rfl, rfl⟩ ?_; simp only [List.length_cons, List.length_nil, Nat.reduceAdd, Nat.reduceSub, List.replicate_succ, List.replicate_zero, List.cons_append, List.nil_append]
  simp (implicitDefEqProofs := false) only [go_sem, Nat.reduceAdd, Nat.reduceSub, Nat.reduceMul, Nat.reduceLT, Nat.reduceLeDiff, Nat.reduceEqDiff, Nat.reduceBEq, Nat.reduceBNe, Nat.reducePow, Int.reduceBEq, Int.reduceBNe, Int.reduceEq, Int.reduceLT, Int.reduceLE, Int.reduceNeg, Int.reduceToNat, Int.reduceMul, Int.reduceAdd, Int.reduceSub, Int.reducePow, Int.reduceFDiv, reduceCtorEq, reduceIte, h1, h2]
  exact apost_tmp0 rfl rfl ⟨rfl, rfl⟩ _ rfl
end Go.Proofs
