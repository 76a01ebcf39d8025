import Derived.Test.YtchknbminoipiaaRep2
set_option linter.unusedSimpArgs false
set_option linter.unusedVariables false
namespace Go.Proofs
open Go Go.Am

set_option maxRecDepth 10000 in
set_option maxHeartbeats 4000000 in
theorem seeE (A : Array Value) (hA : A.size = 20) (bA : A.all isByte = true) (h : AH) :
    ACalls Try.prog 5 #[.slice none 0 0, .agg A] h (fun v h' => v = .slice (some ⟨h.length, 0, none⟩) 1 1 ∧ h' = h ++ [.cells (fame A 1 0) 22 true]) := by
  have hA2 : A.extract 0 20 = A := by rw [Array.extract_eq_self_of_le]; omega
  refine ACalls.of_ay Try.func5 rfl Try.ntmps5 ⟨_, _, rfl, rfl⟩ ?_; simp only [List.length_cons, List.length_nil, Nat.reduceAdd, Nat.reduceSub, List.replicate_succ, List.replicate_zero, List.cons_append, List.nil_append]
  simp (implicitDefEqProofs := false) only [go_sem, Nat.reduceAdd, Nat.reduceSub, Nat.reduceMul, Nat.reduceLT, Nat.reduceLeDiff, Nat.reduceEqDiff, Nat.reduceBEq, Nat.reduceBNe, Nat.reducePow, Int.reduceBEq, Int.reduceBNe, Int.reduceEq, Int.reduceLT, Int.reduceLE, Int.reduceNeg, Int.reduceToNat, Int.reduceMul, Int.reduceAdd, Int.reduceSub, Int.reducePow, Int.reduceFDiv, reduceCtorEq, reduceIte, fame_mk, fame_all hA, fame_addr hA, fame_size hA, fame_seen hA, fame_incl hA, fame0_size, fame_zblit hA, zeros_size22, fame0_blit hA, fame0_addr hA, fame_set_seen hA, fame_set_incl hA, hA, bA, hA2, List.size_toArray]
  refine astep_call (findE A hA bA _) ?_
  simp (implicitDefEqProofs := false) only [go_sem, Nat.reduceAdd, Nat.reduceSub, Nat.reduceMul, Nat.reduceLT, Nat.reduceLeDiff, Nat.reduceEqDiff, Nat.reduceBEq, Nat.reduceBNe, Nat.reducePow, Int.reduceBEq, Int.reduceBNe, Int.reduceEq, Int.reduceLT, Int.reduceLE, Int.reduceNeg, Int.reduceToNat, Int.reduceMul, Int.reduceAdd, Int.reduceSub, Int.reducePow, Int.reduceFDiv, reduceCtorEq, reduceIte, fame_mk, fame_all hA, fame_addr hA, fame_size hA, fame_seen hA, fame_incl hA, fame0_size, fame_zblit hA, zeros_size22, fame0_blit hA, fame0_addr hA, fame_set_seen hA, fame_set_incl hA, hA, bA, hA2, List.size_toArray]
  have hn := next_calls 0 (by decide) (h ++ [.cells A 0 true, .cells (fame A 0 0) 0 true])
  refine astep_call hn ?_
  simp (implicitDefEqProofs := false) only [go_sem, Nat.reduceAdd, Nat.reduceSub, Nat.reduceMul, Nat.reduceLT, Nat.reduceLeDiff, Nat.reduceEqDiff, Nat.reduceBEq, Nat.reduceBNe, Nat.reducePow, Int.reduceBEq, Int.reduceBNe, Int.reduceEq, Int.reduceLT, Int.reduceLE, Int.reduceNeg, Int.reduceToNat, Int.reduceMul, Int.reduceAdd, Int.reduceSub, Int.reducePow, Int.reduceFDiv, reduceCtorEq, reduceIte, fame_mk, fame_all hA, fame_addr hA, fame_size hA, fame_seen hA, fame_incl hA, fame0_size, fame_zblit hA, zeros_size22, fame0_blit hA, fame0_addr hA, fame_set_seen hA, fame_set_incl hA, hA, bA, hA2, List.size_toArray]
  refine ⟨by kernel_rfl, by kernel_rfl, ?_⟩
  refine dstep_call (bookE _) pres_refl ?_
  simp (implicitDefEqProofs := false) only [go_sem, Nat.reduceAdd, Nat.reduceSub, Nat.reduceMul, Nat.reduceLT, Nat.reduceLeDiff, Nat.reduceEqDiff, Nat.reduceBEq, Nat.reduceBNe, Nat.reducePow, Int.reduceBEq, Int.reduceBNe, Int.reduceEq, Int.reduceLT, Int.reduceLE, Int.reduceNeg, Int.reduceToNat, Int.reduceMul, Int.reduceAdd, Int.reduceSub, Int.reducePow, Int.reduceFDiv, reduceCtorEq, reduceIte, fame_mk, fame_all hA, fame_addr hA, fame_size hA, fame_seen hA, fame_incl hA, fame0_size, fame_zblit hA, zeros_size22, fame0_blit hA, fame0_addr hA, fame_set_seen hA, fame_set_incl hA, hA, bA, hA2, List.size_toArray]
  refine dstep_call (putE1 A hA bA 1 0 _ (by omega)) (pres_append _) ?_
  simp (implicitDefEqProofs := false) only [go_sem, Nat.reduceAdd, Nat.reduceSub, Nat.reduceMul, Nat.reduceLT, Nat.reduceLeDiff, Nat.reduceEqDiff, Nat.reduceBEq, Nat.reduceBNe, Nat.reducePow, Int.reduceBEq, Int.reduceBNe, Int.reduceEq, Int.reduceLT, Int.reduceLE, Int.reduceNeg, Int.reduceToNat, Int.reduceMul, Int.reduceAdd, Int.reduceSub, Int.reducePow, Int.reduceFDiv, reduceCtorEq, reduceIte, fame_mk, fame_all hA, fame_addr hA, fame_size hA, fame_seen hA, fame_incl hA, fame0_size, fame_zblit hA, zeros_size22, fame0_blit hA, fame0_addr hA, fame_set_seen hA, fame_set_incl hA, hA, bA, hA2, List.size_toArray]
  exact apost_row (k := 2) (c := fame A 1 0) (es := 22) (rw := true) (o := 0) (len := 1) (cap := 1) rfl _ rfl rfl (fame_plain bA) ⟨rfl, rfl⟩

set_option maxRecDepth 10000 in
set_option maxHeartbeats 4000000 in
theorem seeS (A : Array Value) (hA : A.size = 20) (bA : A.all isByte = true) (s i : Nat) (hs : s < 1000) (hi : i < 1000) (hn : ¬ (s = 0 ∧ i = 0)) {b : Nat} {h : AH} (hb : h[b]? = some (.cells (fame A ((s : Nat) : Int) ((i : Nat) : Int)) 22 true)) :
    ACalls Try.prog 5 #[.slice (some ⟨b, 0, none⟩) 1 1, .agg A] h (fun v h' => v = .slice (some ⟨h.length, 0, none⟩) 1 1 ∧ h' = h ++ [.cells (fame A ((s + 1 : Nat) : Int) ((i : Nat) : Int)) 22 true]) := by
  have hA2 : A.extract 0 20 = A := by rw [Array.extract_eq_self_of_le]; omega
  have hbl : b < h.length := (List.getElem?_eq_some_iff.1 hb).1
  have hfr : ∀ t : AH, (h ++ t)[b]? = some (.cells (fame A ((s : Nat) : Int) ((i : Nat) : Int)) 22 true) := fun t => by rw [at_front hbl]; exact hb
  have hnz : ¬ (((s : Nat) : Int) = 0 ∧ ((i : Nat) : Int) = 0) := by omega
  refine ACalls.of_ay Try.func5 rfl Try.ntmps5 ⟨_, _, rfl, rfl⟩ ?_; simp only [List.length_cons, List.length_nil, Nat.reduceAdd, Nat.reduceSub, List.replicate_succ, List.replicate_zero, List.cons_append, List.nil_append]
  simp (implicitDefEqProofs := false) only [go_sem, Nat.reduceAdd, Nat.reduceSub, Nat.reduceMul, Nat.reduceLT, Nat.reduceLeDiff, Nat.reduceEqDiff, Nat.reduceBEq, Nat.reduceBNe, Nat.reducePow, Int.reduceBEq, Int.reduceBNe, Int.reduceEq, Int.reduceLT, Int.reduceLE, Int.reduceNeg, Int.reduceToNat, Int.reduceMul, Int.reduceAdd, Int.reduceSub, Int.reducePow, Int.reduceFDiv, reduceCtorEq, reduceIte, fame_mk, fame_all hA, fame_addr hA, fame_size hA, fame_seen hA, fame_incl hA, fame0_size, fame_zblit hA, zeros_size22, fame0_blit hA, fame0_addr hA, fame_set_seen hA, fame_set_incl hA, hA, bA, hA2, List.size_toArray]
  refine astep_call (findS A hA bA _ _ (hfr _) hnz) ?_
  simp (implicitDefEqProofs := false) only [go_sem, Nat.reduceAdd, Nat.reduceSub, Nat.reduceMul, Nat.reduceLT, Nat.reduceLeDiff, Nat.reduceEqDiff, Nat.reduceBEq, Nat.reduceBNe, Nat.reducePow, Int.reduceBEq, Int.reduceBNe, Int.reduceEq, Int.reduceLT, Int.reduceLE, Int.reduceNeg, Int.reduceToNat, Int.reduceMul, Int.reduceAdd, Int.reduceSub, Int.reducePow, Int.reduceFDiv, reduceCtorEq, reduceIte, fame_mk, fame_all hA, fame_addr hA, fame_size hA, fame_seen hA, fame_incl hA, fame0_size, fame_zblit hA, zeros_size22, fame0_blit hA, fame0_addr hA, fame_set_seen hA, fame_set_incl hA, hA, bA, hA2, List.size_toArray]
  have hn := next_calls s (by omega) (h ++ [.cells A 0 true, .cells (fame A ((s : Nat) : Int) ((i : Nat) : Int)) 0 true])
  refine astep_call hn ?_
  simp (implicitDefEqProofs := false) only [go_sem, Nat.reduceAdd, Nat.reduceSub, Nat.reduceMul, Nat.reduceLT, Nat.reduceLeDiff, Nat.reduceEqDiff, Nat.reduceBEq, Nat.reduceBNe, Nat.reducePow, Int.reduceBEq, Int.reduceBNe, Int.reduceEq, Int.reduceLT, Int.reduceLE, Int.reduceNeg, Int.reduceToNat, Int.reduceMul, Int.reduceAdd, Int.reduceSub, Int.reducePow, Int.reduceFDiv, reduceCtorEq, reduceIte, fame_mk, fame_all hA, fame_addr hA, fame_size hA, fame_seen hA, fame_incl hA, fame0_size, fame_zblit hA, zeros_size22, fame0_blit hA, fame0_addr hA, fame_set_seen hA, fame_set_incl hA, hA, bA, hA2, List.size_toArray]
  refine ⟨by kernel_rfl, by kernel_rfl, ?_⟩
  refine dstep_calls (bookS1 A hA bA _ _ (hfr _) hnz) ?_
  intro v h1 hR
  obtain ⟨rfl, hh⟩ := hR
  subst hh
  refine ⟨pres_append _, ?_⟩
  simp (implicitDefEqProofs := false) only [go_sem, Nat.reduceAdd, Nat.reduceSub, Nat.reduceMul, Nat.reduceLT, Nat.reduceLeDiff, Nat.reduceEqDiff, Nat.reduceBEq, Nat.reduceBNe, Nat.reducePow, Int.reduceBEq, Int.reduceBNe, Int.reduceEq, Int.reduceLT, Int.reduceLE, Int.reduceNeg, Int.reduceToNat, Int.reduceMul, Int.reduceAdd, Int.reduceSub, Int.reducePow, Int.reduceFDiv, reduceCtorEq, reduceIte, fame_mk, fame_all hA, fame_addr hA, fame_size hA, fame_seen hA, fame_incl hA, fame0_size, fame_zblit hA, zeros_size22, fame0_blit hA, fame0_addr hA, fame_set_seen hA, fame_set_incl hA, hA, bA, hA2, List.size_toArray]
  have hp := putS A hA bA ((s : Nat) : Int) ((i : Nat) : Int) ((s + 1 : Nat) : Int) ((i : Nat) : Int) (by omega) (b := h.length + 2) (h := h ++ [.cells A 0 true, .cells (fame A ((s + 1 : Nat) : Int) ((i : Nat) : Int)) 0 true, .cells (fame A ((s : Nat) : Int) ((i : Nat) : Int)) 22 true]) (at_new h _ 2)
  have he : ∀ o : AObj, (h ++ [AObj.cells A 0 true, .cells (fame A ((s + 1 : Nat) : Int) ((i : Nat) : Int)) 0 true, .cells (fame A ((s : Nat) : Int) ((i : Nat) : Int)) 22 true]).set (h.length + 2) o = h ++ [AObj.cells A 0 true, AObj.cells (fame A ((s + 1 : Nat) : Int) ((i : Nat) : Int)) 0 true] ++ [o] := fun o => by rw [set_new, List.append_assoc]; rfl
  rw [he] at hp
  refine dstep_call hp (pres_append _) ?_
  simp (implicitDefEqProofs := false) only [go_sem, Nat.reduceAdd, Nat.reduceSub, Nat.reduceMul, Nat.reduceLT, Nat.reduceLeDiff, Nat.reduceEqDiff, Nat.reduceBEq, Nat.reduceBNe, Nat.reducePow, Int.reduceBEq, Int.reduceBNe, Int.reduceEq, Int.reduceLT, Int.reduceLE, Int.reduceNeg, Int.reduceToNat, Int.reduceMul, Int.reduceAdd, Int.reduceSub, Int.reducePow, Int.reduceFDiv, reduceCtorEq, reduceIte, fame_mk, fame_all hA, fame_addr hA, fame_size hA, fame_seen hA, fame_incl hA, fame0_size, fame_zblit hA, zeros_size22, fame0_blit hA, fame0_addr hA, fame_set_seen hA, fame_set_incl hA, hA, bA, hA2, List.size_toArray]
  exact apost_row (k := 2) (c := fame A ((s + 1 : Nat) : Int) ((i : Nat) : Int)) (es := 22) (rw := true) (o := 0) (len := 1) (cap := 1) rfl _ rfl rfl (fame_plain bA) ⟨rfl, rfl⟩

set_option maxRecDepth 10000 in
set_option maxHeartbeats 4000000 in
theorem incE (A : Array Value) (hA : A.size = 20) (bA : A.all isByte = true) (h : AH) :
    ACalls Try.prog 6 #[.slice none 0 0, .agg A] h (fun v h' => v = .slice (some ⟨h.length, 0, none⟩) 1 1 ∧ h' = h ++ [.cells (fame A 0 1) 22 true]) := by
  have hA2 : A.extract 0 20 = A := by rw [Array.extract_eq_self_of_le]; omega
  refine ACalls.of_ay Try.func6 rfl Try.ntmps6 ⟨_, _, rfl, rfl⟩ ?_; simp only [List.length_cons, List.length_nil, Nat.reduceAdd, Nat.reduceSub, List.replicate_succ, List.replicate_zero, List.cons_append, List.nil_append]
  simp (implicitDefEqProofs := false) only [go_sem, Nat.reduceAdd, Nat.reduceSub, Nat.reduceMul, Nat.reduceLT, Nat.reduceLeDiff, Nat.reduceEqDiff, Nat.reduceBEq, Nat.reduceBNe, Nat.reducePow, Int.reduceBEq, Int.reduceBNe, Int.reduceEq, Int.reduceLT, Int.reduceLE, Int.reduceNeg, Int.reduceToNat, Int.reduceMul, Int.reduceAdd, Int.reduceSub, Int.reducePow, Int.reduceFDiv, reduceCtorEq, reduceIte, fame_mk, fame_all hA, fame_addr hA, fame_size hA, fame_seen hA, fame_incl hA, fame0_size, fame_zblit hA, zeros_size22, fame0_blit hA, fame0_addr hA, fame_set_seen hA, fame_set_incl hA, hA, bA, hA2, List.size_toArray]
  refine astep_call (findE A hA bA _) ?_
  simp (implicitDefEqProofs := false) only [go_sem, Nat.reduceAdd, Nat.reduceSub, Nat.reduceMul, Nat.reduceLT, Nat.reduceLeDiff, Nat.reduceEqDiff, Nat.reduceBEq, Nat.reduceBNe, Nat.reducePow, Int.reduceBEq, Int.reduceBNe, Int.reduceEq, Int.reduceLT, Int.reduceLE, Int.reduceNeg, Int.reduceToNat, Int.reduceMul, Int.reduceAdd, Int.reduceSub, Int.reducePow, Int.reduceFDiv, reduceCtorEq, reduceIte, fame_mk, fame_all hA, fame_addr hA, fame_size hA, fame_seen hA, fame_incl hA, fame0_size, fame_zblit hA, zeros_size22, fame0_blit hA, fame0_addr hA, fame_set_seen hA, fame_set_incl hA, hA, bA, hA2, List.size_toArray]
  have hn := next_calls 0 (by decide) (h ++ [.cells A 0 true, .cells (fame A 0 0) 0 true])
  refine astep_call hn ?_
  simp (implicitDefEqProofs := false) only [go_sem, Nat.reduceAdd, Nat.reduceSub, Nat.reduceMul, Nat.reduceLT, Nat.reduceLeDiff, Nat.reduceEqDiff, Nat.reduceBEq, Nat.reduceBNe, Nat.reducePow, Int.reduceBEq, Int.reduceBNe, Int.reduceEq, Int.reduceLT, Int.reduceLE, Int.reduceNeg, Int.reduceToNat, Int.reduceMul, Int.reduceAdd, Int.reduceSub, Int.reducePow, Int.reduceFDiv, reduceCtorEq, reduceIte, fame_mk, fame_all hA, fame_addr hA, fame_size hA, fame_seen hA, fame_incl hA, fame0_size, fame_zblit hA, zeros_size22, fame0_blit hA, fame0_addr hA, fame_set_seen hA, fame_set_incl hA, hA, bA, hA2, List.size_toArray]
  refine ⟨by kernel_rfl, by kernel_rfl, ?_⟩
  refine dstep_call (bookE _) pres_refl ?_
  simp (implicitDefEqProofs := false) only [go_sem, Nat.reduceAdd, Nat.reduceSub, Nat.reduceMul, Nat.reduceLT, Nat.reduceLeDiff, Nat.reduceEqDiff, Nat.reduceBEq, Nat.reduceBNe, Nat.reducePow, Int.reduceBEq, Int.reduceBNe, Int.reduceEq, Int.reduceLT, Int.reduceLE, Int.reduceNeg, Int.reduceToNat, Int.reduceMul, Int.reduceAdd, Int.reduceSub, Int.reducePow, Int.reduceFDiv, reduceCtorEq, reduceIte, fame_mk, fame_all hA, fame_addr hA, fame_size hA, fame_seen hA, fame_incl hA, fame0_size, fame_zblit hA, zeros_size22, fame0_blit hA, fame0_addr hA, fame_set_seen hA, fame_set_incl hA, hA, bA, hA2, List.size_toArray]
  refine dstep_call (putE1 A hA bA 0 1 _ (by omega)) (pres_append _) ?_
  simp (implicitDefEqProofs := false) only [go_sem, Nat.reduceAdd, Nat.reduceSub, Nat.reduceMul, Nat.reduceLT, Nat.reduceLeDiff, Nat.reduceEqDiff, Nat.reduceBEq, Nat.reduceBNe, Nat.reducePow, Int.reduceBEq, Int.reduceBNe, Int.reduceEq, Int.reduceLT, Int.reduceLE, Int.reduceNeg, Int.reduceToNat, Int.reduceMul, Int.reduceAdd, Int.reduceSub, Int.reducePow, Int.reduceFDiv, reduceCtorEq, reduceIte, fame_mk, fame_all hA, fame_addr hA, fame_size hA, fame_seen hA, fame_incl hA, fame0_size, fame_zblit hA, zeros_size22, fame0_blit hA, fame0_addr hA, fame_set_seen hA, fame_set_incl hA, hA, bA, hA2, List.size_toArray]
  exact apost_row (k := 2) (c := fame A 0 1) (es := 22) (rw := true) (o := 0) (len := 1) (cap := 1) rfl _ rfl rfl (fame_plain bA) ⟨rfl, rfl⟩

set_option maxRecDepth 10000 in
set_option maxHeartbeats 4000000 in
theorem incS (A : Array Value) (hA : A.size = 20) (bA : A.all isByte = true) (s i : Nat) (hs : s < 1000) (hi : i < 1000) (hn : ¬ (s = 0 ∧ i = 0)) {b : Nat} {h : AH} (hb : h[b]? = some (.cells (fame A ((s : Nat) : Int) ((i : Nat) : Int)) 22 true)) :
    ACalls Try.prog 6 #[.slice (some ⟨b, 0, none⟩) 1 1, .agg A] h (fun v h' => v = .slice (some ⟨h.length, 0, none⟩) 1 1 ∧ h' = h ++ [.cells (fame A ((s : Nat) : Int) ((i + 1 : Nat) : Int)) 22 true]) := by
  have hA2 : A.extract 0 20 = A := by rw [Array.extract_eq_self_of_le]; omega
  have hbl : b < h.length := (List.getElem?_eq_some_iff.1 hb).1
  have hfr : ∀ t : AH, (h ++ t)[b]? = some (.cells (fame A ((s : Nat) : Int) ((i : Nat) : Int)) 22 true) := fun t => by rw [at_front hbl]; exact hb
  have hnz : ¬ (((s : Nat) : Int) = 0 ∧ ((i : Nat) : Int) = 0) := by omega
  refine ACalls.of_ay Try.func6 rfl Try.ntmps6 ⟨_, _, rfl, rfl⟩ ?_; simp only [List.length_cons, List.length_nil, Nat.reduceAdd, Nat.reduceSub, List.replicate_succ, List.replicate_zero, List.cons_append, List.nil_append]
  simp (implicitDefEqProofs := false) only [go_sem, Nat.reduceAdd, Nat.reduceSub, Nat.reduceMul, Nat.reduceLT, Nat.reduceLeDiff, Nat.reduceEqDiff, Nat.reduceBEq, Nat.reduceBNe, Nat.reducePow, Int.reduceBEq, Int.reduceBNe, Int.reduceEq, Int.reduceLT, Int.reduceLE, Int.reduceNeg, Int.reduceToNat, Int.reduceMul, Int.reduceAdd, Int.reduceSub, Int.reducePow, Int.reduceFDiv, reduceCtorEq, reduceIte, fame_mk, fame_all hA, fame_addr hA, fame_size hA, fame_seen hA, fame_incl hA, fame0_size, fame_zblit hA, zeros_size22, fame0_blit hA, fame0_addr hA, fame_set_seen hA, fame_set_incl hA, hA, bA, hA2, List.size_toArray]
  refine astep_call (findS A hA bA _ _ (hfr _) hnz) ?_
  simp (implicitDefEqProofs := false) only [go_sem, Nat.reduceAdd, Nat.reduceSub, Nat.reduceMul, Nat.reduceLT, Nat.reduceLeDiff, Nat.reduceEqDiff, Nat.reduceBEq, Nat.reduceBNe, Nat.reducePow, Int.reduceBEq, Int.reduceBNe, Int.reduceEq, Int.reduceLT, Int.reduceLE, Int.reduceNeg, Int.reduceToNat, Int.reduceMul, Int.reduceAdd, Int.reduceSub, Int.reducePow, Int.reduceFDiv, reduceCtorEq, reduceIte, fame_mk, fame_all hA, fame_addr hA, fame_size hA, fame_seen hA, fame_incl hA, fame0_size, fame_zblit hA, zeros_size22, fame0_blit hA, fame0_addr hA, fame_set_seen hA, fame_set_incl hA, hA, bA, hA2, List.size_toArray]
  have hn := next_calls i (by omega) (h ++ [.cells A 0 true, .cells (fame A ((s : Nat) : Int) ((i : Nat) : Int)) 0 true])
  refine astep_call hn ?_
  simp (implicitDefEqProofs := false) only [go_sem, Nat.reduceAdd, Nat.reduceSub, Nat.reduceMul, Nat.reduceLT, Nat.reduceLeDiff, Nat.reduceEqDiff, Nat.reduceBEq, Nat.reduceBNe, Nat.reducePow, Int.reduceBEq, Int.reduceBNe, Int.reduceEq, Int.reduceLT, Int.reduceLE, Int.reduceNeg, Int.reduceToNat, Int.reduceMul, Int.reduceAdd, Int.reduceSub, Int.reducePow, Int.reduceFDiv, reduceCtorEq, reduceIte, fame_mk, fame_all hA, fame_addr hA, fame_size hA, fame_seen hA, fame_incl hA, fame0_size, fame_zblit hA, zeros_size22, fame0_blit hA, fame0_addr hA, fame_set_seen hA, fame_set_incl hA, hA, bA, hA2, List.size_toArray]
  refine ⟨by kernel_rfl, by kernel_rfl, ?_⟩
  refine dstep_calls (bookS1 A hA bA _ _ (hfr _) hnz) ?_
  intro v h1 hR
  obtain ⟨rfl, hh⟩ := hR
  subst hh
  refine ⟨pres_append _, ?_⟩
  simp (implicitDefEqProofs := false) only [go_sem, Nat.reduceAdd, Nat.reduceSub, Nat.reduceMul, Nat.reduceLT, Nat.reduceLeDiff, Nat.reduceEqDiff, Nat.reduceBEq, Nat.reduceBNe, Nat.reducePow, Int.reduceBEq, Int.reduceBNe, Int.reduceEq, Int.reduceLT, Int.reduceLE, Int.reduceNeg, Int.reduceToNat, Int.reduceMul, Int.reduceAdd, Int.reduceSub, Int.reducePow, Int.reduceFDiv, reduceCtorEq, reduceIte, fame_mk, fame_all hA, fame_addr hA, fame_size hA, fame_seen hA, fame_incl hA, fame0_size, fame_zblit hA, zeros_size22, fame0_blit hA, fame0_addr hA, fame_set_seen hA, fame_set_incl hA, hA, bA, hA2, List.size_toArray]
  have hp := putS A hA bA ((s : Nat) : Int) ((i : Nat) : Int) ((s : Nat) : Int) ((i + 1 : Nat) : Int) (by omega) (b := h.length + 2) (h := h ++ [.cells A 0 true, .cells (fame A ((s : Nat) : Int) ((i + 1 : Nat) : Int)) 0 true, .cells (fame A ((s : Nat) : Int) ((i : Nat) : Int)) 22 true]) (at_new h _ 2)
  have he : ∀ o : AObj, (h ++ [AObj.cells A 0 true, .cells (fame A ((s : Nat) : Int) ((i + 1 : Nat) : Int)) 0 true, .cells (fame A ((s : Nat) : Int) ((i : Nat) : Int)) 22 true]).set (h.length + 2) o = h ++ [AObj.cells A 0 true, AObj.cells (fame A ((s : Nat) : Int) ((i + 1 : Nat) : Int)) 0 true] ++ [o] := fun o => by rw [set_new, List.append_assoc]; rfl
  rw [he] at hp
  refine dstep_call hp (pres_append _) ?_
  simp (implicitDefEqProofs := false) only [go_sem, Nat.reduceAdd, Nat.reduceSub, Nat.reduceMul, Nat.reduceLT, Nat.reduceLeDiff, Nat.reduceEqDiff, Nat.reduceBEq, Nat.reduceBNe, Nat.reducePow, Int.reduceBEq, Int.reduceBNe, Int.reduceEq, Int.reduceLT, Int.reduceLE, Int.reduceNeg, Int.reduceToNat, Int.reduceMul, Int.reduceAdd, Int.reduceSub, Int.reducePow, Int.reduceFDiv, reduceCtorEq, reduceIte, fame_mk, fame_all hA, fame_addr hA, fame_size hA, fame_seen hA, fame_incl hA, fame0_size, fame_zblit hA, zeros_size22, fame0_blit hA, fame0_addr hA, fame_set_seen hA, fame_set_incl hA, hA, bA, hA2, List.size_toArray]
  exact apost_row (k := 2) (c := fame A ((s : Nat) : Int) ((i + 1 : Nat) : Int)) (es := 22) (rw := true) (o := 0) (len := 1) (cap := 1) rfl _ rfl rfl (fame_plain bA) ⟨rfl, rfl⟩

end Go.Proofs
