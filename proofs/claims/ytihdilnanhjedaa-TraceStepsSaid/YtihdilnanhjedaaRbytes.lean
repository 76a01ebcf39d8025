import Derived.Test.YtihdilnanhjedaaAddr
import Derived.Test.YtihdilnanhjedaaAm55x
import Derived.Test.YtihdilnanhjedaaAm43x
set_option linter.unusedSimpArgs false
set_option linter.unusedVariables false
set_option maxRecDepth 100000
/- a word's bytes and address, by the document -/
namespace Go.Proofs
open Go Go.Am
theorem bytesW_take (w : Word4) {i : Nat} (hi : i < 32) : (bytesW w).take (i + 1) = (bytesW w).take i ++ [byteW w (31 - i)] := by
  rw [List.take_add_one, List.getElem?_eq_getElem (by rw [length_bytesW]; exact hi)]
  simp [bytesW]

set_option maxRecDepth 10000 in
set_option maxHeartbeats 4000000 in
theorem rbytes_calls (a : Word4) (h : AH) :
    ACalls Try.prog 48 #[.agg (encWord a).toArray] h (fun v h' => v = slV encU8 (Sl.app (bytesW a)) ∧ h' = h) := by
  refine ACalls.of_ay Try.func48 rfl Try.ntmps48 ⟨_, _, rfl, rfl⟩ ?_; simp only [List.length_cons, List.length_nil, Nat.reduceAdd, Nat.reduceSub, List.replicate_succ, List.replicate_zero, List.cons_append, List.nil_append]
  simp (implicitDefEqProofs := false) (maxSteps := 2000000) only [go_sem, Nat.reduceAdd, Nat.reduceSub, Nat.reduceMul, Nat.reduceLT, Nat.reduceLeDiff, Nat.reduceEqDiff, Nat.reduceBEq, Nat.reduceBNe, Nat.reducePow, Int.reduceBEq, Int.reduceBNe, Int.reduceEq, Int.reduceLT, Int.reduceLE, Int.reduceNeg, Int.reduceToNat, Int.reduceMul, Int.reduceAdd, Int.reduceSub, Int.reducePow, Int.reduceFDiv, reduceCtorEq, reduceIte]
  refine AWP.loopI (fun i : Nat => 32 - i) (fun i => [junk, .pointer (some ⟨h.length, 0, none⟩), junk, outV (h.length + 1) ((bytesW a).take i), .int .i64 (i : Nat), junk, junk, junk, junk, junk, junk, junk, junk, junk, junk, junk, junk, junk, junk, junk, junk, junk, junk, junk, junk, junk])
    (fun i => h ++ [.cells (encWord a).toArray 0 true, outO encU8 1 ((bytesW a).take i)]) (fun i => i ≤ 32) 0 (Nat.zero_le _) ?_ ?_
  · have := (Keeps.easeL (P := Try.prog) (h0 := h) (t := [.cells (encWord a).toArray 0 true])
      (l := .agg (encWord a).toArray :: .pointer (some ⟨h.length, 0, none⟩) :: .slice none 0 0 :: .slice none 0 0 :: .int .i64 0 :: List.replicate 21 undef)
      (l1 := [junk, .pointer (some ⟨h.length, 0, none⟩), junk, .slice none 0 0, .int .i64 0, junk, junk, junk, junk, junk, junk, junk, junk, junk, junk, junk, junk, junk, junk, junk, junk, junk, junk, junk, junk, junk])
      (by intro o ho; rw [List.mem_singleton] at ho; subst ho; exact ORen.plainCells (tree_encWord _)) (by repeat (first | exact Keeps.nil | refine Keeps.junk _ ?_ | refine Keeps.keep (by first | exact .plain _ rfl | exact .ptr _ _ _ (by simp) rfl) ?_))).trans Eases.ghost
    simp only [List.append_assoc, List.cons_append, List.nil_append] at this
    exact this
  · intro i hi
    by_cases hlt : i < 32
    · have hl32 : ((i : Nat) : Int) < 32 := by omega
      have hk : IntKind.i64.wrap ((31 : Int) - (i : Int)) = ((31 - i : Nat) : Int) := by rw [wrap_i64_of _ (by omega) (by omega)]; omega
      have hj : 31 - i < 32 := by omega
      generalize hjj : 31 - i = j at hk hj
      have h4 : j / 8 < 4 := by omega
      have h43 : j / 8 ≤ 3 := by omega
      have h4' : ((j / 8 : Nat) : Int) < 4 := by omega
      have hq : IntKind.i64.wrap ((j : Int).tdiv 8) = ((j / 8 : Nat) : Int) := by rw [show (j : Int).tdiv 8 = ((j / 8 : Nat) : Int) from rfl]; exact wrap_i64_of _ (by omega) (by omega)
      have hr : (j : Int).tmod 8 = ((j % 8 : Nat) : Int) := rfl
      have hm8 : IntKind.i64.wrap (((j % 8 : Nat) : Int) * 8) = ((8 * (j % 8) : Nat) : Int) := by rw [wrap_i64_of _ (by omega) (by omega)]; omega
      have hu : IntKind.u64.wrap ((8 * (j % 8) : Nat) : Int) = ((8 * (j % 8) : Nat) : Int) := wrap_u64_of _ (by omega) (by omega)
      have hn0 : ¬ ((8 * (j % 8) : Nat) : Int) < 0 := by omega
      have hw1 : IntKind.i64.wrap ((i : Int) + 1) = ((i + 1 : Nat) : Int) := by rw [wrap_i64_of _ (by omega) (by omega), ofNat_succ']
      have hsh := u8_shr a hj h4
      have hlen : ((bytesW a).take i).length ≤ 32 := by simp; omega
      simp (implicitDefEqProofs := false) (maxSteps := 2000000) only [go_sem, Nat.reduceAdd, Nat.reduceSub, Nat.reduceMul, Nat.reduceLT, Nat.reduceLeDiff, Nat.reduceEqDiff, Nat.reduceBEq, Nat.reduceBNe, Nat.reducePow, Int.reduceBEq, Int.reduceBNe, Int.reduceEq, Int.reduceLT, Int.reduceLE, Int.reduceNeg, Int.reduceToNat, Int.reduceMul, Int.reduceAdd, Int.reduceSub, Int.reducePow, Int.reduceFDiv, reduceCtorEq, reduceIte, hl32, hk, hq, h4', hr, hm8, hu, abin_shr hn0, hsh, encWord_get _ h4, hw1, h43, set_new, at_new, mkApp_outK (enc := encU8) (m := 1) (n := 1) (by_ := 1) (l := (bytesW a).take i) (k := 1) length_encU8 (Nat.zero_lt_one) ⟨by omega, by omega⟩]
      refine ⟨i + 1, by omega, by omega, ?_⟩
      rw [bytesW_take a hlt, hjj]
      refine pick2 3 (by decide) ⟨rfl, fun σ L => ORen.plainCells (tree_encWord _)⟩ ⟨_, rfl, outO_renS tree_encU8⟩ ?_
      repeat (first | exact KeepsS.nil | refine KeepsS.junk _ ?_ | refine KeepsS.keep (by first | exact .plain _ rfl | exact ptr_pick (k := 0) (by omega) rfl | exact outV_pick (by omega) rfl) ?_)
    · have hl32 : ¬ ((i : Nat) : Int) < 32 := by omega
      simp (implicitDefEqProofs := false) (maxSteps := 2000000) only [go_sem, Nat.reduceAdd, Nat.reduceSub, Nat.reduceMul, Nat.reduceLT, Nat.reduceLeDiff, Nat.reduceEqDiff, Nat.reduceBEq, Nat.reduceBNe, Nat.reducePow, Int.reduceBEq, Int.reduceBNe, Int.reduceEq, Int.reduceLT, Int.reduceLE, Int.reduceNeg, Int.reduceToNat, Int.reduceMul, Int.reduceAdd, Int.reduceSub, Int.reducePow, Int.reduceFDiv, reduceCtorEq, reduceIte, hl32]
      have hie : i = 32 := by omega
      subst hie
      have e32 : (bytesW a).take 32 = bytesW a := List.take_of_length_le (by rw [length_bytesW]; exact Nat.le_refl _)
      rw [e32]
      have hb : (h ++ [AObj.cells (encWord a).toArray 0 true, outO encU8 1 (bytesW a)])[h.length + 1]? = some (outO encU8 1 (bytesW a)) := at_new _ _ _
      exact apost_tree (by rw [aresults_tmp rfl, getD_lit]; rfl) (keeps_append _ _) (Rf.outV hb (dieNew_dead (by omega) (by simp)) length_encU8) (.slV tree_encU8 _) ⟨rfl, rfl⟩

def adrK (w : Word4) (i : Nat) : List UInt8 := ((bytesW w).drop 12).take i ++ List.replicate (20 - i) 0
theorem length_adrK (w : Word4) {i : Nat} (hi : i ≤ 20) : (adrK w i).length = 20 := by simp [adrK, length_bytesW]; omega
theorem adrK_set (w : Word4) {i : Nat} (hi : i < 20) : (adrK w i).set i ((bytesW w)[12 + i]'(by rw [length_bytesW]; omega)) = adrK w (i + 1) := by
  unfold adrK
  have hl : (((bytesW w).drop 12).take i).length = i := by simp [length_bytesW]; omega
  rw [List.set_append_right _ _ (by omega), hl, Nat.sub_self, show 20 - i = (20 - (i + 1)) + 1 by omega, List.replicate_succ, List.set_cons_zero, List.take_add_one, List.getElem?_drop, List.getElem?_eq_getElem (by rw [length_bytesW]; omega)]
  simp
theorem adrK_20 (w : Word4) : adrK w 20 = (bytesW w).drop 12 := by
  unfold adrK
  rw [List.take_of_length_le (by simp [length_bytesW])]; simp
theorem oren_adr {σ : Nat → Nat} {L : Nat} (w : Word4) (i : Nat) : ∀ o ∈ [AObj.cells (encWord w).toArray 0 true, .cells (Array.replicate 20 (.int .u8 0)) 0 true, .cells (flatV encU8 (adrK w i)) 0 true], ORen σ L o o := by
  intro o ho
  simp only [List.mem_cons, List.not_mem_nil, or_false] at ho
  rcases ho with rfl | rfl | rfl
  · exact ORen.plainCells (tree_encWord _)
  · exact ORen.plainCells (l := List.replicate 20 (.int .u8 0)) (fun v hv => by rw [List.eq_of_mem_replicate hv]; exact .plain _ rfl)
  · exact ORen.plainCells (l := (adrK w i).flatMap encU8) (fun v hv => by obtain ⟨x, _, hx⟩ := List.mem_flatMap.1 hv; exact tree_encU8 _ _ hx)
theorem adrK_0 (w : Word4) : flatV encU8 (adrK w 0) = Array.replicate 20 (.int .u8 0) := rfl
set_option maxRecDepth 10000 in
set_option maxHeartbeats 4000000 in
theorem raddr_calls (w : Word4) (h : AH) :
    ACalls Try.prog 26 #[.agg (encWord w).toArray] h (fun v h' => v = .agg (encAddr (addrW w)).toArray ∧ h' = h) := by
  refine ACalls.of_ay Try.func26 rfl Try.ntmps26 ⟨_, _, rfl, rfl⟩ ?_; simp only [List.length_cons, List.length_nil, Nat.reduceAdd, Nat.reduceSub, List.replicate_succ, List.replicate_zero, List.cons_append, List.nil_append]
  simp (implicitDefEqProofs := false) (maxSteps := 2000000) only [go_sem, Nat.reduceAdd, Nat.reduceSub, Nat.reduceMul, Nat.reduceLT, Nat.reduceLeDiff, Nat.reduceEqDiff, Nat.reduceBEq, Nat.reduceBNe, Nat.reducePow, Int.reduceBEq, Int.reduceBNe, Int.reduceEq, Int.reduceLT, Int.reduceLE, Int.reduceNeg, Int.reduceToNat, Int.reduceMul, Int.reduceAdd, Int.reduceSub, Int.reducePow, Int.reduceFDiv, reduceCtorEq, reduceIte]
  refine astep_call (rbytes_calls w _) ?_
  simp (implicitDefEqProofs := false) (maxSteps := 2000000) only [go_sem, Nat.reduceAdd, Nat.reduceSub, Nat.reduceMul, Nat.reduceLT, Nat.reduceLeDiff, Nat.reduceEqDiff, Nat.reduceBEq, Nat.reduceBNe, Nat.reducePow, Int.reduceBEq, Int.reduceBNe, Int.reduceEq, Int.reduceLT, Int.reduceLE, Int.reduceNeg, Int.reduceToNat, Int.reduceMul, Int.reduceAdd, Int.reduceSub, Int.reducePow, Int.reduceFDiv, reduceCtorEq, reduceIte]
  refine AWP.loopI (fun i : Nat => 20 - i) (fun i => [junk, .pointer (some ⟨h.length, 0, none⟩), .pointer (some ⟨h.length + 1, 0, none⟩), .pointer (some ⟨h.length + 2, 0, none⟩), slV encU8 (Sl.app (bytesW w)), .int .i64 (i : Nat), junk, junk, junk, junk, junk, junk, junk, junk, junk, junk, junk, junk, junk, junk])
    (fun i => h ++ [.cells (encWord w).toArray 0 true, .cells (Array.replicate 20 (.int .u8 0)) 0 true, .cells (flatV encU8 (adrK w i)) 0 true]) (fun i => i ≤ 20) 0 (Nat.zero_le _) ?_ ?_
  · refine Keeps.easeL (oren_adr w 0) ?_
    repeat (first | exact Keeps.nil | refine Keeps.junk _ ?_ | refine Keeps.keep (by first | exact .plain _ rfl | exact (Tree.slV tree_encU8 _).ren | exact .ptr _ _ _ (by simp) rfl) ?_)
  · intro i hi
    by_cases hlt : i < 20
    · have hl20 : ((i : Nat) : Int) < 20 := by omega
      have hi19 : i ≤ 19 := by omega
      have hw1 : IntKind.i64.wrap ((i : Int) + 1) = ((i + 1 : Nat) : Int) := by rw [wrap_i64_of _ (by omega) (by omega), ofNat_succ']
      have hw2 : IntKind.i64.wrap (12 + (i : Int)) = ((12 + i : Nat) : Int) := by rw [wrap_i64_of _ (by omega) (by omega)]; omega
      have hlb : 12 + i < (bytesW w).length := by rw [length_bytesW]; omega
      have hlt2 : ((12 + i : Nat) : Int) < 32 := by omega
      have hlt3 : 12 + i < 32 := by omega
      simp (implicitDefEqProofs := false) (maxSteps := 2000000) only [go_sem, Nat.reduceAdd, Nat.reduceSub, Nat.reduceMul, Nat.reduceLT, Nat.reduceLeDiff, Nat.reduceEqDiff, Nat.reduceBEq, Nat.reduceBNe, Nat.reducePow, Int.reduceBEq, Int.reduceBNe, Int.reduceEq, Int.reduceLT, Int.reduceLE, Int.reduceNeg, Int.reduceToNat, Int.reduceMul, Int.reduceAdd, Int.reduceSub, Int.reducePow, Int.reduceFDiv, reduceCtorEq, reduceIte, hl20, hlt, hi19, hw1, hw2, hlb, hlt2, hlt3, load_encU8 hlb, set_new, at_new, size_u8, length_adrK w hi, set_u8, adrK_set w hlt]
      refine ⟨i + 1, by omega, by omega, Keeps.easeL (oren_adr w _) ?_⟩
      repeat (first | exact Keeps.nil | refine Keeps.junk _ ?_ | refine Keeps.keep (by first | exact .plain _ rfl | exact (Tree.slV tree_encU8 _).ren | exact .ptr _ _ _ (by simp) rfl) ?_)
    · have hl20 : ¬ ((i : Nat) : Int) < 20 := by omega
      have hie : i = 20 := by omega
      subst hie
      have hsz : (encAddr (addrW w)).toArray.size = 20 := by simp [length_encAddr]
      have hex : (encAddr (addrW w)).toArray.extract 0 20 = (encAddr (addrW w)).toArray := extract_full (length_encAddr _)
      rw [adrK_20, addr_cells]
      simp (implicitDefEqProofs := false) (maxSteps := 2000000) only [go_sem, Nat.reduceAdd, Nat.reduceSub, Nat.reduceMul, Nat.reduceLT, Nat.reduceLeDiff, Nat.reduceEqDiff, Nat.reduceBEq, Nat.reduceBNe, Nat.reducePow, Int.reduceBEq, Int.reduceBNe, Int.reduceEq, Int.reduceLT, Int.reduceLE, Int.reduceNeg, Int.reduceToNat, Int.reduceMul, Int.reduceAdd, Int.reduceSub, Int.reducePow, Int.reduceFDiv, reduceCtorEq, reduceIte, hl20, hsz, hex, mkLoadF, set_new, at_new]
      refine apost_cell rfl ?_ ⟨rfl, rfl⟩ _ _ rfl (by simp (implicitDefEqProofs := false) (maxSteps := 2000000) only [go_sem, Nat.reduceAdd, Nat.reduceSub, Nat.reduceMul, Nat.reduceLT, Nat.reduceLeDiff, Nat.reduceEqDiff, Nat.reduceBEq, Nat.reduceBNe, Nat.reducePow, Int.reduceBEq, Int.reduceBNe, Int.reduceEq, Int.reduceLT, Int.reduceLE, Int.reduceNeg, Int.reduceToNat, Int.reduceMul, Int.reduceAdd, Int.reduceSub, Int.reducePow, Int.reduceFDiv, reduceCtorEq, reduceIte, length_encAddr, hsz, hex])
      show (encAddr (addrW w)).toArray.all plain1 = true
      simp [encAddr, plain1]
end Go.Proofs
