import Derived.Test.YtihdilnanhjedaaBelA
import Derived.Test.YtihdilnanhjedaaAm55x
set_option linter.unusedSimpArgs false
set_option linter.unusedVariables false
set_option maxRecDepth 100000
/- a word's address -/
namespace Go.Proofs
open Go Go.Am

def addrW (w : Word4) : Addr20 := ⟨((bytesW w).drop 12).toArray, by simp [length_bytesW]⟩
theorem addrW_list (w : Word4) : (addrW w).toList = (bytesW w).drop 12 := rfl
theorem addr_cells (w : Word4) : flatV encU8 ((bytesW w).drop 12) = (encAddr (addrW w)).toArray := by
  rw [flat_u8]; unfold encAddr; rw [addrW_list]

theorem slV_fullnil {α : Type} {enc : α → List Value} {l m : List α} {ok : (Sl.full l).nil = true → m = []} : slV enc ⟨(Sl.full l).nil, m, ok⟩ = fz (flatV enc m) m.length := rfl
theorem drop_bytes (w : Word4) : List.drop 12 (List.take 32 (bytesW w)) = (bytesW w).drop 12 := by rw [List.take_of_length_le (by rw [length_bytesW]; exact Nat.le_refl _)]

set_option maxHeartbeats 4000000 in
theorem waddr_calls (w : Word4) (h : AH) :
    ACalls Try.prog 21 #[.agg (encWord w).toArray] h (fun v h' => v = .agg (encAddr (addrW w)).toArray ∧ h' = h) := by
  refine ACalls.of_ay Try.func21 rfl Try.ntmps21 ⟨_, _, rfl, rfl⟩ ?_; simp only [List.length_cons, List.length_nil, Nat.reduceAdd, Nat.reduceSub, List.replicate_succ, List.replicate_zero, List.cons_append, List.nil_append]
  simp (implicitDefEqProofs := false) (maxSteps := 2000000) only [go_sem, Nat.reduceAdd, Nat.reduceSub, Nat.reduceMul, Nat.reduceLT, Nat.reduceLeDiff, Nat.reduceEqDiff, Nat.reduceBEq, Nat.reduceBNe, Nat.reducePow, Int.reduceBEq, Int.reduceBNe, Int.reduceEq, Int.reduceLT, Int.reduceLE, Int.reduceNeg, Int.reduceToNat, Int.reduceMul, Int.reduceAdd, Int.reduceSub, Int.reducePow, Int.reduceFDiv, reduceCtorEq, reduceIte]
  refine astep_call (wbytes_calls w _) ?_
  have hle : ((12 : Int) ≤ ((32 : Nat) : Int)) = True := by simp
  have hl20 : (List.drop 12 (bytesW w)).length = 20 := by simp [length_bytesW]
  have hsz : (encAddr (addrW w)).toArray.size = 20 := by simp [length_encAddr]
  have hex : (encAddr (addrW w)).toArray.extract 0 20 = (encAddr (addrW w)).toArray := extract_full (length_encAddr _)
  simp (implicitDefEqProofs := false) (maxSteps := 2000000) only [go_sem, Nat.reduceAdd, Nat.reduceSub, Nat.reduceMul, Nat.reduceLT, Nat.reduceLeDiff, Nat.reduceEqDiff, Nat.reduceBEq, Nat.reduceBNe, Nat.reducePow, Int.reduceBEq, Int.reduceBNe, Int.reduceEq, Int.reduceLT, Int.reduceLE, Int.reduceNeg, Int.reduceToNat, Int.reduceMul, Int.reduceAdd, Int.reduceSub, Int.reducePow, Int.reduceFDiv, reduceCtorEq, reduceIte, length_bytesW, hle, slV_fullnil, drop_bytes, hl20, addr_cells, hsz, hex, mkLoadF]
  refine apost_cell rfl ?_ ⟨rfl, rfl⟩ _ _ rfl (by simp (implicitDefEqProofs := false) (maxSteps := 2000000) only [go_sem, Nat.reduceAdd, Nat.reduceSub, Nat.reduceMul, Nat.reduceLT, Nat.reduceLeDiff, Nat.reduceEqDiff, Nat.reduceBEq, Nat.reduceBNe, Nat.reducePow, Int.reduceBEq, Int.reduceBNe, Int.reduceEq, Int.reduceLT, Int.reduceLE, Int.reduceNeg, Int.reduceToNat, Int.reduceMul, Int.reduceAdd, Int.reduceSub, Int.reducePow, Int.reduceFDiv, reduceCtorEq, reduceIte, length_encAddr, hsz, hex])
  show (encAddr (addrW w)).toArray.all plain1 = true
  simp [encAddr, plain1]
end Go.Proofs
