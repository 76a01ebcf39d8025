import Derived.Test.YtljobcehngpicaaDoorHexL
import Derived.Test.YtljobcehngpicaaDoorHexS
set_option linter.unusedSimpArgs false
set_option linter.unusedVariables false
/- addresses read -/
namespace Go.Proofs
open Go Go.Am

def addrM (s : List UInt8) : Option Addr20 := (readM s).bind fun l => if h : l.length = 20 then some ⟨l.toArray, by simpa using h⟩ else none
def zeroA : Addr20 := Vector.replicate 20 0
theorem zeroA_enc : (.agg (encAddr zeroA).toArray : Value) = .agg (Array.replicate 20 (.int .u8 0)) := by
  rw [encAddr_flat]
  have : zeroA.toList = List.replicate 20 0 := by simp [zeroA]
  rw [this, ← rep_u8]
theorem tree_addr (a : Addr20) : Tree (.agg (encAddr a).toArray) := tree_agg (tree_encAddr a)
theorem read_len {s l : List UInt8} (h : readM s = some l) : l.length < s.length := by
  have := write_read h
  have := congrArg List.length this
  rw [length_hexW, List.length_map] at this
  omega

set_option maxRecDepth 10000 in
set_option maxHeartbeats 4000000 in
theorem address_calls (s : List UInt8) (hs : s.length < 2 ^ 30) (h : AH) :
    ACalls Tryd.prog 16 #[.string (bs s)] h (fun v h' => v = .tuple #[.agg (encAddr ((addrM s).getD zeroA)).toArray, .int .u16 (bif (addrM s).isSome then 0 else 60)] ∧ h' = h) := by
  refine ACalls.of_ay Tryd.func16 rfl Tryd.ntmps16 ⟨_, _, rfl, rfl⟩ ?_; simp only [List.length_cons, List.length_nil, Nat.reduceAdd, Nat.reduceSub, List.replicate_succ, List.replicate_zero, List.cons_append, List.nil_append]
  simp (implicitDefEqProofs := false) only [go_sem, Nat.reduceAdd, Nat.reduceSub, Nat.reduceMul, Nat.reduceLT, Nat.reduceLeDiff, Nat.reduceEqDiff, Nat.reduceBEq, Nat.reduceBNe, Nat.reducePow, Int.reduceBEq, Int.reduceBNe, Int.reduceEq, Int.reduceLT, Int.reduceLE, Int.reduceNeg, Int.reduceToNat, Int.reduceMul, Int.reduceAdd, Int.reduceSub, Int.reducePow, Int.reduceFDiv, reduceCtorEq, reduceIte]
  have hrc := fun H => read_calls s hs H
  cases hr : readM s with
  | none =>
    have hm : addrM s = none := by rw [addrM, hr]; rfl
    rw [hr] at hrc
    refine astep_call (hrc _) ?_
    simp (implicitDefEqProofs := false) only [go_sem, Nat.reduceAdd, Nat.reduceSub, Nat.reduceMul, Nat.reduceLT, Nat.reduceLeDiff, Nat.reduceEqDiff, Nat.reduceBEq, Nat.reduceBNe, Nat.reducePow, Int.reduceBEq, Int.reduceBNe, Int.reduceEq, Int.reduceLT, Int.reduceLE, Int.reduceNeg, Int.reduceToNat, Int.reduceMul, Int.reduceAdd, Int.reduceSub, Int.reducePow, Int.reduceFDiv, reduceCtorEq, reduceIte, hm, Option.getD_none, Option.getD_some, Option.isSome_none, Option.isSome_some]
    exact apost_cellT (.agg (encAddr zeroA).toArray) (.int .u16 60) rfl (tree_addr _) (.plain _ rfl) ⟨rfl, rfl⟩ _ _ rfl rfl (by rw [zeroA_enc]; simp (implicitDefEqProofs := false) only [go_sem, Nat.reduceAdd, Nat.reduceSub, Nat.reduceMul, Nat.reduceLT, Nat.reduceLeDiff, Nat.reduceEqDiff, Nat.reduceBEq, Nat.reduceBNe, Nat.reducePow, Int.reduceBEq, Int.reduceBNe, Int.reduceEq, Int.reduceLT, Int.reduceLE, Int.reduceNeg, Int.reduceToNat, Int.reduceMul, Int.reduceAdd, Int.reduceSub, Int.reducePow, Int.reduceFDiv, reduceCtorEq, reduceIte]; rfl)
  | some l =>
    rw [hr] at hrc
    by_cases hl : l.length = 20
    · have hm : addrM s = some ⟨l.toArray, by simpa using hl⟩ := by rw [addrM, hr, Option.bind_some, dif_pos hl]
      have hl' : ((l.length : Nat) : Int) = 20 := by omega
      have hne : l ≠ [] := by intro h0; rw [h0] at hl; cases hl
      have hsl : slV encU8 (Sl.app l) = fz (flatV encU8 l) 20 := by
        cases l with
        | nil => exact absurd rfl hne
        | cons d y => rw [← hl]; rfl
      have harr : aarrayPtr Tryd.prog 41 (slV encU8 (Sl.app l)) = some (fp (flatV encU8 l) 0) := by
        rw [hsl, aarr_fz Tryd.arr41]
        exact if_pos ⟨by decide, by decide⟩
      have hex : (flatV encU8 l).extract 0 20 = flatV encU8 l := by rw [← hl, ← size_u8 l, Array.extract_size]
      have hlf : mkLoadF (flatV encU8 l) 0 (some (true, 20)) = some (.agg (flatV encU8 l)) := by
        show (if 0 + 20 ≤ (flatV encU8 l).size then some (Value.agg ((flatV encU8 l).extract 0 (0 + 20))) else none) = _
        rw [if_pos (by rw [size_u8, hl]; decide), Nat.zero_add, hex]
      have hea : (encAddr ⟨l.toArray, by simpa using hl⟩).toArray = flatV encU8 l := by rw [encAddr_flat]; simp
      refine astep_call (hrc _) ?_
      simp (implicitDefEqProofs := false) only [go_sem, Nat.reduceAdd, Nat.reduceSub, Nat.reduceMul, Nat.reduceLT, Nat.reduceLeDiff, Nat.reduceEqDiff, Nat.reduceBEq, Nat.reduceBNe, Nat.reducePow, Int.reduceBEq, Int.reduceBNe, Int.reduceEq, Int.reduceLT, Int.reduceLE, Int.reduceNeg, Int.reduceToNat, Int.reduceMul, Int.reduceAdd, Int.reduceSub, Int.reducePow, Int.reduceFDiv, reduceCtorEq, reduceIte, hm, hl, hl', harr, hlf, hex, size_u8, Option.getD_none, Option.getD_some, Option.isSome_none, Option.isSome_some]
      exact apost_cellT (.agg (encAddr ⟨l.toArray, by simpa using hl⟩).toArray) (.int .u16 0) rfl (tree_addr _) (.plain _ rfl) ⟨rfl, rfl⟩ _ _ rfl rfl (by rw [hea]; simp (implicitDefEqProofs := false) only [go_sem, Nat.reduceAdd, Nat.reduceSub, Nat.reduceMul, Nat.reduceLT, Nat.reduceLeDiff, Nat.reduceEqDiff, Nat.reduceBEq, Nat.reduceBNe, Nat.reducePow, Int.reduceBEq, Int.reduceBNe, Int.reduceEq, Int.reduceLT, Int.reduceLE, Int.reduceNeg, Int.reduceToNat, Int.reduceMul, Int.reduceAdd, Int.reduceSub, Int.reducePow, Int.reduceFDiv, reduceCtorEq, reduceIte, hex, size_u8, hl])
    · have hm : addrM s = none := by rw [addrM, hr, Option.bind_some, dif_neg hl]
      have hl' : (((l.length : Nat) : Int) != 20) = true := by rw [bne_iff_ne]; omega
      refine astep_call (hrc _) ?_
      simp (implicitDefEqProofs := false) only [go_sem, Nat.reduceAdd, Nat.reduceSub, Nat.reduceMul, Nat.reduceLT, Nat.reduceLeDiff, Nat.reduceEqDiff, Nat.reduceBEq, Nat.reduceBNe, Nat.reducePow, Int.reduceBEq, Int.reduceBNe, Int.reduceEq, Int.reduceLT, Int.reduceLE, Int.reduceNeg, Int.reduceToNat, Int.reduceMul, Int.reduceAdd, Int.reduceSub, Int.reducePow, Int.reduceFDiv, reduceCtorEq, reduceIte, hm, hl', Option.getD_none, Option.getD_some, Option.isSome_none, Option.isSome_some]
      exact apost_cellT (.agg (encAddr zeroA).toArray) (.int .u16 60) rfl (tree_addr _) (.plain _ rfl) ⟨rfl, rfl⟩ _ _ rfl rfl (by rw [zeroA_enc]; simp (implicitDefEqProofs := false) only [go_sem, Nat.reduceAdd, Nat.reduceSub, Nat.reduceMul, Nat.reduceLT, Nat.reduceLeDiff, Nat.reduceEqDiff, Nat.reduceBEq, Nat.reduceBNe, Nat.reducePow, Int.reduceBEq, Int.reduceBNe, Int.reduceEq, Int.reduceLT, Int.reduceLE, Int.reduceNeg, Int.reduceToNat, Int.reduceMul, Int.reduceAdd, Int.reduceSub, Int.reducePow, Int.reduceFDiv, reduceCtorEq, reduceIte]; rfl)
end Go.Proofs
