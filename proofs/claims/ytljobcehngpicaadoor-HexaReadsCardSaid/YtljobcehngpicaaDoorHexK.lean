import Derived.Test.YtljobcehngpicaaDoorHex4
import Derived.Test.YtljobcehngpicaaDoorHex2
set_option linter.unusedSimpArgs false
set_option linter.unusedVariables false
/- the chapter's examples -/
namespace Go.Proofs
open Go Go.Am

theorem writeB_calls (l : List UInt8) {n : Nat} (hn : l.length = n) (hs : l.length < 2 ^ 30) (h : AH) (b es0 : Nat) (hb : h[b]? = some (.cells (flatV encU8 l) es0 true)) :
    ACalls Tryd.prog 8 #[.slice (some ⟨b, 0, none⟩) n n] h (fun v h' => v = .string (bs (hexW l)) ∧ h' = h.set b .dead) := by
  subst hn
  refine ACalls.freeze (args1 := #[slV encU8 (Sl.full l)]) HFz.set rfl (fun i => ?_) (write_calls (Sl.full l) hs (h.set b .dead))
  cases i with
  | zero => exact Rf.full hb (List.getElem?_set_self (List.getElem?_eq_some_iff.1 hb).1) (Nat.le_refl _)
  | succ i => simp; exact .same _

def w256 : Word4 := #v[256, 0, 0, 0]
theorem ex1 : readM [48, 120, 65] = none := by kernel_rfl
theorem ex2 : countM [48, 120, 48, 48] = none := by kernel_rfl
theorem ex3 : countM [48, 120] = none := by kernel_rfl
theorem ex4 : hexW [10, 255] = [48, 120, 48, 97, 102, 102] := by kernel_rfl
theorem ex5 : numW w256 = [48, 120, 49, 48, 48] := by kernel_rfl
theorem ex6 : numW zeroW = [48, 120, 48] := by kernel_rfl

set_option maxRecDepth 10000 in
set_option maxHeartbeats 4000000 in
theorem known_calls (h : AH) : ACalls Tryd.prog 7 #[] h (fun v h' => v = .bool true ∧ h' = h) := by
  have c1 := fun H => read_calls [48, 120, 65] (by decide) H
  have c2 := fun H => count_calls [48, 120, 48, 48] (by decide) H
  have c3 := fun H => count_calls [48, 120] (by decide) H
  rw [ex1] at c1
  rw [ex2] at c2
  rw [ex3] at c3
  have c4 := fun H b hb => writeB_calls [10, 255] (n := 2) rfl (by decide) H b 1 hb
  rw [ex4] at c4
  have c5 := fun H => number_calls w256 H
  rw [ex5] at c5
  have c6 := fun H => number_calls zeroW H
  rw [ex6] at c6
  refine ACalls.of_ay Tryd.func7 rfl Tryd.ntmps7 ⟨_, _, rfl, rfl⟩ ?_; simp only [List.length_cons, List.length_nil, Nat.reduceAdd, Nat.reduceSub, List.replicate_succ, List.replicate_zero, List.cons_append, List.nil_append]
  simp (implicitDefEqProofs := false) only [go_sem, Nat.reduceAdd, Nat.reduceSub, Nat.reduceMul, Nat.reduceLT, Nat.reduceLeDiff, Nat.reduceEqDiff, Nat.reduceBEq, Nat.reduceBNe, Nat.reducePow, Int.reduceBEq, Int.reduceBNe, Int.reduceEq, Int.reduceLT, Int.reduceLE, Int.reduceNeg, Int.reduceToNat, Int.reduceMul, Int.reduceAdd, Int.reduceSub, Int.reducePow, Int.reduceFDiv, reduceCtorEq, reduceIte, mk_bs]
  refine astep_call (c1 _) ?_
  simp (implicitDefEqProofs := false) only [go_sem, Nat.reduceAdd, Nat.reduceSub, Nat.reduceMul, Nat.reduceLT, Nat.reduceLeDiff, Nat.reduceEqDiff, Nat.reduceBEq, Nat.reduceBNe, Nat.reducePow, Int.reduceBEq, Int.reduceBNe, Int.reduceEq, Int.reduceLT, Int.reduceLE, Int.reduceNeg, Int.reduceToNat, Int.reduceMul, Int.reduceAdd, Int.reduceSub, Int.reducePow, Int.reduceFDiv, reduceCtorEq, reduceIte, Option.getD_none, Option.isSome_none]
  refine astep_call (c2 _) ?_
  simp (implicitDefEqProofs := false) only [go_sem, Nat.reduceAdd, Nat.reduceSub, Nat.reduceMul, Nat.reduceLT, Nat.reduceLeDiff, Nat.reduceEqDiff, Nat.reduceBEq, Nat.reduceBNe, Nat.reducePow, Int.reduceBEq, Int.reduceBNe, Int.reduceEq, Int.reduceLT, Int.reduceLE, Int.reduceNeg, Int.reduceToNat, Int.reduceMul, Int.reduceAdd, Int.reduceSub, Int.reducePow, Int.reduceFDiv, reduceCtorEq, reduceIte, Option.getD_none, Option.isSome_none]
  refine astep_call (c3 _) ?_
  simp (implicitDefEqProofs := false) only [go_sem, Nat.reduceAdd, Nat.reduceSub, Nat.reduceMul, Nat.reduceLT, Nat.reduceLeDiff, Nat.reduceEqDiff, Nat.reduceBEq, Nat.reduceBNe, Nat.reducePow, Int.reduceBEq, Int.reduceBNe, Int.reduceEq, Int.reduceLT, Int.reduceLE, Int.reduceNeg, Int.reduceToNat, Int.reduceMul, Int.reduceAdd, Int.reduceSub, Int.reducePow, Int.reduceFDiv, reduceCtorEq, reduceIte, Option.getD_none, Option.isSome_none]
  refine astep_calls (c4 _ (h.length + 2) (at_new h _ 2)) ?_
  intro v h1 hR
  obtain ⟨rfl, hh⟩ := hR
  simp only [set_new, List.set_cons_succ, List.set_cons_zero] at hh
  subst hh
  have b1 : (([48, 120, 48, 97, 102, 102] : List UInt8) == [48, 120, 48, 97, 102, 102]) = true := rfl
  have b2 : (([48, 120, 49, 48, 48] : List UInt8) == [48, 120, 49, 48, 48]) = true := rfl
  have b3 : (([48, 120, 48] : List UInt8) == [48, 120, 48]) = true := rfl
  simp (implicitDefEqProofs := false) only [go_sem, Nat.reduceAdd, Nat.reduceSub, Nat.reduceMul, Nat.reduceLT, Nat.reduceLeDiff, Nat.reduceEqDiff, Nat.reduceBEq, Nat.reduceBNe, Nat.reducePow, Int.reduceBEq, Int.reduceBNe, Int.reduceEq, Int.reduceLT, Int.reduceLE, Int.reduceNeg, Int.reduceToNat, Int.reduceMul, Int.reduceAdd, Int.reduceSub, Int.reducePow, Int.reduceFDiv, reduceCtorEq, reduceIte, mk_bs, b1]
  refine astep_call (c5 _) ?_
  simp (implicitDefEqProofs := false) only [go_sem, Nat.reduceAdd, Nat.reduceSub, Nat.reduceMul, Nat.reduceLT, Nat.reduceLeDiff, Nat.reduceEqDiff, Nat.reduceBEq, Nat.reduceBNe, Nat.reducePow, Int.reduceBEq, Int.reduceBNe, Int.reduceEq, Int.reduceLT, Int.reduceLE, Int.reduceNeg, Int.reduceToNat, Int.reduceMul, Int.reduceAdd, Int.reduceSub, Int.reducePow, Int.reduceFDiv, reduceCtorEq, reduceIte, mk_bs, b2]
  refine astep_call (c6 _) ?_
  simp (implicitDefEqProofs := false) only [go_sem, Nat.reduceAdd, Nat.reduceSub, Nat.reduceMul, Nat.reduceLT, Nat.reduceLeDiff, Nat.reduceEqDiff, Nat.reduceBEq, Nat.reduceBNe, Nat.reducePow, Int.reduceBEq, Int.reduceBNe, Int.reduceEq, Int.reduceLT, Int.reduceLE, Int.reduceNeg, Int.reduceToNat, Int.reduceMul, Int.reduceAdd, Int.reduceSub, Int.reducePow, Int.reduceFDiv, reduceCtorEq, reduceIte, mk_bs, b3]
  exact apost_tmp rfl rfl ⟨rfl, rfl⟩ _ _ rfl
end Go.Proofs
