import Derived.Test.YtihdilnanhjedaaSeq
import Derived.Test.YtihdilnanhjedaaTrcT
import Derived.Test.YtihdilnanhjedaaAm55x
set_option linter.unusedSimpArgs false
set_option linter.unusedVariables false
set_option maxRecDepth 100000
/- what events have read and written: the map -/
namespace Go.Proofs
open Go Go.Am

theorem build_un : abuild Try.prog 61 [] = some (.agg #[]) := by kernel_rfl
theorem keyTyPl : keyTy Try.prog 54 = true := by kernel_rfl
abbrev TMap (es : Array MapEntry) (clk : Nat) (L : List Pl) := SMap Try.prog 54 es clk L
theorem TMap.empty : TMap #[] 0 [] := by
  have := MFun.empty (P := Try.prog) (encV := encUn) keyTyPl keyedPl keyPl_inj
  have e : memF [] = fun _ => none := by funext y; simp [memF]
  unfold TMap SMap
  rw [e]; exact this
theorem TMap.put {es : Array MapEntry} {clk : Nat} {L : List Pl} (hm : TMap es clk L) (x : Pl) : ∃ es' clk', TMap es' clk' (L ++ [x]) ∧
    ∀ {H : AH} {m : Nat}, H[m]? = some (.map 54 es clk) → amUpdate Try.prog H 52 (.map (some m)) (.agg (encPl x).toArray) (.agg #[]) = some (H.set m (.map 54 es' clk')) := by
  cases hf : memF L x with
  | none =>
    refine ⟨_, _, by have := hm.push hf (); rw [memF_snoc] at this; exact this, fun {H m} hb => ?_⟩
    have hnf : findK (.agg (encPl x).toArray) es.toList 0 = none := hm.find_none hf
    exact amUpdate_none Try.mp52 (keyedPl x) hb hnf
  | some v =>
    obtain ⟨j, e, h1, h2⟩ := hm.find_some hf
    refine ⟨_, _, by have := hm.modify h1 (); rw [memF_snoc] at this; exact this, fun {H m} hb => ?_⟩
    exact amUpdate_some Try.mp52 (keyedPl x) hb h1

set_option maxHeartbeats 4000000 in
theorem put1_calls (x : Pl) {es : Array MapEntry} {clk : Nat} {L : List Pl} (hm : TMap es clk L) {H : AH} {m b : Nat} (hmm : H[m]? = some (.map 54 es clk)) (hb : H[b]? = some (.cells (encPl x).toArray 25 true)) :
    ACalls Try.prog 22 #[.map (some m), .slice (some ⟨b, 0, none⟩) 1 1] H (fun v h' => ∃ es' clk', TMap es' clk' (L ++ [x]) ∧ v = undef ∧ h' = H.set m (.map 54 es' clk')) := by
  obtain ⟨es1, clk1, hm1, hu⟩ := hm.put x
  refine ACalls.of_ay Try.func22 rfl Try.ntmps22 ⟨_, _, es1, clk1, hm1, rfl, rfl⟩ ?_; simp only [List.length_cons, List.length_nil, Nat.reduceAdd, Nat.reduceSub, List.replicate_succ, List.replicate_zero, List.cons_append, List.nil_append]
  simp (implicitDefEqProofs := false) (maxSteps := 2000000) only [go_sem, Nat.reduceAdd, Nat.reduceSub, Nat.reduceMul, Nat.reduceLT, Nat.reduceLeDiff, Nat.reduceEqDiff, Nat.reduceBEq, Nat.reduceBNe, Nat.reducePow, Int.reduceBEq, Int.reduceBNe, Int.reduceEq, Int.reduceLT, Int.reduceLE, Int.reduceNeg, Int.reduceToNat, Int.reduceMul, Int.reduceAdd, Int.reduceSub, Int.reducePow, Int.reduceFDiv, reduceCtorEq, reduceIte]
  refine AWP.rounds 2 ?_
  have i1 : IntKind.i64.wrap (0 + 1) = 1 := rfl
  have hb1 := at_old hb
  have hm2 := at_old hmm
  have hu1 := hu (at_old hmm [.cells (encPl x).toArray 0 true])
  simp (implicitDefEqProofs := false) (maxSteps := 2000000) only [go_sem, Nat.reduceAdd, Nat.reduceSub, Nat.reduceMul, Nat.reduceLT, Nat.reduceLeDiff, Nat.reduceEqDiff, Nat.reduceBEq, Nat.reduceBNe, Nat.reducePow, Int.reduceBEq, Int.reduceBNe, Int.reduceEq, Int.reduceLT, Int.reduceLE, Int.reduceNeg, Int.reduceToNat, Int.reduceMul, Int.reduceAdd, Int.reduceSub, Int.reducePow, Int.reduceFDiv, reduceCtorEq, reduceIte, aRounds, i1, hb, hb1, hmm, hm2, build_un, hu1]
  have hlt : m < H.length := (List.getElem?_eq_some_iff.1 hmm).1
  rw [set_front hlt]
  exact apost_wrote rfl (fun L => hm1.ren) ⟨es1, clk1, hm1, rfl, rfl⟩ _

set_option maxHeartbeats 4000000 in
theorem put2_calls (x y : Pl) {es : Array MapEntry} {clk : Nat} {L : List Pl} (hm : TMap es clk L) {H : AH} {m b : Nat} (hmm : H[m]? = some (.map 54 es clk)) (hb : H[b]? = some (.cells ((encPl x).toArray ++ (encPl y).toArray) 25 true)) (hne : b ≠ m) :
    ACalls Try.prog 22 #[.map (some m), .slice (some ⟨b, 0, none⟩) 2 2] H (fun v h' => ∃ es' clk', TMap es' clk' (L ++ [x, y]) ∧ v = undef ∧ h' = H.set m (.map 54 es' clk')) := by
  obtain ⟨es1, clk1, hm1, hu⟩ := hm.put x
  obtain ⟨es2, clk2, hm2, hu2⟩ := hm1.put y
  rw [List.append_assoc] at hm2
  refine ACalls.of_ay Try.func22 rfl Try.ntmps22 ⟨_, _, es2, clk2, hm2, rfl, rfl⟩ ?_; simp only [List.length_cons, List.length_nil, Nat.reduceAdd, Nat.reduceSub, List.replicate_succ, List.replicate_zero, List.cons_append, List.nil_append]
  simp (implicitDefEqProofs := false) (maxSteps := 2000000) only [go_sem, Nat.reduceAdd, Nat.reduceSub, Nat.reduceMul, Nat.reduceLT, Nat.reduceLeDiff, Nat.reduceEqDiff, Nat.reduceBEq, Nat.reduceBNe, Nat.reducePow, Int.reduceBEq, Int.reduceBNe, Int.reduceEq, Int.reduceLT, Int.reduceLE, Int.reduceNeg, Int.reduceToNat, Int.reduceMul, Int.reduceAdd, Int.reduceSub, Int.reducePow, Int.reduceFDiv, reduceCtorEq, reduceIte]
  refine AWP.rounds 3 ?_
  have i1 : IntKind.i64.wrap (0 + 1) = 1 := rfl
  have i2 : IntKind.i64.wrap (1 + 1) = 2 := rfl
  have hb1 := at_old hb
  have hlt : m < H.length := (List.getElem?_eq_some_iff.1 hmm).1
  have hu1 := hu (at_old hmm [.cells (encPl x).toArray 0 true])
  have hb2 := at_old (get_set (o := .map 54 es1 clk1) hb hne.symm)
  have e1 : ((encPl x).toArray ++ (encPl y).toArray).extract 0 25 = (encPl x).toArray := by
    apply Array.ext'
    simp only [Array.toList_extract, List.extract_eq_take_drop, Array.toList_append]
    rw [List.drop_zero, Nat.sub_zero, List.take_append_of_le_length (by simp [length_encPl]), List.take_of_length_le (by simp [length_encPl])]
  have e2 : ((encPl x).toArray ++ (encPl y).toArray).extract 25 50 = (encPl y).toArray := by
    apply Array.ext'
    simp only [Array.toList_extract, List.extract_eq_take_drop, Array.toList_append]
    rw [List.drop_left' (by simp [length_encPl]), List.take_of_length_le (by simp [length_encPl])]
  have hu3 := hu2 (H := H.set m (.map 54 es1 clk1) ++ [.cells (encPl x).toArray 0 true, .cells (encPl y).toArray 0 true]) (m := m) (at_setS hlt)
  simp (implicitDefEqProofs := false) (maxSteps := 2000000) only [go_sem, Nat.reduceAdd, Nat.reduceSub, Nat.reduceMul, Nat.reduceLT, Nat.reduceLeDiff, Nat.reduceEqDiff, Nat.reduceBEq, Nat.reduceBNe, Nat.reducePow, Int.reduceBEq, Int.reduceBNe, Int.reduceEq, Int.reduceLT, Int.reduceLE, Int.reduceNeg, Int.reduceToNat, Int.reduceMul, Int.reduceAdd, Int.reduceSub, Int.reducePow, Int.reduceFDiv, reduceCtorEq, reduceIte, aRounds, i1, i2, hb, hb1, hmm, build_un, hu1, hu3, Array.size_append, e1, e2, hb2, set_front hlt, set_setS hlt]
  exact apost_wrote rfl (fun L => hm2.ren) ⟨es2, clk2, hm2, rfl, rfl⟩ _
end Go.Proofs
