/- The law FootParts: what meets a Union meets one of its parts, and the other way; the order makes no difference; for every input, no condition. -/
import Derived.Test.YtihdilnanhjedaaFpU
import Derived.Test.YtihdilnanhjedaaSameP
import Derived.Test.YtihdilnanhjedaaRows
import Derived.Test.YtihdilnanhjedaaAm58x
set_option linter.unusedSimpArgs false
set_option linter.unusedVariables false
set_option linter.constructorNameAsVariable false
namespace Go.Proofs.Ytihdilnanhjedaa.FootParts
open Go Go.Am Go.Proofs.Fp
open Go.ChangeShapes Go.WideShapes Go.ChangeAt Go.RowKit

theorem own : ownKnob Try.prog.godebug = none := by kernel_rfl
theorem laidOut : laidOutB Try.prog = true := by kernel_rfl

theorem heavy_callsB (l : List Foot) (hs : l.length < 2 ^ 62) (h : AH) (b es0 : Nat) (hb : h[b]? = some (.cells (flatV encFoot l) es0 true)) :
    ACalls Try.prog 15 #[.slice (some ⟨b, 0, none⟩) l.length l.length] h (fun v h' => v = .bool (decide (100 < l.length + total l)) ∧ h' = h.set b .dead) := by
  refine ACalls.freeze (args1 := #[slV encFoot (Sl.full l)]) HFz.set rfl (fun i => ?_) (heavy_calls (Sl.full l) (by show l.length < _; omega) (h.set b .dead))
  cases i with
  | zero => exact Rf.full hb (List.getElem?_set_self (List.getElem?_eq_some_iff.1 hb).1) (Nat.le_refl _)
  | succ i => simp; exact .same _
theorem union_callsB (l : List Foot) (hs : l.length ≤ 1000) (hR : (unR l).length ≤ 10000) (hW : (unW l).length ≤ 10000) (h : AH) (b es0 : Nat) (hb : h[b]? = some (.cells (flatV encFoot l) es0 true)) :
    ACalls Try.prog 17 #[.slice (some ⟨b, 0, none⟩) l.length l.length] h (fun v h' => v = .agg #[slV encPl (Sl.app (rise (unR l))), slV encPl (Sl.app (rise (unW l)))] ∧ h' = h.set b .dead) := by
  refine ACalls.freeze (args1 := #[slV encFoot (Sl.full l)]) HFz.set rfl (fun i => ?_) (union_calls (Sl.full l) hs hR hW (h.set b .dead))
  cases i with
  | zero => exact Rf.full hb (List.getElem?_set_self (List.getElem?_eq_some_iff.1 hb).1) (Nat.le_refl _)
  | succ i => simp; exact .same _

theorem blitF (f g : Foot) {z : Value} : blit (blit #[z, z, z, z] 0 (encFoot f)) 2 (encFoot g) = flatV encFoot [f, g] := rfl
theorem blitF_size (f : Foot) {z : Value} : (blit #[z, z, z, z] 0 (encFoot f)).size = 4 := rfl
/-! the plain law -/
theorem meets_iff (f g : Foot) : meets f g = true ↔ (∃ x ∈ f.writes.l, x ∈ g.reads.l ∨ x ∈ g.writes.l) ∨ ∃ x ∈ g.writes.l, x ∈ f.reads.l := by
  unfold meets hits
  simp [List.any_eq_true]
theorem meets_un (a : Foot) (l : List Foot) : meets a ⟨Sl.app (rise (unR l)), Sl.app (rise (unW l))⟩ = l.any (meets a) := by
  rw [Bool.eq_iff_iff, meets_iff, List.any_eq_true]
  simp only [Sl.app, mem_rise, unR, unW, List.mem_flatMap]
  constructor
  · rintro (⟨x, hx, ⟨g, hg, h⟩ | ⟨g, hg, h⟩⟩ | ⟨x, ⟨g, hg, h⟩, hx⟩)
    · exact ⟨g, hg, (meets_iff _ _).2 (.inl ⟨x, hx, .inl h⟩)⟩
    · exact ⟨g, hg, (meets_iff _ _).2 (.inl ⟨x, hx, .inr h⟩)⟩
    · exact ⟨g, hg, (meets_iff _ _).2 (.inr ⟨x, h, hx⟩)⟩
  · rintro ⟨g, hg, h⟩
    rcases (meets_iff _ _).1 h with ⟨x, hx, h | h⟩ | ⟨x, hx, h⟩
    · exact .inl ⟨x, hx, .inl ⟨g, hg, h⟩⟩
    · exact .inl ⟨x, hx, .inr ⟨g, hg, h⟩⟩
    · exact .inr ⟨x, ⟨g, hg, hx⟩, h⟩
theorem unR_rev (l : List Foot) : rise (unR l.reverse) = rise (unR l) := rise_congr fun x => by simp only [unR, List.mem_flatMap, List.mem_reverse]
theorem unW_rev (l : List Foot) : rise (unW l.reverse) = rise (unW l) := rise_congr fun x => by simp only [unW, List.mem_flatMap, List.mem_reverse]
theorem rise_two (L : List Pl) : rise (rise L ++ rise L) = rise L := rise_congr fun x => by simp only [List.mem_append, or_self, mem_rise]
theorem un_len {l : List Foot} (h : l.length + total l ≤ 100) : (unR l).length + (unW l).length + l.length ≤ 100 ∧ ∀ f ∈ l, f.reads.l.length ≤ 100 ∧ f.writes.l.length ≤ 100 := by
  have key : ∀ l : List Foot, l.length + total l ≤ 100 → (unR l).length + (unW l).length = total l ∧ ∀ f ∈ l, f.reads.l.length ≤ 100 ∧ f.writes.l.length ≤ 100 := by
    intro l
    induction l with
    | nil => intro _; exact ⟨rfl, fun f hf => by cases hf⟩
    | cons g l ih =>
      intro h
      have e : total (g :: l) = weight g + total l := by simp [total]
      rw [e] at h ⊢
      simp only [List.length_cons] at h
      obtain ⟨h1, h2⟩ := ih (by omega)
      have hw : g.reads.l.length ≤ 100 ∧ g.writes.l.length ≤ 100 ∧ weight g = g.reads.l.length + g.writes.l.length := by unfold weight at *; omega
      refine ⟨by simp only [unR, unW, List.flatMap_cons, List.length_append] at h1 ⊢; omega, fun f hf => ?_⟩
      rcases List.mem_cons.1 hf with rfl | hf
      · exact ⟨hw.1, hw.2.1⟩
      · exact h2 f hf
  obtain ⟨h1, h2⟩ := key l h
  exact ⟨by omega, h2⟩

set_option maxRecDepth 10000 in
set_option maxHeartbeats 8000000 in
theorem parts_law (a : Foot) (s : Sl Foot) (hs : s.l.length < 2 ^ 63) (h : AH) :
    ACalls Try.prog 6 #[.agg (encFoot a).toArray, slV encFoot s] h (fun v h' => v = .bool true ∧ h' = h) := by
  refine ACalls.of_aw Try.func6 rfl Try.ntmps6 ⟨_, _, rfl, rfl⟩ ?_; simp only [List.length_cons, List.length_nil, Nat.reduceAdd, Nat.reduceSub, List.replicate_succ, List.replicate_zero, List.cons_append, List.nil_append]
  refine AWP.seqA ?_
  simp (implicitDefEqProofs := false) (maxSteps := 2000000) only [go_sem, Nat.reduceAdd, Nat.reduceSub, Nat.reduceMul, Nat.reduceLT, Nat.reduceLeDiff, Nat.reduceEqDiff, Nat.reduceBEq, Nat.reduceBNe, Nat.reducePow, Int.reduceBEq, Int.reduceBNe, Int.reduceEq, Int.reduceLT, Int.reduceLE, Int.reduceNeg, Int.reduceToNat, Int.reduceMul, Int.reduceAdd, Int.reduceSub, Int.reducePow, Int.reduceFDiv, reduceCtorEq, reduceIte]
  refine AWP.seqA ?_
  simp (implicitDefEqProofs := false) (maxSteps := 2000000) only [go_sem, Nat.reduceAdd, Nat.reduceSub, Nat.reduceMul, Nat.reduceLT, Nat.reduceLeDiff, Nat.reduceEqDiff, Nat.reduceBEq, Nat.reduceBNe, Nat.reducePow, Int.reduceBEq, Int.reduceBNe, Int.reduceEq, Int.reduceLT, Int.reduceLE, Int.reduceNeg, Int.reduceToNat, Int.reduceMul, Int.reduceAdd, Int.reduceSub, Int.reducePow, Int.reduceFDiv, reduceCtorEq, reduceIte]
  refine astep_call (heavy_calls s hs _) ?_
  cases hv : decide (100 < s.l.length + total s.l) with
  | true =>
    simp (implicitDefEqProofs := false) (maxSteps := 2000000) only [go_sem, Nat.reduceAdd, Nat.reduceSub, Nat.reduceMul, Nat.reduceLT, Nat.reduceLeDiff, Nat.reduceEqDiff, Nat.reduceBEq, Nat.reduceBNe, Nat.reducePow, Int.reduceBEq, Int.reduceBNe, Int.reduceEq, Int.reduceLT, Int.reduceLE, Int.reduceNeg, Int.reduceToNat, Int.reduceMul, Int.reduceAdd, Int.reduceSub, Int.reducePow, Int.reduceFDiv, reduceCtorEq, reduceIte]
    refine astep_call (known_calls _) ?_
    simp (implicitDefEqProofs := false) (maxSteps := 2000000) only [go_sem, Nat.reduceAdd, Nat.reduceSub, Nat.reduceMul, Nat.reduceLT, Nat.reduceLeDiff, Nat.reduceEqDiff, Nat.reduceBEq, Nat.reduceBNe, Nat.reducePow, Int.reduceBEq, Int.reduceBNe, Int.reduceEq, Int.reduceLT, Int.reduceLE, Int.reduceNeg, Int.reduceToNat, Int.reduceMul, Int.reduceAdd, Int.reduceSub, Int.reducePow, Int.reduceFDiv, reduceCtorEq, reduceIte]
    exact apost_tmp rfl rfl ⟨rfl, rfl⟩ _ _ rfl
  | false =>
    have hv1 : s.l.length + total s.l ≤ 100 := by simpa using hv
    obtain ⟨hlen, hone⟩ := un_len hv1
    simp (implicitDefEqProofs := false) (maxSteps := 2000000) only [go_sem, Nat.reduceAdd, Nat.reduceSub, Nat.reduceMul, Nat.reduceLT, Nat.reduceLeDiff, Nat.reduceEqDiff, Nat.reduceBEq, Nat.reduceBNe, Nat.reducePow, Int.reduceBEq, Int.reduceBNe, Int.reduceEq, Int.reduceLT, Int.reduceLE, Int.reduceNeg, Int.reduceToNat, Int.reduceMul, Int.reduceAdd, Int.reduceSub, Int.reducePow, Int.reduceFDiv, reduceCtorEq, reduceIte]
    refine astep_call (heavy_callsB [a] (by simp) _ (h.length + 1) 2 (at_new _ _ 1)) ?_
    simp only [set_new, List.set_cons_succ, List.set_cons_zero]
    cases hw : decide (100 < [a].length + total [a]) with
    | true =>
      simp (implicitDefEqProofs := false) (maxSteps := 2000000) only [go_sem, Nat.reduceAdd, Nat.reduceSub, Nat.reduceMul, Nat.reduceLT, Nat.reduceLeDiff, Nat.reduceEqDiff, Nat.reduceBEq, Nat.reduceBNe, Nat.reducePow, Int.reduceBEq, Int.reduceBNe, Int.reduceEq, Int.reduceLT, Int.reduceLE, Int.reduceNeg, Int.reduceToNat, Int.reduceMul, Int.reduceAdd, Int.reduceSub, Int.reducePow, Int.reduceFDiv, reduceCtorEq, reduceIte]
      refine astep_call (known_calls _) ?_
      simp (implicitDefEqProofs := false) (maxSteps := 2000000) only [go_sem, Nat.reduceAdd, Nat.reduceSub, Nat.reduceMul, Nat.reduceLT, Nat.reduceLeDiff, Nat.reduceEqDiff, Nat.reduceBEq, Nat.reduceBNe, Nat.reducePow, Int.reduceBEq, Int.reduceBNe, Int.reduceEq, Int.reduceLT, Int.reduceLE, Int.reduceNeg, Int.reduceToNat, Int.reduceMul, Int.reduceAdd, Int.reduceSub, Int.reducePow, Int.reduceFDiv, reduceCtorEq, reduceIte]
      exact apost_tmp rfl rfl ⟨rfl, rfl⟩ _ _ rfl
    | false =>
      have hw1 : [a].length + total [a] ≤ 100 := by simpa using hw
      have ha := (un_len hw1).2 a (by simp)
      simp (implicitDefEqProofs := false) (maxSteps := 2000000) only [go_sem, Nat.reduceAdd, Nat.reduceSub, Nat.reduceMul, Nat.reduceLT, Nat.reduceLeDiff, Nat.reduceEqDiff, Nat.reduceBEq, Nat.reduceBNe, Nat.reducePow, Int.reduceBEq, Int.reduceBNe, Int.reduceEq, Int.reduceLT, Int.reduceLE, Int.reduceNeg, Int.reduceToNat, Int.reduceMul, Int.reduceAdd, Int.reduceSub, Int.reducePow, Int.reduceFDiv, reduceCtorEq, reduceIte]
      refine astep_call (known_calls _) ?_
      simp (implicitDefEqProofs := false) (maxSteps := 2000000) only [go_sem, Nat.reduceAdd, Nat.reduceSub, Nat.reduceMul, Nat.reduceLT, Nat.reduceLeDiff, Nat.reduceEqDiff, Nat.reduceBEq, Nat.reduceBNe, Nat.reducePow, Int.reduceBEq, Int.reduceBNe, Int.reduceEq, Int.reduceLT, Int.reduceLE, Int.reduceNeg, Int.reduceToNat, Int.reduceMul, Int.reduceAdd, Int.reduceSub, Int.reducePow, Int.reduceFDiv, reduceCtorEq, reduceIte]
      refine AWP.seqA ?_
      simp (implicitDefEqProofs := false) (maxSteps := 2000000) only [go_sem, Nat.reduceAdd, Nat.reduceSub, Nat.reduceMul, Nat.reduceLT, Nat.reduceLeDiff, Nat.reduceEqDiff, Nat.reduceBEq, Nat.reduceBNe, Nat.reducePow, Int.reduceBEq, Int.reduceBNe, Int.reduceEq, Int.reduceLT, Int.reduceLE, Int.reduceNeg, Int.reduceToNat, Int.reduceMul, Int.reduceAdd, Int.reduceSub, Int.reducePow, Int.reduceFDiv, reduceCtorEq, reduceIte]
      refine astep_call (union_calls s (by omega) (by omega) (by omega) _) ?_
      simp (implicitDefEqProofs := false) (maxSteps := 2000000) only [go_sem, Nat.reduceAdd, Nat.reduceSub, Nat.reduceMul, Nat.reduceLT, Nat.reduceLeDiff, Nat.reduceEqDiff, Nat.reduceBEq, Nat.reduceBNe, Nat.reducePow, Int.reduceBEq, Int.reduceBNe, Int.reduceEq, Int.reduceLT, Int.reduceLE, Int.reduceNeg, Int.reduceToNat, Int.reduceMul, Int.reduceAdd, Int.reduceSub, Int.reducePow, Int.reduceFDiv, reduceCtorEq, reduceIte]
      generalize hu : (⟨Sl.app (rise (unR s.l)), Sl.app (rise (unW s.l))⟩ : Foot) = u
      have hue : #[slV encPl (Sl.app (rise (unR s.l))), slV encPl (Sl.app (rise (unW s.l)))] = (encFoot u).toArray := by rw [← hu]; rfl
      rw [hue]
      refine AWP.seqA ?_
      simp (implicitDefEqProofs := false) (maxSteps := 2000000) only [go_sem, Nat.reduceAdd, Nat.reduceSub, Nat.reduceMul, Nat.reduceLT, Nat.reduceLeDiff, Nat.reduceEqDiff, Nat.reduceBEq, Nat.reduceBNe, Nat.reducePow, Int.reduceBEq, Int.reduceBNe, Int.reduceEq, Int.reduceLT, Int.reduceLE, Int.reduceNeg, Int.reduceToNat, Int.reduceMul, Int.reduceAdd, Int.reduceSub, Int.reducePow, Int.reduceFDiv, reduceCtorEq, reduceIte]
      refine AWP.seqA ?_
      simp (implicitDefEqProofs := false) (maxSteps := 2000000) only [go_sem, Nat.reduceAdd, Nat.reduceSub, Nat.reduceMul, Nat.reduceLT, Nat.reduceLeDiff, Nat.reduceEqDiff, Nat.reduceBEq, Nat.reduceBNe, Nat.reducePow, Int.reduceBEq, Int.reduceBNe, Int.reduceEq, Int.reduceLT, Int.reduceLE, Int.reduceNeg, Int.reduceToNat, Int.reduceMul, Int.reduceAdd, Int.reduceSub, Int.reducePow, Int.reduceFDiv, reduceCtorEq, reduceIte]
      refine AWP.seqA ?_
      simp (implicitDefEqProofs := false) (maxSteps := 2000000) only [go_sem, Nat.reduceAdd, Nat.reduceSub, Nat.reduceMul, Nat.reduceLT, Nat.reduceLeDiff, Nat.reduceEqDiff, Nat.reduceBEq, Nat.reduceBNe, Nat.reducePow, Int.reduceBEq, Int.reduceBNe, Int.reduceEq, Int.reduceLT, Int.reduceLE, Int.reduceNeg, Int.reduceToNat, Int.reduceMul, Int.reduceAdd, Int.reduceSub, Int.reducePow, Int.reduceFDiv, reduceCtorEq, reduceIte]
      refine AWP.loopI (fun i : Nat => s.l.length - i) (fun i => [junk, slV encFoot s, .pointer (some ⟨h.length, 0, none⟩), junk, junk, .pointer (some ⟨h.length + 1, 0, none⟩), outV (h.length + 2) (s.l.reverse.take i), .bool ((s.l.take i).any (meets a)), .int .i64 (i : Nat), junk, junk, junk, junk, junk, junk, junk, junk, junk, junk, junk, junk, junk, junk, junk, junk, junk, junk, junk, junk, junk, junk, junk, junk, junk, junk, junk, junk, junk, junk, junk, junk, junk, junk, junk, junk, junk, junk, junk, junk, junk, junk, junk, junk, junk, junk, junk, junk, junk, junk, junk, junk, junk, junk, junk, junk, junk, junk, junk, junk, junk])
        (fun i => h ++ [.cells (encFoot a).toArray 0 true, .cells (encFoot u).toArray 0 true, outO encFoot 2 (s.l.reverse.take i)]) (fun i => i ≤ s.l.length) 0 (Nat.zero_le _) ?_ ?_
      · refine Eases.pickN [0, 2, 1] rfl (by decide) (fun i o hi => ?_) ?_
        · match i, hi with
          | 0, hi => simp at hi; subst hi; exact ⟨_, rfl, ORen.plainCells (tree_encFoot _)⟩
          | 1, hi => simp at hi; subst hi; exact ⟨_, rfl, ORen.plainCells (tree_encFoot _)⟩
          | 2, hi => simp at hi; subst hi; exact ⟨_, rfl, outO_ren (l := []) tree_encFoot⟩
          | k + 3, hi => simp at hi
        · repeat (first | exact KeepsS.nil | refine KeepsS.junk _ ?_ | refine KeepsS.keep (by first | exact .plain _ rfl | exact (Tree.slV tree_encFoot _).ren | exact ptr_pick (k := 0) (by simp) rfl | exact ptr_pick (k := 1) (by simp) rfl) ?_)
      · intro i hi
        by_cases hlt : i < s.l.length
        · have hw1 : IntKind.i64.wrap ((i : Int) + 1) = ((i + 1 : Nat) : Int) := by rw [wrap_i64_of _ (by omega) (by omega), ofNat_succ']
          have hwA : IntKind.i64.wrap (((s.l.length : Nat) : Int) - 1) = ((s.l.length - 1 : Nat) : Int) := by rw [wrap_i64_of _ (by omega) (by omega)]; omega
          have hwB : IntKind.i64.wrap (((s.l.length - 1 : Nat) : Int) - (i : Int)) = ((s.l.length - 1 - i : Nat) : Int) := by rw [wrap_i64_of _ (by omega) (by omega)]; omega
          have hk : s.l.length - 1 - i < s.l.length := by omega
          have hrev : s.l.reverse.take (i + 1) = s.l.reverse.take i ++ [s.l[s.l.length - 1 - i]] := by
            rw [List.take_add_one, List.getElem?_eq_getElem (by simpa using hlt), List.getElem_reverse]; rfl
          have hany : (s.l.take (i + 1)).any (meets a) = ((s.l.take i).any (meets a) || meets a s.l[i]) := by
            rw [List.take_add_one, List.getElem?_eq_getElem hlt, List.any_append]; simp
          have hbl : (s.l.reverse.take i).length ≤ 100 := by simp; omega
          have hli := hone _ (List.getElem_mem hlt)
          generalize hbk : s.l.reverse.take i = back at *
          generalize hx : s.l[s.l.length - 1 - i] = x at *
          have a1 : mkApp (h ++ [.cells (encFoot a).toArray 0 true, .cells (encFoot u).toArray 0 true, outO encFoot 2 back, .cells (encFoot x).toArray 2 true]) (outV (h.length + 2) back) (some (true, 2, 48)) (some (1, (encFoot x).toArray)) = some (outV (h.length + 4) (back ++ [x]), h ++ [.cells (encFoot a).toArray 0 true, .cells (encFoot u).toArray 0 true, .dead, .cells (encFoot x).toArray 2 true, outO encFoot 2 (back ++ [x])]) := mkApp_outX (k := 2) length_encFoot ⟨by omega, by omega⟩ rfl
          simp (implicitDefEqProofs := false) (maxSteps := 2000000) only [go_sem, Nat.reduceAdd, Nat.reduceSub, Nat.reduceMul, Nat.reduceLT, Nat.reduceLeDiff, Nat.reduceEqDiff, Nat.reduceBEq, Nat.reduceBNe, Nat.reducePow, Int.reduceBEq, Int.reduceBNe, Int.reduceEq, Int.reduceLT, Int.reduceLE, Int.reduceNeg, Int.reduceToNat, Int.reduceMul, Int.reduceAdd, Int.reduceSub, Int.reducePow, Int.reduceFDiv, reduceCtorEq, reduceIte, hlt, hw1]
          refine ⟨by kernel_rfl, by kernel_rfl, ?_⟩
          refine dstep_call (meets_calls a s.l[i] _ (by omega) (by omega)) pres_refl ?_
          cases hb : (s.l.take i).any (meets a) with
          | true =>
            rw [hb, Bool.true_or] at hany
            simp (implicitDefEqProofs := false) (maxSteps := 2000000) only [go_sem, Nat.reduceAdd, Nat.reduceSub, Nat.reduceMul, Nat.reduceLT, Nat.reduceLeDiff, Nat.reduceEqDiff, Nat.reduceBEq, Nat.reduceBNe, Nat.reducePow, Int.reduceBEq, Int.reduceBNe, Int.reduceEq, Int.reduceLT, Int.reduceLE, Int.reduceNeg, Int.reduceToNat, Int.reduceMul, Int.reduceAdd, Int.reduceSub, Int.reducePow, Int.reduceFDiv, reduceCtorEq, reduceIte, hlt, hw1, hwA, hwB, hk, hx, a1]
            refine ⟨i + 1, by omega, by omega, ?_⟩
            rw [hrev, hany]
            refine Eases.pickN [0, 1, 4] rfl (by decide) (fun i o hi => ?_) ?_
            · match i, hi with
              | 0, hi => simp at hi; subst hi; exact ⟨_, rfl, ORen.plainCells (tree_encFoot _)⟩
              | 1, hi => simp at hi; subst hi; exact ⟨_, rfl, ORen.plainCells (tree_encFoot _)⟩
              | 2, hi => simp at hi; subst hi; exact ⟨_, rfl, outO_ren tree_encFoot⟩
              | k + 3, hi => simp at hi
            · repeat (first | exact KeepsS.nil | refine KeepsS.junk _ ?_ | refine KeepsS.keep (by first | exact .plain _ rfl | exact (Tree.slV tree_encFoot _).ren | exact ptr_pick (k := 0) (by simp) rfl | exact ptr_pick (k := 1) (by simp) rfl | exact outV_pickV (k := 2) (by simp) rfl) ?_)
          | false =>
            rw [hb, Bool.false_or] at hany
            simp (implicitDefEqProofs := false) (maxSteps := 2000000) only [go_sem, Nat.reduceAdd, Nat.reduceSub, Nat.reduceMul, Nat.reduceLT, Nat.reduceLeDiff, Nat.reduceEqDiff, Nat.reduceBEq, Nat.reduceBNe, Nat.reducePow, Int.reduceBEq, Int.reduceBNe, Int.reduceEq, Int.reduceLT, Int.reduceLE, Int.reduceNeg, Int.reduceToNat, Int.reduceMul, Int.reduceAdd, Int.reduceSub, Int.reducePow, Int.reduceFDiv, reduceCtorEq, reduceIte, hlt, hw1, hwA, hwB, hk, hx, a1]
            refine ⟨i + 1, by omega, by omega, ?_⟩
            rw [hrev, hany]
            refine Eases.pickN [0, 1, 4] rfl (by decide) (fun i o hi => ?_) ?_
            · match i, hi with
              | 0, hi => simp at hi; subst hi; exact ⟨_, rfl, ORen.plainCells (tree_encFoot _)⟩
              | 1, hi => simp at hi; subst hi; exact ⟨_, rfl, ORen.plainCells (tree_encFoot _)⟩
              | 2, hi => simp at hi; subst hi; exact ⟨_, rfl, outO_ren tree_encFoot⟩
              | k + 3, hi => simp at hi
            · repeat (first | exact KeepsS.nil | refine KeepsS.junk _ ?_ | refine KeepsS.keep (by first | exact .plain _ rfl | exact (Tree.slV tree_encFoot _).ren | exact ptr_pick (k := 0) (by simp) rfl | exact ptr_pick (k := 1) (by simp) rfl | exact outV_pickV (k := 2) (by simp) rfl) ?_)
        · have hie : i = s.l.length := by omega
          subst hie
          have er : s.l.reverse.take s.l.length = s.l.reverse := List.take_of_length_le (by simp)
          rw [List.take_length, er]
          simp (implicitDefEqProofs := false) (maxSteps := 2000000) only [go_sem, Nat.reduceAdd, Nat.reduceSub, Nat.reduceMul, Nat.reduceLT, Nat.reduceLeDiff, Nat.reduceEqDiff, Nat.reduceBEq, Nat.reduceBNe, Nat.reducePow, Int.reduceBEq, Int.reduceBNe, Int.reduceEq, Int.reduceLT, Int.reduceLE, Int.reduceNeg, Int.reduceToNat, Int.reduceMul, Int.reduceAdd, Int.reduceSub, Int.reducePow, Int.reduceFDiv, reduceCtorEq, reduceIte, hlt]
          have es : ∀ A B C : AObj, (h ++ [A, B, C]).set (h.length + 2) .dead = h ++ [A, B, .dead] := fun A B C => by rw [set_new]; rfl
          have hl3 : (h ++ [AObj.cells (encFoot a).toArray 0 true, .cells (encFoot u).toArray 0 true, outO encFoot 2 s.l.reverse]).length = h.length + 3 := by simp
          refine AWP.ease (FzL.ease (b := h.length + 2) (l1 := [junk, slV encFoot s, .pointer (some ⟨h.length, 0, none⟩), junk, junk, .pointer (some ⟨h.length + 1, 0, none⟩), slV encFoot (Sl.app s.l.reverse), .bool (s.l.any (meets a)), junk, junk, junk, junk, junk, junk, junk, junk, junk, junk, junk, junk, junk, junk, junk, junk, junk, junk, junk, junk, junk, junk, junk, junk, junk, junk, junk, junk, junk, junk, junk, junk, junk, junk, junk, junk, junk, junk, junk, junk, junk, junk, junk, junk, junk, junk, junk, junk, junk, junk, junk, junk, junk, junk, junk, junk, junk, junk, junk, junk, junk, junk]) ?_) ?_
          · repeat (first | exact FzL.nil | refine FzL.junk _ ?_ | refine FzL.keep (.same _) ?_ | refine FzL.keep (Rf.outV (at_new _ _ 2) (List.getElem?_set_self (by rw [hl3]; omega)) length_encFoot) ?_)
          rw [es]
          have ul : u.reads.l.length ≤ 100 ∧ u.writes.l.length ≤ 100 := by
            have := length_rise (unR s.l); have := length_rise (unW s.l)
            rw [← hu]; simp only [Sl.app]; omega
          have hme : meets a u = s.l.any (meets a) := by rw [← hu]; exact meets_un a s.l
          have q1 : ∀ H, ACalls Try.prog 17 #[slV encFoot (Sl.app s.l.reverse)] H (fun v h' => v = .agg (encFoot u).toArray ∧ h' = H) := fun H => by
            have hr1 : (unR s.l.reverse).length = (unR s.l).length := by simp only [unR, List.length_flatMap, List.map_reverse, List.sum_reverse]
            have hr2 : (unW s.l.reverse).length = (unW s.l).length := by simp only [unW, List.length_flatMap, List.map_reverse, List.sum_reverse]
            have := union_calls (Sl.app s.l.reverse) (by simp [Sl.app]; omega) (by show (unR s.l.reverse).length ≤ _; omega) (by show (unW s.l.reverse).length ≤ _; omega) H
            rw [show unR (Sl.app s.l.reverse).l = unR s.l.reverse from rfl, show unW (Sl.app s.l.reverse).l = unW s.l.reverse from rfl, unR_rev, unW_rev, hue] at this
            exact this
          have q2 : ∀ (H : AH) (b es0 : Nat), H[b]? = some (.cells (flatV encFoot [u, u]) es0 true) → ACalls Try.prog 17 #[.slice (some ⟨b, 0, none⟩) 2 2] H (fun v h' => v = .agg (encFoot u).toArray ∧ h' = H.set b .dead) := fun H b es0 hb => by
            have e1 : unR [u, u] = rise (unR s.l) ++ rise (unR s.l) := by rw [← hu]; simp [unR, Sl.app]
            have e2 : unW [u, u] = rise (unW s.l) ++ rise (unW s.l) := by rw [← hu]; simp [unW, Sl.app]
            have := length_rise (unR s.l); have := length_rise (unW s.l)
            have := union_callsB [u, u] (by simp) (by rw [e1]; simp; omega) (by rw [e2]; simp; omega) H b es0 hb
            rw [e1, e2, rise_two, rise_two, hue] at this
            exact this
          refine AWP.ofA ?_
          simp (implicitDefEqProofs := false) (maxSteps := 2000000) only [go_sem, Nat.reduceAdd, Nat.reduceSub, Nat.reduceMul, Nat.reduceLT, Nat.reduceLeDiff, Nat.reduceEqDiff, Nat.reduceBEq, Nat.reduceBNe, Nat.reducePow, Int.reduceBEq, Int.reduceBNe, Int.reduceEq, Int.reduceLT, Int.reduceLE, Int.reduceNeg, Int.reduceToNat, Int.reduceMul, Int.reduceAdd, Int.reduceSub, Int.reducePow, Int.reduceFDiv, reduceCtorEq, reduceIte]
          refine ⟨by kernel_rfl, by kernel_rfl, ?_⟩
          refine dstep_call (meets_calls a u _ (by omega) (by omega)) pres_refl ?_
          rw [hme]
          have e0 : ∀ b : Bool, (b == b) = true := by intro b; cases b <;> rfl
          simp (implicitDefEqProofs := false) (maxSteps := 2000000) only [go_sem, Nat.reduceAdd, Nat.reduceSub, Nat.reduceMul, Nat.reduceLT, Nat.reduceLeDiff, Nat.reduceEqDiff, Nat.reduceBEq, Nat.reduceBNe, Nat.reducePow, Int.reduceBEq, Int.reduceBNe, Int.reduceEq, Int.reduceLT, Int.reduceLE, Int.reduceNeg, Int.reduceToNat, Int.reduceMul, Int.reduceAdd, Int.reduceSub, Int.reducePow, Int.reduceFDiv, reduceCtorEq, reduceIte, e0]
          refine dstep_call (q1 _) pres_refl ?_
          simp (implicitDefEqProofs := false) (maxSteps := 2000000) only [go_sem, Nat.reduceAdd, Nat.reduceSub, Nat.reduceMul, Nat.reduceLT, Nat.reduceLeDiff, Nat.reduceEqDiff, Nat.reduceBEq, Nat.reduceBNe, Nat.reducePow, Int.reduceBEq, Int.reduceBNe, Int.reduceEq, Int.reduceLT, Int.reduceLE, Int.reduceNeg, Int.reduceToNat, Int.reduceMul, Int.reduceAdd, Int.reduceSub, Int.reducePow, Int.reduceFDiv, reduceCtorEq, reduceIte]
          refine dstep_call (sameFoot_calls u.reads u.writes (by omega) (by omega) _) pres_refl ?_
          simp (implicitDefEqProofs := false) (maxSteps := 2000000) only [go_sem, Nat.reduceAdd, Nat.reduceSub, Nat.reduceMul, Nat.reduceLT, Nat.reduceLeDiff, Nat.reduceEqDiff, Nat.reduceBEq, Nat.reduceBNe, Nat.reducePow, Int.reduceBEq, Int.reduceBNe, Int.reduceEq, Int.reduceLT, Int.reduceLE, Int.reduceNeg, Int.reduceToNat, Int.reduceMul, Int.reduceAdd, Int.reduceSub, Int.reducePow, Int.reduceFDiv, reduceCtorEq, reduceIte, blitF, blitF_size]
          refine dstep_call (q2 _ (h.length + 3) 2 (at_new _ _ 3)) ?_ ?_
          · rw [set_new]; exact pres_pre (by simp [Pre])
          rw [set_new]
          simp only [List.set_cons_succ, List.set_cons_zero]
          simp (implicitDefEqProofs := false) (maxSteps := 2000000) only [go_sem, Nat.reduceAdd, Nat.reduceSub, Nat.reduceMul, Nat.reduceLT, Nat.reduceLeDiff, Nat.reduceEqDiff, Nat.reduceBEq, Nat.reduceBNe, Nat.reducePow, Int.reduceBEq, Int.reduceBNe, Int.reduceEq, Int.reduceLT, Int.reduceLE, Int.reduceNeg, Int.reduceToNat, Int.reduceMul, Int.reduceAdd, Int.reduceSub, Int.reducePow, Int.reduceFDiv, reduceCtorEq, reduceIte]
          refine dstep_call (sameFoot_calls u.reads u.writes (by omega) (by omega) _) (pres_pre (by simp [Pre])) ?_
          simp (implicitDefEqProofs := false) (maxSteps := 2000000) only [go_sem, Nat.reduceAdd, Nat.reduceSub, Nat.reduceMul, Nat.reduceLT, Nat.reduceLeDiff, Nat.reduceEqDiff, Nat.reduceBEq, Nat.reduceBNe, Nat.reducePow, Int.reduceBEq, Int.reduceBNe, Int.reduceEq, Int.reduceLT, Int.reduceLE, Int.reduceNeg, Int.reduceToNat, Int.reduceMul, Int.reduceAdd, Int.reduceSub, Int.reducePow, Int.reduceFDiv, reduceCtorEq, reduceIte]
          exact apost_tmp rfl rfl ⟨rfl, rfl⟩ _ _ rfl

theorem law (h : AH) (vs : List Value) (_ : Try.prog.globals.size ≤ h.length) (_ : NoRW h) (ha : TArgs Try.prog [28, 42] vs) : ACalls Try.prog 6 vs.toArray h (fun v _ => v = .bool true) := by
  obtain ⟨v0, r0, rfl, h0, ha⟩ := ha.cons_inv
  obtain ⟨v1, r1, rfl, h1, ha⟩ := ha.cons_inv
  obtain rfl := ha.none_inv
  obtain ⟨a, rfl, _⟩ := h0.decs (enc := encFoot) (by kernel_rfl) flatFoot decsFoot
  obtain ⟨s, rfl, hok⟩ := h1.dec (by kernel_rfl) (Decs.slice Try.underlying42 flatFoot (fun p => length_encFoot p) decsFoot)
  refine (parts_law a s ?_ h).mono fun _ _ e => e.1
  have := hok.1; unfold maxLen at this; omega

set_option maxRecDepth 100000 in
theorem lifted (os : Os) (started : os.Started) (H : Type) (enc : TypeId × Value → H) :
    ReturnsInHanded {} Try.checked os 6 .any (Rows.footPartsSpec.pre6 enc Try.prog Try.f6 Rows.footPartsRow.domain false) (Rows.footPartsSpec.post enc Try.prog Try.f6 false true false false) := by
  refine returnsInHanded_of_change (C := Try.checked) own started (by kernel_rfl) Try.func6
    (ChangeSpec.witness6 (enc := enc) (C := Try.checked) false ⟨#[], #[.agg #[.slice none 0 0, .slice none 0 0], .slice none 0 0], []⟩ 8 (by kernel_rfl) (by kernel_rfl) (by kernel_rfl) (by kernel_rfl)) ?_
  intro W base args ds gs before hval0 hW hcnd _
  have hval : ∀ (j : Nat) t v, Try.f6.params[j]? = some t → args[j]? = some v → Value.okWide Try.prog W .any base t v := hval0
  have hW' := hW
  obtain ⟨p, q, hA0, hV, rfl, hfz, hnd⟩ := hW
  have hA : DataW.TrodAll enc Try.prog W 0 (fun _ => true) true Try.f6.params.toList args.toList ds p := hA0
  rw [Try.params6] at hA hval
  have hcall := law_calls (P := Try.prog) laidOut (spare := fun _ => true) (fun _ => rfl) (F := 6) (ts := [28, 42]) (r := .any) (b0 := base) (by kernel_rfl) law (fun j t v h1 h2 => hval j t v (by simpa using h1) (by simpa using h2)) hA
  refine hcall.mono fun e W' ⟨he, bel⟩ => ?_
  subst he
  have hT := trodAll_below laidOut bel [28, 42] args.toList ds p (by intro t ht; simp only [List.mem_cons, List.not_mem_nil, or_false] at ht; rcases ht with rfl | rfl <;> exact ⟨by kernel_rfl, of_decide_eq_true (by kernel_rfl)⟩) hA
  obtain ⟨v0, vs0, d0, ds0, p0, q0, hargs, rfl, rfl, h0, r0⟩ := trodAll_cons hA
  obtain ⟨v1, vs1, d1, ds1, p1, q1, rfl, rfl, rfl, h1, r1⟩ := trodAll_cons r0
  obtain ⟨rfl, rfl, rfl⟩ := trodAll_nil r1
  obtain ⟨rfl, rfl⟩ := trodVars_none hV
  exact ⟨_, rfl, _, _, _, [], _, [], hW', trodAll_mk1 (shut_bool Try.underlying4 _), hT, rfl, bel.frame _, fun h => by cases h⟩

/-- the statement -/
theorem proved : Rows.FootPartsSaid :=
  OpenClaim.holds_of_wide 6 Try.f6 rfl rfl rfl rfl rfl rfl rfl ⟨rfl, rfl, rfl, rfl, rfl⟩ rfl rfl rfl rfl rfl (by kernel_rfl) Try.func6 (by kernel_rfl)
    (of_decide_eq_true (by kernel_rfl)) (by unfold Func.isWrapper; first | (rw [if_pos (by decide +kernel)]; kernel_rfl) | (rw [if_neg (by decide +kernel)]; exact ⟨rfl, rfl⟩))
    (fun os started H enc _ => lifted os started H enc)

#print axioms proved
end Go.Proofs.Ytihdilnanhjedaa.FootParts
