/- The law FootTouches: what a foot touches, and which feet meet; for every input, no condition. -/
import Derived.Test.YtaldmhpgfhamcaaFoot4
import Derived.Test.YtaldmhpgfhamcaaRows
import Derived.Test.YtaldmhpgfhamcaaAm23
set_option linter.unusedSimpArgs false
set_option linter.unusedVariables false
namespace Go.Proofs.Ytaldmhpgfhamcaa.FootTouches
open Go Go.Am
open Go.ChangeShapes Go.WideShapes Go.ChangeAt Go.RowKit

theorem own : ownKnob Try.prog.godebug = none := by kernel_rfl
theorem laidOut : laidOutB Try.prog = true := by kernel_rfl

theorem flatF2 (a b c d : Sl Place) : #[slV encPlace a, slV encPlace b, slV encPlace c, slV encPlace d] = flatV encFoot [⟨a, b⟩, ⟨c, d⟩] := rfl
theorem heavy_callsB (l : List Foot) (hs : l.length < 2 ^ 62) (h : AH) (b es0 : Nat) (hb : h[b]? = some (.cells (flatV encFoot l) es0 true)) :
    ACalls Try.prog 5 #[.slice (some ⟨b, 0, none⟩) l.length l.length] h (fun v h' => v = .bool (decide (100 < l.length + total l)) ∧ h' = h.set b .dead) := by
  refine ACalls.freeze (args1 := #[slV encFoot (Sl.full l)]) HFz.set rfl (fun i => ?_) (heavy_calls (Sl.full l) hs (h.set b .dead))
  cases i with
  | zero => exact Rf.full hb (List.getElem?_set_self (List.getElem?_eq_some_iff.1 hb).1) (Nat.le_refl _)
  | succ i => simp; exact .same _

theorem hits_nil (s : List Place) : hits [] s = false := by simp [hits]
theorem hits_empty (L : List Place) : hits L [] = false := rfl

theorem blitF (f g : Foot) {z : Value} : blit (blit #[z, z, z, z] 0 (encFoot f)) 2 (encFoot g) = #[slV encPlace f.reads, slV encPlace f.writes, slV encPlace g.reads, slV encPlace g.writes] := rfl
theorem blitF_size (f : Foot) {z : Value} : (blit #[z, z, z, z] 0 (encFoot f)).size = 4 := rfl

set_option maxRecDepth 10000 in
set_option maxHeartbeats 4000000 in
theorem touches_law (f g : Foot) (h : AH) :
    ACalls Try.prog 3 #[.agg (encFoot f).toArray, .agg (encFoot g).toArray] h (fun v h' => v = .bool true ∧ h' = h) := by
  refine ACalls.of_ay Try.func3 rfl Try.ntmps3 ⟨_, _, rfl, rfl⟩ ?_; simp only [List.length_cons, List.length_nil, Nat.reduceAdd, Nat.reduceSub, List.replicate_succ, List.replicate_zero, List.cons_append, List.nil_append]
  simp (implicitDefEqProofs := false) only [go_sem, Nat.reduceAdd, Nat.reduceSub, Nat.reduceMul, Nat.reduceLT, Nat.reduceLeDiff, Nat.reduceEqDiff, Nat.reduceBEq, Nat.reduceBNe, Nat.reducePow, Int.reduceBEq, Int.reduceBNe, Int.reduceEq, Int.reduceLT, Int.reduceLE, Int.reduceNeg, Int.reduceToNat, Int.reduceMul, Int.reduceAdd, Int.reduceSub, Int.reducePow, Int.reduceFDiv, reduceCtorEq, reduceIte, length_encFoot, blitF, blitF_size]
  refine astep_call (heavy_callsB [f, g] (by simp) _ (h.length + 2) 2 ?_) ?_
  · exact at_new _ _ _
  simp only [set_new, List.set_cons_succ, List.set_cons_zero]
  cases hh : decide (100 < [f, g].length + total [f, g]) with
  | true =>
    simp (implicitDefEqProofs := false) only [go_sem, Nat.reduceAdd, Nat.reduceSub, Nat.reduceMul, Nat.reduceLT, Nat.reduceLeDiff, Nat.reduceEqDiff, Nat.reduceBEq, Nat.reduceBNe, Nat.reducePow, Int.reduceBEq, Int.reduceBNe, Int.reduceEq, Int.reduceLT, Int.reduceLE, Int.reduceNeg, Int.reduceToNat, Int.reduceMul, Int.reduceAdd, Int.reduceSub, Int.reducePow, Int.reduceFDiv, reduceCtorEq, reduceIte]
    refine astep_call (known_calls _) ?_
    simp (implicitDefEqProofs := false) only [go_sem, Nat.reduceAdd, Nat.reduceSub, Nat.reduceMul, Nat.reduceLT, Nat.reduceLeDiff, Nat.reduceEqDiff, Nat.reduceBEq, Nat.reduceBNe, Nat.reducePow, Int.reduceBEq, Int.reduceBNe, Int.reduceEq, Int.reduceLT, Int.reduceLE, Int.reduceNeg, Int.reduceToNat, Int.reduceMul, Int.reduceAdd, Int.reduceSub, Int.reducePow, Int.reduceFDiv, reduceCtorEq, reduceIte]
    exact apost_tmp rfl rfl ⟨rfl, rfl⟩ _ _ rfl
  | false =>
    have hw : weight f + weight g ≤ 98 := by simp [total] at hh; omega
    have hf : f.reads.l.length ≤ 100 ∧ f.writes.l.length ≤ 100 ∧ g.reads.l.length ≤ 100 ∧ g.writes.l.length ≤ 100 := by unfold weight at hw; omega
    simp (implicitDefEqProofs := false) only [go_sem, Nat.reduceAdd, Nat.reduceSub, Nat.reduceMul, Nat.reduceLT, Nat.reduceLeDiff, Nat.reduceEqDiff, Nat.reduceBEq, Nat.reduceBNe, Nat.reducePow, Int.reduceBEq, Int.reduceBNe, Int.reduceEq, Int.reduceLT, Int.reduceLE, Int.reduceNeg, Int.reduceToNat, Int.reduceMul, Int.reduceAdd, Int.reduceSub, Int.reducePow, Int.reduceFDiv, reduceCtorEq, reduceIte]
    refine astep_call (known_calls _) ?_
    simp (implicitDefEqProofs := false) only [go_sem, Nat.reduceAdd, Nat.reduceSub, Nat.reduceMul, Nat.reduceLT, Nat.reduceLeDiff, Nat.reduceEqDiff, Nat.reduceBEq, Nat.reduceBNe, Nat.reducePow, Int.reduceBEq, Int.reduceBNe, Int.reduceEq, Int.reduceLT, Int.reduceLE, Int.reduceNeg, Int.reduceToNat, Int.reduceMul, Int.reduceAdd, Int.reduceSub, Int.reducePow, Int.reduceFDiv, reduceCtorEq, reduceIte, blit_list]
    refine ⟨by kernel_rfl, by kernel_rfl, ?_⟩
    refine dstep_call (touches_calls g f.writes _ (by omega) (by omega)) pres_refl ?_
    simp (implicitDefEqProofs := false) only [go_sem, Nat.reduceAdd, Nat.reduceSub, Nat.reduceMul, Nat.reduceLT, Nat.reduceLeDiff, Nat.reduceEqDiff, Nat.reduceBEq, Nat.reduceBNe, Nat.reducePow, Int.reduceBEq, Int.reduceBNe, Int.reduceEq, Int.reduceLT, Int.reduceLE, Int.reduceNeg, Int.reduceToNat, Int.reduceMul, Int.reduceAdd, Int.reduceSub, Int.reducePow, Int.reduceFDiv, reduceCtorEq, reduceIte]
    refine dstep_call (meets_calls ⟨Sl.none, f.writes⟩ g _ (by simp [Sl.none]; omega) (by omega)) pres_refl ?_
    have e1 : meets ⟨Sl.none, f.writes⟩ g = hits (g.reads.l ++ g.writes.l) f.writes.l := by simp [meets, Sl.none, hits_nil]
    rw [e1]
    have e0 : ∀ b : Bool, (b == b) = true := by intro b; cases b <;> rfl
    simp (implicitDefEqProofs := false) only [go_sem, Nat.reduceAdd, Nat.reduceSub, Nat.reduceMul, Nat.reduceLT, Nat.reduceLeDiff, Nat.reduceEqDiff, Nat.reduceBEq, Nat.reduceBNe, Nat.reducePow, Int.reduceBEq, Int.reduceBNe, Int.reduceEq, Int.reduceLT, Int.reduceLE, Int.reduceNeg, Int.reduceToNat, Int.reduceMul, Int.reduceAdd, Int.reduceSub, Int.reducePow, Int.reduceFDiv, reduceCtorEq, reduceIte, e0]
    refine dstep_call (meets_calls ⟨f.reads, Sl.none⟩ ⟨g.reads, Sl.none⟩ _ (by simp [Sl.none]; omega) (by simp [Sl.none]; omega)) pres_refl ?_
    have e2 : meets ⟨f.reads, Sl.none⟩ ⟨g.reads, Sl.none⟩ = false := by simp [meets, Sl.none, hits_empty]
    rw [e2]
    simp (implicitDefEqProofs := false) only [go_sem, Nat.reduceAdd, Nat.reduceSub, Nat.reduceMul, Nat.reduceLT, Nat.reduceLeDiff, Nat.reduceEqDiff, Nat.reduceBEq, Nat.reduceBNe, Nat.reducePow, Int.reduceBEq, Int.reduceBNe, Int.reduceEq, Int.reduceLT, Int.reduceLE, Int.reduceNeg, Int.reduceToNat, Int.reduceMul, Int.reduceAdd, Int.reduceSub, Int.reducePow, Int.reduceFDiv, reduceCtorEq, reduceIte]
    refine dstep_call (meets_calls f g _ (by omega) (by omega)) pres_refl ?_
    simp (implicitDefEqProofs := false) only [go_sem, Nat.reduceAdd, Nat.reduceSub, Nat.reduceMul, Nat.reduceLT, Nat.reduceLeDiff, Nat.reduceEqDiff, Nat.reduceBEq, Nat.reduceBNe, Nat.reducePow, Int.reduceBEq, Int.reduceBNe, Int.reduceEq, Int.reduceLT, Int.reduceLE, Int.reduceNeg, Int.reduceToNat, Int.reduceMul, Int.reduceAdd, Int.reduceSub, Int.reducePow, Int.reduceFDiv, reduceCtorEq, reduceIte]
    refine dstep_call (meets_calls ⟨Sl.none, f.writes⟩ g _ (by simp [Sl.none]; omega) (by omega)) pres_refl ?_
    rw [e1]
    cases hx : hits (g.reads.l ++ g.writes.l) f.writes.l with
    | true =>
      have e3 : meets f g = true := by rw [meets, hx]; rfl
      rw [e3]
      simp (implicitDefEqProofs := false) only [go_sem, Nat.reduceAdd, Nat.reduceSub, Nat.reduceMul, Nat.reduceLT, Nat.reduceLeDiff, Nat.reduceEqDiff, Nat.reduceBEq, Nat.reduceBNe, Nat.reducePow, Int.reduceBEq, Int.reduceBNe, Int.reduceEq, Int.reduceLT, Int.reduceLE, Int.reduceNeg, Int.reduceToNat, Int.reduceMul, Int.reduceAdd, Int.reduceSub, Int.reducePow, Int.reduceFDiv, reduceCtorEq, reduceIte]
      exact apost_tmp rfl rfl ⟨rfl, rfl⟩ _ _ rfl
    | false =>
      simp (implicitDefEqProofs := false) only [go_sem, Nat.reduceAdd, Nat.reduceSub, Nat.reduceMul, Nat.reduceLT, Nat.reduceLeDiff, Nat.reduceEqDiff, Nat.reduceBEq, Nat.reduceBNe, Nat.reducePow, Int.reduceBEq, Int.reduceBNe, Int.reduceEq, Int.reduceLT, Int.reduceLE, Int.reduceNeg, Int.reduceToNat, Int.reduceMul, Int.reduceAdd, Int.reduceSub, Int.reducePow, Int.reduceFDiv, reduceCtorEq, reduceIte]
      refine dstep_call (meets_calls ⟨f.reads, Sl.none⟩ g _ (by simp [Sl.none]; omega) (by omega)) pres_refl ?_
      have e3 : meets f g = meets ⟨f.reads, Sl.none⟩ g := by rw [meets, hx, meets]; simp [Sl.none, hits_empty]
      rw [e3]
      simp (implicitDefEqProofs := false) only [go_sem, Nat.reduceAdd, Nat.reduceSub, Nat.reduceMul, Nat.reduceLT, Nat.reduceLeDiff, Nat.reduceEqDiff, Nat.reduceBEq, Nat.reduceBNe, Nat.reducePow, Int.reduceBEq, Int.reduceBNe, Int.reduceEq, Int.reduceLT, Int.reduceLE, Int.reduceNeg, Int.reduceToNat, Int.reduceMul, Int.reduceAdd, Int.reduceSub, Int.reducePow, Int.reduceFDiv, reduceCtorEq, reduceIte, e0]
      exact apost_tmp rfl rfl ⟨rfl, rfl⟩ _ _ rfl

theorem law (h : AH) (vs : List Value) (_ : Try.prog.globals.size ≤ h.length) (_ : NoRW h) (ha : TArgs Try.prog [24, 24] vs) : ACalls Try.prog 3 vs.toArray h (fun v _ => v = .bool true) := by
  obtain ⟨v0, r0, rfl, h0, ha⟩ := ha.cons_inv
  obtain ⟨v1, r1, rfl, h1, ha⟩ := ha.cons_inv
  obtain rfl := ha.none_inv
  obtain ⟨f, rfl, _⟩ := h0.decs (by kernel_rfl) flatFoot decsFoot
  obtain ⟨g, rfl, _⟩ := h1.decs (by kernel_rfl) flatFoot decsFoot
  exact (touches_law f g h).mono fun _ _ e => e.1

set_option maxRecDepth 100000 in
theorem lifted (os : Os) (started : os.Started) (H : Type) (enc : TypeId × Value → H) :
    ReturnsInHanded {} Try.checked os 3 .any (Rows.footTouchesSpec.pre6 enc Try.prog Try.f3 Rows.footTouchesRow.domain false) (Rows.footTouchesSpec.post enc Try.prog Try.f3 false true false false) := by
  refine returnsInHanded_of_change (C := Try.checked) own started (by kernel_rfl) Try.func3
    (ChangeSpec.witness6 (enc := enc) (C := Try.checked) false ⟨#[], #[.agg #[.slice none 0 0, .slice none 0 0], .agg #[.slice none 0 0, .slice none 0 0]], []⟩ 8 (by kernel_rfl) (by kernel_rfl) (by kernel_rfl) (by kernel_rfl)) ?_
  intro W base args ds gs before hval0 hW hcnd _
  have hval : ∀ (j : Nat) t v, Try.f3.params[j]? = some t → args[j]? = some v → Value.okWide Try.prog W .any base t v := hval0
  have hW' := hW
  obtain ⟨p, q, hA0, hV, rfl, hfz, hnd⟩ := hW
  have hA : DataW.TrodAll enc Try.prog W 0 (fun _ => true) true Try.f3.params.toList args.toList ds p := hA0
  rw [Try.params3] at hA hval
  have hcall := law_calls (P := Try.prog) laidOut (spare := fun _ => true) (fun _ => rfl) (F := 3) (ts := [24, 24]) (r := .any) (b0 := base) (by kernel_rfl) law (fun j t v h1 h2 => hval j t v (by simpa using h1) (by simpa using h2)) hA
  refine hcall.mono fun e W' ⟨he, bel⟩ => ?_
  subst he
  have hT := trodAll_below laidOut bel [24, 24] args.toList ds p (by intro t ht; simp only [List.mem_cons, List.not_mem_nil, or_false] at ht; rcases ht with rfl | rfl <;> exact ⟨by kernel_rfl, of_decide_eq_true (by kernel_rfl)⟩) hA
  obtain ⟨v0, vs0, d0, ds0, p0, q0, hargs, rfl, rfl, h0, r0⟩ := trodAll_cons hA
  obtain ⟨v1, vs1, d1, ds1, p1, q1, rfl, rfl, rfl, h1, r1⟩ := trodAll_cons r0
  obtain ⟨rfl, rfl, rfl⟩ := trodAll_nil r1
  obtain ⟨rfl, rfl⟩ := trodVars_none hV
  exact ⟨_, rfl, _, _, _, [], _, [], hW', trodAll_mk1 (shut_bool Try.underlying4 _), hT, rfl, bel.frame _, fun h => by cases h⟩

/-- the statement -/
theorem proved : Rows.FootTouchesSaid :=
  OpenClaim.holds_of_wide 3 Try.f3 rfl rfl rfl rfl rfl rfl rfl ⟨rfl, rfl, rfl, rfl, rfl⟩ rfl rfl rfl rfl rfl (by kernel_rfl) Try.func3 (by kernel_rfl)
    (of_decide_eq_true (by kernel_rfl)) (by unfold Func.isWrapper; first | (rw [if_pos (by decide +kernel)]; kernel_rfl) | (rw [if_neg (by decide +kernel)]; exact ⟨rfl, rfl⟩))
    (fun os started H enc _ => lifted os started H enc)

#print axioms proved
end Go.Proofs.Ytaldmhpgfhamcaa.FootTouches
