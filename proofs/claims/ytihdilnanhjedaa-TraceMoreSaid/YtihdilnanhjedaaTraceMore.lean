/- The law TraceMore: what fewer events have read and written, more have, too; for every input, no condition. -/
import Derived.Test.YtihdilnanhjedaaStep2
import Derived.Test.YtihdilnanhjedaaEvs
import Derived.Test.YtihdilnanhjedaaWithin
import Derived.Test.YtihdilnanhjedaaTrcK
import Derived.Test.YtihdilnanhjedaaBelC
import Derived.Test.YtihdilnanhjedaaRows
import Derived.Test.YtihdilnanhjedaaAm58x
set_option linter.unusedSimpArgs false
set_option linter.unusedVariables false
set_option linter.constructorNameAsVariable false
namespace Go.Proofs.Ytihdilnanhjedaa.TraceMore
open Go Go.Am
open Go.ChangeShapes Go.WideShapes Go.ChangeAt Go.RowKit

theorem own : ownKnob Try.prog.godebug = none := by kernel_rfl
theorem laidOut : laidOutB Try.prog = true := by kernel_rfl
theorem flatA : flat Try.prog 8 33 = some (List.replicate 20 5) := by kernel_rfl
theorem flatW : flat Try.prog 8 36 = some (List.replicate 4 34) := by kernel_rfl

theorem turn_n {k : Int} {n : Nat} (hk : (Lit.int .i64 k).wf = true) (hn : n ≤ 1000) : ∃ m : Nat, m ≤ n ∧ (if (0 : Int) > k then 0 else k).tmod (((n + 1 : Nat) : Int)) = ((m : Nat) : Int) := by
  have h0 : (0 : Int) ≤ (if (0 : Int) > k then 0 else k) := by split <;> omega
  obtain ⟨q, hq⟩ := Int.eq_ofNat_of_zero_le h0
  refine ⟨q % (n + 1), Nat.lt_succ_iff.1 (Nat.mod_lt q (Nat.succ_pos n)), ?_⟩
  rw [hq]; rfl
theorem pick_congr {p q : Nat → Bool} : ∀ {n : Nat}, (∀ i, i < n → p i = q i) → pickI n p = pickI n q
  | 0, _ => rfl
  | n + 1, h => by
    have ih := pick_congr (n := n) fun i hi => h i (by omega)
    cases hp : p n with
    | true => rw [pickI_yes hp, pickI_yes (by rw [← h n (by omega)]; exact hp), ih]
    | false => rw [pickI_no hp, pickI_no (by rw [← h n (by omega)]; exact hp), ih]
theorem pick_le {p : Nat → Bool} {m n : Nat} (h : m ≤ n) : (pickI m p).length ≤ (pickI n p).length := by
  induction n with
  | zero => rw [Nat.le_zero.1 h]; exact Nat.le_refl _
  | succ n ih =>
    by_cases he : m = n + 1
    · subst he; exact Nat.le_refl _
    · refine Nat.le_trans (ih (by omega)) ?_
      cases hp : p n with
      | true => rw [pickI_yes hp]; simp
      | false => rw [pickI_no hp]; exact Nat.le_refl _
theorem starved_le (l : List Ev) (m : Nat) : (pickI (l.take m).length (starvedP (l.take m))).length ≤ (pickI l.length (starvedP l)).length := by
  have e : pickI (l.take m).length (starvedP (l.take m)) = pickI (l.take m).length (starvedP l) := pick_congr fun i hi => by
    unfold starvedP
    rw [List.getElem?_take_of_lt (by simp at hi; omega)]
  rw [e]
  exact pick_le (by simp; omega)
theorem bel_mono {l : List Ev} {m : Nat} {a : Addr20} {w : Word4} (h : belB (l.take m) a w = true) : belB l a w = true := by
  unfold belB at *
  rw [Bool.or_eq_true] at *
  refine h.imp_right fun h => ?_
  rw [List.any_eq_true] at *
  obtain ⟨x, hx, h⟩ := h
  exact ⟨x, List.mem_of_mem_take hx, h⟩
theorem sub_R (l : List Ev) (m : Nat) : (rise (stR (l.take m))).Sublist (rise (stR l)) := sub_of_mem (rises_rise _) (rises_rise _) fun x hx => by
  rw [mem_rise] at *
  obtain ⟨e, he, h⟩ := List.mem_flatMap.1 hx
  exact List.mem_flatMap.2 ⟨e, List.mem_of_mem_take he, h⟩
theorem sub_W (l : List Ev) (m : Nat) : (rise (stW (l.take m))).Sublist (rise (stW l)) := sub_of_mem (rises_rise _) (rises_rise _) fun x hx => by
  rw [mem_rise] at *
  obtain ⟨e, he, h⟩ := List.mem_flatMap.1 hx
  exact List.mem_flatMap.2 ⟨e, List.mem_of_mem_take he, h⟩

set_option maxRecDepth 10000 in
set_option maxHeartbeats 8000000 in
theorem more_law (s : Sl Ev) (k : Int) (hk : (Lit.int .i64 k).wf = true) (a : Addr20) (w : Word4) (hs : s.l.length < 2 ^ 63) (hd : ∀ e ∈ s.l, e.data.l.length < 2 ^ 63) (h : AH) :
    ACalls Try.prog 5 #[slV encEv s, .int .i64 k, .agg (encAddr a).toArray, .agg (encWord w).toArray] h (fun v h' => v = .bool true ∧ h' = h) := by
  refine ACalls.of_ay Try.func5 rfl Try.ntmps5 ⟨_, _, rfl, rfl⟩ ?_; simp only [List.length_cons, List.length_nil, Nat.reduceAdd, Nat.reduceSub, List.replicate_succ, List.replicate_zero, List.cons_append, List.nil_append]
  simp (implicitDefEqProofs := false) (maxSteps := 2000000) only [go_sem, Nat.reduceAdd, Nat.reduceSub, Nat.reduceMul, Nat.reduceLT, Nat.reduceLeDiff, Nat.reduceEqDiff, Nat.reduceBEq, Nat.reduceBNe, Nat.reducePow, Int.reduceBEq, Int.reduceBNe, Int.reduceEq, Int.reduceLT, Int.reduceLE, Int.reduceNeg, Int.reduceToNat, Int.reduceMul, Int.reduceAdd, Int.reduceSub, Int.reducePow, Int.reduceFDiv, reduceCtorEq, reduceIte, length_encAddr, length_encWord]
  refine astep_calls (events_calls s hs hd _) ?_
  intro v h1 hR
  obtain ⟨n, rfl, hn, hiff, rfl⟩ := hR
  by_cases hle : n ≤ 500
  · have hle' : ¬ (500 : Int) < ((n : Nat) : Int) := by omega
    have hlen : s.l.length ≤ 500 := Nat.le_trans (events_len s.l) (hiff.1 hle)
    obtain ⟨m, hm, hmk⟩ := turn_n (n := s.l.length) hk (by omega)
    have hw : IntKind.i64.wrap ((s.l.length : Int) + 1) = ((s.l.length + 1 : Nat) : Int) := by rw [wrap_i64_of _ (by omega) (by omega), ofNat_succ']
    have hnz : ((s.l.length + 1 : Nat) : Int) ≠ 0 := by omega
    simp (implicitDefEqProofs := false) (maxSteps := 2000000) only [go_sem, Nat.reduceAdd, Nat.reduceSub, Nat.reduceMul, Nat.reduceLT, Nat.reduceLeDiff, Nat.reduceEqDiff, Nat.reduceBEq, Nat.reduceBNe, Nat.reducePow, Int.reduceBEq, Int.reduceBNe, Int.reduceEq, Int.reduceLT, Int.reduceLE, Int.reduceNeg, Int.reduceToNat, Int.reduceMul, Int.reduceAdd, Int.reduceSub, Int.reducePow, Int.reduceFDiv, reduceCtorEq, reduceIte, hle']
    obtain ⟨p, hp⟩ : ∃ p, p = s.piece 0 m := ⟨_, rfl⟩
    have hs2 : ∀ H, aslice Try.prog H 22 (slV encEv s) none (some (.int .i64 ((m : Nat) : Int))) = some (slV encEv p) := by
      intro H; rw [aslice_slV Try.slc22 length_encEv, hp]; simp [abounds, abound, hm]
    have l2 : p.l = s.l.take m := by rw [hp]; simp [Sl.piece]
    have n2 : p.l.length ≤ 500 := by rw [l2]; simp; omega
    refine astep_call (known_calls _) ?_
    simp (implicitDefEqProofs := false) (maxSteps := 2000000) only [go_sem, Nat.reduceAdd, Nat.reduceSub, Nat.reduceMul, Nat.reduceLT, Nat.reduceLeDiff, Nat.reduceEqDiff, Nat.reduceBEq, Nat.reduceBNe, Nat.reducePow, Int.reduceBEq, Int.reduceBNe, Int.reduceEq, Int.reduceLT, Int.reduceLE, Int.reduceNeg, Int.reduceToNat, Int.reduceMul, Int.reduceAdd, Int.reduceSub, Int.reducePow, Int.reduceFDiv, reduceCtorEq, reduceIte, hw, abin_rem hnz, hmk, hs2]
    refine astep_call (steps_calls p (by omega) _) ?_
    simp (implicitDefEqProofs := false) (maxSteps := 2000000) only [go_sem, Nat.reduceAdd, Nat.reduceSub, Nat.reduceMul, Nat.reduceLT, Nat.reduceLeDiff, Nat.reduceEqDiff, Nat.reduceBEq, Nat.reduceBNe, Nat.reducePow, Int.reduceBEq, Int.reduceBNe, Int.reduceEq, Int.reduceLT, Int.reduceLE, Int.reduceNeg, Int.reduceToNat, Int.reduceMul, Int.reduceAdd, Int.reduceSub, Int.reducePow, Int.reduceFDiv, reduceCtorEq, reduceIte]
    refine astep_call (steps_calls s (by omega) _) ?_
    simp (implicitDefEqProofs := false) (maxSteps := 2000000) only [go_sem, Nat.reduceAdd, Nat.reduceSub, Nat.reduceMul, Nat.reduceLT, Nat.reduceLeDiff, Nat.reduceEqDiff, Nat.reduceBEq, Nat.reduceBNe, Nat.reducePow, Int.reduceBEq, Int.reduceBNe, Int.reduceEq, Int.reduceLT, Int.reduceLE, Int.reduceNeg, Int.reduceToNat, Int.reduceMul, Int.reduceAdd, Int.reduceSub, Int.reducePow, Int.reduceFDiv, reduceCtorEq, reduceIte, hs2]
    refine ⟨by kernel_rfl, by kernel_rfl, ?_⟩
    refine dstep_call (belongs_calls p (by omega) a w _) pres_refl ?_
    simp (implicitDefEqProofs := false) (maxSteps := 2000000) only [go_sem, Nat.reduceAdd, Nat.reduceSub, Nat.reduceMul, Nat.reduceLT, Nat.reduceLeDiff, Nat.reduceEqDiff, Nat.reduceBEq, Nat.reduceBNe, Nat.reducePow, Int.reduceBEq, Int.reduceBNe, Int.reduceEq, Int.reduceLT, Int.reduceLE, Int.reduceNeg, Int.reduceToNat, Int.reduceMul, Int.reduceAdd, Int.reduceSub, Int.reducePow, Int.reduceFDiv, reduceCtorEq, reduceIte]
    have lR := len_stR s.l
    have lW := len_stW s.l
    have lR' := length_rise (stR s.l)
    have lW' := length_rise (stW s.l)
    have kR := len_stR p.l
    have kW := len_stW p.l
    have kR' := length_rise (stR p.l)
    have kW' := length_rise (stW p.l)
    have u1 : (rise (stR p.l)).Sublist (rise (stR s.l)) := by rw [l2]; exact sub_R _ _
    have u2 : (rise (stW p.l)).Sublist (rise (stW s.l)) := by rw [l2]; exact sub_W _ _
    refine astep_call (within_calls _ _ (by simp [Sl.app]; omega) (by simp [Sl.app]; omega) u1 _) ?_
    simp (implicitDefEqProofs := false) (maxSteps := 2000000) only [go_sem, Nat.reduceAdd, Nat.reduceSub, Nat.reduceMul, Nat.reduceLT, Nat.reduceLeDiff, Nat.reduceEqDiff, Nat.reduceBEq, Nat.reduceBNe, Nat.reducePow, Int.reduceBEq, Int.reduceBNe, Int.reduceEq, Int.reduceLT, Int.reduceLE, Int.reduceNeg, Int.reduceToNat, Int.reduceMul, Int.reduceAdd, Int.reduceSub, Int.reducePow, Int.reduceFDiv, reduceCtorEq, reduceIte]
    refine astep_call (within_calls _ _ (by simp [Sl.app]; omega) (by simp [Sl.app]; omega) u2 _) ?_
    have u3 : (((pickI p.l.length (starvedP p.l)).length : Nat) : Int) ≤ (((pickI s.l.length (starvedP s.l)).length : Nat) : Int) := by rw [l2]; exact Int.ofNat_le.2 (starved_le _ _)
    cases hb : belB p.l a w with
    | false =>
      simp (implicitDefEqProofs := false) (maxSteps := 2000000) only [go_sem, Nat.reduceAdd, Nat.reduceSub, Nat.reduceMul, Nat.reduceLT, Nat.reduceLeDiff, Nat.reduceEqDiff, Nat.reduceBEq, Nat.reduceBNe, Nat.reducePow, Int.reduceBEq, Int.reduceBNe, Int.reduceEq, Int.reduceLT, Int.reduceLE, Int.reduceNeg, Int.reduceToNat, Int.reduceMul, Int.reduceAdd, Int.reduceSub, Int.reducePow, Int.reduceFDiv, reduceCtorEq, reduceIte, hs2]
      refine astep_call (starved_calls p (by omega) _) ?_
      simp (implicitDefEqProofs := false) (maxSteps := 2000000) only [go_sem, Nat.reduceAdd, Nat.reduceSub, Nat.reduceMul, Nat.reduceLT, Nat.reduceLeDiff, Nat.reduceEqDiff, Nat.reduceBEq, Nat.reduceBNe, Nat.reducePow, Int.reduceBEq, Int.reduceBNe, Int.reduceEq, Int.reduceLT, Int.reduceLE, Int.reduceNeg, Int.reduceToNat, Int.reduceMul, Int.reduceAdd, Int.reduceSub, Int.reducePow, Int.reduceFDiv, reduceCtorEq, reduceIte]
      refine astep_call (starved_calls s (by omega) _) ?_
      simp (implicitDefEqProofs := false) (maxSteps := 2000000) only [go_sem, Nat.reduceAdd, Nat.reduceSub, Nat.reduceMul, Nat.reduceLT, Nat.reduceLeDiff, Nat.reduceEqDiff, Nat.reduceBEq, Nat.reduceBNe, Nat.reducePow, Int.reduceBEq, Int.reduceBNe, Int.reduceEq, Int.reduceLT, Int.reduceLE, Int.reduceNeg, Int.reduceToNat, Int.reduceMul, Int.reduceAdd, Int.reduceSub, Int.reducePow, Int.reduceFDiv, reduceCtorEq, reduceIte, u3]
      exact apost_tmp rfl rfl ⟨rfl, rfl⟩ _ _ rfl
    | true =>
      rw [l2] at hb
      have hb2 := bel_mono hb
      simp (implicitDefEqProofs := false) (maxSteps := 2000000) only [go_sem, Nat.reduceAdd, Nat.reduceSub, Nat.reduceMul, Nat.reduceLT, Nat.reduceLeDiff, Nat.reduceEqDiff, Nat.reduceBEq, Nat.reduceBNe, Nat.reducePow, Int.reduceBEq, Int.reduceBNe, Int.reduceEq, Int.reduceLT, Int.reduceLE, Int.reduceNeg, Int.reduceToNat, Int.reduceMul, Int.reduceAdd, Int.reduceSub, Int.reducePow, Int.reduceFDiv, reduceCtorEq, reduceIte, hs2]
      refine astep_call (belongs_calls s (by omega) a w _) ?_
      simp (implicitDefEqProofs := false) (maxSteps := 2000000) only [go_sem, Nat.reduceAdd, Nat.reduceSub, Nat.reduceMul, Nat.reduceLT, Nat.reduceLeDiff, Nat.reduceEqDiff, Nat.reduceBEq, Nat.reduceBNe, Nat.reducePow, Int.reduceBEq, Int.reduceBNe, Int.reduceEq, Int.reduceLT, Int.reduceLE, Int.reduceNeg, Int.reduceToNat, Int.reduceMul, Int.reduceAdd, Int.reduceSub, Int.reducePow, Int.reduceFDiv, reduceCtorEq, reduceIte, hb2, hs2]
      refine astep_call (starved_calls p (by omega) _) ?_
      simp (implicitDefEqProofs := false) (maxSteps := 2000000) only [go_sem, Nat.reduceAdd, Nat.reduceSub, Nat.reduceMul, Nat.reduceLT, Nat.reduceLeDiff, Nat.reduceEqDiff, Nat.reduceBEq, Nat.reduceBNe, Nat.reducePow, Int.reduceBEq, Int.reduceBNe, Int.reduceEq, Int.reduceLT, Int.reduceLE, Int.reduceNeg, Int.reduceToNat, Int.reduceMul, Int.reduceAdd, Int.reduceSub, Int.reducePow, Int.reduceFDiv, reduceCtorEq, reduceIte]
      refine astep_call (starved_calls s (by omega) _) ?_
      simp (implicitDefEqProofs := false) (maxSteps := 2000000) only [go_sem, Nat.reduceAdd, Nat.reduceSub, Nat.reduceMul, Nat.reduceLT, Nat.reduceLeDiff, Nat.reduceEqDiff, Nat.reduceBEq, Nat.reduceBNe, Nat.reducePow, Int.reduceBEq, Int.reduceBNe, Int.reduceEq, Int.reduceLT, Int.reduceLE, Int.reduceNeg, Int.reduceToNat, Int.reduceMul, Int.reduceAdd, Int.reduceSub, Int.reducePow, Int.reduceFDiv, reduceCtorEq, reduceIte, u3]
      exact apost_tmp rfl rfl ⟨rfl, rfl⟩ _ _ rfl
  · have hle' : (500 : Int) < ((n : Nat) : Int) := by omega
    simp (implicitDefEqProofs := false) (maxSteps := 2000000) only [go_sem, Nat.reduceAdd, Nat.reduceSub, Nat.reduceMul, Nat.reduceLT, Nat.reduceLeDiff, Nat.reduceEqDiff, Nat.reduceBEq, Nat.reduceBNe, Nat.reducePow, Int.reduceBEq, Int.reduceBNe, Int.reduceEq, Int.reduceLT, Int.reduceLE, Int.reduceNeg, Int.reduceToNat, Int.reduceMul, Int.reduceAdd, Int.reduceSub, Int.reducePow, Int.reduceFDiv, reduceCtorEq, reduceIte, hle']
    refine astep_call (known_calls _) ?_
    simp (implicitDefEqProofs := false) (maxSteps := 2000000) only [go_sem, Nat.reduceAdd, Nat.reduceSub, Nat.reduceMul, Nat.reduceLT, Nat.reduceLeDiff, Nat.reduceEqDiff, Nat.reduceBEq, Nat.reduceBNe, Nat.reducePow, Int.reduceBEq, Int.reduceBNe, Int.reduceEq, Int.reduceLT, Int.reduceLE, Int.reduceNeg, Int.reduceToNat, Int.reduceMul, Int.reduceAdd, Int.reduceSub, Int.reducePow, Int.reduceFDiv, reduceCtorEq, reduceIte]
    exact apost_tmp rfl rfl ⟨rfl, rfl⟩ _ _ rfl

theorem law (h : AH) (vs : List Value) (_ : Try.prog.globals.size ≤ h.length) (_ : NoRW h) (ha : TArgs Try.prog [22, 3, 33, 36] vs) : ACalls Try.prog 5 vs.toArray h (fun v _ => v = .bool true) := by
  obtain ⟨v0, r0, rfl, h0, ha⟩ := ha.cons_inv
  obtain ⟨v1, r1, rfl, h1, ha⟩ := ha.cons_inv
  obtain ⟨v2, r2, rfl, h2, ha⟩ := ha.cons_inv
  obtain ⟨v3, r3, rfl, h3, ha⟩ := ha.cons_inv
  obtain rfl := ha.none_inv
  obtain ⟨s, rfl, hok⟩ := h0.dec (by kernel_rfl) (Decs.slice Try.underlying22 flatEv (fun p => length_encEv p) decsEv)
  obtain ⟨k, rfl, hk⟩ := h1.dec (by kernel_rfl) (Decs.int (k := .i64) Try.underlying3)
  obtain ⟨a, rfl, _⟩ := h2.decs (enc := encAddr) (by kernel_rfl) flatA ((Decs.u8 Try.underlying5).vec 20)
  obtain ⟨w, rfl, _⟩ := h3.decs (enc := encWord) (by kernel_rfl) flatW ((Decs.u64 Try.underlying34).vec 4)
  refine (more_law s k hk a w ?_ ?_ h).mono fun _ _ e => e.1
  · have := hok.1; unfold maxLen at this; omega
  · intro e he
    have := (hok.2 e he).2.2; unfold maxLen at this; omega

set_option maxRecDepth 100000 in
theorem lifted (os : Os) (started : os.Started) (H : Type) (enc : TypeId × Value → H) :
    ReturnsInHanded {} Try.checked os 5 .any (Rows.traceMoreSpec.pre6 enc Try.prog Try.f5 Rows.traceMoreRow.domain false) (Rows.traceMoreSpec.post enc Try.prog Try.f5 false true false false) := by
  refine returnsInHanded_of_change (C := Try.checked) own started (by kernel_rfl) Try.func5
    (ChangeSpec.witness6 (enc := enc) (C := Try.checked) false ⟨#[], #[.slice none 0 0, .int .i64 0, .agg (Array.replicate 20 (.int .u8 0)), .agg #[.int .u64 0, .int .u64 0, .int .u64 0, .int .u64 0]], []⟩ 8 (by kernel_rfl) (by kernel_rfl) (by kernel_rfl) (by kernel_rfl)) ?_
  intro W base args ds gs before hval0 hW hcnd _
  have hval : ∀ (j : Nat) t v, Try.f5.params[j]? = some t → args[j]? = some v → Value.okWide Try.prog W .any base t v := hval0
  have hW' := hW
  obtain ⟨p, q, hA0, hV, rfl, hfz, hnd⟩ := hW
  have hA : DataW.TrodAll enc Try.prog W 0 (fun _ => true) true Try.f5.params.toList args.toList ds p := hA0
  rw [Try.params5] at hA hval
  have hcall := law_calls (P := Try.prog) laidOut (spare := fun _ => true) (fun _ => rfl) (F := 5) (ts := [22, 3, 33, 36]) (r := .any) (b0 := base) (by kernel_rfl) law (fun j t v h1 h2 => hval j t v (by simpa using h1) (by simpa using h2)) hA
  refine hcall.mono fun e W' ⟨he, bel⟩ => ?_
  subst he
  have hT := trodAll_below laidOut bel [22, 3, 33, 36] args.toList ds p (by intro t ht; simp only [List.mem_cons, List.not_mem_nil, or_false] at ht; rcases ht with rfl | rfl | rfl | rfl <;> exact ⟨by kernel_rfl, of_decide_eq_true (by kernel_rfl)⟩) hA
  obtain ⟨v0, vs0, d0, ds0, p0, q0, hargs, rfl, rfl, h0, r0⟩ := trodAll_cons hA
  obtain ⟨v1, vs1, d1, ds1, p1, q1, rfl, rfl, rfl, h1, r1⟩ := trodAll_cons r0
  obtain ⟨v2, vs2, d2, ds2, p2, q2, rfl, rfl, rfl, h2, r2⟩ := trodAll_cons r1
  obtain ⟨v3, vs3, d3, ds3, p3, q3, rfl, rfl, rfl, h3, r3⟩ := trodAll_cons r2
  obtain ⟨rfl, rfl, rfl⟩ := trodAll_nil r3
  obtain ⟨rfl, rfl⟩ := trodVars_none hV
  exact ⟨_, rfl, _, _, _, [], _, [], hW', trodAll_mk1 (shut_bool Try.underlying4 _), hT, rfl, bel.frame _, fun h => by cases h⟩

/-- the statement -/
theorem proved : Rows.TraceMoreSaid :=
  OpenClaim.holds_of_wide 5 Try.f5 rfl rfl rfl rfl rfl rfl rfl ⟨rfl, rfl, rfl, rfl, rfl⟩ rfl rfl rfl rfl rfl (by kernel_rfl) Try.func5 (by kernel_rfl)
    (of_decide_eq_true (by kernel_rfl)) (by unfold Func.isWrapper; first | (rw [if_pos (by decide +kernel)]; kernel_rfl) | (rw [if_neg (by decide +kernel)]; exact ⟨rfl, rfl⟩))
    (fun os started H enc _ => lifted os started H enc)

#print axioms proved
end Go.Proofs.Ytihdilnanhjedaa.TraceMore
