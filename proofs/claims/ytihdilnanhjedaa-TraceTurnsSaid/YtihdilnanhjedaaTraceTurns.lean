/- The law TraceTurns: steps do not hang on the order of events, nor on how often they come; for every input, no condition. -/
import Derived.Test.YtihdilnanhjedaaStep2
import Derived.Test.YtihdilnanhjedaaEvs
import Derived.Test.YtihdilnanhjedaaSameP
import Derived.Test.YtihdilnanhjedaaTrcK
import Derived.Test.YtihdilnanhjedaaRows
import Derived.Test.YtihdilnanhjedaaAm58x
set_option linter.unusedSimpArgs false
set_option linter.unusedVariables false
set_option linter.constructorNameAsVariable false
namespace Go.Proofs.Ytihdilnanhjedaa.TraceTurns
open Go Go.Am
open Go.ChangeShapes Go.WideShapes Go.ChangeAt Go.RowKit

theorem own : ownKnob Try.prog.godebug = none := by kernel_rfl
theorem laidOut : laidOutB Try.prog = true := by kernel_rfl

theorem stR_congr {a b : List Ev} (h : ∀ e, e ∈ a ↔ e ∈ b) : rise (stR a) = rise (stR b) := rise_congr fun x => by simp only [stR, List.mem_flatMap, h]
theorem stW_congr {a b : List Ev} (h : ∀ e, e ∈ a ↔ e ∈ b) : rise (stW a) = rise (stW b) := rise_congr fun x => by simp only [stW, List.mem_flatMap, h]

theorem stepsO_calls (l s : List Ev) (hl : l.length ≤ 2000) (he : ∀ e, e ∈ l ↔ e ∈ s) {h : AH} {b : Nat} (hb : h[b]? = some (outO encEv 32 l)) :
    ACalls Try.prog 10 #[outV b l] h (fun v h' => v = .agg #[slV encPl (Sl.app (rise (stR s))), slV encPl (Sl.app (rise (stW s)))] ∧ h' = h.set b .dead) := by
  refine ACalls.outs hb length_encEv ?_
  have := steps_calls (Sl.app l) hl (h.set b .dead)
  rw [show stR (Sl.app l).l = stR l from rfl, show stW (Sl.app l).l = stW l from rfl, stR_congr he, stW_congr he] at this
  exact this

theorem turn_n {k : Int} {n : Nat} (hk : (Lit.int .i64 k).wf = true) (hn : n ≤ 1000) : ∃ m : Nat, m ≤ n ∧ (if (0 : Int) > k then 0 else k).tmod (((n + 1 : Nat) : Int)) = ((m : Nat) : Int) := by
  have h0 : (0 : Int) ≤ (if (0 : Int) > k then 0 else k) := by split <;> omega
  obtain ⟨q, hq⟩ := Int.eq_ofNat_of_zero_le h0
  refine ⟨q % (n + 1), Nat.lt_succ_iff.1 (Nat.mod_lt q (Nat.succ_pos n)), ?_⟩
  rw [hq]; rfl

set_option maxRecDepth 10000 in
set_option maxHeartbeats 4000000 in
theorem turns_law (s : Sl Ev) (k : Int) (hk : (Lit.int .i64 k).wf = true) (hs : s.l.length < 2 ^ 63) (hd : ∀ e ∈ s.l, e.data.l.length < 2 ^ 63) (h : AH) :
    ACalls Try.prog 4 #[slV encEv s, .int .i64 k] h (fun v h' => v = .bool true ∧ h' = h) := by
  refine ACalls.of_aw Try.func4 rfl Try.ntmps4 ⟨_, _, rfl, rfl⟩ ?_; simp only [List.length_cons, List.length_nil, Nat.reduceAdd, Nat.reduceSub, List.replicate_succ, List.replicate_zero, List.cons_append, List.nil_append]
  refine AWP.ease Eases.ghost ?_
  refine AWP.ease Eases.ghost ?_
  refine AWP.seqA ?_
  simp (implicitDefEqProofs := false) (maxSteps := 2000000) only [go_sem, Nat.reduceAdd, Nat.reduceSub, Nat.reduceMul, Nat.reduceLT, Nat.reduceLeDiff, Nat.reduceEqDiff, Nat.reduceBEq, Nat.reduceBNe, Nat.reducePow, Int.reduceBEq, Int.reduceBNe, Int.reduceEq, Int.reduceLT, Int.reduceLE, Int.reduceNeg, Int.reduceToNat, Int.reduceMul, Int.reduceAdd, Int.reduceSub, Int.reducePow, Int.reduceFDiv, reduceCtorEq, reduceIte]
  refine AWP.seqA ?_
  simp (implicitDefEqProofs := false) (maxSteps := 2000000) only [go_sem, Nat.reduceAdd, Nat.reduceSub, Nat.reduceMul, Nat.reduceLT, Nat.reduceLeDiff, Nat.reduceEqDiff, Nat.reduceBEq, Nat.reduceBNe, Nat.reducePow, Int.reduceBEq, Int.reduceBNe, Int.reduceEq, Int.reduceLT, Int.reduceLE, Int.reduceNeg, Int.reduceToNat, Int.reduceMul, Int.reduceAdd, Int.reduceSub, Int.reducePow, Int.reduceFDiv, reduceCtorEq, reduceIte]
  refine astep_calls (events_calls s hs hd _) ?_
  intro v h1 hR
  obtain ⟨n, rfl, hn, hiff, rfl⟩ := hR
  by_cases hle : n ≤ 500
  · have hle' : ¬ (500 : Int) < ((n : Nat) : Int) := by omega
    have hlen : s.l.length ≤ 500 := Nat.le_trans (events_len s.l) (hiff.1 hle)
    obtain ⟨m, hm, hmk⟩ := turn_n (n := s.l.length) hk (by omega)
    have hw : IntKind.i64.wrap ((s.l.length : Int) + 1) = ((s.l.length + 1 : Nat) : Int) := by rw [wrap_i64_of _ (by omega) (by omega), ofNat_succ']
    have hnz : ((s.l.length + 1 : Nat) : Int) ≠ 0 := by omega
    simp (implicitDefEqProofs := false) (maxSteps := 2000000) only [go_sem, Nat.reduceAdd, Nat.reduceSub, Nat.reduceMul, Nat.reduceLT, Nat.reduceLeDiff, Nat.reduceEqDiff, Nat.reduceBEq, Nat.reduceBNe, Nat.reducePow, Int.reduceBEq, Int.reduceBNe, Int.reduceEq, Int.reduceLT, Int.reduceLE, Int.reduceNeg, Int.reduceToNat, Int.reduceMul, Int.reduceAdd, Int.reduceSub, Int.reducePow, Int.reduceFDiv, reduceCtorEq, reduceIte, hle']
    obtain ⟨p1, hp1⟩ : ∃ p, p = s.piece m s.l.length := ⟨_, rfl⟩
    obtain ⟨p2, hp2⟩ : ∃ p, p = s.piece 0 m := ⟨_, rfl⟩
    have hs1 : ∀ H, aslice Try.prog H 22 (slV encEv s) (some (.int .i64 ((m : Nat) : Int))) none = some (slV encEv p1) := by
      intro H; rw [aslice_slV Try.slc22 length_encEv, hp1]; simp [abounds, abound, hm]
    have hs2 : ∀ H, aslice Try.prog H 22 (slV encEv s) none (some (.int .i64 ((m : Nat) : Int))) = some (slV encEv p2) := by
      intro H; rw [aslice_slV Try.slc22 length_encEv, hp2]; simp [abounds, abound, hm]
    have l1 : p1.l = s.l.drop m := by rw [hp1]; simp [Sl.piece]
    have l2 : p2.l = s.l.take m := by rw [hp2]; simp [Sl.piece]
    have n1 : p1.l.length ≤ 500 := by rw [l1]; simp; omega
    have n2 : p2.l.length ≤ 500 := by rw [l2]; simp; omega
    have hT : ∀ e, e ∈ p1.l ++ p2.l ↔ e ∈ s.l := fun e => by
      rw [l1, l2, List.mem_append, or_comm, ← List.mem_append, List.take_append_drop]
    have hD : ∀ e, e ∈ s.l ++ (p1.l ++ p2.l) ↔ e ∈ s.l := fun e => by rw [List.mem_append, hT]; simp
    refine astep_call (known_calls _) ?_
    simp (implicitDefEqProofs := false) (maxSteps := 2000000) only [go_sem, Nat.reduceAdd, Nat.reduceSub, Nat.reduceMul, Nat.reduceLT, Nat.reduceLeDiff, Nat.reduceEqDiff, Nat.reduceBEq, Nat.reduceBNe, Nat.reducePow, Int.reduceBEq, Int.reduceBNe, Int.reduceEq, Int.reduceLT, Int.reduceLE, Int.reduceNeg, Int.reduceToNat, Int.reduceMul, Int.reduceAdd, Int.reduceSub, Int.reducePow, Int.reduceFDiv, reduceCtorEq, reduceIte]
    have g1 : (h ++ [AObj.dead] ++ [AObj.dead])[h.length]? = some (outO encEv 32 ([] : List Ev)) := by simp [outO]
    have g2 : (h ++ [AObj.dead] ++ [AObj.dead])[h.length + 1]? = some (outO encEv 32 ([] : List Ev)) := by simp [outO]
    generalize hH0 : h ++ [AObj.dead] ++ [AObj.dead] = H0 at g1 g2
    obtain ⟨b1, H1, a1, r1, o1, le1, d1⟩ := mkApp_outs (by_ := 136) (g := true) (l2 := p1.l) g1 length_encEv ⟨by simp; omega, by simp; omega⟩
    have g2' : H1[h.length + 1]? = some (outO encEv 32 ([] : List Ev)) := by rw [o1 _ (by omega) (by rw [← hH0]; simp), g2]
    simp only [List.nil_append, outV_nil] at a1 r1
    obtain ⟨b2, H2, a2, r2, o2, le2, d2⟩ := mkApp_outs (by_ := 136) (g := true) (l2 := p2.l) r1 length_encEv ⟨by omega, by omega⟩
    have hlen0 : H0.length = h.length + 2 := by rw [← hH0]; simp
    have g3 : H2[h.length + 1]? = some (outO encEv 32 ([] : List Ev)) := by rw [o2 _ (by omega) (by omega), g2']
    obtain ⟨b3, H3, a3, r3, o3, le3, d3⟩ := mkApp_outs (by_ := 136) (g := true) (l2 := s.l) g3 length_encEv ⟨by simp; omega, by simp; omega⟩
    have r2' : H3[b2]? = some (outO encEv 32 (p1.l ++ p2.l)) := by rw [o3 _ (by omega) (List.getElem?_eq_some_iff.1 r2).1, r2]
    simp only [List.nil_append, outV_nil] at a3 r3
    have so : ∀ H : AH, H[b2]? = some (outO encEv 32 (p1.l ++ p2.l)) → asource H 32 (outV b2 (p1.l ++ p2.l)) = some ((p1.l ++ p2.l).length, flatV encEv (p1.l ++ p2.l)) := fun H e => asource_outV e length_encEv
    have so1 : ∀ H : AH, asource H 32 (slV encEv p1) = some (p1.l.length, flatV encEv p1.l) := fun H => asource_slV length_encEv
    have so2 : ∀ H : AH, asource H 32 (slV encEv p2) = some (p2.l.length, flatV encEv p2.l) := fun H => asource_slV length_encEv
    have so3 : ∀ H : AH, asource H 32 (slV encEv s) = some (s.l.length, flatV encEv s.l) := fun H => asource_slV length_encEv
    obtain ⟨b4, H4, a4, r4, o4, le4, d4⟩ := mkApp_outs (by_ := 136) (g := true) (l2 := p1.l ++ p2.l) r3 length_encEv ⟨by simp; omega, by simp; omega⟩
    have hb2 : b2 < H3.length := (List.getElem?_eq_some_iff.1 r2').1
    have hb2' : b2 < H2.length := (List.getElem?_eq_some_iff.1 r2).1
    have hne : b3 ≠ b2 := by omega
    have r2'' : H4[b2]? = some (outO encEv 32 (p1.l ++ p2.l)) := by rw [o4 _ (fun e => hne e.symm) hb2, r2']
    have so4 := so H3 r2'
    rw [show (p1.l ++ p2.l).length = p1.l.length + p2.l.length from List.length_append] at a4
    have hH0' : h ++ [AObj.dead, .dead] = H0 := by rw [← hH0]; simp
    refine AWP.seqA ?_
    simp (implicitDefEqProofs := false) (maxSteps := 2000000) only [go_sem, Nat.reduceAdd, Nat.reduceSub, Nat.reduceMul, Nat.reduceLT, Nat.reduceLeDiff, Nat.reduceEqDiff, Nat.reduceBEq, Nat.reduceBNe, Nat.reducePow, Int.reduceBEq, Int.reduceBNe, Int.reduceEq, Int.reduceLT, Int.reduceLE, Int.reduceNeg, Int.reduceToNat, Int.reduceMul, Int.reduceAdd, Int.reduceSub, Int.reducePow, Int.reduceFDiv, reduceCtorEq, reduceIte, hw, abin_rem hnz, hmk]
    refine AWP.seqA ?_
    simp (implicitDefEqProofs := false) (maxSteps := 2000000) only [go_sem, Nat.reduceAdd, Nat.reduceSub, Nat.reduceMul, Nat.reduceLT, Nat.reduceLeDiff, Nat.reduceEqDiff, Nat.reduceBEq, Nat.reduceBNe, Nat.reducePow, Int.reduceBEq, Int.reduceBNe, Int.reduceEq, Int.reduceLT, Int.reduceLE, Int.reduceNeg, Int.reduceToNat, Int.reduceMul, Int.reduceAdd, Int.reduceSub, Int.reducePow, Int.reduceFDiv, reduceCtorEq, reduceIte, hH0', hs1, hs2, so1, so2, so3, so4, a1, a2, a3, a4]
    refine AWP.seqA ?_
    simp (implicitDefEqProofs := false) (maxSteps := 2000000) only [go_sem, Nat.reduceAdd, Nat.reduceSub, Nat.reduceMul, Nat.reduceLT, Nat.reduceLeDiff, Nat.reduceEqDiff, Nat.reduceBEq, Nat.reduceBNe, Nat.reducePow, Int.reduceBEq, Int.reduceBNe, Int.reduceEq, Int.reduceLT, Int.reduceLE, Int.reduceNeg, Int.reduceToNat, Int.reduceMul, Int.reduceAdd, Int.reduceSub, Int.reducePow, Int.reduceFDiv, reduceCtorEq, reduceIte, hH0', hs1, hs2, so1, so2, so3, so4, a1, a2, a3, a4]
    refine AWP.seqA ?_
    simp (implicitDefEqProofs := false) (maxSteps := 2000000) only [go_sem, Nat.reduceAdd, Nat.reduceSub, Nat.reduceMul, Nat.reduceLT, Nat.reduceLeDiff, Nat.reduceEqDiff, Nat.reduceBEq, Nat.reduceBNe, Nat.reducePow, Int.reduceBEq, Int.reduceBNe, Int.reduceEq, Int.reduceLT, Int.reduceLE, Int.reduceNeg, Int.reduceToNat, Int.reduceMul, Int.reduceAdd, Int.reduceSub, Int.reducePow, Int.reduceFDiv, reduceCtorEq, reduceIte, hH0', hs1, hs2, so1, so2, so3, so4, a1, a2, a3, a4]
    refine AWP.seqA ?_
    simp (implicitDefEqProofs := false) (maxSteps := 2000000) only [go_sem, Nat.reduceAdd, Nat.reduceSub, Nat.reduceMul, Nat.reduceLT, Nat.reduceLeDiff, Nat.reduceEqDiff, Nat.reduceBEq, Nat.reduceBNe, Nat.reducePow, Int.reduceBEq, Int.reduceBNe, Int.reduceEq, Int.reduceLT, Int.reduceLE, Int.reduceNeg, Int.reduceToNat, Int.reduceMul, Int.reduceAdd, Int.reduceSub, Int.reducePow, Int.reduceFDiv, reduceCtorEq, reduceIte, hH0', hs1, hs2, so1, so2, so3, so4, a1, a2, a3, a4]
    refine AWP.seqA ?_
    simp (implicitDefEqProofs := false) (maxSteps := 2000000) only [go_sem, Nat.reduceAdd, Nat.reduceSub, Nat.reduceMul, Nat.reduceLT, Nat.reduceLeDiff, Nat.reduceEqDiff, Nat.reduceBEq, Nat.reduceBNe, Nat.reducePow, Int.reduceBEq, Int.reduceBNe, Int.reduceEq, Int.reduceLT, Int.reduceLE, Int.reduceNeg, Int.reduceToNat, Int.reduceMul, Int.reduceAdd, Int.reduceSub, Int.reducePow, Int.reduceFDiv, reduceCtorEq, reduceIte, hH0', hs1, hs2, so1, so2, so3, so4, a1, a2, a3, a4]
    have kp : keeps h H4 := ⟨by omega, fun i hi => by rw [o4 _ (by omega) (by omega), o3 _ (by omega) (by omega), o2 _ (by omega) (by omega), o1 _ (by omega) (by omega), ← hH0, List.append_assoc, List.getElem?_append_left hi]⟩
    refine AWP.ease (KeepsF.easeK kp (l1 := [slV encEv s, junk, junk, junk, junk, junk, slV encEv (Sl.app (p1.l ++ p2.l)), slV encEv (Sl.app (s.l ++ (p1.l ++ p2.l))), junk, junk, junk, junk, junk, junk, junk, junk, junk, junk, junk, junk, junk, junk, junk, junk, junk, junk, junk, junk, junk, junk, junk, junk, junk, junk, junk, junk, junk, junk, junk, junk, junk, junk, junk, junk, junk, junk, junk, junk, junk, junk, junk]) ?_) ?_
    · have z2 : Rf H4 (dieNew h H4) (outV b2 (p1.l ++ p2.l)) (slV encEv (Sl.app (p1.l ++ p2.l))) := Rf.outV r2'' (dieNew_dead (by omega) (by omega)) length_encEv
      have hb4 : b4 < H4.length := (List.getElem?_eq_some_iff.1 r4).1
      have z4 : Rf H4 (dieNew h H4) (outV b4 (s.l ++ (p1.l ++ p2.l))) (slV encEv (Sl.app (s.l ++ (p1.l ++ p2.l)))) := Rf.outV r4 (dieNew_dead (by omega) (by omega)) length_encEv
      repeat (first | exact KeepsF.nil | refine KeepsF.junk _ ?_ | refine KeepsF.keep z2 (.slV tree_encEv _) ?_ | refine KeepsF.keep z4 (.slV tree_encEv _) ?_ | refine KeepsF.keep (.same _) (.slV tree_encEv _) ?_ | refine KeepsF.keep (.same _) (.plain _ rfl) ?_)
    refine AWP.ofA ?_
    simp (implicitDefEqProofs := false) (maxSteps := 2000000) only [go_sem, Nat.reduceAdd, Nat.reduceSub, Nat.reduceMul, Nat.reduceLT, Nat.reduceLeDiff, Nat.reduceEqDiff, Nat.reduceBEq, Nat.reduceBNe, Nat.reducePow, Int.reduceBEq, Int.reduceBNe, Int.reduceEq, Int.reduceLT, Int.reduceLE, Int.reduceNeg, Int.reduceToNat, Int.reduceMul, Int.reduceAdd, Int.reduceSub, Int.reducePow, Int.reduceFDiv, reduceCtorEq, reduceIte]
    have lR := len_stR s.l
    have lW := len_stW s.l
    have lR' := length_rise (stR s.l)
    have lW' := length_rise (stW s.l)
    have q1 := steps_calls (Sl.app (p1.l ++ p2.l)) (by simp [Sl.app]; omega)
    have q2 := steps_calls (Sl.app (s.l ++ (p1.l ++ p2.l))) (by simp [Sl.app]; omega)
    have c1 : stR (Sl.app (p1.l ++ p2.l)).l = stR (p1.l ++ p2.l) := rfl
    have c2 : stW (Sl.app (p1.l ++ p2.l)).l = stW (p1.l ++ p2.l) := rfl
    have c3 : stR (Sl.app (s.l ++ (p1.l ++ p2.l))).l = stR (s.l ++ (p1.l ++ p2.l)) := rfl
    have c4 : stW (Sl.app (s.l ++ (p1.l ++ p2.l))).l = stW (s.l ++ (p1.l ++ p2.l)) := rfl
    rw [c1, c2, stR_congr hT, stW_congr hT] at q1
    rw [c3, c4, stR_congr hD, stW_congr hD] at q2
    refine astep_call (steps_calls s (by omega) _) ?_
    simp (implicitDefEqProofs := false) (maxSteps := 2000000) only [go_sem, Nat.reduceAdd, Nat.reduceSub, Nat.reduceMul, Nat.reduceLT, Nat.reduceLeDiff, Nat.reduceEqDiff, Nat.reduceBEq, Nat.reduceBNe, Nat.reducePow, Int.reduceBEq, Int.reduceBNe, Int.reduceEq, Int.reduceLT, Int.reduceLE, Int.reduceNeg, Int.reduceToNat, Int.reduceMul, Int.reduceAdd, Int.reduceSub, Int.reducePow, Int.reduceFDiv, reduceCtorEq, reduceIte]
    refine ⟨by kernel_rfl, by kernel_rfl, ?_⟩
    refine dstep_call (q1 _) pres_refl ?_
    simp (implicitDefEqProofs := false) (maxSteps := 2000000) only [go_sem, Nat.reduceAdd, Nat.reduceSub, Nat.reduceMul, Nat.reduceLT, Nat.reduceLeDiff, Nat.reduceEqDiff, Nat.reduceBEq, Nat.reduceBNe, Nat.reducePow, Int.reduceBEq, Int.reduceBNe, Int.reduceEq, Int.reduceLT, Int.reduceLE, Int.reduceNeg, Int.reduceToNat, Int.reduceMul, Int.reduceAdd, Int.reduceSub, Int.reducePow, Int.reduceFDiv, reduceCtorEq, reduceIte]
    refine dstep_call (sameFoot_calls _ _ (by simp [Sl.app]; omega) (by simp [Sl.app]; omega) _) pres_refl ?_
    simp (implicitDefEqProofs := false) (maxSteps := 2000000) only [go_sem, Nat.reduceAdd, Nat.reduceSub, Nat.reduceMul, Nat.reduceLT, Nat.reduceLeDiff, Nat.reduceEqDiff, Nat.reduceBEq, Nat.reduceBNe, Nat.reducePow, Int.reduceBEq, Int.reduceBNe, Int.reduceEq, Int.reduceLT, Int.reduceLE, Int.reduceNeg, Int.reduceToNat, Int.reduceMul, Int.reduceAdd, Int.reduceSub, Int.reducePow, Int.reduceFDiv, reduceCtorEq, reduceIte]
    refine dstep_call (q2 _) pres_refl ?_
    simp (implicitDefEqProofs := false) (maxSteps := 2000000) only [go_sem, Nat.reduceAdd, Nat.reduceSub, Nat.reduceMul, Nat.reduceLT, Nat.reduceLeDiff, Nat.reduceEqDiff, Nat.reduceBEq, Nat.reduceBNe, Nat.reducePow, Int.reduceBEq, Int.reduceBNe, Int.reduceEq, Int.reduceLT, Int.reduceLE, Int.reduceNeg, Int.reduceToNat, Int.reduceMul, Int.reduceAdd, Int.reduceSub, Int.reducePow, Int.reduceFDiv, reduceCtorEq, reduceIte]
    refine dstep_call (sameFoot_calls _ _ (by simp [Sl.app]; omega) (by simp [Sl.app]; omega) _) pres_refl ?_
    simp (implicitDefEqProofs := false) (maxSteps := 2000000) only [go_sem, Nat.reduceAdd, Nat.reduceSub, Nat.reduceMul, Nat.reduceLT, Nat.reduceLeDiff, Nat.reduceEqDiff, Nat.reduceBEq, Nat.reduceBNe, Nat.reducePow, Int.reduceBEq, Int.reduceBNe, Int.reduceEq, Int.reduceLT, Int.reduceLE, Int.reduceNeg, Int.reduceToNat, Int.reduceMul, Int.reduceAdd, Int.reduceSub, Int.reducePow, Int.reduceFDiv, reduceCtorEq, reduceIte]
    exact apost_tmp rfl rfl ⟨rfl, rfl⟩ _ _ rfl
  · have hle' : (500 : Int) < ((n : Nat) : Int) := by omega
    simp (implicitDefEqProofs := false) (maxSteps := 2000000) only [go_sem, Nat.reduceAdd, Nat.reduceSub, Nat.reduceMul, Nat.reduceLT, Nat.reduceLeDiff, Nat.reduceEqDiff, Nat.reduceBEq, Nat.reduceBNe, Nat.reducePow, Int.reduceBEq, Int.reduceBNe, Int.reduceEq, Int.reduceLT, Int.reduceLE, Int.reduceNeg, Int.reduceToNat, Int.reduceMul, Int.reduceAdd, Int.reduceSub, Int.reducePow, Int.reduceFDiv, reduceCtorEq, reduceIte, hle']
    refine astep_call (known_calls _) ?_
    simp (implicitDefEqProofs := false) (maxSteps := 2000000) only [go_sem, Nat.reduceAdd, Nat.reduceSub, Nat.reduceMul, Nat.reduceLT, Nat.reduceLeDiff, Nat.reduceEqDiff, Nat.reduceBEq, Nat.reduceBNe, Nat.reducePow, Int.reduceBEq, Int.reduceBNe, Int.reduceEq, Int.reduceLT, Int.reduceLE, Int.reduceNeg, Int.reduceToNat, Int.reduceMul, Int.reduceAdd, Int.reduceSub, Int.reducePow, Int.reduceFDiv, reduceCtorEq, reduceIte]
    exact apost_tmp rfl rfl ⟨rfl, rfl⟩ _ _ rfl

theorem law (h : AH) (vs : List Value) (_ : Try.prog.globals.size ≤ h.length) (_ : NoRW h) (ha : TArgs Try.prog [22, 3] vs) : ACalls Try.prog 4 vs.toArray h (fun v _ => v = .bool true) := by
  obtain ⟨v0, r0, rfl, h0, ha⟩ := ha.cons_inv
  obtain ⟨v1, r1, rfl, h1, ha⟩ := ha.cons_inv
  obtain rfl := ha.none_inv
  obtain ⟨s, rfl, hok⟩ := h0.dec (by kernel_rfl) (Decs.slice Try.underlying22 flatEv (fun p => length_encEv p) decsEv)
  obtain ⟨k, rfl, hk⟩ := h1.dec (by kernel_rfl) (Decs.int (k := .i64) Try.underlying3)
  refine (turns_law s k hk ?_ ?_ h).mono fun _ _ e => e.1
  · have := hok.1; unfold maxLen at this; omega
  · intro e he
    have := (hok.2 e he).2.2; unfold maxLen at this; omega

set_option maxRecDepth 100000 in
theorem lifted (os : Os) (started : os.Started) (H : Type) (enc : TypeId × Value → H) :
    ReturnsInHanded {} Try.checked os 4 .any (Rows.traceTurnsSpec.pre6 enc Try.prog Try.f4 Rows.traceTurnsRow.domain false) (Rows.traceTurnsSpec.post enc Try.prog Try.f4 false true false false) := by
  refine returnsInHanded_of_change (C := Try.checked) own started (by kernel_rfl) Try.func4
    (ChangeSpec.witness6 (enc := enc) (C := Try.checked) false ⟨#[], #[.slice none 0 0, .int .i64 0], []⟩ 8 (by kernel_rfl) (by kernel_rfl) (by kernel_rfl) (by kernel_rfl)) ?_
  intro W base args ds gs before hval0 hW hcnd _
  have hval : ∀ (j : Nat) t v, Try.f4.params[j]? = some t → args[j]? = some v → Value.okWide Try.prog W .any base t v := hval0
  have hW' := hW
  obtain ⟨p, q, hA0, hV, rfl, hfz, hnd⟩ := hW
  have hA : DataW.TrodAll enc Try.prog W 0 (fun _ => true) true Try.f4.params.toList args.toList ds p := hA0
  rw [Try.params4] at hA hval
  have hcall := law_calls (P := Try.prog) laidOut (spare := fun _ => true) (fun _ => rfl) (F := 4) (ts := [22, 3]) (r := .any) (b0 := base) (by kernel_rfl) law (fun j t v h1 h2 => hval j t v (by simpa using h1) (by simpa using h2)) hA
  refine hcall.mono fun e W' ⟨he, bel⟩ => ?_
  subst he
  have hT := trodAll_below laidOut bel [22, 3] args.toList ds p (by intro t ht; simp only [List.mem_cons, List.not_mem_nil, or_false] at ht; rcases ht with rfl | rfl <;> exact ⟨by kernel_rfl, of_decide_eq_true (by kernel_rfl)⟩) hA
  obtain ⟨v0, vs0, d0, ds0, p0, q0, hargs, rfl, rfl, h0, r0⟩ := trodAll_cons hA
  obtain ⟨v1, vs1, d1, ds1, p1, q1, rfl, rfl, rfl, h1, r1⟩ := trodAll_cons r0
  obtain ⟨rfl, rfl, rfl⟩ := trodAll_nil r1
  obtain ⟨rfl, rfl⟩ := trodVars_none hV
  exact ⟨_, rfl, _, _, _, [], _, [], hW', trodAll_mk1 (shut_bool Try.underlying4 _), hT, rfl, bel.frame _, fun h => by cases h⟩

/-- the statement -/
theorem proved : Rows.TraceTurnsSaid :=
  OpenClaim.holds_of_wide 4 Try.f4 rfl rfl rfl rfl rfl rfl rfl ⟨rfl, rfl, rfl, rfl, rfl⟩ rfl rfl rfl rfl rfl (by kernel_rfl) Try.func4 (by kernel_rfl)
    (of_decide_eq_true (by kernel_rfl)) (by unfold Func.isWrapper; first | (rw [if_pos (by decide +kernel)]; kernel_rfl) | (rw [if_neg (by decide +kernel)]; exact ⟨rfl, rfl⟩))
    (fun os started H enc _ => lifted os started H enc)

#print axioms proved
end Go.Proofs.Ytihdilnanhjedaa.TraceTurns
