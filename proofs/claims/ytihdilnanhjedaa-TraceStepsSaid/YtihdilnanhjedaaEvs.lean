import Derived.Test.YtihdilnanhjedaaTrcT
import Derived.Test.YtihdilnanhjedaaAm37x
set_option linter.unusedSimpArgs false
set_option linter.unusedVariables false
namespace Go.Proofs
open Go Go.Am

def starvedP (s : List Ev) (i : Nat) : Bool := match s[i]? with | some e => e.fault == 130 | none => false
theorem starvedP_at {s : List Ev} {i : Nat} (hi : i < s.length) : starvedP s i = (s[i].fault == 130) := by simp [starvedP, hi]

set_option maxRecDepth 10000 in
set_option maxHeartbeats 4000000 in
theorem starved_calls (s : Sl Ev) (hs : s.l.length ≤ 1500) (h : AH) :
    ACalls Try.prog 14 #[slV encEv s] h (fun v h' => v = slV encI (Sl.app (pickI s.l.length (starvedP s.l))) ∧ h' = h) := by
  refine ACalls.of_ay Try.func14 rfl Try.ntmps14 ⟨_, _, rfl, rfl⟩ ?_; simp only [List.length_cons, List.length_nil, Nat.reduceAdd, Nat.reduceSub, List.replicate_succ, List.replicate_zero, List.cons_append, List.nil_append]
  simp (implicitDefEqProofs := false) (maxSteps := 2000000) only [go_sem, Nat.reduceAdd, Nat.reduceSub, Nat.reduceMul, Nat.reduceLT, Nat.reduceLeDiff, Nat.reduceEqDiff, Nat.reduceBEq, Nat.reduceBNe, Nat.reducePow, Int.reduceBEq, Int.reduceBNe, Int.reduceEq, Int.reduceLT, Int.reduceLE, Int.reduceNeg, Int.reduceToNat, Int.reduceMul, Int.reduceAdd, Int.reduceSub, Int.reducePow, Int.reduceFDiv, reduceCtorEq, reduceIte]
  refine AWP.loopI (fun i : Nat => s.l.length - i) (fun i => [junk, junk, junk, outV h.length (pickI i (starvedP s.l)), junk, junk, slV encEv s, .int .i64 (s.l.length : Nat), .int .i64 (i : Nat), junk, junk, junk, junk, junk, junk, junk, junk, junk, junk, junk, junk, junk]) (fun i => h ++ [outO encI 1 (pickI i (starvedP s.l))]) (fun i => i ≤ s.l.length) 0 (Nat.zero_le _) ?_ ?_
  · refine Keeps.easeG ?_
    repeat (first | exact Keeps.nil | refine Keeps.junk _ ?_ | refine Keeps.keep (by first | exact .plain _ rfl | exact (Tree.slV tree_encEv _).ren) ?_)
  · intro i hi
    by_cases hlt : i < s.l.length
    · have hp := starvedP_at hlt
      have hlen : (pickI i (starvedP s.l)).length ≤ i := pickI_len
      cases hc : s.l[i].fault == 130 with
      | true =>
        rw [hc] at hp
        simp (implicitDefEqProofs := false) (maxSteps := 2000000) only [go_sem, Nat.reduceAdd, Nat.reduceSub, Nat.reduceMul, Nat.reduceLT, Nat.reduceLeDiff, Nat.reduceEqDiff, Nat.reduceBEq, Nat.reduceBNe, Nat.reducePow, Int.reduceBEq, Int.reduceBNe, Int.reduceEq, Int.reduceLT, Int.reduceLE, Int.reduceNeg, Int.reduceToNat, Int.reduceMul, Int.reduceAdd, Int.reduceSub, Int.reducePow, Int.reduceFDiv, reduceCtorEq, reduceIte, hlt, hc, ↓mkApp_outN (enc := encI) (m := 1) (n := 1) (by_ := 8) (l := pickI i (starvedP s.l)) length_encI (Nat.zero_lt_one) ⟨by omega, by omega⟩]
        refine ⟨i + 1, by omega, by omega, ?_⟩
        rw [wrap_i64_of _ (by omega) (by omega), ofNat_succ', pickI_yes hp]
        refine Eases.pick1 3 (outO encI 1 (pickI i (starvedP s.l) ++ [(i : Int)])) ⟨_, rfl, outO_renS tree_encI⟩ ?_
        repeat (first | exact KeepsS.nil | refine KeepsS.junk _ ?_ | refine KeepsS.keep (by first | exact .plain _ rfl | exact (Tree.slV tree_encEv _).ren | exact outV_renS) ?_)
      | false =>
        rw [hc] at hp
        simp (implicitDefEqProofs := false) (maxSteps := 2000000) only [go_sem, Nat.reduceAdd, Nat.reduceSub, Nat.reduceMul, Nat.reduceLT, Nat.reduceLeDiff, Nat.reduceEqDiff, Nat.reduceBEq, Nat.reduceBNe, Nat.reducePow, Int.reduceBEq, Int.reduceBNe, Int.reduceEq, Int.reduceLT, Int.reduceLE, Int.reduceNeg, Int.reduceToNat, Int.reduceMul, Int.reduceAdd, Int.reduceSub, Int.reducePow, Int.reduceFDiv, reduceCtorEq, reduceIte, hlt, hc]
        refine ⟨i + 1, by omega, by omega, ?_⟩
        rw [wrap_i64_of _ (by omega) (by omega), ofNat_succ', pickI_no hp]
        refine Keeps.easeX (outO_ren tree_encI) ?_
        repeat (first | exact Keeps.nil | refine Keeps.junk _ ?_ | refine Keeps.keep (by first | exact .plain _ rfl | exact (Tree.slV tree_encEv _).ren | exact outV_id) ?_)
    · simp (implicitDefEqProofs := false) (maxSteps := 2000000) only [go_sem, Nat.reduceAdd, Nat.reduceSub, Nat.reduceMul, Nat.reduceLT, Nat.reduceLeDiff, Nat.reduceEqDiff, Nat.reduceBEq, Nat.reduceBNe, Nat.reducePow, Int.reduceBEq, Int.reduceBNe, Int.reduceEq, Int.reduceLT, Int.reduceLE, Int.reduceNeg, Int.reduceToNat, Int.reduceMul, Int.reduceAdd, Int.reduceSub, Int.reducePow, Int.reduceFDiv, reduceCtorEq, reduceIte, hlt]
      have hie : i = s.l.length := by omega
      subst hie
      exact apost_out rfl length_encI tree_encI ⟨rfl, rfl⟩ _ rfl

def events : List Ev → Nat
  | [] => 0
  | e :: l => 1 + e.data.l.length / 32 + events l
theorem events_app (a b : List Ev) : events (a ++ b) = events a + events b := by
  induction a with
  | nil => simp [events]
  | cons x a ih => simp [events, ih]; omega
theorem events_take {l : List Ev} {i : Nat} (hi : i < l.length) : events (l.take (i + 1)) = events (l.take i) + (1 + l[i].data.l.length / 32) := by
  rw [List.take_add_one, List.getElem?_eq_getElem hi, events_app]; simp [events]
theorem events_len (l : List Ev) : l.length ≤ events l := by
  induction l with
  | nil => exact Nat.le_refl _
  | cons x a ih => simp [events]; omega
theorem events_le (l : List Ev) (i : Nat) : events (l.take i) ≤ events l := by
  have : events l = events (l.take i) + events (l.drop i) := by rw [← events_app, List.take_append_drop]
  omega

set_option maxRecDepth 10000 in
set_option maxHeartbeats 4000000 in
theorem events_calls (s : Sl Ev) (hs : s.l.length < 2 ^ 63) (hd : ∀ e ∈ s.l, e.data.l.length < 2 ^ 63) (h : AH) :
    ACalls Try.prog 7 #[slV encEv s, .int .i64 500] h (fun v h' => ∃ n : Nat, v = .int .i64 n ∧ n < 2 ^ 62 ∧ (n ≤ 500 ↔ events s.l ≤ 500) ∧ h' = h) := by
  refine ACalls.of_ay Try.func7 rfl Try.ntmps7 ⟨_, _, min (events s.l) 501, rfl, by omega, by omega, rfl⟩ ?_; simp only [List.length_cons, List.length_nil, Nat.reduceAdd, Nat.reduceSub, List.replicate_succ, List.replicate_zero, List.cons_append, List.nil_append]
  simp (implicitDefEqProofs := false) (maxSteps := 2000000) only [go_sem, Nat.reduceAdd, Nat.reduceSub, Nat.reduceMul, Nat.reduceLT, Nat.reduceLeDiff, Nat.reduceEqDiff, Nat.reduceBEq, Nat.reduceBNe, Nat.reducePow, Int.reduceBEq, Int.reduceBNe, Int.reduceEq, Int.reduceLT, Int.reduceLE, Int.reduceNeg, Int.reduceToNat, Int.reduceMul, Int.reduceAdd, Int.reduceSub, Int.reducePow, Int.reduceFDiv, reduceCtorEq, reduceIte]
  refine AWP.loopI (fun i : Nat => s.l.length - i) (fun i => [slV encEv s, .int .i64 500, junk, junk, junk, .int .i64 ((events (s.l.take i) : Nat) : Int), .int .i64 (i : Nat), junk, junk, junk, junk, junk, junk, junk, junk, junk, junk, junk, junk, junk, junk, junk, junk, junk, junk, junk, junk, junk, junk]) (fun _ => h) (fun i => i ≤ s.l.length ∧ events (s.l.take i) < 2 ^ 62) 0 ⟨Nat.zero_le _, by simp [events]⟩ ?_ ?_
  · refine Keeps.ease0 ?_
    repeat (first | exact Keeps.nil | refine Keeps.junk _ ?_ | refine Keeps.keep (by first | exact .plain _ rfl | exact (Tree.slV tree_encEv _).ren) ?_)
  · intro i hi
    obtain ⟨hi, hb⟩ := hi
    by_cases hlt : i < s.l.length
    · by_cases hle : events (s.l.take i) ≤ 500
      · have hle' : ((events (s.l.take i) : Nat) : Int) ≤ 500 := by omega
        simp (implicitDefEqProofs := false) (maxSteps := 2000000) only [go_sem, Nat.reduceAdd, Nat.reduceSub, Nat.reduceMul, Nat.reduceLT, Nat.reduceLeDiff, Nat.reduceEqDiff, Nat.reduceBEq, Nat.reduceBNe, Nat.reducePow, Int.reduceBEq, Int.reduceBNe, Int.reduceEq, Int.reduceLT, Int.reduceLE, Int.reduceNeg, Int.reduceToNat, Int.reduceMul, Int.reduceAdd, Int.reduceSub, Int.reducePow, Int.reduceFDiv, reduceCtorEq, reduceIte, hlt, hle']
        have hdl := hd _ (List.getElem_mem hlt)
        have e1 : ((s.l[i].data.l.length : Nat) : Int).tdiv 32 = ((s.l[i].data.l.length / 32 : Nat) : Int) := rfl
        have e2 : (1 : Int) + ((s.l[i].data.l.length / 32 : Nat) : Int) = ((1 + s.l[i].data.l.length / 32 : Nat) : Int) := by omega
        rw [e1, wrap_i64_of ((s.l[i].data.l.length / 32 : Nat) : Int) (by omega) (by omega), e2, wrap_i64_of ((1 + s.l[i].data.l.length / 32 : Nat) : Int) (by omega) (by omega), ← Int.natCast_add, wrap_i64_of ((events (s.l.take i) + (1 + s.l[i].data.l.length / 32) : Nat) : Int) (by omega) (by omega), wrap_i64_of _ (by omega) (by omega), ofNat_succ', ← events_take hlt]
        refine ⟨i + 1, by omega, ⟨by omega, by rw [events_take hlt]; omega⟩, Keeps.ease0 ?_⟩
        repeat (first | exact Keeps.nil | refine Keeps.junk _ ?_ | refine Keeps.keep (by first | exact .plain _ rfl | exact (Tree.slV tree_encEv _).ren) ?_)
      · have hle' : ¬ ((events (s.l.take i) : Nat) : Int) ≤ 500 := by omega
        simp (implicitDefEqProofs := false) (maxSteps := 2000000) only [go_sem, Nat.reduceAdd, Nat.reduceSub, Nat.reduceMul, Nat.reduceLT, Nat.reduceLeDiff, Nat.reduceEqDiff, Nat.reduceBEq, Nat.reduceBNe, Nat.reducePow, Int.reduceBEq, Int.reduceBNe, Int.reduceEq, Int.reduceLT, Int.reduceLE, Int.reduceNeg, Int.reduceToNat, Int.reduceMul, Int.reduceAdd, Int.reduceSub, Int.reducePow, Int.reduceFDiv, reduceCtorEq, reduceIte, hlt, hle']
        have := events_le s.l i
        exact apost_tmp0 (v := .int .i64 ((events (s.l.take i) : Nat) : Int)) rfl rfl ⟨_, rfl, hb, by omega, rfl⟩ _ rfl
    · simp (implicitDefEqProofs := false) (maxSteps := 2000000) only [go_sem, Nat.reduceAdd, Nat.reduceSub, Nat.reduceMul, Nat.reduceLT, Nat.reduceLeDiff, Nat.reduceEqDiff, Nat.reduceBEq, Nat.reduceBNe, Nat.reducePow, Int.reduceBEq, Int.reduceBNe, Int.reduceEq, Int.reduceLT, Int.reduceLE, Int.reduceNeg, Int.reduceToNat, Int.reduceMul, Int.reduceAdd, Int.reduceSub, Int.reducePow, Int.reduceFDiv, reduceCtorEq, reduceIte, hlt]
      have hie : i = s.l.length := by omega
      subst hie
      rw [List.take_length] at hb ⊢
      exact apost_tmp0 (v := .int .i64 ((events s.l : Nat) : Int)) rfl rfl ⟨_, rfl, hb, by omega, rfl⟩ _ rfl
end Go.Proofs
