import Derived.Test.YtihdilnanhjedaaFp3
set_option linter.unusedSimpArgs false
set_option linter.unusedVariables false
namespace Go.Proofs.Fp
open Go Go.Am Go.Proofs

/-- does a list hold something of another one? -/
def hits (L s : List Pl) : Bool := s.any fun x => decide (x ∈ L)
theorem any_cnt (L s : List Pl) : (s.any fun x => decide (0 < (cnt L x).getD 0)) = hits L s := by
  unfold hits
  congr 1
  funext x
  rw [cnt_getD]
  have : (0 < (List.count x L : Int)) ↔ x ∈ L := by rw [← List.count_pos_iff]; omega
  exact decide_eq_decide.2 this

theorem of_callsB (l : List (Sl Pl)) (hs : l.length < 2 ^ 62) (hc : (catS l).length < 2 ^ 62) (h : AH) (b es0 : Nat) (hb : h[b]? = some (.cells (flatV encPs l) es0 true)) :
    ACalls Try.prog 36 #[.slice (some ⟨b, 0, none⟩) l.length l.length] h (fun v h' => v = .map (some h.length) ∧ ∃ es clk, h' = h.set b .dead ++ [.map 54 es clk] ∧ CMap 54 es clk (cnt (catS l))) := by
  have := of_calls (Sl.full l) hs hc (h.set b .dead)
  rw [List.length_set] at this
  refine ACalls.freeze (args1 := #[slV encPs (Sl.full l)]) HFz.set rfl (fun i => ?_) this
  cases i with
  | zero => exact Rf.full hb (List.getElem?_set_self (List.getElem?_eq_some_iff.1 hb).1) (Nat.le_refl _)
  | succ i => simp; exact .same _

theorem encFoot_0 (f : Foot) : (encFoot f)[0]? = some (slV encPl f.reads) := rfl
theorem encFoot_1 (f : Foot) : (encFoot f)[1]? = some (slV encPl f.writes) := rfl
theorem flat2 (a b : Sl Pl) : #[slV encPl a, slV encPl b] = flatV encPs [a, b] := rfl
theorem flat1 (a : Sl Pl) : #[slV encPl a] = flatV encPs [a] := rfl
attribute [go_sem] encFoot_0 encFoot_1
theorem catS_two (a b : Sl Pl) : catS [a, b] = a.l ++ b.l := by simp [catS]
theorem catS_one (a : Sl Pl) : catS [a] = a.l := by simp [catS]

set_option maxRecDepth 10000 in
set_option maxHeartbeats 4000000 in
theorem touches_calls (f : Foot) (s : Sl Pl) (h : AH) (hf : f.reads.l.length + f.writes.l.length < 2 ^ 62) (hs : s.l.length < 2 ^ 62) :
    ACalls Try.prog 35 #[.agg (encFoot f).toArray, slV encPl s] h (fun v h' => v = .bool (hits (f.reads.l ++ f.writes.l) s.l) ∧ h' = h) := by
  refine ACalls.of_ay Try.func35 rfl Try.ntmps35 ⟨_, _, rfl, rfl⟩ ?_; simp only [List.length_cons, List.length_nil, Nat.reduceAdd, Nat.reduceSub, List.replicate_succ, List.replicate_zero, List.cons_append, List.nil_append]
  simp (implicitDefEqProofs := false) (maxSteps := 2000000) only [go_sem, Nat.reduceAdd, Nat.reduceSub, Nat.reduceMul, Nat.reduceLT, Nat.reduceLeDiff, Nat.reduceEqDiff, Nat.reduceBEq, Nat.reduceBNe, Nat.reducePow, Int.reduceBEq, Int.reduceBNe, Int.reduceEq, Int.reduceLT, Int.reduceLE, Int.reduceNeg, Int.reduceToNat, Int.reduceMul, Int.reduceAdd, Int.reduceSub, Int.reducePow, Int.reduceFDiv, reduceCtorEq, reduceIte, length_encFoot]
  refine astep_calls (of_callsB [f.reads, f.writes] (by simp) (by simpa [catS] using hf) _ (h.length + 1) 1 ?_) ?_
  · exact at_new _ _ _
  intro v h1 hR
  obtain ⟨rfl, es, clk, rfl, hm⟩ := hR
  simp (implicitDefEqProofs := false) (maxSteps := 2000000) only [go_sem, Nat.reduceAdd, Nat.reduceSub, Nat.reduceMul, Nat.reduceLT, Nat.reduceLeDiff, Nat.reduceEqDiff, Nat.reduceBEq, Nat.reduceBNe, Nat.reducePow, Int.reduceBEq, Int.reduceBNe, Int.reduceEq, Int.reduceLT, Int.reduceLE, Int.reduceNeg, Int.reduceToNat, Int.reduceMul, Int.reduceAdd, Int.reduceSub, Int.reducePow, Int.reduceFDiv, reduceCtorEq, reduceIte]
  refine astep_call (any_calls s hs _ _ es clk _ hm (by simp)) ?_
  simp (implicitDefEqProofs := false) (maxSteps := 2000000) only [go_sem, Nat.reduceAdd, Nat.reduceSub, Nat.reduceMul, Nat.reduceLT, Nat.reduceLeDiff, Nat.reduceEqDiff, Nat.reduceBEq, Nat.reduceBNe, Nat.reducePow, Int.reduceBEq, Int.reduceBNe, Int.reduceEq, Int.reduceLT, Int.reduceLE, Int.reduceNeg, Int.reduceToNat, Int.reduceMul, Int.reduceAdd, Int.reduceSub, Int.reducePow, Int.reduceFDiv, reduceCtorEq, reduceIte]
  refine apost_tmp (v := .bool (hits (f.reads.l ++ f.writes.l) s.l)) rfl rfl ⟨rfl, rfl⟩ _ _ ?_
  rw [any_cnt, catS_two]; rfl

/-- do two meet? -/
def meets (f g : Foot) : Bool := hits (g.reads.l ++ g.writes.l) f.writes.l || hits f.reads.l g.writes.l

set_option maxRecDepth 10000 in
set_option maxHeartbeats 4000000 in
theorem meets_calls (f g : Foot) (h : AH) (hf : f.reads.l.length + f.writes.l.length < 2 ^ 62) (hg : g.reads.l.length + g.writes.l.length < 2 ^ 62) :
    ACalls Try.prog 18 #[.agg (encFoot f).toArray, .agg (encFoot g).toArray] h (fun v h' => v = .bool (meets f g) ∧ h' = h) := by
  refine ACalls.of_ay Try.func18 rfl Try.ntmps18 ⟨_, _, rfl, rfl⟩ ?_; simp only [List.length_cons, List.length_nil, Nat.reduceAdd, Nat.reduceSub, List.replicate_succ, List.replicate_zero, List.cons_append, List.nil_append]
  simp (implicitDefEqProofs := false) (maxSteps := 2000000) only [go_sem, Nat.reduceAdd, Nat.reduceSub, Nat.reduceMul, Nat.reduceLT, Nat.reduceLeDiff, Nat.reduceEqDiff, Nat.reduceBEq, Nat.reduceBNe, Nat.reducePow, Int.reduceBEq, Int.reduceBNe, Int.reduceEq, Int.reduceLT, Int.reduceLE, Int.reduceNeg, Int.reduceToNat, Int.reduceMul, Int.reduceAdd, Int.reduceSub, Int.reducePow, Int.reduceFDiv, reduceCtorEq, reduceIte, length_encFoot]
  refine ⟨by kernel_rfl, by kernel_rfl, ?_⟩
  refine dstep_calls (of_callsB [g.reads, g.writes] (by simp) (by simpa [catS] using hg) _ (h.length + 2) 1 ?_) ?_
  · exact at_new _ _ _
  intro v h1 hR
  obtain ⟨rfl, es, clk, rfl, hm⟩ := hR
  rw [catS_two] at hm
  simp only [List.length_append, List.length_cons, List.length_nil, Nat.zero_add, Nat.reduceAdd, set_new, List.set_cons_succ, List.set_cons_zero, List.append_assoc, List.cons_append, List.nil_append]
  refine ⟨pres_pre (by simp [Pre]), ?_⟩
  simp (implicitDefEqProofs := false) (maxSteps := 2000000) only [go_sem, Nat.reduceAdd, Nat.reduceSub, Nat.reduceMul, Nat.reduceLT, Nat.reduceLeDiff, Nat.reduceEqDiff, Nat.reduceBEq, Nat.reduceBNe, Nat.reducePow, Int.reduceBEq, Int.reduceBNe, Int.reduceEq, Int.reduceLT, Int.reduceLE, Int.reduceNeg, Int.reduceToNat, Int.reduceMul, Int.reduceAdd, Int.reduceSub, Int.reducePow, Int.reduceFDiv, reduceCtorEq, reduceIte]
  refine dstep_call (any_calls f.writes (by omega) _ _ es clk _ hm (by simp)) (pres_pre (by simp [Pre])) ?_
  rw [any_cnt]
  cases hx : hits (g.reads.l ++ g.writes.l) f.writes.l with
  | true =>
    simp (implicitDefEqProofs := false) (maxSteps := 2000000) only [go_sem, Nat.reduceAdd, Nat.reduceSub, Nat.reduceMul, Nat.reduceLT, Nat.reduceLeDiff, Nat.reduceEqDiff, Nat.reduceBEq, Nat.reduceBNe, Nat.reducePow, Int.reduceBEq, Int.reduceBNe, Int.reduceEq, Int.reduceLT, Int.reduceLE, Int.reduceNeg, Int.reduceToNat, Int.reduceMul, Int.reduceAdd, Int.reduceSub, Int.reducePow, Int.reduceFDiv, reduceCtorEq, reduceIte]
    exact apost_tmp (v := .bool (meets f g)) rfl rfl ⟨rfl, rfl⟩ _ _ (by rw [meets, hx]; rfl)
  | false =>
    simp (implicitDefEqProofs := false) (maxSteps := 2000000) only [go_sem, Nat.reduceAdd, Nat.reduceSub, Nat.reduceMul, Nat.reduceLT, Nat.reduceLeDiff, Nat.reduceEqDiff, Nat.reduceBEq, Nat.reduceBNe, Nat.reducePow, Int.reduceBEq, Int.reduceBNe, Int.reduceEq, Int.reduceLT, Int.reduceLE, Int.reduceNeg, Int.reduceToNat, Int.reduceMul, Int.reduceAdd, Int.reduceSub, Int.reducePow, Int.reduceFDiv, reduceCtorEq, reduceIte]
    refine dstep_calls (of_callsB [f.reads] (by simp) (by rw [catS_one]; omega) _ (h.length + 4) 1 ?_) ?_
    · exact at_new _ _ _
    intro v h1 hR
    obtain ⟨rfl, es2, clk2, rfl, hm2⟩ := hR
    rw [catS_one] at hm2
    simp only [List.length_append, List.length_cons, List.length_nil, Nat.zero_add, Nat.reduceAdd, set_new, List.set_cons_succ, List.set_cons_zero, List.append_assoc, List.cons_append, List.nil_append]
    refine ⟨pres_pre (by simp [Pre]), ?_⟩
    simp (implicitDefEqProofs := false) (maxSteps := 2000000) only [go_sem, Nat.reduceAdd, Nat.reduceSub, Nat.reduceMul, Nat.reduceLT, Nat.reduceLeDiff, Nat.reduceEqDiff, Nat.reduceBEq, Nat.reduceBNe, Nat.reducePow, Int.reduceBEq, Int.reduceBNe, Int.reduceEq, Int.reduceLT, Int.reduceLE, Int.reduceNeg, Int.reduceToNat, Int.reduceMul, Int.reduceAdd, Int.reduceSub, Int.reducePow, Int.reduceFDiv, reduceCtorEq, reduceIte]
    refine dstep_call (any_calls g.writes (by omega) _ _ es2 clk2 _ hm2 (by simp)) (pres_pre (by simp [Pre])) ?_
    rw [any_cnt]
    simp (implicitDefEqProofs := false) (maxSteps := 2000000) only [go_sem, Nat.reduceAdd, Nat.reduceSub, Nat.reduceMul, Nat.reduceLT, Nat.reduceLeDiff, Nat.reduceEqDiff, Nat.reduceBEq, Nat.reduceBNe, Nat.reducePow, Int.reduceBEq, Int.reduceBNe, Int.reduceEq, Int.reduceLT, Int.reduceLE, Int.reduceNeg, Int.reduceToNat, Int.reduceMul, Int.reduceAdd, Int.reduceSub, Int.reducePow, Int.reduceFDiv, reduceCtorEq, reduceIte]
    exact apost_tmp (v := .bool (meets f g)) rfl rfl ⟨rfl, rfl⟩ _ _ (by rw [meets, hx]; rfl)
theorem load_foot0 {l : List Foot} {i : Nat} (hi : i < l.length) : mkLoadF (flatV encFoot l) (i * 2) (some (false, 1)) = some (slV encPl l[i].reads) :=
  loadF_part (off := 0) (m := 1) length_encFoot hi (by omega) (by omega)
theorem load_foot1 {l : List Foot} {i : Nat} (hi : i < l.length) : mkLoadF (flatV encFoot l) (i * 2 + 1) (some (false, 1)) = some (slV encPl l[i].writes) :=
  loadF_part (off := 1) (m := 1) length_encFoot hi (by omega) (by omega)
attribute [go_sem] load_foot0 load_foot1
def weight (f : Foot) : Nat := min f.reads.l.length 101 + min f.writes.l.length 101
def total (l : List Foot) : Nat := (l.map weight).sum
theorem total_take {l : List Foot} {i : Nat} (hi : i < l.length) : total (l.take (i + 1)) = total (l.take i) + weight l[i] := by
  unfold total; rw [List.take_add_one, List.getElem?_eq_getElem hi, List.map_append, List.sum_append]; simp
theorem total_le {l : List Foot} (i : Nat) : total (l.take i) ≤ total l := by
  have h : total l = total (l.take i) + total (l.drop i) := by
    unfold total; rw [← List.sum_append, ← List.map_append, List.take_append_drop]
  omega
set_option maxRecDepth 10000 in
set_option maxHeartbeats 4000000 in
theorem heavy_calls (s : Sl Foot) (hs : s.l.length < 2 ^ 63) (h : AH) :
    ACalls Try.prog 15 #[slV encFoot s] h (fun v h' => v = .bool (decide (100 < s.l.length + total s.l)) ∧ h' = h) := by
  refine ACalls.of_ay Try.func15 rfl Try.ntmps15 ⟨_, _, rfl, rfl⟩ ?_; simp only [List.length_cons, List.length_nil, Nat.reduceAdd, Nat.reduceSub, List.replicate_succ, List.replicate_zero, List.cons_append, List.nil_append]
  simp (implicitDefEqProofs := false) (maxSteps := 2000000) only [go_sem, Nat.reduceAdd, Nat.reduceSub, Nat.reduceMul, Nat.reduceLT, Nat.reduceLeDiff, Nat.reduceEqDiff, Nat.reduceBEq, Nat.reduceBNe, Nat.reducePow, Int.reduceBEq, Int.reduceBNe, Int.reduceEq, Int.reduceLT, Int.reduceLE, Int.reduceNeg, Int.reduceToNat, Int.reduceMul, Int.reduceAdd, Int.reduceSub, Int.reducePow, Int.reduceFDiv, reduceCtorEq, reduceIte]
  refine AWP.loopI (fun i : Nat => s.l.length - i) (fun i => [slV encFoot s, junk, junk, .int .i64 ((s.l.length + total (s.l.take i) : Nat) : Int), .int .i64 (i : Nat), junk, junk, junk, junk, junk, junk, junk, junk, junk, junk, junk, junk, junk, junk, junk, junk, junk, junk, junk, junk, junk, junk, junk, junk, junk, junk, junk, junk, junk, junk, junk]) (fun _ => h) (fun i => i ≤ s.l.length) 0 (Nat.zero_le _) ?_ ?_
  · refine Keeps.ease0 ?_
    simp only [List.take_zero, total, List.map_nil, List.sum_nil, Nat.add_zero]
    repeat (first | exact Keeps.nil | refine Keeps.junk _ ?_ | refine Keeps.keep (by first | exact .plain _ rfl | exact (Tree.slV tree_encFoot _).ren) ?_)
  · intro i hi
    by_cases hlt : i < s.l.length
    · by_cases hle : s.l.length + total (s.l.take i) ≤ 100
      · have hle' : ((s.l.length + total (s.l.take i) : Nat) : Int) ≤ 100 := by omega
        simp (implicitDefEqProofs := false) (maxSteps := 2000000) only [go_sem, Nat.reduceAdd, Nat.reduceSub, Nat.reduceMul, Nat.reduceLT, Nat.reduceLeDiff, Nat.reduceEqDiff, Nat.reduceBEq, Nat.reduceBNe, Nat.reducePow, Int.reduceBEq, Int.reduceBNe, Int.reduceEq, Int.reduceLT, Int.reduceLE, Int.reduceNeg, Int.reduceToNat, Int.reduceMul, Int.reduceAdd, Int.reduceSub, Int.reducePow, Int.reduceFDiv, reduceCtorEq, reduceIte, hlt, hle']
        refine ⟨by kernel_rfl, by kernel_rfl, ?_⟩
        refine ⟨i + 1, by omega, by omega, Keeps.ease0 ?_⟩
        have hw : (if (101 : Int) < (s.l[i].reads.l.length : Nat) then 101 else ((s.l[i].reads.l.length : Nat) : Int)) + (if (101 : Int) < (s.l[i].writes.l.length : Nat) then 101 else ((s.l[i].writes.l.length : Nat) : Int)) = (weight s.l[i] : Nat) := by
          unfold weight; split <;> split <;> omega
        have hwl : weight s.l[i] ≤ 202 := by unfold weight; omega
        rw [hw, wrap_i64_of ((weight s.l[i] : Nat) : Int) (by omega) (by omega), ← Int.natCast_add, wrap_i64_of _ (by omega) (by omega), wrap_i64_of _ (by omega) (by omega), ofNat_succ', Nat.add_assoc, ← total_take hlt]
        repeat (first | exact Keeps.nil | refine Keeps.junk _ ?_ | refine Keeps.keep (by first | exact .plain _ rfl | exact (Tree.slV tree_encFoot _).ren) ?_)
      · have hle' : ¬ ((s.l.length + total (s.l.take i) : Nat) : Int) ≤ 100 := by omega
        simp (implicitDefEqProofs := false) (maxSteps := 2000000) only [go_sem, Nat.reduceAdd, Nat.reduceSub, Nat.reduceMul, Nat.reduceLT, Nat.reduceLeDiff, Nat.reduceEqDiff, Nat.reduceBEq, Nat.reduceBNe, Nat.reducePow, Int.reduceBEq, Int.reduceBNe, Int.reduceEq, Int.reduceLT, Int.reduceLE, Int.reduceNeg, Int.reduceToNat, Int.reduceMul, Int.reduceAdd, Int.reduceSub, Int.reducePow, Int.reduceFDiv, reduceCtorEq, reduceIte, hlt, hle']
        refine apost_tmp0 (v := .bool (decide (100 < s.l.length + total s.l))) rfl rfl ⟨rfl, rfl⟩ _ ?_
        have := total_le (l := s.l) i
        show Value.bool _ = Value.bool _
        congr 1
        rw [decide_eq_decide]; omega
    · simp (implicitDefEqProofs := false) (maxSteps := 2000000) only [go_sem, Nat.reduceAdd, Nat.reduceSub, Nat.reduceMul, Nat.reduceLT, Nat.reduceLeDiff, Nat.reduceEqDiff, Nat.reduceBEq, Nat.reduceBNe, Nat.reducePow, Int.reduceBEq, Int.reduceBNe, Int.reduceEq, Int.reduceLT, Int.reduceLE, Int.reduceNeg, Int.reduceToNat, Int.reduceMul, Int.reduceAdd, Int.reduceSub, Int.reducePow, Int.reduceFDiv, reduceCtorEq, reduceIte, hlt]
      refine apost_tmp0 (v := .bool (decide (100 < s.l.length + total s.l))) rfl rfl ⟨rfl, rfl⟩ _ ?_
      rw [List.take_of_length_le (by omega)]
      show Value.bool _ = Value.bool _
      congr 1
      rw [decide_eq_decide]; omega
end Go.Proofs.Fp
