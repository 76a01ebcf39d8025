import Derived.Test.YtogefnepdjkioaaTrc1
set_option linter.unusedSimpArgs false
set_option linter.unusedVariables false
namespace Go.Proofs
open Go Go.Am

def callsB (n : Nat) : Bool := n == 241 || n == 242 || n == 244 || n == 250

set_option maxRecDepth 10000 in
set_option maxHeartbeats 4000000 in
theorem callsR_calls (b : UInt8) (h : AH) : ACalls Try.prog 33 #[.int .u8 b.toNat] h (fun v h' => v = .bool (callsB b.toNat) ∧ h' = h) := by
  refine ACalls.of_ay Try.func33 rfl Try.ntmps33 ⟨_, _, rfl, rfl⟩ ?_; simp only [List.length_cons, List.length_nil, Nat.reduceAdd, Nat.reduceSub, List.replicate_succ, List.replicate_zero, List.cons_append, List.nil_append]
  have e : ∀ k : Nat, (((b.toNat : Nat) : Int) == ((k : Nat) : Int)) = (b.toNat == k) := fun k => by rw [Bool.eq_iff_iff, beq_iff_eq, beq_iff_eq]; omega
  have e1 := e 241
  have e2 := e 242
  have e3 := e 244
  have e4 := e 250
  simp only [Int.cast_ofNat_Int] at e1 e2 e3 e4
  unfold callsB
  cases h1 : (b.toNat == 241) <;> cases h2 : (b.toNat == 242) <;> cases h3 : (b.toNat == 244) <;> cases h4 : (b.toNat == 250) <;> rw [h1] at e1 <;> rw [h2] at e2 <;> rw [h3] at e3 <;> rw [h4] at e4 <;>
    (simp (implicitDefEqProofs := false) only [go_sem, Nat.reduceAdd, Nat.reduceSub, Nat.reduceMul, Nat.reduceLT, Nat.reduceLeDiff, Nat.reduceEqDiff, Nat.reduceBEq, Nat.reduceBNe, Nat.reducePow, Int.reduceBEq, Int.reduceBNe, Int.reduceEq, Int.reduceLT, Int.reduceLE, Int.reduceNeg, Int.reduceToNat, Int.reduceMul, Int.reduceAdd, Int.reduceSub, Int.reducePow, Int.reduceFDiv, reduceCtorEq, reduceIte, e1, e2, e3, e4]; exact apost_tmp0 rfl rfl ⟨rfl, rfl⟩ _ rfl)

set_option maxRecDepth 10000 in
set_option maxHeartbeats 4000000 in
theorem calls_calls (x : Ev) (h : AH) : ACalls Try.prog 32 #[.agg (encEv x).toArray] h (fun v h' => v = .bool (callsB x.op.toNat && (x.fault == 0)) ∧ h' = h) := by
  refine ACalls.of_ay Try.func32 rfl Try.ntmps32 ⟨_, _, rfl, rfl⟩ ?_; simp only [List.length_cons, List.length_nil, Nat.reduceAdd, Nat.reduceSub, List.replicate_succ, List.replicate_zero, List.cons_append, List.nil_append]
  have e : ∀ k : Nat, (((x.op.toNat : Nat) : Int) == ((k : Nat) : Int)) = (x.op.toNat == k) := fun k => by rw [Bool.eq_iff_iff, beq_iff_eq, beq_iff_eq]; omega
  have e1 := e 241
  have e2 := e 242
  have e3 := e 244
  have e4 := e 250
  simp only [Int.cast_ofNat_Int] at e1 e2 e3 e4
  unfold callsB
  cases h1 : (x.op.toNat == 241) <;> cases h2 : (x.op.toNat == 242) <;> cases h3 : (x.op.toNat == 244) <;> cases h4 : (x.op.toNat == 250) <;> rw [h1] at e1 <;> rw [h2] at e2 <;> rw [h3] at e3 <;> rw [h4] at e4 <;>
    (simp (implicitDefEqProofs := false) only [go_sem, Nat.reduceAdd, Nat.reduceSub, Nat.reduceMul, Nat.reduceLT, Nat.reduceLeDiff, Nat.reduceEqDiff, Nat.reduceBEq, Nat.reduceBNe, Nat.reducePow, Int.reduceBEq, Int.reduceBNe, Int.reduceEq, Int.reduceLT, Int.reduceLE, Int.reduceNeg, Int.reduceToNat, Int.reduceMul, Int.reduceAdd, Int.reduceSub, Int.reducePow, Int.reduceFDiv, reduceCtorEq, reduceIte, e1, e2, e3, e4]; exact apost_tmp rfl rfl ⟨rfl, rfl⟩ _ _ rfl)

def looseP (s : List Ev) (i : Nat) : Bool := match s[i]? with
  | none => false
  | some e => !(((e.op.toNat : Nat) : Int) != 90) && !(e.fault != 0) && !(match s[i + 1]? with
    | none => false
    | some f => callsB f.op.toNat && (f.fault == 0) && (f.depth == e.depth) && decide (f.self = e.self))
theorem looseP_at {s : List Ev} {i : Nat} (hi : i < s.length) : looseP s i = (!(((s[i].op.toNat : Nat) : Int) != 90) && !(s[i].fault != 0) && !(match s[i + 1]? with
    | none => false
    | some f => callsB f.op.toNat && (f.fault == 0) && (f.depth == s[i].depth) && decide (f.self = s[i].self))) := by simp [looseP, hi]
/- LOOSE -/
set_option maxRecDepth 10000 in
set_option maxHeartbeats 8000000 in
theorem loose_calls (s : Sl Ev) (hs : s.l.length ≤ 1500) (h : AH) :
    ACalls Try.prog 13 #[slV encEv s] h (fun v h' => v = slV encI (Sl.app (pickI s.l.length (looseP s.l))) ∧ h' = h) := by
  refine ACalls.of_ay Try.func13 rfl Try.ntmps13 ⟨_, _, rfl, rfl⟩ ?_; simp only [List.length_cons, List.length_nil, Nat.reduceAdd, Nat.reduceSub, List.replicate_succ, List.replicate_zero, List.cons_append, List.nil_append]
  simp (implicitDefEqProofs := false) only [go_sem, Nat.reduceAdd, Nat.reduceSub, Nat.reduceMul, Nat.reduceLT, Nat.reduceLeDiff, Nat.reduceEqDiff, Nat.reduceBEq, Nat.reduceBNe, Nat.reducePow, Int.reduceBEq, Int.reduceBNe, Int.reduceEq, Int.reduceLT, Int.reduceLE, Int.reduceNeg, Int.reduceToNat, Int.reduceMul, Int.reduceAdd, Int.reduceSub, Int.reducePow, Int.reduceFDiv, reduceCtorEq, reduceIte]
  refine AWP.loopI (fun i : Nat => s.l.length - i) (fun i => [slV encEv s, junk, junk, outV h.length (pickI i (looseP s.l)), junk, junk, slV encEv s, .int .i64 (s.l.length : Nat), .int .i64 (i : Nat), junk, junk, junk, junk, junk, junk, junk, junk, junk, junk, junk, junk, junk, junk, junk, junk, junk, junk, junk, junk, junk, junk, junk, junk, junk, junk, junk, junk, junk, junk, junk, junk, junk, junk, junk, junk, junk, junk, junk, junk, junk, junk, junk, junk, junk, junk, junk, junk, junk, junk, junk, junk, junk]) (fun i => h ++ [outO encI 1 (pickI i (looseP s.l))]) (fun i => i ≤ s.l.length) 0 (Nat.zero_le _) ?_ ?_
  · refine Keeps.easeG ?_
    repeat (first | exact Keeps.nil | refine Keeps.junk _ ?_ | refine Keeps.keep (by first | exact .plain _ rfl | exact (Tree.slV tree_encEv _).ren) ?_)
  · intro i hi
    by_cases hlt : i < s.l.length
    · have hp := looseP_at hlt
      have hlen : (pickI i (looseP s.l)).length ≤ i := pickI_len
      have hw : IntKind.i64.wrap ((i : Int) + 1) = ((i + 1 : Nat) : Int) := by rw [wrap_i64_of _ (by omega) (by omega), ofNat_succ']
      cases hA : (((s.l[i].op.toNat : Nat) : Int) != 90) with
      | true =>
        rw [hA] at hp; simp only [Bool.not_true, Bool.false_and] at hp
        simp (implicitDefEqProofs := false) only [go_sem, Nat.reduceAdd, Nat.reduceSub, Nat.reduceMul, Nat.reduceLT, Nat.reduceLeDiff, Nat.reduceEqDiff, Nat.reduceBEq, Nat.reduceBNe, Nat.reducePow, Int.reduceBEq, Int.reduceBNe, Int.reduceEq, Int.reduceLT, Int.reduceLE, Int.reduceNeg, Int.reduceToNat, Int.reduceMul, Int.reduceAdd, Int.reduceSub, Int.reducePow, Int.reduceFDiv, reduceCtorEq, reduceIte, hlt, hA, hw]
        refine ⟨i + 1, by omega, by omega, ?_⟩
        rw [pickI_no hp]
        refine Keeps.easeX (outO_ren tree_encI) ?_
        repeat (first | exact Keeps.nil | refine Keeps.junk _ ?_ | refine Keeps.keep (by first | exact .plain _ rfl | exact (Tree.slV tree_encEv _).ren | exact outV_id) ?_)
      | false =>
      cases hB : (s.l[i].fault != 0) with
      | true =>
        rw [hA, hB] at hp; simp only [Bool.not_true, Bool.not_false, Bool.true_and, Bool.false_and] at hp
        simp (implicitDefEqProofs := false) only [go_sem, Nat.reduceAdd, Nat.reduceSub, Nat.reduceMul, Nat.reduceLT, Nat.reduceLeDiff, Nat.reduceEqDiff, Nat.reduceBEq, Nat.reduceBNe, Nat.reducePow, Int.reduceBEq, Int.reduceBNe, Int.reduceEq, Int.reduceLT, Int.reduceLE, Int.reduceNeg, Int.reduceToNat, Int.reduceMul, Int.reduceAdd, Int.reduceSub, Int.reducePow, Int.reduceFDiv, reduceCtorEq, reduceIte, hlt, hA, hB, hw]
        refine ⟨i + 1, by omega, by omega, ?_⟩
        rw [pickI_no hp]
        refine Keeps.easeX (outO_ren tree_encI) ?_
        repeat (first | exact Keeps.nil | refine Keeps.junk _ ?_ | refine Keeps.keep (by first | exact .plain _ rfl | exact (Tree.slV tree_encEv _).ren | exact outV_id) ?_)
      | false =>
      rw [hA, hB] at hp; simp only [Bool.not_false, Bool.true_and] at hp
      by_cases hn : i + 1 < s.l.length
      · rw [List.getElem?_eq_getElem hn] at hp; simp only at hp
        simp (implicitDefEqProofs := false) only [go_sem, Nat.reduceAdd, Nat.reduceSub, Nat.reduceMul, Nat.reduceLT, Nat.reduceLeDiff, Nat.reduceEqDiff, Nat.reduceBEq, Nat.reduceBNe, Nat.reducePow, Int.reduceBEq, Int.reduceBNe, Int.reduceEq, Int.reduceLT, Int.reduceLE, Int.reduceNeg, Int.reduceToNat, Int.reduceMul, Int.reduceAdd, Int.reduceSub, Int.reducePow, Int.reduceFDiv, reduceCtorEq, reduceIte, hlt, hA, hB, hw, hn]
        refine ⟨by kernel_rfl, by kernel_rfl, ?_⟩
        refine dstep_call (calls_calls _ _) pres_refl ?_
        cases hC : (callsB s.l[i + 1].op.toNat && (s.l[i + 1].fault == 0)) with
        | false =>
          rw [hC] at hp; simp only [Bool.false_and, Bool.not_false] at hp
          simp (implicitDefEqProofs := false) only [go_sem, Nat.reduceAdd, Nat.reduceSub, Nat.reduceMul, Nat.reduceLT, Nat.reduceLeDiff, Nat.reduceEqDiff, Nat.reduceBEq, Nat.reduceBNe, Nat.reducePow, Int.reduceBEq, Int.reduceBNe, Int.reduceEq, Int.reduceLT, Int.reduceLE, Int.reduceNeg, Int.reduceToNat, Int.reduceMul, Int.reduceAdd, Int.reduceSub, Int.reducePow, Int.reduceFDiv, reduceCtorEq, reduceIte, hw, mkApp_outN (enc := encI) (m := 1) (n := 1) (by_ := 8) (l := pickI i (looseP s.l)) length_encI (Nat.zero_lt_one) ⟨by omega, by omega⟩]
          refine ⟨i + 1, by omega, by omega, ?_⟩
          rw [pickI_yes hp]
          refine Eases.pick1 3 (outO encI 1 (pickI i (looseP s.l) ++ [(i : Int)])) ⟨_, rfl, outO_renS tree_encI⟩ ?_
          repeat (first | exact KeepsS.nil | refine KeepsS.junk _ ?_ | refine KeepsS.keep (by first | exact .plain _ rfl | exact (Tree.slV tree_encEv _).ren | exact outV_renS) ?_)
        | true =>
        cases hD : (s.l[i + 1].depth == s.l[i].depth) with
        | false =>
          rw [hC, hD] at hp; simp only [Bool.true_and, Bool.and_false, Bool.false_and, Bool.not_false] at hp
          simp (implicitDefEqProofs := false) only [go_sem, Nat.reduceAdd, Nat.reduceSub, Nat.reduceMul, Nat.reduceLT, Nat.reduceLeDiff, Nat.reduceEqDiff, Nat.reduceBEq, Nat.reduceBNe, Nat.reducePow, Int.reduceBEq, Int.reduceBNe, Int.reduceEq, Int.reduceLT, Int.reduceLE, Int.reduceNeg, Int.reduceToNat, Int.reduceMul, Int.reduceAdd, Int.reduceSub, Int.reducePow, Int.reduceFDiv, reduceCtorEq, reduceIte, hD, hlt, hn, hw, mkApp_outN (enc := encI) (m := 1) (n := 1) (by_ := 8) (l := pickI i (looseP s.l)) length_encI (Nat.zero_lt_one) ⟨by omega, by omega⟩]
          refine ⟨i + 1, by omega, by omega, ?_⟩
          rw [pickI_yes hp]
          refine Eases.pick1 3 (outO encI 1 (pickI i (looseP s.l) ++ [(i : Int)])) ⟨_, rfl, outO_renS tree_encI⟩ ?_
          repeat (first | exact KeepsS.nil | refine KeepsS.junk _ ?_ | refine KeepsS.keep (by first | exact .plain _ rfl | exact (Tree.slV tree_encEv _).ren | exact outV_renS) ?_)
        | true =>
        cases hE : decide (s.l[i + 1].self = s.l[i].self) with
        | false =>
          rw [hC, hD, hE] at hp; simp only [Bool.true_and, Bool.and_false, Bool.and_true, Bool.false_and, Bool.not_false] at hp
          simp (implicitDefEqProofs := false) only [go_sem, Nat.reduceAdd, Nat.reduceSub, Nat.reduceMul, Nat.reduceLT, Nat.reduceLeDiff, Nat.reduceEqDiff, Nat.reduceBEq, Nat.reduceBNe, Nat.reducePow, Int.reduceBEq, Int.reduceBNe, Int.reduceEq, Int.reduceLT, Int.reduceLE, Int.reduceNeg, Int.reduceToNat, Int.reduceMul, Int.reduceAdd, Int.reduceSub, Int.reducePow, Int.reduceFDiv, reduceCtorEq, reduceIte, hD, hE, hlt, hn, hw, mkApp_outN (enc := encI) (m := 1) (n := 1) (by_ := 8) (l := pickI i (looseP s.l)) length_encI (Nat.zero_lt_one) ⟨by omega, by omega⟩]
          refine ⟨i + 1, by omega, by omega, ?_⟩
          rw [pickI_yes hp]
          refine Eases.pick1 3 (outO encI 1 (pickI i (looseP s.l) ++ [(i : Int)])) ⟨_, rfl, outO_renS tree_encI⟩ ?_
          repeat (first | exact KeepsS.nil | refine KeepsS.junk _ ?_ | refine KeepsS.keep (by first | exact .plain _ rfl | exact (Tree.slV tree_encEv _).ren | exact outV_renS) ?_)
        | true =>
          rw [hC, hD, hE] at hp; simp only [Bool.true_and, Bool.and_true, Bool.not_true] at hp
          simp (implicitDefEqProofs := false) only [go_sem, Nat.reduceAdd, Nat.reduceSub, Nat.reduceMul, Nat.reduceLT, Nat.reduceLeDiff, Nat.reduceEqDiff, Nat.reduceBEq, Nat.reduceBNe, Nat.reducePow, Int.reduceBEq, Int.reduceBNe, Int.reduceEq, Int.reduceLT, Int.reduceLE, Int.reduceNeg, Int.reduceToNat, Int.reduceMul, Int.reduceAdd, Int.reduceSub, Int.reducePow, Int.reduceFDiv, reduceCtorEq, reduceIte, hD, hE, hlt, hn, hw, mkApp_outN (enc := encI) (m := 1) (n := 1) (by_ := 8) (l := pickI i (looseP s.l)) length_encI (Nat.zero_lt_one) ⟨by omega, by omega⟩]
          refine ⟨i + 1, by omega, by omega, ?_⟩
          rw [pickI_no hp]
          refine Keeps.easeX (outO_ren tree_encI) ?_
          repeat (first | exact Keeps.nil | refine Keeps.junk _ ?_ | refine Keeps.keep (by first | exact .plain _ rfl | exact (Tree.slV tree_encEv _).ren | exact outV_id) ?_)
      · rw [List.getElem?_eq_none (by omega)] at hp; simp only [Bool.not_false] at hp
        simp (implicitDefEqProofs := false) only [go_sem, Nat.reduceAdd, Nat.reduceSub, Nat.reduceMul, Nat.reduceLT, Nat.reduceLeDiff, Nat.reduceEqDiff, Nat.reduceBEq, Nat.reduceBNe, Nat.reducePow, Int.reduceBEq, Int.reduceBNe, Int.reduceEq, Int.reduceLT, Int.reduceLE, Int.reduceNeg, Int.reduceToNat, Int.reduceMul, Int.reduceAdd, Int.reduceSub, Int.reducePow, Int.reduceFDiv, reduceCtorEq, reduceIte, hlt, hA, hB, hw, hn, mkApp_outN (enc := encI) (m := 1) (n := 1) (by_ := 8) (l := pickI i (looseP s.l)) length_encI (Nat.zero_lt_one) ⟨by omega, by omega⟩]
        refine ⟨by kernel_rfl, by kernel_rfl, ?_⟩
        try simp (implicitDefEqProofs := false) only [go_sem, Nat.reduceAdd, Nat.reduceSub, Nat.reduceMul, Nat.reduceLT, Nat.reduceLeDiff, Nat.reduceEqDiff, Nat.reduceBEq, Nat.reduceBNe, Nat.reducePow, Int.reduceBEq, Int.reduceBNe, Int.reduceEq, Int.reduceLT, Int.reduceLE, Int.reduceNeg, Int.reduceToNat, Int.reduceMul, Int.reduceAdd, Int.reduceSub, Int.reducePow, Int.reduceFDiv, reduceCtorEq, reduceIte, hw, mkApp_outN (enc := encI) (m := 1) (n := 1) (by_ := 8) (l := pickI i (looseP s.l)) length_encI (Nat.zero_lt_one) ⟨by omega, by omega⟩]
        refine ⟨i + 1, by omega, by omega, ?_⟩
        rw [pickI_yes hp]
        refine Eases.pick1 3 (outO encI 1 (pickI i (looseP s.l) ++ [(i : Int)])) ⟨_, rfl, outO_renS tree_encI⟩ ?_
        repeat (first | exact KeepsS.nil | refine KeepsS.junk _ ?_ | refine KeepsS.keep (by first | exact .plain _ rfl | exact (Tree.slV tree_encEv _).ren | exact outV_renS) ?_)
    · simp (implicitDefEqProofs := false) only [go_sem, Nat.reduceAdd, Nat.reduceSub, Nat.reduceMul, Nat.reduceLT, Nat.reduceLeDiff, Nat.reduceEqDiff, Nat.reduceBEq, Nat.reduceBNe, Nat.reducePow, Int.reduceBEq, Int.reduceBNe, Int.reduceEq, Int.reduceLT, Int.reduceLE, Int.reduceNeg, Int.reduceToNat, Int.reduceMul, Int.reduceAdd, Int.reduceSub, Int.reducePow, Int.reduceFDiv, reduceCtorEq, reduceIte, hlt]
      have hie : i = s.l.length := by omega
      subst hie
      exact apost_out rfl length_encI tree_encI ⟨rfl, rfl⟩ _ rfl

set_option maxRecDepth 10000 in
set_option maxHeartbeats 8000000 in
theorem looseR_calls (s : Sl Ev) (hs : s.l.length ≤ 1500) (h : AH) :
    ACalls Try.prog 14 #[slV encEv s] h (fun v h' => v = slV encI (Sl.app (pickI s.l.length (looseP s.l))) ∧ h' = h) := by
  refine ACalls.of_ay Try.func14 rfl Try.ntmps14 ⟨_, _, rfl, rfl⟩ ?_; simp only [List.length_cons, List.length_nil, Nat.reduceAdd, Nat.reduceSub, List.replicate_succ, List.replicate_zero, List.cons_append, List.nil_append]
  simp (implicitDefEqProofs := false) only [go_sem, Nat.reduceAdd, Nat.reduceSub, Nat.reduceMul, Nat.reduceLT, Nat.reduceLeDiff, Nat.reduceEqDiff, Nat.reduceBEq, Nat.reduceBNe, Nat.reducePow, Int.reduceBEq, Int.reduceBNe, Int.reduceEq, Int.reduceLT, Int.reduceLE, Int.reduceNeg, Int.reduceToNat, Int.reduceMul, Int.reduceAdd, Int.reduceSub, Int.reducePow, Int.reduceFDiv, reduceCtorEq, reduceIte]
  refine AWP.loopI (fun i : Nat => s.l.length - i) (fun i => [slV encEv s, junk, junk, outV h.length (pickI i (looseP s.l)), .int .i64 (i : Nat), junk, junk, junk, junk, junk, junk, junk, junk, junk, junk, junk, junk, junk, junk, junk, junk, junk, junk, junk, junk, junk, junk, junk, junk, junk, junk, junk, junk, junk, junk, junk, junk, junk, junk, junk, junk, junk, junk, junk, junk, junk, junk, junk, junk, junk, junk, junk, junk, junk, junk, junk, junk, junk, junk, junk, junk, junk, junk, junk, junk, junk, junk, junk, junk, junk, junk, junk, junk, junk, junk, junk, junk, junk, junk, junk, junk, junk, junk, junk, junk, junk]) (fun i => h ++ [outO encI 1 (pickI i (looseP s.l))]) (fun i => i ≤ s.l.length) 0 (Nat.zero_le _) ?_ ?_
  · refine Keeps.easeG ?_
    repeat (first | exact Keeps.nil | refine Keeps.junk _ ?_ | refine Keeps.keep (by first | exact .plain _ rfl | exact (Tree.slV tree_encEv _).ren) ?_)
  · intro i hi
    by_cases hlt : i < s.l.length
    · have hp := looseP_at hlt
      have hlen : (pickI i (looseP s.l)).length ≤ i := pickI_len
      have hw : IntKind.i64.wrap ((i : Int) + 1) = ((i + 1 : Nat) : Int) := by rw [wrap_i64_of _ (by omega) (by omega), ofNat_succ']
      cases hA : (((s.l[i].op.toNat : Nat) : Int) != 90) with
      | true =>
        rw [hA] at hp; simp only [Bool.not_true, Bool.false_and] at hp
        simp (implicitDefEqProofs := false) only [go_sem, Nat.reduceAdd, Nat.reduceSub, Nat.reduceMul, Nat.reduceLT, Nat.reduceLeDiff, Nat.reduceEqDiff, Nat.reduceBEq, Nat.reduceBNe, Nat.reducePow, Int.reduceBEq, Int.reduceBNe, Int.reduceEq, Int.reduceLT, Int.reduceLE, Int.reduceNeg, Int.reduceToNat, Int.reduceMul, Int.reduceAdd, Int.reduceSub, Int.reducePow, Int.reduceFDiv, reduceCtorEq, reduceIte, hlt, hA, hw]
        refine ⟨i + 1, by omega, by omega, ?_⟩
        rw [pickI_no hp]
        refine Keeps.easeT (outO_ren tree_encI) ?_
        repeat (first | exact Keeps.nil | refine Keeps.junk _ ?_ | refine Keeps.keep (by first | exact .plain _ rfl | exact (Tree.slV tree_encEv _).ren | exact outV_id) ?_)
      | false =>
      cases hB : (s.l[i].fault != 0) with
      | true =>
        rw [hA, hB] at hp; simp only [Bool.not_true, Bool.not_false, Bool.true_and, Bool.false_and] at hp
        simp (implicitDefEqProofs := false) only [go_sem, Nat.reduceAdd, Nat.reduceSub, Nat.reduceMul, Nat.reduceLT, Nat.reduceLeDiff, Nat.reduceEqDiff, Nat.reduceBEq, Nat.reduceBNe, Nat.reducePow, Int.reduceBEq, Int.reduceBNe, Int.reduceEq, Int.reduceLT, Int.reduceLE, Int.reduceNeg, Int.reduceToNat, Int.reduceMul, Int.reduceAdd, Int.reduceSub, Int.reducePow, Int.reduceFDiv, reduceCtorEq, reduceIte, hlt, hA, hB, hw]
        refine ⟨i + 1, by omega, by omega, ?_⟩
        rw [pickI_no hp]
        refine Keeps.easeT (outO_ren tree_encI) ?_
        repeat (first | exact Keeps.nil | refine Keeps.junk _ ?_ | refine Keeps.keep (by first | exact .plain _ rfl | exact (Tree.slV tree_encEv _).ren | exact outV_id) ?_)
      | false =>
      rw [hA, hB] at hp; simp only [Bool.not_false, Bool.true_and] at hp
      by_cases hn : i + 1 < s.l.length
      · rw [List.getElem?_eq_getElem hn] at hp; simp only at hp
        simp (implicitDefEqProofs := false) only [go_sem, Nat.reduceAdd, Nat.reduceSub, Nat.reduceMul, Nat.reduceLT, Nat.reduceLeDiff, Nat.reduceEqDiff, Nat.reduceBEq, Nat.reduceBNe, Nat.reducePow, Int.reduceBEq, Int.reduceBNe, Int.reduceEq, Int.reduceLT, Int.reduceLE, Int.reduceNeg, Int.reduceToNat, Int.reduceMul, Int.reduceAdd, Int.reduceSub, Int.reducePow, Int.reduceFDiv, reduceCtorEq, reduceIte, hlt, hA, hB, hw, hn]
        refine ⟨by kernel_rfl, by kernel_rfl, ?_⟩
        refine dstep_call (callsR_calls _ _) pres_refl ?_
        cases hC : callsB s.l[i + 1].op.toNat with
        | false =>
          rw [hC] at hp; simp only [Bool.false_and, Bool.not_false] at hp
          simp (implicitDefEqProofs := false) only [go_sem, Nat.reduceAdd, Nat.reduceSub, Nat.reduceMul, Nat.reduceLT, Nat.reduceLeDiff, Nat.reduceEqDiff, Nat.reduceBEq, Nat.reduceBNe, Nat.reducePow, Int.reduceBEq, Int.reduceBNe, Int.reduceEq, Int.reduceLT, Int.reduceLE, Int.reduceNeg, Int.reduceToNat, Int.reduceMul, Int.reduceAdd, Int.reduceSub, Int.reducePow, Int.reduceFDiv, reduceCtorEq, reduceIte, hw, mkApp_outN (enc := encI) (m := 1) (n := 1) (by_ := 8) (l := pickI i (looseP s.l)) length_encI (Nat.zero_lt_one) ⟨by omega, by omega⟩]
          refine ⟨i + 1, by omega, by omega, ?_⟩
          rw [pickI_yes hp]
          refine Eases.pick1 2 (outO encI 1 (pickI i (looseP s.l) ++ [(i : Int)])) ⟨_, rfl, outO_renS tree_encI⟩ ?_
          repeat (first | exact KeepsS.nil | refine KeepsS.junk _ ?_ | refine KeepsS.keep (by first | exact .plain _ rfl | exact (Tree.slV tree_encEv _).ren | exact outV_renS) ?_)
        | true =>
        cases hG : (s.l[i + 1].fault == 0) with
        | false =>
          rw [hC, hG] at hp; simp only [Bool.true_and, Bool.false_and, Bool.not_false] at hp
          simp (implicitDefEqProofs := false) only [go_sem, Nat.reduceAdd, Nat.reduceSub, Nat.reduceMul, Nat.reduceLT, Nat.reduceLeDiff, Nat.reduceEqDiff, Nat.reduceBEq, Nat.reduceBNe, Nat.reducePow, Int.reduceBEq, Int.reduceBNe, Int.reduceEq, Int.reduceLT, Int.reduceLE, Int.reduceNeg, Int.reduceToNat, Int.reduceMul, Int.reduceAdd, Int.reduceSub, Int.reducePow, Int.reduceFDiv, reduceCtorEq, reduceIte, hw, hG, hlt, hn, mkApp_outN (enc := encI) (m := 1) (n := 1) (by_ := 8) (l := pickI i (looseP s.l)) length_encI (Nat.zero_lt_one) ⟨by omega, by omega⟩]
          refine ⟨i + 1, by omega, by omega, ?_⟩
          rw [pickI_yes hp]
          refine Eases.pick1 2 (outO encI 1 (pickI i (looseP s.l) ++ [(i : Int)])) ⟨_, rfl, outO_renS tree_encI⟩ ?_
          repeat (first | exact KeepsS.nil | refine KeepsS.junk _ ?_ | refine KeepsS.keep (by first | exact .plain _ rfl | exact (Tree.slV tree_encEv _).ren | exact outV_renS) ?_)
        | true =>
        cases hD : (s.l[i + 1].depth == s.l[i].depth) with
        | false =>
          rw [hC, hG, hD] at hp; simp only [Bool.true_and, Bool.and_false, Bool.false_and, Bool.not_false] at hp
          simp (implicitDefEqProofs := false) only [go_sem, Nat.reduceAdd, Nat.reduceSub, Nat.reduceMul, Nat.reduceLT, Nat.reduceLeDiff, Nat.reduceEqDiff, Nat.reduceBEq, Nat.reduceBNe, Nat.reducePow, Int.reduceBEq, Int.reduceBNe, Int.reduceEq, Int.reduceLT, Int.reduceLE, Int.reduceNeg, Int.reduceToNat, Int.reduceMul, Int.reduceAdd, Int.reduceSub, Int.reducePow, Int.reduceFDiv, reduceCtorEq, reduceIte, hD, hG, hlt, hn, hw, mkApp_outN (enc := encI) (m := 1) (n := 1) (by_ := 8) (l := pickI i (looseP s.l)) length_encI (Nat.zero_lt_one) ⟨by omega, by omega⟩]
          refine ⟨i + 1, by omega, by omega, ?_⟩
          rw [pickI_yes hp]
          refine Eases.pick1 2 (outO encI 1 (pickI i (looseP s.l) ++ [(i : Int)])) ⟨_, rfl, outO_renS tree_encI⟩ ?_
          repeat (first | exact KeepsS.nil | refine KeepsS.junk _ ?_ | refine KeepsS.keep (by first | exact .plain _ rfl | exact (Tree.slV tree_encEv _).ren | exact outV_renS) ?_)
        | true =>
        cases hE : decide (s.l[i + 1].self = s.l[i].self) with
        | false =>
          rw [hC, hG, hD, hE] at hp; simp only [Bool.true_and, Bool.and_false, Bool.and_true, Bool.false_and, Bool.not_false] at hp
          simp (implicitDefEqProofs := false) only [go_sem, Nat.reduceAdd, Nat.reduceSub, Nat.reduceMul, Nat.reduceLT, Nat.reduceLeDiff, Nat.reduceEqDiff, Nat.reduceBEq, Nat.reduceBNe, Nat.reducePow, Int.reduceBEq, Int.reduceBNe, Int.reduceEq, Int.reduceLT, Int.reduceLE, Int.reduceNeg, Int.reduceToNat, Int.reduceMul, Int.reduceAdd, Int.reduceSub, Int.reducePow, Int.reduceFDiv, reduceCtorEq, reduceIte, hD, hE, hG, hlt, hn, hw, mkApp_outN (enc := encI) (m := 1) (n := 1) (by_ := 8) (l := pickI i (looseP s.l)) length_encI (Nat.zero_lt_one) ⟨by omega, by omega⟩]
          refine ⟨i + 1, by omega, by omega, ?_⟩
          rw [pickI_yes hp]
          refine Eases.pick1 2 (outO encI 1 (pickI i (looseP s.l) ++ [(i : Int)])) ⟨_, rfl, outO_renS tree_encI⟩ ?_
          repeat (first | exact KeepsS.nil | refine KeepsS.junk _ ?_ | refine KeepsS.keep (by first | exact .plain _ rfl | exact (Tree.slV tree_encEv _).ren | exact outV_renS) ?_)
        | true =>
          rw [hC, hG, hD, hE] at hp; simp only [Bool.true_and, Bool.and_true, Bool.not_true] at hp
          simp (implicitDefEqProofs := false) only [go_sem, Nat.reduceAdd, Nat.reduceSub, Nat.reduceMul, Nat.reduceLT, Nat.reduceLeDiff, Nat.reduceEqDiff, Nat.reduceBEq, Nat.reduceBNe, Nat.reducePow, Int.reduceBEq, Int.reduceBNe, Int.reduceEq, Int.reduceLT, Int.reduceLE, Int.reduceNeg, Int.reduceToNat, Int.reduceMul, Int.reduceAdd, Int.reduceSub, Int.reducePow, Int.reduceFDiv, reduceCtorEq, reduceIte, hD, hE, hG, hlt, hn, hw, mkApp_outN (enc := encI) (m := 1) (n := 1) (by_ := 8) (l := pickI i (looseP s.l)) length_encI (Nat.zero_lt_one) ⟨by omega, by omega⟩]
          refine ⟨i + 1, by omega, by omega, ?_⟩
          rw [pickI_no hp]
          refine Keeps.easeT (outO_ren tree_encI) ?_
          repeat (first | exact Keeps.nil | refine Keeps.junk _ ?_ | refine Keeps.keep (by first | exact .plain _ rfl | exact (Tree.slV tree_encEv _).ren | exact outV_id) ?_)
      · rw [List.getElem?_eq_none (by omega)] at hp; simp only [Bool.not_false] at hp
        simp (implicitDefEqProofs := false) only [go_sem, Nat.reduceAdd, Nat.reduceSub, Nat.reduceMul, Nat.reduceLT, Nat.reduceLeDiff, Nat.reduceEqDiff, Nat.reduceBEq, Nat.reduceBNe, Nat.reducePow, Int.reduceBEq, Int.reduceBNe, Int.reduceEq, Int.reduceLT, Int.reduceLE, Int.reduceNeg, Int.reduceToNat, Int.reduceMul, Int.reduceAdd, Int.reduceSub, Int.reducePow, Int.reduceFDiv, reduceCtorEq, reduceIte, hlt, hA, hB, hw, hn, mkApp_outN (enc := encI) (m := 1) (n := 1) (by_ := 8) (l := pickI i (looseP s.l)) length_encI (Nat.zero_lt_one) ⟨by omega, by omega⟩]
        refine ⟨by kernel_rfl, by kernel_rfl, ?_⟩
        try simp (implicitDefEqProofs := false) only [go_sem, Nat.reduceAdd, Nat.reduceSub, Nat.reduceMul, Nat.reduceLT, Nat.reduceLeDiff, Nat.reduceEqDiff, Nat.reduceBEq, Nat.reduceBNe, Nat.reducePow, Int.reduceBEq, Int.reduceBNe, Int.reduceEq, Int.reduceLT, Int.reduceLE, Int.reduceNeg, Int.reduceToNat, Int.reduceMul, Int.reduceAdd, Int.reduceSub, Int.reducePow, Int.reduceFDiv, reduceCtorEq, reduceIte, hw, mkApp_outN (enc := encI) (m := 1) (n := 1) (by_ := 8) (l := pickI i (looseP s.l)) length_encI (Nat.zero_lt_one) ⟨by omega, by omega⟩]
        refine ⟨i + 1, by omega, by omega, ?_⟩
        rw [pickI_yes hp]
        refine Eases.pick1 2 (outO encI 1 (pickI i (looseP s.l) ++ [(i : Int)])) ⟨_, rfl, outO_renS tree_encI⟩ ?_
        repeat (first | exact KeepsS.nil | refine KeepsS.junk _ ?_ | refine KeepsS.keep (by first | exact .plain _ rfl | exact (Tree.slV tree_encEv _).ren | exact outV_renS) ?_)
    · simp (implicitDefEqProofs := false) only [go_sem, Nat.reduceAdd, Nat.reduceSub, Nat.reduceMul, Nat.reduceLT, Nat.reduceLeDiff, Nat.reduceEqDiff, Nat.reduceBEq, Nat.reduceBNe, Nat.reducePow, Int.reduceBEq, Int.reduceBNe, Int.reduceEq, Int.reduceLT, Int.reduceLE, Int.reduceNeg, Int.reduceToNat, Int.reduceMul, Int.reduceAdd, Int.reduceSub, Int.reducePow, Int.reduceFDiv, reduceCtorEq, reduceIte, hlt]
      have hie : i = s.l.length := by omega
      subst hie
      exact apost_out rfl length_encI tree_encI ⟨rfl, rfl⟩ _ rfl
end Go.Proofs
