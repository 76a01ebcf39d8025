import Derived.Test.YtihdilnanhjedaaFp4
import Derived.Test.YtihdilnanhjedaaSeq
import Derived.Test.YtihdilnanhjedaaCmp
import Derived.Test.YtihdilnanhjedaaAm55x
import Derived.Test.YtihdilnanhjedaaAm43x
import Derived.Test.YtihdilnanhjedaaAm60x
set_option linter.unusedSimpArgs false
set_option linter.unusedVariables false
set_option maxRecDepth 100000
/- feet together -/
namespace Go.Proofs.Fp
open Go Go.Am Go.Proofs

theorem laidP : laidOutB Try.prog = true := by kernel_rfl

set_option maxHeartbeats 4000000 in
theorem list_calls {m : Nat} {h : AH} {es : Array MapEntry} {clk : Nat} {f : Pl → Option Int} (hm : CMap 54 es clk f) (hb : h[m]? = some (.map 54 es clk)) (L : List Pl) (hL : ∀ x, (f x).isSome = true ↔ x ∈ L) (hl : L.length < 2 ^ 20) :
    ACalls Try.prog 37 #[.map (some m)] h (fun v h' => v = slV encPl (Sl.app (rise L)) ∧ h' = h) := by
  obtain ⟨k1, k2, k3, k4⟩ := hm.keysRise (M := L) hL
  refine ACalls.of_ay Try.func37 rfl Try.ntmps37 ⟨_, _, rfl, rfl⟩ ?_; simp only [List.length_cons, List.length_nil, Nat.reduceAdd, Nat.reduceSub, List.replicate_succ, List.replicate_zero, List.cons_append, List.nil_append]
  simp (implicitDefEqProofs := false) (maxSteps := 2000000) only [go_sem, Nat.reduceAdd, Nat.reduceSub, Nat.reduceMul, Nat.reduceLT, Nat.reduceLeDiff, Nat.reduceEqDiff, Nat.reduceBEq, Nat.reduceBNe, Nat.reducePow, Int.reduceBEq, Int.reduceBNe, Int.reduceEq, Int.reduceLT, Int.reduceLE, Int.reduceNeg, Int.reduceToNat, Int.reduceMul, Int.reduceAdd, Int.reduceSub, Int.reducePow, Int.reduceFDiv, reduceCtorEq, reduceIte]
  refine astep_call (keysF_calls m _ (List.getElem?_eq_some_iff.1 hb).1) ?_
  simp (implicitDefEqProofs := false) (maxSteps := 2000000) only [go_sem, Nat.reduceAdd, Nat.reduceSub, Nat.reduceMul, Nat.reduceLT, Nat.reduceLeDiff, Nat.reduceEqDiff, Nat.reduceBEq, Nat.reduceBNe, Nat.reducePow, Int.reduceBEq, Int.reduceBNe, Int.reduceEq, Int.reduceLT, Int.reduceLE, Int.reduceNeg, Int.reduceToNat, Int.reduceMul, Int.reduceAdd, Int.reduceSub, Int.reducePow, Int.reduceFDiv, reduceCtorEq, reduceIte]
  refine astep_call (sorted_calls 65 55 (by kernel_rfl) (by kernel_rfl) fcompare_calls laidP (bx := h.length) (b := m) (at_new0 _ _) (at_old hb _) (by omega) k1 k2 (fun hh e1 e2 => keysF_it e1 e2 hm.ok k1) (rises_rise _) k3) ?_
  simp (implicitDefEqProofs := false) (maxSteps := 2000000) only [go_sem, Nat.reduceAdd, Nat.reduceSub, Nat.reduceMul, Nat.reduceLT, Nat.reduceLeDiff, Nat.reduceEqDiff, Nat.reduceBEq, Nat.reduceBNe, Nat.reducePow, Int.reduceBEq, Int.reduceBNe, Int.reduceEq, Int.reduceLT, Int.reduceLE, Int.reduceNeg, Int.reduceToNat, Int.reduceMul, Int.reduceAdd, Int.reduceSub, Int.reducePow, Int.reduceFDiv, reduceCtorEq, reduceIte]
  exact apost_tree (by rw [aresults_tmp rfl, getD_lit]; rfl) (keeps_append _ _) (.same _) (.slV tree_encPl _) ⟨rfl, rfl⟩

theorem of_callsO (l : List (Sl Pl)) (hs : l.length < 2 ^ 62) (hc : (catS l).length < 2 ^ 62) (h : AH) (b : Nat) (hb : h[b]? = some (outO encPs 1 l)) :
    ACalls Try.prog 36 #[outV b l] h (fun v h' => v = .map (some h.length) ∧ ∃ es clk, h' = h.set b .dead ++ [.map 54 es clk] ∧ CMap 54 es clk (cnt (catS l))) := by
  have := of_calls (Sl.app l) hs hc (h.set b .dead)
  rw [List.length_set] at this
  exact ACalls.outs hb length_encPs this
theorem oren_nils {σ : Nat → Nat} {L : Nat} : ORen σ L (AObj.cells #[.slice none 0 0, .slice none 0 0] 0 true) (AObj.cells #[.slice none 0 0, .slice none 0 0] 0 true) :=
  ORen.plainCells (l := [.slice none 0 0, .slice none 0 0]) (fun v hv => by simp only [List.mem_cons, List.not_mem_nil, or_false] at hv; rcases hv with rfl | rfl <;> exact .plain _ rfl)
theorem outV_pickV {α : Type} {n L b k : Nat} {js : List Nat} {l : List α} (hk : n + k < L) (hj : js.getD k k = b) : VRen (Am.pick n js) L (outV (n + k) l) (outV (n + b) l) := by
  cases l with
  | nil => exact (Tree.plain _ rfl).ren
  | cons x l => exact outV_pickL (by simp) rfl hk hj
abbrev rdsF (s : List Foot) : List (Sl Pl) := s.map (·.reads)
abbrev wrsF (s : List Foot) : List (Sl Pl) := s.map (·.writes)
theorem rdsF_take {s : List Foot} {i : Nat} (hi : i < s.length) : rdsF (s.take (i + 1)) = rdsF (s.take i) ++ [s[i].reads] := by
  unfold rdsF; rw [List.take_add_one, List.getElem?_eq_getElem hi, List.map_append]; rfl
theorem wrsF_take {s : List Foot} {i : Nat} (hi : i < s.length) : wrsF (s.take (i + 1)) = wrsF (s.take i) ++ [s[i].writes] := by
  unfold wrsF; rw [List.take_add_one, List.getElem?_eq_getElem hi, List.map_append]; rfl
def unR (s : List Foot) : List Pl := s.flatMap (·.reads.l)
def unW (s : List Foot) : List Pl := s.flatMap (·.writes.l)

set_option maxHeartbeats 4000000 in
theorem union_calls (s : Sl Foot) (hs : s.l.length ≤ 1000) (hR : (unR s.l).length ≤ 10000) (hW : (unW s.l).length ≤ 10000) (h : AH) :
    ACalls Try.prog 17 #[slV encFoot s] h (fun v h' => v = .agg #[slV encPl (Sl.app (rise (unR s.l))), slV encPl (Sl.app (rise (unW s.l)))] ∧ h' = h) := by
  refine ACalls.of_ay Try.func17 rfl Try.ntmps17 ⟨_, _, rfl, rfl⟩ ?_; simp only [List.length_cons, List.length_nil, Nat.reduceAdd, Nat.reduceSub, List.replicate_succ, List.replicate_zero, List.cons_append, List.nil_append]
  simp (implicitDefEqProofs := false) (maxSteps := 2000000) only [go_sem, Nat.reduceAdd, Nat.reduceSub, Nat.reduceMul, Nat.reduceLT, Nat.reduceLeDiff, Nat.reduceEqDiff, Nat.reduceBEq, Nat.reduceBNe, Nat.reducePow, Int.reduceBEq, Int.reduceBNe, Int.reduceEq, Int.reduceLT, Int.reduceLE, Int.reduceNeg, Int.reduceToNat, Int.reduceMul, Int.reduceAdd, Int.reduceSub, Int.reducePow, Int.reduceFDiv, reduceCtorEq, reduceIte]
  refine AWP.loopW (fun i : Nat => s.l.length - i) (fun i => [junk, junk, .pointer (some ⟨h.length, 0, none⟩), outV (h.length + 1) (rdsF (s.l.take i)), outV (h.length + 2) (wrsF (s.l.take i)), junk, junk, slV encFoot s, .int .i64 (s.l.length : Nat), .int .i64 (i : Nat), junk, junk, junk, junk, junk, junk, junk, junk, junk, junk, junk, junk, junk, junk, junk, junk, junk, junk, junk, junk, junk])
    (fun i => h ++ [.cells #[.slice none 0 0, .slice none 0 0] 0 true, outO encPs 1 (rdsF (s.l.take i)), outO encPs 1 (wrsF (s.l.take i))]) (fun i => i ≤ s.l.length) 0 (Nat.zero_le _) ?_ ?_
  · have := ((Keeps.easeL (P := Try.prog) (h0 := h) (t := [.cells #[.slice none 0 0, .slice none 0 0] 0 true])
      (l := slV encFoot s :: undef :: .pointer (some ⟨h.length, 0, none⟩) :: .slice none 0 0 :: .slice none 0 0 :: undef :: undef :: slV encFoot s :: .int .i64 (s.l.length : Nat) :: .int .i64 0 :: List.replicate 21 undef)
      (l1 := [junk, junk, .pointer (some ⟨h.length, 0, none⟩), .slice none 0 0, .slice none 0 0, junk, junk, slV encFoot s, .int .i64 (s.l.length : Nat), .int .i64 0, junk, junk, junk, junk, junk, junk, junk, junk, junk, junk, junk, junk, junk, junk, junk, junk, junk, junk, junk, junk, junk])
      (by intro o ho; rw [List.mem_singleton] at ho; subst ho; exact oren_nils) (by repeat (first | exact Keeps.nil | refine Keeps.junk _ ?_ | refine Keeps.keep (by first | exact .plain _ rfl | exact (Tree.slV tree_encFoot _).ren | exact .ptr _ _ _ (by simp) rfl) ?_))).trans Eases.ghost).trans Eases.ghost
    simp only [List.append_assoc, List.cons_append, List.nil_append] at this
    exact this
  · intro i hi
    by_cases hlt : i < s.l.length
    · have hlr : (rdsF (s.l.take i)).length ≤ 1000 := by simp; omega
      have hlw : (wrsF (s.l.take i)).length ≤ 1000 := by simp; omega
      have hw1 : IntKind.i64.wrap ((i : Int) + 1) = ((i + 1 : Nat) : Int) := by rw [wrap_i64_of _ (by omega) (by omega), ofNat_succ']
      generalize hrs : rdsF (s.l.take i) = rs at *
      generalize hws : wrsF (s.l.take i) = ws at *
      refine AWP.seqA ?_
      simp (implicitDefEqProofs := false) (maxSteps := 2000000) only [go_sem, Nat.reduceAdd, Nat.reduceSub, Nat.reduceMul, Nat.reduceLT, Nat.reduceLeDiff, Nat.reduceEqDiff, Nat.reduceBEq, Nat.reduceBNe, Nat.reducePow, Int.reduceBEq, Int.reduceBNe, Int.reduceEq, Int.reduceLT, Int.reduceLE, Int.reduceNeg, Int.reduceToNat, Int.reduceMul, Int.reduceAdd, Int.reduceSub, Int.reducePow, Int.reduceFDiv, reduceCtorEq, reduceIte, hlt, hw1]
      refine AWP.seqA ?_
      simp (implicitDefEqProofs := false) (maxSteps := 2000000) only [go_sem, Nat.reduceAdd, Nat.reduceSub, Nat.reduceMul, Nat.reduceLT, Nat.reduceLeDiff, Nat.reduceEqDiff, Nat.reduceBEq, Nat.reduceBNe, Nat.reducePow, Int.reduceBEq, Int.reduceBNe, Int.reduceEq, Int.reduceLT, Int.reduceLE, Int.reduceNeg, Int.reduceToNat, Int.reduceMul, Int.reduceAdd, Int.reduceSub, Int.reducePow, Int.reduceFDiv, reduceCtorEq, reduceIte, hlt, hw1]
      refine AWP.seq (AWP.block ?_)
      refine AWP.seqA ?_
      simp (implicitDefEqProofs := false) (maxSteps := 2000000) only [go_sem, Nat.reduceAdd, Nat.reduceSub, Nat.reduceMul, Nat.reduceLT, Nat.reduceLeDiff, Nat.reduceEqDiff, Nat.reduceBEq, Nat.reduceBNe, Nat.reducePow, Int.reduceBEq, Int.reduceBNe, Int.reduceEq, Int.reduceLT, Int.reduceLE, Int.reduceNeg, Int.reduceToNat, Int.reduceMul, Int.reduceAdd, Int.reduceSub, Int.reducePow, Int.reduceFDiv, reduceCtorEq, reduceIte, hlt, hw1]
      refine AWP.ease (h1 := h ++ [.cells #[.slice none 0 0, .slice none 0 0] 0 true, .cells (encFoot s.l[i]).toArray 0 true, outO encPs 1 rs, outO encPs 1 ws])
        (a1 := ([junk, junk, .pointer (some ⟨h.length, 0, none⟩), outV (h.length + 2) rs, outV (h.length + 3) ws, junk, .pointer (some ⟨h.length + 1, 0, none⟩), slV encFoot s, .int .i64 (s.l.length : Nat), .int .i64 (i : Nat), junk, junk, junk, junk, junk, junk, junk, junk, junk, junk, junk, junk, junk, junk, junk, junk, junk, junk, junk, junk, junk]).toArray) ?_ ?_
      · refine Eases.pickN [0, 3, 1, 2] rfl (by decide) (fun i o hi => ?_) ?_
        · match i, hi with
          | 0, hi => simp at hi; subst hi; exact ⟨_, rfl, oren_nils⟩
          | 1, hi => simp at hi; subst hi; exact ⟨_, rfl, ORen.plainCells (tree_encFoot _)⟩
          | 2, hi => simp at hi; subst hi; exact ⟨_, rfl, outO_ren tree_encPs⟩
          | 3, hi => simp at hi; subst hi; exact ⟨_, rfl, outO_ren tree_encPs⟩
          | k + 4, hi => simp at hi
        · repeat (first | exact KeepsS.nil | refine KeepsS.junk _ ?_ | refine KeepsS.keep (by first | exact .plain _ rfl | exact (Tree.slV tree_encFoot _).ren | exact ptr_pick (k := 0) (by simp) rfl | exact ptr_pick (k := 1) (by simp) rfl | exact outV_pickV (k := 2) (by simp) rfl | exact outV_pickV (k := 3) (by simp) rfl) ?_)
      have hS : Pres (h ++ [AObj.cells #[.slice none 0 0, .slice none 0 0] 0 true, .cells (encFoot s.l[i]).toArray 0 true]) (h ++ [AObj.cells #[.slice none 0 0, .slice none 0 0] 0 true, .cells (encFoot s.l[i]).toArray 0 true, outO encPs 1 rs, outO encPs 1 ws]) := pres_pre (by simp [Pre])
      refine S.AWP.drawS (h ++ [.cells #[.slice none 0 0, .slice none 0 0] 0 true, .cells (encFoot s.l[i]).toArray 0 true]) hS (by kernel_rfl) (by kernel_rfl) ?_
      have a1 : mkApp (h ++ [.cells #[.slice none 0 0, .slice none 0 0] 0 true, .cells (encFoot s.l[i]).toArray 0 true, outO encPs 1 rs, outO encPs 1 ws]) (outV (h.length + 2) rs) (some (false, 1, 24)) (some (1, #[slV encPl s.l[i].reads])) = some (outV (h.length + 4) (rs ++ [s.l[i].reads]), h ++ [.cells #[.slice none 0 0, .slice none 0 0] 0 true, .cells (encFoot s.l[i]).toArray 0 true, .dead, outO encPs 1 ws, outO encPs 1 (rs ++ [s.l[i].reads])]) := mkApp_outX (enc := encPs) (k := 2) length_encPs ⟨by omega, by omega⟩ rfl
      have a2 : mkApp (h ++ [.cells #[.slice none 0 0, .slice none 0 0] 0 true, .cells (encFoot s.l[i]).toArray 0 true, .dead, outO encPs 1 ws, outO encPs 1 (rs ++ [s.l[i].reads])]) (outV (h.length + 3) ws) (some (false, 1, 24)) (some (1, #[slV encPl s.l[i].writes])) = some (outV (h.length + 5) (ws ++ [s.l[i].writes]), h ++ [.cells #[.slice none 0 0, .slice none 0 0] 0 true, .cells (encFoot s.l[i]).toArray 0 true, .dead, .dead, outO encPs 1 (rs ++ [s.l[i].reads]), outO encPs 1 (ws ++ [s.l[i].writes])]) := mkApp_outX (enc := encPs) (k := 3) length_encPs ⟨by omega, by omega⟩ rfl
      have hz : slz Try.prog 74 = some #[.slice none 0 0] := by kernel_rfl
      have fb : ∀ x : Sl Pl, fbuild Try.prog 74 1 [(0, slV encPl x)] = some (fz #[slV encPl x] 1) := fun x => by
        unfold fbuild; rw [hz]
        have : zeros #[Value.slice none 0 0] 1 = #[.slice none 0 0] := by simp [zeros_1]
        simp [afill, this, cells_slV, sto_slV, blit_list]
      have ex1 : ∀ (H : AH) (x : Value), asource H 1 (fz #[x] 1) = some (1, #[x]) := fun H x => by rw [asource_fz]; rfl
      simp (implicitDefEqProofs := false) (maxSteps := 2000000) only [go_sem, Nat.reduceAdd, Nat.reduceSub, Nat.reduceMul, Nat.reduceLT, Nat.reduceLeDiff, Nat.reduceEqDiff, Nat.reduceBEq, Nat.reduceBNe, Nat.reducePow, Int.reduceBEq, Int.reduceBNe, Int.reduceEq, Int.reduceLT, Int.reduceLE, Int.reduceNeg, Int.reduceToNat, Int.reduceMul, Int.reduceAdd, Int.reduceSub, Int.reducePow, Int.reduceFDiv, reduceCtorEq, reduceIte, hlt, hw1, a1, a2, fb, ex1]
      refine AWP.ofA ?_
      simp (implicitDefEqProofs := false) (maxSteps := 2000000) only [go_sem, Nat.reduceAdd, Nat.reduceSub, Nat.reduceMul, Nat.reduceLT, Nat.reduceLeDiff, Nat.reduceEqDiff, Nat.reduceBEq, Nat.reduceBNe, Nat.reducePow, Int.reduceBEq, Int.reduceBNe, Int.reduceEq, Int.reduceLT, Int.reduceLE, Int.reduceNeg, Int.reduceToNat, Int.reduceMul, Int.reduceAdd, Int.reduceSub, Int.reducePow, Int.reduceFDiv, reduceCtorEq, reduceIte, hw1]
      refine ⟨i + 1, by omega, by omega, ?_⟩
      rw [rdsF_take hlt, wrsF_take hlt, hrs, hws]
      refine Eases.pickN [0, 4, 5] rfl (by decide) (fun i o hi => ?_) ?_
      · match i, hi with
        | 0, hi => simp at hi; subst hi; exact ⟨_, rfl, oren_nils⟩
        | 1, hi => simp at hi; subst hi; exact ⟨_, rfl, outO_ren tree_encPs⟩
        | 2, hi => simp at hi; subst hi; exact ⟨_, rfl, outO_ren tree_encPs⟩
        | k + 3, hi => simp at hi
      · repeat (first | exact KeepsS.nil | refine KeepsS.junk _ ?_ | refine KeepsS.keep (by first | exact .plain _ rfl | exact (Tree.slV tree_encFoot _).ren | exact ptr_pick (k := 0) (by simp) rfl | exact outV_pickV (k := 1) (by simp) rfl | exact outV_pickV (k := 2) (by simp) rfl) ?_)
    · have hie : i = s.l.length := by omega
      subst hie
      rw [List.take_length]
      refine AWP.ofA ?_
      simp (implicitDefEqProofs := false) (maxSteps := 2000000) only [go_sem, Nat.reduceAdd, Nat.reduceSub, Nat.reduceMul, Nat.reduceLT, Nat.reduceLeDiff, Nat.reduceEqDiff, Nat.reduceBEq, Nat.reduceBNe, Nat.reducePow, Int.reduceBEq, Int.reduceBNe, Int.reduceEq, Int.reduceLT, Int.reduceLE, Int.reduceNeg, Int.reduceToNat, Int.reduceMul, Int.reduceAdd, Int.reduceSub, Int.reducePow, Int.reduceFDiv, reduceCtorEq, reduceIte, hlt]
      have cR : catS (rdsF s.l) = unR s.l := by simp [catS, unR, List.flatMap_map]
      have cW : catS (wrsF s.l) = unW s.l := by simp [catS, unW, List.flatMap_map]
      have hcn : ∀ (L : List Pl) (x : Pl), (cnt L x).isSome = true ↔ x ∈ L := fun L x => by unfold cnt; split <;> simp [*]
      refine astep_calls (of_callsO (rdsF s.l) (by simp; omega) (by rw [cR]; omega) _ (h.length + 1) (at_new _ _ 1)) ?_
      rintro v1 h1 ⟨rfl, es1, clk1, rfl, hm1⟩
      rw [cR] at hm1
      simp only [List.length_append, List.length_cons, List.length_nil, Nat.zero_add, Nat.reduceAdd, set_new, List.set_cons_succ, List.set_cons_zero, List.append_assoc, List.cons_append, List.nil_append]
      simp (implicitDefEqProofs := false) (maxSteps := 2000000) only [go_sem, Nat.reduceAdd, Nat.reduceSub, Nat.reduceMul, Nat.reduceLT, Nat.reduceLeDiff, Nat.reduceEqDiff, Nat.reduceBEq, Nat.reduceBNe, Nat.reducePow, Int.reduceBEq, Int.reduceBNe, Int.reduceEq, Int.reduceLT, Int.reduceLE, Int.reduceNeg, Int.reduceToNat, Int.reduceMul, Int.reduceAdd, Int.reduceSub, Int.reducePow, Int.reduceFDiv, reduceCtorEq, reduceIte]
      refine astep_call (list_calls hm1 (at_new _ _ 3) (unR s.l) (hcn _) (by omega)) ?_
      simp (implicitDefEqProofs := false) (maxSteps := 2000000) only [go_sem, Nat.reduceAdd, Nat.reduceSub, Nat.reduceMul, Nat.reduceLT, Nat.reduceLeDiff, Nat.reduceEqDiff, Nat.reduceBEq, Nat.reduceBNe, Nat.reducePow, Int.reduceBEq, Int.reduceBNe, Int.reduceEq, Int.reduceLT, Int.reduceLE, Int.reduceNeg, Int.reduceToNat, Int.reduceMul, Int.reduceAdd, Int.reduceSub, Int.reducePow, Int.reduceFDiv, reduceCtorEq, reduceIte]
      refine astep_calls (of_callsO (wrsF s.l) (by simp; omega) (by rw [cW]; omega) _ (h.length + 2) (at_new _ _ 2)) ?_
      rintro v2 h2 ⟨rfl, es2, clk2, rfl, hm2⟩
      rw [cW] at hm2
      simp only [List.length_append, List.length_cons, List.length_nil, Nat.zero_add, Nat.reduceAdd, set_new, List.set_cons_succ, List.set_cons_zero, List.append_assoc, List.cons_append, List.nil_append]
      simp (implicitDefEqProofs := false) (maxSteps := 2000000) only [go_sem, Nat.reduceAdd, Nat.reduceSub, Nat.reduceMul, Nat.reduceLT, Nat.reduceLeDiff, Nat.reduceEqDiff, Nat.reduceBEq, Nat.reduceBNe, Nat.reducePow, Int.reduceBEq, Int.reduceBNe, Int.reduceEq, Int.reduceLT, Int.reduceLE, Int.reduceNeg, Int.reduceToNat, Int.reduceMul, Int.reduceAdd, Int.reduceSub, Int.reducePow, Int.reduceFDiv, reduceCtorEq, reduceIte]
      refine astep_call (list_calls hm2 (at_new _ _ 4) (unW s.l) (hcn _) (by omega)) ?_
      simp (implicitDefEqProofs := false) (maxSteps := 2000000) only [go_sem, Nat.reduceAdd, Nat.reduceSub, Nat.reduceMul, Nat.reduceLT, Nat.reduceLeDiff, Nat.reduceEqDiff, Nat.reduceBEq, Nat.reduceBNe, Nat.reducePow, Int.reduceBEq, Int.reduceBNe, Int.reduceEq, Int.reduceLT, Int.reduceLE, Int.reduceNeg, Int.reduceToNat, Int.reduceMul, Int.reduceAdd, Int.reduceSub, Int.reducePow, Int.reduceFDiv, reduceCtorEq, reduceIte]
      refine apost_tree (v := .agg #[slV encPl (Sl.app (rise (unR s.l))), slV encPl (Sl.app (rise (unW s.l)))]) (by rw [aresults_cell rfl, getD_lit]; simp (implicitDefEqProofs := false) (maxSteps := 2000000) only [go_sem, Nat.reduceAdd, Nat.reduceSub, Nat.reduceMul, Nat.reduceLT, Nat.reduceLeDiff, Nat.reduceEqDiff, Nat.reduceBEq, Nat.reduceBNe, Nat.reducePow, Int.reduceBEq, Int.reduceBNe, Int.reduceEq, Int.reduceLT, Int.reduceLE, Int.reduceNeg, Int.reduceToNat, Int.reduceMul, Int.reduceAdd, Int.reduceSub, Int.reducePow, Int.reduceFDiv, reduceCtorEq, reduceIte]) (keeps_append _ _) (.same _) (Tree.aggL (l := [_, _]) fun v hv => ?_) ⟨rfl, rfl⟩
      simp only [List.mem_cons, List.not_mem_nil, or_false] at hv
      rcases hv with rfl | rfl <;> exact .slV tree_encPl _
end Go.Proofs.Fp
