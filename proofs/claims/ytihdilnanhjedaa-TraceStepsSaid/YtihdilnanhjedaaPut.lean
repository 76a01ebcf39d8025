import Derived.Test.YtihdilnanhjedaaRcmp
import Derived.Test.YtihdilnanhjedaaPlT
import Derived.Test.YtihdilnanhjedaaAm55x
import Derived.Test.YtihdilnanhjedaaAm43x
import Derived.Test.YtihdilnanhjedaaAm49x
import Derived.Test.YtihdilnanhjedaaAm58x
set_option linter.unusedSimpArgs false
set_option linter.unusedVariables false
set_option maxRecDepth 100000
/- a place among others, by the document -/
namespace Go.Proofs
open Go Go.Am

theorem valW_wide (a : Addr20) : valW (wideW a) = addrN a := by
  unfold wideW addrN numB
  rw [valW_rdW (by simp)]

set_option maxHeartbeats 4000000 in
theorem rless_calls (p q : Pl) (h : AH) : ACalls Try.prog 49 #[.agg (encPl p).toArray, .agg (encPl q).toArray] h (fun v h' => v = .bool (decide (p.rank < q.rank)) ∧ h' = h) := by
  have e : decide (p.rank < q.rank) = decide (cmpPl p q < 0) := decide_eq_decide.2 (by unfold cmpPl; rw [sgn_lt])
  rw [e]
  refine ACalls.of_ay Try.func49 rfl Try.ntmps49 ⟨_, _, rfl, rfl⟩ ?_; simp only [List.length_cons, List.length_nil, Nat.reduceAdd, Nat.reduceSub, List.replicate_succ, List.replicate_zero, List.cons_append, List.nil_append]
  simp (implicitDefEqProofs := false) (maxSteps := 2000000) only [go_sem, Nat.reduceAdd, Nat.reduceSub, Nat.reduceMul, Nat.reduceLT, Nat.reduceLeDiff, Nat.reduceEqDiff, Nat.reduceBEq, Nat.reduceBNe, Nat.reducePow, Int.reduceBEq, Int.reduceBNe, Int.reduceEq, Int.reduceLT, Int.reduceLE, Int.reduceNeg, Int.reduceToNat, Int.reduceMul, Int.reduceAdd, Int.reduceSub, Int.reducePow, Int.reduceFDiv, reduceCtorEq, reduceIte]
  refine ⟨by kernel_rfl, by kernel_rfl, ?_⟩
  refine dstep_call (rwide_calls _ _) pres_refl ?_
  simp (implicitDefEqProofs := false) (maxSteps := 2000000) only [go_sem, Nat.reduceAdd, Nat.reduceSub, Nat.reduceMul, Nat.reduceLT, Nat.reduceLeDiff, Nat.reduceEqDiff, Nat.reduceBEq, Nat.reduceBNe, Nat.reducePow, Int.reduceBEq, Int.reduceBNe, Int.reduceEq, Int.reduceLT, Int.reduceLE, Int.reduceNeg, Int.reduceToNat, Int.reduceMul, Int.reduceAdd, Int.reduceSub, Int.reducePow, Int.reduceFDiv, reduceCtorEq, reduceIte]
  refine dstep_call (rwide_calls _ _) pres_refl ?_
  simp (implicitDefEqProofs := false) (maxSteps := 2000000) only [go_sem, Nat.reduceAdd, Nat.reduceSub, Nat.reduceMul, Nat.reduceLT, Nat.reduceLeDiff, Nat.reduceEqDiff, Nat.reduceBEq, Nat.reduceBNe, Nat.reducePow, Int.reduceBEq, Int.reduceBNe, Int.reduceEq, Int.reduceLT, Int.reduceLE, Int.reduceNeg, Int.reduceToNat, Int.reduceMul, Int.reduceAdd, Int.reduceSub, Int.reducePow, Int.reduceFDiv, reduceCtorEq, reduceIte]
  refine dstep_call (rcmp_calls _ _ _) pres_refl ?_
  rw [valW_wide, valW_wide]
  by_cases h0 : sgn (addrN p.addr) (addrN q.addr) = 0
  · have e0 : (sgn (addrN p.addr) (addrN q.addr) != 0) = false := by simp [h0]
    by_cases h1 : p.whole = q.whole
    · have e1 : (p.whole == q.whole) = true := by simp [h1]
      simp (implicitDefEqProofs := false) (maxSteps := 2000000) only [go_sem, Nat.reduceAdd, Nat.reduceSub, Nat.reduceMul, Nat.reduceLT, Nat.reduceLeDiff, Nat.reduceEqDiff, Nat.reduceBEq, Nat.reduceBNe, Nat.reducePow, Int.reduceBEq, Int.reduceBNe, Int.reduceEq, Int.reduceLT, Int.reduceLE, Int.reduceNeg, Int.reduceToNat, Int.reduceMul, Int.reduceAdd, Int.reduceSub, Int.reducePow, Int.reduceFDiv, reduceCtorEq, reduceIte, e0, e1]
      refine astep_call (rcmp_calls _ _ _) ?_
      simp (implicitDefEqProofs := false) (maxSteps := 2000000) only [go_sem, Nat.reduceAdd, Nat.reduceSub, Nat.reduceMul, Nat.reduceLT, Nat.reduceLeDiff, Nat.reduceEqDiff, Nat.reduceBEq, Nat.reduceBNe, Nat.reducePow, Int.reduceBEq, Int.reduceBNe, Int.reduceEq, Int.reduceLT, Int.reduceLE, Int.reduceNeg, Int.reduceToNat, Int.reduceMul, Int.reduceAdd, Int.reduceSub, Int.reducePow, Int.reduceFDiv, reduceCtorEq, reduceIte]
      exact apost_tmp (v := .bool (decide (sgn (valW p.key) (valW q.key) < 0))) rfl rfl ⟨by rw [cmpPl_eq, if_neg (by simp [h0]), if_pos h1], rfl⟩ _ _ rfl
    · have e1 : (p.whole == q.whole) = false := by simp [h1]
      simp (implicitDefEqProofs := false) (maxSteps := 2000000) only [go_sem, Nat.reduceAdd, Nat.reduceSub, Nat.reduceMul, Nat.reduceLT, Nat.reduceLeDiff, Nat.reduceEqDiff, Nat.reduceBEq, Nat.reduceBNe, Nat.reducePow, Int.reduceBEq, Int.reduceBNe, Int.reduceEq, Int.reduceLT, Int.reduceLE, Int.reduceNeg, Int.reduceToNat, Int.reduceMul, Int.reduceAdd, Int.reduceSub, Int.reducePow, Int.reduceFDiv, reduceCtorEq, reduceIte, e0, e1]
      exact apost_tmp (v := .bool p.whole) rfl rfl ⟨by rw [cmpPl_eq, if_neg (by simp [h0]), if_neg h1]; cases p.whole <;> rfl, rfl⟩ _ _ rfl
  · have e0 : (sgn (addrN p.addr) (addrN q.addr) != 0) = true := by simp [h0]
    simp (implicitDefEqProofs := false) (maxSteps := 2000000) only [go_sem, Nat.reduceAdd, Nat.reduceSub, Nat.reduceMul, Nat.reduceLT, Nat.reduceLeDiff, Nat.reduceEqDiff, Nat.reduceBEq, Nat.reduceBNe, Nat.reducePow, Int.reduceBEq, Int.reduceBNe, Int.reduceEq, Int.reduceLT, Int.reduceLE, Int.reduceNeg, Int.reduceToNat, Int.reduceMul, Int.reduceAdd, Int.reduceSub, Int.reducePow, Int.reduceFDiv, reduceCtorEq, reduceIte, e0]
    exact apost_tmp (v := .bool (decide (sgn (addrN p.addr) (addrN q.addr) < 0))) rfl rfl ⟨by rw [cmpPl_eq, if_pos h0], rfl⟩ _ _ rfl

theorem outV_pickV {α : Type} {n L b k : Nat} {js : List Nat} {l : List α} (hk : n + k < L) (hj : js.getD k k = b) : VRen (Am.pick n js) L (outV (n + k) l) (outV (n + b) l) := by
  cases l with
  | nil => exact (Tree.plain _ rfl).ren
  | cons x l => exact outV_pickL (by simp) rfl hk hj
/-- what is still to come -/
def putR (d : Bool) (l : List Pl) (p : Pl) : List Pl := if d then l else plIns l p
abbrev PutSt := Nat × List Pl × Bool
set_option maxRecDepth 10000 in
set_option maxHeartbeats 4000000 in
theorem rput_calls (s : Sl Pl) (p : Pl) (hs : s.l.length ≤ 4000) (h : AH) :
    ACalls Try.prog 27 #[slV encPl s, .agg (encPl p).toArray] h (fun v h' => v = slV encPl (Sl.app (plIns s.l p)) ∧ h' = h) := by
  refine ACalls.of_ay Try.func27 rfl Try.ntmps27 ⟨_, _, rfl, rfl⟩ ?_; simp only [List.length_cons, List.length_nil, Nat.reduceAdd, Nat.reduceSub, List.replicate_succ, List.replicate_zero, List.cons_append, List.nil_append]
  simp (implicitDefEqProofs := false) (maxSteps := 2000000) only [go_sem, Nat.reduceAdd, Nat.reduceSub, Nat.reduceMul, Nat.reduceLT, Nat.reduceLeDiff, Nat.reduceEqDiff, Nat.reduceBEq, Nat.reduceBNe, Nat.reducePow, Int.reduceBEq, Int.reduceBNe, Int.reduceEq, Int.reduceLT, Int.reduceLE, Int.reduceNeg, Int.reduceToNat, Int.reduceMul, Int.reduceAdd, Int.reduceSub, Int.reducePow, Int.reduceFDiv, reduceCtorEq, reduceIte]
  refine AWP.loopI (fun q : PutSt => s.l.length - q.1) (fun q => [slV encPl s, junk, junk, .pointer (some ⟨h.length, 0, none⟩), junk, outV (h.length + 1) q.2.1, .bool q.2.2, .int .i64 (q.1 : Nat), junk, junk, junk, junk, junk, junk, junk, junk, junk, junk, junk, junk, junk, junk, junk, junk, junk, junk, junk, junk, junk, junk, junk, junk, junk, junk, junk, junk, junk, junk, junk, junk, junk, junk, junk, junk, junk, junk, junk, junk, junk, junk])
    (fun q => h ++ [.cells (encPl p).toArray 0 true, outO encPl 25 q.2.1]) (fun q => q.1 ≤ s.l.length ∧ q.2.1.length ≤ 2 * q.1 ∧ q.2.1 ++ putR q.2.2 (s.l.drop q.1) p = plIns s.l p) (0, [], false) ⟨Nat.zero_le _, Nat.le_refl _, rfl⟩ ?_ ?_
  · have := (Keeps.easeL (P := Try.prog) (h0 := h) (t := [.cells (encPl p).toArray 0 true])
      (l := slV encPl s :: .agg (encPl p).toArray :: undef :: .pointer (some ⟨h.length, 0, none⟩) :: .slice none 0 0 :: .slice none 0 0 :: .bool false :: .int .i64 0 :: List.replicate 42 undef)
      (l1 := [slV encPl s, junk, junk, .pointer (some ⟨h.length, 0, none⟩), junk, .slice none 0 0, .bool false, .int .i64 0, junk, junk, junk, junk, junk, junk, junk, junk, junk, junk, junk, junk, junk, junk, junk, junk, junk, junk, junk, junk, junk, junk, junk, junk, junk, junk, junk, junk, junk, junk, junk, junk, junk, junk, junk, junk, junk, junk, junk, junk, junk, junk])
      (by intro o ho; rw [List.mem_singleton] at ho; subst ho; exact ORen.plainCells (tree_encPl _)) (by repeat (first | exact Keeps.nil | refine Keeps.junk _ ?_ | refine Keeps.keep (by first | exact .plain _ rfl | exact (Tree.slV tree_encPl _).ren | exact .ptr _ _ _ (by simp) rfl) ?_))).trans Eases.ghost
    simp only [List.append_assoc, List.cons_append, List.nil_append] at this
    exact this
  · rintro ⟨i, out, d⟩ ⟨hi, hol, hpr⟩
    simp only at hi hol hpr
    by_cases hlt : i < s.l.length
    · have hw1 : IntKind.i64.wrap ((i : Int) + 1) = ((i + 1 : Nat) : Int) := by rw [wrap_i64_of _ (by omega) (by omega), ofNat_succ']
      have hdr : s.l.drop i = s.l[i] :: s.l.drop (i + 1) := List.drop_eq_getElem_cons hlt
      rw [hdr] at hpr
      have app1 : ∀ (x : Pl), mkApp (h ++ [.cells (encPl p).toArray 0 true, outO encPl 25 out, .cells (encPl x).toArray 25 true]) (outV (h.length + 1) out) (some (true, 25, 56)) (some (1, (encPl x).toArray)) = some (outV (h.length + 3) (out ++ [x]), h ++ [.cells (encPl p).toArray 0 true, .dead, .cells (encPl x).toArray 25 true, outO encPl 25 (out ++ [x])]) := fun x => mkApp_outX (k := 1) length_encPl ⟨by omega, by omega⟩ rfl
      have app2 : mkApp (h ++ [.cells (encPl p).toArray 0 true, .dead, .cells (encPl p).toArray 25 true, outO encPl 25 (out ++ [p]), .cells (encPl s.l[i]).toArray 25 true]) (outV (h.length + 3) (out ++ [p])) (some (true, 25, 56)) (some (1, (encPl s.l[i]).toArray)) = some (outV (h.length + 5) (out ++ [p] ++ [s.l[i]]), h ++ [.cells (encPl p).toArray 0 true, .dead, .cells (encPl p).toArray 25 true, .dead, .cells (encPl s.l[i]).toArray 25 true, outO encPl 25 (out ++ [p] ++ [s.l[i]])]) := mkApp_outX (k := 3) length_encPl ⟨by simp; omega, by simp; omega⟩ rfl
      rw [List.append_assoc] at app2
      generalize hy : s.l[i] = y at *
      simp (implicitDefEqProofs := false) (maxSteps := 2000000) only [go_sem, Nat.reduceAdd, Nat.reduceSub, Nat.reduceMul, Nat.reduceLT, Nat.reduceLeDiff, Nat.reduceEqDiff, Nat.reduceBEq, Nat.reduceBNe, Nat.reducePow, Int.reduceBEq, Int.reduceBNe, Int.reduceEq, Int.reduceLT, Int.reduceLE, Int.reduceNeg, Int.reduceToNat, Int.reduceMul, Int.reduceAdd, Int.reduceSub, Int.reducePow, Int.reduceFDiv, reduceCtorEq, reduceIte, hlt, hy]
      refine ⟨by kernel_rfl, by kernel_rfl, ?_⟩
      refine dstep_call (rless_calls _ _ _) pres_refl ?_
      cases d with
      | true =>
        have hq : (out ++ [y]) ++ putR true (s.l.drop (i + 1)) p = plIns s.l p := by rw [← hpr]; simp [putR]
        by_cases he : y = p
        · simp (implicitDefEqProofs := false) (maxSteps := 2000000) only [go_sem, Nat.reduceAdd, Nat.reduceSub, Nat.reduceMul, Nat.reduceLT, Nat.reduceLeDiff, Nat.reduceEqDiff, Nat.reduceBEq, Nat.reduceBNe, Nat.reducePow, Int.reduceBEq, Int.reduceBNe, Int.reduceEq, Int.reduceLT, Int.reduceLE, Int.reduceNeg, Int.reduceToNat, Int.reduceMul, Int.reduceAdd, Int.reduceSub, Int.reducePow, Int.reduceFDiv, reduceCtorEq, reduceIte, hw1, hy, size_zeros, he, app1, hlt]
          refine ⟨by kernel_rfl, by kernel_rfl, ?_⟩
          rw [he] at hq
          refine ⟨(i + 1, out ++ [p], true), by show s.l.length - (i + 1) < s.l.length - i; omega, ⟨by show i + 1 ≤ _; omega, by show (out ++ [p]).length ≤ 2 * (i + 1); simp; omega, hq⟩, ?_⟩
          refine pick2 3 (by decide) ⟨rfl, fun σ L => ORen.plainCells (tree_encPl _)⟩ ⟨_, rfl, outO_ren tree_encPl⟩ ?_
          repeat (first | exact KeepsS.nil | refine KeepsS.junk _ ?_ | refine KeepsS.keep (by first | exact .plain _ rfl | exact (Tree.slV tree_encPl _).ren | exact ptr_pick (k := 0) (by omega) rfl | exact outV_pickV (by omega) rfl) ?_)
        · simp (implicitDefEqProofs := false) (maxSteps := 2000000) only [go_sem, Nat.reduceAdd, Nat.reduceSub, Nat.reduceMul, Nat.reduceLT, Nat.reduceLeDiff, Nat.reduceEqDiff, Nat.reduceBEq, Nat.reduceBNe, Nat.reducePow, Int.reduceBEq, Int.reduceBNe, Int.reduceEq, Int.reduceLT, Int.reduceLE, Int.reduceNeg, Int.reduceToNat, Int.reduceMul, Int.reduceAdd, Int.reduceSub, Int.reducePow, Int.reduceFDiv, reduceCtorEq, reduceIte, hw1, hy, size_zeros, he, app1, hlt]
          refine ⟨by kernel_rfl, by kernel_rfl, ?_⟩
          refine ⟨(i + 1, out ++ [y], true), by show s.l.length - (i + 1) < s.l.length - i; omega, ⟨by show i + 1 ≤ _; omega, by show (out ++ [y]).length ≤ 2 * (i + 1); simp; omega, hq⟩, ?_⟩
          refine pick2 3 (by decide) ⟨rfl, fun σ L => ORen.plainCells (tree_encPl _)⟩ ⟨_, rfl, outO_ren tree_encPl⟩ ?_
          repeat (first | exact KeepsS.nil | refine KeepsS.junk _ ?_ | refine KeepsS.keep (by first | exact .plain _ rfl | exact (Tree.slV tree_encPl _).ren | exact ptr_pick (k := 0) (by omega) rfl | exact outV_pickV (by omega) rfl) ?_)
      | false =>
        by_cases hr : p.rank < y.rank
        · have he : ¬ y = p := fun e => by rw [e] at hr; omega
          have hq : (out ++ [p, y]) ++ putR true (s.l.drop (i + 1)) p = plIns s.l p := by rw [← hpr]; simp [putR, plIns, hr]
          simp (implicitDefEqProofs := false) (maxSteps := 2000000) only [go_sem, Nat.reduceAdd, Nat.reduceSub, Nat.reduceMul, Nat.reduceLT, Nat.reduceLeDiff, Nat.reduceEqDiff, Nat.reduceBEq, Nat.reduceBNe, Nat.reducePow, Int.reduceBEq, Int.reduceBNe, Int.reduceEq, Int.reduceLT, Int.reduceLE, Int.reduceNeg, Int.reduceToNat, Int.reduceMul, Int.reduceAdd, Int.reduceSub, Int.reducePow, Int.reduceFDiv, reduceCtorEq, reduceIte, hw1, hy, size_zeros, he, hr, app1, app2, hlt]
          refine ⟨by kernel_rfl, by kernel_rfl, ?_⟩
          refine ⟨(i + 1, out ++ [p, y], true), by show s.l.length - (i + 1) < s.l.length - i; omega, ⟨by show i + 1 ≤ _; omega, by show (out ++ [p, y]).length ≤ 2 * (i + 1); simp; omega, hq⟩, ?_⟩
          refine pick2 5 (by decide) ⟨rfl, fun σ L => ORen.plainCells (tree_encPl _)⟩ ⟨_, rfl, outO_ren tree_encPl⟩ ?_
          repeat (first | exact KeepsS.nil | refine KeepsS.junk _ ?_ | refine KeepsS.keep (by first | exact .plain _ rfl | exact (Tree.slV tree_encPl _).ren | exact ptr_pick (k := 0) (by omega) rfl | exact outV_pickV (by omega) rfl) ?_)
        · by_cases he : y = p
          · have hq : (out ++ [p]) ++ putR true (s.l.drop (i + 1)) p = plIns s.l p := by rw [← hpr]; simp [putR, plIns, he]
            rw [he] at hr
            simp (implicitDefEqProofs := false) (maxSteps := 2000000) only [go_sem, Nat.reduceAdd, Nat.reduceSub, Nat.reduceMul, Nat.reduceLT, Nat.reduceLeDiff, Nat.reduceEqDiff, Nat.reduceBEq, Nat.reduceBNe, Nat.reducePow, Int.reduceBEq, Int.reduceBNe, Int.reduceEq, Int.reduceLT, Int.reduceLE, Int.reduceNeg, Int.reduceToNat, Int.reduceMul, Int.reduceAdd, Int.reduceSub, Int.reducePow, Int.reduceFDiv, reduceCtorEq, reduceIte, hw1, hy, size_zeros, he, hr, app1, hlt]
            refine ⟨by kernel_rfl, by kernel_rfl, ?_⟩
            refine ⟨(i + 1, out ++ [p], true), by show s.l.length - (i + 1) < s.l.length - i; omega, ⟨by show i + 1 ≤ _; omega, by show (out ++ [p]).length ≤ 2 * (i + 1); simp; omega, hq⟩, ?_⟩
            refine pick2 3 (by decide) ⟨rfl, fun σ L => ORen.plainCells (tree_encPl _)⟩ ⟨_, rfl, outO_ren tree_encPl⟩ ?_
            repeat (first | exact KeepsS.nil | refine KeepsS.junk _ ?_ | refine KeepsS.keep (by first | exact .plain _ rfl | exact (Tree.slV tree_encPl _).ren | exact ptr_pick (k := 0) (by omega) rfl | exact outV_pickV (by omega) rfl) ?_)
          · have hq : (out ++ [y]) ++ putR false (s.l.drop (i + 1)) p = plIns s.l p := by rw [← hpr]; simp [putR, plIns, hr, Ne.symm he]
            simp (implicitDefEqProofs := false) (maxSteps := 2000000) only [go_sem, Nat.reduceAdd, Nat.reduceSub, Nat.reduceMul, Nat.reduceLT, Nat.reduceLeDiff, Nat.reduceEqDiff, Nat.reduceBEq, Nat.reduceBNe, Nat.reducePow, Int.reduceBEq, Int.reduceBNe, Int.reduceEq, Int.reduceLT, Int.reduceLE, Int.reduceNeg, Int.reduceToNat, Int.reduceMul, Int.reduceAdd, Int.reduceSub, Int.reducePow, Int.reduceFDiv, reduceCtorEq, reduceIte, hw1, hy, size_zeros, he, hr, app1, hlt]
            refine ⟨by kernel_rfl, by kernel_rfl, ?_⟩
            refine ⟨(i + 1, out ++ [y], false), by show s.l.length - (i + 1) < s.l.length - i; omega, ⟨by show i + 1 ≤ _; omega, by show (out ++ [y]).length ≤ 2 * (i + 1); simp; omega, hq⟩, ?_⟩
            refine pick2 3 (by decide) ⟨rfl, fun σ L => ORen.plainCells (tree_encPl _)⟩ ⟨_, rfl, outO_ren tree_encPl⟩ ?_
            repeat (first | exact KeepsS.nil | refine KeepsS.junk _ ?_ | refine KeepsS.keep (by first | exact .plain _ rfl | exact (Tree.slV tree_encPl _).ren | exact ptr_pick (k := 0) (by omega) rfl | exact outV_pickV (by omega) rfl) ?_)
    · have hie : i = s.l.length := by omega
      subst hie
      have app1 : mkApp (h ++ [.cells (encPl p).toArray 0 true, outO encPl 25 out, .cells (encPl p).toArray 25 true]) (outV (h.length + 1) out) (some (true, 25, 56)) (some (1, (encPl p).toArray)) = some (outV (h.length + 3) (out ++ [p]), h ++ [.cells (encPl p).toArray 0 true, .dead, .cells (encPl p).toArray 25 true, outO encPl 25 (out ++ [p])]) := mkApp_outX (k := 1) length_encPl ⟨by omega, by omega⟩ rfl
      rw [List.drop_length] at hpr
      cases d with
      | true =>
        simp (implicitDefEqProofs := false) (maxSteps := 2000000) only [go_sem, Nat.reduceAdd, Nat.reduceSub, Nat.reduceMul, Nat.reduceLT, Nat.reduceLeDiff, Nat.reduceEqDiff, Nat.reduceBEq, Nat.reduceBNe, Nat.reducePow, Int.reduceBEq, Int.reduceBNe, Int.reduceEq, Int.reduceLT, Int.reduceLE, Int.reduceNeg, Int.reduceToNat, Int.reduceMul, Int.reduceAdd, Int.reduceSub, Int.reducePow, Int.reduceFDiv, reduceCtorEq, reduceIte, hlt]
        have hq : out = plIns s.l p := by rw [← hpr]; simp [putR]
        rw [← hq]
        exact apost_tree (by rw [aresults_tmp rfl, getD_lit]; rfl) (keeps_append _ _) (Rf.outV (at_new _ _ 1) (dieNew_dead (by omega) (by simp)) length_encPl) (.slV tree_encPl _) ⟨rfl, rfl⟩
      | false =>
        have hq : out ++ [p] = plIns s.l p := by rw [← hpr]; simp [putR, plIns]
        simp (implicitDefEqProofs := false) (maxSteps := 2000000) only [go_sem, Nat.reduceAdd, Nat.reduceSub, Nat.reduceMul, Nat.reduceLT, Nat.reduceLeDiff, Nat.reduceEqDiff, Nat.reduceBEq, Nat.reduceBNe, Nat.reducePow, Int.reduceBEq, Int.reduceBNe, Int.reduceEq, Int.reduceLT, Int.reduceLE, Int.reduceNeg, Int.reduceToNat, Int.reduceMul, Int.reduceAdd, Int.reduceSub, Int.reducePow, Int.reduceFDiv, reduceCtorEq, reduceIte, hlt, app1, size_zeros]
        rw [← hq]
        exact apost_tree (by rw [aresults_tmp rfl, getD_lit]; rfl) (keeps_append _ _) (Rf.outV (at_new _ _ 3) (dieNew_dead (by omega) (by simp)) length_encPl) (.slV tree_encPl _) ⟨rfl, rfl⟩
end Go.Proofs
