import Derived.Test.YtlimncmlocojkaaDoorSha1
import Derived.Test.YtlimncmlocojkaaDoorAm40x
set_option linter.unusedSimpArgs false
set_option linter.unusedVariables false
/- a block's 64 words -/
namespace Go.Proofs
open Go Go.Am

theorem oren_32 {σ : Nat → Nat} {L es : Nat} {l : List UInt32} : ORen σ L (.cells (flatV enc32 l) es true) (.cells (flatV enc32 l) es true) :=
  ORen.plainCells (l := l.flatMap enc32) (fun v hv => by obtain ⟨x, _, hx⟩ := List.mem_flatMap.1 hv; exact tree_enc32 _ _ hx)
theorem oren2_32 {σ : Nat → Nat} {L : Nat} {l m : List UInt32} : ∀ o ∈ [AObj.cells (flatV enc32 l) 0 true, AObj.cells (flatV enc32 m) 0 true], ORen σ L o o := by
  intro o ho
  rcases List.mem_cons.1 ho with rfl | ho
  · exact oren_32
  · rw [List.mem_singleton] at ho; subst ho; exact oren_32
theorem plain_32 (l : List UInt32) : plainB (.agg (flatV enc32 l)) = true := by
  show (flatV enc32 l).all plain1 = true
  rw [flat_32]; simp [plain1]
theorem rep_32 (n : Nat) : (Array.replicate n (Value.int .u32 0)) = flatV enc32 (List.replicate n 0) := by
  rw [flat_32, List.map_replicate, ← List.toArray_replicate]; rfl

set_option maxRecDepth 10000 in
set_option maxHeartbeats 8000000 in
theorem spread_calls (s : Sl UInt8) (hs : s.l.length = 64) (h : AH) :
    ACalls Tryd.prog 11 #[slV encU8 s] h (fun v h' => v = .agg (flatV enc32 (sched s.l 48)) ∧ h' = h) := by
  refine ACalls.of_ay Tryd.func11 rfl Tryd.ntmps11 ⟨_, _, rfl, rfl⟩ ?_; simp only [List.length_cons, List.length_nil, Nat.reduceAdd, Nat.reduceSub, List.replicate_succ, List.replicate_zero, List.cons_append, List.nil_append]
  simp (implicitDefEqProofs := false) only [go_sem, Nat.reduceAdd, Nat.reduceSub, Nat.reduceMul, Nat.reduceLT, Nat.reduceLeDiff, Nat.reduceEqDiff, Nat.reduceBEq, Nat.reduceBNe, Nat.reducePow, Int.reduceBEq, Int.reduceBNe, Int.reduceEq, Int.reduceLT, Int.reduceLE, Int.reduceNeg, Int.reduceToNat, Int.reduceMul, Int.reduceAdd, Int.reduceSub, Int.reducePow, Int.reduceFDiv, reduceCtorEq, reduceIte]
  rw [rep_32]
  refine AWP.loopI (fun i : Nat => 16 - i) (fun i => [slV encU8 s, junk, .pointer (some ⟨h.length, 0, none⟩), .pointer (some ⟨h.length + 1, 0, none⟩), junk, junk, junk, junk, junk, .int .i64 (i : Nat), junk, junk, junk, junk, junk, junk, junk, junk, junk, junk, junk, junk, junk, junk, junk, junk, junk, junk, junk, junk, junk, junk, junk, junk, junk, junk, junk, junk, junk, junk, junk, junk, junk, junk, junk, junk, junk, junk, junk, junk, junk, junk, junk, junk, junk, junk, junk, junk, junk, junk, junk, junk, junk, junk, junk, junk, junk, junk, junk, junk, junk, junk, junk, junk])
    (fun i => h ++ [.cells (flatV enc32 (List.replicate 64 0)) 0 true, .cells (flatV enc32 (wds s.l i ++ List.replicate (64 - i) 0)) 0 true]) (fun i => i ≤ 16) 0 (Nat.zero_le _) ?_ ?_
  · refine Keeps.easeL oren2_32 ?_
    repeat (first | exact Keeps.nil | refine Keeps.junk _ ?_ | refine Keeps.keep (by first | exact .plain _ rfl | exact (Tree.slV tree_encU8 _).ren | exact .ptr _ _ _ (by simp) rfl) ?_)
  · intro i hi
    by_cases hlt : i < 16
    · have hl16 : ((i : Nat) : Int) < 16 := by omega
      have hw1 : IntKind.i64.wrap ((i : Int) + 1) = ((i + 1 : Nat) : Int) := by rw [wrap_i64_of _ (by omega) (by omega), ofNat_succ']
      have e0 : wds s.l i ++ List.replicate (64 - i) 0 = wds s.l i ++ partW s.l i 0 :: List.replicate (63 - i) 0 := by
        have : 64 - i = (63 - i) + 1 := by omega
        rw [this, List.replicate_succ]; rfl
      simp (implicitDefEqProofs := false) only [go_sem, Nat.reduceAdd, Nat.reduceSub, Nat.reduceMul, Nat.reduceLT, Nat.reduceLeDiff, Nat.reduceEqDiff, Nat.reduceBEq, Nat.reduceBNe, Nat.reducePow, Int.reduceBEq, Int.reduceBNe, Int.reduceEq, Int.reduceLT, Int.reduceLE, Int.reduceNeg, Int.reduceToNat, Int.reduceMul, Int.reduceAdd, Int.reduceSub, Int.reducePow, Int.reduceFDiv, reduceCtorEq, reduceIte, hl16]
      rw [e0]
      refine AWP.loopI (fun j : Nat => 4 - j) (fun j => [slV encU8 s, junk, .pointer (some ⟨h.length, 0, none⟩), .pointer (some ⟨h.length + 1, 0, none⟩), .int .i64 (i : Nat), junk, junk, junk, junk, .int .i64 (i : Nat), junk, junk, .int .i64 (j : Nat), junk, junk, junk, junk, junk, junk, junk, junk, junk, junk, junk, junk, junk, junk, junk, junk, junk, junk, junk, junk, junk, junk, junk, junk, junk, junk, junk, junk, junk, junk, junk, junk, junk, junk, junk, junk, junk, junk, junk, junk, junk, junk, junk, junk, junk, junk, junk, junk, junk, junk, junk, junk, junk, junk, junk, junk, junk, junk, junk, junk, junk])
        (fun j => h ++ [.cells (flatV enc32 (List.replicate 64 0)) 0 true, .cells (flatV enc32 (wds s.l i ++ partW s.l i j :: List.replicate (63 - i) 0)) 0 true]) (fun j => j ≤ 4) 0 (Nat.zero_le _) ?_ ?_
      · refine Keeps.easeL oren2_32 ?_
        repeat (first | exact Keeps.nil | refine Keeps.junk _ ?_ | refine Keeps.keep (by first | exact .plain _ rfl | exact (Tree.slV tree_encU8 _).ren | exact .ptr _ _ _ (by simp) rfl) ?_)
      · intro j hj
        by_cases hjt : j < 4
        · have hl4 : ((j : Nat) : Int) < 4 := by omega
          have hwj : IntKind.i64.wrap ((j : Int) + 1) = ((j + 1 : Nat) : Int) := by rw [wrap_i64_of _ (by omega) (by omega), ofNat_succ']
          have hm4 : IntKind.i64.wrap ((4 : Int) * (i : Int)) = ((4 * i : Nat) : Int) := by rw [wrap_i64_of _ (by omega) (by omega)]; omega
          have hm5 : IntKind.i64.wrap (((4 * i : Nat) : Int) + (j : Int)) = ((4 * i + j : Nat) : Int) := by rw [wrap_i64_of _ (by omega) (by omega)]; omega
          have hi64 : ((i : Nat) : Int) < 64 := by omega
          have hx : 4 * i + j < s.l.length := by omega
          have hlw : (wds s.l i).length = i := length_wds _ _
          have hsz : i + 1 ≤ i + (63 - i + 1) := by omega
          have hp : shlN (partW s.l i j) 8 ||| b32 s.l[4 * i + j] = partW s.l i (j + 1) := by
            simp only [partW, List.getD_eq_getElem?_getD, List.getElem?_eq_getElem hx]; rfl
          simp (implicitDefEqProofs := false) only [go_sem, Nat.reduceAdd, Nat.reduceSub, Nat.reduceMul, Nat.reduceLT, Nat.reduceLeDiff, Nat.reduceEqDiff, Nat.reduceBEq, Nat.reduceBNe, Nat.reducePow, Int.reduceBEq, Int.reduceBNe, Int.reduceEq, Int.reduceLT, Int.reduceLE, Int.reduceNeg, Int.reduceToNat, Int.reduceMul, Int.reduceAdd, Int.reduceSub, Int.reducePow, Int.reduceFDiv, reduceCtorEq, reduceIte, hl4, hwj, hm4, hm5, hi64, hx, mid_32 hlw, setmid_32 hlw, size_32, hlw, List.length_replicate, hsz, hp]
          refine ⟨by kernel_rfl, by kernel_rfl, .inr ⟨rfl, by decide⟩, ?_⟩
          refine ⟨j + 1, by omega, by omega, Keeps.easeL oren2_32 ?_⟩
          repeat (first | exact Keeps.nil | refine Keeps.junk _ ?_ | refine Keeps.keep (by first | exact .plain _ rfl | exact (Tree.slV tree_encU8 _).ren | exact .ptr _ _ _ (by simp) rfl) ?_)
        · have hl4 : ¬ ((j : Nat) : Int) < 4 := by omega
          have hje : j = 4 := by omega
          subst hje
          have e1 : wds s.l i ++ partW s.l i 4 :: List.replicate (63 - i) 0 = wds s.l (i + 1) ++ List.replicate (64 - (i + 1)) 0 := by
            rw [wds_succ, List.append_assoc]
            have : 64 - (i + 1) = 63 - i := by omega
            rw [this]; rfl
          simp (implicitDefEqProofs := false) only [go_sem, Nat.reduceAdd, Nat.reduceSub, Nat.reduceMul, Nat.reduceLT, Nat.reduceLeDiff, Nat.reduceEqDiff, Nat.reduceBEq, Nat.reduceBNe, Nat.reducePow, Int.reduceBEq, Int.reduceBNe, Int.reduceEq, Int.reduceLT, Int.reduceLE, Int.reduceNeg, Int.reduceToNat, Int.reduceMul, Int.reduceAdd, Int.reduceSub, Int.reducePow, Int.reduceFDiv, reduceCtorEq, reduceIte, hl4, hw1]
          rw [e1]
          refine ⟨i + 1, by omega, by omega, Keeps.easeL oren2_32 ?_⟩
          repeat (first | exact Keeps.nil | refine Keeps.junk _ ?_ | refine Keeps.keep (by first | exact .plain _ rfl | exact (Tree.slV tree_encU8 _).ren | exact .ptr _ _ _ (by simp) rfl) ?_)
    · have hl16 : ¬ ((i : Nat) : Int) < 16 := by omega
      have hie : i = 16 := by omega
      subst hie
      simp (implicitDefEqProofs := false) only [go_sem, Nat.reduceAdd, Nat.reduceSub, Nat.reduceMul, Nat.reduceLT, Nat.reduceLeDiff, Nat.reduceEqDiff, Nat.reduceBEq, Nat.reduceBNe, Nat.reducePow, Int.reduceBEq, Int.reduceBNe, Int.reduceEq, Int.reduceLT, Int.reduceLE, Int.reduceNeg, Int.reduceToNat, Int.reduceMul, Int.reduceAdd, Int.reduceSub, Int.reducePow, Int.reduceFDiv, reduceCtorEq, reduceIte, hl16]
      have e1 : wds s.l 16 ++ List.replicate (64 - 16) 0 = sched s.l 0 ++ List.replicate (48 - 0) 0 := rfl
      rw [e1]
      refine AWP.loopI (fun t : Nat => 48 - t) (fun t => [junk, junk, .pointer (some ⟨h.length, 0, none⟩), .pointer (some ⟨h.length + 1, 0, none⟩), junk, junk, .int .i64 ((16 + t : Nat) : Int), junk, junk, junk, junk, junk, junk, junk, junk, junk, junk, junk, junk, junk, junk, junk, junk, junk, junk, junk, junk, junk, junk, junk, junk, junk, junk, junk, junk, junk, junk, junk, junk, junk, junk, junk, junk, junk, junk, junk, junk, junk, junk, junk, junk, junk, junk, junk, junk, junk, junk, junk, junk, junk, junk, junk, junk, junk, junk, junk, junk, junk, junk, junk, junk, junk, junk, junk])
        (fun t => h ++ [.cells (flatV enc32 (List.replicate 64 0)) 0 true, .cells (flatV enc32 (sched s.l t ++ List.replicate (48 - t) 0)) 0 true]) (fun t => t ≤ 48) 0 (Nat.zero_le _) ?_ ?_
      · refine Keeps.easeL oren2_32 ?_
        repeat (first | exact Keeps.nil | refine Keeps.junk _ ?_ | refine Keeps.keep (by first | exact .plain _ rfl | exact .ptr _ _ _ (by simp) rfl) ?_)
      · intro t ht
        have hlw : (sched s.l t).length = 16 + t := length_sched _ _
        by_cases hlt : t < 48
        · have hl64 : ((16 + t : Nat) : Int) < 64 := by omega
          have hw1 : IntKind.i64.wrap (((16 + t : Nat) : Int) + 1) = ((16 + (t + 1) : Nat) : Int) := by rw [wrap_i64_of _ (by omega) (by omega)]; omega
          have h15 : IntKind.i64.wrap (((16 + t : Nat) : Int) - 15) = ((1 + t : Nat) : Int) := by rw [wrap_i64_of _ (by omega) (by omega)]; omega
          have h2 : IntKind.i64.wrap (((16 + t : Nat) : Int) - 2) = ((14 + t : Nat) : Int) := by rw [wrap_i64_of _ (by omega) (by omega)]; omega
          have h16 : IntKind.i64.wrap (((16 + t : Nat) : Int) - 16) = ((t : Nat) : Int) := by rw [wrap_i64_of _ (by omega) (by omega)]; omega
          have h7 : IntKind.i64.wrap (((16 + t : Nat) : Int) - 7) = ((9 + t : Nat) : Int) := by rw [wrap_i64_of _ (by omega) (by omega)]; omega
          have q15 : ((1 + t : Nat) : Int) < 64 := by omega
          have q2 : ((14 + t : Nat) : Int) < 64 := by omega
          have q16 : ((t : Nat) : Int) < 64 := by omega
          have q7 : ((9 + t : Nat) : Int) < 64 := by omega
          have e0 : List.replicate (48 - t) (0 : UInt32) = 0 :: List.replicate (47 - t) 0 := by
            have : 48 - t = (47 - t) + 1 := by omega
            rw [this, List.replicate_succ]
          have f15 := front_32 (a := sched s.l t) (b := List.replicate (48 - t) 0) (k := 1 + t) (by omega)
          have f2 := front_32 (a := sched s.l t) (b := List.replicate (48 - t) 0) (k := 14 + t) (by omega)
          have f16 := front_32 (a := sched s.l t) (b := List.replicate (48 - t) 0) (k := t) (by omega)
          have f7 := front_32 (a := sched s.l t) (b := List.replicate (48 - t) 0) (k := 9 + t) (by omega)
          rw [e0] at f15 f2 f16 f7 ⊢
          have hsz : 16 + t + 1 ≤ 16 + t + (47 - t + 1) := by omega
          simp (implicitDefEqProofs := false) only [go_sem, Nat.reduceAdd, Nat.reduceSub, Nat.reduceMul, Nat.reduceLT, Nat.reduceLeDiff, Nat.reduceEqDiff, Nat.reduceBEq, Nat.reduceBNe, Nat.reducePow, Int.reduceBEq, Int.reduceBNe, Int.reduceEq, Int.reduceLT, Int.reduceLE, Int.reduceNeg, Int.reduceToNat, Int.reduceMul, Int.reduceAdd, Int.reduceSub, Int.reducePow, Int.reduceFDiv, reduceCtorEq, reduceIte, hl64, hw1, h15, h2, h16, h7, q15, q2, q16, q7, f15, f2, f16, f7]
          refine ⟨by kernel_rfl, by kernel_rfl, ?_⟩
          refine ⟨by kernel_rfl, by kernel_rfl, ?_⟩
          refine dstep_call (right7 _ _) pres_refl ?_
          simp (implicitDefEqProofs := false) only [go_sem, Nat.reduceAdd, Nat.reduceSub, Nat.reduceMul, Nat.reduceLT, Nat.reduceLeDiff, Nat.reduceEqDiff, Nat.reduceBEq, Nat.reduceBNe, Nat.reducePow, Int.reduceBEq, Int.reduceBNe, Int.reduceEq, Int.reduceLT, Int.reduceLE, Int.reduceNeg, Int.reduceToNat, Int.reduceMul, Int.reduceAdd, Int.reduceSub, Int.reducePow, Int.reduceFDiv, reduceCtorEq, reduceIte]
          refine dstep_call (right18 _ _) pres_refl ?_
          simp (implicitDefEqProofs := false) only [go_sem, Nat.reduceAdd, Nat.reduceSub, Nat.reduceMul, Nat.reduceLT, Nat.reduceLeDiff, Nat.reduceEqDiff, Nat.reduceBEq, Nat.reduceBNe, Nat.reducePow, Int.reduceBEq, Int.reduceBNe, Int.reduceEq, Int.reduceLT, Int.reduceLE, Int.reduceNeg, Int.reduceToNat, Int.reduceMul, Int.reduceAdd, Int.reduceSub, Int.reducePow, Int.reduceFDiv, reduceCtorEq, reduceIte, h7, q7, f7]
          refine dstep_call (right17 _ _) pres_refl ?_
          simp (implicitDefEqProofs := false) only [go_sem, Nat.reduceAdd, Nat.reduceSub, Nat.reduceMul, Nat.reduceLT, Nat.reduceLeDiff, Nat.reduceEqDiff, Nat.reduceBEq, Nat.reduceBNe, Nat.reducePow, Int.reduceBEq, Int.reduceBNe, Int.reduceEq, Int.reduceLT, Int.reduceLE, Int.reduceNeg, Int.reduceToNat, Int.reduceMul, Int.reduceAdd, Int.reduceSub, Int.reducePow, Int.reduceFDiv, reduceCtorEq, reduceIte]
          refine dstep_call (right19 _ _) pres_refl ?_
          simp (implicitDefEqProofs := false) only [go_sem, Nat.reduceAdd, Nat.reduceSub, Nat.reduceMul, Nat.reduceLT, Nat.reduceLeDiff, Nat.reduceEqDiff, Nat.reduceBEq, Nat.reduceBNe, Nat.reducePow, Int.reduceBEq, Int.reduceBNe, Int.reduceEq, Int.reduceLT, Int.reduceLE, Int.reduceNeg, Int.reduceToNat, Int.reduceMul, Int.reduceAdd, Int.reduceSub, Int.reducePow, Int.reduceFDiv, reduceCtorEq, reduceIte, h7, q7, hl64, f7, setmid_32 hlw, size_32, hlw, List.length_replicate, hsz, hw1]
          refine ⟨.inr ⟨rfl, by decide⟩, ?_⟩
          have hnx : nextW (sched s.l t) = (sched s.l t).getD t 0 + (ror ((sched s.l t).getD (1 + t) 0) 7 ^^^ ror ((sched s.l t).getD (1 + t) 0) 18 ^^^ shrN ((sched s.l t).getD (1 + t) 0) 3) + (sched s.l t).getD (9 + t) 0 + (ror ((sched s.l t).getD (14 + t) 0) 17 ^^^ ror ((sched s.l t).getD (14 + t) 0) 19 ^^^ shrN ((sched s.l t).getD (14 + t) 0) 10) := by
            have n1 : 16 + t - 16 = t := by omega
            have n2 : 16 + t - 15 = 1 + t := by omega
            have n3 : 16 + t - 7 = 9 + t := by omega
            have n4 : 16 + t - 2 = 14 + t := by omega
            simp only [nextW, hlw, n1, n2, n3, n4]
          rw [← hnx]
          have e2 : sched s.l t ++ nextW (sched s.l t) :: List.replicate (47 - t) 0 = sched s.l (t + 1) ++ List.replicate (48 - (t + 1)) 0 := by
            simp only [sched, List.append_assoc, List.singleton_append]
            have : 48 - (t + 1) = 47 - t := by omega
            rw [this]
          rw [e2]
          refine ⟨t + 1, by omega, by omega, Keeps.easeL oren2_32 ?_⟩
          repeat (first | exact Keeps.nil | refine Keeps.junk _ ?_ | refine Keeps.keep (by first | exact .plain _ rfl | exact .ptr _ _ _ (by simp) rfl) ?_)
        · have hl64 : ¬ ((16 + t : Nat) : Int) < 64 := by omega
          have hte : t = 48 := by omega
          subst hte
          have e2 : sched s.l 48 ++ List.replicate (48 - 48) 0 = sched s.l 48 := by simp
          rw [e2]
          have hn : (sched s.l 48).length = 64 := by rw [length_sched]
          have hz : (flatV enc32 (sched s.l 48)).size = 64 := by rw [size_32, hn]
          have hex : (flatV enc32 (sched s.l 48)).extract 0 64 = flatV enc32 (sched s.l 48) := by rw [← hz, Array.extract_size]
          have hz0 : (flatV enc32 (List.replicate 64 0)).size = (flatV enc32 (sched s.l 48)).size := by rw [size_32, size_32, hn]; simp
          simp (implicitDefEqProofs := false) only [go_sem, Nat.reduceAdd, Nat.reduceSub, Nat.reduceMul, Nat.reduceLT, Nat.reduceLeDiff, Nat.reduceEqDiff, Nat.reduceBEq, Nat.reduceBNe, Nat.reducePow, Int.reduceBEq, Int.reduceBNe, Int.reduceEq, Int.reduceLT, Int.reduceLE, Int.reduceNeg, Int.reduceToNat, Int.reduceMul, Int.reduceAdd, Int.reduceSub, Int.reducePow, Int.reduceFDiv, reduceCtorEq, reduceIte, hl64, hz, hex, size_32, hn, List.length_replicate]
          exact apost_cell rfl (plain_32 _) ⟨rfl, rfl⟩ _ _ rfl (by simp (implicitDefEqProofs := false) only [go_sem, Nat.reduceAdd, Nat.reduceSub, Nat.reduceMul, Nat.reduceLT, Nat.reduceLeDiff, Nat.reduceEqDiff, Nat.reduceBEq, Nat.reduceBNe, Nat.reducePow, Int.reduceBEq, Int.reduceBNe, Int.reduceEq, Int.reduceLT, Int.reduceLE, Int.reduceNeg, Int.reduceToNat, Int.reduceMul, Int.reduceAdd, Int.reduceSub, Int.reducePow, Int.reduceFDiv, reduceCtorEq, reduceIte, hz, hex])
end Go.Proofs
