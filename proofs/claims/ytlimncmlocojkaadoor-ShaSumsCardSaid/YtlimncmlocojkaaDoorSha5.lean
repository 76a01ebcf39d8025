import Derived.Test.YtlimncmlocojkaaDoorSha4
set_option linter.unusedSimpArgs false
set_option linter.unusedVariables false
/- a block, by the document -/
namespace Go.Proofs
open Go Go.Am

set_option maxRecDepth 10000 in
set_option maxHeartbeats 16000000 in
theorem rblock_calls (st : S8) (s0 : Sl UInt32) (h0 : s0.l = st.l) (s : Sl UInt8) (hs : s.l.length = 64) (h : AH) :
    ACalls Tryd.prog 9 #[slV enc32 s0, slV encU8 s] h (fun v h' => v = slV enc32 (Sl.app (takeS keysL st s.l).l) ∧ h' = h) := by
  refine ACalls.of_ay Tryd.func9 rfl Tryd.ntmps9 ⟨_, _, rfl, rfl⟩ ?_; simp only [List.length_cons, List.length_nil, Nat.reduceAdd, Nat.reduceSub, List.replicate_succ, List.replicate_zero, List.cons_append, List.nil_append]
  simp (implicitDefEqProofs := false) only [go_sem, Nat.reduceAdd, Nat.reduceSub, Nat.reduceMul, Nat.reduceLT, Nat.reduceLeDiff, Nat.reduceEqDiff, Nat.reduceBEq, Nat.reduceBNe, Nat.reducePow, Int.reduceBEq, Int.reduceBNe, Int.reduceEq, Int.reduceLT, Int.reduceLE, Int.reduceNeg, Int.reduceToNat, Int.reduceMul, Int.reduceAdd, Int.reduceSub, Int.reducePow, Int.reduceFDiv, reduceCtorEq, reduceIte]
  refine AWP.loopI (fun i : Nat => 16 - i) (fun i => [slV enc32 s0, slV encU8 s, junk, junk, junk, outV h.length (wds s.l i), .int .i64 (i : Nat), junk, junk, junk, junk, junk, junk, junk, junk, junk, junk, junk, junk, junk, junk, junk, junk, junk, junk, junk, junk, junk, junk, junk, junk, junk, junk, junk, junk, junk, junk, junk, junk, junk, junk, junk, junk, junk, junk, junk, junk, junk, junk, junk, junk, junk, junk, junk, junk, junk, junk, junk, junk, junk, junk, junk, junk, junk, junk, junk, junk, junk, junk, junk, junk, junk, junk, junk, junk, junk, junk, junk, junk, junk, junk, junk, junk, junk, junk, junk, junk, junk, junk, junk, junk, junk, junk, junk, junk, junk, junk, junk, junk, junk, junk, junk, junk, junk, junk, junk, junk, junk, junk, junk, junk, junk, junk, junk, junk, junk, junk, junk, junk, junk, junk, junk, junk, junk, junk, junk, junk, junk, junk, junk, junk, junk, junk, junk, junk, junk, junk, junk, junk, junk, junk, junk, junk, junk, junk, junk, junk, junk, junk, junk, junk, junk, junk, junk, junk, junk, junk, junk, junk, junk, junk, junk, junk, junk, junk, junk, junk, junk, junk, junk, junk, junk, junk, junk, junk, junk, junk, junk, junk, junk, junk, junk, junk, junk, junk, junk, junk, junk, junk, junk, junk, junk, junk, junk, junk, junk, junk, junk, junk, junk, junk, junk, junk, junk, junk, junk, junk, junk, junk, junk, junk, junk, junk, junk, junk, junk, junk, junk, junk, junk, junk, junk, junk, junk, junk, junk])
    (fun i => h ++ [outO enc32 1 (wds s.l i)]) (fun i => i ≤ 16) 0 (Nat.zero_le _) ?_ ?_
  · refine Keeps.easeG ?_
    repeat (first | exact Keeps.nil | refine Keeps.junk _ ?_ | refine Keeps.keep (by first | exact .plain _ rfl | exact (Tree.slV tree_encU8 _).ren | exact (Tree.slV tree_enc32 _).ren) ?_)
  · intro i hi
    by_cases hlt : i < 16
    · have hl16 : ((i : Nat) : Int) < 16 := by omega
      have hw1 : IntKind.i64.wrap ((i : Int) + 1) = ((i + 1 : Nat) : Int) := by rw [wrap_i64_of _ (by omega) (by omega), ofNat_succ']
      have m0 : IntKind.i64.wrap ((4 : Int) * (i : Int)) = ((4 * i : Nat) : Int) := by rw [wrap_i64_of _ (by omega) (by omega)]; omega
      have m1 : IntKind.i64.wrap (((4 * i : Nat) : Int) + 1) = ((4 * i + 1 : Nat) : Int) := by rw [wrap_i64_of _ (by omega) (by omega)]; omega
      have m2 : IntKind.i64.wrap (((4 * i : Nat) : Int) + 2) = ((4 * i + 2 : Nat) : Int) := by rw [wrap_i64_of _ (by omega) (by omega)]; omega
      have m3 : IntKind.i64.wrap (((4 * i : Nat) : Int) + 3) = ((4 * i + 3 : Nat) : Int) := by rw [wrap_i64_of _ (by omega) (by omega)]; omega
      have x0 : 4 * i < s.l.length := by omega
      have x1 : 4 * i + 1 < s.l.length := by omega
      have x2 : 4 * i + 2 < s.l.length := by omega
      have x3 : 4 * i + 3 < s.l.length := by omega
      have hlen : (wds s.l i).length ≤ 16 := by rw [length_wds]; exact hi
      simp (implicitDefEqProofs := false) only [go_sem, Nat.reduceAdd, Nat.reduceSub, Nat.reduceMul, Nat.reduceLT, Nat.reduceLeDiff, Nat.reduceEqDiff, Nat.reduceBEq, Nat.reduceBNe, Nat.reducePow, Int.reduceBEq, Int.reduceBNe, Int.reduceEq, Int.reduceLT, Int.reduceLE, Int.reduceNeg, Int.reduceToNat, Int.reduceMul, Int.reduceAdd, Int.reduceSub, Int.reducePow, Int.reduceFDiv, reduceCtorEq, reduceIte, hl16, hw1, Tryd.underlying29, m0, m1, m2, m3, x0, x1, x2, x3, loadF_u8 x0, loadF_u8 x1, loadF_u8 x2, loadF_u8 x3, wd_eq s.l i, mkApp_outN (enc := enc32) (m := 1) (n := 1) (by_ := 4) (l := wds s.l i) length_enc32 (Nat.zero_lt_one) ⟨by omega, by omega⟩]
      refine ⟨by kernel_rfl, by kernel_rfl, ?_⟩
      refine ⟨.inr ⟨rfl, by decide⟩, ?_⟩
      refine ⟨i + 1, by omega, by omega, ?_⟩
      rw [wds_succ]
      refine Eases.pick1 2 (outO enc32 1 (wds s.l i ++ [wd s.l i])) ⟨_, rfl, outO_renS tree_enc32⟩ ?_
      repeat (first | exact KeepsS.nil | refine KeepsS.junk _ ?_ | refine KeepsS.keep (by first | exact .plain _ rfl | exact (Tree.slV tree_encU8 _).ren | exact (Tree.slV tree_enc32 _).ren | exact outV_renS) ?_)
    · have hl16 : ¬ ((i : Nat) : Int) < 16 := by omega
      have hie : i = 16 := by omega
      subst hie
      simp (implicitDefEqProofs := false) only [go_sem, Nat.reduceAdd, Nat.reduceSub, Nat.reduceMul, Nat.reduceLT, Nat.reduceLeDiff, Nat.reduceEqDiff, Nat.reduceBEq, Nat.reduceBNe, Nat.reducePow, Int.reduceBEq, Int.reduceBNe, Int.reduceEq, Int.reduceLT, Int.reduceLE, Int.reduceNeg, Int.reduceToNat, Int.reduceMul, Int.reduceAdd, Int.reduceSub, Int.reducePow, Int.reduceFDiv, reduceCtorEq, reduceIte, hl16]
      refine AWP.loopI (fun t : Nat => 48 - t) (fun t => [slV enc32 s0, junk, junk, junk, junk, outV h.length (sched s.l t), junk, .int .i64 ((16 + t : Nat) : Int), junk, junk, junk, junk, junk, junk, junk, junk, junk, junk, junk, junk, junk, junk, junk, junk, junk, junk, junk, junk, junk, junk, junk, junk, junk, junk, junk, junk, junk, junk, junk, junk, junk, junk, junk, junk, junk, junk, junk, junk, junk, junk, junk, junk, junk, junk, junk, junk, junk, junk, junk, junk, junk, junk, junk, junk, junk, junk, junk, junk, junk, junk, junk, junk, junk, junk, junk, junk, junk, junk, junk, junk, junk, junk, junk, junk, junk, junk, junk, junk, junk, junk, junk, junk, junk, junk, junk, junk, junk, junk, junk, junk, junk, junk, junk, junk, junk, junk, junk, junk, junk, junk, junk, junk, junk, junk, junk, junk, junk, junk, junk, junk, junk, junk, junk, junk, junk, junk, junk, junk, junk, junk, junk, junk, junk, junk, junk, junk, junk, junk, junk, junk, junk, junk, junk, junk, junk, junk, junk, junk, junk, junk, junk, junk, junk, junk, junk, junk, junk, junk, junk, junk, junk, junk, junk, junk, junk, junk, junk, junk, junk, junk, junk, junk, junk, junk, junk, junk, junk, junk, junk, junk, junk, junk, junk, junk, junk, junk, junk, junk, junk, junk, junk, junk, junk, junk, junk, junk, junk, junk, junk, junk, junk, junk, junk, junk, junk, junk, junk, junk, junk, junk, junk, junk, junk, junk, junk, junk, junk, junk, junk, junk, junk, junk, junk, junk, junk, junk])
        (fun t => h ++ [outO enc32 1 (sched s.l t)]) (fun t => t ≤ 48) 0 (Nat.zero_le _) ?_ ?_
      · refine Keeps.easeT (outO_ren tree_enc32) ?_
        repeat (first | exact Keeps.nil | refine Keeps.junk _ ?_ | refine Keeps.keep (by first | exact .plain _ rfl | exact (Tree.slV tree_enc32 _).ren | exact outV_id) ?_)
      · intro t ht
        have hlw : (sched s.l t).length = 16 + t := length_sched _ _
        by_cases hlt : t < 48
        · have hl64 : ((16 + t : Nat) : Int) < 64 := by omega
          have hw1 : IntKind.i64.wrap (((16 + t : Nat) : Int) + 1) = ((16 + (t + 1) : Nat) : Int) := by rw [wrap_i64_of _ (by omega) (by omega)]; omega
          have h15 : IntKind.i64.wrap (((16 + t : Nat) : Int) - 15) = ((1 + t : Nat) : Int) := by rw [wrap_i64_of _ (by omega) (by omega)]; omega
          have h2 : IntKind.i64.wrap (((16 + t : Nat) : Int) - 2) = ((14 + t : Nat) : Int) := by rw [wrap_i64_of _ (by omega) (by omega)]; omega
          have h16 : IntKind.i64.wrap (((16 + t : Nat) : Int) - 16) = ((t : Nat) : Int) := by rw [wrap_i64_of _ (by omega) (by omega)]; omega
          have h7 : IntKind.i64.wrap (((16 + t : Nat) : Int) - 7) = ((9 + t : Nat) : Int) := by rw [wrap_i64_of _ (by omega) (by omega)]; omega
          have q15 : 1 + t < (sched s.l t).length := by omega
          have q2 : 14 + t < (sched s.l t).length := by omega
          have q16 : t < (sched s.l t).length := by omega
          have q7 : 9 + t < (sched s.l t).length := by omega
          have g15 := get_32 q15
          have g2 := get_32 q2
          have g16 := get_32 q16
          have g7 := get_32 q7
          have d15 : (sched s.l t)[1 + t] = (sched s.l t).getD (1 + t) 0 := by rw [List.getD_eq_getElem?_getD, List.getElem?_eq_getElem q15]; rfl
          have d2 : (sched s.l t)[14 + t] = (sched s.l t).getD (14 + t) 0 := by rw [List.getD_eq_getElem?_getD, List.getElem?_eq_getElem q2]; rfl
          have d16 : (sched s.l t)[t] = (sched s.l t).getD t 0 := by rw [List.getD_eq_getElem?_getD, List.getElem?_eq_getElem q16]; rfl
          have d7 : (sched s.l t)[9 + t] = (sched s.l t).getD (9 + t) 0 := by rw [List.getD_eq_getElem?_getD, List.getElem?_eq_getElem q7]; rfl
          rw [d15] at g15; rw [d2] at g2; rw [d16] at g16; rw [d7] at g7
          have hne : sched s.l t ≠ [] := by intro h; rw [h] at hlw; simp at hlw; omega
          have p15 : ((1 + t : Nat) : Int) < ((16 + t : Nat) : Int) := by omega
          have p2 : ((14 + t : Nat) : Int) < ((16 + t : Nat) : Int) := by omega
          have p16 : ((t : Nat) : Int) < ((16 + t : Nat) : Int) := by omega
          have p7 : ((9 + t : Nat) : Int) < ((16 + t : Nat) : Int) := by omega
          rw [outO_ne hne, outV_ne hne, hlw]
          simp (implicitDefEqProofs := false) only [go_sem, Nat.reduceAdd, Nat.reduceSub, Nat.reduceMul, Nat.reduceLT, Nat.reduceLeDiff, Nat.reduceEqDiff, Nat.reduceBEq, Nat.reduceBNe, Nat.reducePow, Int.reduceBEq, Int.reduceBNe, Int.reduceEq, Int.reduceLT, Int.reduceLE, Int.reduceNeg, Int.reduceToNat, Int.reduceMul, Int.reduceAdd, Int.reduceSub, Int.reducePow, Int.reduceFDiv, reduceCtorEq, reduceIte, hl64, hw1, h15, h2, h16, h7, p15, p2, p16, p7, g15, g2, g16, g7]
          refine astep_call (rrot7 _ _) ?_
          simp (implicitDefEqProofs := false) only [go_sem, Nat.reduceAdd, Nat.reduceSub, Nat.reduceMul, Nat.reduceLT, Nat.reduceLeDiff, Nat.reduceEqDiff, Nat.reduceBEq, Nat.reduceBNe, Nat.reducePow, Int.reduceBEq, Int.reduceBNe, Int.reduceEq, Int.reduceLT, Int.reduceLE, Int.reduceNeg, Int.reduceToNat, Int.reduceMul, Int.reduceAdd, Int.reduceSub, Int.reducePow, Int.reduceFDiv, reduceCtorEq, reduceIte]
          refine astep_call (rrot18 _ _) ?_
          simp (implicitDefEqProofs := false) only [go_sem, Nat.reduceAdd, Nat.reduceSub, Nat.reduceMul, Nat.reduceLT, Nat.reduceLeDiff, Nat.reduceEqDiff, Nat.reduceBEq, Nat.reduceBNe, Nat.reducePow, Int.reduceBEq, Int.reduceBNe, Int.reduceEq, Int.reduceLT, Int.reduceLE, Int.reduceNeg, Int.reduceToNat, Int.reduceMul, Int.reduceAdd, Int.reduceSub, Int.reducePow, Int.reduceFDiv, reduceCtorEq, reduceIte]
          refine astep_call (rrot17 _ _) ?_
          simp (implicitDefEqProofs := false) only [go_sem, Nat.reduceAdd, Nat.reduceSub, Nat.reduceMul, Nat.reduceLT, Nat.reduceLeDiff, Nat.reduceEqDiff, Nat.reduceBEq, Nat.reduceBNe, Nat.reducePow, Int.reduceBEq, Int.reduceBNe, Int.reduceEq, Int.reduceLT, Int.reduceLE, Int.reduceNeg, Int.reduceToNat, Int.reduceMul, Int.reduceAdd, Int.reduceSub, Int.reducePow, Int.reduceFDiv, reduceCtorEq, reduceIte]
          refine astep_call (rrot19 _ _) ?_
          have hex : (flatV enc32 (sched s.l t)).extract 0 (16 + t) = flatV enc32 (sched s.l t) := by
            have : (flatV enc32 (sched s.l t)).size = 16 + t := by rw [size_32, hlw]
            rw [← this, Array.extract_size]
          have hb1 : (2 * (16 + t + 1) + 192) * 4 ≤ 281474976710656 := by omega
          have hb2 : 16 + t + 1 < 4611686018427387904 := by omega
          have hb3 : ¬ 16 + t + 1 ≤ 16 + t := by omega
          simp (implicitDefEqProofs := false) only [go_sem, Nat.reduceAdd, Nat.reduceSub, Nat.reduceMul, Nat.reduceLT, Nat.reduceLeDiff, Nat.reduceEqDiff, Nat.reduceBEq, Nat.reduceBNe, Nat.reducePow, Int.reduceBEq, Int.reduceBNe, Int.reduceEq, Int.reduceLT, Int.reduceLE, Int.reduceNeg, Int.reduceToNat, Int.reduceMul, Int.reduceAdd, Int.reduceSub, Int.reducePow, Int.reduceFDiv, reduceCtorEq, reduceIte, hl64, hw1, h15, h2, h16, h7, p15, p2, p16, p7, g15, g2, g16, g7, Tryd.underlying29, hex, hb1, hb2, hb3, size_32, hlw, Nat.le_refl]
          refine ⟨by kernel_rfl, by kernel_rfl, ?_⟩
          refine ⟨.inr ⟨rfl, by decide⟩, ?_⟩
          have hnx : nextW (sched s.l t) = (ror ((sched s.l t).getD (14 + t) 0) 17 ^^^ ror ((sched s.l t).getD (14 + t) 0) 19 ^^^ shrN ((sched s.l t).getD (14 + t) 0) 10) + (sched s.l t).getD (9 + t) 0 + (ror ((sched s.l t).getD (1 + t) 0) 7 ^^^ ror ((sched s.l t).getD (1 + t) 0) 18 ^^^ shrN ((sched s.l t).getD (1 + t) 0) 3) + (sched s.l t).getD t 0 := by
            have n1 : 16 + t - 16 = t := by omega
            have n2 : 16 + t - 15 = 1 + t := by omega
            have n3 : 16 + t - 7 = 9 + t := by omega
            have n4 : 16 + t - 2 = 14 + t := by omega
            simp only [nextW, hlw, n1, n2, n3, n4]
            have : ∀ a b c d : UInt32, a + b + c + d = d + c + b + a := by
              intro a b c d
              rw [UInt32.add_comm (a + b + c) d, UInt32.add_comm (a + b) c, UInt32.add_comm a b, UInt32.add_assoc d c, UInt32.add_assoc d, UInt32.add_assoc c]
            exact this _ _ _ _
          rw [← hnx]
          refine ⟨t + 1, by omega, by omega, ?_⟩
          have hre := outV_renS (n := h.length) (j := 2) (l := sched s.l t) (a := nextW (sched s.l t))
          rw [hlw] at hre
          refine Eases.pick1 2 (outO enc32 1 (sched s.l t ++ [nextW (sched s.l t)])) ⟨_, rfl, outO_renS tree_enc32⟩ ?_
          repeat (first | exact KeepsS.nil | refine KeepsS.junk _ ?_ | refine KeepsS.keep (by first | exact .plain _ rfl | exact (Tree.slV tree_enc32 _).ren | exact hre) ?_)
        · have hl64 : ¬ ((16 + t : Nat) : Int) < 64 := by omega
          have hte : t = 48 := by omega
          subst hte
          simp (implicitDefEqProofs := false) only [go_sem, Nat.reduceAdd, Nat.reduceSub, Nat.reduceMul, Nat.reduceLT, Nat.reduceLeDiff, Nat.reduceEqDiff, Nat.reduceBEq, Nat.reduceBNe, Nat.reducePow, Int.reduceBEq, Int.reduceBNe, Int.reduceEq, Int.reduceLT, Int.reduceLE, Int.reduceNeg, Int.reduceToNat, Int.reduceMul, Int.reduceAdd, Int.reduceSub, Int.reducePow, Int.reduceFDiv, reduceCtorEq, reduceIte, hl64]
          refine astep_call (rkeys_calls _) ?_
          have h8 : s0.l.length = 8 := by rw [h0]; rfl
          simp (implicitDefEqProofs := false) only [go_sem, Nat.reduceAdd, Nat.reduceSub, Nat.reduceMul, Nat.reduceLT, Nat.reduceLeDiff, Nat.reduceEqDiff, Nat.reduceBEq, Nat.reduceBNe, Nat.reducePow, Int.reduceBEq, Int.reduceBNe, Int.reduceEq, Int.reduceLT, Int.reduceLE, Int.reduceNeg, Int.reduceToNat, Int.reduceMul, Int.reduceAdd, Int.reduceSub, Int.reducePow, Int.reduceFDiv, reduceCtorEq, reduceIte, h8]
          rw [h0]
          have hlw : (sched s.l 48).length = 64 := by rw [length_sched]
          have hkl : keysL.length = 64 := rfl
          have hts : ∀ v, takeS keysL st s.l = v ↔ st.add (rnds keysL (sched s.l 48) st 64) = v := fun v => Iff.rfl
          generalize sched s.l 48 = W at hlw hts ⊢
          generalize keysL = ks at hkl hts ⊢
          refine AWP.loopI (fun t : Nat => 64 - t) (fun t => [slV enc32 s0, junk, junk, junk, junk, slV enc32 (Sl.app W), junk, junk, junk, junk, junk, junk, slV enc32 (Sl.full ks), slV enc32 (Sl.full (rnds ks W st t).l), .int .i64 (t : Nat), junk, junk, junk, junk, junk, junk, junk, junk, junk, junk, junk, junk, junk, junk, junk, junk, junk, junk, junk, junk, junk, junk, junk, junk, junk, junk, junk, junk, junk, junk, junk, junk, junk, junk, junk, junk, junk, junk, junk, junk, junk, junk, junk, junk, junk, junk, junk, junk, junk, junk, junk, junk, junk, junk, junk, junk, junk, junk, junk, junk, junk, junk, junk, junk, junk, junk, junk, junk, junk, junk, junk, junk, junk, junk, junk, junk, junk, junk, junk, junk, junk, junk, junk, junk, junk, junk, junk, junk, junk, junk, junk, junk, junk, junk, junk, junk, junk, junk, junk, junk, junk, junk, junk, junk, junk, junk, junk, junk, junk, junk, junk, junk, junk, junk, junk, junk, junk, junk, junk, junk, junk, junk, junk, junk, junk, junk, junk, junk, junk, junk, junk, junk, junk, junk, junk, junk, junk, junk, junk, junk, junk, junk, junk, junk, junk, junk, junk, junk, junk, junk, junk, junk, junk, junk, junk, junk, junk, junk, junk, junk, junk, junk, junk, junk, junk, junk, junk, junk, junk, junk, junk, junk, junk, junk, junk, junk, junk, junk, junk, junk, junk, junk, junk, junk, junk, junk, junk, junk, junk, junk, junk, junk, junk, junk, junk, junk, junk, junk, junk, junk, junk, junk, junk, junk, junk, junk, junk, junk, junk, junk, junk])
            (fun t => h) (fun t => t ≤ 64) 0 (Nat.zero_le _) ?_ ?_
          · refine KeepsF.ease ?_
            repeat (first | exact KeepsF.nil | refine KeepsF.junk _ ?_ | refine KeepsF.keep (.same _) (.slV tree_enc32 _) ?_ | refine KeepsF.keep (Rf.outV (at_new _ _ 0) (dieNew_dead (by omega) (by simp)) length_enc32) (.slV tree_enc32 _) ?_ | refine KeepsF.keep (Rf.full (l := st.l) (at_new _ _ 1) (dieNew_dead (by omega) (by simp)) (Nat.le_refl _)) (.slV tree_enc32 _) ?_ | refine KeepsF.keep (.same _) (.plain _ rfl) ?_)
          · intro t ht
            generalize hv : rnds ks W st t = v
            by_cases hlt : t < 64
            · have hl64 : ((t : Nat) : Int) < 64 := by omega
              have hw1 : IntKind.i64.wrap ((t : Int) + 1) = ((t + 1 : Nat) : Int) := by rw [wrap_i64_of _ (by omega) (by omega), ofNat_succ']
              have hgk : ∀ hi : t < ks.length, ks[t]'hi = ks.getD t 0 := fun hi => l_getD hi
              have hgw : ∀ hi : t < W.length, W[t]'hi = W.getD t 0 := fun hi => l_getD hi
              simp (implicitDefEqProofs := false) only [go_sem, Nat.reduceAdd, Nat.reduceSub, Nat.reduceMul, Nat.reduceLT, Nat.reduceLeDiff, Nat.reduceEqDiff, Nat.reduceBEq, Nat.reduceBNe, Nat.reducePow, Int.reduceBEq, Int.reduceBNe, Int.reduceEq, Int.reduceLT, Int.reduceLE, Int.reduceNeg, Int.reduceToNat, Int.reduceMul, Int.reduceAdd, Int.reduceSub, Int.reducePow, Int.reduceFDiv, reduceCtorEq, reduceIte, hl64, hlt, hw1, hlw, hkl, S8len, S8e0, S8e1, S8e2, S8e3, S8e4, S8e5, S8e6, S8e7, hgk, hgw]
              refine ⟨by kernel_rfl, by kernel_rfl, ?_⟩
              refine dstep_call (rrot6 _ _) pres_refl ?_
              simp (implicitDefEqProofs := false) only [go_sem, Nat.reduceAdd, Nat.reduceSub, Nat.reduceMul, Nat.reduceLT, Nat.reduceLeDiff, Nat.reduceEqDiff, Nat.reduceBEq, Nat.reduceBNe, Nat.reducePow, Int.reduceBEq, Int.reduceBNe, Int.reduceEq, Int.reduceLT, Int.reduceLE, Int.reduceNeg, Int.reduceToNat, Int.reduceMul, Int.reduceAdd, Int.reduceSub, Int.reducePow, Int.reduceFDiv, reduceCtorEq, reduceIte]
              refine dstep_call (rrot11 _ _) pres_refl ?_
              simp (implicitDefEqProofs := false) only [go_sem, Nat.reduceAdd, Nat.reduceSub, Nat.reduceMul, Nat.reduceLT, Nat.reduceLeDiff, Nat.reduceEqDiff, Nat.reduceBEq, Nat.reduceBNe, Nat.reducePow, Int.reduceBEq, Int.reduceBNe, Int.reduceEq, Int.reduceLT, Int.reduceLE, Int.reduceNeg, Int.reduceToNat, Int.reduceMul, Int.reduceAdd, Int.reduceSub, Int.reducePow, Int.reduceFDiv, reduceCtorEq, reduceIte]
              refine dstep_call (rrot25 _ _) pres_refl ?_
              simp (implicitDefEqProofs := false) only [go_sem, Nat.reduceAdd, Nat.reduceSub, Nat.reduceMul, Nat.reduceLT, Nat.reduceLeDiff, Nat.reduceEqDiff, Nat.reduceBEq, Nat.reduceBNe, Nat.reducePow, Int.reduceBEq, Int.reduceBNe, Int.reduceEq, Int.reduceLT, Int.reduceLE, Int.reduceNeg, Int.reduceToNat, Int.reduceMul, Int.reduceAdd, Int.reduceSub, Int.reducePow, Int.reduceFDiv, reduceCtorEq, reduceIte, hl64, hlt, hw1, hlw, hkl, S8len, S8e0, S8e1, S8e2, S8e3, S8e4, S8e5, S8e6, S8e7, hgk, hgw]
              refine ⟨by kernel_rfl, by kernel_rfl, ?_⟩
              refine dstep_call (rrot2 _ _) pres_refl ?_
              simp (implicitDefEqProofs := false) only [go_sem, Nat.reduceAdd, Nat.reduceSub, Nat.reduceMul, Nat.reduceLT, Nat.reduceLeDiff, Nat.reduceEqDiff, Nat.reduceBEq, Nat.reduceBNe, Nat.reducePow, Int.reduceBEq, Int.reduceBNe, Int.reduceEq, Int.reduceLT, Int.reduceLE, Int.reduceNeg, Int.reduceToNat, Int.reduceMul, Int.reduceAdd, Int.reduceSub, Int.reducePow, Int.reduceFDiv, reduceCtorEq, reduceIte]
              refine dstep_call (rrot13 _ _) pres_refl ?_
              simp (implicitDefEqProofs := false) only [go_sem, Nat.reduceAdd, Nat.reduceSub, Nat.reduceMul, Nat.reduceLT, Nat.reduceLeDiff, Nat.reduceEqDiff, Nat.reduceBEq, Nat.reduceBNe, Nat.reducePow, Int.reduceBEq, Int.reduceBNe, Int.reduceEq, Int.reduceLT, Int.reduceLE, Int.reduceNeg, Int.reduceToNat, Int.reduceMul, Int.reduceAdd, Int.reduceSub, Int.reducePow, Int.reduceFDiv, reduceCtorEq, reduceIte]
              refine dstep_call (rrot22 _ _) pres_refl ?_
              simp (implicitDefEqProofs := false) only [go_sem, Nat.reduceAdd, Nat.reduceSub, Nat.reduceMul, Nat.reduceLT, Nat.reduceLeDiff, Nat.reduceEqDiff, Nat.reduceBEq, Nat.reduceBNe, Nat.reducePow, Int.reduceBEq, Int.reduceBNe, Int.reduceEq, Int.reduceLT, Int.reduceLE, Int.reduceNeg, Int.reduceToNat, Int.reduceMul, Int.reduceAdd, Int.reduceSub, Int.reducePow, Int.reduceFDiv, reduceCtorEq, reduceIte, hl64, hlt, hw1, hlw, hkl, S8len, S8e0, S8e1, S8e2, S8e3, S8e4, S8e5, S8e6, S8e7, hgk, hgw]
              have hz8 : zeros #[Value.int IntKind.u32 0] 8 = [Value.int .u32 0, .int .u32 0, .int .u32 0, .int .u32 0, .int .u32 0, .int .u32 0, .int .u32 0, .int .u32 0].toArray := by kernel_rfl
              simp (implicitDefEqProofs := false) only [go_sem, Nat.reduceAdd, Nat.reduceSub, Nat.reduceMul, Nat.reduceLT, Nat.reduceLeDiff, Nat.reduceEqDiff, Nat.reduceBEq, Nat.reduceBNe, Nat.reducePow, Int.reduceBEq, Int.reduceBNe, Int.reduceEq, Int.reduceLT, Int.reduceLE, Int.reduceNeg, Int.reduceToNat, Int.reduceMul, Int.reduceAdd, Int.reduceSub, Int.reducePow, Int.reduceFDiv, reduceCtorEq, reduceIte, hz8, List.setIfInBounds_toArray, List.size_toArray, hw1]
              refine ⟨by kernel_rfl, by kernel_rfl, ?_⟩
              refine ⟨t + 1, by omega, by omega, ?_⟩
              have hr : rnds ks W st (t + 1) = rnd v (ks.getD t 0) (W.getD t 0) := by rw [rnds, hv]
              rw [hr]
              have hbk : (h ++ [AObj.cells (flatV enc32 (rnd v (ks.getD t 0) (W.getD t 0)).l) 1 true])[h.length]? = some (.cells (flatV enc32 (rnd v (ks.getD t 0) (W.getD t 0)).l) 1 true) := at_new0 _ _
              refine KeepsF.ease ?_
              repeat (first | exact KeepsF.nil | refine KeepsF.junk _ ?_ | refine KeepsF.keep (.same _) (.slV tree_enc32 _) ?_ | refine KeepsF.keep (Rf.full (l := (rnd v (ks.getD t 0) (W.getD t 0)).l) hbk (dieNew_dead (by omega) (by simp)) (Nat.le_refl _)) (.slV tree_enc32 _) ?_ | refine KeepsF.keep (.same _) (.plain _ rfl) ?_)
            · have hl64 : ¬ ((t : Nat) : Int) < 64 := by omega
              have hte : t = 64 := by omega
              subst hte
              simp (implicitDefEqProofs := false) only [go_sem, Nat.reduceAdd, Nat.reduceSub, Nat.reduceMul, Nat.reduceLT, Nat.reduceLeDiff, Nat.reduceEqDiff, Nat.reduceBEq, Nat.reduceBNe, Nat.reducePow, Int.reduceBEq, Int.reduceBNe, Int.reduceEq, Int.reduceLT, Int.reduceLE, Int.reduceNeg, Int.reduceToNat, Int.reduceMul, Int.reduceAdd, Int.reduceSub, Int.reducePow, Int.reduceFDiv, reduceCtorEq, reduceIte, hl64]
              refine AWP.loopI (fun i : Nat => 8 - i) (fun i => [slV enc32 s0, junk, junk, junk, junk, junk, junk, junk, junk, junk, junk, junk, junk, slV enc32 (Sl.full v.l), junk, junk, junk, junk, junk, outV h.length (sumL st v i), .int .i64 (i : Nat), junk, junk, junk, junk, junk, junk, junk, junk, junk, junk, junk, junk, junk, junk, junk, junk, junk, junk, junk, junk, junk, junk, junk, junk, junk, junk, junk, junk, junk, junk, junk, junk, junk, junk, junk, junk, junk, junk, junk, junk, junk, junk, junk, junk, junk, junk, junk, junk, junk, junk, junk, junk, junk, junk, junk, junk, junk, junk, junk, junk, junk, junk, junk, junk, junk, junk, junk, junk, junk, junk, junk, junk, junk, junk, junk, junk, junk, junk, junk, junk, junk, junk, junk, junk, junk, junk, junk, junk, junk, junk, junk, junk, junk, junk, junk, junk, junk, junk, junk, junk, junk, junk, junk, junk, junk, junk, junk, junk, junk, junk, junk, junk, junk, junk, junk, junk, junk, junk, junk, junk, junk, junk, junk, junk, junk, junk, junk, junk, junk, junk, junk, junk, junk, junk, junk, junk, junk, junk, junk, junk, junk, junk, junk, junk, junk, junk, junk, junk, junk, junk, junk, junk, junk, junk, junk, junk, junk, junk, junk, junk, junk, junk, junk, junk, junk, junk, junk, junk, junk, junk, junk, junk, junk, junk, junk, junk, junk, junk, junk, junk, junk, junk, junk, junk, junk, junk, junk, junk, junk, junk, junk, junk, junk, junk, junk, junk, junk, junk, junk, junk, junk, junk, junk, junk, junk])
                (fun i => h ++ [outO enc32 1 (sumL st v i)]) (fun i => i ≤ 8) 0 (Nat.zero_le _) ?_ ?_
              · refine Keeps.easeG ?_
                repeat (first | exact Keeps.nil | refine Keeps.junk _ ?_ | refine Keeps.keep (by first | exact .plain _ rfl | exact (Tree.slV tree_enc32 _).ren) ?_)
              · intro i hi
                by_cases hlt : i < 8
                · have hl8 : ((i : Nat) : Int) < 8 := by omega
                  have hw1 : IntKind.i64.wrap ((i : Int) + 1) = ((i + 1 : Nat) : Int) := by rw [wrap_i64_of _ (by omega) (by omega), ofNat_succ']
                  have hlen : (sumL st v i).length ≤ 8 := by rw [length_sumL]; exact hi
                  have hg0 : ∀ hi : i < s0.l.length, s0.l[i]'hi = st.l.getD i 0 := fun hi => by rw [l_getD hi, h0]
                  have hgv : ∀ hi : i < v.l.length, v.l[i]'hi = v.l.getD i 0 := fun hi => l_getD hi
                  simp (implicitDefEqProofs := false) only [go_sem, Nat.reduceAdd, Nat.reduceSub, Nat.reduceMul, Nat.reduceLT, Nat.reduceLeDiff, Nat.reduceEqDiff, Nat.reduceBEq, Nat.reduceBNe, Nat.reducePow, Int.reduceBEq, Int.reduceBNe, Int.reduceEq, Int.reduceLT, Int.reduceLE, Int.reduceNeg, Int.reduceToNat, Int.reduceMul, Int.reduceAdd, Int.reduceSub, Int.reducePow, Int.reduceFDiv, reduceCtorEq, reduceIte, hl8, hlt, hw1, h8, S8len, hg0, hgv, mkApp_outN (enc := enc32) (m := 1) (n := 1) (by_ := 4) (l := sumL st v i) length_enc32 (Nat.zero_lt_one) ⟨by omega, by omega⟩]
                  refine ⟨by kernel_rfl, by kernel_rfl, ?_⟩
                  refine ⟨.inr ⟨rfl, by decide⟩, ?_⟩
                  refine ⟨i + 1, by omega, by omega, ?_⟩
                  rw [sumL_succ]
                  refine Eases.pick1 2 (outO enc32 1 (sumL st v i ++ [st.l.getD i 0 + v.l.getD i 0])) ⟨_, rfl, outO_renS tree_enc32⟩ ?_
                  repeat (first | exact KeepsS.nil | refine KeepsS.junk _ ?_ | refine KeepsS.keep (by first | exact .plain _ rfl | exact (Tree.slV tree_enc32 _).ren | exact outV_renS) ?_)
                · have hl8 : ¬ ((i : Nat) : Int) < 8 := by omega
                  have hie : i = 8 := by omega
                  subst hie
                  simp (implicitDefEqProofs := false) only [go_sem, Nat.reduceAdd, Nat.reduceSub, Nat.reduceMul, Nat.reduceLT, Nat.reduceLeDiff, Nat.reduceEqDiff, Nat.reduceBEq, Nat.reduceBNe, Nat.reducePow, Int.reduceBEq, Int.reduceBNe, Int.reduceEq, Int.reduceLT, Int.reduceLE, Int.reduceNeg, Int.reduceToNat, Int.reduceMul, Int.reduceAdd, Int.reduceSub, Int.reducePow, Int.reduceFDiv, reduceCtorEq, reduceIte, hl8]
                  refine apost_out rfl length_enc32 tree_enc32 ⟨?_, rfl⟩ _ rfl
                  rw [sumL_8, ← hv]
                  rw [(hts _).2 rfl]
end Go.Proofs
