import Derived.Test.YtlimncmlocojkaaDoorSha5
import Derived.Test.YtlimncmlocojkaaDoorWordR
import Derived.Test.YtlimncmlocojkaaDoorAm43x
set_option linter.unusedSimpArgs false
set_option linter.unusedVariables false
/- the hash, by the document -/
namespace Go.Proofs
open Go Go.Am

theorem oren_wz {σ : Nat → Nat} {L : Nat} {w : Word4} : ORen σ L (.cells (encWord w).toArray 0 true) (.cells (encWord w).toArray 0 true) := ORen.plainCells (tree_encWord _)

set_option maxRecDepth 10000 in
set_option maxHeartbeats 16000000 in
theorem rsum_calls (s : Sl UInt8) (hs : s.l.length < 2 ^ 32) (h : AH) :
    ACalls Tryd.prog 6 #[slV encU8 s] h (fun v h' => v = .agg (encWord (rdW (bytesS (hashS keysL s.l)))).toArray ∧ h' = h) := by
  refine ACalls.of_ay Tryd.func6 rfl Tryd.ntmps6 ⟨_, _, rfl, rfl⟩ ?_; simp only [List.length_cons, List.length_nil, Nat.reduceAdd, Nat.reduceSub, List.replicate_succ, List.replicate_zero, List.cons_append, List.nil_append]
  have hb1 : 2 * s.l.length ≤ 281474976710464 := by omega
  have hb2 : s.l.length < 4611686018427387904 := by omega
  have hb3 : 2 * (s.l.length + 1) ≤ 281474976710464 := by omega
  have hb4 : s.l.length + 1 < 4611686018427387904 := by omega
  have hwl : IntKind.u64.wrap ((s.l.length : Nat) : Int) = (s.l.length : Nat) := wrap_u64_of _ (by omega) (by omega)
  have hwm : IntKind.u64.wrap (((s.l.length : Nat) : Int) * 8) = ((8 * s.l.length : Nat) : Int) := by rw [wrap_u64_of _ (by omega) (by omega)]; omega
  have hpad : padN s.l.length ≤ 64 := by unfold padN; split <;> omega
  by_cases hs0 : s.l.length = 0
  · have hsn : s.l = [] := List.length_eq_zero_iff.1 hs0
    simp (implicitDefEqProofs := false) only [go_sem, Nat.reduceAdd, Nat.reduceSub, Nat.reduceMul, Nat.reduceLT, Nat.reduceLeDiff, Nat.reduceEqDiff, Nat.reduceBEq, Nat.reduceBNe, Nat.reducePow, Int.reduceBEq, Int.reduceBNe, Int.reduceEq, Int.reduceLT, Int.reduceLE, Int.reduceNeg, Int.reduceToNat, Int.reduceMul, Int.reduceAdd, Int.reduceSub, Int.reducePow, Int.reduceFDiv, reduceCtorEq, reduceIte, hs0]
    rw [zeroW_enc]
    refine AWP.loopI (fun i : Nat => padN s.l.length - i) (fun i => [slV encU8 s, junk, .pointer (some ⟨h.length + 0, 0, none⟩), outV (h.length + 1) (s.l ++ (128 : UInt8) :: List.replicate i 0), junk, junk, junk, junk, junk, junk, junk, junk, junk, junk, junk, junk, junk, junk, junk, junk, junk, junk, junk, junk, junk, junk, junk, junk, junk, junk, junk, junk, junk, junk, junk, junk, junk, junk, junk, junk, junk, junk, junk, junk, junk, junk, junk, junk, junk, junk, junk, junk, junk, junk, junk, junk, junk, junk, junk, junk, junk, junk, junk, junk, junk, junk, junk, junk, junk, junk, junk, junk, junk, junk, junk, junk, junk, junk, junk, junk, junk, junk, junk, junk, junk, junk, junk])
      (fun i => h ++ [.cells (encWord zeroW).toArray 0 true, outO encU8 1 (s.l ++ (128 : UInt8) :: List.replicate i 0)]) (fun i => i ≤ padN s.l.length) 0 (Nat.zero_le _) ?_ ?_
    · refine pick2 2 (by decide) ⟨rfl, fun σ L => oren_wz⟩ ⟨_, rfl, ?_⟩ ?_
      · rw [hsn]; exact outO_renS (l := []) tree_encU8
      · repeat (first | exact KeepsS.nil | refine KeepsS.junk _ ?_ | refine KeepsS.keep (by first | exact .plain _ rfl | exact (Tree.slV tree_encU8 _).ren | exact ptr_pick (k := 0) (by omega) rfl | exact outV_pick (l := s.l) (a := (128 : UInt8)) (by omega) rfl | exact (by rw [hsn]; exact outV_pick (l := []) (a := (128 : UInt8)) (by omega) rfl)) ?_)
    · intro i hi
      have hlen : (s.l ++ (128 : UInt8) :: List.replicate i 0).length = s.l.length + 1 + i := by simp; omega
      by_cases hlt : i < padN s.l.length
      · have hne : ¬ (s.l.length + 1 + i) % 64 = 56 := by rw [pad_iff hi]; omega
        have htm : (((s.l.length + 1 + i : Nat) : Int).tmod 64) = (((s.l.length + 1 + i) % 64 : Nat) : Int) := rfl
        have hne' : ((((s.l.length + 1 + i) % 64 : Nat) : Int) != 56) = true := by rw [bne_iff_ne]; omega
        simp (implicitDefEqProofs := false) only [go_sem, Nat.reduceAdd, Nat.reduceSub, Nat.reduceMul, Nat.reduceLT, Nat.reduceLeDiff, Nat.reduceEqDiff, Nat.reduceBEq, Nat.reduceBNe, Nat.reducePow, Int.reduceBEq, Int.reduceBNe, Int.reduceEq, Int.reduceLT, Int.reduceLE, Int.reduceNeg, Int.reduceToNat, Int.reduceMul, Int.reduceAdd, Int.reduceSub, Int.reducePow, Int.reduceFDiv, reduceCtorEq, reduceIte, hlen, htm, hne', mkApp_out1 (enc := encU8) (m := 1) (n := 1) (by_ := 1) (l := s.l ++ (128 : UInt8) :: List.replicate i 0) length_encU8 (Nat.zero_lt_one) ⟨by omega, by omega⟩]
        refine ⟨i + 1, by omega, by omega, ?_⟩
        have hsn2 : s.l ++ (128 : UInt8) :: List.replicate (i + 1) 0 = (s.l ++ (128 : UInt8) :: List.replicate i 0) ++ [0] := by rw [List.replicate_succ']; simp
        rw [hsn2]
        have hv := outV_pick (n := h.length) (L := h.length + 2) (b := 3) (k := 1) (js := [0, 3]) (l := s.l ++ (128 : UInt8) :: List.replicate i 0) (a := (0 : UInt8)) (by omega) rfl
        rw [hlen] at hv
        refine pick2 3 (by decide) ⟨rfl, fun σ L => oren_wz⟩ ⟨_, rfl, outO_renS tree_encU8⟩ ?_
        repeat (first | exact KeepsS.nil | refine KeepsS.junk _ ?_ | refine KeepsS.keep (by first | exact .plain _ rfl | exact (Tree.slV tree_encU8 _).ren | exact ptr_pick (k := 0) (by omega) rfl | exact hv) ?_)
      · have hie : i = padN s.l.length := by omega
        have heq : (s.l.length + 1 + i) % 64 = 56 := by rw [pad_iff hi]; exact hie
        have htm : (((s.l.length + 1 + i : Nat) : Int).tmod 64) = (((s.l.length + 1 + i) % 64 : Nat) : Int) := rfl
        have hne' : ((((s.l.length + 1 + i) % 64 : Nat) : Int) != 56) = false := by rw [heq]; rfl
        have hpd : (s.l ++ (128 : UInt8) :: List.replicate i 0) ++ be8 (8 * s.l.length) = padded s.l := by rw [hie, padded, List.append_assoc]; rfl
        generalize s.l ++ (128 : UInt8) :: List.replicate i 0 = pP at hlen hpd ⊢
        simp (implicitDefEqProofs := false) only [go_sem, Nat.reduceAdd, Nat.reduceSub, Nat.reduceMul, Nat.reduceLT, Nat.reduceLeDiff, Nat.reduceEqDiff, Nat.reduceBEq, Nat.reduceBNe, Nat.reducePow, Int.reduceBEq, Int.reduceBNe, Int.reduceEq, Int.reduceLT, Int.reduceLE, Int.reduceNeg, Int.reduceToNat, Int.reduceMul, Int.reduceAdd, Int.reduceSub, Int.reducePow, Int.reduceFDiv, reduceCtorEq, reduceIte, hlen, htm, hne', hwl, hwm]
        rw [show pP = pP ++ (be8 (8 * s.l.length)).take 0 by simp]
        refine AWP.loopI (fun j : Nat => 8 - j) (fun j => [junk, junk, .pointer (some ⟨h.length + 0, 0, none⟩), outV (h.length + 1) (pP ++ (be8 (8 * s.l.length)).take j), .int .u64 (8 * s.l.length : Nat), .int .i64 (j : Nat), junk, junk, junk, junk, junk, junk, junk, junk, junk, junk, junk, junk, junk, junk, junk, junk, junk, junk, junk, junk, junk, junk, junk, junk, junk, junk, junk, junk, junk, junk, junk, junk, junk, junk, junk, junk, junk, junk, junk, junk, junk, junk, junk, junk, junk, junk, junk, junk, junk, junk, junk, junk, junk, junk, junk, junk, junk, junk, junk, junk, junk, junk, junk, junk, junk, junk, junk, junk, junk, junk, junk, junk, junk, junk, junk, junk, junk, junk, junk, junk, junk])
          (fun j => h ++ [.cells (encWord zeroW).toArray 0 true, outO encU8 1 (pP ++ (be8 (8 * s.l.length)).take j)]) (fun j => j ≤ 8) 0 (Nat.zero_le _) ?_ ?_
        · refine Keeps.easeL (t := [.cells (encWord zeroW).toArray 0 true, outO encU8 1 _]) ?_ ?_
          · intro o ho
            rcases List.mem_cons.1 ho with rfl | ho
            · exact oren_wz
            · rw [List.mem_singleton] at ho; subst ho; exact outO_ren tree_encU8
          · repeat (first | exact Keeps.nil | refine Keeps.junk _ ?_ | refine Keeps.keep (by first | exact .plain _ rfl | exact .ptr _ _ _ (by simp) rfl | exact outV_two) ?_)
        · intro j hj
          have hlj : (pP ++ (be8 (8 * s.l.length)).take j).length = s.l.length + 1 + i + j := by rw [List.length_append, hlen, List.length_take, length_be8]; omega
          by_cases hj8 : j < 8
          · have hl8 : ((j : Nat) : Int) < 8 := by omega
            have hwj : IntKind.i64.wrap ((j : Int) + 1) = ((j + 1 : Nat) : Int) := by rw [wrap_i64_of _ (by omega) (by omega), ofNat_succ']
            have hm : IntKind.i64.wrap ((8 : Int) * (j : Int)) = ((8 * j : Nat) : Int) := by rw [wrap_i64_of _ (by omega) (by omega)]; omega
            have hm2 : IntKind.i64.wrap ((56 : Int) - ((8 * j : Nat) : Int)) = ((8 * (7 - j) : Nat) : Int) := by rw [wrap_i64_of _ (by omega) (by omega)]; omega
            have hm3 : IntKind.u64.wrap ((8 * (7 - j) : Nat) : Int) = ((8 * (7 - j) : Nat) : Int) := wrap_u64_of _ (by omega) (by omega)
            have hn0 : ¬ ((8 * (7 - j) : Nat) : Int) < 0 := by omega
            have hsh : IntKind.u8.wrap ((((8 * s.l.length : Nat) : Int)).fdiv (2 ^ (min (8 * (7 - j)) 64))) = (((UInt8.ofNat (8 * s.l.length / 2 ^ (8 * (7 - j)))).toNat : Nat) : Int) := by
              have e : min (8 * (7 - j)) 64 = 8 * (7 - j) := by omega
              have e2 : (((8 * s.l.length : Nat) : Int)).fdiv (2 ^ (8 * (7 - j))) = ((8 * s.l.length / 2 ^ (8 * (7 - j)) : Nat) : Int) := by
                rw [Int.fdiv_eq_ediv_of_nonneg _ (Int.le_of_lt (Int.pow_pos (by decide)))]
                push_cast; rfl
              rw [e, e2, wrap8]
            simp (implicitDefEqProofs := false) only [go_sem, Nat.reduceAdd, Nat.reduceSub, Nat.reduceMul, Nat.reduceLT, Nat.reduceLeDiff, Nat.reduceEqDiff, Nat.reduceBEq, Nat.reduceBNe, Nat.reducePow, Int.reduceBEq, Int.reduceBNe, Int.reduceEq, Int.reduceLT, Int.reduceLE, Int.reduceNeg, Int.reduceToNat, Int.reduceMul, Int.reduceAdd, Int.reduceSub, Int.reducePow, Int.reduceFDiv, reduceCtorEq, reduceIte, hl8, hwj, hm, hm2, hm3, abin_shr hn0, hsh, mkApp_out1 (enc := encU8) (m := 1) (n := 1) (by_ := 1) (l := pP ++ (be8 (8 * s.l.length)).take j) length_encU8 (Nat.zero_lt_one) ⟨by omega, by omega⟩]
            refine ⟨j + 1, by omega, by omega, ?_⟩
            rw [be8_take _ hj8, ← List.append_assoc]
            have hv := outV_pick (n := h.length) (L := h.length + 2) (b := 3) (k := 1) (js := [0, 3]) (l := pP ++ (be8 (8 * s.l.length)).take j) (a := UInt8.ofNat (8 * s.l.length / 2 ^ (8 * (7 - j)))) (by omega) rfl
            rw [List.length_append] at hv
            refine pick2 3 (by decide) ⟨rfl, fun σ L => oren_wz⟩ ⟨_, rfl, outO_renS tree_encU8⟩ ?_
            repeat (first | exact KeepsS.nil | refine KeepsS.junk _ ?_ | refine KeepsS.keep (by first | exact .plain _ rfl | exact ptr_pick (k := 0) (by omega) rfl | exact hv) ?_)
          · have hl8 : ¬ ((j : Nat) : Int) < 8 := by omega
            have hje : j = 8 := by omega
            subst hje
            rw [List.take_of_length_le (by rw [length_be8]; exact Nat.le_refl _), hpd]
            have hPl := length_padded s.l
            have hPh : foldB keysL (s.l.length / 64 + if s.l.length % 64 < 56 then 1 else 2) startS (padded s.l) = hashS keysL s.l := rfl
            generalize (s.l.length / 64 + if s.l.length % 64 < 56 then 1 else 2) = K at hPl hPh
            have hK : 64 * K ≤ 4294967296 + 200 := by rw [← hPl, padded]; simp [length_be8]; omega
            generalize padded s.l = PP at hPl hPh ⊢
            have hz8 : zeros #[Value.int IntKind.u32 0] 8 = [Value.int .u32 0, .int .u32 0, .int .u32 0, .int .u32 0, .int .u32 0, .int .u32 0, .int .u32 0, .int .u32 0].toArray := by kernel_rfl
            simp (implicitDefEqProofs := false) only [go_sem, Nat.reduceAdd, Nat.reduceSub, Nat.reduceMul, Nat.reduceLT, Nat.reduceLeDiff, Nat.reduceEqDiff, Nat.reduceBEq, Nat.reduceBNe, Nat.reducePow, Int.reduceBEq, Int.reduceBNe, Int.reduceEq, Int.reduceLT, Int.reduceLE, Int.reduceNeg, Int.reduceToNat, Int.reduceMul, Int.reduceAdd, Int.reduceSub, Int.reducePow, Int.reduceFDiv, reduceCtorEq, reduceIte, hl8, hz8, List.setIfInBounds_toArray, List.size_toArray]
            rw [show (#[Value.int .u32 1779033703, .int .u32 3144134277, .int .u32 1013904242, .int .u32 2773480762, .int .u32 1359893119, .int .u32 2600822924, .int .u32 528734635, .int .u32 1541459225] : Array Value) = flatV enc32 startS.l by kernel_rfl]
            refine AWP.loopI (fun k : Nat => K - k) (fun k => [junk, junk, .pointer (some ⟨h.length + 0, 0, none⟩), slV encU8 (Sl.app PP), junk, junk, slV enc32 (Sl.app (foldB keysL k startS PP).l), .int .i64 ((64 * k : Nat) : Int), junk, junk, junk, junk, junk, junk, junk, junk, junk, junk, junk, junk, junk, junk, junk, junk, junk, junk, junk, junk, junk, junk, junk, junk, junk, junk, junk, junk, junk, junk, junk, junk, junk, junk, junk, junk, junk, junk, junk, junk, junk, junk, junk, junk, junk, junk, junk, junk, junk, junk, junk, junk, junk, junk, junk, junk, junk, junk, junk, junk, junk, junk, junk, junk, junk, junk, junk, junk, junk, junk, junk, junk, junk, junk, junk, junk, junk, junk, junk])
              (fun k => h ++ [.cells (encWord zeroW).toArray 0 true]) (fun k => k ≤ K) 0 (Nat.zero_le _) ?_ ?_
            · refine Eases.trans (FzL.ease (b := h.length + 1) (l1 := [junk, junk, .pointer (some ⟨h.length + 0, 0, none⟩), slV encU8 (Sl.app PP), junk, junk, .slice (some ⟨h.length + 2, 0, none⟩) 8 8, .int .i64 0, junk, junk, junk, junk, junk, junk, junk, junk, junk, junk, junk, junk, junk, junk, junk, junk, junk, junk, junk, junk, junk, junk, junk, junk, junk, junk, junk, junk, junk, junk, junk, junk, junk, junk, junk, junk, junk, junk, junk, junk, junk, junk, junk, junk, junk, junk, junk, junk, junk, junk, junk, junk, junk, junk, junk, junk, junk, junk, junk, junk, junk, junk, junk, junk, junk, junk, junk, junk, junk, junk, junk, junk, junk, junk, junk, junk, junk, junk, junk]) ?_) ?_
              · repeat (first | exact FzL.nil | refine FzL.junk _ ?_ | refine FzL.keep (.same _) ?_ | refine FzL.keep (Rf.outV (at_new _ _ 1) (List.getElem?_set_self (by simp)) length_encU8) ?_)
              · rw [set_new]
                refine Eases.trans (FzL.ease (b := h.length + 2) (l1 := [junk, junk, .pointer (some ⟨h.length + 0, 0, none⟩), slV encU8 (Sl.app PP), junk, junk, slV enc32 (Sl.app startS.l), .int .i64 0, junk, junk, junk, junk, junk, junk, junk, junk, junk, junk, junk, junk, junk, junk, junk, junk, junk, junk, junk, junk, junk, junk, junk, junk, junk, junk, junk, junk, junk, junk, junk, junk, junk, junk, junk, junk, junk, junk, junk, junk, junk, junk, junk, junk, junk, junk, junk, junk, junk, junk, junk, junk, junk, junk, junk, junk, junk, junk, junk, junk, junk, junk, junk, junk, junk, junk, junk, junk, junk, junk, junk, junk, junk, junk, junk, junk, junk, junk, junk]) ?_) ?_
                · repeat (first | exact FzL.nil | refine FzL.junk _ ?_ | refine FzL.keep (.same _) ?_ | refine FzL.keep (Rf.full (l := startS.l) (at_new _ _ 2) (List.getElem?_set_self (by simp)) (Nat.le_refl _)) ?_)
                · rw [set_new]
                  refine Keeps.easeP (t := [.cells (encWord zeroW).toArray 0 true]) (x := [.dead, .dead]) (fun o ho => by rw [List.mem_singleton] at ho; subst ho; exact oren_wz) ?_
                  repeat (first | exact Keeps.nil | refine Keeps.junk _ ?_ | refine Keeps.keep (by first | exact .plain _ rfl | exact .ptr _ _ _ (by simp) rfl | exact (Tree.slV tree_encU8 _).ren | exact (Tree.slV tree_enc32 _).ren) ?_)
            · intro k hk
              by_cases hkK : k < K
              · have hl64 : ((64 * k : Nat) : Int) < ((64 * K : Nat) : Int) := by omega
                have hw64 : IntKind.i64.wrap (((64 * k : Nat) : Int) + 64) = ((64 * k + 64 : Nat) : Int) := by rw [wrap_i64_of _ (by omega) (by omega)]; omega
                have ha1 : 64 * k + 64 ≤ 64 * K := by omega
                have ha2 : ((64 * k + 64 : Nat) : Int) ≤ ((64 * K : Nat) : Int) := by omega
                have ha4 : ((64 * k : Nat) : Int) ≤ ((64 * k + 64 : Nat) : Int) := by omega
                have ha5 : 64 * k ≤ 64 * k + 64 := by omega
                simp (implicitDefEqProofs := false) only [go_sem, Nat.reduceAdd, Nat.reduceSub, Nat.reduceMul, Nat.reduceLT, Nat.reduceLeDiff, Nat.reduceEqDiff, Nat.reduceBEq, Nat.reduceBNe, Nat.reducePow, Int.reduceBEq, Int.reduceBNe, Int.reduceEq, Int.reduceLT, Int.reduceLE, Int.reduceNeg, Int.reduceToNat, Int.reduceMul, Int.reduceAdd, Int.reduceSub, Int.reducePow, Int.reduceFDiv, reduceCtorEq, reduceIte, hPl, hl64, hw64, ha1, ha2, ha4, ha5]
                refine astep_call (rblock_calls (foldB keysL k startS PP) (Sl.app _) rfl _ (by show (List.drop (64 * k) (List.take (64 * k + 64) PP)).length = 64; simp [hPl]; omega) _) ?_
                simp (implicitDefEqProofs := false) only [go_sem, Nat.reduceAdd, Nat.reduceSub, Nat.reduceMul, Nat.reduceLT, Nat.reduceLeDiff, Nat.reduceEqDiff, Nat.reduceBEq, Nat.reduceBNe, Nat.reducePow, Int.reduceBEq, Int.reduceBNe, Int.reduceEq, Int.reduceLT, Int.reduceLE, Int.reduceNeg, Int.reduceToNat, Int.reduceMul, Int.reduceAdd, Int.reduceSub, Int.reducePow, Int.reduceFDiv, reduceCtorEq, reduceIte, hw64]
                have et : takeS keysL (foldB keysL k startS PP) (List.drop (64 * k) (List.take (64 * k + 64) PP)) = foldB keysL (k + 1) startS PP := by
                  rw [foldB_succ, List.drop_take]
                  congr 2; omega
                rw [et]
                refine ⟨k + 1, by omega, by omega, Keeps.easeL (t := [.cells (encWord zeroW).toArray 0 true]) (fun o ho => by rw [List.mem_singleton] at ho; subst ho; exact oren_wz) ?_⟩
                repeat (first | exact Keeps.nil | refine Keeps.junk _ ?_ | refine Keeps.keep (by first | exact .plain _ rfl | exact .ptr _ _ _ (by simp) rfl | exact (Tree.slV tree_encU8 _).ren | exact (Tree.slV tree_enc32 _).ren) ?_)
              · have hkK' : k = K := by omega
                subst hkK'
                have hl64 : ¬ ((64 * k : Nat) : Int) < ((64 * k : Nat) : Int) := by omega
                rw [hPh]
                generalize hashS keysL s.l = st
                simp (implicitDefEqProofs := false) only [go_sem, Nat.reduceAdd, Nat.reduceSub, Nat.reduceMul, Nat.reduceLT, Nat.reduceLeDiff, Nat.reduceEqDiff, Nat.reduceBEq, Nat.reduceBNe, Nat.reducePow, Int.reduceBEq, Int.reduceBNe, Int.reduceEq, Int.reduceLT, Int.reduceLE, Int.reduceNeg, Int.reduceToNat, Int.reduceMul, Int.reduceAdd, Int.reduceSub, Int.reducePow, Int.reduceFDiv, reduceCtorEq, reduceIte, hPl, hl64]
                refine AWP.loopI (fun i : Nat => 8 - i) (fun i => [junk, junk, .pointer (some ⟨h.length + 0, 0, none⟩), junk, junk, junk, slV enc32 (Sl.app st.l), junk, outV (h.length + 1) (outB st i), .int .i64 (i : Nat), junk, junk, junk, junk, junk, junk, junk, junk, junk, junk, junk, junk, junk, junk, junk, junk, junk, junk, junk, junk, junk, junk, junk, junk, junk, junk, junk, junk, junk, junk, junk, junk, junk, junk, junk, junk, junk, junk, junk, junk, junk, junk, junk, junk, junk, junk, junk, junk, junk, junk, junk, junk, junk, junk, junk, junk, junk, junk, junk, junk, junk, junk, junk, junk, junk, junk, junk, junk, junk, junk, junk, junk, junk, junk, junk, junk, junk])
                  (fun i => h ++ [.cells (encWord zeroW).toArray 0 true, outO encU8 1 (outB st i)]) (fun i => i ≤ 8) 0 (Nat.zero_le _) ?_ ?_
                · refine Eases.trans (Keeps.easeL (P := Tryd.prog) (h0 := h) (t := [.cells (encWord zeroW).toArray 0 true]) (l1 := [junk, junk, .pointer (some ⟨h.length + 0, 0, none⟩), junk, junk, junk, slV enc32 (Sl.app st.l), junk, .slice none 0 0, .int .i64 0, junk, junk, junk, junk, junk, junk, junk, junk, junk, junk, junk, junk, junk, junk, junk, junk, junk, junk, junk, junk, junk, junk, junk, junk, junk, junk, junk, junk, junk, junk, junk, junk, junk, junk, junk, junk, junk, junk, junk, junk, junk, junk, junk, junk, junk, junk, junk, junk, junk, junk, junk, junk, junk, junk, junk, junk, junk, junk, junk, junk, junk, junk, junk, junk, junk, junk, junk, junk, junk, junk, junk, junk, junk, junk, junk, junk, junk])
                    (fun o ho => by rw [List.mem_singleton] at ho; subst ho; exact oren_wz) (by repeat (first | exact Keeps.nil | refine Keeps.junk _ ?_ | refine Keeps.keep (by first | exact .plain _ rfl | exact .ptr _ _ _ (by simp) rfl | exact (Tree.slV tree_enc32 _).ren) ?_))) ?_
                  have hgh := Eases.ghost (P := Tryd.prog) (h0 := h) (a := ([junk, junk, .pointer (some ⟨h.length + 0, 0, none⟩), junk, junk, junk, slV enc32 (Sl.app st.l), junk, .slice none 0 0, .int .i64 0, junk, junk, junk, junk, junk, junk, junk, junk, junk, junk, junk, junk, junk, junk, junk, junk, junk, junk, junk, junk, junk, junk, junk, junk, junk, junk, junk, junk, junk, junk, junk, junk, junk, junk, junk, junk, junk, junk, junk, junk, junk, junk, junk, junk, junk, junk, junk, junk, junk, junk, junk, junk, junk, junk, junk, junk, junk, junk, junk, junk, junk, junk, junk, junk, junk, junk, junk, junk, junk, junk, junk, junk, junk, junk, junk, junk, junk]).toArray) (h := h ++ [.cells (encWord zeroW).toArray 0 true])
                  simp only [List.append_assoc, List.cons_append, List.nil_append] at hgh
                  exact hgh
                · intro i hi
                  have hob : (outB st i).length = 4 * i := length_outB st hi
                  by_cases hi8 : i < 8
                  · have hl8 : ((i : Nat) : Int) < 8 := by omega
                    have hwi : IntKind.i64.wrap ((i : Int) + 1) = ((i + 1 : Nat) : Int) := by rw [wrap_i64_of _ (by omega) (by omega), ofNat_succ']
                    have hz4 : zeros #[Value.int IntKind.u8 0] 4 = [Value.int .u8 0, .int .u8 0, .int .u8 0, .int .u8 0].toArray := by kernel_rfl
                    have hg : ∀ hi : i < st.l.length, st.l[i]'hi = st.l.getD i 0 := fun hi => l_getD hi
                    simp (implicitDefEqProofs := false) only [go_sem, Nat.reduceAdd, Nat.reduceSub, Nat.reduceMul, Nat.reduceLT, Nat.reduceLeDiff, Nat.reduceEqDiff, Nat.reduceBEq, Nat.reduceBNe, Nat.reducePow, Int.reduceBEq, Int.reduceBNe, Int.reduceEq, Int.reduceLT, Int.reduceLE, Int.reduceNeg, Int.reduceToNat, Int.reduceMul, Int.reduceAdd, Int.reduceSub, Int.reducePow, Int.reduceFDiv, reduceCtorEq, reduceIte, hl8, hi8, hwi, hg, hz4, S8len, Tryd.underlying5, List.setIfInBounds_toArray, List.size_toArray, mkApp_out1 (enc := encU8) (m := 1) (n := 4) (by_ := 1) (l := outB st i) length_encU8 (by decide) ⟨by omega, by omega⟩]
                    refine ⟨by kernel_rfl, by kernel_rfl, ?_⟩
                    refine ⟨.inr ⟨rfl, by decide⟩, ?_⟩
                    refine ⟨i + 1, by omega, by omega, ?_⟩
                    have hne1 : outB st (i + 1) ≠ [] := by
                      have := length_outB st (i := i + 1) (by omega)
                      intro h; rw [h] at this; simp at this
                    have hv := outV_pickL (n := h.length) (L := h.length + 2) (b := 3) (k := 1) (m := (outB st i).length + 4) (js := [0, 3]) (l := outB st (i + 1)) hne1 (by rw [length_outB st (by omega), hob]; omega) (by omega) rfl
                    refine pick2 3 (by decide) ⟨rfl, fun σ L => oren_wz⟩ ⟨_, rfl, by rw [← out_four st hi8]; exact outO_ren tree_encU8⟩ ?_
                    repeat (first | exact KeepsS.nil | refine KeepsS.junk _ ?_ | refine KeepsS.keep (by first | exact .plain _ rfl | exact ptr_pick (k := 0) (by omega) rfl | exact (Tree.slV tree_enc32 _).ren | exact hv) ?_)
                  · have hl8 : ¬ ((i : Nat) : Int) < 8 := by omega
                    have hie : i = 8 := by omega
                    subst hie
                    rw [outB_8] at hob ⊢
                    simp (implicitDefEqProofs := false) only [go_sem, Nat.reduceAdd, Nat.reduceSub, Nat.reduceMul, Nat.reduceLT, Nat.reduceLeDiff, Nat.reduceEqDiff, Nat.reduceBEq, Nat.reduceBNe, Nat.reducePow, Int.reduceBEq, Int.reduceBNe, Int.reduceEq, Int.reduceLT, Int.reduceLE, Int.reduceNeg, Int.reduceToNat, Int.reduceMul, Int.reduceAdd, Int.reduceSub, Int.reducePow, Int.reduceFDiv, reduceCtorEq, reduceIte, hl8]
                    refine astep_call (rreadO_calls (bytesS st) (by omega) _ (h.length + 1) (at_new _ _ 1)) ?_
                    simp (implicitDefEqProofs := false) only [go_sem, Nat.reduceAdd, Nat.reduceSub, Nat.reduceMul, Nat.reduceLT, Nat.reduceLeDiff, Nat.reduceEqDiff, Nat.reduceBEq, Nat.reduceBNe, Nat.reducePow, Int.reduceBEq, Int.reduceBNe, Int.reduceEq, Int.reduceLT, Int.reduceLE, Int.reduceNeg, Int.reduceToNat, Int.reduceMul, Int.reduceAdd, Int.reduceSub, Int.reducePow, Int.reduceFDiv, reduceCtorEq, reduceIte, length_encWord, set_new]
                    exact apost_cell rfl (encWord_plain _) ⟨rfl, rfl⟩ _ _ rfl (by simp (implicitDefEqProofs := false) only [go_sem, Nat.reduceAdd, Nat.reduceSub, Nat.reduceMul, Nat.reduceLT, Nat.reduceLeDiff, Nat.reduceEqDiff, Nat.reduceBEq, Nat.reduceBNe, Nat.reducePow, Int.reduceBEq, Int.reduceBNe, Int.reduceEq, Int.reduceLT, Int.reduceLE, Int.reduceNeg, Int.reduceToNat, Int.reduceMul, Int.reduceAdd, Int.reduceSub, Int.reducePow, Int.reduceFDiv, reduceCtorEq, reduceIte, length_encWord])
  · have hex : (flatV encU8 s.l).extract 0 s.l.length = flatV encU8 s.l := by rw [← size_u8, Array.extract_size]
    have hnle : ¬ s.l.length + 1 ≤ s.l.length := by omega
    simp (implicitDefEqProofs := false) only [go_sem, Nat.reduceAdd, Nat.reduceSub, Nat.reduceMul, Nat.reduceLT, Nat.reduceLeDiff, Nat.reduceEqDiff, Nat.reduceBEq, Nat.reduceBNe, Nat.reducePow, Int.reduceBEq, Int.reduceBNe, Int.reduceEq, Int.reduceLT, Int.reduceLE, Int.reduceNeg, Int.reduceToNat, Int.reduceMul, Int.reduceAdd, Int.reduceSub, Int.reducePow, Int.reduceFDiv, reduceCtorEq, reduceIte, hs0, hb1, hb2, hb3, hb4, size_u8, Nat.le_refl, hnle, hex]
    rw [zeroW_enc]
    refine AWP.loopI (fun i : Nat => padN s.l.length - i) (fun i => [slV encU8 s, junk, .pointer (some ⟨h.length + 0, 0, none⟩), outV (h.length + 1) (s.l ++ (128 : UInt8) :: List.replicate i 0), junk, junk, junk, junk, junk, junk, junk, junk, junk, junk, junk, junk, junk, junk, junk, junk, junk, junk, junk, junk, junk, junk, junk, junk, junk, junk, junk, junk, junk, junk, junk, junk, junk, junk, junk, junk, junk, junk, junk, junk, junk, junk, junk, junk, junk, junk, junk, junk, junk, junk, junk, junk, junk, junk, junk, junk, junk, junk, junk, junk, junk, junk, junk, junk, junk, junk, junk, junk, junk, junk, junk, junk, junk, junk, junk, junk, junk, junk, junk, junk, junk, junk, junk])
      (fun i => h ++ [.cells (encWord zeroW).toArray 0 true, outO encU8 1 (s.l ++ (128 : UInt8) :: List.replicate i 0)]) (fun i => i ≤ padN s.l.length) 0 (Nat.zero_le _) ?_ ?_
    · refine pick2 3 (by decide) ⟨rfl, fun σ L => oren_wz⟩ ⟨_, rfl, ?_⟩ ?_
      · exact outO_renS (l := s.l) tree_encU8
      · repeat (first | exact KeepsS.nil | refine KeepsS.junk _ ?_ | refine KeepsS.keep (by first | exact .plain _ rfl | exact (Tree.slV tree_encU8 _).ren | exact ptr_pick (k := 0) (by omega) rfl | exact outV_pick (l := s.l) (a := (128 : UInt8)) (by omega) rfl) ?_)
    · intro i hi
      have hlen : (s.l ++ (128 : UInt8) :: List.replicate i 0).length = s.l.length + 1 + i := by simp; omega
      by_cases hlt : i < padN s.l.length
      · have hne : ¬ (s.l.length + 1 + i) % 64 = 56 := by rw [pad_iff hi]; omega
        have htm : (((s.l.length + 1 + i : Nat) : Int).tmod 64) = (((s.l.length + 1 + i) % 64 : Nat) : Int) := rfl
        have hne' : ((((s.l.length + 1 + i) % 64 : Nat) : Int) != 56) = true := by rw [bne_iff_ne]; omega
        simp (implicitDefEqProofs := false) only [go_sem, Nat.reduceAdd, Nat.reduceSub, Nat.reduceMul, Nat.reduceLT, Nat.reduceLeDiff, Nat.reduceEqDiff, Nat.reduceBEq, Nat.reduceBNe, Nat.reducePow, Int.reduceBEq, Int.reduceBNe, Int.reduceEq, Int.reduceLT, Int.reduceLE, Int.reduceNeg, Int.reduceToNat, Int.reduceMul, Int.reduceAdd, Int.reduceSub, Int.reducePow, Int.reduceFDiv, reduceCtorEq, reduceIte, hlen, htm, hne', mkApp_out1 (enc := encU8) (m := 1) (n := 1) (by_ := 1) (l := s.l ++ (128 : UInt8) :: List.replicate i 0) length_encU8 (Nat.zero_lt_one) ⟨by omega, by omega⟩]
        refine ⟨i + 1, by omega, by omega, ?_⟩
        have hsn2 : s.l ++ (128 : UInt8) :: List.replicate (i + 1) 0 = (s.l ++ (128 : UInt8) :: List.replicate i 0) ++ [0] := by rw [List.replicate_succ']; simp
        rw [hsn2]
        have hv := outV_pick (n := h.length) (L := h.length + 2) (b := 3) (k := 1) (js := [0, 3]) (l := s.l ++ (128 : UInt8) :: List.replicate i 0) (a := (0 : UInt8)) (by omega) rfl
        rw [hlen] at hv
        refine pick2 3 (by decide) ⟨rfl, fun σ L => oren_wz⟩ ⟨_, rfl, outO_renS tree_encU8⟩ ?_
        repeat (first | exact KeepsS.nil | refine KeepsS.junk _ ?_ | refine KeepsS.keep (by first | exact .plain _ rfl | exact (Tree.slV tree_encU8 _).ren | exact ptr_pick (k := 0) (by omega) rfl | exact hv) ?_)
      · have hie : i = padN s.l.length := by omega
        have heq : (s.l.length + 1 + i) % 64 = 56 := by rw [pad_iff hi]; exact hie
        have htm : (((s.l.length + 1 + i : Nat) : Int).tmod 64) = (((s.l.length + 1 + i) % 64 : Nat) : Int) := rfl
        have hne' : ((((s.l.length + 1 + i) % 64 : Nat) : Int) != 56) = false := by rw [heq]; rfl
        have hpd : (s.l ++ (128 : UInt8) :: List.replicate i 0) ++ be8 (8 * s.l.length) = padded s.l := by rw [hie, padded, List.append_assoc]; rfl
        generalize s.l ++ (128 : UInt8) :: List.replicate i 0 = pP at hlen hpd ⊢
        simp (implicitDefEqProofs := false) only [go_sem, Nat.reduceAdd, Nat.reduceSub, Nat.reduceMul, Nat.reduceLT, Nat.reduceLeDiff, Nat.reduceEqDiff, Nat.reduceBEq, Nat.reduceBNe, Nat.reducePow, Int.reduceBEq, Int.reduceBNe, Int.reduceEq, Int.reduceLT, Int.reduceLE, Int.reduceNeg, Int.reduceToNat, Int.reduceMul, Int.reduceAdd, Int.reduceSub, Int.reducePow, Int.reduceFDiv, reduceCtorEq, reduceIte, hlen, htm, hne', hwl, hwm]
        rw [show pP = pP ++ (be8 (8 * s.l.length)).take 0 by simp]
        refine AWP.loopI (fun j : Nat => 8 - j) (fun j => [junk, junk, .pointer (some ⟨h.length + 0, 0, none⟩), outV (h.length + 1) (pP ++ (be8 (8 * s.l.length)).take j), .int .u64 (8 * s.l.length : Nat), .int .i64 (j : Nat), junk, junk, junk, junk, junk, junk, junk, junk, junk, junk, junk, junk, junk, junk, junk, junk, junk, junk, junk, junk, junk, junk, junk, junk, junk, junk, junk, junk, junk, junk, junk, junk, junk, junk, junk, junk, junk, junk, junk, junk, junk, junk, junk, junk, junk, junk, junk, junk, junk, junk, junk, junk, junk, junk, junk, junk, junk, junk, junk, junk, junk, junk, junk, junk, junk, junk, junk, junk, junk, junk, junk, junk, junk, junk, junk, junk, junk, junk, junk, junk, junk])
          (fun j => h ++ [.cells (encWord zeroW).toArray 0 true, outO encU8 1 (pP ++ (be8 (8 * s.l.length)).take j)]) (fun j => j ≤ 8) 0 (Nat.zero_le _) ?_ ?_
        · refine Keeps.easeL (t := [.cells (encWord zeroW).toArray 0 true, outO encU8 1 _]) ?_ ?_
          · intro o ho
            rcases List.mem_cons.1 ho with rfl | ho
            · exact oren_wz
            · rw [List.mem_singleton] at ho; subst ho; exact outO_ren tree_encU8
          · repeat (first | exact Keeps.nil | refine Keeps.junk _ ?_ | refine Keeps.keep (by first | exact .plain _ rfl | exact .ptr _ _ _ (by simp) rfl | exact outV_two) ?_)
        · intro j hj
          have hlj : (pP ++ (be8 (8 * s.l.length)).take j).length = s.l.length + 1 + i + j := by rw [List.length_append, hlen, List.length_take, length_be8]; omega
          by_cases hj8 : j < 8
          · have hl8 : ((j : Nat) : Int) < 8 := by omega
            have hwj : IntKind.i64.wrap ((j : Int) + 1) = ((j + 1 : Nat) : Int) := by rw [wrap_i64_of _ (by omega) (by omega), ofNat_succ']
            have hm : IntKind.i64.wrap ((8 : Int) * (j : Int)) = ((8 * j : Nat) : Int) := by rw [wrap_i64_of _ (by omega) (by omega)]; omega
            have hm2 : IntKind.i64.wrap ((56 : Int) - ((8 * j : Nat) : Int)) = ((8 * (7 - j) : Nat) : Int) := by rw [wrap_i64_of _ (by omega) (by omega)]; omega
            have hm3 : IntKind.u64.wrap ((8 * (7 - j) : Nat) : Int) = ((8 * (7 - j) : Nat) : Int) := wrap_u64_of _ (by omega) (by omega)
            have hn0 : ¬ ((8 * (7 - j) : Nat) : Int) < 0 := by omega
            have hsh : IntKind.u8.wrap ((((8 * s.l.length : Nat) : Int)).fdiv (2 ^ (min (8 * (7 - j)) 64))) = (((UInt8.ofNat (8 * s.l.length / 2 ^ (8 * (7 - j)))).toNat : Nat) : Int) := by
              have e : min (8 * (7 - j)) 64 = 8 * (7 - j) := by omega
              have e2 : (((8 * s.l.length : Nat) : Int)).fdiv (2 ^ (8 * (7 - j))) = ((8 * s.l.length / 2 ^ (8 * (7 - j)) : Nat) : Int) := by
                rw [Int.fdiv_eq_ediv_of_nonneg _ (Int.le_of_lt (Int.pow_pos (by decide)))]
                push_cast; rfl
              rw [e, e2, wrap8]
            simp (implicitDefEqProofs := false) only [go_sem, Nat.reduceAdd, Nat.reduceSub, Nat.reduceMul, Nat.reduceLT, Nat.reduceLeDiff, Nat.reduceEqDiff, Nat.reduceBEq, Nat.reduceBNe, Nat.reducePow, Int.reduceBEq, Int.reduceBNe, Int.reduceEq, Int.reduceLT, Int.reduceLE, Int.reduceNeg, Int.reduceToNat, Int.reduceMul, Int.reduceAdd, Int.reduceSub, Int.reducePow, Int.reduceFDiv, reduceCtorEq, reduceIte, hl8, hwj, hm, hm2, hm3, abin_shr hn0, hsh, mkApp_out1 (enc := encU8) (m := 1) (n := 1) (by_ := 1) (l := pP ++ (be8 (8 * s.l.length)).take j) length_encU8 (Nat.zero_lt_one) ⟨by omega, by omega⟩]
            refine ⟨j + 1, by omega, by omega, ?_⟩
            rw [be8_take _ hj8, ← List.append_assoc]
            have hv := outV_pick (n := h.length) (L := h.length + 2) (b := 3) (k := 1) (js := [0, 3]) (l := pP ++ (be8 (8 * s.l.length)).take j) (a := UInt8.ofNat (8 * s.l.length / 2 ^ (8 * (7 - j)))) (by omega) rfl
            rw [List.length_append] at hv
            refine pick2 3 (by decide) ⟨rfl, fun σ L => oren_wz⟩ ⟨_, rfl, outO_renS tree_encU8⟩ ?_
            repeat (first | exact KeepsS.nil | refine KeepsS.junk _ ?_ | refine KeepsS.keep (by first | exact .plain _ rfl | exact ptr_pick (k := 0) (by omega) rfl | exact hv) ?_)
          · have hl8 : ¬ ((j : Nat) : Int) < 8 := by omega
            have hje : j = 8 := by omega
            subst hje
            rw [List.take_of_length_le (by rw [length_be8]; exact Nat.le_refl _), hpd]
            have hPl := length_padded s.l
            have hPh : foldB keysL (s.l.length / 64 + if s.l.length % 64 < 56 then 1 else 2) startS (padded s.l) = hashS keysL s.l := rfl
            generalize (s.l.length / 64 + if s.l.length % 64 < 56 then 1 else 2) = K at hPl hPh
            have hK : 64 * K ≤ 4294967296 + 200 := by rw [← hPl, padded]; simp [length_be8]; omega
            generalize padded s.l = PP at hPl hPh ⊢
            have hz8 : zeros #[Value.int IntKind.u32 0] 8 = [Value.int .u32 0, .int .u32 0, .int .u32 0, .int .u32 0, .int .u32 0, .int .u32 0, .int .u32 0, .int .u32 0].toArray := by kernel_rfl
            simp (implicitDefEqProofs := false) only [go_sem, Nat.reduceAdd, Nat.reduceSub, Nat.reduceMul, Nat.reduceLT, Nat.reduceLeDiff, Nat.reduceEqDiff, Nat.reduceBEq, Nat.reduceBNe, Nat.reducePow, Int.reduceBEq, Int.reduceBNe, Int.reduceEq, Int.reduceLT, Int.reduceLE, Int.reduceNeg, Int.reduceToNat, Int.reduceMul, Int.reduceAdd, Int.reduceSub, Int.reducePow, Int.reduceFDiv, reduceCtorEq, reduceIte, hl8, hz8, List.setIfInBounds_toArray, List.size_toArray]
            rw [show (#[Value.int .u32 1779033703, .int .u32 3144134277, .int .u32 1013904242, .int .u32 2773480762, .int .u32 1359893119, .int .u32 2600822924, .int .u32 528734635, .int .u32 1541459225] : Array Value) = flatV enc32 startS.l by kernel_rfl]
            refine AWP.loopI (fun k : Nat => K - k) (fun k => [junk, junk, .pointer (some ⟨h.length + 0, 0, none⟩), slV encU8 (Sl.app PP), junk, junk, slV enc32 (Sl.app (foldB keysL k startS PP).l), .int .i64 ((64 * k : Nat) : Int), junk, junk, junk, junk, junk, junk, junk, junk, junk, junk, junk, junk, junk, junk, junk, junk, junk, junk, junk, junk, junk, junk, junk, junk, junk, junk, junk, junk, junk, junk, junk, junk, junk, junk, junk, junk, junk, junk, junk, junk, junk, junk, junk, junk, junk, junk, junk, junk, junk, junk, junk, junk, junk, junk, junk, junk, junk, junk, junk, junk, junk, junk, junk, junk, junk, junk, junk, junk, junk, junk, junk, junk, junk, junk, junk, junk, junk, junk, junk])
              (fun k => h ++ [.cells (encWord zeroW).toArray 0 true]) (fun k => k ≤ K) 0 (Nat.zero_le _) ?_ ?_
            · refine Eases.trans (FzL.ease (b := h.length + 1) (l1 := [junk, junk, .pointer (some ⟨h.length + 0, 0, none⟩), slV encU8 (Sl.app PP), junk, junk, .slice (some ⟨h.length + 2, 0, none⟩) 8 8, .int .i64 0, junk, junk, junk, junk, junk, junk, junk, junk, junk, junk, junk, junk, junk, junk, junk, junk, junk, junk, junk, junk, junk, junk, junk, junk, junk, junk, junk, junk, junk, junk, junk, junk, junk, junk, junk, junk, junk, junk, junk, junk, junk, junk, junk, junk, junk, junk, junk, junk, junk, junk, junk, junk, junk, junk, junk, junk, junk, junk, junk, junk, junk, junk, junk, junk, junk, junk, junk, junk, junk, junk, junk, junk, junk, junk, junk, junk, junk, junk, junk]) ?_) ?_
              · repeat (first | exact FzL.nil | refine FzL.junk _ ?_ | refine FzL.keep (.same _) ?_ | refine FzL.keep (Rf.outV (at_new _ _ 1) (List.getElem?_set_self (by simp)) length_encU8) ?_)
              · rw [set_new]
                refine Eases.trans (FzL.ease (b := h.length + 2) (l1 := [junk, junk, .pointer (some ⟨h.length + 0, 0, none⟩), slV encU8 (Sl.app PP), junk, junk, slV enc32 (Sl.app startS.l), .int .i64 0, junk, junk, junk, junk, junk, junk, junk, junk, junk, junk, junk, junk, junk, junk, junk, junk, junk, junk, junk, junk, junk, junk, junk, junk, junk, junk, junk, junk, junk, junk, junk, junk, junk, junk, junk, junk, junk, junk, junk, junk, junk, junk, junk, junk, junk, junk, junk, junk, junk, junk, junk, junk, junk, junk, junk, junk, junk, junk, junk, junk, junk, junk, junk, junk, junk, junk, junk, junk, junk, junk, junk, junk, junk, junk, junk, junk, junk, junk, junk]) ?_) ?_
                · repeat (first | exact FzL.nil | refine FzL.junk _ ?_ | refine FzL.keep (.same _) ?_ | refine FzL.keep (Rf.full (l := startS.l) (at_new _ _ 2) (List.getElem?_set_self (by simp)) (Nat.le_refl _)) ?_)
                · rw [set_new]
                  refine Keeps.easeP (t := [.cells (encWord zeroW).toArray 0 true]) (x := [.dead, .dead]) (fun o ho => by rw [List.mem_singleton] at ho; subst ho; exact oren_wz) ?_
                  repeat (first | exact Keeps.nil | refine Keeps.junk _ ?_ | refine Keeps.keep (by first | exact .plain _ rfl | exact .ptr _ _ _ (by simp) rfl | exact (Tree.slV tree_encU8 _).ren | exact (Tree.slV tree_enc32 _).ren) ?_)
            · intro k hk
              by_cases hkK : k < K
              · have hl64 : ((64 * k : Nat) : Int) < ((64 * K : Nat) : Int) := by omega
                have hw64 : IntKind.i64.wrap (((64 * k : Nat) : Int) + 64) = ((64 * k + 64 : Nat) : Int) := by rw [wrap_i64_of _ (by omega) (by omega)]; omega
                have ha1 : 64 * k + 64 ≤ 64 * K := by omega
                have ha2 : ((64 * k + 64 : Nat) : Int) ≤ ((64 * K : Nat) : Int) := by omega
                have ha4 : ((64 * k : Nat) : Int) ≤ ((64 * k + 64 : Nat) : Int) := by omega
                have ha5 : 64 * k ≤ 64 * k + 64 := by omega
                simp (implicitDefEqProofs := false) only [go_sem, Nat.reduceAdd, Nat.reduceSub, Nat.reduceMul, Nat.reduceLT, Nat.reduceLeDiff, Nat.reduceEqDiff, Nat.reduceBEq, Nat.reduceBNe, Nat.reducePow, Int.reduceBEq, Int.reduceBNe, Int.reduceEq, Int.reduceLT, Int.reduceLE, Int.reduceNeg, Int.reduceToNat, Int.reduceMul, Int.reduceAdd, Int.reduceSub, Int.reducePow, Int.reduceFDiv, reduceCtorEq, reduceIte, hPl, hl64, hw64, ha1, ha2, ha4, ha5]
                refine astep_call (rblock_calls (foldB keysL k startS PP) (Sl.app _) rfl _ (by show (List.drop (64 * k) (List.take (64 * k + 64) PP)).length = 64; simp [hPl]; omega) _) ?_
                simp (implicitDefEqProofs := false) only [go_sem, Nat.reduceAdd, Nat.reduceSub, Nat.reduceMul, Nat.reduceLT, Nat.reduceLeDiff, Nat.reduceEqDiff, Nat.reduceBEq, Nat.reduceBNe, Nat.reducePow, Int.reduceBEq, Int.reduceBNe, Int.reduceEq, Int.reduceLT, Int.reduceLE, Int.reduceNeg, Int.reduceToNat, Int.reduceMul, Int.reduceAdd, Int.reduceSub, Int.reducePow, Int.reduceFDiv, reduceCtorEq, reduceIte, hw64]
                have et : takeS keysL (foldB keysL k startS PP) (List.drop (64 * k) (List.take (64 * k + 64) PP)) = foldB keysL (k + 1) startS PP := by
                  rw [foldB_succ, List.drop_take]
                  congr 2; omega
                rw [et]
                refine ⟨k + 1, by omega, by omega, Keeps.easeL (t := [.cells (encWord zeroW).toArray 0 true]) (fun o ho => by rw [List.mem_singleton] at ho; subst ho; exact oren_wz) ?_⟩
                repeat (first | exact Keeps.nil | refine Keeps.junk _ ?_ | refine Keeps.keep (by first | exact .plain _ rfl | exact .ptr _ _ _ (by simp) rfl | exact (Tree.slV tree_encU8 _).ren | exact (Tree.slV tree_enc32 _).ren) ?_)
              · have hkK' : k = K := by omega
                subst hkK'
                have hl64 : ¬ ((64 * k : Nat) : Int) < ((64 * k : Nat) : Int) := by omega
                rw [hPh]
                generalize hashS keysL s.l = st
                simp (implicitDefEqProofs := false) only [go_sem, Nat.reduceAdd, Nat.reduceSub, Nat.reduceMul, Nat.reduceLT, Nat.reduceLeDiff, Nat.reduceEqDiff, Nat.reduceBEq, Nat.reduceBNe, Nat.reducePow, Int.reduceBEq, Int.reduceBNe, Int.reduceEq, Int.reduceLT, Int.reduceLE, Int.reduceNeg, Int.reduceToNat, Int.reduceMul, Int.reduceAdd, Int.reduceSub, Int.reducePow, Int.reduceFDiv, reduceCtorEq, reduceIte, hPl, hl64]
                refine AWP.loopI (fun i : Nat => 8 - i) (fun i => [junk, junk, .pointer (some ⟨h.length + 0, 0, none⟩), junk, junk, junk, slV enc32 (Sl.app st.l), junk, outV (h.length + 1) (outB st i), .int .i64 (i : Nat), junk, junk, junk, junk, junk, junk, junk, junk, junk, junk, junk, junk, junk, junk, junk, junk, junk, junk, junk, junk, junk, junk, junk, junk, junk, junk, junk, junk, junk, junk, junk, junk, junk, junk, junk, junk, junk, junk, junk, junk, junk, junk, junk, junk, junk, junk, junk, junk, junk, junk, junk, junk, junk, junk, junk, junk, junk, junk, junk, junk, junk, junk, junk, junk, junk, junk, junk, junk, junk, junk, junk, junk, junk, junk, junk, junk, junk])
                  (fun i => h ++ [.cells (encWord zeroW).toArray 0 true, outO encU8 1 (outB st i)]) (fun i => i ≤ 8) 0 (Nat.zero_le _) ?_ ?_
                · refine Eases.trans (Keeps.easeL (P := Tryd.prog) (h0 := h) (t := [.cells (encWord zeroW).toArray 0 true]) (l1 := [junk, junk, .pointer (some ⟨h.length + 0, 0, none⟩), junk, junk, junk, slV enc32 (Sl.app st.l), junk, .slice none 0 0, .int .i64 0, junk, junk, junk, junk, junk, junk, junk, junk, junk, junk, junk, junk, junk, junk, junk, junk, junk, junk, junk, junk, junk, junk, junk, junk, junk, junk, junk, junk, junk, junk, junk, junk, junk, junk, junk, junk, junk, junk, junk, junk, junk, junk, junk, junk, junk, junk, junk, junk, junk, junk, junk, junk, junk, junk, junk, junk, junk, junk, junk, junk, junk, junk, junk, junk, junk, junk, junk, junk, junk, junk, junk, junk, junk, junk, junk, junk, junk])
                    (fun o ho => by rw [List.mem_singleton] at ho; subst ho; exact oren_wz) (by repeat (first | exact Keeps.nil | refine Keeps.junk _ ?_ | refine Keeps.keep (by first | exact .plain _ rfl | exact .ptr _ _ _ (by simp) rfl | exact (Tree.slV tree_enc32 _).ren) ?_))) ?_
                  have hgh := Eases.ghost (P := Tryd.prog) (h0 := h) (a := ([junk, junk, .pointer (some ⟨h.length + 0, 0, none⟩), junk, junk, junk, slV enc32 (Sl.app st.l), junk, .slice none 0 0, .int .i64 0, junk, junk, junk, junk, junk, junk, junk, junk, junk, junk, junk, junk, junk, junk, junk, junk, junk, junk, junk, junk, junk, junk, junk, junk, junk, junk, junk, junk, junk, junk, junk, junk, junk, junk, junk, junk, junk, junk, junk, junk, junk, junk, junk, junk, junk, junk, junk, junk, junk, junk, junk, junk, junk, junk, junk, junk, junk, junk, junk, junk, junk, junk, junk, junk, junk, junk, junk, junk, junk, junk, junk, junk, junk, junk, junk, junk, junk]).toArray) (h := h ++ [.cells (encWord zeroW).toArray 0 true])
                  simp only [List.append_assoc, List.cons_append, List.nil_append] at hgh
                  exact hgh
                · intro i hi
                  have hob : (outB st i).length = 4 * i := length_outB st hi
                  by_cases hi8 : i < 8
                  · have hl8 : ((i : Nat) : Int) < 8 := by omega
                    have hwi : IntKind.i64.wrap ((i : Int) + 1) = ((i + 1 : Nat) : Int) := by rw [wrap_i64_of _ (by omega) (by omega), ofNat_succ']
                    have hz4 : zeros #[Value.int IntKind.u8 0] 4 = [Value.int .u8 0, .int .u8 0, .int .u8 0, .int .u8 0].toArray := by kernel_rfl
                    have hg : ∀ hi : i < st.l.length, st.l[i]'hi = st.l.getD i 0 := fun hi => l_getD hi
                    simp (implicitDefEqProofs := false) only [go_sem, Nat.reduceAdd, Nat.reduceSub, Nat.reduceMul, Nat.reduceLT, Nat.reduceLeDiff, Nat.reduceEqDiff, Nat.reduceBEq, Nat.reduceBNe, Nat.reducePow, Int.reduceBEq, Int.reduceBNe, Int.reduceEq, Int.reduceLT, Int.reduceLE, Int.reduceNeg, Int.reduceToNat, Int.reduceMul, Int.reduceAdd, Int.reduceSub, Int.reducePow, Int.reduceFDiv, reduceCtorEq, reduceIte, hl8, hi8, hwi, hg, hz4, S8len, Tryd.underlying5, List.setIfInBounds_toArray, List.size_toArray, mkApp_out1 (enc := encU8) (m := 1) (n := 4) (by_ := 1) (l := outB st i) length_encU8 (by decide) ⟨by omega, by omega⟩]
                    refine ⟨by kernel_rfl, by kernel_rfl, ?_⟩
                    refine ⟨.inr ⟨rfl, by decide⟩, ?_⟩
                    refine ⟨i + 1, by omega, by omega, ?_⟩
                    have hne1 : outB st (i + 1) ≠ [] := by
                      have := length_outB st (i := i + 1) (by omega)
                      intro h; rw [h] at this; simp at this
                    have hv := outV_pickL (n := h.length) (L := h.length + 2) (b := 3) (k := 1) (m := (outB st i).length + 4) (js := [0, 3]) (l := outB st (i + 1)) hne1 (by rw [length_outB st (by omega), hob]; omega) (by omega) rfl
                    refine pick2 3 (by decide) ⟨rfl, fun σ L => oren_wz⟩ ⟨_, rfl, by rw [← out_four st hi8]; exact outO_ren tree_encU8⟩ ?_
                    repeat (first | exact KeepsS.nil | refine KeepsS.junk _ ?_ | refine KeepsS.keep (by first | exact .plain _ rfl | exact ptr_pick (k := 0) (by omega) rfl | exact (Tree.slV tree_enc32 _).ren | exact hv) ?_)
                  · have hl8 : ¬ ((i : Nat) : Int) < 8 := by omega
                    have hie : i = 8 := by omega
                    subst hie
                    rw [outB_8] at hob ⊢
                    simp (implicitDefEqProofs := false) only [go_sem, Nat.reduceAdd, Nat.reduceSub, Nat.reduceMul, Nat.reduceLT, Nat.reduceLeDiff, Nat.reduceEqDiff, Nat.reduceBEq, Nat.reduceBNe, Nat.reducePow, Int.reduceBEq, Int.reduceBNe, Int.reduceEq, Int.reduceLT, Int.reduceLE, Int.reduceNeg, Int.reduceToNat, Int.reduceMul, Int.reduceAdd, Int.reduceSub, Int.reducePow, Int.reduceFDiv, reduceCtorEq, reduceIte, hl8]
                    refine astep_call (rreadO_calls (bytesS st) (by omega) _ (h.length + 1) (at_new _ _ 1)) ?_
                    simp (implicitDefEqProofs := false) only [go_sem, Nat.reduceAdd, Nat.reduceSub, Nat.reduceMul, Nat.reduceLT, Nat.reduceLeDiff, Nat.reduceEqDiff, Nat.reduceBEq, Nat.reduceBNe, Nat.reducePow, Int.reduceBEq, Int.reduceBNe, Int.reduceEq, Int.reduceLT, Int.reduceLE, Int.reduceNeg, Int.reduceToNat, Int.reduceMul, Int.reduceAdd, Int.reduceSub, Int.reducePow, Int.reduceFDiv, reduceCtorEq, reduceIte, length_encWord, set_new]
                    exact apost_cell rfl (encWord_plain _) ⟨rfl, rfl⟩ _ _ rfl (by simp (implicitDefEqProofs := false) only [go_sem, Nat.reduceAdd, Nat.reduceSub, Nat.reduceMul, Nat.reduceLT, Nat.reduceLeDiff, Nat.reduceEqDiff, Nat.reduceBEq, Nat.reduceBNe, Nat.reducePow, Int.reduceBEq, Int.reduceBNe, Int.reduceEq, Int.reduceLT, Int.reduceLE, Int.reduceNeg, Int.reduceToNat, Int.reduceMul, Int.reduceAdd, Int.reduceSub, Int.reducePow, Int.reduceFDiv, reduceCtorEq, reduceIte, length_encWord])
end Go.Proofs
