import Derived.Test.YtlimncmlocojkaaDoorSha3
import Derived.Test.YtlimncmlocojkaaDoorWordR
import Derived.Test.YtlimncmlocojkaaDoorAm43x
set_option linter.unusedSimpArgs false
set_option linter.unusedVariables false
/- the hash -/
namespace Go.Proofs
open Go Go.Am

/-- from here on -/
def drS (s : Sl UInt8) (k : Nat) : Sl UInt8 := ⟨s.nil, s.l.drop k, fun h => by rw [s.ok h, List.drop_nil]⟩
theorem oren_u8 {σ : Nat → Nat} {L es : Nat} {l : List UInt8} : ORen σ L (.cells (flatV encU8 l) es true) (.cells (flatV encU8 l) es true) :=
  ORen.plainCells (l := l.flatMap encU8) (fun v hv => by obtain ⟨x, _, hx⟩ := List.mem_flatMap.1 hv; exact tree_encU8 _ _ hx)
theorem oren_ws {σ : Nat → Nat} {L : Nat} {w : Word4} {l : List UInt32} : ∀ o ∈ [AObj.cells (encWord w).toArray 0 true, AObj.cells (flatV enc32 l) 0 true], ORen σ L o o := by
  intro o ho
  rcases List.mem_cons.1 ho with rfl | ho
  · exact ORen.plainCells (tree_encWord _)
  · rw [List.mem_singleton] at ho; subst ho; exact oren_32
theorem oren_wsu {σ : Nat → Nat} {L es : Nat} {w : Word4} {l : List UInt32} {b : List UInt8} : ∀ o ∈ [AObj.cells (encWord w).toArray 0 true, AObj.cells (flatV enc32 l) 0 true, AObj.cells (flatV encU8 b) es true], ORen σ L o o := by
  intro o ho
  simp only [List.mem_cons, List.not_mem_nil, or_false] at ho
  rcases ho with rfl | rfl | rfl
  · exact ORen.plainCells (tree_encWord _)
  · exact oren_32
  · exact oren_u8

set_option maxRecDepth 10000 in
set_option maxHeartbeats 16000000 in
theorem sum_calls (ks : List UInt32) (hkl : ks.length = 64) (s : Sl UInt8) (hs : s.l.length < 2 ^ 32) (h : AH) (hk : h[0]? = some (.cells (flatV enc32 ks) 0 false)) :
    ACalls Tryd.prog 5 #[slV encU8 s] h (fun v h' => v = .agg (encWord (rdW (bytesS (hashS ks s.l)))).toArray ∧ h' = h) := by
  have hgl : 0 < h.length := (List.getElem?_eq_some_iff.1 hk).1
  have hk' : ∀ t : AH, (h ++ t)[0]? = some (.cells (flatV enc32 ks) 0 false) := fun t => by rw [at_front hgl]; exact hk
  refine ACalls.of_ay Tryd.func5 rfl Tryd.ntmps5 ⟨_, _, rfl, rfl⟩ ?_; simp only [List.length_cons, List.length_nil, Nat.reduceAdd, Nat.reduceSub, List.replicate_succ, List.replicate_zero, List.cons_append, List.nil_append]
  have hz8 : Array.replicate 8 (Value.int IntKind.u32 0) = [Value.int .u32 0, .int .u32 0, .int .u32 0, .int .u32 0, .int .u32 0, .int .u32 0, .int .u32 0, .int .u32 0].toArray := by kernel_rfl
  have hwl : IntKind.u64.wrap ((s.l.length : Nat) : Int) = (s.l.length : Nat) := wrap_u64_of _ (by omega) (by omega)
  have hwm : IntKind.u64.wrap (((s.l.length : Nat) : Int) * 8) = ((8 * s.l.length : Nat) : Int) := by rw [wrap_u64_of _ (by omega) (by omega)]; omega
  simp (implicitDefEqProofs := false) only [go_sem, Nat.reduceAdd, Nat.reduceSub, Nat.reduceMul, Nat.reduceLT, Nat.reduceLeDiff, Nat.reduceEqDiff, Nat.reduceBEq, Nat.reduceBNe, Nat.reducePow, Int.reduceBEq, Int.reduceBNe, Int.reduceEq, Int.reduceLT, Int.reduceLE, Int.reduceNeg, Int.reduceToNat, Int.reduceMul, Int.reduceAdd, Int.reduceSub, Int.reducePow, Int.reduceFDiv, reduceCtorEq, reduceIte, hz8, List.setIfInBounds_toArray, List.size_toArray, hwl, hwm]
  rw [zeroW_enc, show (#[Value.int .u32 1779033703, .int .u32 3144134277, .int .u32 1013904242, .int .u32 2773480762, .int .u32 1359893119, .int .u32 2600822924, .int .u32 528734635, .int .u32 1541459225] : Array Value) = flatV enc32 startS.l by kernel_rfl]
  refine AWP.loopI (fun i : Nat => s.l.length - 64 * i) (fun i => [slV encU8 (drS s (64 * i)), junk, .pointer (some ⟨h.length, 0, none⟩), .pointer (some ⟨h.length + 1, 0, none⟩), .int .u64 (8 * s.l.length : Nat), junk, junk, junk, junk, junk, junk, junk, junk, junk, junk, junk, junk, junk, junk, junk, junk, junk, junk, junk, junk, junk, junk, junk, junk, junk, junk, junk, junk, junk, junk, junk, junk, junk, junk, junk, junk, junk, junk, junk, junk, junk, junk, junk, junk, junk, junk, junk, junk, junk, junk, junk, junk, junk, junk, junk, junk, junk, junk, junk, junk, junk, junk, junk, junk, junk, junk, junk, junk, junk, junk, junk, junk, junk, junk, junk])
    (fun i => h ++ [.cells (encWord zeroW).toArray 0 true, .cells (flatV enc32 (foldB ks i startS s.l).l) 0 true]) (fun i => 64 * i ≤ s.l.length) 0 (Nat.zero_le _) ?_ ?_
  · have e0 : drS s (64 * 0) = s := rfl
    rw [e0]
    refine Keeps.easeL oren_ws ?_
    repeat (first | exact Keeps.nil | refine Keeps.junk _ ?_ | refine Keeps.keep (by first | exact .plain _ rfl | exact (Tree.slV tree_encU8 _).ren | exact .ptr _ _ _ (by simp) rfl) ?_)
  · intro i hi
    have hdl : (drS s (64 * i)).l.length = s.l.length - 64 * i := by simp [drS]
    by_cases hge : 64 ≤ s.l.length - 64 * i
    · have hge' : (64 : Int) ≤ ((s.l.length - 64 * i : Nat) : Int) := by omega
      simp (implicitDefEqProofs := false) only [go_sem, Nat.reduceAdd, Nat.reduceSub, Nat.reduceMul, Nat.reduceLT, Nat.reduceLeDiff, Nat.reduceEqDiff, Nat.reduceBEq, Nat.reduceBNe, Nat.reducePow, Int.reduceBEq, Int.reduceBNe, Int.reduceEq, Int.reduceLT, Int.reduceLE, Int.reduceNeg, Int.reduceToNat, Int.reduceMul, Int.reduceAdd, Int.reduceSub, Int.reducePow, Int.reduceFDiv, reduceCtorEq, reduceIte, hdl, hge', hge]
      refine astep_calls (take_calls ks _ _ (by simp [hdl]; omega) _ _ (at_new _ _ 1) (hk' _) hkl) ?_
      intro v h1 hR
      subst hR
      have hge2 : (64 : Int) ≤ ((s.l.length - 64 * i : Nat) : Int) := by omega
      simp (implicitDefEqProofs := false) only [go_sem, Nat.reduceAdd, Nat.reduceSub, Nat.reduceMul, Nat.reduceLT, Nat.reduceLeDiff, Nat.reduceEqDiff, Nat.reduceBEq, Nat.reduceBNe, Nat.reducePow, Int.reduceBEq, Int.reduceBNe, Int.reduceEq, Int.reduceLT, Int.reduceLE, Int.reduceNeg, Int.reduceToNat, Int.reduceMul, Int.reduceAdd, Int.reduceSub, Int.reducePow, Int.reduceFDiv, reduceCtorEq, reduceIte, hdl, hge', hge, List.drop_zero]
      have et : takeS ks (foldB ks i startS s.l) (List.take 64 (drS s (64 * i)).l) = foldB ks (i + 1) startS s.l := by rw [foldB_succ]; rfl
      rw [et]
      refine ⟨i + 1, by omega, by omega, Keeps.easeL oren_ws ?_⟩
      have ed : (⟨(drS s (64 * i)).nil, List.drop 64 (List.take (s.l.length - 64 * i) (drS s (64 * i)).l), fun h => by rw [(drS s (64 * i)).ok h]; simp⟩ : Sl UInt8) = drS s (64 * (i + 1)) := by
        apply Sl.ext
        · rfl
        · show List.drop 64 (List.take (s.l.length - 64 * i) (s.l.drop (64 * i))) = s.l.drop (64 * (i + 1))
          rw [List.take_of_length_le (by simp), List.drop_drop]
          congr 1
      rw [ed]
      repeat (first | exact Keeps.nil | refine Keeps.junk _ ?_ | refine Keeps.keep (by first | exact .plain _ rfl | exact (Tree.slV tree_encU8 _).ren | exact .ptr _ _ _ (by simp) rfl) ?_)
    · have hge' : ¬ (64 : Int) ≤ ((s.l.length - 64 * i : Nat) : Int) := by omega
      have hq : i = s.l.length / 64 := by omega
      have hr : s.l.length - 64 * i = s.l.length % 64 := by omega
      generalize hst1 : foldB ks i startS s.l = st1
      simp (implicitDefEqProofs := false) only [go_sem, Nat.reduceAdd, Nat.reduceSub, Nat.reduceMul, Nat.reduceLT, Nat.reduceLeDiff, Nat.reduceEqDiff, Nat.reduceBEq, Nat.reduceBNe, Nat.reducePow, Int.reduceBEq, Int.reduceBNe, Int.reduceEq, Int.reduceLT, Int.reduceLE, Int.reduceNeg, Int.reduceToNat, Int.reduceMul, Int.reduceAdd, Int.reduceSub, Int.reducePow, Int.reduceFDiv, reduceCtorEq, reduceIte, hdl, hge', hge]
      have hr64 : s.l.length - 64 * i < 64 := by omega
      have hcp : ∀ H : AH, H[h.length + 2]? = some (.cells (Array.replicate 128 (Value.int .u8 0)) 0 true) → acopy Tryd.prog H 22 (.slice (some ⟨h.length + 2, 0, none⟩) 128 128) (slV encU8 (drS s (64 * i))) = some (.int .i64 ((s.l.length - 64 * i : Nat) : Int), H.set (h.length + 2) (.cells (flatV encU8 ((drS s (64 * i)).l ++ List.replicate (128 - (s.l.length - 64 * i)) 0)) 0 true)) := fun H hH => by
        rw [rep_u8] at hH
        rw [acopy_front Tryd.slc22 hH (by omega), hdl]
      rw [hcp _ (at_new _ _ 2)]
      have h128 : ((s.l.length - 64 * i : Nat) : Int) < 128 := by omega
      have hsz : s.l.length - 64 * i + 1 ≤ s.l.length - 64 * i + (128 - (s.l.length - 64 * i)) := by omega
      have hst : (flatV encU8 ((drS s (64 * i)).l ++ List.replicate (128 - (s.l.length - 64 * i)) 0)).setIfInBounds (s.l.length - 64 * i) (.int .u8 128) = flatV encU8 ((drS s (64 * i)).l ++ (128 : UInt8) :: List.replicate (127 - (s.l.length - 64 * i)) 0) := by
        have e1 : List.replicate (128 - (s.l.length - 64 * i)) (0 : UInt8) = 0 :: List.replicate (127 - (s.l.length - 64 * i)) 0 := by
          have : 128 - (s.l.length - 64 * i) = (127 - (s.l.length - 64 * i)) + 1 := by omega
          rw [this, List.replicate_succ]
        rw [e1]
        have e2 := set_u8 ((drS s (64 * i)).l ++ 0 :: List.replicate (127 - (s.l.length - 64 * i)) 0) (s.l.length - 64 * i) 128
        have e3 : (((128 : UInt8).toNat : Nat) : Int) = 128 := rfl
        rw [e3] at e2
        rw [e2]
        congr 1
        rw [← hdl]; simp
      have hbl : ((drS s (64 * i)).l ++ (128 : UInt8) :: List.replicate (127 - (s.l.length - 64 * i)) 0).length = 128 := by simp [hdl]; omega
      have hash := hash_last ks s.l
      rw [← hq, ← hr] at hash
      change foldB ks _ _ (lastL ((drS s (64 * i)).l ++ (128 : UInt8) :: List.replicate (127 - (s.l.length - 64 * i)) 0) _ _ 8) = _ at hash
      generalize hbase : (drS s (64 * i)).l ++ (128 : UInt8) :: List.replicate (127 - (s.l.length - 64 * i)) 0 = base at hbl hash hst
      by_cases h56 : 56 ≤ s.l.length - 64 * i
      · have h56' : (56 : Int) ≤ ((s.l.length - 64 * i : Nat) : Int) := by omega
        have hf : finN (s.l.length - 64 * i) = 128 := by unfold finN; split <;> omega
        rw [hf] at hash
        simp (implicitDefEqProofs := false) only [go_sem, Nat.reduceAdd, Nat.reduceSub, Nat.reduceMul, Nat.reduceLT, Nat.reduceLeDiff, Nat.reduceEqDiff, Nat.reduceBEq, Nat.reduceBNe, Nat.reducePow, Int.reduceBEq, Int.reduceBNe, Int.reduceEq, Int.reduceLT, Int.reduceLE, Int.reduceNeg, Int.reduceToNat, Int.reduceMul, Int.reduceAdd, Int.reduceSub, Int.reducePow, Int.reduceFDiv, reduceCtorEq, reduceIte, hdl, h128, hst, size_u8, List.length_append, List.length_replicate, hsz, h56']
        clear hst hbase hcp
        have hbi : ∀ j, (lastL base (8 * s.l.length) 128 j).length = 128 := fun j => by rw [length_lastL, hbl]
        rw [show flatV encU8 base = flatV encU8 (lastL base (8 * s.l.length) 128 0) from rfl]
        refine AWP.loopI (fun j : Nat => 8 - j) (fun j => [junk, junk, .pointer (some ⟨h.length, 0, none⟩), .pointer (some ⟨h.length + 1, 0, none⟩), .int .u64 (8 * s.l.length : Nat), .pointer (some ⟨h.length + 2, 0, none⟩), .int .i64 128, junk, junk, junk, junk, junk, junk, junk, junk, junk, junk, junk, junk, junk, junk, junk, junk, junk, junk, junk, junk, junk, junk, junk, junk, junk, junk, junk, .int .i64 (j : Nat), junk, junk, junk, junk, junk, junk, junk, junk, junk, junk, junk, junk, junk, junk, junk, junk, junk, junk, junk, junk, junk, junk, junk, junk, junk, junk, junk, junk, junk, junk, junk, junk, junk, junk, junk, junk, junk, junk, junk, junk, junk, junk, junk, junk, junk])
          (fun j => h ++ [.cells (encWord zeroW).toArray 0 true, .cells (flatV enc32 st1.l) 0 true, .cells (flatV encU8 (lastL base (8 * s.l.length) 128 j)) 0 true]) (fun j => j ≤ 8) 0 (Nat.zero_le _) ?_ ?_
        · refine Keeps.easeL oren_wsu ?_
          repeat (first | exact Keeps.nil | refine Keeps.junk _ ?_ | refine Keeps.keep (by first | exact .plain _ rfl | exact .ptr _ _ _ (by simp) rfl) ?_)
        · intro j hj
          by_cases hj8 : j < 8
          · have hl8 : ((j : Nat) : Int) < 8 := by omega
            have hwj : IntKind.i64.wrap ((j : Int) + 1) = ((j + 1 : Nat) : Int) := by rw [wrap_i64_of _ (by omega) (by omega), ofNat_succ']
            have hm : IntKind.i64.wrap ((8 : Int) * (j : Int)) = ((8 * j : Nat) : Int) := by rw [wrap_i64_of _ (by omega) (by omega)]; omega
            have hix : IntKind.i64.wrap ((127 : Int) - (j : Int)) = ((128 - 1 - j : Nat) : Int) := by rw [wrap_i64_of _ (by omega) (by omega)]; omega
            have hix2 : ((128 - 1 - j : Nat) : Int) < 128 := by omega
            have hix3 : 128 - 1 - j + 1 ≤ 128 := by omega
            have hn0 : ¬ ((8 * j : Nat) : Int) < 0 := by omega
            have hsh : IntKind.u8.wrap ((((8 * s.l.length : Nat) : Int)).fdiv (2 ^ (min (8 * j) 64))) = (((UInt8.ofNat (8 * s.l.length / 2 ^ (8 * j))).toNat : Nat) : Int) := by
              have e : min (8 * j) 64 = 8 * j := by omega
              have e2 : (((8 * s.l.length : Nat) : Int)).fdiv (2 ^ (8 * j)) = ((8 * s.l.length / 2 ^ (8 * j) : Nat) : Int) := by
                rw [Int.fdiv_eq_ediv_of_nonneg _ (Int.le_of_lt (Int.pow_pos (by decide)))]
                push_cast; rfl
              rw [e, e2, wrap8]
            have hset : (flatV encU8 (lastL base (8 * s.l.length) 128 j)).setIfInBounds (128 - 1 - j) (.int .u8 (((UInt8.ofNat (8 * s.l.length / 2 ^ (8 * j))).toNat : Nat) : Int)) = flatV encU8 (lastL base (8 * s.l.length) 128 (j + 1)) := set_u8 _ _ _
            simp only [Nat.reduceSub] at hix hix2 hix3 hset
            simp (implicitDefEqProofs := false) only [go_sem, Nat.reduceAdd, Nat.reduceSub, Nat.reduceMul, Nat.reduceLT, Nat.reduceLeDiff, Nat.reduceEqDiff, Nat.reduceBEq, Nat.reduceBNe, Nat.reducePow, Int.reduceBEq, Int.reduceBNe, Int.reduceEq, Int.reduceLT, Int.reduceLE, Int.reduceNeg, Int.reduceToNat, Int.reduceMul, Int.reduceAdd, Int.reduceSub, Int.reducePow, Int.reduceFDiv, reduceCtorEq, reduceIte, hl8, hwj, hm, hix, hix2, hix3, abin_shr hn0, hsh, hset, size_u8, hbi]
            refine ⟨j + 1, by omega, by omega, Keeps.easeL oren_wsu ?_⟩
            repeat (first | exact Keeps.nil | refine Keeps.junk _ ?_ | refine Keeps.keep (by first | exact .plain _ rfl | exact .ptr _ _ _ (by simp) rfl) ?_)
          · have hl8 : ¬ ((j : Nat) : Int) < 8 := by omega
            have hje : j = 8 := by omega
            subst hje
            have hbl8 := hbi 8
            generalize lastL base (8 * s.l.length) 128 8 = L at hash hbl8 ⊢
            simp (implicitDefEqProofs := false) only [go_sem, Nat.reduceAdd, Nat.reduceSub, Nat.reduceMul, Nat.reduceLT, Nat.reduceLeDiff, Nat.reduceEqDiff, Nat.reduceBEq, Nat.reduceBNe, Nat.reducePow, Int.reduceBEq, Int.reduceBNe, Int.reduceEq, Int.reduceLT, Int.reduceLE, Int.reduceNeg, Int.reduceToNat, Int.reduceMul, Int.reduceAdd, Int.reduceSub, Int.reducePow, Int.reduceFDiv, reduceCtorEq, reduceIte, hl8]
            refine AWP.loopI (fun k : Nat => 2 - k) (fun k => [junk, junk, .pointer (some ⟨h.length, 0, none⟩), .pointer (some ⟨h.length + 1, 0, none⟩), junk, fp (flatV encU8 L) 0, .int .i64 128, junk, .int .i64 ((64 * k : Nat) : Int), junk, junk, junk, junk, junk, junk, junk, junk, junk, junk, junk, junk, junk, junk, junk, junk, junk, junk, junk, junk, junk, junk, junk, junk, junk, junk, junk, junk, junk, junk, junk, junk, junk, junk, junk, junk, junk, junk, junk, junk, junk, junk, junk, junk, junk, junk, junk, junk, junk, junk, junk, junk, junk, junk, junk, junk, junk, junk, junk, junk, junk, junk, junk, junk, junk, junk, junk, junk, junk, junk, junk])
              (fun k => h ++ [.cells (encWord zeroW).toArray 0 true, .cells (flatV enc32 (foldB ks k st1 L).l) 0 true]) (fun k => k ≤ 2) 0 (Nat.zero_le _) ?_ ?_
            · refine Eases.trans (FzL.ease (b := h.length + 2) (l1 := [junk, junk, .pointer (some ⟨h.length, 0, none⟩), .pointer (some ⟨h.length + 1, 0, none⟩), junk, fp (flatV encU8 L) 0, .int .i64 128, junk, .int .i64 0, junk, junk, junk, junk, junk, junk, junk, junk, junk, junk, junk, junk, junk, junk, junk, junk, junk, junk, junk, junk, junk, junk, junk, junk, junk, junk, junk, junk, junk, junk, junk, junk, junk, junk, junk, junk, junk, junk, junk, junk, junk, junk, junk, junk, junk, junk, junk, junk, junk, junk, junk, junk, junk, junk, junk, junk, junk, junk, junk, junk, junk, junk, junk, junk, junk, junk, junk, junk, junk, junk, junk]) ?_) ?_
              · repeat (first | exact FzL.nil | refine FzL.junk _ ?_ | refine FzL.keep (.same _) ?_ | refine FzL.keep (Rf.pointer (at_new _ _ 2) (List.getElem?_set_self (by simp))) ?_)
              · rw [set_new]
                refine Keeps.easeP (t := [.cells (encWord zeroW).toArray 0 true, .cells (flatV enc32 st1.l) 0 true]) (x := [.dead]) oren_ws ?_
                repeat (first | exact Keeps.nil | refine Keeps.junk _ ?_ | refine Keeps.keep (by first | exact .plain _ rfl | exact .ptr _ _ _ (by simp) rfl | exact (Tree.fpU8 _ _).ren) ?_)
            · intro k hk
              by_cases hk2 : k < 2
              · have hl64 : ((64 * k : Nat) : Int) < 128 := by omega
                have hw64 : IntKind.i64.wrap (((64 * k : Nat) : Int) + 64) = ((64 * k + 64 : Nat) : Int) := by rw [wrap_i64_of _ (by omega) (by omega)]; omega
                have hw65 : 64 * k + 64 = 64 * (k + 1) := by omega
                have ha1 : 64 * k + 64 ≤ 128 := by omega
                have ha2 : ((64 * k + 64 : Nat) : Int) ≤ 128 := by omega
                have ha3 : ¬ 64 * k = 128 := by omega
                have ha4 : ((64 * k : Nat) : Int) ≤ ((64 * k + 64 : Nat) : Int) := by omega
                have ha5 : 64 * k ≤ 64 * k + 64 := by omega
                have ha6 : 64 * k + 64 - 64 * k = 64 := by omega
                have hbl9 : (flatV encU8 L).size = 128 := by rw [size_u8, hbl8]
                have hfz : mkSliceF (flatV encU8 L) 0 (some (.int .i64 ((64 * k : Nat) : Int))) (some (.int .i64 ((64 * k + 64 : Nat) : Int))) (some (128, false, 1)) = some (slV encU8 (Sl.full ((L.drop (64 * k)).take 64))) := mkSliceF_u8 hbl8 (by omega) (by omega)
                simp (implicitDefEqProofs := false) only [go_sem, Nat.reduceAdd, Nat.reduceSub, Nat.reduceMul, Nat.reduceLT, Nat.reduceLeDiff, Nat.reduceEqDiff, Nat.reduceBEq, Nat.reduceBNe, Nat.reducePow, Int.reduceBEq, Int.reduceBNe, Int.reduceEq, Int.reduceLT, Int.reduceLE, Int.reduceNeg, Int.reduceToNat, Int.reduceMul, Int.reduceAdd, Int.reduceSub, Int.reducePow, Int.reduceFDiv, reduceCtorEq, reduceIte, hl64, hw64, hfz]
                refine astep_calls (take_calls ks _ _ (by rw [full_l]; simp; omega) _ _ (at_new _ _ 1) (hk' _) hkl) ?_
                intro v h1 hR
                subst hR
                simp (implicitDefEqProofs := false) only [go_sem, Nat.reduceAdd, Nat.reduceSub, Nat.reduceMul, Nat.reduceLT, Nat.reduceLeDiff, Nat.reduceEqDiff, Nat.reduceBEq, Nat.reduceBNe, Nat.reducePow, Int.reduceBEq, Int.reduceBNe, Int.reduceEq, Int.reduceLT, Int.reduceLE, Int.reduceNeg, Int.reduceToNat, Int.reduceMul, Int.reduceAdd, Int.reduceSub, Int.reducePow, Int.reduceFDiv, reduceCtorEq, reduceIte, hw64]
                have et : takeS ks (foldB ks k st1 L) (List.take 64 (List.drop (64 * k) L)) = foldB ks (k + 1) st1 L := by rw [foldB_succ]
                rw [et]
                refine ⟨k + 1, by omega, by omega, Keeps.easeL oren_ws ?_⟩
                repeat (first | exact Keeps.nil | refine Keeps.junk _ ?_ | refine Keeps.keep (by first | exact .plain _ rfl | exact .ptr _ _ _ (by simp) rfl | exact (Tree.fpU8 _ _).ren) ?_)
              · have hl64 : ¬ ((64 * k : Nat) : Int) < 128 := by omega
                have hke : k = 2 := by omega
                subst hke
                rw [show 128 / 64 = 2 from rfl, hst1] at hash
                rw [hash]
                generalize hashS ks s.l = st
                simp (implicitDefEqProofs := false) only [go_sem, Nat.reduceAdd, Nat.reduceSub, Nat.reduceMul, Nat.reduceLT, Nat.reduceLeDiff, Nat.reduceEqDiff, Nat.reduceBEq, Nat.reduceBNe, Nat.reducePow, Int.reduceBEq, Int.reduceBNe, Int.reduceEq, Int.reduceLT, Int.reduceLE, Int.reduceNeg, Int.reduceToNat, Int.reduceMul, Int.reduceAdd, Int.reduceSub, Int.reducePow, Int.reduceFDiv, reduceCtorEq, reduceIte, hl64, S8len, S8_all, size_32]
                rw [show zeros #[Value.int .u8 0] 32 = flatV encU8 (outB st 0 ++ List.replicate (32 - 4 * 0) 0) by kernel_rfl]
                refine AWP.loopI (fun i : Nat => 8 - i) (fun i => [junk, junk, .pointer (some ⟨h.length, 0, none⟩), junk, junk, junk, junk, junk, junk, .slice (some ⟨h.length + 2, 0, none⟩) (4 * i) 32, junk, junk, junk, junk, junk, junk, junk, junk, junk, junk, junk, junk, junk, junk, junk, junk, junk, junk, junk, junk, junk, junk, junk, junk, junk, junk, junk, junk, junk, junk, junk, junk, junk, junk, junk, junk, junk, junk, junk, junk, junk, junk, junk, junk, junk, junk, junk, junk, junk, .agg (flatV enc32 st.l), .int .i64 (i : Nat), junk, junk, junk, junk, junk, junk, junk, junk, junk, junk, junk, junk, junk, junk, junk, junk, junk, junk, junk])
                  (fun i => h ++ [.cells (encWord zeroW).toArray 0 true, .cells (flatV enc32 st.l) 0 true, .cells (flatV encU8 (outB st i ++ List.replicate (32 - 4 * i) 0)) 1 true]) (fun i => i ≤ 8) 0 (Nat.zero_le _) ?_ ?_
                · refine Keeps.easeL oren_wsu ?_
                  repeat (first | exact Keeps.nil | refine Keeps.junk _ ?_ | refine Keeps.keep (by first | exact .plain _ rfl | exact .ptr _ _ _ (by simp) rfl | exact .slice _ _ _ _ _ (by simp) rfl | exact (tree_agg32 _).ren) ?_)
                · intro i hi
                  by_cases hi8 : i < 8
                  · have hl8 : ((i : Nat) : Int) < 8 := by omega
                    have hwi : IntKind.i64.wrap ((i : Int) + 1) = ((i + 1 : Nat) : Int) := by rw [wrap_i64_of _ (by omega) (by omega), ofNat_succ']
                    have hz4 : zeros #[Value.int IntKind.u8 0] 4 = [Value.int .u8 0, .int .u8 0, .int .u8 0, .int .u8 0].toArray := by kernel_rfl
                    have hob : (outB st i).length = 4 * i := length_outB st (by omega)
                    have hb1 : 4 * i ≤ 4 * i + (32 - 4 * i) := by omega
                    have hb2 : 4 * i + 4 ≤ 32 := by omega
                    have hb3 : 4 * i + 4 ≤ 4 * i + (32 - 4 * i) := by omega
                    have hbf := blit_four st hi8
                    have hb5 : 4 * i + 4 = 4 * (i + 1) := by omega
                    simp (implicitDefEqProofs := false) only [go_sem, Nat.reduceAdd, Nat.reduceSub, Nat.reduceMul, Nat.reduceLT, Nat.reduceLeDiff, Nat.reduceEqDiff, Nat.reduceBEq, Nat.reduceBNe, Nat.reducePow, Int.reduceBEq, Int.reduceBNe, Int.reduceEq, Int.reduceLT, Int.reduceLE, Int.reduceNeg, Int.reduceToNat, Int.reduceMul, Int.reduceAdd, Int.reduceSub, Int.reducePow, Int.reduceFDiv, reduceCtorEq, reduceIte, hl8, hwi, l_get st hi8, hz4, List.setIfInBounds_toArray, List.size_toArray, size_u8, hob, List.length_replicate, hb1, hb2, hb3, hbf, false_and]
                    refine ⟨i + 1, by omega, by omega, ?_⟩
                    rw [hb5]
                    refine Keeps.easeP (t := [.cells (encWord zeroW).toArray 0 true, .cells (flatV enc32 st.l) 0 true, .cells (flatV encU8 (outB st (i + 1) ++ List.replicate (32 - 4 * (i + 1)) 0)) 1 true]) (x := [_]) oren_wsu ?_
                    repeat (first | exact Keeps.nil | refine Keeps.junk _ ?_ | refine Keeps.keep (by first | exact .plain _ rfl | exact .ptr _ _ _ (by simp) rfl | exact .slice _ _ _ _ _ (by simp) rfl | exact (tree_agg32 _).ren) ?_)
                  · have hl8 : ¬ ((i : Nat) : Int) < 8 := by omega
                    have hie : i = 8 := by omega
                    subst hie
                    have hbs : outB st 8 ++ List.replicate (32 - 4 * 8) 0 = bytesS st := by rw [outB_8]; exact List.append_nil _
                    have hbn : (bytesS st).length = 32 := by rw [← outB_8, length_outB st (Nat.le_refl _)]
                    rw [hbs]
                    simp (implicitDefEqProofs := false) only [go_sem, Nat.reduceAdd, Nat.reduceSub, Nat.reduceMul, Nat.reduceLT, Nat.reduceLeDiff, Nat.reduceEqDiff, Nat.reduceBEq, Nat.reduceBNe, Nat.reducePow, Int.reduceBEq, Int.reduceBNe, Int.reduceEq, Int.reduceLT, Int.reduceLE, Int.reduceNeg, Int.reduceToNat, Int.reduceMul, Int.reduceAdd, Int.reduceSub, Int.reducePow, Int.reduceFDiv, reduceCtorEq, reduceIte, hl8]
                    refine astep_call (wreadB_calls (bytesS st) (n := 32) hbn (by omega) _ (h.length + 2) 1 (at_new _ _ 2)) ?_
                    simp (implicitDefEqProofs := false) only [go_sem, Nat.reduceAdd, Nat.reduceSub, Nat.reduceMul, Nat.reduceLT, Nat.reduceLeDiff, Nat.reduceEqDiff, Nat.reduceBEq, Nat.reduceBNe, Nat.reducePow, Int.reduceBEq, Int.reduceBNe, Int.reduceEq, Int.reduceLT, Int.reduceLE, Int.reduceNeg, Int.reduceToNat, Int.reduceMul, Int.reduceAdd, Int.reduceSub, Int.reducePow, Int.reduceFDiv, reduceCtorEq, reduceIte, length_encWord, set_new]
                    exact apost_cell rfl (encWord_plain _) ⟨rfl, rfl⟩ _ _ rfl (by simp (implicitDefEqProofs := false) only [go_sem, Nat.reduceAdd, Nat.reduceSub, Nat.reduceMul, Nat.reduceLT, Nat.reduceLeDiff, Nat.reduceEqDiff, Nat.reduceBEq, Nat.reduceBNe, Nat.reducePow, Int.reduceBEq, Int.reduceBNe, Int.reduceEq, Int.reduceLT, Int.reduceLE, Int.reduceNeg, Int.reduceToNat, Int.reduceMul, Int.reduceAdd, Int.reduceSub, Int.reducePow, Int.reduceFDiv, reduceCtorEq, reduceIte, length_encWord])
      · have h56' : ¬ (56 : Int) ≤ ((s.l.length - 64 * i : Nat) : Int) := by omega
        have hf : finN (s.l.length - 64 * i) = 64 := by unfold finN; split <;> omega
        rw [hf] at hash
        simp (implicitDefEqProofs := false) only [go_sem, Nat.reduceAdd, Nat.reduceSub, Nat.reduceMul, Nat.reduceLT, Nat.reduceLeDiff, Nat.reduceEqDiff, Nat.reduceBEq, Nat.reduceBNe, Nat.reducePow, Int.reduceBEq, Int.reduceBNe, Int.reduceEq, Int.reduceLT, Int.reduceLE, Int.reduceNeg, Int.reduceToNat, Int.reduceMul, Int.reduceAdd, Int.reduceSub, Int.reducePow, Int.reduceFDiv, reduceCtorEq, reduceIte, hdl, h128, hst, size_u8, List.length_append, List.length_replicate, hsz, h56']
        clear hst hbase hcp
        have hbi : ∀ j, (lastL base (8 * s.l.length) 64 j).length = 128 := fun j => by rw [length_lastL, hbl]
        rw [show flatV encU8 base = flatV encU8 (lastL base (8 * s.l.length) 64 0) from rfl]
        refine AWP.loopI (fun j : Nat => 8 - j) (fun j => [junk, junk, .pointer (some ⟨h.length, 0, none⟩), .pointer (some ⟨h.length + 1, 0, none⟩), .int .u64 (8 * s.l.length : Nat), .pointer (some ⟨h.length + 2, 0, none⟩), .int .i64 64, junk, junk, junk, junk, junk, junk, junk, junk, junk, junk, junk, junk, junk, junk, junk, junk, junk, junk, junk, junk, junk, junk, junk, junk, junk, junk, junk, .int .i64 (j : Nat), junk, junk, junk, junk, junk, junk, junk, junk, junk, junk, junk, junk, junk, junk, junk, junk, junk, junk, junk, junk, junk, junk, junk, junk, junk, junk, junk, junk, junk, junk, junk, junk, junk, junk, junk, junk, junk, junk, junk, junk, junk, junk, junk, junk, junk])
          (fun j => h ++ [.cells (encWord zeroW).toArray 0 true, .cells (flatV enc32 st1.l) 0 true, .cells (flatV encU8 (lastL base (8 * s.l.length) 64 j)) 0 true]) (fun j => j ≤ 8) 0 (Nat.zero_le _) ?_ ?_
        · refine Keeps.easeL oren_wsu ?_
          repeat (first | exact Keeps.nil | refine Keeps.junk _ ?_ | refine Keeps.keep (by first | exact .plain _ rfl | exact .ptr _ _ _ (by simp) rfl) ?_)
        · intro j hj
          by_cases hj8 : j < 8
          · have hl8 : ((j : Nat) : Int) < 8 := by omega
            have hwj : IntKind.i64.wrap ((j : Int) + 1) = ((j + 1 : Nat) : Int) := by rw [wrap_i64_of _ (by omega) (by omega), ofNat_succ']
            have hm : IntKind.i64.wrap ((8 : Int) * (j : Int)) = ((8 * j : Nat) : Int) := by rw [wrap_i64_of _ (by omega) (by omega)]; omega
            have hix : IntKind.i64.wrap ((63 : Int) - (j : Int)) = ((64 - 1 - j : Nat) : Int) := by rw [wrap_i64_of _ (by omega) (by omega)]; omega
            have hix2 : ((64 - 1 - j : Nat) : Int) < 128 := by omega
            have hix3 : 64 - 1 - j + 1 ≤ 128 := by omega
            have hn0 : ¬ ((8 * j : Nat) : Int) < 0 := by omega
            have hsh : IntKind.u8.wrap ((((8 * s.l.length : Nat) : Int)).fdiv (2 ^ (min (8 * j) 64))) = (((UInt8.ofNat (8 * s.l.length / 2 ^ (8 * j))).toNat : Nat) : Int) := by
              have e : min (8 * j) 64 = 8 * j := by omega
              have e2 : (((8 * s.l.length : Nat) : Int)).fdiv (2 ^ (8 * j)) = ((8 * s.l.length / 2 ^ (8 * j) : Nat) : Int) := by
                rw [Int.fdiv_eq_ediv_of_nonneg _ (Int.le_of_lt (Int.pow_pos (by decide)))]
                push_cast; rfl
              rw [e, e2, wrap8]
            have hset : (flatV encU8 (lastL base (8 * s.l.length) 64 j)).setIfInBounds (64 - 1 - j) (.int .u8 (((UInt8.ofNat (8 * s.l.length / 2 ^ (8 * j))).toNat : Nat) : Int)) = flatV encU8 (lastL base (8 * s.l.length) 64 (j + 1)) := set_u8 _ _ _
            simp only [Nat.reduceSub] at hix hix2 hix3 hset
            simp (implicitDefEqProofs := false) only [go_sem, Nat.reduceAdd, Nat.reduceSub, Nat.reduceMul, Nat.reduceLT, Nat.reduceLeDiff, Nat.reduceEqDiff, Nat.reduceBEq, Nat.reduceBNe, Nat.reducePow, Int.reduceBEq, Int.reduceBNe, Int.reduceEq, Int.reduceLT, Int.reduceLE, Int.reduceNeg, Int.reduceToNat, Int.reduceMul, Int.reduceAdd, Int.reduceSub, Int.reducePow, Int.reduceFDiv, reduceCtorEq, reduceIte, hl8, hwj, hm, hix, hix2, hix3, abin_shr hn0, hsh, hset, size_u8, hbi]
            refine ⟨j + 1, by omega, by omega, Keeps.easeL oren_wsu ?_⟩
            repeat (first | exact Keeps.nil | refine Keeps.junk _ ?_ | refine Keeps.keep (by first | exact .plain _ rfl | exact .ptr _ _ _ (by simp) rfl) ?_)
          · have hl8 : ¬ ((j : Nat) : Int) < 8 := by omega
            have hje : j = 8 := by omega
            subst hje
            have hbl8 := hbi 8
            generalize lastL base (8 * s.l.length) 64 8 = L at hash hbl8 ⊢
            simp (implicitDefEqProofs := false) only [go_sem, Nat.reduceAdd, Nat.reduceSub, Nat.reduceMul, Nat.reduceLT, Nat.reduceLeDiff, Nat.reduceEqDiff, Nat.reduceBEq, Nat.reduceBNe, Nat.reducePow, Int.reduceBEq, Int.reduceBNe, Int.reduceEq, Int.reduceLT, Int.reduceLE, Int.reduceNeg, Int.reduceToNat, Int.reduceMul, Int.reduceAdd, Int.reduceSub, Int.reducePow, Int.reduceFDiv, reduceCtorEq, reduceIte, hl8]
            refine AWP.loopI (fun k : Nat => 1 - k) (fun k => [junk, junk, .pointer (some ⟨h.length, 0, none⟩), .pointer (some ⟨h.length + 1, 0, none⟩), junk, fp (flatV encU8 L) 0, .int .i64 64, junk, .int .i64 ((64 * k : Nat) : Int), junk, junk, junk, junk, junk, junk, junk, junk, junk, junk, junk, junk, junk, junk, junk, junk, junk, junk, junk, junk, junk, junk, junk, junk, junk, junk, junk, junk, junk, junk, junk, junk, junk, junk, junk, junk, junk, junk, junk, junk, junk, junk, junk, junk, junk, junk, junk, junk, junk, junk, junk, junk, junk, junk, junk, junk, junk, junk, junk, junk, junk, junk, junk, junk, junk, junk, junk, junk, junk, junk, junk])
              (fun k => h ++ [.cells (encWord zeroW).toArray 0 true, .cells (flatV enc32 (foldB ks k st1 L).l) 0 true]) (fun k => k ≤ 1) 0 (Nat.zero_le _) ?_ ?_
            · refine Eases.trans (FzL.ease (b := h.length + 2) (l1 := [junk, junk, .pointer (some ⟨h.length, 0, none⟩), .pointer (some ⟨h.length + 1, 0, none⟩), junk, fp (flatV encU8 L) 0, .int .i64 64, junk, .int .i64 0, junk, junk, junk, junk, junk, junk, junk, junk, junk, junk, junk, junk, junk, junk, junk, junk, junk, junk, junk, junk, junk, junk, junk, junk, junk, junk, junk, junk, junk, junk, junk, junk, junk, junk, junk, junk, junk, junk, junk, junk, junk, junk, junk, junk, junk, junk, junk, junk, junk, junk, junk, junk, junk, junk, junk, junk, junk, junk, junk, junk, junk, junk, junk, junk, junk, junk, junk, junk, junk, junk, junk]) ?_) ?_
              · repeat (first | exact FzL.nil | refine FzL.junk _ ?_ | refine FzL.keep (.same _) ?_ | refine FzL.keep (Rf.pointer (at_new _ _ 2) (List.getElem?_set_self (by simp))) ?_)
              · rw [set_new]
                refine Keeps.easeP (t := [.cells (encWord zeroW).toArray 0 true, .cells (flatV enc32 st1.l) 0 true]) (x := [.dead]) oren_ws ?_
                repeat (first | exact Keeps.nil | refine Keeps.junk _ ?_ | refine Keeps.keep (by first | exact .plain _ rfl | exact .ptr _ _ _ (by simp) rfl | exact (Tree.fpU8 _ _).ren) ?_)
            · intro k hk
              by_cases hk2 : k < 1
              · have hl64 : ((64 * k : Nat) : Int) < 64 := by omega
                have hw64 : IntKind.i64.wrap (((64 * k : Nat) : Int) + 64) = ((64 * k + 64 : Nat) : Int) := by rw [wrap_i64_of _ (by omega) (by omega)]; omega
                have hw65 : 64 * k + 64 = 64 * (k + 1) := by omega
                have ha1 : 64 * k + 64 ≤ 128 := by omega
                have ha2 : ((64 * k + 64 : Nat) : Int) ≤ 128 := by omega
                have ha3 : ¬ 64 * k = 128 := by omega
                have ha4 : ((64 * k : Nat) : Int) ≤ ((64 * k + 64 : Nat) : Int) := by omega
                have ha5 : 64 * k ≤ 64 * k + 64 := by omega
                have ha6 : 64 * k + 64 - 64 * k = 64 := by omega
                have hbl9 : (flatV encU8 L).size = 128 := by rw [size_u8, hbl8]
                have hfz : mkSliceF (flatV encU8 L) 0 (some (.int .i64 ((64 * k : Nat) : Int))) (some (.int .i64 ((64 * k + 64 : Nat) : Int))) (some (128, false, 1)) = some (slV encU8 (Sl.full ((L.drop (64 * k)).take 64))) := mkSliceF_u8 hbl8 (by omega) (by omega)
                simp (implicitDefEqProofs := false) only [go_sem, Nat.reduceAdd, Nat.reduceSub, Nat.reduceMul, Nat.reduceLT, Nat.reduceLeDiff, Nat.reduceEqDiff, Nat.reduceBEq, Nat.reduceBNe, Nat.reducePow, Int.reduceBEq, Int.reduceBNe, Int.reduceEq, Int.reduceLT, Int.reduceLE, Int.reduceNeg, Int.reduceToNat, Int.reduceMul, Int.reduceAdd, Int.reduceSub, Int.reducePow, Int.reduceFDiv, reduceCtorEq, reduceIte, hl64, hw64, hfz]
                refine astep_calls (take_calls ks _ _ (by rw [full_l]; simp; omega) _ _ (at_new _ _ 1) (hk' _) hkl) ?_
                intro v h1 hR
                subst hR
                simp (implicitDefEqProofs := false) only [go_sem, Nat.reduceAdd, Nat.reduceSub, Nat.reduceMul, Nat.reduceLT, Nat.reduceLeDiff, Nat.reduceEqDiff, Nat.reduceBEq, Nat.reduceBNe, Nat.reducePow, Int.reduceBEq, Int.reduceBNe, Int.reduceEq, Int.reduceLT, Int.reduceLE, Int.reduceNeg, Int.reduceToNat, Int.reduceMul, Int.reduceAdd, Int.reduceSub, Int.reducePow, Int.reduceFDiv, reduceCtorEq, reduceIte, hw64]
                have et : takeS ks (foldB ks k st1 L) (List.take 64 (List.drop (64 * k) L)) = foldB ks (k + 1) st1 L := by rw [foldB_succ]
                rw [et]
                refine ⟨k + 1, by omega, by omega, Keeps.easeL oren_ws ?_⟩
                repeat (first | exact Keeps.nil | refine Keeps.junk _ ?_ | refine Keeps.keep (by first | exact .plain _ rfl | exact .ptr _ _ _ (by simp) rfl | exact (Tree.fpU8 _ _).ren) ?_)
              · have hl64 : ¬ ((64 * k : Nat) : Int) < 64 := by omega
                have hke : k = 1 := by omega
                subst hke
                rw [show 64 / 64 = 1 from rfl, hst1] at hash
                rw [hash]
                generalize hashS ks s.l = st
                simp (implicitDefEqProofs := false) only [go_sem, Nat.reduceAdd, Nat.reduceSub, Nat.reduceMul, Nat.reduceLT, Nat.reduceLeDiff, Nat.reduceEqDiff, Nat.reduceBEq, Nat.reduceBNe, Nat.reducePow, Int.reduceBEq, Int.reduceBNe, Int.reduceEq, Int.reduceLT, Int.reduceLE, Int.reduceNeg, Int.reduceToNat, Int.reduceMul, Int.reduceAdd, Int.reduceSub, Int.reducePow, Int.reduceFDiv, reduceCtorEq, reduceIte, hl64, S8len, S8_all, size_32]
                rw [show zeros #[Value.int .u8 0] 32 = flatV encU8 (outB st 0 ++ List.replicate (32 - 4 * 0) 0) by kernel_rfl]
                refine AWP.loopI (fun i : Nat => 8 - i) (fun i => [junk, junk, .pointer (some ⟨h.length, 0, none⟩), junk, junk, junk, junk, junk, junk, .slice (some ⟨h.length + 2, 0, none⟩) (4 * i) 32, junk, junk, junk, junk, junk, junk, junk, junk, junk, junk, junk, junk, junk, junk, junk, junk, junk, junk, junk, junk, junk, junk, junk, junk, junk, junk, junk, junk, junk, junk, junk, junk, junk, junk, junk, junk, junk, junk, junk, junk, junk, junk, junk, junk, junk, junk, junk, junk, junk, .agg (flatV enc32 st.l), .int .i64 (i : Nat), junk, junk, junk, junk, junk, junk, junk, junk, junk, junk, junk, junk, junk, junk, junk, junk, junk, junk, junk])
                  (fun i => h ++ [.cells (encWord zeroW).toArray 0 true, .cells (flatV enc32 st.l) 0 true, .cells (flatV encU8 (outB st i ++ List.replicate (32 - 4 * i) 0)) 1 true]) (fun i => i ≤ 8) 0 (Nat.zero_le _) ?_ ?_
                · refine Keeps.easeL oren_wsu ?_
                  repeat (first | exact Keeps.nil | refine Keeps.junk _ ?_ | refine Keeps.keep (by first | exact .plain _ rfl | exact .ptr _ _ _ (by simp) rfl | exact .slice _ _ _ _ _ (by simp) rfl | exact (tree_agg32 _).ren) ?_)
                · intro i hi
                  by_cases hi8 : i < 8
                  · have hl8 : ((i : Nat) : Int) < 8 := by omega
                    have hwi : IntKind.i64.wrap ((i : Int) + 1) = ((i + 1 : Nat) : Int) := by rw [wrap_i64_of _ (by omega) (by omega), ofNat_succ']
                    have hz4 : zeros #[Value.int IntKind.u8 0] 4 = [Value.int .u8 0, .int .u8 0, .int .u8 0, .int .u8 0].toArray := by kernel_rfl
                    have hob : (outB st i).length = 4 * i := length_outB st (by omega)
                    have hb1 : 4 * i ≤ 4 * i + (32 - 4 * i) := by omega
                    have hb2 : 4 * i + 4 ≤ 32 := by omega
                    have hb3 : 4 * i + 4 ≤ 4 * i + (32 - 4 * i) := by omega
                    have hbf := blit_four st hi8
                    have hb5 : 4 * i + 4 = 4 * (i + 1) := by omega
                    simp (implicitDefEqProofs := false) only [go_sem, Nat.reduceAdd, Nat.reduceSub, Nat.reduceMul, Nat.reduceLT, Nat.reduceLeDiff, Nat.reduceEqDiff, Nat.reduceBEq, Nat.reduceBNe, Nat.reducePow, Int.reduceBEq, Int.reduceBNe, Int.reduceEq, Int.reduceLT, Int.reduceLE, Int.reduceNeg, Int.reduceToNat, Int.reduceMul, Int.reduceAdd, Int.reduceSub, Int.reducePow, Int.reduceFDiv, reduceCtorEq, reduceIte, hl8, hwi, l_get st hi8, hz4, List.setIfInBounds_toArray, List.size_toArray, size_u8, hob, List.length_replicate, hb1, hb2, hb3, hbf, false_and]
                    refine ⟨i + 1, by omega, by omega, ?_⟩
                    rw [hb5]
                    refine Keeps.easeP (t := [.cells (encWord zeroW).toArray 0 true, .cells (flatV enc32 st.l) 0 true, .cells (flatV encU8 (outB st (i + 1) ++ List.replicate (32 - 4 * (i + 1)) 0)) 1 true]) (x := [_]) oren_wsu ?_
                    repeat (first | exact Keeps.nil | refine Keeps.junk _ ?_ | refine Keeps.keep (by first | exact .plain _ rfl | exact .ptr _ _ _ (by simp) rfl | exact .slice _ _ _ _ _ (by simp) rfl | exact (tree_agg32 _).ren) ?_)
                  · have hl8 : ¬ ((i : Nat) : Int) < 8 := by omega
                    have hie : i = 8 := by omega
                    subst hie
                    have hbs : outB st 8 ++ List.replicate (32 - 4 * 8) 0 = bytesS st := by rw [outB_8]; exact List.append_nil _
                    have hbn : (bytesS st).length = 32 := by rw [← outB_8, length_outB st (Nat.le_refl _)]
                    rw [hbs]
                    simp (implicitDefEqProofs := false) only [go_sem, Nat.reduceAdd, Nat.reduceSub, Nat.reduceMul, Nat.reduceLT, Nat.reduceLeDiff, Nat.reduceEqDiff, Nat.reduceBEq, Nat.reduceBNe, Nat.reducePow, Int.reduceBEq, Int.reduceBNe, Int.reduceEq, Int.reduceLT, Int.reduceLE, Int.reduceNeg, Int.reduceToNat, Int.reduceMul, Int.reduceAdd, Int.reduceSub, Int.reducePow, Int.reduceFDiv, reduceCtorEq, reduceIte, hl8]
                    refine astep_call (wreadB_calls (bytesS st) (n := 32) hbn (by omega) _ (h.length + 2) 1 (at_new _ _ 2)) ?_
                    simp (implicitDefEqProofs := false) only [go_sem, Nat.reduceAdd, Nat.reduceSub, Nat.reduceMul, Nat.reduceLT, Nat.reduceLeDiff, Nat.reduceEqDiff, Nat.reduceBEq, Nat.reduceBNe, Nat.reducePow, Int.reduceBEq, Int.reduceBNe, Int.reduceEq, Int.reduceLT, Int.reduceLE, Int.reduceNeg, Int.reduceToNat, Int.reduceMul, Int.reduceAdd, Int.reduceSub, Int.reducePow, Int.reduceFDiv, reduceCtorEq, reduceIte, length_encWord, set_new]
                    exact apost_cell rfl (encWord_plain _) ⟨rfl, rfl⟩ _ _ rfl (by simp (implicitDefEqProofs := false) only [go_sem, Nat.reduceAdd, Nat.reduceSub, Nat.reduceMul, Nat.reduceLT, Nat.reduceLeDiff, Nat.reduceEqDiff, Nat.reduceBEq, Nat.reduceBNe, Nat.reducePow, Int.reduceBEq, Int.reduceBNe, Int.reduceEq, Int.reduceLT, Int.reduceLE, Int.reduceNeg, Int.reduceToNat, Int.reduceMul, Int.reduceAdd, Int.reduceSub, Int.reducePow, Int.reduceFDiv, reduceCtorEq, reduceIte, length_encWord])
end Go.Proofs
