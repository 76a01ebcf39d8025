import Derived.Test.YtlimncmlocojkaaDoorSha2
import Derived.Test.YtlimncmlocojkaaDoorAm43x
set_option linter.unusedSimpArgs false
set_option linter.unusedVariables false
/- a block is taken -/
namespace Go.Proofs
open Go Go.Am

theorem sd_get (l : List UInt8) {t : Nat} (ht : t < 64) : (flatV enc32 (sched l 48))[t]? = some (.int .u32 ((((sched l 48).getD t 0).toNat : Nat) : Int)) := by
  have := front_32 (a := sched l 48) (b := []) (k := t) (by rw [length_sched]; exact ht)
  rwa [List.append_nil] at this
theorem glob0 {a : Array Value} : aeval Tryd.prog a (.global 0) = .pointer (some ⟨0, 0, none⟩) := by
  have h1 : 0 < Tryd.prog.globals.size := by decide +kernel
  show (if 0 < Tryd.prog.globals.size then Value.pointer (some ⟨0, 0, none⟩) else junk) = _
  rw [if_pos h1]

set_option maxRecDepth 10000 in
set_option maxHeartbeats 8000000 in
theorem take_calls (ks : List UInt32) (st : S8) (s : Sl UInt8) (hs : s.l.length = 64) (b : Nat) (h : AH) (hb : h[b]? = some (.cells (flatV enc32 st.l) 0 true)) (hk : h[0]? = some (.cells (flatV enc32 ks) 0 false)) (hkl : ks.length = 64) :
    ACalls Tryd.prog 7 #[.pointer (some ⟨b, 0, none⟩), slV encU8 s] h (fun _ h' => h' = h.set b (.cells (flatV enc32 (takeS ks st s.l).l) 0 true)) := by
  have hlt : b < h.length := (List.getElem?_eq_some_iff.1 hb).1
  have hgl : 0 < h.length := (List.getElem?_eq_some_iff.1 hk).1
  have hb' : ∀ t : AH, (h ++ t)[b]? = some (.cells (flatV enc32 st.l) 0 true) := fun t => by rw [at_front hlt]; exact hb
  have hk' : ∀ t : AH, (h ++ t)[0]? = some (.cells (flatV enc32 ks) 0 false) := fun t => by rw [at_front hgl]; exact hk
  refine ACalls.of_ay Tryd.func7 rfl Tryd.ntmps7 ⟨undef, _, rfl⟩ ?_; simp only [List.length_cons, List.length_nil, Nat.reduceAdd, Nat.reduceSub, List.replicate_succ, List.replicate_zero, List.cons_append, List.nil_append]
  simp (implicitDefEqProofs := false) only [go_sem, Nat.reduceAdd, Nat.reduceSub, Nat.reduceMul, Nat.reduceLT, Nat.reduceLeDiff, Nat.reduceEqDiff, Nat.reduceBEq, Nat.reduceBNe, Nat.reducePow, Int.reduceBEq, Int.reduceBNe, Int.reduceEq, Int.reduceLT, Int.reduceLE, Int.reduceNeg, Int.reduceToNat, Int.reduceMul, Int.reduceAdd, Int.reduceSub, Int.reducePow, Int.reduceFDiv, reduceCtorEq, reduceIte]
  refine astep_call (spread_calls s hs _) ?_
  have hn : (sched s.l 48).length = 64 := by rw [length_sched]
  have h8 : ∀ s : S8, s.l.length = 8 := fun _ => rfl
  simp (implicitDefEqProofs := false) only [go_sem, Nat.reduceAdd, Nat.reduceSub, Nat.reduceMul, Nat.reduceLT, Nat.reduceLeDiff, Nat.reduceEqDiff, Nat.reduceBEq, Nat.reduceBNe, Nat.reducePow, Int.reduceBEq, Int.reduceBNe, Int.reduceEq, Int.reduceLT, Int.reduceLE, Int.reduceNeg, Int.reduceToNat, Int.reduceMul, Int.reduceAdd, Int.reduceSub, Int.reducePow, Int.reduceFDiv, reduceCtorEq, reduceIte, rep_32, size_32, hn, List.length_replicate, hb', h8, S8_all]
  refine AWP.loopI (fun t : Nat => 64 - t) (fun t => [.pointer (some ⟨b, 0, none⟩), junk, junk, junk, .pointer (some ⟨h.length, 0, none⟩), .pointer (some ⟨h.length + 1, 0, none⟩), junk, junk, junk, junk, junk, junk, junk, junk, junk, junk, junk, junk, junk, junk, junk, .int .i64 (t : Nat), junk, junk, junk, junk, junk, junk, junk, junk, junk, junk, junk, junk, junk, junk, junk, junk, junk, junk, junk, junk, junk, junk, junk, junk, junk, junk, junk, junk, junk, junk, junk, junk, junk, junk, junk, junk, junk, junk, junk, junk, junk, junk, junk, junk, junk, junk, junk, junk, junk, junk, junk, junk, junk, junk, junk, junk, junk, junk, junk, junk, junk, junk, junk, junk, junk, junk, junk, junk, junk, junk, junk, junk, junk, junk, junk, junk, junk, junk, junk, junk, junk, junk, junk, junk, junk, junk, junk, junk, junk, junk])
    (fun t => h ++ [.cells (flatV enc32 (sched s.l 48)) 0 true, .cells (flatV enc32 (rnds ks (sched s.l 48) st t).l) 0 true]) (fun t => t ≤ 64) 0 (Nat.zero_le _) ?_ ?_
  · refine Keeps.easeL oren2_32 ?_
    repeat (first | exact Keeps.nil | refine Keeps.junk _ ?_ | refine Keeps.keep (by first | exact .plain _ rfl | exact .ptr _ _ _ (by simp; omega) rfl | exact .ptr _ _ _ (by simp) rfl) ?_)
  · intro t ht
    by_cases hlt64 : t < 64
    · have hl64 : ((t : Nat) : Int) < 64 := by omega
      have hw1 : IntKind.i64.wrap ((t : Int) + 1) = ((t + 1 : Nat) : Int) := by rw [wrap_i64_of _ (by omega) (by omega), ofNat_succ']
      have hkt : (flatV enc32 ks)[t]? = some (.int .u32 (((ks.getD t 0).toNat : Nat) : Int)) := by
        have := front_32 (a := ks) (b := []) (k := t) (by omega)
        rwa [List.append_nil] at this
      generalize hv : rnds ks (sched s.l 48) st t = v
      simp (implicitDefEqProofs := false) only [go_sem, Nat.reduceAdd, Nat.reduceSub, Nat.reduceMul, Nat.reduceLT, Nat.reduceLeDiff, Nat.reduceEqDiff, Nat.reduceBEq, Nat.reduceBNe, Nat.reducePow, Int.reduceBEq, Int.reduceBNe, Int.reduceEq, Int.reduceLT, Int.reduceLE, Int.reduceNeg, Int.reduceToNat, Int.reduceMul, Int.reduceAdd, Int.reduceSub, Int.reducePow, Int.reduceFDiv, reduceCtorEq, reduceIte, hl64, S8_0, S8_1, S8_2, S8_4, S8_5, S8_6, S8_7]
      refine ⟨by kernel_rfl, by kernel_rfl, ?_⟩
      refine ⟨by kernel_rfl, by kernel_rfl, ?_⟩
      refine dstep_call (right6 _ _) pres_refl ?_
      simp (implicitDefEqProofs := false) only [go_sem, Nat.reduceAdd, Nat.reduceSub, Nat.reduceMul, Nat.reduceLT, Nat.reduceLeDiff, Nat.reduceEqDiff, Nat.reduceBEq, Nat.reduceBNe, Nat.reducePow, Int.reduceBEq, Int.reduceBNe, Int.reduceEq, Int.reduceLT, Int.reduceLE, Int.reduceNeg, Int.reduceToNat, Int.reduceMul, Int.reduceAdd, Int.reduceSub, Int.reducePow, Int.reduceFDiv, reduceCtorEq, reduceIte]
      refine dstep_call (right11 _ _) pres_refl ?_
      simp (implicitDefEqProofs := false) only [go_sem, Nat.reduceAdd, Nat.reduceSub, Nat.reduceMul, Nat.reduceLT, Nat.reduceLeDiff, Nat.reduceEqDiff, Nat.reduceBEq, Nat.reduceBNe, Nat.reducePow, Int.reduceBEq, Int.reduceBNe, Int.reduceEq, Int.reduceLT, Int.reduceLE, Int.reduceNeg, Int.reduceToNat, Int.reduceMul, Int.reduceAdd, Int.reduceSub, Int.reducePow, Int.reduceFDiv, reduceCtorEq, reduceIte]
      refine dstep_call (right25 _ _) pres_refl ?_
      simp (implicitDefEqProofs := false) only [go_sem, Nat.reduceAdd, Nat.reduceSub, Nat.reduceMul, Nat.reduceLT, Nat.reduceLeDiff, Nat.reduceEqDiff, Nat.reduceBEq, Nat.reduceBNe, Nat.reducePow, Int.reduceBEq, Int.reduceBNe, Int.reduceEq, Int.reduceLT, Int.reduceLE, Int.reduceNeg, Int.reduceToNat, Int.reduceMul, Int.reduceAdd, Int.reduceSub, Int.reducePow, Int.reduceFDiv, reduceCtorEq, reduceIte, glob0, hk', hkt, sd_get s.l hlt64, hl64]
      refine astep_call (right2 _ _) ?_
      simp (implicitDefEqProofs := false) only [go_sem, Nat.reduceAdd, Nat.reduceSub, Nat.reduceMul, Nat.reduceLT, Nat.reduceLeDiff, Nat.reduceEqDiff, Nat.reduceBEq, Nat.reduceBNe, Nat.reducePow, Int.reduceBEq, Int.reduceBNe, Int.reduceEq, Int.reduceLT, Int.reduceLE, Int.reduceNeg, Int.reduceToNat, Int.reduceMul, Int.reduceAdd, Int.reduceSub, Int.reducePow, Int.reduceFDiv, reduceCtorEq, reduceIte]
      refine astep_call (right13 _ _) ?_
      simp (implicitDefEqProofs := false) only [go_sem, Nat.reduceAdd, Nat.reduceSub, Nat.reduceMul, Nat.reduceLT, Nat.reduceLeDiff, Nat.reduceEqDiff, Nat.reduceBEq, Nat.reduceBNe, Nat.reducePow, Int.reduceBEq, Int.reduceBNe, Int.reduceEq, Int.reduceLT, Int.reduceLE, Int.reduceNeg, Int.reduceToNat, Int.reduceMul, Int.reduceAdd, Int.reduceSub, Int.reducePow, Int.reduceFDiv, reduceCtorEq, reduceIte]
      refine astep_call (right22 _ _) ?_
      simp (implicitDefEqProofs := false) only [go_sem, Nat.reduceAdd, Nat.reduceSub, Nat.reduceMul, Nat.reduceLT, Nat.reduceLeDiff, Nat.reduceEqDiff, Nat.reduceBEq, Nat.reduceBNe, Nat.reducePow, Int.reduceBEq, Int.reduceBNe, Int.reduceEq, Int.reduceLT, Int.reduceLE, Int.reduceNeg, Int.reduceToNat, Int.reduceMul, Int.reduceAdd, Int.reduceSub, Int.reducePow, Int.reduceFDiv, reduceCtorEq, reduceIte]
      have hcp : ∀ H : AH, H[h.length + 1]? = some (.cells (flatV enc32 v.l) 0 true) → acopy Tryd.prog H 35 (.slice (some ⟨h.length + 1, 1, none⟩) 7 7) (.slice (some ⟨h.length + 1, 0, none⟩) 7 8) = some (.int .i64 7, H.set (h.length + 1) (.cells (flatV enc32 (S8.mk v.a v.a v.b v.c v.d v.e v.f v.g).l) 0 true)) := fun H hH => acopy_S8 Tryd.slc35 hH
      rw [hcp _ (at_new _ _ 1)]
      simp (implicitDefEqProofs := false) only [go_sem, Nat.reduceAdd, Nat.reduceSub, Nat.reduceMul, Nat.reduceLT, Nat.reduceLeDiff, Nat.reduceEqDiff, Nat.reduceBEq, Nat.reduceBNe, Nat.reducePow, Int.reduceBEq, Int.reduceBNe, Int.reduceEq, Int.reduceLT, Int.reduceLE, Int.reduceNeg, Int.reduceToNat, Int.reduceMul, Int.reduceAdd, Int.reduceSub, Int.reducePow, Int.reduceFDiv, reduceCtorEq, reduceIte, S8_0, S8_4, S8_set0, S8_set4, size_32, h8, hw1]
      refine ⟨by kernel_rfl, by kernel_rfl, ?_⟩
      refine ⟨.inr ⟨rfl, by decide⟩, ?_⟩
      refine ⟨t + 1, by omega, by omega, ?_⟩
      have hr : rnds ks (sched s.l 48) st (t + 1) = rnd v (ks.getD t 0) ((sched s.l 48).getD t 0) := by rw [rnds, hv]
      rw [hr]
      refine Keeps.easeL oren2_32 ?_
      repeat (first | exact Keeps.nil | refine Keeps.junk _ ?_ | refine Keeps.keep (by first | exact .plain _ rfl | exact .ptr _ _ _ (by simp; omega) rfl | exact .ptr _ _ _ (by simp) rfl) ?_)
    · have hl64 : ¬ ((t : Nat) : Int) < 64 := by omega
      have hte : t = 64 := by omega
      subst hte
      generalize hv : rnds ks (sched s.l 48) st 64 = v
      simp (implicitDefEqProofs := false) only [go_sem, Nat.reduceAdd, Nat.reduceSub, Nat.reduceMul, Nat.reduceLT, Nat.reduceLeDiff, Nat.reduceEqDiff, Nat.reduceBEq, Nat.reduceBNe, Nat.reducePow, Int.reduceBEq, Int.reduceBNe, Int.reduceEq, Int.reduceLT, Int.reduceLE, Int.reduceNeg, Int.reduceToNat, Int.reduceMul, Int.reduceAdd, Int.reduceSub, Int.reducePow, Int.reduceFDiv, reduceCtorEq, reduceIte, hl64]
      have e0 : h ++ [.cells (flatV enc32 (sched s.l 48)) 0 true, .cells (flatV enc32 v.l) 0 true] = h.set b (.cells (flatV enc32 (addI st v 0)) 0 true) ++ [.cells (flatV enc32 (sched s.l 48)) 0 true, .cells (flatV enc32 v.l) 0 true] := by
        rw [addI_0, set_same hb]
      rw [e0]
      refine AWP.loopI (fun i : Nat => 8 - i) (fun i => [.pointer (some ⟨b, 0, none⟩), junk, junk, junk, junk, .pointer (some ⟨h.length + 1, 0, none⟩), junk, junk, junk, junk, junk, junk, junk, junk, junk, junk, junk, junk, junk, junk, junk, junk, junk, junk, junk, junk, junk, junk, junk, junk, junk, junk, junk, junk, junk, junk, junk, junk, junk, junk, junk, junk, junk, junk, junk, junk, junk, junk, junk, junk, junk, junk, junk, junk, junk, junk, junk, junk, junk, junk, junk, junk, junk, junk, junk, junk, junk, junk, junk, junk, junk, junk, junk, junk, junk, junk, junk, junk, junk, junk, junk, junk, junk, junk, junk, junk, junk, junk, junk, junk, junk, junk, junk, junk, junk, junk, junk, .int .i64 (i : Nat), junk, junk, junk, junk, junk, junk, junk, junk, junk, junk, junk, junk, junk, junk])
        (fun i => h.set b (.cells (flatV enc32 (addI st v i)) 0 true) ++ [.cells (flatV enc32 (sched s.l 48)) 0 true, .cells (flatV enc32 v.l) 0 true]) (fun i => i ≤ 8) 0 (Nat.zero_le _) ?_ ?_
      · refine Keeps.easeS (fun _ => oren_32) (fun _ => oren2_32) ?_
        repeat (first | exact Keeps.nil | refine Keeps.junk _ ?_ | refine Keeps.keep (by first | exact .plain _ rfl | exact .ptr _ _ _ (by simp; omega) rfl | exact .ptr _ _ _ (by simp) rfl) ?_)
      · intro i hi
        by_cases hi8 : i < 8
        · have hl8 : ((i : Nat) : Int) < 8 := by omega
          have hw1 : IntKind.i64.wrap ((i : Int) + 1) = ((i + 1 : Nat) : Int) := by rw [wrap_i64_of _ (by omega) (by omega), ofNat_succ']
          have hi81 : i + 1 ≤ 8 := hi8
          simp (implicitDefEqProofs := false) only [go_sem, Nat.reduceAdd, Nat.reduceSub, Nat.reduceMul, Nat.reduceLT, Nat.reduceLeDiff, Nat.reduceEqDiff, Nat.reduceBEq, Nat.reduceBNe, Nat.reducePow, Int.reduceBEq, Int.reduceBNe, Int.reduceEq, Int.reduceLT, Int.reduceLE, Int.reduceNeg, Int.reduceToNat, Int.reduceMul, Int.reduceAdd, Int.reduceSub, Int.reducePow, Int.reduceFDiv, reduceCtorEq, reduceIte, hl8, hw1, at_setS hlt, at_setN, set_setS hlt, addI_get st v hi8, l_get v hi8, addI_set st v hi8, size_32, length_addI, hi81]
          refine ⟨by kernel_rfl, by kernel_rfl, ?_⟩
          refine ⟨.inr ⟨rfl, by decide⟩, ?_⟩
          refine ⟨i + 1, by omega, by omega, Keeps.easeS (fun _ => oren_32) (fun _ => oren2_32) ?_⟩
          repeat (first | exact Keeps.nil | refine Keeps.junk _ ?_ | refine Keeps.keep (by first | exact .plain _ rfl | exact .ptr _ _ _ (by simp; omega) rfl | exact .ptr _ _ _ (by simp) rfl) ?_)
        · have hl8 : ¬ ((i : Nat) : Int) < 8 := by omega
          have hie : i = 8 := by omega
          subst hie
          simp (implicitDefEqProofs := false) only [go_sem, Nat.reduceAdd, Nat.reduceSub, Nat.reduceMul, Nat.reduceLT, Nat.reduceLeDiff, Nat.reduceEqDiff, Nat.reduceBEq, Nat.reduceBNe, Nat.reducePow, Int.reduceBEq, Int.reduceBNe, Int.reduceEq, Int.reduceLT, Int.reduceLE, Int.reduceNeg, Int.reduceToNat, Int.reduceMul, Int.reduceAdd, Int.reduceSub, Int.reducePow, Int.reduceFDiv, reduceCtorEq, reduceIte, hl8]
          rw [addI_8, ← hv]
          exact apost_wrote rfl (fun _ => oren_32) rfl _
end Go.Proofs
