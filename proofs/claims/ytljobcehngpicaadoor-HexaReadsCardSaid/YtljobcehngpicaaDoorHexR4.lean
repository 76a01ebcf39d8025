import Derived.Test.YtljobcehngpicaaDoorHexR3
import Derived.Test.YtljobcehngpicaaDoorHexA
set_option linter.unusedSimpArgs false
set_option linter.unusedVariables false
/- addresses read by the document -/
namespace Go.Proofs
open Go Go.Am

set_option maxRecDepth 10000 in
set_option maxHeartbeats 4000000 in
theorem rread_calls (s : Sl UInt8) (hs : s.l.length < 2 ^ 63) (h : AH) :
    ACalls Tryd.prog 32 #[slV encU8 s] h (fun v h' => v = .agg (encWord (rdW s.l)).toArray ∧ h' = h) := by
  refine ACalls.of_ay Tryd.func32 rfl Tryd.ntmps32 ⟨_, _, rfl, rfl⟩ ?_; simp only [List.length_cons, List.length_nil, Nat.reduceAdd, Nat.reduceSub, List.replicate_succ, List.replicate_zero, List.cons_append, List.nil_append]
  simp (implicitDefEqProofs := false) only [go_sem, Nat.reduceAdd, Nat.reduceSub, Nat.reduceMul, Nat.reduceLT, Nat.reduceLeDiff, Nat.reduceEqDiff, Nat.reduceBEq, Nat.reduceBNe, Nat.reducePow, Int.reduceBEq, Int.reduceBNe, Int.reduceEq, Int.reduceLT, Int.reduceLE, Int.reduceNeg, Int.reduceToNat, Int.reduceMul, Int.reduceAdd, Int.reduceSub, Int.reducePow, Int.reduceFDiv, reduceCtorEq, reduceIte]
  rw [zeroW_enc]
  refine AWP.loopI (fun i : Nat => s.l.length - i) (fun i => [slV encU8 s, junk, .pointer (some ⟨h.length, 0, none⟩), .pointer (some ⟨h.length + 1, 0, none⟩), .int .i64 (s.l.length : Nat), .int .i64 (i : Nat), junk, junk, junk, junk, junk, junk, junk, junk, junk, junk, junk, junk, junk, junk, junk, junk, junk, junk, junk, junk, junk, junk, junk, junk, junk, junk, junk, junk, junk, junk, junk, junk, junk]) (fun i => h ++ [.cells (encWord zeroW).toArray 0 true, .cells (encWord (rd s.l i)).toArray 0 true]) (fun i => i ≤ min 32 s.l.length) 0 (Nat.zero_le _) ?_ ?_
  · refine Keeps.easeL oren_words ?_
    repeat (first | exact Keeps.nil | refine Keeps.junk _ ?_ | refine Keeps.keep (by first | exact .plain _ rfl | exact (Tree.slV tree_encU8 _).ren | exact .ptr _ _ _ (by simp) rfl) ?_)
  · intro i hi
    by_cases hlt32 : i < 32
    · have hl32 : ((i : Nat) : Int) < 32 := by omega
      by_cases hlt : i < s.l.length
      · have h4 : i / 8 < 4 := by omega
        have h43 : i / 8 ≤ 3 := by omega
        have h4' : ((i / 8 : Nat) : Int) < 4 := by omega
        have hq : IntKind.i64.wrap ((i : Int).tdiv 8) = ((i / 8 : Nat) : Int) := by rw [show (i : Int).tdiv 8 = ((i / 8 : Nat) : Int) from rfl]; exact wrap_i64_of _ (by omega) (by omega)
        have hr : (i : Int).tmod 8 = ((i % 8 : Nat) : Int) := rfl
        have hm8 : IntKind.i64.wrap (((i % 8 : Nat) : Int) * 8) = ((8 * (i % 8) : Nat) : Int) := by rw [wrap_i64_of _ (by omega) (by omega)]; omega
        have h1 : IntKind.i64.wrap ((s.l.length : Nat) - (1 : Int)) = ((s.l.length - 1 : Nat) : Int) := by rw [wrap_i64_of _ (by omega) (by omega)]; omega
        have h2 : IntKind.i64.wrap (((s.l.length - 1 : Nat) : Int) - (i : Int)) = ((s.l.length - 1 - i : Nat) : Int) := by rw [wrap_i64_of _ (by omega) (by omega)]; omega
        have h3 : s.l.length - 1 - i < s.l.length := by omega
        have hn0 : ¬ ((8 * (i % 8) : Nat) : Int) < 0 := by omega
        have hcv : IntKind.u64.wrap (((s.l[s.l.length - 1 - i]).toNat : Nat) : Int) = (((s.l[s.l.length - 1 - i]).toNat : Nat) : Int) := by
          have := (s.l[s.l.length - 1 - i]).toNat_lt
          exact wrap_u64_of _ (by omega) (by omega)
        have hcs : IntKind.u64.wrap ((8 * (i % 8) : Nat) : Int) = ((8 * (i % 8) : Nat) : Int) := wrap_u64_of _ (by omega) (by omega)
        have hw1 : IntKind.i64.wrap ((i : Int) + 1) = ((i + 1 : Nat) : Int) := by rw [wrap_i64_of _ (by omega) (by omega), ofNat_succ']
        have hsh := u64_shl s.l[s.l.length - 1 - i] (k := i % 8) (Nat.mod_lt _ (by decide))
        simp (implicitDefEqProofs := false) only [go_sem, Nat.reduceAdd, Nat.reduceSub, Nat.reduceMul, Nat.reduceLT, Nat.reduceLeDiff, Nat.reduceEqDiff, Nat.reduceBEq, Nat.reduceBNe, Nat.reducePow, Int.reduceBEq, Int.reduceBNe, Int.reduceEq, Int.reduceLT, Int.reduceLE, Int.reduceNeg, Int.reduceToNat, Int.reduceMul, Int.reduceAdd, Int.reduceSub, Int.reducePow, Int.reduceFDiv, reduceCtorEq, reduceIte, hlt, hl32, hq, h4', hr, hm8, h1, h2, h3, hcv, hcs, abin_shl hn0, hsh, encWord_get _ h4, encWord_set _ h4, hw1, h43]
        refine ⟨by kernel_rfl, by kernel_rfl, .inr ⟨rfl, by decide⟩, ?_⟩
        rw [← rd_succ hlt h4]
        refine ⟨i + 1, by omega, by omega, Keeps.easeL oren_words ?_⟩
        repeat (first | exact Keeps.nil | refine Keeps.junk _ ?_ | refine Keeps.keep (by first | exact .plain _ rfl | exact (Tree.slV tree_encU8 _).ren | exact .ptr _ _ _ (by simp) rfl) ?_)
      · simp (implicitDefEqProofs := false) only [go_sem, Nat.reduceAdd, Nat.reduceSub, Nat.reduceMul, Nat.reduceLT, Nat.reduceLeDiff, Nat.reduceEqDiff, Nat.reduceBEq, Nat.reduceBNe, Nat.reducePow, Int.reduceBEq, Int.reduceBNe, Int.reduceEq, Int.reduceLT, Int.reduceLE, Int.reduceNeg, Int.reduceToNat, Int.reduceMul, Int.reduceAdd, Int.reduceSub, Int.reducePow, Int.reduceFDiv, reduceCtorEq, reduceIte, hlt, hl32]
        have hie : i = min 32 s.l.length := by omega
        rw [hie]
        exact apost_cell rfl (encWord_plain _) ⟨rfl, rfl⟩ _ _ rfl (by simp (implicitDefEqProofs := false) only [go_sem, Nat.reduceAdd, Nat.reduceSub, Nat.reduceMul, Nat.reduceLT, Nat.reduceLeDiff, Nat.reduceEqDiff, Nat.reduceBEq, Nat.reduceBNe, Nat.reducePow, Int.reduceBEq, Int.reduceBNe, Int.reduceEq, Int.reduceLT, Int.reduceLE, Int.reduceNeg, Int.reduceToNat, Int.reduceMul, Int.reduceAdd, Int.reduceSub, Int.reducePow, Int.reduceFDiv, reduceCtorEq, reduceIte, length_encWord]; rfl)
    · have hl32 : ¬ ((i : Nat) : Int) < 32 := by omega
      simp (implicitDefEqProofs := false) only [go_sem, Nat.reduceAdd, Nat.reduceSub, Nat.reduceMul, Nat.reduceLT, Nat.reduceLeDiff, Nat.reduceEqDiff, Nat.reduceBEq, Nat.reduceBNe, Nat.reducePow, Int.reduceBEq, Int.reduceBNe, Int.reduceEq, Int.reduceLT, Int.reduceLE, Int.reduceNeg, Int.reduceToNat, Int.reduceMul, Int.reduceAdd, Int.reduceSub, Int.reducePow, Int.reduceFDiv, reduceCtorEq, reduceIte, hl32]
      have hie : i = min 32 s.l.length := by omega
      rw [hie]
      exact apost_cell rfl (encWord_plain _) ⟨rfl, rfl⟩ _ _ rfl (by simp (implicitDefEqProofs := false) only [go_sem, Nat.reduceAdd, Nat.reduceSub, Nat.reduceMul, Nat.reduceLT, Nat.reduceLeDiff, Nat.reduceEqDiff, Nat.reduceBEq, Nat.reduceBNe, Nat.reducePow, Int.reduceBEq, Int.reduceBNe, Int.reduceEq, Int.reduceLT, Int.reduceLE, Int.reduceNeg, Int.reduceToNat, Int.reduceMul, Int.reduceAdd, Int.reduceSub, Int.reducePow, Int.reduceFDiv, reduceCtorEq, reduceIte, length_encWord]; rfl)


theorem oren_a3 {L : Nat} {a : Word4} {l m : List UInt8} : ∀ o ∈ [AObj.cells (encWord a).toArray 0 true, AObj.cells (flatV encU8 l) 0 true, AObj.cells (flatV encU8 m) 0 true], ORen id L o o := by
  intro o ho
  simp only [List.mem_cons, List.not_mem_nil, or_false] at ho
  rcases ho with rfl | rfl | rfl
  · exact ORen.plainCells (tree_encWord _)
  · exact ORen.plainCells (l := l.flatMap encU8) tree_bufC
  · exact ORen.plainCells (l := m.flatMap encU8) tree_bufC
set_option maxRecDepth 10000 in
set_option maxHeartbeats 4000000 in
theorem raddr_calls (a : Word4) (r : List UInt8) (hr : r = (bytesW a).drop 12) (h : AH) :
    ACalls Tryd.prog 31 #[.agg (encWord a).toArray] h (fun v h' => v = .agg (flatV encU8 r) ∧ h' = h) := by
  have hr20 : r.length = 20 := by rw [hr, List.length_drop, length_bytesW]
  have hbl := length_bytesW a
  refine ACalls.of_ay Tryd.func31 rfl Tryd.ntmps31 ⟨_, _, rfl, rfl⟩ ?_; simp only [List.length_cons, List.length_nil, Nat.reduceAdd, Nat.reduceSub, List.replicate_succ, List.replicate_zero, List.cons_append, List.nil_append]
  simp (implicitDefEqProofs := false) only [go_sem, Nat.reduceAdd, Nat.reduceSub, Nat.reduceMul, Nat.reduceLT, Nat.reduceLeDiff, Nat.reduceEqDiff, Nat.reduceBEq, Nat.reduceBNe, Nat.reducePow, Int.reduceBEq, Int.reduceBNe, Int.reduceEq, Int.reduceLT, Int.reduceLE, Int.reduceNeg, Int.reduceToNat, Int.reduceMul, Int.reduceAdd, Int.reduceSub, Int.reducePow, Int.reduceFDiv, reduceCtorEq, reduceIte, length_encWord]
  refine astep_call (rbytes_calls a _) ?_
  simp (implicitDefEqProofs := false) only [go_sem, Nat.reduceAdd, Nat.reduceSub, Nat.reduceMul, Nat.reduceLT, Nat.reduceLeDiff, Nat.reduceEqDiff, Nat.reduceBEq, Nat.reduceBNe, Nat.reducePow, Int.reduceBEq, Int.reduceBNe, Int.reduceEq, Int.reduceLT, Int.reduceLE, Int.reduceNeg, Int.reduceToNat, Int.reduceMul, Int.reduceAdd, Int.reduceSub, Int.reducePow, Int.reduceFDiv, reduceCtorEq, reduceIte]
  rw [rep_u8, show List.replicate 20 (0 : UInt8) = tkI r 0 by rw [tkI_0, hr20]]
  refine AWP.loopI (fun i : Nat => 20 - i) (fun i => [junk, .pointer (some ⟨h.length, 0, none⟩), .pointer (some ⟨h.length + 1, 0, none⟩), .pointer (some ⟨h.length + 2, 0, none⟩), slV encU8 (Sl.app (bytesW a)), .int .i64 (i : Nat), junk, junk, junk, junk, junk, junk, junk, junk, junk, junk, junk, junk, junk, junk]) (fun i => h ++ [.cells (encWord a).toArray 0 true, .cells (flatV encU8 (tkI r 0)) 0 true, .cells (flatV encU8 (tkI r i)) 0 true]) (fun i => i ≤ 20) 0 (Nat.zero_le _) ?_ ?_
  · refine Keeps.easeL oren_a3 ?_
    repeat (first | exact Keeps.nil | refine Keeps.junk _ ?_ | refine Keeps.keep (by first | exact .plain _ rfl | exact (Tree.slV tree_encU8 _).ren | exact .ptr _ _ _ (by simp) rfl) ?_)
  · intro i hi
    by_cases hlt : i < 20
    · have hl : ((i : Nat) : Int) < 20 := by omega
      have hi19 : i ≤ 19 := by omega
      have hlr : i < r.length := by omega
      have h12 : 12 + i < 32 := by omega
      have h12i : ((12 + i : Nat) : Int) < 32 := by omega
      have hw1 : IntKind.i64.wrap ((i : Int) + 1) = ((i + 1 : Nat) : Int) := by rw [wrap_i64_of _ (by omega) (by omega), ofNat_succ']
      have hw2 : IntKind.i64.wrap (12 + (i : Int)) = ((12 + i : Nat) : Int) := by rw [wrap_i64_of _ (by omega) (by omega)]; omega
      have hg : ∀ hh, (bytesW a)[12 + i]'hh = r[i] := fun hh => by simp only [hr, List.getElem_drop]
      simp (implicitDefEqProofs := false) only [go_sem, Nat.reduceAdd, Nat.reduceSub, Nat.reduceMul, Nat.reduceLT, Nat.reduceLeDiff, Nat.reduceEqDiff, Nat.reduceBEq, Nat.reduceBNe, Nat.reducePow, Int.reduceBEq, Int.reduceBNe, Int.reduceEq, Int.reduceLT, Int.reduceLE, Int.reduceNeg, Int.reduceToNat, Int.reduceMul, Int.reduceAdd, Int.reduceSub, Int.reducePow, Int.reduceFDiv, reduceCtorEq, reduceIte, hl, hw1, hw2, hbl, h12, h12i, hg, size_u8, length_tkI (show i ≤ r.length by omega), hr20, set_u8, tkI_set hlr, hi19]
      refine ⟨i + 1, by omega, by omega, Keeps.easeL oren_a3 ?_⟩
      repeat (first | exact Keeps.nil | refine Keeps.junk _ ?_ | refine Keeps.keep (by first | exact .plain _ rfl | exact (Tree.slV tree_encU8 _).ren | exact .ptr _ _ _ (by simp) rfl) ?_)
    · have hl : ¬ ((i : Nat) : Int) < 20 := by omega
      have hie : i = 20 := by omega
      subst hie
      have h20 : tkI r 20 = r := by have := tkI_all r; rw [hr20] at this; exact this
      have hex : (flatV encU8 r).extract 0 20 = flatV encU8 r := by rw [← hr20, ← size_u8 r, Array.extract_size]
      have h0l : (tkI r 0).length = 20 := by rw [length_tkI (by omega), hr20]
      have hbw : blit (flatV encU8 (tkI r 0)) 0 (flatV encU8 r).toList = flatV encU8 r := by
        rw [blit_list (by rw [Array.length_toList, size_u8, size_u8, h0l, hr20])]
      rw [h20]
      simp (implicitDefEqProofs := false) only [go_sem, Nat.reduceAdd, Nat.reduceSub, Nat.reduceMul, Nat.reduceLT, Nat.reduceLeDiff, Nat.reduceEqDiff, Nat.reduceBEq, Nat.reduceBNe, Nat.reducePow, Int.reduceBEq, Int.reduceBNe, Int.reduceEq, Int.reduceLT, Int.reduceLE, Int.reduceNeg, Int.reduceToNat, Int.reduceMul, Int.reduceAdd, Int.reduceSub, Int.reducePow, Int.reduceFDiv, reduceCtorEq, reduceIte, hl, size_u8, hr20, hex, h0l, hbw]
      have hpl : plainB (.agg (flatV encU8 r)) = true := by
        show (flatV encU8 r).all plain1 = true
        rw [flat_u8]; simp [plain1]
      exact apost_cell rfl hpl ⟨rfl, rfl⟩ _ _ rfl (by simp (implicitDefEqProofs := false) only [go_sem, Nat.reduceAdd, Nat.reduceSub, Nat.reduceMul, Nat.reduceLT, Nat.reduceLeDiff, Nat.reduceEqDiff, Nat.reduceBEq, Nat.reduceBNe, Nat.reducePow, Int.reduceBEq, Int.reduceBNe, Int.reduceEq, Int.reduceLT, Int.reduceLE, Int.reduceNeg, Int.reduceToNat, Int.reduceMul, Int.reduceAdd, Int.reduceSub, Int.reducePow, Int.reduceFDiv, reduceCtorEq, reduceIte, size_u8, hr20, hex])

theorem addr_drop {l : List UInt8} (hl : l.length = 20) : l = (bytesW (rdW l)).drop 12 := by
  rw [bytesW_rdW (by omega), pad32, hl, List.drop_append_of_le_length (by simp)]
  simp
set_option maxRecDepth 10000 in
set_option maxHeartbeats 4000000 in
theorem raddress_calls (s : List UInt8) (hs : s.length < 2 ^ 29) (h : AH) :
    ACalls Tryd.prog 17 #[.string (bs s)] h (fun v h' => v = .tuple #[.agg (encAddr ((addrM s).getD zeroA)).toArray, .int .i64 (bif (addrM s).isSome then 0 else 60)] ∧ h' = h) := by
  refine ACalls.of_ay Tryd.func17 rfl Tryd.ntmps17 ⟨_, _, rfl, rfl⟩ ?_; simp only [List.length_cons, List.length_nil, Nat.reduceAdd, Nat.reduceSub, List.replicate_succ, List.replicate_zero, List.cons_append, List.nil_append]
  simp (implicitDefEqProofs := false) only [go_sem, Nat.reduceAdd, Nat.reduceSub, Nat.reduceMul, Nat.reduceLT, Nat.reduceLeDiff, Nat.reduceEqDiff, Nat.reduceBEq, Nat.reduceBNe, Nat.reducePow, Int.reduceBEq, Int.reduceBNe, Int.reduceEq, Int.reduceLT, Int.reduceLE, Int.reduceNeg, Int.reduceToNat, Int.reduceMul, Int.reduceAdd, Int.reduceSub, Int.reducePow, Int.reduceFDiv, reduceCtorEq, reduceIte]
  have hrc := fun H => rread6_calls s hs H
  cases hr : readM s with
  | none =>
    have hm : addrM s = none := by rw [addrM, hr]; rfl
    rw [hr] at hrc
    refine astep_call (hrc _) ?_
    simp (implicitDefEqProofs := false) only [go_sem, Nat.reduceAdd, Nat.reduceSub, Nat.reduceMul, Nat.reduceLT, Nat.reduceLeDiff, Nat.reduceEqDiff, Nat.reduceBEq, Nat.reduceBNe, Nat.reducePow, Int.reduceBEq, Int.reduceBNe, Int.reduceEq, Int.reduceLT, Int.reduceLE, Int.reduceNeg, Int.reduceToNat, Int.reduceMul, Int.reduceAdd, Int.reduceSub, Int.reducePow, Int.reduceFDiv, reduceCtorEq, reduceIte, hm, Option.getD_none, Option.getD_some, Option.isSome_none, Option.isSome_some]
    exact apost_cellT (.agg (encAddr zeroA).toArray) (.int .i64 60) rfl (tree_addr _) (.plain _ rfl) ⟨rfl, rfl⟩ _ _ rfl rfl (by rw [zeroA_enc]; simp (implicitDefEqProofs := false) only [go_sem, Nat.reduceAdd, Nat.reduceSub, Nat.reduceMul, Nat.reduceLT, Nat.reduceLeDiff, Nat.reduceEqDiff, Nat.reduceBEq, Nat.reduceBNe, Nat.reducePow, Int.reduceBEq, Int.reduceBNe, Int.reduceEq, Int.reduceLT, Int.reduceLE, Int.reduceNeg, Int.reduceToNat, Int.reduceMul, Int.reduceAdd, Int.reduceSub, Int.reducePow, Int.reduceFDiv, reduceCtorEq, reduceIte]; rfl)
  | some l =>
    rw [hr] at hrc
    by_cases hl : l.length = 20
    · have hm : addrM s = some ⟨l.toArray, by simpa using hl⟩ := by rw [addrM, hr, Option.bind_some, dif_pos hl]
      have hl' : ((l.length : Nat) : Int) = 20 := by omega
      have hea : (encAddr ⟨l.toArray, by simpa using hl⟩).toArray = flatV encU8 l := by rw [encAddr_flat]; simp
      have hex : (flatV encU8 l).extract 0 20 = flatV encU8 l := by rw [← hl, ← size_u8 l, Array.extract_size]
      refine astep_call (hrc _) ?_
      simp (implicitDefEqProofs := false) only [go_sem, Nat.reduceAdd, Nat.reduceSub, Nat.reduceMul, Nat.reduceLT, Nat.reduceLeDiff, Nat.reduceEqDiff, Nat.reduceBEq, Nat.reduceBNe, Nat.reducePow, Int.reduceBEq, Int.reduceBNe, Int.reduceEq, Int.reduceLT, Int.reduceLE, Int.reduceNeg, Int.reduceToNat, Int.reduceMul, Int.reduceAdd, Int.reduceSub, Int.reducePow, Int.reduceFDiv, reduceCtorEq, reduceIte, hl, hl', Option.getD_none, Option.getD_some, Option.isSome_none, Option.isSome_some]
      refine astep_call (rread_calls (Sl.app l) (by rw [app_l]; omega) _) ?_
      simp (implicitDefEqProofs := false) only [go_sem, Nat.reduceAdd, Nat.reduceSub, Nat.reduceMul, Nat.reduceLT, Nat.reduceLeDiff, Nat.reduceEqDiff, Nat.reduceBEq, Nat.reduceBNe, Nat.reducePow, Int.reduceBEq, Int.reduceBNe, Int.reduceEq, Int.reduceLT, Int.reduceLE, Int.reduceNeg, Int.reduceToNat, Int.reduceMul, Int.reduceAdd, Int.reduceSub, Int.reducePow, Int.reduceFDiv, reduceCtorEq, reduceIte]
      refine astep_call (raddr_calls (rdW l) l (addr_drop hl) _) ?_
      simp (implicitDefEqProofs := false) only [go_sem, Nat.reduceAdd, Nat.reduceSub, Nat.reduceMul, Nat.reduceLT, Nat.reduceLeDiff, Nat.reduceEqDiff, Nat.reduceBEq, Nat.reduceBNe, Nat.reducePow, Int.reduceBEq, Int.reduceBNe, Int.reduceEq, Int.reduceLT, Int.reduceLE, Int.reduceNeg, Int.reduceToNat, Int.reduceMul, Int.reduceAdd, Int.reduceSub, Int.reducePow, Int.reduceFDiv, reduceCtorEq, reduceIte, hm, hl, hl', hex, size_u8, Option.getD_none, Option.getD_some, Option.isSome_none, Option.isSome_some]
      exact apost_cellT (.agg (encAddr ⟨l.toArray, by simpa using hl⟩).toArray) (.int .i64 0) rfl (tree_addr _) (.plain _ rfl) ⟨rfl, rfl⟩ _ _ rfl rfl (by rw [hea]; simp (implicitDefEqProofs := false) only [go_sem, Nat.reduceAdd, Nat.reduceSub, Nat.reduceMul, Nat.reduceLT, Nat.reduceLeDiff, Nat.reduceEqDiff, Nat.reduceBEq, Nat.reduceBNe, Nat.reducePow, Int.reduceBEq, Int.reduceBNe, Int.reduceEq, Int.reduceLT, Int.reduceLE, Int.reduceNeg, Int.reduceToNat, Int.reduceMul, Int.reduceAdd, Int.reduceSub, Int.reducePow, Int.reduceFDiv, reduceCtorEq, reduceIte, hex, size_u8, hl])
    · have hm : addrM s = none := by rw [addrM, hr, Option.bind_some, dif_neg hl]
      have hl' : (((l.length : Nat) : Int) != 20) = true := by rw [bne_iff_ne]; omega
      refine astep_call (hrc _) ?_
      simp (implicitDefEqProofs := false) only [go_sem, Nat.reduceAdd, Nat.reduceSub, Nat.reduceMul, Nat.reduceLT, Nat.reduceLeDiff, Nat.reduceEqDiff, Nat.reduceBEq, Nat.reduceBNe, Nat.reducePow, Int.reduceBEq, Int.reduceBNe, Int.reduceEq, Int.reduceLT, Int.reduceLE, Int.reduceNeg, Int.reduceToNat, Int.reduceMul, Int.reduceAdd, Int.reduceSub, Int.reducePow, Int.reduceFDiv, reduceCtorEq, reduceIte, hm, hl', Option.getD_none, Option.getD_some, Option.isSome_none, Option.isSome_some]
      exact apost_cellT (.agg (encAddr zeroA).toArray) (.int .i64 60) rfl (tree_addr _) (.plain _ rfl) ⟨rfl, rfl⟩ _ _ rfl rfl (by rw [zeroA_enc]; simp (implicitDefEqProofs := false) only [go_sem, Nat.reduceAdd, Nat.reduceSub, Nat.reduceMul, Nat.reduceLT, Nat.reduceLeDiff, Nat.reduceEqDiff, Nat.reduceBEq, Nat.reduceBNe, Nat.reducePow, Int.reduceBEq, Int.reduceBNe, Int.reduceEq, Int.reduceLT, Int.reduceLE, Int.reduceNeg, Int.reduceToNat, Int.reduceMul, Int.reduceAdd, Int.reduceSub, Int.reducePow, Int.reduceFDiv, reduceCtorEq, reduceIte]; rfl)
end Go.Proofs
