import Derived.Test.YtihdilnanhjedaaWord1
set_option linter.unusedSimpArgs false
set_option linter.unusedVariables false
/- words, read by the document; addresses as words -/
namespace Go.Proofs
open Go Go.Am

set_option maxRecDepth 10000 in
set_option maxHeartbeats 4000000 in
theorem rread_calls (s : Sl UInt8) (hs : s.l.length < 2 ^ 63) (h : AH) :
    ACalls Try.prog 77 #[slV encU8 s] h (fun v h' => v = .agg (encWord (rdW s.l)).toArray ∧ h' = h) := by
  refine ACalls.of_ay Try.func77 rfl Try.ntmps77 ⟨_, _, rfl, rfl⟩ ?_; simp only [List.length_cons, List.length_nil, Nat.reduceAdd, Nat.reduceSub, List.replicate_succ, List.replicate_zero, List.cons_append, List.nil_append]
  simp (implicitDefEqProofs := false) (maxSteps := 2000000) only [go_sem, Nat.reduceAdd, Nat.reduceSub, Nat.reduceMul, Nat.reduceLT, Nat.reduceLeDiff, Nat.reduceEqDiff, Nat.reduceBEq, Nat.reduceBNe, Nat.reducePow, Int.reduceBEq, Int.reduceBNe, Int.reduceEq, Int.reduceLT, Int.reduceLE, Int.reduceNeg, Int.reduceToNat, Int.reduceMul, Int.reduceAdd, Int.reduceSub, Int.reducePow, Int.reduceFDiv, reduceCtorEq, reduceIte]
  rw [zeroW_enc]
  refine AWP.loopI (fun i : Nat => s.l.length - i) (fun i => [slV encU8 s, junk, .pointer (some ⟨h.length, 0, none⟩), .pointer (some ⟨h.length + 1, 0, none⟩), .int .i64 (s.l.length : Nat), .int .i64 (i : Nat), junk, junk, junk, junk, junk, junk, junk, junk, junk, junk, junk, junk, junk, junk, junk, junk, junk, junk, junk, junk, junk, junk, junk, junk, junk, junk, junk, junk, junk, junk, junk, junk, junk]) (fun i => h ++ [.cells (encWord zeroW).toArray 0 true, .cells (encWord (rd s.l i)).toArray 0 true]) (fun i => i ≤ min 32 s.l.length) 0 (Nat.zero_le _) ?_ ?_
  · refine Keeps.easeL oren_words ?_
    repeat (first | exact Keeps.nil | refine Keeps.junk _ ?_ | refine Keeps.keep (by first | exact .plain _ rfl | exact (Tree.slV tree_encU8 _).ren | exact .ptr _ _ _ (by simp) rfl) ?_)
  · intro i hi
    by_cases hlt32 : i < 32
    · have hl32 : ((i : Nat) : Int) < 32 := by omega
      by_cases hlt : i < s.l.length
      · have h4 : i / 8 < 4 := by omega
        have h43 : i / 8 ≤ 3 := by omega
        have h4' : ((i / 8 : Nat) : Int) < 4 := by omega
        have hq : IntKind.i64.wrap ((i : Int).tdiv 8) = ((i / 8 : Nat) : Int) := by rw [show (i : Int).tdiv 8 = ((i / 8 : Nat) : Int) from rfl]; exact wrap_i64_of _ (by omega) (by omega)
        have hr : (i : Int).tmod 8 = ((i % 8 : Nat) : Int) := rfl
        have hm8 : IntKind.i64.wrap (((i % 8 : Nat) : Int) * 8) = ((8 * (i % 8) : Nat) : Int) := by rw [wrap_i64_of _ (by omega) (by omega)]; omega
        have h1 : IntKind.i64.wrap ((s.l.length : Nat) - (1 : Int)) = ((s.l.length - 1 : Nat) : Int) := by rw [wrap_i64_of _ (by omega) (by omega)]; omega
        have h2 : IntKind.i64.wrap (((s.l.length - 1 : Nat) : Int) - (i : Int)) = ((s.l.length - 1 - i : Nat) : Int) := by rw [wrap_i64_of _ (by omega) (by omega)]; omega
        have h3 : s.l.length - 1 - i < s.l.length := by omega
        have hn0 : ¬ ((8 * (i % 8) : Nat) : Int) < 0 := by omega
        have hcv : IntKind.u64.wrap (((s.l[s.l.length - 1 - i]).toNat : Nat) : Int) = (((s.l[s.l.length - 1 - i]).toNat : Nat) : Int) := by
          have := (s.l[s.l.length - 1 - i]).toNat_lt
          exact wrap_u64_of _ (by omega) (by omega)
        have hcs : IntKind.u64.wrap ((8 * (i % 8) : Nat) : Int) = ((8 * (i % 8) : Nat) : Int) := wrap_u64_of _ (by omega) (by omega)
        have hw1 : IntKind.i64.wrap ((i : Int) + 1) = ((i + 1 : Nat) : Int) := by rw [wrap_i64_of _ (by omega) (by omega), ofNat_succ']
        have hsh := u64_shl s.l[s.l.length - 1 - i] (k := i % 8) (Nat.mod_lt _ (by decide))
        simp (implicitDefEqProofs := false) (maxSteps := 2000000) only [go_sem, Nat.reduceAdd, Nat.reduceSub, Nat.reduceMul, Nat.reduceLT, Nat.reduceLeDiff, Nat.reduceEqDiff, Nat.reduceBEq, Nat.reduceBNe, Nat.reducePow, Int.reduceBEq, Int.reduceBNe, Int.reduceEq, Int.reduceLT, Int.reduceLE, Int.reduceNeg, Int.reduceToNat, Int.reduceMul, Int.reduceAdd, Int.reduceSub, Int.reducePow, Int.reduceFDiv, reduceCtorEq, reduceIte, hlt, hl32, hq, h4', hr, hm8, h1, h2, h3, hcv, hcs, abin_shl hn0, hsh, encWord_get _ h4, encWord_set _ h4, hw1, h43]
        refine ⟨by kernel_rfl, by kernel_rfl, .inr ⟨rfl, by decide⟩, ?_⟩
        rw [← rd_succ hlt h4]
        refine ⟨i + 1, by omega, by omega, Keeps.easeL oren_words ?_⟩
        repeat (first | exact Keeps.nil | refine Keeps.junk _ ?_ | refine Keeps.keep (by first | exact .plain _ rfl | exact (Tree.slV tree_encU8 _).ren | exact .ptr _ _ _ (by simp) rfl) ?_)
      · simp (implicitDefEqProofs := false) (maxSteps := 2000000) only [go_sem, Nat.reduceAdd, Nat.reduceSub, Nat.reduceMul, Nat.reduceLT, Nat.reduceLeDiff, Nat.reduceEqDiff, Nat.reduceBEq, Nat.reduceBNe, Nat.reducePow, Int.reduceBEq, Int.reduceBNe, Int.reduceEq, Int.reduceLT, Int.reduceLE, Int.reduceNeg, Int.reduceToNat, Int.reduceMul, Int.reduceAdd, Int.reduceSub, Int.reducePow, Int.reduceFDiv, reduceCtorEq, reduceIte, hlt, hl32]
        have hie : i = min 32 s.l.length := by omega
        rw [hie]
        exact apost_cell rfl (encWord_plain _) ⟨rfl, rfl⟩ _ _ rfl (by simp (implicitDefEqProofs := false) (maxSteps := 2000000) only [go_sem, Nat.reduceAdd, Nat.reduceSub, Nat.reduceMul, Nat.reduceLT, Nat.reduceLeDiff, Nat.reduceEqDiff, Nat.reduceBEq, Nat.reduceBNe, Nat.reducePow, Int.reduceBEq, Int.reduceBNe, Int.reduceEq, Int.reduceLT, Int.reduceLE, Int.reduceNeg, Int.reduceToNat, Int.reduceMul, Int.reduceAdd, Int.reduceSub, Int.reducePow, Int.reduceFDiv, reduceCtorEq, reduceIte, length_encWord]; rfl)
    · have hl32 : ¬ ((i : Nat) : Int) < 32 := by omega
      simp (implicitDefEqProofs := false) (maxSteps := 2000000) only [go_sem, Nat.reduceAdd, Nat.reduceSub, Nat.reduceMul, Nat.reduceLT, Nat.reduceLeDiff, Nat.reduceEqDiff, Nat.reduceBEq, Nat.reduceBNe, Nat.reducePow, Int.reduceBEq, Int.reduceBNe, Int.reduceEq, Int.reduceLT, Int.reduceLE, Int.reduceNeg, Int.reduceToNat, Int.reduceMul, Int.reduceAdd, Int.reduceSub, Int.reducePow, Int.reduceFDiv, reduceCtorEq, reduceIte, hl32]
      have hie : i = min 32 s.l.length := by omega
      rw [hie]
      exact apost_cell rfl (encWord_plain _) ⟨rfl, rfl⟩ _ _ rfl (by simp (implicitDefEqProofs := false) (maxSteps := 2000000) only [go_sem, Nat.reduceAdd, Nat.reduceSub, Nat.reduceMul, Nat.reduceLT, Nat.reduceLeDiff, Nat.reduceEqDiff, Nat.reduceBEq, Nat.reduceBNe, Nat.reducePow, Int.reduceBEq, Int.reduceBNe, Int.reduceEq, Int.reduceLT, Int.reduceLE, Int.reduceNeg, Int.reduceToNat, Int.reduceMul, Int.reduceAdd, Int.reduceSub, Int.reducePow, Int.reduceFDiv, reduceCtorEq, reduceIte, length_encWord]; rfl)

/-- an address as a word -/
def wideW (a : Addr20) : Word4 := rdW a.toList
theorem wreadB_calls (l : List UInt8) {n : Nat} (hn : l.length = n) (hs : l.length < 2 ^ 63) (h : AH) (b es0 : Nat) (hb : h[b]? = some (.cells (flatV encU8 l) es0 true)) :
    ACalls Try.prog 50 #[.slice (some ⟨b, 0, none⟩) n n] h (fun v h' => v = .agg (encWord (rdW l)).toArray ∧ h' = h.set b .dead) := by
  subst hn
  refine ACalls.freeze (args1 := #[slV encU8 (Sl.full l)]) HFz.set rfl (fun i => ?_) (wread_calls (Sl.full l) hs (h.set b .dead))
  cases i with
  | zero => exact Rf.full hb (List.getElem?_set_self (List.getElem?_eq_some_iff.1 hb).1) (Nat.le_refl _)
  | succ i => simp; exact .same _
theorem rreadO_calls (l : List UInt8) (hs : l.length < 2 ^ 63) (h : AH) (b : Nat) (hb : h[b]? = some (outO encU8 1 l)) :
    ACalls Try.prog 77 #[outV b l] h (fun v h' => v = .agg (encWord (rdW l)).toArray ∧ h' = h.set b .dead) := by
  refine ACalls.freeze (args1 := #[slV encU8 (Sl.app l)]) HFz.set rfl (fun i => ?_) (rread_calls (Sl.app l) hs (h.set b .dead))
  cases i with
  | zero => exact Rf.outV hb (List.getElem?_set_self (List.getElem?_eq_some_iff.1 hb).1) length_encU8
  | succ i => simp; exact .same _

set_option maxRecDepth 10000 in
set_option maxHeartbeats 4000000 in
theorem wide_calls (a : Addr20) (h : AH) :
    ACalls Try.prog 29 #[.agg (encAddr a).toArray] h (fun v h' => v = .agg (encWord (wideW a)).toArray ∧ h' = h) := by
  refine ACalls.of_ay Try.func29 rfl Try.ntmps29 ⟨_, _, rfl, rfl⟩ ?_; simp only [List.length_cons, List.length_nil, Nat.reduceAdd, Nat.reduceSub, List.replicate_succ, List.replicate_zero, List.cons_append, List.nil_append]
  have hl : a.toList.length = 20 := by simp
  simp (implicitDefEqProofs := false) (maxSteps := 2000000) only [go_sem, Nat.reduceAdd, Nat.reduceSub, Nat.reduceMul, Nat.reduceLT, Nat.reduceLeDiff, Nat.reduceEqDiff, Nat.reduceBEq, Nat.reduceBNe, Nat.reducePow, Int.reduceBEq, Int.reduceBNe, Int.reduceEq, Int.reduceLT, Int.reduceLE, Int.reduceNeg, Int.reduceToNat, Int.reduceMul, Int.reduceAdd, Int.reduceSub, Int.reducePow, Int.reduceFDiv, reduceCtorEq, reduceIte]
  simp only [encAddr_flat]
  refine astep_call (wreadB_calls a.toList hl (by omega) _ h.length 0 (at_new0 _ _)) ?_
  simp (implicitDefEqProofs := false) (maxSteps := 2000000) only [go_sem, Nat.reduceAdd, Nat.reduceSub, Nat.reduceMul, Nat.reduceLT, Nat.reduceLeDiff, Nat.reduceEqDiff, Nat.reduceBEq, Nat.reduceBNe, Nat.reducePow, Int.reduceBEq, Int.reduceBNe, Int.reduceEq, Int.reduceLT, Int.reduceLE, Int.reduceNeg, Int.reduceToNat, Int.reduceMul, Int.reduceAdd, Int.reduceSub, Int.reducePow, Int.reduceFDiv, reduceCtorEq, reduceIte, set_new0]
  exact apost_cell rfl (encWord_plain _) ⟨rfl, rfl⟩ _ _ rfl (by simp (implicitDefEqProofs := false) (maxSteps := 2000000) only [go_sem, Nat.reduceAdd, Nat.reduceSub, Nat.reduceMul, Nat.reduceLT, Nat.reduceLeDiff, Nat.reduceEqDiff, Nat.reduceBEq, Nat.reduceBNe, Nat.reducePow, Int.reduceBEq, Int.reduceBNe, Int.reduceEq, Int.reduceLT, Int.reduceLE, Int.reduceNeg, Int.reduceToNat, Int.reduceMul, Int.reduceAdd, Int.reduceSub, Int.reducePow, Int.reduceFDiv, reduceCtorEq, reduceIte, length_encWord]; rfl)

set_option maxRecDepth 10000 in
set_option maxHeartbeats 4000000 in
theorem rwide_calls (a : Addr20) (h : AH) :
    ACalls Try.prog 64 #[.agg (encAddr a).toArray] h (fun v h' => v = .agg (encWord (wideW a)).toArray ∧ h' = h) := by
  refine ACalls.of_ay Try.func64 rfl Try.ntmps64 ⟨_, _, rfl, rfl⟩ ?_; simp only [List.length_cons, List.length_nil, Nat.reduceAdd, Nat.reduceSub, List.replicate_succ, List.replicate_zero, List.cons_append, List.nil_append]
  have hl : a.toList.length = 20 := by simp
  simp (implicitDefEqProofs := false) (maxSteps := 2000000) only [go_sem, Nat.reduceAdd, Nat.reduceSub, Nat.reduceMul, Nat.reduceLT, Nat.reduceLeDiff, Nat.reduceEqDiff, Nat.reduceBEq, Nat.reduceBNe, Nat.reducePow, Int.reduceBEq, Int.reduceBNe, Int.reduceEq, Int.reduceLT, Int.reduceLE, Int.reduceNeg, Int.reduceToNat, Int.reduceMul, Int.reduceAdd, Int.reduceSub, Int.reducePow, Int.reduceFDiv, reduceCtorEq, reduceIte]
  rw [zeroW_enc]
  refine AWP.loopI (fun i : Nat => 20 - i) (fun i => [junk, .pointer (some ⟨h.length, 0, none⟩), .pointer (some ⟨h.length + 1, 0, none⟩), outV (h.length + 2) (a.toList.take i), .int .i64 (i : Nat), junk, junk, junk, junk, junk, junk, junk, junk, junk, junk, junk, junk]) (fun i => h ++ [.cells (encAddr a).toArray 0 true, .cells (encWord zeroW).toArray 0 true, outO encU8 1 (a.toList.take i)]) (fun i => i ≤ 20) 0 (Nat.zero_le _) ?_ ?_
  · have := (Keeps.easeL (P := Try.prog) (h0 := h) (t := [.cells (encAddr a).toArray 0 true, .cells (encWord zeroW).toArray 0 true])
      (l := [.agg (encAddr a).toArray, .pointer (some ⟨h.length, 0, none⟩), .pointer (some ⟨h.length + 1, 0, none⟩), .slice none 0 0, .int .i64 0, undef, undef, undef, undef, undef, undef, undef, undef, undef, undef, undef, undef])
      (l1 := [junk, .pointer (some ⟨h.length, 0, none⟩), .pointer (some ⟨h.length + 1, 0, none⟩), .slice none 0 0, .int .i64 0, junk, junk, junk, junk, junk, junk, junk, junk, junk, junk, junk, junk])
      (by intro o ho; rcases List.mem_cons.1 ho with rfl | ho; exact ORen.plainCells (tree_encAddr _); rw [List.mem_singleton] at ho; subst ho; exact ORen.plainCells (tree_encWord _)) (by repeat (first | exact Keeps.nil | refine Keeps.junk _ ?_ | refine Keeps.keep (by first | exact .plain _ rfl | exact .ptr _ _ _ (by simp) rfl) ?_))).trans Eases.ghost
    simp only [List.append_assoc, List.cons_append, List.nil_append] at this
    exact this
  · intro i hi
    by_cases hlt : i < 20
    · have hl20 : ((i : Nat) : Int) < 20 := by omega
      have hi19 : i ≤ 19 := by omega
      have hw1 : IntKind.i64.wrap ((i : Int) + 1) = ((i + 1 : Nat) : Int) := by rw [wrap_i64_of _ (by omega) (by omega), ofNat_succ']
      have hlen : (a.toList.take i).length ≤ 20 := by simp; omega
      simp (implicitDefEqProofs := false) (maxSteps := 2000000) only [go_sem, Nat.reduceAdd, Nat.reduceSub, Nat.reduceMul, Nat.reduceLT, Nat.reduceLeDiff, Nat.reduceEqDiff, Nat.reduceBEq, Nat.reduceBNe, Nat.reducePow, Int.reduceBEq, Int.reduceBNe, Int.reduceEq, Int.reduceLT, Int.reduceLE, Int.reduceNeg, Int.reduceToNat, Int.reduceMul, Int.reduceAdd, Int.reduceSub, Int.reducePow, Int.reduceFDiv, reduceCtorEq, reduceIte, hl20, hlt, hw1, encAddr_get _ hlt, set_new, at_new, mkApp_outK (enc := encU8) (m := 1) (n := 1) (by_ := 1) (l := a.toList.take i) (k := 2) length_encU8 (Nat.zero_lt_one) ⟨by omega, by omega⟩]
      have htk : a.toList.take (i + 1) = a.toList.take i ++ [a[i]] := by rw [List.take_add_one, List.getElem?_eq_getElem (by simpa using hlt)]; simp
      refine ⟨i + 1, by omega, by omega, ?_⟩
      rw [htk]
      refine pick3 4 (by decide) ⟨rfl, fun σ L => ORen.plainCells (tree_encAddr _)⟩ ⟨rfl, fun σ L => ORen.plainCells (tree_encWord _)⟩ ⟨_, rfl, outO_renS tree_encU8⟩ ?_
      repeat (first | exact KeepsS.nil | refine KeepsS.junk _ ?_ | refine KeepsS.keep (by first | exact .plain _ rfl | exact ptr_pick (k := 0) (by omega) rfl | exact ptr_pick (k := 1) (by omega) rfl | exact outV_pick (by omega) rfl) ?_)
    · have hl20 : ¬ ((i : Nat) : Int) < 20 := by omega
      simp (implicitDefEqProofs := false) (maxSteps := 2000000) only [go_sem, Nat.reduceAdd, Nat.reduceSub, Nat.reduceMul, Nat.reduceLT, Nat.reduceLeDiff, Nat.reduceEqDiff, Nat.reduceBEq, Nat.reduceBNe, Nat.reducePow, Int.reduceBEq, Int.reduceBNe, Int.reduceEq, Int.reduceLT, Int.reduceLE, Int.reduceNeg, Int.reduceToNat, Int.reduceMul, Int.reduceAdd, Int.reduceSub, Int.reducePow, Int.reduceFDiv, reduceCtorEq, reduceIte, hl20]
      have hie : i = 20 := by omega
      subst hie
      rw [show a.toList.take 20 = a.toList from List.take_of_length_le (by simp)]
      refine astep_call (rreadO_calls a.toList (by omega) _ (h.length + 2) ?_) ?_
      · exact at_new _ _ _
      simp (implicitDefEqProofs := false) (maxSteps := 2000000) only [go_sem, Nat.reduceAdd, Nat.reduceSub, Nat.reduceMul, Nat.reduceLT, Nat.reduceLeDiff, Nat.reduceEqDiff, Nat.reduceBEq, Nat.reduceBNe, Nat.reducePow, Int.reduceBEq, Int.reduceBNe, Int.reduceEq, Int.reduceLT, Int.reduceLE, Int.reduceNeg, Int.reduceToNat, Int.reduceMul, Int.reduceAdd, Int.reduceSub, Int.reducePow, Int.reduceFDiv, reduceCtorEq, reduceIte, set_new]
      exact apost_cell rfl (encWord_plain _) ⟨rfl, rfl⟩ _ _ rfl (by simp (implicitDefEqProofs := false) (maxSteps := 2000000) only [go_sem, Nat.reduceAdd, Nat.reduceSub, Nat.reduceMul, Nat.reduceLT, Nat.reduceLeDiff, Nat.reduceEqDiff, Nat.reduceBEq, Nat.reduceBNe, Nat.reducePow, Int.reduceBEq, Int.reduceBNe, Int.reduceEq, Int.reduceLT, Int.reduceLE, Int.reduceNeg, Int.reduceToNat, Int.reduceMul, Int.reduceAdd, Int.reduceSub, Int.reducePow, Int.reduceFDiv, reduceCtorEq, reduceIte, length_encWord]; rfl)
end Go.Proofs
