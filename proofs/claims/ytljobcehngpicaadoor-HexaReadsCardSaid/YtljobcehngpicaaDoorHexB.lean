import Derived.Test.YtljobcehngpicaaDoorWord1
import Derived.Test.YtljobcehngpicaaDoorAm46x
set_option linter.unusedSimpArgs false
set_option linter.unusedVariables false
/- words as bytes -/
namespace Go.Proofs
open Go Go.Am

theorem oren_wb {σ : Nat → Nat} {L es : Nat} {a : Word4} {l : List UInt8} : ∀ o ∈ [AObj.cells (encWord a).toArray 0 true, AObj.cells (flatV encU8 l) es true], ORen σ L o o := by
  intro o ho
  rcases List.mem_cons.1 ho with rfl | ho
  · exact ORen.plainCells (tree_encWord _)
  · rw [List.mem_singleton] at ho; subst ho
    exact ORen.plainCells (l := l.flatMap encU8) (fun v hv => by obtain ⟨x, _, hx⟩ := List.mem_flatMap.1 hv; exact tree_encU8 _ _ hx)

set_option maxRecDepth 10000 in
set_option maxHeartbeats 4000000 in
theorem wbytes_calls (a : Word4) (h : AH) :
    ACalls Tryd.prog 23 #[.agg (encWord a).toArray] h (fun v h' => v = slV encU8 (Sl.full (bytesW a)) ∧ h' = h) := by
  refine ACalls.of_ay Tryd.func23 rfl Tryd.ntmps23 ⟨_, _, rfl, rfl⟩ ?_; simp only [List.length_cons, List.length_nil, Nat.reduceAdd, Nat.reduceSub, List.replicate_succ, List.replicate_zero, List.cons_append, List.nil_append]
  simp (implicitDefEqProofs := false) only [go_sem, Nat.reduceAdd, Nat.reduceSub, Nat.reduceMul, Nat.reduceLT, Nat.reduceLeDiff, Nat.reduceEqDiff, Nat.reduceBEq, Nat.reduceBNe, Nat.reducePow, Int.reduceBEq, Int.reduceBNe, Int.reduceEq, Int.reduceLT, Int.reduceLE, Int.reduceNeg, Int.reduceToNat, Int.reduceMul, Int.reduceAdd, Int.reduceSub, Int.reducePow, Int.reduceFDiv, reduceCtorEq, reduceIte]
  rw [zeros_u8 a]
  refine AWP.loopI (fun i : Nat => 32 - i) (fun i => [junk, .pointer (some ⟨h.length, 0, none⟩), junk, .slice (some ⟨h.length + 1, 0, none⟩) 32 32, junk, junk, .int .i64 (i : Nat), junk, junk, junk, junk, junk, junk, junk, junk, junk, junk, junk, junk, junk, junk, junk, junk, junk])
    (fun i => h ++ [.cells (encWord a).toArray 0 true, .cells (flatV encU8 (blW a i)) 1 true]) (fun i => i ≤ 32) 0 (Nat.zero_le _) ?_ ?_
  · refine Keeps.easeL oren_wb ?_
    repeat (first | exact Keeps.nil | refine Keeps.junk _ ?_ | refine Keeps.keep (by first | exact .plain _ rfl | exact .ptr _ _ _ (by simp) rfl | exact .slice _ _ _ _ _ (by simp) rfl) ?_)
  · intro i hi
    by_cases hlt : i < 32
    · have hl32 : ((i : Nat) : Int) < 32 := by omega
      have h4 : i / 8 < 4 := by omega
      have h43 : i / 8 ≤ 3 := by omega
      have h4' : ((i / 8 : Nat) : Int) < 4 := by omega
      have hq : IntKind.i64.wrap ((i : Int).tdiv 8) = ((i / 8 : Nat) : Int) := by rw [show (i : Int).tdiv 8 = ((i / 8 : Nat) : Int) from rfl]; exact wrap_i64_of _ (by omega) (by omega)
      have hr : (i : Int).tmod 8 = ((i % 8 : Nat) : Int) := rfl
      have hm8 : IntKind.i64.wrap (((i % 8 : Nat) : Int) * 8) = ((8 * (i % 8) : Nat) : Int) := by rw [wrap_i64_of _ (by omega) (by omega)]; omega
      have h31 : IntKind.i64.wrap ((31 : Int) - (i : Int)) = ((31 - i : Nat) : Int) := by rw [wrap_i64_of _ (by omega) (by omega)]; omega
      have hi31 : ((31 - i : Nat) : Int) < 32 := by omega
      have hi31' : 31 - i ≤ 31 := by omega
      have hn0 : ¬ ((8 * (i % 8) : Nat) : Int) < 0 := by omega
      have hw1 : IntKind.i64.wrap ((i : Int) + 1) = ((i + 1 : Nat) : Int) := by rw [wrap_i64_of _ (by omega) (by omega), ofNat_succ']
      have hsh := u8_shr a hlt h4
      simp (implicitDefEqProofs := false) only [go_sem, Nat.reduceAdd, Nat.reduceSub, Nat.reduceMul, Nat.reduceLT, Nat.reduceLeDiff, Nat.reduceEqDiff, Nat.reduceBEq, Nat.reduceBNe, Nat.reducePow, Int.reduceBEq, Int.reduceBNe, Int.reduceEq, Int.reduceLT, Int.reduceLE, Int.reduceNeg, Int.reduceToNat, Int.reduceMul, Int.reduceAdd, Int.reduceSub, Int.reducePow, Int.reduceFDiv, reduceCtorEq, reduceIte, hl32, hq, h4', hr, hm8, h31, hi31, hi31', abin_shr hn0, hsh, encWord_get _ h4, hw1, h43, size_u8, length_blW, set_u8, blW_set a hlt]
      refine ⟨i + 1, by omega, by omega, Keeps.easeL oren_wb ?_⟩
      repeat (first | exact Keeps.nil | refine Keeps.junk _ ?_ | refine Keeps.keep (by first | exact .plain _ rfl | exact .ptr _ _ _ (by simp) rfl | exact .slice _ _ _ _ _ (by simp) rfl) ?_)
    · have hl32 : ¬ ((i : Nat) : Int) < 32 := by omega
      simp (implicitDefEqProofs := false) only [go_sem, Nat.reduceAdd, Nat.reduceSub, Nat.reduceMul, Nat.reduceLT, Nat.reduceLeDiff, Nat.reduceEqDiff, Nat.reduceBEq, Nat.reduceBNe, Nat.reducePow, Int.reduceBEq, Int.reduceBNe, Int.reduceEq, Int.reduceLT, Int.reduceLE, Int.reduceNeg, Int.reduceToNat, Int.reduceMul, Int.reduceAdd, Int.reduceSub, Int.reducePow, Int.reduceFDiv, reduceCtorEq, reduceIte, hl32]
      have hie : i = 32 := by omega
      subst hie
      rw [blW_32]
      have hb : (h ++ [AObj.cells (encWord a).toArray 0 true, .cells (flatV encU8 (bytesW a)) 1 true])[h.length + 1]? = some (.cells (flatV encU8 (bytesW a)) 1 true) := at_new _ _ _
      have hrf := Rf.full (cap := 32) hb (dieNew_dead (h0 := h) (h := h ++ [AObj.cells (encWord a).toArray 0 true, .cells (flatV encU8 (bytesW a)) 1 true]) (b := h.length + 1) (Nat.le_add_right _ _) (by simp)) (by rw [length_bytesW]; exact Nat.le_refl _)
      rw [length_bytesW] at hrf
      exact apost_tree (by rw [aresults_tmp rfl, getD_lit]; rfl) (keeps_append _ _) hrf (.slV tree_encU8 _) ⟨rfl, rfl⟩

set_option maxRecDepth 10000 in
set_option maxHeartbeats 4000000 in
theorem rbytes_calls (a : Word4) (h : AH) :
    ACalls Tryd.prog 24 #[.agg (encWord a).toArray] h (fun v h' => v = slV encU8 (Sl.app (bytesW a)) ∧ h' = h) := by
  refine ACalls.of_ay Tryd.func24 rfl Tryd.ntmps24 ⟨_, _, rfl, rfl⟩ ?_; simp only [List.length_cons, List.length_nil, Nat.reduceAdd, Nat.reduceSub, List.replicate_succ, List.replicate_zero, List.cons_append, List.nil_append]
  simp (implicitDefEqProofs := false) only [go_sem, Nat.reduceAdd, Nat.reduceSub, Nat.reduceMul, Nat.reduceLT, Nat.reduceLeDiff, Nat.reduceEqDiff, Nat.reduceBEq, Nat.reduceBNe, Nat.reducePow, Int.reduceBEq, Int.reduceBNe, Int.reduceEq, Int.reduceLT, Int.reduceLE, Int.reduceNeg, Int.reduceToNat, Int.reduceMul, Int.reduceAdd, Int.reduceSub, Int.reducePow, Int.reduceFDiv, reduceCtorEq, reduceIte]
  refine AWP.loopI (fun i : Nat => 32 - i) (fun i => [junk, .pointer (some ⟨h.length, 0, none⟩), junk, outV (h.length + 1) ((bytesW a).take i), .int .i64 (i : Nat), junk, junk, junk, junk, junk, junk, junk, junk, junk, junk, junk, junk, junk, junk, junk, junk, junk, junk, junk, junk, junk]) (fun i => h ++ [.cells (encWord a).toArray 0 true, outO encU8 1 ((bytesW a).take i)]) (fun i => i ≤ 32) 0 (Nat.zero_le _) ?_ ?_
  · have := (Keeps.easeL (P := Tryd.prog) (h0 := h) (t := [.cells (encWord a).toArray 0 true])
      (l := [.agg (encWord a).toArray, .pointer (some ⟨h.length, 0, none⟩), .slice none 0 0, .slice none 0 0, .int .i64 0, undef, undef, undef, undef, undef, undef, undef, undef, undef, undef, undef, undef, undef, undef, undef, undef, undef, undef, undef, undef, undef])
      (l1 := [junk, .pointer (some ⟨h.length, 0, none⟩), junk, .slice none 0 0, .int .i64 0, junk, junk, junk, junk, junk, junk, junk, junk, junk, junk, junk, junk, junk, junk, junk, junk, junk, junk, junk, junk, junk])
      (by intro o ho; rw [List.mem_singleton] at ho; subst ho; exact ORen.plainCells (tree_encWord _)) (by repeat (first | exact Keeps.nil | refine Keeps.junk _ ?_ | refine Keeps.keep (by first | exact .plain _ rfl | exact .ptr _ _ _ (by simp) rfl) ?_))).trans Eases.ghost
    simp only [List.append_assoc, List.cons_append, List.nil_append] at this
    exact this
  · intro i hi
    by_cases hlt : i < 32
    · have hl32 : ((i : Nat) : Int) < 32 := by omega
      obtain ⟨j, hj⟩ : ∃ j, j = 31 - i := ⟨_, rfl⟩
      have h31 : IntKind.i64.wrap ((31 : Int) - (i : Int)) = ((j : Nat) : Int) := by rw [wrap_i64_of _ (by omega) (by omega)]; omega
      have hj32 : j < 32 := by omega
      have h4 : j / 8 < 4 := by omega
      have h43 : j / 8 ≤ 3 := by omega
      have h4' : ((j / 8 : Nat) : Int) < 4 := by omega
      have hq : IntKind.i64.wrap ((j : Int).tdiv 8) = ((j / 8 : Nat) : Int) := by rw [show (j : Int).tdiv 8 = ((j / 8 : Nat) : Int) from rfl]; exact wrap_i64_of _ (by omega) (by omega)
      have hr : (j : Int).tmod 8 = ((j % 8 : Nat) : Int) := rfl
      have hm8 : IntKind.i64.wrap (((j % 8 : Nat) : Int) * 8) = ((8 * (j % 8) : Nat) : Int) := by rw [wrap_i64_of _ (by omega) (by omega)]; omega
      have hcs : IntKind.u64.wrap ((8 * (j % 8) : Nat) : Int) = ((8 * (j % 8) : Nat) : Int) := wrap_u64_of _ (by omega) (by omega)
      have hn0 : ¬ ((8 * (j % 8) : Nat) : Int) < 0 := by omega
      have hw1 : IntKind.i64.wrap ((i : Int) + 1) = ((i + 1 : Nat) : Int) := by rw [wrap_i64_of _ (by omega) (by omega), ofNat_succ']
      have hlen : ((bytesW a).take i).length ≤ 32 := by simp; omega
      have hsh := u8_shr a hj32 h4
      simp (implicitDefEqProofs := false) only [go_sem, Nat.reduceAdd, Nat.reduceSub, Nat.reduceMul, Nat.reduceLT, Nat.reduceLeDiff, Nat.reduceEqDiff, Nat.reduceBEq, Nat.reduceBNe, Nat.reducePow, Int.reduceBEq, Int.reduceBNe, Int.reduceEq, Int.reduceLT, Int.reduceLE, Int.reduceNeg, Int.reduceToNat, Int.reduceMul, Int.reduceAdd, Int.reduceSub, Int.reducePow, Int.reduceFDiv, reduceCtorEq, reduceIte, hl32, h31, hq, h4', hr, hm8, hcs, abin_shr hn0, hsh, encWord_get _ h4, hw1, h43, set_new, at_new, mkApp_outK (enc := encU8) (m := 1) (n := 1) (by_ := 1) (l := (bytesW a).take i) (k := 1) length_encU8 (Nat.zero_lt_one) ⟨by omega, by omega⟩]
      have htk : (bytesW a).take (i + 1) = (bytesW a).take i ++ [byteW a j] := by
        rw [List.take_add_one, hj]; congr 1; simp [bytesW, hlt]
      refine ⟨i + 1, by omega, by omega, ?_⟩
      rw [htk]
      refine pick2 3 (by decide) ⟨rfl, fun σ L => ORen.plainCells (tree_encWord _)⟩ ⟨_, rfl, outO_renS tree_encU8⟩ ?_
      repeat (first | exact KeepsS.nil | refine KeepsS.junk _ ?_ | refine KeepsS.keep (by first | exact .plain _ rfl | exact ptr_pick (k := 0) (by omega) rfl | exact outV_pick (by omega) rfl) ?_)
    · have hl32 : ¬ ((i : Nat) : Int) < 32 := by omega
      simp (implicitDefEqProofs := false) only [go_sem, Nat.reduceAdd, Nat.reduceSub, Nat.reduceMul, Nat.reduceLT, Nat.reduceLeDiff, Nat.reduceEqDiff, Nat.reduceBEq, Nat.reduceBNe, Nat.reducePow, Int.reduceBEq, Int.reduceBNe, Int.reduceEq, Int.reduceLT, Int.reduceLE, Int.reduceNeg, Int.reduceToNat, Int.reduceMul, Int.reduceAdd, Int.reduceSub, Int.reducePow, Int.reduceFDiv, reduceCtorEq, reduceIte, hl32]
      have hie : i = 32 := by omega
      subst hie
      rw [show (bytesW a).take 32 = bytesW a from List.take_of_length_le (by simp [bytesW])]
      have hb : (h ++ [AObj.cells (encWord a).toArray 0 true, outO encU8 1 (bytesW a)])[h.length + 1]? = some (outO encU8 1 (bytesW a)) := at_new _ _ _
      exact apost_tree (by rw [aresults_tmp rfl, getD_lit]; rfl) (keeps_append _ _) (Rf.outV hb (dieNew_dead (h0 := h) (Nat.le_add_right _ _) (by simp)) length_encU8) (.slV tree_encU8 _) ⟨rfl, rfl⟩
end Go.Proofs
