import Derived.Test.YtihdilnanhjedaaWord2
set_option linter.unusedSimpArgs false
set_option linter.unusedVariables false
/- words: differences -/
namespace Go.Proofs
open Go Go.Am

/-- a word and a truth come back -/
theorem apost_wb {P : Program} {h0 t : AH} {fn : Func} {R : Value → AH → Prop} {p k : Nat} {ty : TypeId} {w : Word4} {b : Bool} {l : List Value} (hr : fn.results = #[.cell p ty, .tmp k]) (hv : aload P (h0 ++ t) ty (l.getD p junk) = some (.agg (encWord w).toArray)) (hb : l.getD k junk = .bool b) (hR : R (.tuple #[.agg (encWord w).toArray, .bool b]) h0) :
    apost P h0 fn R .ret l.toArray (h0 ++ t) :=
  apost_tuple (l := [.agg (encWord w).toArray, .bool b]) (by rw [aresults_cell_tmp hr _ _ (by rw [getD_lit]; exact hv), getD_lit, hb]) (by simp only [List.all_cons, List.all_nil, encWord_plain]; rfl) (keeps_append _ _) hR
theorem apost_nb {P : Program} {h0 t : AH} {fn : Func} {R : Value → AH → Prop} {p k : Nat} {n : Int} {kd : IntKind} {b : Bool} {l : List Value} (hr : fn.results = #[.tmp p, .tmp k]) (hv : l.getD p junk = .int kd n) (hb : l.getD k junk = .bool b) (hR : R (.tuple #[.int kd n, .bool b]) h0) :
    apost P h0 fn R .ret l.toArray (h0 ++ t) :=
  apost_tuple (l := [.int kd n, .bool b]) (by rw [aresults_tmp2 hr, getD_lit, getD_lit, hv, hb]) (by rfl) (keeps_append _ _) hR

theorem oren4 {σ : Nat → Nat} {L : Nat} {a b c d : Word4} : ∀ o ∈ [AObj.cells (encWord a).toArray 0 true, AObj.cells (encWord b).toArray 0 true, AObj.cells (encWord c).toArray 0 true, AObj.cells (encWord d).toArray 0 true], ORen σ L o o := by
  intro o ho
  simp only [List.mem_cons, List.not_mem_nil, or_false] at ho
  rcases ho with rfl | rfl | rfl | rfl <;> exact ORen.plainCells (tree_encWord _)

set_option maxRecDepth 10000 in
set_option maxHeartbeats 4000000 in
theorem wsub_calls (a b : Word4) (h : AH) :
    ACalls Try.prog 33 #[.agg (encWord a).toArray, .agg (encWord b).toArray] h (fun v h' => v = .tuple #[.agg (encWord (sb a b 4).1).toArray, .bool (((((sb a b 4).2.toNat : Nat) : Int)) != 0)] ∧ h' = h) := by
  refine ACalls.of_ay Try.func33 rfl Try.ntmps33 ⟨_, _, rfl, rfl⟩ ?_; simp only [List.length_cons, List.length_nil, Nat.reduceAdd, Nat.reduceSub, List.replicate_succ, List.replicate_zero, List.cons_append, List.nil_append]
  simp (implicitDefEqProofs := false) (maxSteps := 2000000) only [go_sem, Nat.reduceAdd, Nat.reduceSub, Nat.reduceMul, Nat.reduceLT, Nat.reduceLeDiff, Nat.reduceEqDiff, Nat.reduceBEq, Nat.reduceBNe, Nat.reducePow, Int.reduceBEq, Int.reduceBNe, Int.reduceEq, Int.reduceLT, Int.reduceLE, Int.reduceNeg, Int.reduceToNat, Int.reduceMul, Int.reduceAdd, Int.reduceSub, Int.reducePow, Int.reduceFDiv, reduceCtorEq, reduceIte]
  rw [zeroW_enc]
  refine AWP.loopI (fun i : Nat => 4 - i) (fun i => [junk, junk, .pointer (some ⟨h.length, 0, none⟩), .pointer (some ⟨h.length + 1, 0, none⟩), .pointer (some ⟨h.length + 2, 0, none⟩), junk, .pointer (some ⟨h.length + 3, 0, none⟩), .int .u64 ((((sb a b i).2.toNat : Nat) : Int)), junk, .int .i64 (i : Nat), junk, junk, junk, junk, junk, junk, junk, junk, junk, junk, junk, junk, junk, junk, junk, junk, junk, junk, junk])
    (fun i => h ++ [.cells (encWord a).toArray 0 true, .cells (encWord b).toArray 0 true, .cells (encWord zeroW).toArray 0 true, .cells (encWord (sb a b i).1).toArray 0 true]) (fun i => i ≤ 4) 0 (Nat.zero_le _) ?_ ?_
  · simp only [sb_0]
    refine Keeps.easeL oren4 ?_
    repeat (first | exact Keeps.nil | refine Keeps.junk _ ?_ | refine Keeps.keep (by first | exact .plain _ rfl | exact .ptr _ _ _ (by simp) rfl) ?_)
  · intro i hi
    by_cases hlt : i < 4
    · have h43 : i ≤ 3 := by omega
      have hl4 : ((i : Nat) : Int) < 4 := by omega
      have hw1 : IntKind.i64.wrap ((i : Int) + 1) = ((i + 1 : Nat) : Int) := by rw [wrap_i64_of _ (by omega) (by omega), ofNat_succ']
      simp (implicitDefEqProofs := false) (maxSteps := 2000000) only [go_sem, Nat.reduceAdd, Nat.reduceSub, Nat.reduceMul, Nat.reduceLT, Nat.reduceLeDiff, Nat.reduceEqDiff, Nat.reduceBEq, Nat.reduceBNe, Nat.reducePow, Int.reduceBEq, Int.reduceBNe, Int.reduceEq, Int.reduceLT, Int.reduceLE, Int.reduceNeg, Int.reduceToNat, Int.reduceMul, Int.reduceAdd, Int.reduceSub, Int.reducePow, Int.reduceFDiv, reduceCtorEq, reduceIte, hl4, h43, hw1, encWord_get _ hlt, acarry_sub _ _ _ (sb_le a b i), encWord_set _ hlt]
      refine ⟨by kernel_rfl, by kernel_rfl, .inr ⟨rfl, by decide⟩, ?_⟩
      refine ⟨i + 1, by omega, by omega, ?_⟩
      simp only [sb_succ a b hlt]
      refine Keeps.easeL oren4 ?_
      repeat (first | exact Keeps.nil | refine Keeps.junk _ ?_ | refine Keeps.keep (by first | exact .plain _ rfl | exact .ptr _ _ _ (by simp) rfl) ?_)
    · have hl4 : ¬ ((i : Nat) : Int) < 4 := by omega
      simp (implicitDefEqProofs := false) (maxSteps := 2000000) only [go_sem, Nat.reduceAdd, Nat.reduceSub, Nat.reduceMul, Nat.reduceLT, Nat.reduceLeDiff, Nat.reduceEqDiff, Nat.reduceBEq, Nat.reduceBNe, Nat.reducePow, Int.reduceBEq, Int.reduceBNe, Int.reduceEq, Int.reduceLT, Int.reduceLE, Int.reduceNeg, Int.reduceToNat, Int.reduceMul, Int.reduceAdd, Int.reduceSub, Int.reducePow, Int.reduceFDiv, reduceCtorEq, reduceIte, hl4]
      have hie : i = 4 := by omega
      subst hie
      exact apost_wb rfl (by simp (implicitDefEqProofs := false) (maxSteps := 2000000) only [go_sem, Nat.reduceAdd, Nat.reduceSub, Nat.reduceMul, Nat.reduceLT, Nat.reduceLeDiff, Nat.reduceEqDiff, Nat.reduceBEq, Nat.reduceBNe, Nat.reducePow, Int.reduceBEq, Int.reduceBNe, Int.reduceEq, Int.reduceLT, Int.reduceLE, Int.reduceNeg, Int.reduceToNat, Int.reduceMul, Int.reduceAdd, Int.reduceSub, Int.reducePow, Int.reduceFDiv, reduceCtorEq, reduceIte, length_encWord]) rfl ⟨rfl, rfl⟩
end Go.Proofs
