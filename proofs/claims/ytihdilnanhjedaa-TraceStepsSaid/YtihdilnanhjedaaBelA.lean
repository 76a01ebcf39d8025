import Derived.Test.YtihdilnanhjedaaWsm
import Derived.Test.YtihdilnanhjedaaTrcT
import Derived.Test.YtihdilnanhjedaaAm40x
set_option linter.unusedSimpArgs false
set_option linter.unusedVariables false
/- words as bytes; beginnings -/
namespace Go.Proofs
open Go Go.Am

theorem aconvU8 {h : AH} {s : Sl UInt8} : aconvert Try.prog h 46 9 (slV encU8 s) = some (.string ⟨s.l.toArray⟩, h) :=
  aconv_slV Try.underlying46 Try.underlying5 Try.underlying9
attribute [go_sem] aconvU8

theorem oren_wb {σ : Nat → Nat} {L es : Nat} {a : Word4} {l : List UInt8} : ∀ o ∈ [AObj.cells (encWord a).toArray 0 true, AObj.cells (flatV encU8 l) es true], ORen σ L o o := by
  intro o ho
  rcases List.mem_cons.1 ho with rfl | ho
  · exact ORen.plainCells (tree_encWord _)
  · rw [List.mem_singleton] at ho; subst ho
    exact ORen.plainCells (l := l.flatMap encU8) (fun v hv => by obtain ⟨x, _, hx⟩ := List.mem_flatMap.1 hv; exact tree_encU8 _ _ hx)

set_option maxRecDepth 10000 in
set_option maxHeartbeats 4000000 in
theorem wbytes_calls (a : Word4) (h : AH) :
    ACalls Try.prog 28 #[.agg (encWord a).toArray] h (fun v h' => v = slV encU8 (Sl.full (bytesW a)) ∧ h' = h) := by
  refine ACalls.of_ay Try.func28 rfl Try.ntmps28 ⟨_, _, rfl, rfl⟩ ?_; simp only [List.length_cons, List.length_nil, Nat.reduceAdd, Nat.reduceSub, List.replicate_succ, List.replicate_zero, List.cons_append, List.nil_append]
  simp (implicitDefEqProofs := false) (maxSteps := 2000000) only [go_sem, Nat.reduceAdd, Nat.reduceSub, Nat.reduceMul, Nat.reduceLT, Nat.reduceLeDiff, Nat.reduceEqDiff, Nat.reduceBEq, Nat.reduceBNe, Nat.reducePow, Int.reduceBEq, Int.reduceBNe, Int.reduceEq, Int.reduceLT, Int.reduceLE, Int.reduceNeg, Int.reduceToNat, Int.reduceMul, Int.reduceAdd, Int.reduceSub, Int.reducePow, Int.reduceFDiv, reduceCtorEq, reduceIte]
  rw [zeros_u8 a]
  refine AWP.loopI (fun i : Nat => 32 - i) (fun i => [junk, .pointer (some ⟨h.length, 0, none⟩), junk, .slice (some ⟨h.length + 1, 0, none⟩) 32 32, junk, junk, .int .i64 (i : Nat), junk, junk, junk, junk, junk, junk, junk, junk, junk, junk, junk, junk, junk, junk, junk, junk, junk])
    (fun i => h ++ [.cells (encWord a).toArray 0 true, .cells (flatV encU8 (blW a i)) 1 true]) (fun i => i ≤ 32) 0 (Nat.zero_le _) ?_ ?_
  · refine Keeps.easeL oren_wb ?_
    repeat (first | exact Keeps.nil | refine Keeps.junk _ ?_ | refine Keeps.keep (by first | exact .plain _ rfl | exact .ptr _ _ _ (by simp) rfl | exact .slice _ _ _ _ _ (by simp) rfl) ?_)
  · intro i hi
    by_cases hlt : i < 32
    · have hl32 : ((i : Nat) : Int) < 32 := by omega
      have h4 : i / 8 < 4 := by omega
      have h43 : i / 8 ≤ 3 := by omega
      have h4' : ((i / 8 : Nat) : Int) < 4 := by omega
      have hq : IntKind.i64.wrap ((i : Int).tdiv 8) = ((i / 8 : Nat) : Int) := by rw [show (i : Int).tdiv 8 = ((i / 8 : Nat) : Int) from rfl]; exact wrap_i64_of _ (by omega) (by omega)
      have hr : (i : Int).tmod 8 = ((i % 8 : Nat) : Int) := rfl
      have hm8 : IntKind.i64.wrap (((i % 8 : Nat) : Int) * 8) = ((8 * (i % 8) : Nat) : Int) := by rw [wrap_i64_of _ (by omega) (by omega)]; omega
      have h31 : IntKind.i64.wrap ((31 : Int) - (i : Int)) = ((31 - i : Nat) : Int) := by rw [wrap_i64_of _ (by omega) (by omega)]; omega
      have hi31 : ((31 - i : Nat) : Int) < 32 := by omega
      have hi31' : 31 - i ≤ 31 := by omega
      have hn0 : ¬ ((8 * (i % 8) : Nat) : Int) < 0 := by omega
      have hw1 : IntKind.i64.wrap ((i : Int) + 1) = ((i + 1 : Nat) : Int) := by rw [wrap_i64_of _ (by omega) (by omega), ofNat_succ']
      have hsh := u8_shr a hlt h4
      simp (implicitDefEqProofs := false) (maxSteps := 2000000) only [go_sem, Nat.reduceAdd, Nat.reduceSub, Nat.reduceMul, Nat.reduceLT, Nat.reduceLeDiff, Nat.reduceEqDiff, Nat.reduceBEq, Nat.reduceBNe, Nat.reducePow, Int.reduceBEq, Int.reduceBNe, Int.reduceEq, Int.reduceLT, Int.reduceLE, Int.reduceNeg, Int.reduceToNat, Int.reduceMul, Int.reduceAdd, Int.reduceSub, Int.reducePow, Int.reduceFDiv, reduceCtorEq, reduceIte, hl32, hq, h4', hr, hm8, h31, hi31, hi31', abin_shr hn0, hsh, encWord_get _ h4, hw1, h43, size_u8, length_blW, set_u8, blW_set a hlt]
      refine ⟨i + 1, by omega, by omega, Keeps.easeL oren_wb ?_⟩
      repeat (first | exact Keeps.nil | refine Keeps.junk _ ?_ | refine Keeps.keep (by first | exact .plain _ rfl | exact .ptr _ _ _ (by simp) rfl | exact .slice _ _ _ _ _ (by simp) rfl) ?_)
    · have hl32 : ¬ ((i : Nat) : Int) < 32 := by omega
      simp (implicitDefEqProofs := false) (maxSteps := 2000000) only [go_sem, Nat.reduceAdd, Nat.reduceSub, Nat.reduceMul, Nat.reduceLT, Nat.reduceLeDiff, Nat.reduceEqDiff, Nat.reduceBEq, Nat.reduceBNe, Nat.reducePow, Int.reduceBEq, Int.reduceBNe, Int.reduceEq, Int.reduceLT, Int.reduceLE, Int.reduceNeg, Int.reduceToNat, Int.reduceMul, Int.reduceAdd, Int.reduceSub, Int.reducePow, Int.reduceFDiv, reduceCtorEq, reduceIte, hl32]
      have hie : i = 32 := by omega
      subst hie
      rw [blW_32]
      have hb : (h ++ [AObj.cells (encWord a).toArray 0 true, .cells (flatV encU8 (bytesW a)) 1 true])[h.length + 1]? = some (.cells (flatV encU8 (bytesW a)) 1 true) := at_new _ _ _
      have hrf := Rf.full (cap := 32) hb (dieNew_dead (h0 := h) (h := h ++ [AObj.cells (encWord a).toArray 0 true, .cells (flatV encU8 (bytesW a)) 1 true]) (b := h.length + 1) (Nat.le_add_right _ _) (by simp)) (by rw [length_bytesW]; exact Nat.le_refl _)
      rw [length_bytesW] at hrf
      exact apost_tree (by rw [aresults_tmp rfl, getD_lit]; rfl) (keeps_append _ _) hrf (.slV tree_encU8 _) ⟨rfl, rfl⟩

set_option maxRecDepth 10000 in
set_option maxHeartbeats 4000000 in
theorem bequal_calls (a b : Sl UInt8) (h : AH) :
    ACalls Try.prog 52 #[slV encU8 a, slV encU8 b] h (fun v h' => v = .bool (a.l == b.l) ∧ h' = h) := by
  refine ACalls.of_ay Try.func52 rfl Try.ntmps52 ⟨_, _, rfl, rfl⟩ ?_; simp only [List.length_cons, List.length_nil, Nat.reduceAdd, Nat.reduceSub, List.replicate_succ, List.replicate_zero, List.cons_append, List.nil_append]
  simp (implicitDefEqProofs := false) (maxSteps := 2000000) only [go_sem, Nat.reduceAdd, Nat.reduceSub, Nat.reduceMul, Nat.reduceLT, Nat.reduceLeDiff, Nat.reduceEqDiff, Nat.reduceBEq, Nat.reduceBNe, Nat.reducePow, Int.reduceBEq, Int.reduceBNe, Int.reduceEq, Int.reduceLT, Int.reduceLE, Int.reduceNeg, Int.reduceToNat, Int.reduceMul, Int.reduceAdd, Int.reduceSub, Int.reducePow, Int.reduceFDiv, reduceCtorEq, reduceIte, str_toList]
  exact apost_tmp0 rfl rfl ⟨rfl, rfl⟩ _ rfl

/-- does one begin with another one? -/
def begins (s p : List UInt8) : Bool := decide (p.length ≤ s.length) && (s.take p.length == p)
set_option maxRecDepth 10000 in
set_option maxHeartbeats 4000000 in
theorem prefix_calls (s p : Sl UInt8) (h : AH) :
    ACalls Try.prog 32 #[slV encU8 s, slV encU8 p] h (fun v h' => v = .bool (begins s.l p.l) ∧ h' = h) := by
  refine ACalls.of_ay Try.func32 rfl Try.ntmps32 ⟨_, _, rfl, rfl⟩ ?_; simp only [List.length_cons, List.length_nil, Nat.reduceAdd, Nat.reduceSub, List.replicate_succ, List.replicate_zero, List.cons_append, List.nil_append]
  by_cases hle : p.l.length ≤ s.l.length
  · simp (implicitDefEqProofs := false) (maxSteps := 2000000) only [go_sem, Nat.reduceAdd, Nat.reduceSub, Nat.reduceMul, Nat.reduceLT, Nat.reduceLeDiff, Nat.reduceEqDiff, Nat.reduceBEq, Nat.reduceBNe, Nat.reducePow, Int.reduceBEq, Int.reduceBNe, Int.reduceEq, Int.reduceLT, Int.reduceLE, Int.reduceNeg, Int.reduceToNat, Int.reduceMul, Int.reduceAdd, Int.reduceSub, Int.reducePow, Int.reduceFDiv, reduceCtorEq, reduceIte, hle]
    refine astep_call (bequal_calls _ p _) ?_
    simp (implicitDefEqProofs := false) (maxSteps := 2000000) only [go_sem, Nat.reduceAdd, Nat.reduceSub, Nat.reduceMul, Nat.reduceLT, Nat.reduceLeDiff, Nat.reduceEqDiff, Nat.reduceBEq, Nat.reduceBNe, Nat.reducePow, Int.reduceBEq, Int.reduceBNe, Int.reduceEq, Int.reduceLT, Int.reduceLE, Int.reduceNeg, Int.reduceToNat, Int.reduceMul, Int.reduceAdd, Int.reduceSub, Int.reducePow, Int.reduceFDiv, reduceCtorEq, reduceIte]
    refine apost_tmp0 (v := .bool (begins s.l p.l)) rfl rfl ⟨rfl, rfl⟩ _ ?_
    rw [begins, decide_eq_true hle]; rfl
  · simp (implicitDefEqProofs := false) (maxSteps := 2000000) only [go_sem, Nat.reduceAdd, Nat.reduceSub, Nat.reduceMul, Nat.reduceLT, Nat.reduceLeDiff, Nat.reduceEqDiff, Nat.reduceBEq, Nat.reduceBNe, Nat.reducePow, Int.reduceBEq, Int.reduceBNe, Int.reduceEq, Int.reduceLT, Int.reduceLE, Int.reduceNeg, Int.reduceToNat, Int.reduceMul, Int.reduceAdd, Int.reduceSub, Int.reducePow, Int.reduceFDiv, reduceCtorEq, reduceIte, hle]
    refine apost_tmp0 (v := .bool (begins s.l p.l)) rfl rfl ⟨rfl, rfl⟩ _ ?_
    rw [begins, decide_eq_false hle]; rfl
end Go.Proofs
