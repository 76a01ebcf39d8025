import Derived.Test.YtihdilnanhjedaaFpT
import Derived.Test.YtihdilnanhjedaaAm31x
set_option linter.unusedSimpArgs false
set_option linter.unusedVariables false
namespace Go.Proofs.Fp
open Go Go.Am Go.Proofs

/-- the first place of what is so -/
def idx (p : Pl → Bool) (l : List Pl) : Int := match l.findIdx? p with | some i => i | none => -1

theorem idx_at {p : Pl → Bool} {l : List Pl} {i : Nat} (hi : i < l.length) (hp : p l[i] = true) (hb : ∀ x ∈ l.take i, p x = false) : idx p l = i := by
  have : l.findIdx? p = some i := by
    rw [List.findIdx?_eq_some_iff_getElem]
    refine ⟨hi, hp, fun j hj => ?_⟩
    rw [hb _ (List.mem_take_iff_getElem.2 ⟨j, by omega, rfl⟩)]; simp
  simp [idx, this]
theorem idx_none {p : Pl → Bool} {l : List Pl} (hb : ∀ x ∈ l, p x = false) : idx p l = -1 := by
  have : l.findIdx? p = none := by rw [List.findIdx?_eq_none_iff]; exact hb
  simp [idx, this]

set_option maxRecDepth 10000 in
set_option maxHeartbeats 4000000 in
theorem indexFunc_calls (s : Sl Pl) (hs : s.l.length < 2 ^ 62) (G : FuncId) (c : Value) (h : AH) (hc : VRen id h.length c c) (hG : hasBody Try.prog G = true) (p : Pl → Bool)
    (hf : ∀ x, ACalls Try.prog G #[.agg (encPl x).toArray, c] h (fun v h' => v = .bool (p x) ∧ h' = h)) :
    ACalls Try.prog 66 #[slV encPl s, .func (.func G) #[] #[c]] h (fun v h' => v = .int .i64 (idx p s.l) ∧ h' = h) := by
  refine ACalls.of_ay Try.func66 rfl Try.ntmps66 ⟨_, _, rfl, rfl⟩ ?_; simp only [List.length_cons, List.length_nil, Nat.reduceAdd, Nat.reduceSub, List.replicate_succ, List.replicate_zero, List.cons_append, List.nil_append]
  simp (implicitDefEqProofs := false) (maxSteps := 2000000) only [go_sem, Nat.reduceAdd, Nat.reduceSub, Nat.reduceMul, Nat.reduceLT, Nat.reduceLeDiff, Nat.reduceEqDiff, Nat.reduceBEq, Nat.reduceBNe, Nat.reducePow, Int.reduceBEq, Int.reduceBNe, Int.reduceEq, Int.reduceLT, Int.reduceLE, Int.reduceNeg, Int.reduceToNat, Int.reduceMul, Int.reduceAdd, Int.reduceSub, Int.reducePow, Int.reduceFDiv, reduceCtorEq, reduceIte]
  refine AWP.loopI (fun i : Nat => s.l.length - i) (fun i => [slV encPl s, .func (.func G) #[] #[c], junk, junk, junk, junk, junk, .int .i64 (s.l.length : Nat), .int .i64 (i : Nat), junk, junk, junk, junk, junk, junk, junk, junk, junk, junk]) (fun _ => h) (fun i => i ≤ s.l.length ∧ ∀ x ∈ s.l.take i, p x = false) 0 ⟨Nat.zero_le _, by simp⟩ ?_ ?_
  · refine Keeps.ease0 ?_
    repeat (first | exact Keeps.nil | refine Keeps.junk _ ?_ | refine Keeps.keep (by first | exact .plain _ rfl | exact (Tree.slV tree_encPl _).ren | exact .func _ _ _ _ _ rfl rfl (fun i => by simp; exact .junk _) rfl (fun i => by cases i; exact hc; simp; exact .junk _)) ?_)
  · intro i hi
    obtain ⟨hi, hp⟩ := hi
    by_cases hlt : i < s.l.length
    · simp (implicitDefEqProofs := false) (maxSteps := 2000000) only [go_sem, Nat.reduceAdd, Nat.reduceSub, Nat.reduceMul, Nat.reduceLT, Nat.reduceLeDiff, Nat.reduceEqDiff, Nat.reduceBEq, Nat.reduceBNe, Nat.reducePow, Int.reduceBEq, Int.reduceBNe, Int.reduceEq, Int.reduceLT, Int.reduceLE, Int.reduceNeg, Int.reduceToNat, Int.reduceMul, Int.reduceAdd, Int.reduceSub, Int.reducePow, Int.reduceFDiv, reduceCtorEq, reduceIte, hlt, hG, length_encPl]
      refine astep_call (hf _) ?_
      cases hpx : p s.l[i] with
      | true =>
        simp (implicitDefEqProofs := false) (maxSteps := 2000000) only [go_sem, Nat.reduceAdd, Nat.reduceSub, Nat.reduceMul, Nat.reduceLT, Nat.reduceLeDiff, Nat.reduceEqDiff, Nat.reduceBEq, Nat.reduceBNe, Nat.reducePow, Int.reduceBEq, Int.reduceBNe, Int.reduceEq, Int.reduceLT, Int.reduceLE, Int.reduceNeg, Int.reduceToNat, Int.reduceMul, Int.reduceAdd, Int.reduceSub, Int.reducePow, Int.reduceFDiv, reduceCtorEq, reduceIte]
        refine apost_tmp0 (v := .int .i64 (idx p s.l)) rfl rfl ⟨rfl, rfl⟩ _ ?_; rw [idx_at hlt hpx hp]; rfl
      | false =>
        simp (implicitDefEqProofs := false) (maxSteps := 2000000) only [go_sem, Nat.reduceAdd, Nat.reduceSub, Nat.reduceMul, Nat.reduceLT, Nat.reduceLeDiff, Nat.reduceEqDiff, Nat.reduceBEq, Nat.reduceBNe, Nat.reducePow, Int.reduceBEq, Int.reduceBNe, Int.reduceEq, Int.reduceLT, Int.reduceLE, Int.reduceNeg, Int.reduceToNat, Int.reduceMul, Int.reduceAdd, Int.reduceSub, Int.reducePow, Int.reduceFDiv, reduceCtorEq, reduceIte]
        refine ⟨i + 1, by omega, ⟨by omega, fun x hx => ?_⟩, Keeps.ease0 ?_⟩
        · rw [List.take_add_one, List.getElem?_eq_getElem hlt] at hx
          rcases List.mem_append.1 hx with hx | hx
          · exact hp x hx
          · simp at hx; rw [hx]; exact hpx
        · rw [wrap_i64_of _ (by omega) (by omega), ofNat_succ']
          repeat (first | exact Keeps.nil | refine Keeps.junk _ ?_ | refine Keeps.keep (by first | exact .plain _ rfl | exact (Tree.slV tree_encPl _).ren | exact .func _ _ _ _ _ rfl rfl (fun i => by simp; exact .junk _) rfl (fun i => by cases i; exact hc; simp; exact .junk _)) ?_)
    · simp (implicitDefEqProofs := false) (maxSteps := 2000000) only [go_sem, Nat.reduceAdd, Nat.reduceSub, Nat.reduceMul, Nat.reduceLT, Nat.reduceLeDiff, Nat.reduceEqDiff, Nat.reduceBEq, Nat.reduceBNe, Nat.reducePow, Int.reduceBEq, Int.reduceBNe, Int.reduceEq, Int.reduceLT, Int.reduceLE, Int.reduceNeg, Int.reduceToNat, Int.reduceMul, Int.reduceAdd, Int.reduceSub, Int.reducePow, Int.reduceFDiv, reduceCtorEq, reduceIte, hlt]
      refine apost_tmp0 (v := .int .i64 (idx p s.l)) rfl rfl ⟨rfl, rfl⟩ _ ?_; rw [idx_none fun x hx => hp x (by rw [List.take_of_length_le (by omega)]; exact hx)]; rfl

theorem vrenFunc {L : Nat} {G : FuncId} {c : Value} (hc : VRen id L c c) : VRen id L (.func (.func G) #[] #[c]) (.func (.func G) #[] #[c]) :=
  .func _ _ _ _ _ rfl rfl (fun i => by simp; exact .junk _) rfl (fun i => by cases i; exact hc; simp; exact .junk _)

theorem idx_any {p : Pl → Bool} {l : List Pl} : decide (0 ≤ idx p l) = l.any p := by
  cases hf : l.findIdx? p with
  | none =>
    have : l.any p = false := by
      rw [List.findIdx?_eq_none_iff] at hf
      rw [List.any_eq_false]; intro x hx; simp [hf x hx]
    simp [idx, hf, this]
  | some i =>
    have : l.any p = true := by
      rw [List.findIdx?_eq_some_iff_getElem] at hf
      obtain ⟨h1, h2, _⟩ := hf
      rw [List.any_eq_true]; exact ⟨_, List.getElem_mem h1, h2⟩
    simp [idx, hf, this]

set_option maxRecDepth 10000 in
set_option maxHeartbeats 4000000 in
theorem containsFunc_calls (s : Sl Pl) (hs : s.l.length < 2 ^ 62) (G : FuncId) (c : Value) (h : AH) (hc : VRen id h.length c c) (hG : hasBody Try.prog G = true) (p : Pl → Bool)
    (hf : ∀ x, ACalls Try.prog G #[.agg (encPl x).toArray, c] h (fun v h' => v = .bool (p x) ∧ h' = h)) :
    ACalls Try.prog 56 #[slV encPl s, .func (.func G) #[] #[c]] h (fun v h' => v = .bool (s.l.any p) ∧ h' = h) := by
  refine ACalls.of_ay Try.func56 rfl Try.ntmps56 ⟨_, _, rfl, rfl⟩ ?_; simp only [List.length_cons, List.length_nil, Nat.reduceAdd, Nat.reduceSub, List.replicate_succ, List.replicate_zero, List.cons_append, List.nil_append]
  simp (implicitDefEqProofs := false) (maxSteps := 2000000) only [go_sem, Nat.reduceAdd, Nat.reduceSub, Nat.reduceMul, Nat.reduceLT, Nat.reduceLeDiff, Nat.reduceEqDiff, Nat.reduceBEq, Nat.reduceBNe, Nat.reducePow, Int.reduceBEq, Int.reduceBNe, Int.reduceEq, Int.reduceLT, Int.reduceLE, Int.reduceNeg, Int.reduceToNat, Int.reduceMul, Int.reduceAdd, Int.reduceSub, Int.reducePow, Int.reduceFDiv, reduceCtorEq, reduceIte]
  refine astep_call (indexFunc_calls s hs G c h hc hG p hf) ?_
  simp (implicitDefEqProofs := false) (maxSteps := 2000000) only [go_sem, Nat.reduceAdd, Nat.reduceSub, Nat.reduceMul, Nat.reduceLT, Nat.reduceLeDiff, Nat.reduceEqDiff, Nat.reduceBEq, Nat.reduceBNe, Nat.reducePow, Int.reduceBEq, Int.reduceBNe, Int.reduceEq, Int.reduceLT, Int.reduceLE, Int.reduceNeg, Int.reduceToNat, Int.reduceMul, Int.reduceAdd, Int.reduceSub, Int.reducePow, Int.reduceFDiv, reduceCtorEq, reduceIte]
  refine apost_tmp0 (v := .bool (s.l.any p)) rfl rfl ⟨rfl, rfl⟩ _ ?_
  rw [← idx_any]; rfl

/-- how often a place stands in a list, as the map tells it -/
abbrev CMap (k : TypeId) (es : Array MapEntry) (clk : Nat) (f : Pl → Option Int) := MFun Try.prog k keyPl (fun n : Int => .int .i64 n) es clk f

set_option maxRecDepth 10000 in
set_option maxHeartbeats 4000000 in
theorem anyFn_calls (x : Pl) (b m : Nat) (h : AH) (es : Array MapEntry) (clk : Nat) (f : Pl → Option Int) (hm : CMap 54 es clk f) (hb : h[b]? = some (.cells #[.map (some m)] 0 true)) (hmm : h[m]? = some (.map 54 es clk)) :
    ACalls Try.prog 57 #[.agg (encPl x).toArray, .pointer (some ⟨b, 0, none⟩)] h (fun v h' => v = .bool (decide (0 < (f x).getD 0)) ∧ h' = h) := by
  refine ACalls.of_ay Try.func57 rfl Try.ntmps57 ⟨_, _, rfl, rfl⟩ ?_; simp only [List.length_cons, List.length_nil, Nat.reduceAdd, Nat.reduceSub, List.replicate_succ, List.replicate_zero, List.cons_append, List.nil_append]
  have hl : lookK false (Value.int IntKind.i64 0) (.agg (encPl x).toArray) es.toList = .int .i64 ((f x).getD 0) := hm.look false 0 x
  simp (implicitDefEqProofs := false) (maxSteps := 2000000) only [go_sem, Nat.reduceAdd, Nat.reduceSub, Nat.reduceMul, Nat.reduceLT, Nat.reduceLeDiff, Nat.reduceEqDiff, Nat.reduceBEq, Nat.reduceBNe, Nat.reducePow, Int.reduceBEq, Int.reduceBNe, Int.reduceEq, Int.reduceLT, Int.reduceLE, Int.reduceNeg, Int.reduceToNat, Int.reduceMul, Int.reduceAdd, Int.reduceSub, Int.reducePow, Int.reduceFDiv, reduceCtorEq, reduceIte, hb, hmm, at_old hb, at_old hmm, length_encPl, hl]
  exact apost_tmp rfl rfl ⟨rfl, rfl⟩ _ _ rfl
set_option maxRecDepth 10000 in
set_option maxHeartbeats 4000000 in
theorem any_calls (s : Sl Pl) (hs : s.l.length < 2 ^ 62) (m : Nat) (h : AH) (es : Array MapEntry) (clk : Nat) (f : Pl → Option Int) (hm : CMap 54 es clk f) (hmm : h[m]? = some (.map 54 es clk)) :
    ACalls Try.prog 38 #[.map (some m), slV encPl s] h (fun v h' => v = .bool (s.l.any fun x => decide (0 < (f x).getD 0)) ∧ h' = h) := by
  refine ACalls.of_ay Try.func38 rfl Try.ntmps38 ⟨_, _, rfl, rfl⟩ ?_; simp only [List.length_cons, List.length_nil, Nat.reduceAdd, Nat.reduceSub, List.replicate_succ, List.replicate_zero, List.cons_append, List.nil_append]
  simp (implicitDefEqProofs := false) (maxSteps := 2000000) only [go_sem, Nat.reduceAdd, Nat.reduceSub, Nat.reduceMul, Nat.reduceLT, Nat.reduceLeDiff, Nat.reduceEqDiff, Nat.reduceBEq, Nat.reduceBNe, Nat.reducePow, Int.reduceBEq, Int.reduceBNe, Int.reduceEq, Int.reduceLT, Int.reduceLE, Int.reduceNeg, Int.reduceToNat, Int.reduceMul, Int.reduceAdd, Int.reduceSub, Int.reducePow, Int.reduceFDiv, reduceCtorEq, reduceIte]
  refine astep_call (containsFunc_calls s hs _ _ _ (.ptr _ _ _ (by simp) rfl) (by kernel_rfl) (fun x => decide (0 < (f x).getD 0)) fun x => anyFn_calls x h.length m _ es clk f hm (at_new0 _ _) (at_old hmm _)) ?_
  simp (implicitDefEqProofs := false) (maxSteps := 2000000) only [go_sem, Nat.reduceAdd, Nat.reduceSub, Nat.reduceMul, Nat.reduceLT, Nat.reduceLeDiff, Nat.reduceEqDiff, Nat.reduceBEq, Nat.reduceBNe, Nat.reducePow, Int.reduceBEq, Int.reduceBNe, Int.reduceEq, Int.reduceLT, Int.reduceLE, Int.reduceNeg, Int.reduceToNat, Int.reduceMul, Int.reduceAdd, Int.reduceSub, Int.reducePow, Int.reduceFDiv, reduceCtorEq, reduceIte]
  exact apost_tmp rfl rfl ⟨rfl, rfl⟩ _ _ rfl
end Go.Proofs.Fp
