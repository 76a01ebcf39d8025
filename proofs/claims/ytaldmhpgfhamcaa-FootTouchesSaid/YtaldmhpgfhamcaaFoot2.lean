import Derived.Test.YtaldmhpgfhamcaaFoot1
import Derived.Test.YtaldmhpgfhamcaaAm33
set_option linter.unusedSimpArgs false
set_option linter.unusedVariables false
namespace Go.Proofs
open Go Go.Am

/-- the first place of what is so -/
def idx (p : Place → Bool) (l : List Place) : Int := match l.findIdx? p with | some i => i | none => -1

theorem idx_at {p : Place → Bool} {l : List Place} {i : Nat} (hi : i < l.length) (hp : p l[i] = true) (hb : ∀ x ∈ l.take i, p x = false) : idx p l = i := by
  have : l.findIdx? p = some i := by
    rw [List.findIdx?_eq_some_iff_getElem]
    refine ⟨hi, hp, fun j hj => ?_⟩
    rw [hb _ (List.mem_take_iff_getElem.2 ⟨j, by omega, rfl⟩)]; simp
  simp [idx, this]
theorem idx_none {p : Place → Bool} {l : List Place} (hb : ∀ x ∈ l, p x = false) : idx p l = -1 := by
  have : l.findIdx? p = none := by rw [List.findIdx?_eq_none_iff]; exact hb
  simp [idx, this]

set_option maxRecDepth 10000 in
set_option maxHeartbeats 4000000 in
theorem indexFunc_calls (s : Sl Place) (hs : s.l.length < 2 ^ 62) (G : FuncId) (c : Value) (h : AH) (hc : VRen id h.length c c) (hG : hasBody Try.prog G = true) (p : Place → Bool)
    (hf : ∀ x, ACalls Try.prog G #[.agg (encPlace x).toArray, c] h (fun v h' => v = .bool (p x) ∧ h' = h)) :
    ACalls Try.prog 20 #[slV encPlace s, .func (.func G) #[] #[c]] h (fun v h' => v = .int .i64 (idx p s.l) ∧ h' = h) := by
  refine ACalls.of_ay Try.func20 rfl Try.ntmps20 ⟨_, _, rfl, rfl⟩ ?_; simp only [List.length_cons, List.length_nil, Nat.reduceAdd, Nat.reduceSub, List.replicate_succ, List.replicate_zero, List.cons_append, List.nil_append]
  simp (implicitDefEqProofs := false) only [go_sem, Nat.reduceAdd, Nat.reduceSub, Nat.reduceMul, Nat.reduceLT, Nat.reduceLeDiff, Nat.reduceEqDiff, Nat.reduceBEq, Nat.reduceBNe, Nat.reducePow, Int.reduceBEq, Int.reduceBNe, Int.reduceEq, Int.reduceLT, Int.reduceLE, Int.reduceNeg, Int.reduceToNat, Int.reduceMul, Int.reduceAdd, Int.reduceSub, Int.reducePow, Int.reduceFDiv, reduceCtorEq, reduceIte]
  refine AWP.loopI (fun i : Nat => s.l.length - i) (fun i => [slV encPlace s, .func (.func G) #[] #[c], junk, junk, junk, junk, junk, .int .i64 (s.l.length : Nat), .int .i64 (i : Nat), junk, junk, junk, junk, junk, junk, junk, junk, junk, junk]) (fun _ => h) (fun i => i ≤ s.l.length ∧ ∀ x ∈ s.l.take i, p x = false) 0 ⟨Nat.zero_le _, by simp⟩ ?_ ?_
  · refine Keeps.ease0 ?_
    repeat (first | exact Keeps.nil | refine Keeps.junk _ ?_ | refine Keeps.keep (by first | exact .plain _ rfl | exact (Tree.slV tree_encPlace _).ren | exact .func _ _ _ _ _ rfl rfl (fun i => by simp; exact .junk _) rfl (fun i => by cases i; exact hc; simp; exact .junk _)) ?_)
  · intro i hi
    obtain ⟨hi, hp⟩ := hi
    by_cases hlt : i < s.l.length
    · simp (implicitDefEqProofs := false) only [go_sem, Nat.reduceAdd, Nat.reduceSub, Nat.reduceMul, Nat.reduceLT, Nat.reduceLeDiff, Nat.reduceEqDiff, Nat.reduceBEq, Nat.reduceBNe, Nat.reducePow, Int.reduceBEq, Int.reduceBNe, Int.reduceEq, Int.reduceLT, Int.reduceLE, Int.reduceNeg, Int.reduceToNat, Int.reduceMul, Int.reduceAdd, Int.reduceSub, Int.reducePow, Int.reduceFDiv, reduceCtorEq, reduceIte, hlt, hG, length_encPlace]
      refine astep_call (hf _) ?_
      cases hpx : p s.l[i] with
      | true =>
        simp (implicitDefEqProofs := false) only [go_sem, Nat.reduceAdd, Nat.reduceSub, Nat.reduceMul, Nat.reduceLT, Nat.reduceLeDiff, Nat.reduceEqDiff, Nat.reduceBEq, Nat.reduceBNe, Nat.reducePow, Int.reduceBEq, Int.reduceBNe, Int.reduceEq, Int.reduceLT, Int.reduceLE, Int.reduceNeg, Int.reduceToNat, Int.reduceMul, Int.reduceAdd, Int.reduceSub, Int.reducePow, Int.reduceFDiv, reduceCtorEq, reduceIte]
        refine apost_tmp0 (v := .int .i64 (idx p s.l)) rfl rfl ⟨rfl, rfl⟩ _ ?_; rw [idx_at hlt hpx hp]; rfl
      | false =>
        simp (implicitDefEqProofs := false) only [go_sem, Nat.reduceAdd, Nat.reduceSub, Nat.reduceMul, Nat.reduceLT, Nat.reduceLeDiff, Nat.reduceEqDiff, Nat.reduceBEq, Nat.reduceBNe, Nat.reducePow, Int.reduceBEq, Int.reduceBNe, Int.reduceEq, Int.reduceLT, Int.reduceLE, Int.reduceNeg, Int.reduceToNat, Int.reduceMul, Int.reduceAdd, Int.reduceSub, Int.reducePow, Int.reduceFDiv, reduceCtorEq, reduceIte]
        refine ⟨i + 1, by omega, ⟨by omega, fun x hx => ?_⟩, Keeps.ease0 ?_⟩
        · rw [List.take_add_one, List.getElem?_eq_getElem hlt] at hx
          rcases List.mem_append.1 hx with hx | hx
          · exact hp x hx
          · simp at hx; rw [hx]; exact hpx
        · rw [wrap_i64_of _ (by omega) (by omega), ofNat_succ']
          repeat (first | exact Keeps.nil | refine Keeps.junk _ ?_ | refine Keeps.keep (by first | exact .plain _ rfl | exact (Tree.slV tree_encPlace _).ren | exact .func _ _ _ _ _ rfl rfl (fun i => by simp; exact .junk _) rfl (fun i => by cases i; exact hc; simp; exact .junk _)) ?_)
    · simp (implicitDefEqProofs := false) only [go_sem, Nat.reduceAdd, Nat.reduceSub, Nat.reduceMul, Nat.reduceLT, Nat.reduceLeDiff, Nat.reduceEqDiff, Nat.reduceBEq, Nat.reduceBNe, Nat.reducePow, Int.reduceBEq, Int.reduceBNe, Int.reduceEq, Int.reduceLT, Int.reduceLE, Int.reduceNeg, Int.reduceToNat, Int.reduceMul, Int.reduceAdd, Int.reduceSub, Int.reducePow, Int.reduceFDiv, reduceCtorEq, reduceIte, hlt]
      refine apost_tmp0 (v := .int .i64 (idx p s.l)) rfl rfl ⟨rfl, rfl⟩ _ ?_; rw [idx_none fun x hx => hp x (by rw [List.take_of_length_le (by omega)]; exact hx)]; rfl

theorem vrenFunc {L : Nat} {G : FuncId} {c : Value} (hc : VRen id L c c) : VRen id L (.func (.func G) #[] #[c]) (.func (.func G) #[] #[c]) :=
  .func _ _ _ _ _ rfl rfl (fun i => by simp; exact .junk _) rfl (fun i => by cases i; exact hc; simp; exact .junk _)

theorem idx_any {p : Place → Bool} {l : List Place} : decide (0 ≤ idx p l) = l.any p := by
  cases hf : l.findIdx? p with
  | none =>
    have : l.any p = false := by
      rw [List.findIdx?_eq_none_iff] at hf
      rw [List.any_eq_false]; intro x hx; simp [hf x hx]
    simp [idx, hf, this]
  | some i =>
    have : l.any p = true := by
      rw [List.findIdx?_eq_some_iff_getElem] at hf
      obtain ⟨h1, h2, _⟩ := hf
      rw [List.any_eq_true]; exact ⟨_, List.getElem_mem h1, h2⟩
    simp [idx, hf, this]

set_option maxRecDepth 10000 in
set_option maxHeartbeats 4000000 in
theorem containsFunc_calls (s : Sl Place) (hs : s.l.length < 2 ^ 62) (G : FuncId) (c : Value) (h : AH) (hc : VRen id h.length c c) (hG : hasBody Try.prog G = true) (p : Place → Bool)
    (hf : ∀ x, ACalls Try.prog G #[.agg (encPlace x).toArray, c] h (fun v h' => v = .bool (p x) ∧ h' = h)) :
    ACalls Try.prog 15 #[slV encPlace s, .func (.func G) #[] #[c]] h (fun v h' => v = .bool (s.l.any p) ∧ h' = h) := by
  refine ACalls.of_ay Try.func15 rfl Try.ntmps15 ⟨_, _, rfl, rfl⟩ ?_; simp only [List.length_cons, List.length_nil, Nat.reduceAdd, Nat.reduceSub, List.replicate_succ, List.replicate_zero, List.cons_append, List.nil_append]
  simp (implicitDefEqProofs := false) only [go_sem, Nat.reduceAdd, Nat.reduceSub, Nat.reduceMul, Nat.reduceLT, Nat.reduceLeDiff, Nat.reduceEqDiff, Nat.reduceBEq, Nat.reduceBNe, Nat.reducePow, Int.reduceBEq, Int.reduceBNe, Int.reduceEq, Int.reduceLT, Int.reduceLE, Int.reduceNeg, Int.reduceToNat, Int.reduceMul, Int.reduceAdd, Int.reduceSub, Int.reducePow, Int.reduceFDiv, reduceCtorEq, reduceIte]
  refine astep_call (indexFunc_calls s hs G c h hc hG p hf) ?_
  simp (implicitDefEqProofs := false) only [go_sem, Nat.reduceAdd, Nat.reduceSub, Nat.reduceMul, Nat.reduceLT, Nat.reduceLeDiff, Nat.reduceEqDiff, Nat.reduceBEq, Nat.reduceBNe, Nat.reducePow, Int.reduceBEq, Int.reduceBNe, Int.reduceEq, Int.reduceLT, Int.reduceLE, Int.reduceNeg, Int.reduceToNat, Int.reduceMul, Int.reduceAdd, Int.reduceSub, Int.reducePow, Int.reduceFDiv, reduceCtorEq, reduceIte]
  refine apost_tmp0 (v := .bool (s.l.any p)) rfl rfl ⟨rfl, rfl⟩ _ ?_
  rw [← idx_any]; rfl

/-- how often a place stands in a list, as the map tells it -/
abbrev CMap (k : TypeId) (es : Array MapEntry) (clk : Nat) (f : Place → Option Int) := MFun Try.prog k keyP (fun n : Int => .int .i64 n) es clk f

set_option maxRecDepth 10000 in
set_option maxHeartbeats 4000000 in
theorem anyFn_calls (x : Place) (b m : Nat) (h : AH) (es : Array MapEntry) (clk : Nat) (f : Place → Option Int) (hm : CMap 38 es clk f) (hb : h[b]? = some (.cells #[.map (some m)] 0 true)) (hmm : h[m]? = some (.map 38 es clk)) :
    ACalls Try.prog 16 #[.agg (encPlace x).toArray, .pointer (some ⟨b, 0, none⟩)] h (fun v h' => v = .bool (decide (0 < (f x).getD 0)) ∧ h' = h) := by
  refine ACalls.of_ay Try.func16 rfl Try.ntmps16 ⟨_, _, rfl, rfl⟩ ?_; simp only [List.length_cons, List.length_nil, Nat.reduceAdd, Nat.reduceSub, List.replicate_succ, List.replicate_zero, List.cons_append, List.nil_append]
  have hl : lookK false (Value.int IntKind.i64 0) (.agg (encPlace x).toArray) es.toList = .int .i64 ((f x).getD 0) := hm.look false 0 x
  simp (implicitDefEqProofs := false) only [go_sem, Nat.reduceAdd, Nat.reduceSub, Nat.reduceMul, Nat.reduceLT, Nat.reduceLeDiff, Nat.reduceEqDiff, Nat.reduceBEq, Nat.reduceBNe, Nat.reducePow, Int.reduceBEq, Int.reduceBNe, Int.reduceEq, Int.reduceLT, Int.reduceLE, Int.reduceNeg, Int.reduceToNat, Int.reduceMul, Int.reduceAdd, Int.reduceSub, Int.reducePow, Int.reduceFDiv, reduceCtorEq, reduceIte, hb, hmm, at_old hb, at_old hmm, length_encPlace, hl]
  exact apost_tmp rfl rfl ⟨rfl, rfl⟩ _ _ rfl
set_option maxRecDepth 10000 in
set_option maxHeartbeats 4000000 in
theorem any_calls (s : Sl Place) (hs : s.l.length < 2 ^ 62) (m : Nat) (h : AH) (es : Array MapEntry) (clk : Nat) (f : Place → Option Int) (hm : CMap 38 es clk f) (hmm : h[m]? = some (.map 38 es clk)) :
    ACalls Try.prog 12 #[.map (some m), slV encPlace s] h (fun v h' => v = .bool (s.l.any fun x => decide (0 < (f x).getD 0)) ∧ h' = h) := by
  refine ACalls.of_ay Try.func12 rfl Try.ntmps12 ⟨_, _, rfl, rfl⟩ ?_; simp only [List.length_cons, List.length_nil, Nat.reduceAdd, Nat.reduceSub, List.replicate_succ, List.replicate_zero, List.cons_append, List.nil_append]
  simp (implicitDefEqProofs := false) only [go_sem, Nat.reduceAdd, Nat.reduceSub, Nat.reduceMul, Nat.reduceLT, Nat.reduceLeDiff, Nat.reduceEqDiff, Nat.reduceBEq, Nat.reduceBNe, Nat.reducePow, Int.reduceBEq, Int.reduceBNe, Int.reduceEq, Int.reduceLT, Int.reduceLE, Int.reduceNeg, Int.reduceToNat, Int.reduceMul, Int.reduceAdd, Int.reduceSub, Int.reducePow, Int.reduceFDiv, reduceCtorEq, reduceIte]
  refine astep_call (containsFunc_calls s hs _ _ _ (.ptr _ _ _ (by simp) rfl) (by kernel_rfl) (fun x => decide (0 < (f x).getD 0)) fun x => anyFn_calls x h.length m _ es clk f hm (at_new0 _ _) (at_old hmm _)) ?_
  simp (implicitDefEqProofs := false) only [go_sem, Nat.reduceAdd, Nat.reduceSub, Nat.reduceMul, Nat.reduceLT, Nat.reduceLeDiff, Nat.reduceEqDiff, Nat.reduceBEq, Nat.reduceBNe, Nat.reducePow, Int.reduceBEq, Int.reduceBNe, Int.reduceEq, Int.reduceLT, Int.reduceLE, Int.reduceNeg, Int.reduceToNat, Int.reduceMul, Int.reduceAdd, Int.reduceSub, Int.reducePow, Int.reduceFDiv, reduceCtorEq, reduceIte]
  exact apost_tmp rfl rfl ⟨rfl, rfl⟩ _ _ rfl
end Go.Proofs
