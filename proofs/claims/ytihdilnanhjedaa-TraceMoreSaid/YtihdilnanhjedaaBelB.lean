import Derived.Test.YtihdilnanhjedaaBelA
set_option linter.unusedSimpArgs false
set_option linter.unusedVariables false
/- Belongs -/
namespace Go.Proofs
open Go Go.Am

/-- the first event of what is so -/
def idxE (p : Ev → Bool) (l : List Ev) : Int := match l.findIdx? p with | some i => i | none => -1
theorem idxE_at {p : Ev → Bool} {l : List Ev} {i : Nat} (hi : i < l.length) (hp : p l[i] = true) (hb : ∀ x ∈ l.take i, p x = false) : idxE p l = i := by
  have : l.findIdx? p = some i := by
    rw [List.findIdx?_eq_some_iff_getElem]
    refine ⟨hi, hp, fun j hj => ?_⟩
    rw [hb _ (List.mem_take_iff_getElem.2 ⟨j, by omega, rfl⟩)]; simp
  simp [idxE, this]
theorem idxE_none {p : Ev → Bool} {l : List Ev} (hb : ∀ x ∈ l, p x = false) : idxE p l = -1 := by
  have : l.findIdx? p = none := by rw [List.findIdx?_eq_none_iff]; exact hb
  simp [idxE, this]
theorem idxE_any {p : Ev → Bool} {l : List Ev} : decide (0 ≤ idxE p l) = l.any p := by
  cases hf : l.findIdx? p with
  | none =>
    have : l.any p = false := by
      rw [List.findIdx?_eq_none_iff] at hf
      rw [List.any_eq_false]; intro x hx; simp [hf x hx]
    simp [idxE, hf, this]
  | some i =>
    have : l.any p = true := by
      rw [List.findIdx?_eq_some_iff_getElem] at hf
      obtain ⟨h1, h2, _⟩ := hf
      rw [List.any_eq_true]; exact ⟨_, List.getElem_mem h1, h2⟩
    simp [idxE, hf, this]

theorem vrenFunc2 {L : Nat} {G : FuncId} {c d : Value} (hc : VRen id L c c) (hd : VRen id L d d) : VRen id L (.func (.func G) #[] #[c, d]) (.func (.func G) #[] #[c, d]) :=
  .func _ _ _ _ _ rfl rfl (fun i => by simp; exact .junk _) rfl (fun i => match i with | 0 => hc | 1 => hd | i + 2 => by simp; exact .junk _)

set_option maxRecDepth 10000 in
set_option maxHeartbeats 4000000 in
theorem indexE_calls (s : Sl Ev) (hs : s.l.length < 2 ^ 63) (G : FuncId) (c d : Value) (h : AH) (hc : VRen id h.length c c) (hd : VRen id h.length d d) (hG : hasBody Try.prog G = true) (p : Ev → Bool)
    (hf : ∀ x, x ∈ s.l → ACalls Try.prog G #[.agg (encEv x).toArray, c, d] h (fun v h' => v = .bool (p x) ∧ h' = h)) :
    ACalls Try.prog 51 #[slV encEv s, .func (.func G) #[] #[c, d]] h (fun v h' => v = .int .i64 (idxE p s.l) ∧ h' = h) := by
  refine ACalls.of_ay Try.func51 rfl Try.ntmps51 ⟨_, _, rfl, rfl⟩ ?_; simp only [List.length_cons, List.length_nil, Nat.reduceAdd, Nat.reduceSub, List.replicate_succ, List.replicate_zero, List.cons_append, List.nil_append]
  simp (implicitDefEqProofs := false) (maxSteps := 2000000) only [go_sem, Nat.reduceAdd, Nat.reduceSub, Nat.reduceMul, Nat.reduceLT, Nat.reduceLeDiff, Nat.reduceEqDiff, Nat.reduceBEq, Nat.reduceBNe, Nat.reducePow, Int.reduceBEq, Int.reduceBNe, Int.reduceEq, Int.reduceLT, Int.reduceLE, Int.reduceNeg, Int.reduceToNat, Int.reduceMul, Int.reduceAdd, Int.reduceSub, Int.reducePow, Int.reduceFDiv, reduceCtorEq, reduceIte]
  refine AWP.loopI (fun i : Nat => s.l.length - i) (fun i => [slV encEv s, .func (.func G) #[] #[c, d], junk, junk, junk, junk, junk, .int .i64 (s.l.length : Nat), .int .i64 (i : Nat), junk, junk, junk, junk, junk, junk, junk, junk, junk, junk]) (fun _ => h) (fun i => i ≤ s.l.length ∧ ∀ x ∈ s.l.take i, p x = false) 0 ⟨Nat.zero_le _, by simp⟩ ?_ ?_
  · refine Keeps.ease0 ?_
    repeat (first | exact Keeps.nil | refine Keeps.junk _ ?_ | refine Keeps.keep (by first | exact .plain _ rfl | exact (Tree.slV tree_encEv _).ren | exact vrenFunc2 hc hd) ?_)
  · intro i hi
    obtain ⟨hi, hp⟩ := hi
    by_cases hlt : i < s.l.length
    · have hw1 : IntKind.i64.wrap ((i : Int) + 1) = ((i + 1 : Nat) : Int) := by rw [wrap_i64_of _ (by omega) (by omega), ofNat_succ']
      simp (implicitDefEqProofs := false) (maxSteps := 2000000) only [go_sem, Nat.reduceAdd, Nat.reduceSub, Nat.reduceMul, Nat.reduceLT, Nat.reduceLeDiff, Nat.reduceEqDiff, Nat.reduceBEq, Nat.reduceBNe, Nat.reducePow, Int.reduceBEq, Int.reduceBNe, Int.reduceEq, Int.reduceLT, Int.reduceLE, Int.reduceNeg, Int.reduceToNat, Int.reduceMul, Int.reduceAdd, Int.reduceSub, Int.reducePow, Int.reduceFDiv, reduceCtorEq, reduceIte, hlt, hG]
      refine astep_call (hf _ (List.getElem_mem hlt)) ?_
      cases hpx : p s.l[i] with
      | true =>
        simp (implicitDefEqProofs := false) (maxSteps := 2000000) only [go_sem, Nat.reduceAdd, Nat.reduceSub, Nat.reduceMul, Nat.reduceLT, Nat.reduceLeDiff, Nat.reduceEqDiff, Nat.reduceBEq, Nat.reduceBNe, Nat.reducePow, Int.reduceBEq, Int.reduceBNe, Int.reduceEq, Int.reduceLT, Int.reduceLE, Int.reduceNeg, Int.reduceToNat, Int.reduceMul, Int.reduceAdd, Int.reduceSub, Int.reducePow, Int.reduceFDiv, reduceCtorEq, reduceIte]
        refine apost_tmp0 (v := .int .i64 (idxE p s.l)) rfl rfl ⟨rfl, rfl⟩ _ ?_; rw [idxE_at hlt hpx hp]; rfl
      | false =>
        simp (implicitDefEqProofs := false) (maxSteps := 2000000) only [go_sem, Nat.reduceAdd, Nat.reduceSub, Nat.reduceMul, Nat.reduceLT, Nat.reduceLeDiff, Nat.reduceEqDiff, Nat.reduceBEq, Nat.reduceBNe, Nat.reducePow, Int.reduceBEq, Int.reduceBNe, Int.reduceEq, Int.reduceLT, Int.reduceLE, Int.reduceNeg, Int.reduceToNat, Int.reduceMul, Int.reduceAdd, Int.reduceSub, Int.reducePow, Int.reduceFDiv, reduceCtorEq, reduceIte, hw1]
        refine ⟨i + 1, by omega, ⟨by omega, fun x hx => ?_⟩, Keeps.ease0 ?_⟩
        · rw [List.take_add_one, List.getElem?_eq_getElem hlt] at hx
          rcases List.mem_append.1 hx with hx | hx
          · exact hp x hx
          · simp at hx; rw [hx]; exact hpx
        · repeat (first | exact Keeps.nil | refine Keeps.junk _ ?_ | refine Keeps.keep (by first | exact .plain _ rfl | exact (Tree.slV tree_encEv _).ren | exact vrenFunc2 hc hd) ?_)
    · simp (implicitDefEqProofs := false) (maxSteps := 2000000) only [go_sem, Nat.reduceAdd, Nat.reduceSub, Nat.reduceMul, Nat.reduceLT, Nat.reduceLeDiff, Nat.reduceEqDiff, Nat.reduceBEq, Nat.reduceBNe, Nat.reducePow, Int.reduceBEq, Int.reduceBNe, Int.reduceEq, Int.reduceLT, Int.reduceLE, Int.reduceNeg, Int.reduceToNat, Int.reduceMul, Int.reduceAdd, Int.reduceSub, Int.reducePow, Int.reduceFDiv, reduceCtorEq, reduceIte, hlt]
      refine apost_tmp0 (v := .int .i64 (idxE p s.l)) rfl rfl ⟨rfl, rfl⟩ _ ?_; rw [idxE_none fun x hx => hp x (by rw [List.take_of_length_le (by omega)]; exact hx)]; rfl

set_option maxRecDepth 10000 in
set_option maxHeartbeats 4000000 in
theorem containsE_calls (s : Sl Ev) (hs : s.l.length < 2 ^ 63) (G : FuncId) (c d : Value) (h : AH) (hc : VRen id h.length c c) (hd : VRen id h.length d d) (hG : hasBody Try.prog G = true) (p : Ev → Bool)
    (hf : ∀ x, x ∈ s.l → ACalls Try.prog G #[.agg (encEv x).toArray, c, d] h (fun v h' => v = .bool (p x) ∧ h' = h)) :
    ACalls Try.prog 30 #[slV encEv s, .func (.func G) #[] #[c, d]] h (fun v h' => v = .bool (s.l.any p) ∧ h' = h) := by
  refine ACalls.of_ay Try.func30 rfl Try.ntmps30 ⟨_, _, rfl, rfl⟩ ?_; simp only [List.length_cons, List.length_nil, Nat.reduceAdd, Nat.reduceSub, List.replicate_succ, List.replicate_zero, List.cons_append, List.nil_append]
  simp (implicitDefEqProofs := false) (maxSteps := 2000000) only [go_sem, Nat.reduceAdd, Nat.reduceSub, Nat.reduceMul, Nat.reduceLT, Nat.reduceLeDiff, Nat.reduceEqDiff, Nat.reduceBEq, Nat.reduceBNe, Nat.reducePow, Int.reduceBEq, Int.reduceBNe, Int.reduceEq, Int.reduceLT, Int.reduceLE, Int.reduceNeg, Int.reduceToNat, Int.reduceMul, Int.reduceAdd, Int.reduceSub, Int.reducePow, Int.reduceFDiv, reduceCtorEq, reduceIte]
  refine astep_call (indexE_calls s hs G c d h hc hd hG p hf) ?_
  simp (implicitDefEqProofs := false) (maxSteps := 2000000) only [go_sem, Nat.reduceAdd, Nat.reduceSub, Nat.reduceMul, Nat.reduceLT, Nat.reduceLeDiff, Nat.reduceEqDiff, Nat.reduceBEq, Nat.reduceBNe, Nat.reducePow, Int.reduceBEq, Int.reduceBNe, Int.reduceEq, Int.reduceLT, Int.reduceLE, Int.reduceNeg, Int.reduceToNat, Int.reduceMul, Int.reduceAdd, Int.reduceSub, Int.reducePow, Int.reduceFDiv, reduceCtorEq, reduceIte]
  refine apost_tmp0 (v := .bool (s.l.any p)) rfl rfl ⟨rfl, rfl⟩ _ ?_
  rw [← idxE_any]; rfl

/-- near: no more than 128 above -/
def nearW (slot v : Word4) : Bool := decide (valW (sb slot v 4).1 < 2 ^ 64) && decide ((((sb slot v 4).1[0].toNat : Nat) : Int) ≤ 128)
/-- what an event says of a word and a slot -/
def belP (w slot : Word4) (e : Ev) : Bool := !(((e.op.toNat : Nat) : Int) != 32) && !(e.fault != 0) && begins e.data.l (bytesW w) && nearW slot e.value

theorem smallV_near (w : Word4) : smallV w = .tuple #[.int .u64 (if valW w < 2 ^ 64 then ((w[0].toNat : Nat) : Int) else 0), .bool (decide (valW w < 2 ^ 64))] := rfl

set_option maxRecDepth 10000 in
set_option maxHeartbeats 4000000 in
theorem belFn_calls (x : Ev) (w slot : Word4) (h : AH) (b1 b2 : Nat) (hb1 : h[b1]? = some (.cells #[slV encU8 (Sl.full (bytesW w))] 0 true)) (hb2 : h[b2]? = some (.cells (encWord slot).toArray 0 true)) :
    ACalls Try.prog 31 #[.agg (encEv x).toArray, .pointer (some ⟨b1, 0, none⟩), .pointer (some ⟨b2, 0, none⟩)] h (fun v h' => v = .bool (belP w slot x) ∧ h' = h) := by
  refine ACalls.of_ay Try.func31 rfl Try.ntmps31 ⟨_, _, rfl, rfl⟩ ?_; simp only [List.length_cons, List.length_nil, Nat.reduceAdd, Nat.reduceSub, List.replicate_succ, List.replicate_zero, List.cons_append, List.nil_append]
  unfold belP
  cases hA : (((x.op.toNat : Nat) : Int) != 32) with
  | true =>
    simp (implicitDefEqProofs := false) (maxSteps := 2000000) only [go_sem, Nat.reduceAdd, Nat.reduceSub, Nat.reduceMul, Nat.reduceLT, Nat.reduceLeDiff, Nat.reduceEqDiff, Nat.reduceBEq, Nat.reduceBNe, Nat.reducePow, Int.reduceBEq, Int.reduceBNe, Int.reduceEq, Int.reduceLT, Int.reduceLE, Int.reduceNeg, Int.reduceToNat, Int.reduceMul, Int.reduceAdd, Int.reduceSub, Int.reducePow, Int.reduceFDiv, reduceCtorEq, reduceIte, hA]
    exact apost_tmp rfl rfl ⟨rfl, rfl⟩ _ _ rfl
  | false =>
  cases hB : (x.fault != 0) with
  | true =>
    simp (implicitDefEqProofs := false) (maxSteps := 2000000) only [go_sem, Nat.reduceAdd, Nat.reduceSub, Nat.reduceMul, Nat.reduceLT, Nat.reduceLeDiff, Nat.reduceEqDiff, Nat.reduceBEq, Nat.reduceBNe, Nat.reducePow, Int.reduceBEq, Int.reduceBNe, Int.reduceEq, Int.reduceLT, Int.reduceLE, Int.reduceNeg, Int.reduceToNat, Int.reduceMul, Int.reduceAdd, Int.reduceSub, Int.reducePow, Int.reduceFDiv, reduceCtorEq, reduceIte, hA, hB]
    exact apost_tmp rfl rfl ⟨rfl, rfl⟩ _ _ rfl
  | false =>
    simp (implicitDefEqProofs := false) (maxSteps := 2000000) only [go_sem, Nat.reduceAdd, Nat.reduceSub, Nat.reduceMul, Nat.reduceLT, Nat.reduceLeDiff, Nat.reduceEqDiff, Nat.reduceBEq, Nat.reduceBNe, Nat.reducePow, Int.reduceBEq, Int.reduceBNe, Int.reduceEq, Int.reduceLT, Int.reduceLE, Int.reduceNeg, Int.reduceToNat, Int.reduceMul, Int.reduceAdd, Int.reduceSub, Int.reducePow, Int.reduceFDiv, reduceCtorEq, reduceIte, hA, hB, hb1, at_old hb1]
    refine astep_call (prefix_calls _ _ _) ?_
    cases hC : begins x.data.l (Sl.full (bytesW w)).l with
    | false =>
      have hC' : begins x.data.l (bytesW w) = false := hC
      rw [hC']
      simp (implicitDefEqProofs := false) (maxSteps := 2000000) only [go_sem, Nat.reduceAdd, Nat.reduceSub, Nat.reduceMul, Nat.reduceLT, Nat.reduceLeDiff, Nat.reduceEqDiff, Nat.reduceBEq, Nat.reduceBNe, Nat.reducePow, Int.reduceBEq, Int.reduceBNe, Int.reduceEq, Int.reduceLT, Int.reduceLE, Int.reduceNeg, Int.reduceToNat, Int.reduceMul, Int.reduceAdd, Int.reduceSub, Int.reducePow, Int.reduceFDiv, reduceCtorEq, reduceIte]
      exact apost_tmp rfl rfl ⟨rfl, rfl⟩ _ _ rfl
    | true =>
      have hC' : begins x.data.l (bytesW w) = true := hC
      rw [hC']
      simp (implicitDefEqProofs := false) (maxSteps := 2000000) only [go_sem, Nat.reduceAdd, Nat.reduceSub, Nat.reduceMul, Nat.reduceLT, Nat.reduceLeDiff, Nat.reduceEqDiff, Nat.reduceBEq, Nat.reduceBNe, Nat.reducePow, Int.reduceBEq, Int.reduceBNe, Int.reduceEq, Int.reduceLT, Int.reduceLE, Int.reduceNeg, Int.reduceToNat, Int.reduceMul, Int.reduceAdd, Int.reduceSub, Int.reducePow, Int.reduceFDiv, reduceCtorEq, reduceIte, hb2, at_old hb2, length_encWord]
      refine astep_call (wsub_calls slot x.value _) ?_
      simp (implicitDefEqProofs := false) (maxSteps := 2000000) only [go_sem, Nat.reduceAdd, Nat.reduceSub, Nat.reduceMul, Nat.reduceLT, Nat.reduceLeDiff, Nat.reduceEqDiff, Nat.reduceBEq, Nat.reduceBNe, Nat.reducePow, Int.reduceBEq, Int.reduceBNe, Int.reduceEq, Int.reduceLT, Int.reduceLE, Int.reduceNeg, Int.reduceToNat, Int.reduceMul, Int.reduceAdd, Int.reduceSub, Int.reducePow, Int.reduceFDiv, reduceCtorEq, reduceIte, length_encWord]
      refine astep_call (wsmall_calls (sb slot x.value 4).1 _) ?_
      unfold nearW
      cases hD : decide (valW (sb slot x.value 4).1 < 2 ^ 64) with
      | true =>
        rw [smallV_yes (of_decide_eq_true hD)]
        simp (implicitDefEqProofs := false) (maxSteps := 2000000) only [go_sem, Nat.reduceAdd, Nat.reduceSub, Nat.reduceMul, Nat.reduceLT, Nat.reduceLeDiff, Nat.reduceEqDiff, Nat.reduceBEq, Nat.reduceBNe, Nat.reducePow, Int.reduceBEq, Int.reduceBNe, Int.reduceEq, Int.reduceLT, Int.reduceLE, Int.reduceNeg, Int.reduceToNat, Int.reduceMul, Int.reduceAdd, Int.reduceSub, Int.reducePow, Int.reduceFDiv, reduceCtorEq, reduceIte]
        exact apost_tmp rfl rfl ⟨rfl, rfl⟩ _ _ rfl
      | false =>
        rw [smallV_no (of_decide_eq_false hD)]
        simp (implicitDefEqProofs := false) (maxSteps := 2000000) only [go_sem, Nat.reduceAdd, Nat.reduceSub, Nat.reduceMul, Nat.reduceLT, Nat.reduceLeDiff, Nat.reduceEqDiff, Nat.reduceBEq, Nat.reduceBNe, Nat.reducePow, Int.reduceBEq, Int.reduceBNe, Int.reduceEq, Int.reduceLT, Int.reduceLE, Int.reduceNeg, Int.reduceToNat, Int.reduceMul, Int.reduceAdd, Int.reduceSub, Int.reducePow, Int.reduceFDiv, reduceCtorEq, reduceIte]
        exact apost_tmp rfl rfl ⟨rfl, rfl⟩ _ _ rfl
end Go.Proofs
