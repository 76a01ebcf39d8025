import Derived.Test.YtogefnepdjkioaaBel2
set_option linter.all false
set_option linter.unusedSimpArgs false
set_option linter.unusedVariables false
/- Belongs, both -/
namespace Go.Proofs
open Go Go.Am

/-- does a slot belong to an address? -/
def belB (s : List Ev) (a : Addr20) (slot : Word4) : Bool := decide (slot = wideW a) || s.any (belP (wideW a) slot)

theorem rsmall_calls2 (a : Word4) (h : AH) :
    ACalls Try.prog 31 #[.agg (encWord a).toArray] h (fun v h' => ∃ (n : Int) (b : Bool), v = .tuple #[.int .u64 n, .bool b] ∧ (b = true ↔ valW a < 2 ^ 64) ∧ (b = true → n = ((a[0].toNat : Nat) : Int)) ∧ h' = h) :=
  (rsmall_calls a h).mono fun v h' e => ⟨_, _, e.1, by rw [decide_eq_true_iff], fun hb => by rw [if_pos (of_decide_eq_true hb)], e.2⟩
theorem near_no {slot v : Word4} (h : ¬ valW (sb slot v 4).1 < 2 ^ 64) : nearW slot v = false := by unfold nearW; rw [decide_eq_false h]; rfl
theorem near_is {slot v : Word4} {n : Int} (h : valW (sb slot v 4).1 < 2 ^ 64) (hn : n = (((sb slot v 4).1[0].toNat : Nat) : Int)) : nearW slot v = decide (n ≤ 128) := by unfold nearW; rw [decide_eq_true h, hn]; rfl
theorem oren3 {σ : Nat → Nat} {L : Nat} {x : Addr20} {a b : Word4} : ∀ o ∈ [AObj.cells (encAddr x).toArray 0 true, AObj.cells (encWord a).toArray 0 true, AObj.cells (encWord b).toArray 0 true], ORen σ L o o := by
  intro o ho
  simp only [List.mem_cons, List.not_mem_nil, or_false] at ho
  rcases ho with rfl | rfl | rfl
  · exact ORen.plainCells (tree_encAddr _)
  · exact ORen.plainCells (tree_encWord _)
  · exact ORen.plainCells (tree_encWord _)

set_option maxRecDepth 10000 in
set_option maxHeartbeats 4000000 in
theorem belongs_calls (s : Sl Ev) (hs : s.l.length < 2 ^ 63) (a : Addr20) (slot : Word4) (h : AH) :
    ACalls Try.prog 10 #[slV encEv s, .agg (encAddr a).toArray, .agg (encWord slot).toArray] h (fun v h' => v = .bool (belB s.l a slot) ∧ h' = h) := by
  refine ACalls.of_ay Try.func10 rfl Try.ntmps10 ⟨_, _, rfl, rfl⟩ ?_; simp only [List.length_cons, List.length_nil, Nat.reduceAdd, Nat.reduceSub, List.replicate_succ, List.replicate_zero, List.cons_append, List.nil_append]
  simp (implicitDefEqProofs := false) only [go_sem, Nat.reduceAdd, Nat.reduceSub, Nat.reduceMul, Nat.reduceLT, Nat.reduceLeDiff, Nat.reduceEqDiff, Nat.reduceBEq, Nat.reduceBNe, Nat.reducePow, Int.reduceBEq, Int.reduceBNe, Int.reduceEq, Int.reduceLT, Int.reduceLE, Int.reduceNeg, Int.reduceToNat, Int.reduceMul, Int.reduceAdd, Int.reduceSub, Int.reducePow, Int.reduceFDiv, reduceCtorEq, reduceIte, length_encAddr]
  refine astep_call (wide_calls a _) ?_
  simp (implicitDefEqProofs := false) only [go_sem, Nat.reduceAdd, Nat.reduceSub, Nat.reduceMul, Nat.reduceLT, Nat.reduceLeDiff, Nat.reduceEqDiff, Nat.reduceBEq, Nat.reduceBNe, Nat.reducePow, Int.reduceBEq, Int.reduceBNe, Int.reduceEq, Int.reduceLT, Int.reduceLE, Int.reduceNeg, Int.reduceToNat, Int.reduceMul, Int.reduceAdd, Int.reduceSub, Int.reducePow, Int.reduceFDiv, reduceCtorEq, reduceIte]
  refine astep_call (wbytes_calls (wideW a) _) ?_
  simp (implicitDefEqProofs := false) only [go_sem, Nat.reduceAdd, Nat.reduceSub, Nat.reduceMul, Nat.reduceLT, Nat.reduceLeDiff, Nat.reduceEqDiff, Nat.reduceBEq, Nat.reduceBNe, Nat.reducePow, Int.reduceBEq, Int.reduceBNe, Int.reduceEq, Int.reduceLT, Int.reduceLE, Int.reduceNeg, Int.reduceToNat, Int.reduceMul, Int.reduceAdd, Int.reduceSub, Int.reducePow, Int.reduceFDiv, reduceCtorEq, reduceIte, length_encWord, length_encAddr]
  refine ⟨by kernel_rfl, by kernel_rfl, ?_⟩
  refine dstep_call (wide_calls a _) pres_refl ?_
  simp (implicitDefEqProofs := false) only [go_sem, Nat.reduceAdd, Nat.reduceSub, Nat.reduceMul, Nat.reduceLT, Nat.reduceLeDiff, Nat.reduceEqDiff, Nat.reduceBEq, Nat.reduceBNe, Nat.reducePow, Int.reduceBEq, Int.reduceBNe, Int.reduceEq, Int.reduceLT, Int.reduceLE, Int.reduceNeg, Int.reduceToNat, Int.reduceMul, Int.reduceAdd, Int.reduceSub, Int.reducePow, Int.reduceFDiv, reduceCtorEq, reduceIte]
  cases hE : decide (slot = wideW a) with
  | true =>
    simp (implicitDefEqProofs := false) only [go_sem, Nat.reduceAdd, Nat.reduceSub, Nat.reduceMul, Nat.reduceLT, Nat.reduceLeDiff, Nat.reduceEqDiff, Nat.reduceBEq, Nat.reduceBNe, Nat.reducePow, Int.reduceBEq, Int.reduceBNe, Int.reduceEq, Int.reduceLT, Int.reduceLE, Int.reduceNeg, Int.reduceToNat, Int.reduceMul, Int.reduceAdd, Int.reduceSub, Int.reducePow, Int.reduceFDiv, reduceCtorEq, reduceIte]
    exact apost_tmp (v := .bool (belB s.l a slot)) rfl rfl ⟨rfl, rfl⟩ _ _ (by rw [belB, hE]; rfl)
  | false =>
    simp (implicitDefEqProofs := false) only [go_sem, Nat.reduceAdd, Nat.reduceSub, Nat.reduceMul, Nat.reduceLT, Nat.reduceLeDiff, Nat.reduceEqDiff, Nat.reduceBEq, Nat.reduceBNe, Nat.reducePow, Int.reduceBEq, Int.reduceBNe, Int.reduceEq, Int.reduceLT, Int.reduceLE, Int.reduceNeg, Int.reduceToNat, Int.reduceMul, Int.reduceAdd, Int.reduceSub, Int.reducePow, Int.reduceFDiv, reduceCtorEq, reduceIte]
    refine astep_call (containsE_calls s hs _ _ _ _ (.ptr _ _ _ (by simp) rfl) (.ptr _ _ _ (by simp) rfl) (by kernel_rfl) (belP (wideW a) slot) fun x _ => belFn_calls x (wideW a) slot _ (h.length + 2) (h.length + 1) ?_ ?_) ?_
    · exact at_new _ _ _
    · exact at_new _ _ _
    simp (implicitDefEqProofs := false) only [go_sem, Nat.reduceAdd, Nat.reduceSub, Nat.reduceMul, Nat.reduceLT, Nat.reduceLeDiff, Nat.reduceEqDiff, Nat.reduceBEq, Nat.reduceBNe, Nat.reducePow, Int.reduceBEq, Int.reduceBNe, Int.reduceEq, Int.reduceLT, Int.reduceLE, Int.reduceNeg, Int.reduceToNat, Int.reduceMul, Int.reduceAdd, Int.reduceSub, Int.reducePow, Int.reduceFDiv, reduceCtorEq, reduceIte]
    exact apost_tmp (v := .bool (belB s.l a slot)) rfl rfl ⟨rfl, rfl⟩ _ _ (by rw [belB, hE]; rfl)

theorem begins_word (d : List UInt8) (w : Word4) : begins d (bytesW w) = (decide (32 ≤ d.length) && decide (rdW (d.take 32) = w)) := by
  unfold begins
  rw [length_bytesW]
  by_cases h : 32 ≤ d.length
  · rw [decide_eq_true h]
    simp only [Bool.true_and]
    have hl : (d.take 32).length = 32 := by simp [h]
    have e : rdW (d.take 32) = rd (d.take 32) 32 := by unfold rdW; rw [hl]; rfl
    rw [e, Bool.eq_iff_iff, beq_iff_eq, decide_eq_true_iff]
    constructor
    · intro h1; rw [h1]; exact rd_bytesW w
    · intro h1; rw [← h1]; exact (bytesW_rd hl).symm
  · rw [decide_eq_false h]; rfl

set_option maxRecDepth 10000 in
set_option maxHeartbeats 8000000 in
theorem rbelongs_calls (s : Sl Ev) (hs : s.l.length < 2 ^ 63) (hd : ∀ e ∈ s.l, e.data.l.length < 2 ^ 63) (a : Addr20) (slot : Word4) (h : AH) :
    ACalls Try.prog 11 #[slV encEv s, .agg (encAddr a).toArray, .agg (encWord slot).toArray] h (fun v h' => v = .bool (belB s.l a slot) ∧ h' = h) := by
  refine ACalls.of_ay Try.func11 rfl Try.ntmps11 ⟨_, _, rfl, rfl⟩ ?_; simp only [List.length_cons, List.length_nil, Nat.reduceAdd, Nat.reduceSub, List.replicate_succ, List.replicate_zero, List.cons_append, List.nil_append]
  simp (implicitDefEqProofs := false) only [go_sem, Nat.reduceAdd, Nat.reduceSub, Nat.reduceMul, Nat.reduceLT, Nat.reduceLeDiff, Nat.reduceEqDiff, Nat.reduceBEq, Nat.reduceBNe, Nat.reducePow, Int.reduceBEq, Int.reduceBNe, Int.reduceEq, Int.reduceLT, Int.reduceLE, Int.reduceNeg, Int.reduceToNat, Int.reduceMul, Int.reduceAdd, Int.reduceSub, Int.reducePow, Int.reduceFDiv, reduceCtorEq, reduceIte, length_encAddr]
  refine astep_call (rwide_calls a _) ?_
  simp (implicitDefEqProofs := false) only [go_sem, Nat.reduceAdd, Nat.reduceSub, Nat.reduceMul, Nat.reduceLT, Nat.reduceLeDiff, Nat.reduceEqDiff, Nat.reduceBEq, Nat.reduceBNe, Nat.reducePow, Int.reduceBEq, Int.reduceBNe, Int.reduceEq, Int.reduceLT, Int.reduceLE, Int.reduceNeg, Int.reduceToNat, Int.reduceMul, Int.reduceAdd, Int.reduceSub, Int.reducePow, Int.reduceFDiv, reduceCtorEq, reduceIte, length_encWord]
  cases hE : decide (slot = wideW a) with
  | true =>
    simp (implicitDefEqProofs := false) only [go_sem, Nat.reduceAdd, Nat.reduceSub, Nat.reduceMul, Nat.reduceLT, Nat.reduceLeDiff, Nat.reduceEqDiff, Nat.reduceBEq, Nat.reduceBNe, Nat.reducePow, Int.reduceBEq, Int.reduceBNe, Int.reduceEq, Int.reduceLT, Int.reduceLE, Int.reduceNeg, Int.reduceToNat, Int.reduceMul, Int.reduceAdd, Int.reduceSub, Int.reducePow, Int.reduceFDiv, reduceCtorEq, reduceIte]
    exact apost_tmp (v := .bool (belB s.l a slot)) rfl rfl ⟨rfl, rfl⟩ _ _ (by rw [belB, hE]; rfl)
  | false =>
    simp (implicitDefEqProofs := false) only [go_sem, Nat.reduceAdd, Nat.reduceSub, Nat.reduceMul, Nat.reduceLT, Nat.reduceLeDiff, Nat.reduceEqDiff, Nat.reduceBEq, Nat.reduceBNe, Nat.reducePow, Int.reduceBEq, Int.reduceBNe, Int.reduceEq, Int.reduceLT, Int.reduceLE, Int.reduceNeg, Int.reduceToNat, Int.reduceMul, Int.reduceAdd, Int.reduceSub, Int.reducePow, Int.reduceFDiv, reduceCtorEq, reduceIte]
    refine AWP.loopI (fun i : Nat => s.l.length - i) (fun i => [slV encEv s, junk, junk, junk, junk, .pointer (some ⟨h.length + 1, 0, none⟩), junk, .pointer (some ⟨h.length + 2, 0, none⟩), .int .i64 (i : Nat), junk, junk, junk, junk, junk, junk, junk, junk, junk, junk, junk, junk, junk, junk, junk, junk, junk, junk, junk, junk, junk, junk, junk, junk, junk, junk, junk, junk, junk, junk, junk, junk, junk, junk, junk, junk, junk, junk, junk, junk, junk, junk, junk, junk, junk, junk, junk, junk, junk, junk, junk, junk, junk, junk, junk, junk, junk, junk, junk, junk, junk, junk, junk, junk, junk, junk, junk, junk, junk])
      (fun i => h ++ [.cells (encAddr a).toArray 0 true, .cells (encWord slot).toArray 0 true, .cells (encWord (wideW a)).toArray 0 true]) (fun i => i ≤ s.l.length ∧ ∀ x ∈ s.l.take i, belP (wideW a) slot x = false) 0 ⟨Nat.zero_le _, by simp⟩ ?_ ?_
    · refine Keeps.easeL oren3 ?_
      repeat (first | exact Keeps.nil | refine Keeps.junk _ ?_ | refine Keeps.keep (by first | exact .plain _ rfl | exact (Tree.slV tree_encEv _).ren | exact .ptr _ _ _ (by simp) rfl) ?_)
    · intro i hi
      obtain ⟨hi, hp⟩ := hi
      by_cases hlt : i < s.l.length
      · have hw1 : IntKind.i64.wrap ((i : Int) + 1) = ((i + 1 : Nat) : Int) := by rw [wrap_i64_of _ (by omega) (by omega), ofNat_succ']
        have next : ∀ x, belP (wideW a) slot s.l[i] = false → x ∈ s.l.take (i + 1) → belP (wideW a) slot x = false := by
          intro x hx hm
          rw [List.take_add_one, List.getElem?_eq_getElem hlt] at hm
          rcases List.mem_append.1 hm with hm | hm
          · exact hp x hm
          · simp at hm; rw [hm]; exact hx
        have hbel : belP (wideW a) slot s.l[i] = (!(((s.l[i].op.toNat : Nat) : Int) != 32) && !(s.l[i].fault != 0) && begins s.l[i].data.l (bytesW (wideW a)) && nearW slot s.l[i].value) := rfl
        rw [begins_word] at hbel
        cases hA : (((s.l[i].op.toNat : Nat) : Int) != 32) with
        | true =>
          rw [hA] at hbel; simp only [Bool.not_true, Bool.false_and] at hbel
          simp (implicitDefEqProofs := false) only [go_sem, Nat.reduceAdd, Nat.reduceSub, Nat.reduceMul, Nat.reduceLT, Nat.reduceLeDiff, Nat.reduceEqDiff, Nat.reduceBEq, Nat.reduceBNe, Nat.reducePow, Int.reduceBEq, Int.reduceBNe, Int.reduceEq, Int.reduceLT, Int.reduceLE, Int.reduceNeg, Int.reduceToNat, Int.reduceMul, Int.reduceAdd, Int.reduceSub, Int.reducePow, Int.reduceFDiv, reduceCtorEq, reduceIte, hlt, hA, hw1]
          refine ⟨by kernel_rfl, by kernel_rfl, ?_⟩
          refine ⟨i + 1, by omega, ⟨by omega, fun x => next x hbel⟩, Keeps.easeL oren3 ?_⟩
          repeat (first | exact Keeps.nil | refine Keeps.junk _ ?_ | refine Keeps.keep (by first | exact .plain _ rfl | exact (Tree.slV tree_encEv _).ren | exact .ptr _ _ _ (by simp) rfl) ?_)
        | false =>
        cases hB : (s.l[i].fault != 0) with
        | true =>
          rw [hA, hB] at hbel; simp only [Bool.not_true, Bool.not_false, Bool.true_and, Bool.false_and] at hbel
          simp (implicitDefEqProofs := false) only [go_sem, Nat.reduceAdd, Nat.reduceSub, Nat.reduceMul, Nat.reduceLT, Nat.reduceLeDiff, Nat.reduceEqDiff, Nat.reduceBEq, Nat.reduceBNe, Nat.reducePow, Int.reduceBEq, Int.reduceBNe, Int.reduceEq, Int.reduceLT, Int.reduceLE, Int.reduceNeg, Int.reduceToNat, Int.reduceMul, Int.reduceAdd, Int.reduceSub, Int.reducePow, Int.reduceFDiv, reduceCtorEq, reduceIte, hlt, hA, hB, hw1]
          refine ⟨by kernel_rfl, by kernel_rfl, ?_⟩
          refine ⟨i + 1, by omega, ⟨by omega, fun x => next x hbel⟩, Keeps.easeL oren3 ?_⟩
          repeat (first | exact Keeps.nil | refine Keeps.junk _ ?_ | refine Keeps.keep (by first | exact .plain _ rfl | exact (Tree.slV tree_encEv _).ren | exact .ptr _ _ _ (by simp) rfl) ?_)
        | false =>
        by_cases hC : s.l[i].data.l.length < 32
        · have hC' : ((s.l[i].data.l.length : Nat) : Int) < 32 := by omega
          rw [hA, hB, decide_eq_false (show ¬ 32 ≤ s.l[i].data.l.length by omega)] at hbel; simp only [Bool.not_false, Bool.true_and, Bool.false_and] at hbel
          simp (implicitDefEqProofs := false) only [go_sem, Nat.reduceAdd, Nat.reduceSub, Nat.reduceMul, Nat.reduceLT, Nat.reduceLeDiff, Nat.reduceEqDiff, Nat.reduceBEq, Nat.reduceBNe, Nat.reducePow, Int.reduceBEq, Int.reduceBNe, Int.reduceEq, Int.reduceLT, Int.reduceLE, Int.reduceNeg, Int.reduceToNat, Int.reduceMul, Int.reduceAdd, Int.reduceSub, Int.reducePow, Int.reduceFDiv, reduceCtorEq, reduceIte, hlt, hA, hB, hC', hw1]
          refine ⟨by kernel_rfl, by kernel_rfl, ?_⟩
          refine ⟨i + 1, by omega, ⟨by omega, fun x => next x hbel⟩, Keeps.easeL oren3 ?_⟩
          repeat (first | exact Keeps.nil | refine Keeps.junk _ ?_ | refine Keeps.keep (by first | exact .plain _ rfl | exact (Tree.slV tree_encEv _).ren | exact .ptr _ _ _ (by simp) rfl) ?_)
        · have hC' : ¬ ((s.l[i].data.l.length : Nat) : Int) < 32 := by omega
          have hC2 : 32 ≤ s.l[i].data.l.length := by omega
          have hC3 : (32 : Int) ≤ ((s.l[i].data.l.length : Nat) : Int) := by omega
          simp (implicitDefEqProofs := false) only [go_sem, Nat.reduceAdd, Nat.reduceSub, Nat.reduceMul, Nat.reduceLT, Nat.reduceLeDiff, Nat.reduceEqDiff, Nat.reduceBEq, Nat.reduceBNe, Nat.reducePow, Int.reduceBEq, Int.reduceBNe, Int.reduceEq, Int.reduceLT, Int.reduceLE, Int.reduceNeg, Int.reduceToNat, Int.reduceMul, Int.reduceAdd, Int.reduceSub, Int.reducePow, Int.reduceFDiv, reduceCtorEq, reduceIte, hlt, hA, hB, hC', hC2, hC3, hw1, length_encU8]
          refine ⟨by kernel_rfl, by kernel_rfl, ?_⟩
          refine dstep_call (rread_calls _ (by simp; omega) _) pres_refl ?_
          cases hG : decide (rdW (List.take 32 s.l[i].data.l) = wideW a) with
          | false =>
            rw [hA, hB, hG] at hbel; simp only [Bool.not_false, Bool.true_and, Bool.and_false, Bool.false_and] at hbel
            simp (implicitDefEqProofs := false) only [go_sem, Nat.reduceAdd, Nat.reduceSub, Nat.reduceMul, Nat.reduceLT, Nat.reduceLeDiff, Nat.reduceEqDiff, Nat.reduceBEq, Nat.reduceBNe, Nat.reducePow, Int.reduceBEq, Int.reduceBNe, Int.reduceEq, Int.reduceLT, Int.reduceLE, Int.reduceNeg, Int.reduceToNat, Int.reduceMul, Int.reduceAdd, Int.reduceSub, Int.reducePow, Int.reduceFDiv, reduceCtorEq, reduceIte, List.drop_zero, hG, hw1]
            refine ⟨i + 1, by omega, ⟨by omega, fun x => next x hbel⟩, Keeps.easeL oren3 ?_⟩
            repeat (first | exact Keeps.nil | refine Keeps.junk _ ?_ | refine Keeps.keep (by first | exact .plain _ rfl | exact (Tree.slV tree_encEv _).ren | exact .ptr _ _ _ (by simp) rfl) ?_)
          | true =>
            rw [hA, hB, hG, decide_eq_true hC2] at hbel; simp only [Bool.not_false, Bool.true_and, Bool.and_true] at hbel
            simp (implicitDefEqProofs := false) only [go_sem, Nat.reduceAdd, Nat.reduceSub, Nat.reduceMul, Nat.reduceLT, Nat.reduceLeDiff, Nat.reduceEqDiff, Nat.reduceBEq, Nat.reduceBNe, Nat.reducePow, Int.reduceBEq, Int.reduceBNe, Int.reduceEq, Int.reduceLT, Int.reduceLE, Int.reduceNeg, Int.reduceToNat, Int.reduceMul, Int.reduceAdd, Int.reduceSub, Int.reducePow, Int.reduceFDiv, reduceCtorEq, reduceIte, List.drop_zero, hG, hw1, hlt]
            refine ⟨by kernel_rfl, by kernel_rfl, ?_⟩
            refine dstep_callA (fun x => rsub_calls slot s.l[i].value _) pres_refl ?_
            simp (implicitDefEqProofs := false) only [go_sem, Nat.reduceAdd, Nat.reduceSub, Nat.reduceMul, Nat.reduceLT, Nat.reduceLeDiff, Nat.reduceEqDiff, Nat.reduceBEq, Nat.reduceBNe, Nat.reducePow, Int.reduceBEq, Int.reduceBNe, Int.reduceEq, Int.reduceLT, Int.reduceLE, Int.reduceNeg, Int.reduceToNat, Int.reduceMul, Int.reduceAdd, Int.reduceSub, Int.reducePow, Int.reduceFDiv, reduceCtorEq, reduceIte, length_encWord]
            refine astep_calls (rsmall_calls2 (sb slot s.l[i].value 4).1 _) ?_
            intro v h1 hR
            obtain ⟨n, b, hv, hb1, hb2, hh⟩ := hR
            subst hh
            cases b with
            | true =>
              rw [near_is (hb1.1 rfl) (hb2 rfl)] at hbel
              by_cases hN : n ≤ 128
              · rw [decide_eq_true hN] at hbel
                simp (implicitDefEqProofs := false) only [go_sem, Nat.reduceAdd, Nat.reduceSub, Nat.reduceMul, Nat.reduceLT, Nat.reduceLeDiff, Nat.reduceEqDiff, Nat.reduceBEq, Nat.reduceBNe, Nat.reducePow, Int.reduceBEq, Int.reduceBNe, Int.reduceEq, Int.reduceLT, Int.reduceLE, Int.reduceNeg, Int.reduceToNat, Int.reduceMul, Int.reduceAdd, Int.reduceSub, Int.reducePow, Int.reduceFDiv, reduceCtorEq, reduceIte, hv, hN]
                refine apost_tmp (v := .bool (belB s.l a slot)) rfl rfl ⟨rfl, rfl⟩ _ _ ?_
                have hany : s.l.any (belP (wideW a) slot) = true := List.any_eq_true.2 ⟨_, List.getElem_mem hlt, hbel⟩
                rw [belB, hany, Bool.or_true]; rfl
              · rw [decide_eq_false hN] at hbel
                simp (implicitDefEqProofs := false) only [go_sem, Nat.reduceAdd, Nat.reduceSub, Nat.reduceMul, Nat.reduceLT, Nat.reduceLeDiff, Nat.reduceEqDiff, Nat.reduceBEq, Nat.reduceBNe, Nat.reducePow, Int.reduceBEq, Int.reduceBNe, Int.reduceEq, Int.reduceLT, Int.reduceLE, Int.reduceNeg, Int.reduceToNat, Int.reduceMul, Int.reduceAdd, Int.reduceSub, Int.reducePow, Int.reduceFDiv, reduceCtorEq, reduceIte, hv, hN, hw1]
                refine ⟨i + 1, by omega, ⟨by omega, fun x => next x hbel⟩, Keeps.easeP (t := [.cells (encAddr a).toArray 0 true, .cells (encWord slot).toArray 0 true, .cells (encWord (wideW a)).toArray 0 true]) (x := [_]) oren3 ?_⟩
                repeat (first | exact Keeps.nil | refine Keeps.junk _ ?_ | refine Keeps.keep (by first | exact .plain _ rfl | exact (Tree.slV tree_encEv _).ren | exact .ptr _ _ _ (by simp) rfl) ?_)
            | false =>
              rw [near_no fun hh => by cases hb1.2 hh] at hbel
              simp (implicitDefEqProofs := false) only [go_sem, Nat.reduceAdd, Nat.reduceSub, Nat.reduceMul, Nat.reduceLT, Nat.reduceLeDiff, Nat.reduceEqDiff, Nat.reduceBEq, Nat.reduceBNe, Nat.reducePow, Int.reduceBEq, Int.reduceBNe, Int.reduceEq, Int.reduceLT, Int.reduceLE, Int.reduceNeg, Int.reduceToNat, Int.reduceMul, Int.reduceAdd, Int.reduceSub, Int.reducePow, Int.reduceFDiv, reduceCtorEq, reduceIte, hv, hw1]
              refine ⟨i + 1, by omega, ⟨by omega, fun x => next x hbel⟩, Keeps.easeP (t := [.cells (encAddr a).toArray 0 true, .cells (encWord slot).toArray 0 true, .cells (encWord (wideW a)).toArray 0 true]) (x := [_]) oren3 ?_⟩
              repeat (first | exact Keeps.nil | refine Keeps.junk _ ?_ | refine Keeps.keep (by first | exact .plain _ rfl | exact (Tree.slV tree_encEv _).ren | exact .ptr _ _ _ (by simp) rfl) ?_)
      · simp (implicitDefEqProofs := false) only [go_sem, Nat.reduceAdd, Nat.reduceSub, Nat.reduceMul, Nat.reduceLT, Nat.reduceLeDiff, Nat.reduceEqDiff, Nat.reduceBEq, Nat.reduceBNe, Nat.reducePow, Int.reduceBEq, Int.reduceBNe, Int.reduceEq, Int.reduceLT, Int.reduceLE, Int.reduceNeg, Int.reduceToNat, Int.reduceMul, Int.reduceAdd, Int.reduceSub, Int.reducePow, Int.reduceFDiv, reduceCtorEq, reduceIte, hlt]
        have hie : i = s.l.length := by omega
        subst hie
        rw [List.take_length] at hp
        refine apost_tmp (v := .bool (belB s.l a slot)) rfl rfl ⟨rfl, rfl⟩ _ _ ?_
        have : s.l.any (belP (wideW a) slot) = false := by rw [List.any_eq_false]; intro x hx; simp [hp x hx]
        rw [belB, hE, this]; rfl
end Go.Proofs
