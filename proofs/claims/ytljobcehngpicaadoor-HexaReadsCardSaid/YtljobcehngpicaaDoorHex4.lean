import Derived.Test.YtljobcehngpicaaDoorHex3
import Derived.Test.YtljobcehngpicaaDoorHexB
set_option linter.unusedSimpArgs false
set_option linter.unusedVariables false
/- bytes, numbers, addresses read -/
namespace Go.Proofs
open Go Go.Am

set_option maxRecDepth 10000 in
set_option maxHeartbeats 4000000 in
theorem pairs_calls (s : Sl UInt8) (hs : s.l.length < 2 ^ 30) (h : AH) :
    ACalls Tryd.prog 26 #[slV encU8 s] h (fun v h' => v = slV encU8 (Sl.app (pairsL s.l)) ∧ h' = h) := by
  refine ACalls.of_ay Tryd.func26 rfl Tryd.ntmps26 ⟨_, _, rfl, rfl⟩ ?_; simp only [List.length_cons, List.length_nil, Nat.reduceAdd, Nat.reduceSub, List.replicate_succ, List.replicate_zero, List.cons_append, List.nil_append]
  simp (implicitDefEqProofs := false) only [go_sem, Nat.reduceAdd, Nat.reduceSub, Nat.reduceMul, Nat.reduceLT, Nat.reduceLeDiff, Nat.reduceEqDiff, Nat.reduceBEq, Nat.reduceBNe, Nat.reducePow, Int.reduceBEq, Int.reduceBNe, Int.reduceEq, Int.reduceLT, Int.reduceLE, Int.reduceNeg, Int.reduceToNat, Int.reduceMul, Int.reduceAdd, Int.reduceSub, Int.reducePow, Int.reduceFDiv, reduceCtorEq, reduceIte]
  refine AWP.loopI (fun k : Nat => s.l.length - 2 * k) (fun k => [slV encU8 s, junk, junk, outV h.length (pairsL (s.l.take (2 * k))), .int .i64 ((2 * k + 1 : Nat) : Int), junk, junk, junk, junk, junk, junk, junk, junk, junk, junk, junk, junk, junk, junk, junk, junk, junk, junk, junk, junk, junk]) (fun k => h ++ [outO encU8 1 (pairsL (s.l.take (2 * k)))]) (fun k => 2 * k ≤ s.l.length) 0 (Nat.zero_le _) ?_ ?_
  · refine Keeps.easeG ?_
    repeat (first | exact Keeps.nil | refine Keeps.junk _ ?_ | refine Keeps.keep (by first | exact .plain _ rfl | exact (Tree.slV tree_encU8 _).ren) ?_)
  · intro k hk
    by_cases hlt : 2 * k + 1 < s.l.length
    · have hlt0 : 2 * k < s.l.length := by omega
      have hlen : (pairsL (s.l.take (2 * k))).length ≤ s.l.length := by rw [length_pairsL, List.length_take]; omega
      have hw0 : IntKind.i64.wrap (((2 * k + 1 : Nat) : Int) - 1) = ((2 * k : Nat) : Int) := by rw [wrap_i64_of _ (by omega) (by omega)]; omega
      have hw1 : IntKind.i64.wrap (((2 * k + 1 : Nat) : Int) + 2) = ((2 * (k + 1) + 1 : Nat) : Int) := by rw [wrap_i64_of _ (by omega) (by omega)]; omega
      simp (implicitDefEqProofs := false) only [go_sem, Nat.reduceAdd, Nat.reduceSub, Nat.reduceMul, Nat.reduceLT, Nat.reduceLeDiff, Nat.reduceEqDiff, Nat.reduceBEq, Nat.reduceBNe, Nat.reducePow, Int.reduceBEq, Int.reduceBNe, Int.reduceEq, Int.reduceLT, Int.reduceLE, Int.reduceNeg, Int.reduceToNat, Int.reduceMul, Int.reduceAdd, Int.reduceSub, Int.reducePow, Int.reduceFDiv, reduceCtorEq, reduceIte, hlt, hlt0, hw0, hw1, ↓mkApp_outN (enc := encU8) (m := 1) (n := 1) (by_ := 1) (l := pairsL (s.l.take (2 * k))) length_encU8 (Nat.zero_lt_one) ⟨by omega, by omega⟩]
      refine ⟨by kernel_rfl, by kernel_rfl, .inr ⟨rfl, by decide⟩, ?_⟩
      have htk := pairsL_snoc k s.l hlt
      rw [← show 2 * (k + 1) = 2 * k + 2 from rfl] at htk
      refine ⟨k + 1, by omega, by omega, ?_⟩
      rw [htk]
      refine Eases.pick1 2 (outO encU8 1 (pairsL (s.l.take (2 * k)) ++ [pr s.l[2 * k] s.l[2 * k + 1]])) ⟨_, rfl, outO_renS tree_encU8⟩ ?_
      repeat (first | exact KeepsS.nil | refine KeepsS.junk _ ?_ | refine KeepsS.keep (by first | exact .plain _ rfl | exact (Tree.slV tree_encU8 _).ren | exact outV_renS) ?_)
    · simp (implicitDefEqProofs := false) only [go_sem, Nat.reduceAdd, Nat.reduceSub, Nat.reduceMul, Nat.reduceLT, Nat.reduceLeDiff, Nat.reduceEqDiff, Nat.reduceBEq, Nat.reduceBNe, Nat.reducePow, Int.reduceBEq, Int.reduceBNe, Int.reduceEq, Int.reduceLT, Int.reduceLE, Int.reduceNeg, Int.reduceToNat, Int.reduceMul, Int.reduceAdd, Int.reduceSub, Int.reducePow, Int.reduceFDiv, reduceCtorEq, reduceIte, hlt]
      have hk2 := pairsL_take s.l (k := k) hk (by omega)
      rw [hk2]
      exact apost_out rfl length_encU8 tree_encU8 ⟨rfl, rfl⟩ _ rfl

theorem nil_app {α : Type} {enc : α → List Value} : Value.slice none 0 0 = slV enc (Sl.app ([] : List α)) := rfl
set_option maxRecDepth 10000 in
set_option maxHeartbeats 4000000 in
theorem read_calls (s : List UInt8) (hs : s.length < 2 ^ 30) (h : AH) :
    ACalls Tryd.prog 12 #[.string (bs s)] h (fun v h' => v = .tuple #[slV encU8 (Sl.app ((readM s).getD [])), .int .u16 (bif (readM s).isSome then 0 else 60)] ∧ h' = h) := by
  refine ACalls.of_ay Tryd.func12 rfl Tryd.ntmps12 ⟨_, _, rfl, rfl⟩ ?_; simp only [List.length_cons, List.length_nil, Nat.reduceAdd, Nat.reduceSub, List.replicate_succ, List.replicate_zero, List.cons_append, List.nil_append]
  simp (implicitDefEqProofs := false) only [go_sem, Nat.reduceAdd, Nat.reduceSub, Nat.reduceMul, Nat.reduceLT, Nat.reduceLeDiff, Nat.reduceEqDiff, Nat.reduceBEq, Nat.reduceBNe, Nat.reducePow, Int.reduceBEq, Int.reduceBNe, Int.reduceEq, Int.reduceLT, Int.reduceLE, Int.reduceNeg, Int.reduceToNat, Int.reduceMul, Int.reduceAdd, Int.reduceSub, Int.reducePow, Int.reduceFDiv, reduceCtorEq, reduceIte]
  have hvc := values_calls s hs h
  cases hv : valsS s with
  | none =>
    have hr : readM s = none := by rw [readM, hv]; rfl
    rw [hv] at hvc
    refine astep_call hvc ?_
    simp (implicitDefEqProofs := false) only [go_sem, Nat.reduceAdd, Nat.reduceSub, Nat.reduceMul, Nat.reduceLT, Nat.reduceLeDiff, Nat.reduceEqDiff, Nat.reduceBEq, Nat.reduceBNe, Nat.reducePow, Int.reduceBEq, Int.reduceBNe, Int.reduceEq, Int.reduceLT, Int.reduceLE, Int.reduceNeg, Int.reduceToNat, Int.reduceMul, Int.reduceAdd, Int.reduceSub, Int.reducePow, Int.reduceFDiv, reduceCtorEq, reduceIte, optV, hr, Option.isSome_none]
    exact apost_pp (slV encU8 (Sl.app [])) _ rfl rfl rfl (.slV tree_encU8 _) (.plain _ rfl) ⟨rfl, rfl⟩
  | some l =>
    have hl : l.length < 2 ^ 30 := by
      unfold valsS valsR at hv
      cases hc : cutS s with
      | none => rw [hc] at hv; cases hv
      | some r =>
        rw [hc] at hv
        simp only [Option.bind_some] at hv
        split at hv
        · cases hv
          have := cut_some hc
          rw [this] at hs
          simp at hs ⊢
          omega
        · cases hv
    have hrm : ((l.length : Nat) : Int).tmod 2 = ((l.length % 2 : Nat) : Int) := rfl
    by_cases he : l.length % 2 = 0
    · have hr : readM s = some (pairsL l) := by rw [readM, hv, Option.bind_some, if_pos he]
      have he' : ((l.length % 2 : Nat) : Int) = 0 := by omega
      rw [hv] at hvc
      refine astep_call hvc ?_
      simp (implicitDefEqProofs := false) only [go_sem, Nat.reduceAdd, Nat.reduceSub, Nat.reduceMul, Nat.reduceLT, Nat.reduceLeDiff, Nat.reduceEqDiff, Nat.reduceBEq, Nat.reduceBNe, Nat.reducePow, Int.reduceBEq, Int.reduceBNe, Int.reduceEq, Int.reduceLT, Int.reduceLE, Int.reduceNeg, Int.reduceToNat, Int.reduceMul, Int.reduceAdd, Int.reduceSub, Int.reducePow, Int.reduceFDiv, reduceCtorEq, reduceIte, optV, Option.isSome_some, hrm, he', hr]
      refine astep_call (pairs_calls (Sl.full l) hl _) ?_
      simp (implicitDefEqProofs := false) only [go_sem, Nat.reduceAdd, Nat.reduceSub, Nat.reduceMul, Nat.reduceLT, Nat.reduceLeDiff, Nat.reduceEqDiff, Nat.reduceBEq, Nat.reduceBNe, Nat.reducePow, Int.reduceBEq, Int.reduceBNe, Int.reduceEq, Int.reduceLT, Int.reduceLE, Int.reduceNeg, Int.reduceToNat, Int.reduceMul, Int.reduceAdd, Int.reduceSub, Int.reducePow, Int.reduceFDiv, reduceCtorEq, reduceIte]
      exact apost_pp (slV encU8 (Sl.app (pairsL l))) (.int .u16 0) rfl rfl rfl (.slV tree_encU8 _) (.plain _ rfl) ⟨rfl, rfl⟩
    · have hr : readM s = none := by rw [readM, hv, Option.bind_some, if_neg he]
      have he' : (((l.length % 2 : Nat) : Int) != 0) = true := by
        rw [bne_iff_ne]; omega
      rw [hv] at hvc
      refine astep_call hvc ?_
      simp (implicitDefEqProofs := false) only [go_sem, Nat.reduceAdd, Nat.reduceSub, Nat.reduceMul, Nat.reduceLT, Nat.reduceLeDiff, Nat.reduceEqDiff, Nat.reduceBEq, Nat.reduceBNe, Nat.reducePow, Int.reduceBEq, Int.reduceBNe, Int.reduceEq, Int.reduceLT, Int.reduceLE, Int.reduceNeg, Int.reduceToNat, Int.reduceMul, Int.reduceAdd, Int.reduceSub, Int.reducePow, Int.reduceFDiv, reduceCtorEq, reduceIte, optV, Option.isSome_some, hrm, he', hr]
      exact apost_pp (slV encU8 (Sl.app [])) _ rfl rfl rfl (.slV tree_encU8 _) (.plain _ rfl) ⟨rfl, rfl⟩

theorem vals_len {s l : List UInt8} (hv : valsS s = some l) : l.length + 2 = s.length := by
  unfold valsS valsR at hv
  cases hc : cutS s with
  | none => rw [hc] at hv; cases hv
  | some r =>
    rw [hc] at hv
    simp only [Option.bind_some] at hv
    split at hv
    · cases hv
      rw [cut_some hc]
      simp
    · cases hv
theorem pairsB_calls (l : List UInt8) {n : Nat} (hn : l.length = n) (hs : l.length < 2 ^ 30) (h : AH) (b es0 : Nat) (hb : h[b]? = some (.cells (flatV encU8 l) es0 true)) :
    ACalls Tryd.prog 26 #[.slice (some ⟨b, 0, none⟩) n n] h (fun v h' => v = slV encU8 (Sl.app (pairsL l)) ∧ h' = h.set b .dead) := by
  subst hn
  refine ACalls.freeze (args1 := #[slV encU8 (Sl.full l)]) HFz.set rfl (fun i => ?_) (pairs_calls (Sl.full l) hs (h.set b .dead))
  cases i with
  | zero => exact Rf.full hb (List.getElem?_set_self (List.getElem?_eq_some_iff.1 hb).1) (Nat.le_refl _)
  | succ i => simp; exact .same _
theorem cnt_bad1 : cntOk [] = false := rfl
theorem cnt_bad2 {l : List UInt8} (h : 64 < l.length) : cntOk l = false := by
  unfold cntOk; rw [decide_eq_false (show ¬ l.length ≤ 64 by omega)]; simp
theorem cnt_bad3 {y : List UInt8} (h : 0 < y.length) : cntOk (0 :: y) = false := by
  unfold cntOk; rw [decide_eq_true (show 1 < (0 :: y).length by simp; omega)]; simp
theorem cnt_ok {d : UInt8} {y : List UInt8} (h : y.length < 64) (hd : d ≠ 0 ∨ y.length = 0) : cntOk (d :: y) = true := by
  unfold cntOk
  have e : (List.getD (d :: y) 0 0 == 0 && decide (1 < (d :: y).length)) = false := by
    rcases hd with hd | hd
    · simp [hd]
    · simp [hd]
  rw [e]; simp; omega
theorem tree_word (w : Word4) : Tree (.agg (encWord w).toArray) := tree_agg (tree_encWord w)
set_option maxRecDepth 10000 in
set_option maxHeartbeats 4000000 in
theorem count_calls (s : List UInt8) (hs : s.length < 2 ^ 30) (h : AH) :
    ACalls Tryd.prog 14 #[.string (bs s)] h (fun v h' => v = .tuple #[.agg (encWord ((countM s).getD zeroW)).toArray, .int .u16 (bif (countM s).isSome then 0 else 60)] ∧ h' = h) := by
  refine ACalls.of_ay Tryd.func14 rfl Tryd.ntmps14 ⟨_, _, rfl, rfl⟩ ?_; simp only [List.length_cons, List.length_nil, Nat.reduceAdd, Nat.reduceSub, List.replicate_succ, List.replicate_zero, List.cons_append, List.nil_append]
  simp (implicitDefEqProofs := false) only [go_sem, Nat.reduceAdd, Nat.reduceSub, Nat.reduceMul, Nat.reduceLT, Nat.reduceLeDiff, Nat.reduceEqDiff, Nat.reduceBEq, Nat.reduceBNe, Nat.reducePow, Int.reduceBEq, Int.reduceBNe, Int.reduceEq, Int.reduceLT, Int.reduceLE, Int.reduceNeg, Int.reduceToNat, Int.reduceMul, Int.reduceAdd, Int.reduceSub, Int.reducePow, Int.reduceFDiv, reduceCtorEq, reduceIte]
  have hvc := fun H => values_calls s hs H
  cases hv : valsS s with
  | none =>
    have hr : countM s = none := by rw [countM, hv]; rfl
    rw [hv] at hvc
    refine astep_call (hvc _) ?_
    simp (implicitDefEqProofs := false) only [go_sem, Nat.reduceAdd, Nat.reduceSub, Nat.reduceMul, Nat.reduceLT, Nat.reduceLeDiff, Nat.reduceEqDiff, Nat.reduceBEq, Nat.reduceBNe, Nat.reducePow, Int.reduceBEq, Int.reduceBNe, Int.reduceEq, Int.reduceLT, Int.reduceLE, Int.reduceNeg, Int.reduceToNat, Int.reduceMul, Int.reduceAdd, Int.reduceSub, Int.reducePow, Int.reduceFDiv, reduceCtorEq, reduceIte, optV, hr, Option.isSome_none]
    exact apost_cellT (.agg (encWord zeroW).toArray) (.int .u16 60) rfl (tree_word _) (.plain _ rfl) ⟨rfl, rfl⟩ _ _ rfl rfl (by simp (implicitDefEqProofs := false) only [go_sem, Nat.reduceAdd, Nat.reduceSub, Nat.reduceMul, Nat.reduceLT, Nat.reduceLeDiff, Nat.reduceEqDiff, Nat.reduceBEq, Nat.reduceBNe, Nat.reducePow, Int.reduceBEq, Int.reduceBNe, Int.reduceEq, Int.reduceLT, Int.reduceLE, Int.reduceNeg, Int.reduceToNat, Int.reduceMul, Int.reduceAdd, Int.reduceSub, Int.reducePow, Int.reduceFDiv, reduceCtorEq, reduceIte]; rfl)
  | some l =>
    have hl : l.length < 2 ^ 30 := by have := vals_len hv; omega
    rw [hv] at hvc
    cases l with
    | nil =>
      have hr : countM s = none := by rw [countM, hv]; rfl
      refine astep_call (hvc _) ?_
      simp (implicitDefEqProofs := false) only [go_sem, Nat.reduceAdd, Nat.reduceSub, Nat.reduceMul, Nat.reduceLT, Nat.reduceLeDiff, Nat.reduceEqDiff, Nat.reduceBEq, Nat.reduceBNe, Nat.reducePow, Int.reduceBEq, Int.reduceBNe, Int.reduceEq, Int.reduceLT, Int.reduceLE, Int.reduceNeg, Int.reduceToNat, Int.reduceMul, Int.reduceAdd, Int.reduceSub, Int.reducePow, Int.reduceFDiv, reduceCtorEq, reduceIte, optV, hr, Option.isSome_some, Option.isSome_none]
      exact apost_cellT (.agg (encWord zeroW).toArray) (.int .u16 60) rfl (tree_word _) (.plain _ rfl) ⟨rfl, rfl⟩ _ _ rfl rfl (by simp (implicitDefEqProofs := false) only [go_sem, Nat.reduceAdd, Nat.reduceSub, Nat.reduceMul, Nat.reduceLT, Nat.reduceLeDiff, Nat.reduceEqDiff, Nat.reduceBEq, Nat.reduceBNe, Nat.reducePow, Int.reduceBEq, Int.reduceBNe, Int.reduceEq, Int.reduceLT, Int.reduceLE, Int.reduceNeg, Int.reduceToNat, Int.reduceMul, Int.reduceAdd, Int.reduceSub, Int.reducePow, Int.reduceFDiv, reduceCtorEq, reduceIte]; rfl)
    | cons d y =>
      have hl1 : ¬ ((y.length + 1 : Nat) : Int) < 1 := by omega
      have hl0 : 0 < y.length + 1 := by omega
      have hyl : (d :: y).length = y.length + 1 := rfl
      rw [hyl] at hl
      by_cases h64 : y.length < 64
      · have h64' : ¬ (64 : Int) < ((y.length + 1 : Nat) : Int) := by omega
        have hp : (0 : Int) < ((y.length + 1 : Nat) : Int) := by omega
        have hd0 : (((d.toNat : Nat) : Int) == 0) = (d == 0) := beq_u8 d 0
        by_cases h1 : y.length = 0
        · have h1' : ¬ (1 : Int) < ((y.length + 1 : Nat) : Int) := by omega
          have hr : countM s = some (rdW (pairsL (evenL (d :: y)))) := by rw [countM, hv, Option.bind_some, if_pos (cnt_ok h64 (.inr h1))]
          have hev : evenL (d :: y) = 0 :: d :: y := by rw [evenL, if_neg]; rw [hyl]; omega
          cases hdz : d == 0 with
          | true =>
            rw [hdz] at hd0
            have hmod : ((y.length + 1 : Nat) : Int).tmod 2 = 1 := by rw [show ((y.length + 1 : Nat) : Int).tmod 2 = (((y.length + 1) % 2 : Nat) : Int) from rfl]; omega
            refine astep_call (hvc _) ?_
            have ho1 : ¬ 1 + (y.length + 1) ≤ 1 := by omega
            have ho2 : 2 * (1 + (y.length + 1)) ≤ 281474976710464 := by omega
            have ho3 : 1 + (y.length + 1) < 4611686018427387904 := by omega
            simp (implicitDefEqProofs := false) only [go_sem, Nat.reduceAdd, Nat.reduceSub, Nat.reduceMul, Nat.reduceLT, Nat.reduceLeDiff, Nat.reduceEqDiff, Nat.reduceBEq, Nat.reduceBNe, Nat.reducePow, Int.reduceBEq, Int.reduceBNe, Int.reduceEq, Int.reduceLT, Int.reduceLE, Int.reduceNeg, Int.reduceToNat, Int.reduceMul, Int.reduceAdd, Int.reduceSub, Int.reducePow, Int.reduceFDiv, reduceCtorEq, reduceIte, optV, hl1, hl0, hp, h64', h1', hyl, List.getElem_cons_zero, hd0, hmod, ho1, ho2, ho3]
            refine astep_calls (pairsB_calls (0 :: d :: y) (n := 1 + (y.length + 1)) (by simp; omega) (by simp; omega) _ (h.length + 2) 1 ?_) ?_
            · exact (at_new _ _ 2).trans (by rw [flat_cons8 (d := 0)]; rfl)
            intro v h1 hR
            obtain ⟨rfl, hh⟩ := hR
            simp only [set_new, List.set_cons_succ, List.set_cons_zero] at hh
            subst hh
            simp (implicitDefEqProofs := false) only [go_sem, Nat.reduceAdd, Nat.reduceSub, Nat.reduceMul, Nat.reduceLT, Nat.reduceLeDiff, Nat.reduceEqDiff, Nat.reduceBEq, Nat.reduceBNe, Nat.reducePow, Int.reduceBEq, Int.reduceBNe, Int.reduceEq, Int.reduceLT, Int.reduceLE, Int.reduceNeg, Int.reduceToNat, Int.reduceMul, Int.reduceAdd, Int.reduceSub, Int.reducePow, Int.reduceFDiv, reduceCtorEq, reduceIte]
            refine astep_call (wread_calls (Sl.app (pairsL (0 :: d :: y))) (by rw [app_l, length_pairsL]; simp; omega) _) ?_
            simp (implicitDefEqProofs := false) only [go_sem, Nat.reduceAdd, Nat.reduceSub, Nat.reduceMul, Nat.reduceLT, Nat.reduceLeDiff, Nat.reduceEqDiff, Nat.reduceBEq, Nat.reduceBNe, Nat.reducePow, Int.reduceBEq, Int.reduceBNe, Int.reduceEq, Int.reduceLT, Int.reduceLE, Int.reduceNeg, Int.reduceToNat, Int.reduceMul, Int.reduceAdd, Int.reduceSub, Int.reducePow, Int.reduceFDiv, reduceCtorEq, reduceIte, hr, hev, Option.isSome_some, Option.getD_some]
            exact apost_cellT (.agg (encWord (rdW (pairsL (0 :: d :: y)))).toArray) (.int .u16 0) rfl (tree_word _) (.plain _ rfl) ⟨rfl, rfl⟩ _ _ rfl rfl (by simp (implicitDefEqProofs := false) only [go_sem, Nat.reduceAdd, Nat.reduceSub, Nat.reduceMul, Nat.reduceLT, Nat.reduceLeDiff, Nat.reduceEqDiff, Nat.reduceBEq, Nat.reduceBNe, Nat.reducePow, Int.reduceBEq, Int.reduceBNe, Int.reduceEq, Int.reduceLT, Int.reduceLE, Int.reduceNeg, Int.reduceToNat, Int.reduceMul, Int.reduceAdd, Int.reduceSub, Int.reducePow, Int.reduceFDiv, reduceCtorEq, reduceIte, length_encWord])
          | false =>
            rw [hdz] at hd0
            have hmod : ((y.length + 1 : Nat) : Int).tmod 2 = 1 := by rw [show ((y.length + 1 : Nat) : Int).tmod 2 = (((y.length + 1) % 2 : Nat) : Int) from rfl]; omega
            refine astep_call (hvc _) ?_
            have ho1 : ¬ 1 + (y.length + 1) ≤ 1 := by omega
            have ho2 : 2 * (1 + (y.length + 1)) ≤ 281474976710464 := by omega
            have ho3 : 1 + (y.length + 1) < 4611686018427387904 := by omega
            simp (implicitDefEqProofs := false) only [go_sem, Nat.reduceAdd, Nat.reduceSub, Nat.reduceMul, Nat.reduceLT, Nat.reduceLeDiff, Nat.reduceEqDiff, Nat.reduceBEq, Nat.reduceBNe, Nat.reducePow, Int.reduceBEq, Int.reduceBNe, Int.reduceEq, Int.reduceLT, Int.reduceLE, Int.reduceNeg, Int.reduceToNat, Int.reduceMul, Int.reduceAdd, Int.reduceSub, Int.reducePow, Int.reduceFDiv, reduceCtorEq, reduceIte, optV, hl1, hl0, hp, h64', h1', hyl, List.getElem_cons_zero, hd0, hmod, ho1, ho2, ho3]
            refine astep_calls (pairsB_calls (0 :: d :: y) (n := 1 + (y.length + 1)) (by simp; omega) (by simp; omega) _ (h.length + 2) 1 ?_) ?_
            · exact (at_new _ _ 2).trans (by rw [flat_cons8 (d := 0)]; rfl)
            intro v h1 hR
            obtain ⟨rfl, hh⟩ := hR
            simp only [set_new, List.set_cons_succ, List.set_cons_zero] at hh
            subst hh
            simp (implicitDefEqProofs := false) only [go_sem, Nat.reduceAdd, Nat.reduceSub, Nat.reduceMul, Nat.reduceLT, Nat.reduceLeDiff, Nat.reduceEqDiff, Nat.reduceBEq, Nat.reduceBNe, Nat.reducePow, Int.reduceBEq, Int.reduceBNe, Int.reduceEq, Int.reduceLT, Int.reduceLE, Int.reduceNeg, Int.reduceToNat, Int.reduceMul, Int.reduceAdd, Int.reduceSub, Int.reducePow, Int.reduceFDiv, reduceCtorEq, reduceIte]
            refine astep_call (wread_calls (Sl.app (pairsL (0 :: d :: y))) (by rw [app_l, length_pairsL]; simp; omega) _) ?_
            simp (implicitDefEqProofs := false) only [go_sem, Nat.reduceAdd, Nat.reduceSub, Nat.reduceMul, Nat.reduceLT, Nat.reduceLeDiff, Nat.reduceEqDiff, Nat.reduceBEq, Nat.reduceBNe, Nat.reducePow, Int.reduceBEq, Int.reduceBNe, Int.reduceEq, Int.reduceLT, Int.reduceLE, Int.reduceNeg, Int.reduceToNat, Int.reduceMul, Int.reduceAdd, Int.reduceSub, Int.reducePow, Int.reduceFDiv, reduceCtorEq, reduceIte, hr, hev, Option.isSome_some, Option.getD_some]
            exact apost_cellT (.agg (encWord (rdW (pairsL (0 :: d :: y)))).toArray) (.int .u16 0) rfl (tree_word _) (.plain _ rfl) ⟨rfl, rfl⟩ _ _ rfl rfl (by simp (implicitDefEqProofs := false) only [go_sem, Nat.reduceAdd, Nat.reduceSub, Nat.reduceMul, Nat.reduceLT, Nat.reduceLeDiff, Nat.reduceEqDiff, Nat.reduceBEq, Nat.reduceBNe, Nat.reducePow, Int.reduceBEq, Int.reduceBNe, Int.reduceEq, Int.reduceLT, Int.reduceLE, Int.reduceNeg, Int.reduceToNat, Int.reduceMul, Int.reduceAdd, Int.reduceSub, Int.reducePow, Int.reduceFDiv, reduceCtorEq, reduceIte, length_encWord])
        · have h1' : (1 : Int) < ((y.length + 1 : Nat) : Int) := by omega
          cases hdz : d == 0 with
          | true =>
            rw [hdz] at hd0
            have hr : countM s = none := by rw [countM, hv, Option.bind_some, eq_of_beq hdz, if_neg]; rw [cnt_bad3 (by omega)]; decide
            refine astep_call (hvc _) ?_
            simp (implicitDefEqProofs := false) only [go_sem, Nat.reduceAdd, Nat.reduceSub, Nat.reduceMul, Nat.reduceLT, Nat.reduceLeDiff, Nat.reduceEqDiff, Nat.reduceBEq, Nat.reduceBNe, Nat.reducePow, Int.reduceBEq, Int.reduceBNe, Int.reduceEq, Int.reduceLT, Int.reduceLE, Int.reduceNeg, Int.reduceToNat, Int.reduceMul, Int.reduceAdd, Int.reduceSub, Int.reducePow, Int.reduceFDiv, reduceCtorEq, reduceIte, optV, hl1, hl0, hp, h64', h1', hyl, List.getElem_cons_zero, hd0, hr, Option.isSome_some, Option.isSome_none]
            exact apost_cellT (.agg (encWord zeroW).toArray) (.int .u16 60) rfl (tree_word _) (.plain _ rfl) ⟨rfl, rfl⟩ _ _ rfl rfl (by simp (implicitDefEqProofs := false) only [go_sem, Nat.reduceAdd, Nat.reduceSub, Nat.reduceMul, Nat.reduceLT, Nat.reduceLeDiff, Nat.reduceEqDiff, Nat.reduceBEq, Nat.reduceBNe, Nat.reducePow, Int.reduceBEq, Int.reduceBNe, Int.reduceEq, Int.reduceLT, Int.reduceLE, Int.reduceNeg, Int.reduceToNat, Int.reduceMul, Int.reduceAdd, Int.reduceSub, Int.reducePow, Int.reduceFDiv, reduceCtorEq, reduceIte]; rfl)
          | false =>
            rw [hdz] at hd0
            have hr : countM s = some (rdW (pairsL (evenL (d :: y)))) := by rw [countM, hv, Option.bind_some, if_pos (cnt_ok h64 (.inl (beq_eq_false_iff_ne.1 hdz)))]
            by_cases hm : (y.length + 1) % 2 = 0
            · have hev : evenL (d :: y) = d :: y := by rw [evenL, if_pos]; rw [hyl]; omega
              have hmod : ((y.length + 1 : Nat) : Int).tmod 2 = 0 := by rw [show ((y.length + 1 : Nat) : Int).tmod 2 = (((y.length + 1) % 2 : Nat) : Int) from rfl]; omega
              refine astep_call (hvc _) ?_
              simp (implicitDefEqProofs := false) only [go_sem, Nat.reduceAdd, Nat.reduceSub, Nat.reduceMul, Nat.reduceLT, Nat.reduceLeDiff, Nat.reduceEqDiff, Nat.reduceBEq, Nat.reduceBNe, Nat.reducePow, Int.reduceBEq, Int.reduceBNe, Int.reduceEq, Int.reduceLT, Int.reduceLE, Int.reduceNeg, Int.reduceToNat, Int.reduceMul, Int.reduceAdd, Int.reduceSub, Int.reducePow, Int.reduceFDiv, reduceCtorEq, reduceIte, optV, hl1, hl0, hp, h64', h1', hyl, List.getElem_cons_zero, hd0, hmod]
              refine astep_call (pairs_calls (Sl.full (d :: y)) (by rw [full_l, hyl]; omega) _) ?_
              simp (implicitDefEqProofs := false) only [go_sem, Nat.reduceAdd, Nat.reduceSub, Nat.reduceMul, Nat.reduceLT, Nat.reduceLeDiff, Nat.reduceEqDiff, Nat.reduceBEq, Nat.reduceBNe, Nat.reducePow, Int.reduceBEq, Int.reduceBNe, Int.reduceEq, Int.reduceLT, Int.reduceLE, Int.reduceNeg, Int.reduceToNat, Int.reduceMul, Int.reduceAdd, Int.reduceSub, Int.reducePow, Int.reduceFDiv, reduceCtorEq, reduceIte]
              refine astep_call (wread_calls (Sl.app (pairsL (d :: y))) (by rw [app_l, length_pairsL, hyl]; omega) _) ?_
              simp (implicitDefEqProofs := false) only [go_sem, Nat.reduceAdd, Nat.reduceSub, Nat.reduceMul, Nat.reduceLT, Nat.reduceLeDiff, Nat.reduceEqDiff, Nat.reduceBEq, Nat.reduceBNe, Nat.reducePow, Int.reduceBEq, Int.reduceBNe, Int.reduceEq, Int.reduceLT, Int.reduceLE, Int.reduceNeg, Int.reduceToNat, Int.reduceMul, Int.reduceAdd, Int.reduceSub, Int.reducePow, Int.reduceFDiv, reduceCtorEq, reduceIte, hr, hev, Option.isSome_some, Option.getD_some]
              exact apost_cellT (.agg (encWord (rdW (pairsL (d :: y)))).toArray) (.int .u16 0) rfl (tree_word _) (.plain _ rfl) ⟨rfl, rfl⟩ _ _ rfl rfl (by simp (implicitDefEqProofs := false) only [go_sem, Nat.reduceAdd, Nat.reduceSub, Nat.reduceMul, Nat.reduceLT, Nat.reduceLeDiff, Nat.reduceEqDiff, Nat.reduceBEq, Nat.reduceBNe, Nat.reducePow, Int.reduceBEq, Int.reduceBNe, Int.reduceEq, Int.reduceLT, Int.reduceLE, Int.reduceNeg, Int.reduceToNat, Int.reduceMul, Int.reduceAdd, Int.reduceSub, Int.reducePow, Int.reduceFDiv, reduceCtorEq, reduceIte, length_encWord])
            · have hev : evenL (d :: y) = 0 :: d :: y := by rw [evenL, if_neg]; rw [hyl]; omega
              have hmod : ((y.length + 1 : Nat) : Int).tmod 2 = 1 := by rw [show ((y.length + 1 : Nat) : Int).tmod 2 = (((y.length + 1) % 2 : Nat) : Int) from rfl]; omega
              refine astep_call (hvc _) ?_
              have ho1 : ¬ 1 + (y.length + 1) ≤ 1 := by omega
              have ho2 : 2 * (1 + (y.length + 1)) ≤ 281474976710464 := by omega
              have ho3 : 1 + (y.length + 1) < 4611686018427387904 := by omega
              simp (implicitDefEqProofs := false) only [go_sem, Nat.reduceAdd, Nat.reduceSub, Nat.reduceMul, Nat.reduceLT, Nat.reduceLeDiff, Nat.reduceEqDiff, Nat.reduceBEq, Nat.reduceBNe, Nat.reducePow, Int.reduceBEq, Int.reduceBNe, Int.reduceEq, Int.reduceLT, Int.reduceLE, Int.reduceNeg, Int.reduceToNat, Int.reduceMul, Int.reduceAdd, Int.reduceSub, Int.reducePow, Int.reduceFDiv, reduceCtorEq, reduceIte, optV, hl1, hl0, hp, h64', h1', hyl, List.getElem_cons_zero, hd0, hmod, ho1, ho2, ho3]
              refine astep_calls (pairsB_calls (0 :: d :: y) (n := 1 + (y.length + 1)) (by simp; omega) (by simp; omega) _ (h.length + 2) 1 ?_) ?_
              · exact (at_new _ _ 2).trans (by rw [flat_cons8 (d := 0)]; rfl)
              intro v h1 hR
              obtain ⟨rfl, hh⟩ := hR
              simp only [set_new, List.set_cons_succ, List.set_cons_zero] at hh
              subst hh
              simp (implicitDefEqProofs := false) only [go_sem, Nat.reduceAdd, Nat.reduceSub, Nat.reduceMul, Nat.reduceLT, Nat.reduceLeDiff, Nat.reduceEqDiff, Nat.reduceBEq, Nat.reduceBNe, Nat.reducePow, Int.reduceBEq, Int.reduceBNe, Int.reduceEq, Int.reduceLT, Int.reduceLE, Int.reduceNeg, Int.reduceToNat, Int.reduceMul, Int.reduceAdd, Int.reduceSub, Int.reducePow, Int.reduceFDiv, reduceCtorEq, reduceIte]
              refine astep_call (wread_calls (Sl.app (pairsL (0 :: d :: y))) (by rw [app_l, length_pairsL]; simp; omega) _) ?_
              simp (implicitDefEqProofs := false) only [go_sem, Nat.reduceAdd, Nat.reduceSub, Nat.reduceMul, Nat.reduceLT, Nat.reduceLeDiff, Nat.reduceEqDiff, Nat.reduceBEq, Nat.reduceBNe, Nat.reducePow, Int.reduceBEq, Int.reduceBNe, Int.reduceEq, Int.reduceLT, Int.reduceLE, Int.reduceNeg, Int.reduceToNat, Int.reduceMul, Int.reduceAdd, Int.reduceSub, Int.reducePow, Int.reduceFDiv, reduceCtorEq, reduceIte, hr, hev, Option.isSome_some, Option.getD_some]
              exact apost_cellT (.agg (encWord (rdW (pairsL (0 :: d :: y)))).toArray) (.int .u16 0) rfl (tree_word _) (.plain _ rfl) ⟨rfl, rfl⟩ _ _ rfl rfl (by simp (implicitDefEqProofs := false) only [go_sem, Nat.reduceAdd, Nat.reduceSub, Nat.reduceMul, Nat.reduceLT, Nat.reduceLeDiff, Nat.reduceEqDiff, Nat.reduceBEq, Nat.reduceBNe, Nat.reducePow, Int.reduceBEq, Int.reduceBNe, Int.reduceEq, Int.reduceLT, Int.reduceLE, Int.reduceNeg, Int.reduceToNat, Int.reduceMul, Int.reduceAdd, Int.reduceSub, Int.reducePow, Int.reduceFDiv, reduceCtorEq, reduceIte, length_encWord])
      · have h64' : (64 : Int) < ((y.length + 1 : Nat) : Int) := by omega
        have hr : countM s = none := by rw [countM, hv, Option.bind_some, if_neg]; rw [cnt_bad2 (by rw [hyl]; omega)]; decide
        refine astep_call (hvc _) ?_
        simp (implicitDefEqProofs := false) only [go_sem, Nat.reduceAdd, Nat.reduceSub, Nat.reduceMul, Nat.reduceLT, Nat.reduceLeDiff, Nat.reduceEqDiff, Nat.reduceBEq, Nat.reduceBNe, Nat.reducePow, Int.reduceBEq, Int.reduceBNe, Int.reduceEq, Int.reduceLT, Int.reduceLE, Int.reduceNeg, Int.reduceToNat, Int.reduceMul, Int.reduceAdd, Int.reduceSub, Int.reducePow, Int.reduceFDiv, reduceCtorEq, reduceIte, optV, hl1, h64', hr, Option.isSome_some, Option.isSome_none]
        exact apost_cellT (.agg (encWord zeroW).toArray) (.int .u16 60) rfl (tree_word _) (.plain _ rfl) ⟨rfl, rfl⟩ _ _ rfl rfl (by simp (implicitDefEqProofs := false) only [go_sem, Nat.reduceAdd, Nat.reduceSub, Nat.reduceMul, Nat.reduceLT, Nat.reduceLeDiff, Nat.reduceEqDiff, Nat.reduceBEq, Nat.reduceBNe, Nat.reducePow, Int.reduceBEq, Int.reduceBNe, Int.reduceEq, Int.reduceLT, Int.reduceLE, Int.reduceNeg, Int.reduceToNat, Int.reduceMul, Int.reduceAdd, Int.reduceSub, Int.reducePow, Int.reduceFDiv, reduceCtorEq, reduceIte]; rfl)
end Go.Proofs
