import Derived.Test.YtljobcehngpicaaDoorHexR2
import Derived.Test.YtljobcehngpicaaDoorHex4
set_option linter.unusedSimpArgs false
set_option linter.unusedVariables false
/- bytes and numbers read by the document -/
namespace Go.Proofs
open Go Go.Am

theorem rall_calls (s : List UInt8) (hs : s.length < 2 ^ 29) (h : AH) :
    ACalls Tryd.prog 27 #[.string (bs s)] h (fun v h' => v = .tuple #[optI (valsS s), .bool (valsS s).isSome] ∧ h' = h) := by
  cases hc : cutS s with
  | none =>
    have hv : valsS s = none := by rw [valsS, hc]; rfl
    rw [hv]
    exact rall_bad s (by omega) hc h
  | some r =>
    have hsr := cut_some hc
    have hv : valsS s = valsR r := by rw [valsS, hc]; rfl
    rw [hv, hsr]
    exact rall_good r (by rw [hsr] at hs; simp at hs; omega) h

set_option maxRecDepth 10000 in
set_option maxHeartbeats 4000000 in
theorem rread6_calls (s : List UInt8) (hs : s.length < 2 ^ 29) (h : AH) :
    ACalls Tryd.prog 13 #[.string (bs s)] h (fun v h' => v = .tuple #[slV encU8 (Sl.app ((readM s).getD [])), .int .i64 (bif (readM s).isSome then 0 else 60)] ∧ h' = h) := by
  refine ACalls.of_ay Tryd.func13 rfl Tryd.ntmps13 ⟨_, _, rfl, rfl⟩ ?_; simp only [List.length_cons, List.length_nil, Nat.reduceAdd, Nat.reduceSub, List.replicate_succ, List.replicate_zero, List.cons_append, List.nil_append]
  simp (implicitDefEqProofs := false) only [go_sem, Nat.reduceAdd, Nat.reduceSub, Nat.reduceMul, Nat.reduceLT, Nat.reduceLeDiff, Nat.reduceEqDiff, Nat.reduceBEq, Nat.reduceBNe, Nat.reducePow, Int.reduceBEq, Int.reduceBNe, Int.reduceEq, Int.reduceLT, Int.reduceLE, Int.reduceNeg, Int.reduceToNat, Int.reduceMul, Int.reduceAdd, Int.reduceSub, Int.reducePow, Int.reduceFDiv, reduceCtorEq, reduceIte]
  have hvc := rall_calls s hs h
  cases hv : valsS s with
  | none =>
    have hr : readM s = none := by rw [readM, hv]; rfl
    rw [hv] at hvc
    refine astep_call hvc ?_
    simp (implicitDefEqProofs := false) only [go_sem, Nat.reduceAdd, Nat.reduceSub, Nat.reduceMul, Nat.reduceLT, Nat.reduceLeDiff, Nat.reduceEqDiff, Nat.reduceBEq, Nat.reduceBNe, Nat.reducePow, Int.reduceBEq, Int.reduceBNe, Int.reduceEq, Int.reduceLT, Int.reduceLE, Int.reduceNeg, Int.reduceToNat, Int.reduceMul, Int.reduceAdd, Int.reduceSub, Int.reducePow, Int.reduceFDiv, reduceCtorEq, reduceIte, optI, hr, Option.isSome_none]
    exact apost_pp (slV encU8 (Sl.app [])) _ rfl rfl rfl (.slV tree_encU8 _) (.plain _ rfl) ⟨rfl, rfl⟩
  | some l =>
    have hl := vals_len hv
    have hlt16 : ∀ x ∈ l, x.toNat < 16 := by obtain ⟨r, _, _, rfl⟩ := vals_some hv; exact vals_lt
    have hrm : ((l.length : Nat) : Int).tmod 2 = ((l.length % 2 : Nat) : Int) := rfl
    by_cases he : l.length % 2 = 0
    · have hr : readM s = some (pairsL l) := by rw [readM, hv, Option.bind_some, if_pos he]
      have he' : ((l.length % 2 : Nat) : Int) = 0 := by omega
      rw [hv] at hvc
      refine astep_call hvc ?_
      simp (implicitDefEqProofs := false) only [go_sem, Nat.reduceAdd, Nat.reduceSub, Nat.reduceMul, Nat.reduceLT, Nat.reduceLeDiff, Nat.reduceEqDiff, Nat.reduceBEq, Nat.reduceBNe, Nat.reducePow, Int.reduceBEq, Int.reduceBNe, Int.reduceEq, Int.reduceLT, Int.reduceLE, Int.reduceNeg, Int.reduceToNat, Int.reduceMul, Int.reduceAdd, Int.reduceSub, Int.reducePow, Int.reduceFDiv, reduceCtorEq, reduceIte, optI, Option.isSome_some, hrm, he', hr, length_toI]
      refine AWP.loopI (fun k : Nat => l.length - 2 * k) (fun k => [junk, junk, junk, junk, slV encI (Sl.app (toI l)), junk, outV h.length (pairsL (l.take (2 * k))), .int .i64 ((2 * k : Nat) : Int), junk, junk, junk, junk, junk, junk, junk, junk, junk, junk, junk, junk, junk, junk, junk, junk, junk, junk, junk, junk, junk, junk, junk, junk, junk, junk, junk, junk, junk, junk, junk, junk, junk, junk, junk]) (fun k => h ++ [outO encU8 1 (pairsL (l.take (2 * k)))]) (fun k => 2 * k ≤ l.length) 0 (Nat.zero_le _) ?_ ?_
      · refine Keeps.easeG ?_
        repeat (first | exact Keeps.nil | refine Keeps.junk _ ?_ | refine Keeps.keep (by first | exact .plain _ rfl | exact (Tree.slV tree_encI _).ren) ?_)
      · intro k hk
        by_cases hlt : 2 * k < l.length
        · have hlt1 : 2 * k + 1 < l.length := by omega
          have hlen : (pairsL (l.take (2 * k))).length ≤ l.length := by rw [length_pairsL, List.length_take]; omega
          have ha := hlt16 _ (List.getElem_mem hlt)
          have hb := hlt16 _ (List.getElem_mem hlt1)
          have hpr := pr_toNat ha hb
          have w1 : IntKind.i64.wrap (((2 * k : Nat) : Int) + 1) = ((2 * k + 1 : Nat) : Int) := by rw [wrap_i64_of _ (by omega) (by omega)]; omega
          have w2 : IntKind.i64.wrap (((2 * k : Nat) : Int) + 2) = ((2 * (k + 1) : Nat) : Int) := by rw [wrap_i64_of _ (by omega) (by omega)]; omega
          have w3 : IntKind.i64.wrap (16 * ((l[2 * k].toNat : Nat) : Int)) = ((16 * l[2 * k].toNat : Nat) : Int) := by rw [wrap_i64_of _ (by omega) (by omega)]; omega
          have w4 : IntKind.i64.wrap (((16 * l[2 * k].toNat : Nat) : Int) + ((l[2 * k + 1].toNat : Nat) : Int)) = (((pr l[2 * k] l[2 * k + 1]).toNat : Nat) : Int) := by rw [wrap_i64_of _ (by omega) (by omega), hpr]; omega
          have w5 : IntKind.u8.wrap (((pr l[2 * k] l[2 * k + 1]).toNat : Nat) : Int) = (((pr l[2 * k] l[2 * k + 1]).toNat : Nat) : Int) := wrap_u8_of _ (by omega) (by omega)
          simp (implicitDefEqProofs := false) only [go_sem, Nat.reduceAdd, Nat.reduceSub, Nat.reduceMul, Nat.reduceLT, Nat.reduceLeDiff, Nat.reduceEqDiff, Nat.reduceBEq, Nat.reduceBNe, Nat.reducePow, Int.reduceBEq, Int.reduceBNe, Int.reduceEq, Int.reduceLT, Int.reduceLE, Int.reduceNeg, Int.reduceToNat, Int.reduceMul, Int.reduceAdd, Int.reduceSub, Int.reducePow, Int.reduceFDiv, reduceCtorEq, reduceIte, hlt, hlt1, length_toI, toI_get, w1, w2, w3, w4, w5, ↓mkApp_outN (enc := encU8) (m := 1) (n := 1) (by_ := 1) (l := pairsL (l.take (2 * k))) length_encU8 (Nat.zero_lt_one) ⟨by omega, by omega⟩]
          refine ⟨by kernel_rfl, by kernel_rfl, .inr ⟨rfl, by decide⟩, ?_⟩
          have htk := pairsL_snoc k l hlt1
          rw [← show 2 * (k + 1) = 2 * k + 2 from rfl] at htk
          refine ⟨k + 1, by omega, by omega, ?_⟩
          rw [htk]
          refine Eases.pick1 2 (outO encU8 1 (pairsL (l.take (2 * k)) ++ [pr l[2 * k] l[2 * k + 1]])) ⟨_, rfl, outO_renS tree_encU8⟩ ?_
          repeat (first | exact KeepsS.nil | refine KeepsS.junk _ ?_ | refine KeepsS.keep (by first | exact .plain _ rfl | exact (Tree.slV tree_encI _).ren | exact outV_renS) ?_)
        · simp (implicitDefEqProofs := false) only [go_sem, Nat.reduceAdd, Nat.reduceSub, Nat.reduceMul, Nat.reduceLT, Nat.reduceLeDiff, Nat.reduceEqDiff, Nat.reduceBEq, Nat.reduceBNe, Nat.reducePow, Int.reduceBEq, Int.reduceBNe, Int.reduceEq, Int.reduceLT, Int.reduceLE, Int.reduceNeg, Int.reduceToNat, Int.reduceMul, Int.reduceAdd, Int.reduceSub, Int.reducePow, Int.reduceFDiv, reduceCtorEq, reduceIte, hlt, length_toI]
          have hk2 := pairsL_take l (k := k) hk (by omega)
          rw [hk2]
          have hb : (h ++ [outO encU8 1 (pairsL l)])[h.length]? = some (outO encU8 1 (pairsL l)) := at_new0 _ _
          exact apost_two rfl (keeps_append _ _) rfl rfl (Rf.outV hb (dieNew_dead (h0 := h) (Nat.le_refl _) (by simp)) length_encU8) (.same _) (.slV tree_encU8 _) (.plain _ rfl) ⟨rfl, rfl⟩
    · have hr : readM s = none := by rw [readM, hv, Option.bind_some, if_neg he]
      have he' : (((l.length % 2 : Nat) : Int) != 0) = true := by
        rw [bne_iff_ne]; omega
      rw [hv] at hvc
      refine astep_call hvc ?_
      simp (implicitDefEqProofs := false) only [go_sem, Nat.reduceAdd, Nat.reduceSub, Nat.reduceMul, Nat.reduceLT, Nat.reduceLeDiff, Nat.reduceEqDiff, Nat.reduceBEq, Nat.reduceBNe, Nat.reducePow, Int.reduceBEq, Int.reduceBNe, Int.reduceEq, Int.reduceLT, Int.reduceLE, Int.reduceNeg, Int.reduceToNat, Int.reduceMul, Int.reduceAdd, Int.reduceSub, Int.reducePow, Int.reduceFDiv, reduceCtorEq, reduceIte, optI, Option.isSome_some, hrm, he', hr, length_toI]
      exact apost_pp (slV encU8 (Sl.app [])) _ rfl rfl rfl (.slV tree_encU8 _) (.plain _ rfl) ⟨rfl, rfl⟩

theorem cwW_snoc (l : List UInt8) (d : UInt8) : cwW (l ++ [d]) = (shlW (cwW l) 4).set 0 ((shlW (cwW l) 4)[0] ||| UInt64.ofNat d.toNat) := by
  rw [cwW, List.foldl_append]; rfl
set_option maxRecDepth 10000 in
set_option maxHeartbeats 4000000 in
theorem rcount_loop (l : List UInt8) (hl : l.length < 2 ^ 29) (h : AH) : True := trivial
set_option maxRecDepth 10000 in
set_option maxHeartbeats 4000000 in
theorem rcount_calls (s : List UInt8) (hs : s.length < 2 ^ 29) (h : AH) :
    ACalls Tryd.prog 15 #[.string (bs s)] h (fun v h' => v = .tuple #[.agg (encWord ((countM s).getD zeroW)).toArray, .int .i64 (bif (countM s).isSome then 0 else 60)] ∧ h' = h) := by
  refine ACalls.of_ay Tryd.func15 rfl Tryd.ntmps15 ⟨_, _, rfl, rfl⟩ ?_; simp only [List.length_cons, List.length_nil, Nat.reduceAdd, Nat.reduceSub, List.replicate_succ, List.replicate_zero, List.cons_append, List.nil_append]
  simp (implicitDefEqProofs := false) only [go_sem, Nat.reduceAdd, Nat.reduceSub, Nat.reduceMul, Nat.reduceLT, Nat.reduceLeDiff, Nat.reduceEqDiff, Nat.reduceBEq, Nat.reduceBNe, Nat.reducePow, Int.reduceBEq, Int.reduceBNe, Int.reduceEq, Int.reduceLT, Int.reduceLE, Int.reduceNeg, Int.reduceToNat, Int.reduceMul, Int.reduceAdd, Int.reduceSub, Int.reducePow, Int.reduceFDiv, reduceCtorEq, reduceIte]
  have hvc := fun H => rall_calls s hs H
  cases hv : valsS s with
  | none =>
    have hr : countM s = none := by rw [countM, hv]; rfl
    rw [hv] at hvc
    refine astep_call (hvc _) ?_
    simp (implicitDefEqProofs := false) only [go_sem, Nat.reduceAdd, Nat.reduceSub, Nat.reduceMul, Nat.reduceLT, Nat.reduceLeDiff, Nat.reduceEqDiff, Nat.reduceBEq, Nat.reduceBNe, Nat.reducePow, Int.reduceBEq, Int.reduceBNe, Int.reduceEq, Int.reduceLT, Int.reduceLE, Int.reduceNeg, Int.reduceToNat, Int.reduceMul, Int.reduceAdd, Int.reduceSub, Int.reducePow, Int.reduceFDiv, reduceCtorEq, reduceIte, optI, hr, Option.isSome_none]
    exact apost_cellT (.agg (encWord zeroW).toArray) (.int .i64 60) rfl (tree_word _) (.plain _ rfl) ⟨rfl, rfl⟩ _ _ rfl rfl (by simp (implicitDefEqProofs := false) only [go_sem, Nat.reduceAdd, Nat.reduceSub, Nat.reduceMul, Nat.reduceLT, Nat.reduceLeDiff, Nat.reduceEqDiff, Nat.reduceBEq, Nat.reduceBNe, Nat.reducePow, Int.reduceBEq, Int.reduceBNe, Int.reduceEq, Int.reduceLT, Int.reduceLE, Int.reduceNeg, Int.reduceToNat, Int.reduceMul, Int.reduceAdd, Int.reduceSub, Int.reducePow, Int.reduceFDiv, reduceCtorEq, reduceIte]; rfl)
  | some l =>
    have hl := vals_len hv
    have hlt16 : ∀ x ∈ l, x.toNat < 16 := by obtain ⟨r, _, _, rfl⟩ := vals_some hv; exact vals_lt
    rw [hv] at hvc
    cases l with
    | nil =>
      have hr : countM s = none := by rw [countM, hv]; rfl
      refine astep_call (hvc _) ?_
      simp (implicitDefEqProofs := false) only [go_sem, Nat.reduceAdd, Nat.reduceSub, Nat.reduceMul, Nat.reduceLT, Nat.reduceLeDiff, Nat.reduceEqDiff, Nat.reduceBEq, Nat.reduceBNe, Nat.reducePow, Int.reduceBEq, Int.reduceBNe, Int.reduceEq, Int.reduceLT, Int.reduceLE, Int.reduceNeg, Int.reduceToNat, Int.reduceMul, Int.reduceAdd, Int.reduceSub, Int.reducePow, Int.reduceFDiv, reduceCtorEq, reduceIte, optI, hr, length_toI, Option.isSome_some, Option.isSome_none]
      exact apost_cellT (.agg (encWord zeroW).toArray) (.int .i64 60) rfl (tree_word _) (.plain _ rfl) ⟨rfl, rfl⟩ _ _ rfl rfl (by simp (implicitDefEqProofs := false) only [go_sem, Nat.reduceAdd, Nat.reduceSub, Nat.reduceMul, Nat.reduceLT, Nat.reduceLeDiff, Nat.reduceEqDiff, Nat.reduceBEq, Nat.reduceBNe, Nat.reducePow, Int.reduceBEq, Int.reduceBNe, Int.reduceEq, Int.reduceLT, Int.reduceLE, Int.reduceNeg, Int.reduceToNat, Int.reduceMul, Int.reduceAdd, Int.reduceSub, Int.reducePow, Int.reduceFDiv, reduceCtorEq, reduceIte]; rfl)
    | cons d y =>
      have hl1 : (((y.length + 1 : Nat) : Int) == 0) = false := by rw [beq_eq_false_iff_ne]; omega
      have hl0 : 0 < y.length + 1 := by omega
      have hyl : (d :: y).length = y.length + 1 := rfl
      rw [hyl] at hl
      have hp : (0 : Int) < ((y.length + 1 : Nat) : Int) := by omega
      have hd0 : (((d.toNat : Nat) : Int) == 0) = (d == 0) := beq_u8 d 0
      have hg0 : ∀ hh, (toI (d :: y))[0]'hh = ((d.toNat : Nat) : Int) := fun hh => rfl
      by_cases h64 : y.length < 64
      · have h64' : ¬ (64 : Int) < ((y.length + 1 : Nat) : Int) := by omega
        by_cases hgood : d ≠ 0 ∨ y.length = 0
        · have hr : countM s = some (cwW (d :: y)) := by rw [countM, hv, Option.bind_some, if_pos (cnt_ok h64 hgood), cwW_digits (by rw [hyl]; omega) hlt16]
          cases hdz : d == 0 with
          | false =>
            rw [hdz] at hd0
            refine astep_call (hvc _) ?_
            simp (implicitDefEqProofs := false) only [go_sem, Nat.reduceAdd, Nat.reduceSub, Nat.reduceMul, Nat.reduceLT, Nat.reduceLeDiff, Nat.reduceEqDiff, Nat.reduceBEq, Nat.reduceBNe, Nat.reducePow, Int.reduceBEq, Int.reduceBNe, Int.reduceEq, Int.reduceLT, Int.reduceLE, Int.reduceNeg, Int.reduceToNat, Int.reduceMul, Int.reduceAdd, Int.reduceSub, Int.reducePow, Int.reduceFDiv, reduceCtorEq, reduceIte, optI, hl1, hl0, hp, h64', length_toI, hyl, hg0, hd0, hr, Option.isSome_some, Option.getD_some]
            rw [zeroW_enc]
            refine AWP.loopI (fun k : Nat => (y.length + 1) - k) (fun k => [junk, junk, .pointer (some ⟨h.length, 0, none⟩), junk, slV encI (Sl.app (toI (d :: y))), junk, .pointer (some ⟨h.length + 1, 0, none⟩), .int .i64 (k : Nat), junk, junk, junk, junk, junk, junk, junk, junk, junk, junk, junk, junk, junk, junk, junk, junk, junk, junk, junk, junk, junk, junk, junk, junk, junk, junk, junk, junk, junk, junk, junk, junk, junk, junk, junk, junk, junk, junk, junk, junk, junk, junk, junk, junk, junk, junk, junk, junk, junk, junk]) (fun k => h ++ [.cells (encWord zeroW).toArray 0 true, .cells (encWord (cwW ((d :: y).take k))).toArray 0 true]) (fun k => k ≤ y.length + 1) 0 (Nat.zero_le _) ?_ ?_
            · refine Keeps.easeL oren_words ?_
              repeat (first | exact Keeps.nil | refine Keeps.junk _ ?_ | refine Keeps.keep (by first | exact .plain _ rfl | exact (Tree.slV tree_encI _).ren | exact .ptr _ _ _ (by simp) rfl) ?_)
            · intro k hk
              by_cases hlt : k < y.length + 1
              · obtain ⟨c, hc⟩ : ∃ c, c = (d :: y)[k]'hlt := ⟨_, rfl⟩
                have hck : (d :: y)[k]'hlt = c := hc.symm
                have hc16 : c.toNat < 16 := by rw [hc]; exact hlt16 _ (List.getElem_mem hlt)
                have htk : (d :: y).take (k + 1) = (d :: y).take k ++ [c] := by rw [List.take_add_one, List.getElem?_eq_getElem hlt, ← hc]; rfl
                have hgk : ∀ hh, (toI (d :: y))[k]'hh = ((c.toNat : Nat) : Int) := fun hh => by rw [toI_get, hck]
                have hw1 : IntKind.i64.wrap ((k : Int) + 1) = ((k + 1 : Nat) : Int) := by rw [wrap_i64_of _ (by omega) (by omega), ofNat_succ']
                have w5 : IntKind.u64.wrap ((c.toNat : Nat) : Int) = (((UInt64.ofNat c.toNat).toNat : Nat) : Int) := by
                  rw [wrap_u64_of _ (by omega) (by omega), UInt64.toNat_ofNat', Nat.mod_eq_of_lt (by omega)]
                obtain ⟨w, hwd⟩ : ∃ w, w = cwW ((d :: y).take k) := ⟨_, rfl⟩
                simp (implicitDefEqProofs := false) only [go_sem, Nat.reduceAdd, Nat.reduceSub, Nat.reduceMul, Nat.reduceLT, Nat.reduceLeDiff, Nat.reduceEqDiff, Nat.reduceBEq, Nat.reduceBNe, Nat.reducePow, Int.reduceBEq, Int.reduceBNe, Int.reduceEq, Int.reduceLT, Int.reduceLE, Int.reduceNeg, Int.reduceToNat, Int.reduceMul, Int.reduceAdd, Int.reduceSub, Int.reducePow, Int.reduceFDiv, reduceCtorEq, reduceIte, hlt, length_toI, hyl]
                refine ⟨by kernel_rfl, by kernel_rfl, ?_⟩
                refine dstep_callA (fun x => rfrom4_calls _) pres_refl ?_
                simp (implicitDefEqProofs := false) only [go_sem, Nat.reduceAdd, Nat.reduceSub, Nat.reduceMul, Nat.reduceLT, Nat.reduceLeDiff, Nat.reduceEqDiff, Nat.reduceBEq, Nat.reduceBNe, Nat.reducePow, Int.reduceBEq, Int.reduceBNe, Int.reduceEq, Int.reduceLT, Int.reduceLE, Int.reduceNeg, Int.reduceToNat, Int.reduceMul, Int.reduceAdd, Int.reduceSub, Int.reducePow, Int.reduceFDiv, reduceCtorEq, reduceIte, length_encWord]
                rw [← hwd]
                refine dstep_callA (fun x => rshl4_calls w _) pres_refl ?_
                simp (implicitDefEqProofs := false) only [go_sem, Nat.reduceAdd, Nat.reduceSub, Nat.reduceMul, Nat.reduceLT, Nat.reduceLeDiff, Nat.reduceEqDiff, Nat.reduceBEq, Nat.reduceBNe, Nat.reducePow, Int.reduceBEq, Int.reduceBNe, Int.reduceEq, Int.reduceLT, Int.reduceLE, Int.reduceNeg, Int.reduceToNat, Int.reduceMul, Int.reduceAdd, Int.reduceSub, Int.reducePow, Int.reduceFDiv, reduceCtorEq, reduceIte, length_encWord, encWord_get (shlW w 4) (show 0 < 4 by decide), encWord_set (shlW w 4) (show 0 < 4 by decide), hlt, length_toI, hyl, hgk, w5, hw1, Tryd.underlying23]
                refine ⟨by kernel_rfl, by kernel_rfl, .inr ⟨rfl, by decide⟩, k + 1, by omega, by omega, ?_⟩
                rw [htk, cwW_snoc, ← hwd]
                refine Keeps.easeP (t := [.cells (encWord zeroW).toArray 0 true, .cells (encWord ((shlW w 4).set 0 ((shlW w 4)[0] ||| UInt64.ofNat c.toNat))).toArray 0 true]) (x := [.cells (encWord ((shlW w 4).set 0 ((shlW w 4)[0] ||| UInt64.ofNat c.toNat))).toArray 0 true]) oren_words ?_
                repeat (first | exact Keeps.nil | refine Keeps.junk _ ?_ | refine Keeps.keep (by first | exact .plain _ rfl | exact (Tree.slV tree_encI _).ren | exact .ptr _ _ _ (by simp) rfl) ?_)
              · simp (implicitDefEqProofs := false) only [go_sem, Nat.reduceAdd, Nat.reduceSub, Nat.reduceMul, Nat.reduceLT, Nat.reduceLeDiff, Nat.reduceEqDiff, Nat.reduceBEq, Nat.reduceBNe, Nat.reducePow, Int.reduceBEq, Int.reduceBNe, Int.reduceEq, Int.reduceLT, Int.reduceLE, Int.reduceNeg, Int.reduceToNat, Int.reduceMul, Int.reduceAdd, Int.reduceSub, Int.reducePow, Int.reduceFDiv, reduceCtorEq, reduceIte, hlt, length_toI, hyl]
                have hie : k = y.length + 1 := by omega
                subst hie
                rw [← hyl, List.take_length]
                exact apost_cellT (.agg (encWord (cwW (d :: y))).toArray) (.int .i64 0) rfl (tree_word _) (.plain _ rfl) ⟨rfl, rfl⟩ _ _ rfl rfl (by simp (implicitDefEqProofs := false) only [go_sem, Nat.reduceAdd, Nat.reduceSub, Nat.reduceMul, Nat.reduceLT, Nat.reduceLeDiff, Nat.reduceEqDiff, Nat.reduceBEq, Nat.reduceBNe, Nat.reducePow, Int.reduceBEq, Int.reduceBNe, Int.reduceEq, Int.reduceLT, Int.reduceLE, Int.reduceNeg, Int.reduceToNat, Int.reduceMul, Int.reduceAdd, Int.reduceSub, Int.reducePow, Int.reduceFDiv, reduceCtorEq, reduceIte, length_encWord])
          | true =>
            rw [hdz] at hd0
            have h1' : ¬ (1 : Int) < ((y.length + 1 : Nat) : Int) := by
              rcases hgood with hz | hz
              · exact absurd (eq_of_beq hdz) hz
              · omega
            refine astep_call (hvc _) ?_
            simp (implicitDefEqProofs := false) only [go_sem, Nat.reduceAdd, Nat.reduceSub, Nat.reduceMul, Nat.reduceLT, Nat.reduceLeDiff, Nat.reduceEqDiff, Nat.reduceBEq, Nat.reduceBNe, Nat.reducePow, Int.reduceBEq, Int.reduceBNe, Int.reduceEq, Int.reduceLT, Int.reduceLE, Int.reduceNeg, Int.reduceToNat, Int.reduceMul, Int.reduceAdd, Int.reduceSub, Int.reducePow, Int.reduceFDiv, reduceCtorEq, reduceIte, optI, hl1, hl0, hp, h64', h1', length_toI, hyl, hg0, hd0, hr, Option.isSome_some, Option.getD_some]
            rw [zeroW_enc]
            refine AWP.loopI (fun k : Nat => (y.length + 1) - k) (fun k => [junk, junk, .pointer (some ⟨h.length, 0, none⟩), junk, slV encI (Sl.app (toI (d :: y))), junk, .pointer (some ⟨h.length + 1, 0, none⟩), .int .i64 (k : Nat), junk, junk, junk, junk, junk, junk, junk, junk, junk, junk, junk, junk, junk, junk, junk, junk, junk, junk, junk, junk, junk, junk, junk, junk, junk, junk, junk, junk, junk, junk, junk, junk, junk, junk, junk, junk, junk, junk, junk, junk, junk, junk, junk, junk, junk, junk, junk, junk, junk, junk]) (fun k => h ++ [.cells (encWord zeroW).toArray 0 true, .cells (encWord (cwW ((d :: y).take k))).toArray 0 true]) (fun k => k ≤ y.length + 1) 0 (Nat.zero_le _) ?_ ?_
            · refine Keeps.easeL oren_words ?_
              repeat (first | exact Keeps.nil | refine Keeps.junk _ ?_ | refine Keeps.keep (by first | exact .plain _ rfl | exact (Tree.slV tree_encI _).ren | exact .ptr _ _ _ (by simp) rfl) ?_)
            · intro k hk
              by_cases hlt : k < y.length + 1
              · obtain ⟨c, hc⟩ : ∃ c, c = (d :: y)[k]'hlt := ⟨_, rfl⟩
                have hck : (d :: y)[k]'hlt = c := hc.symm
                have hc16 : c.toNat < 16 := by rw [hc]; exact hlt16 _ (List.getElem_mem hlt)
                have htk : (d :: y).take (k + 1) = (d :: y).take k ++ [c] := by rw [List.take_add_one, List.getElem?_eq_getElem hlt, ← hc]; rfl
                have hgk : ∀ hh, (toI (d :: y))[k]'hh = ((c.toNat : Nat) : Int) := fun hh => by rw [toI_get, hck]
                have hw1 : IntKind.i64.wrap ((k : Int) + 1) = ((k + 1 : Nat) : Int) := by rw [wrap_i64_of _ (by omega) (by omega), ofNat_succ']
                have w5 : IntKind.u64.wrap ((c.toNat : Nat) : Int) = (((UInt64.ofNat c.toNat).toNat : Nat) : Int) := by
                  rw [wrap_u64_of _ (by omega) (by omega), UInt64.toNat_ofNat', Nat.mod_eq_of_lt (by omega)]
                obtain ⟨w, hwd⟩ : ∃ w, w = cwW ((d :: y).take k) := ⟨_, rfl⟩
                simp (implicitDefEqProofs := false) only [go_sem, Nat.reduceAdd, Nat.reduceSub, Nat.reduceMul, Nat.reduceLT, Nat.reduceLeDiff, Nat.reduceEqDiff, Nat.reduceBEq, Nat.reduceBNe, Nat.reducePow, Int.reduceBEq, Int.reduceBNe, Int.reduceEq, Int.reduceLT, Int.reduceLE, Int.reduceNeg, Int.reduceToNat, Int.reduceMul, Int.reduceAdd, Int.reduceSub, Int.reducePow, Int.reduceFDiv, reduceCtorEq, reduceIte, hlt, length_toI, hyl]
                refine ⟨by kernel_rfl, by kernel_rfl, ?_⟩
                refine dstep_callA (fun x => rfrom4_calls _) pres_refl ?_
                simp (implicitDefEqProofs := false) only [go_sem, Nat.reduceAdd, Nat.reduceSub, Nat.reduceMul, Nat.reduceLT, Nat.reduceLeDiff, Nat.reduceEqDiff, Nat.reduceBEq, Nat.reduceBNe, Nat.reducePow, Int.reduceBEq, Int.reduceBNe, Int.reduceEq, Int.reduceLT, Int.reduceLE, Int.reduceNeg, Int.reduceToNat, Int.reduceMul, Int.reduceAdd, Int.reduceSub, Int.reducePow, Int.reduceFDiv, reduceCtorEq, reduceIte, length_encWord]
                rw [← hwd]
                refine dstep_callA (fun x => rshl4_calls w _) pres_refl ?_
                simp (implicitDefEqProofs := false) only [go_sem, Nat.reduceAdd, Nat.reduceSub, Nat.reduceMul, Nat.reduceLT, Nat.reduceLeDiff, Nat.reduceEqDiff, Nat.reduceBEq, Nat.reduceBNe, Nat.reducePow, Int.reduceBEq, Int.reduceBNe, Int.reduceEq, Int.reduceLT, Int.reduceLE, Int.reduceNeg, Int.reduceToNat, Int.reduceMul, Int.reduceAdd, Int.reduceSub, Int.reducePow, Int.reduceFDiv, reduceCtorEq, reduceIte, length_encWord, encWord_get (shlW w 4) (show 0 < 4 by decide), encWord_set (shlW w 4) (show 0 < 4 by decide), hlt, length_toI, hyl, hgk, w5, hw1, Tryd.underlying23]
                refine ⟨by kernel_rfl, by kernel_rfl, .inr ⟨rfl, by decide⟩, k + 1, by omega, by omega, ?_⟩
                rw [htk, cwW_snoc, ← hwd]
                refine Keeps.easeP (t := [.cells (encWord zeroW).toArray 0 true, .cells (encWord ((shlW w 4).set 0 ((shlW w 4)[0] ||| UInt64.ofNat c.toNat))).toArray 0 true]) (x := [.cells (encWord ((shlW w 4).set 0 ((shlW w 4)[0] ||| UInt64.ofNat c.toNat))).toArray 0 true]) oren_words ?_
                repeat (first | exact Keeps.nil | refine Keeps.junk _ ?_ | refine Keeps.keep (by first | exact .plain _ rfl | exact (Tree.slV tree_encI _).ren | exact .ptr _ _ _ (by simp) rfl) ?_)
              · simp (implicitDefEqProofs := false) only [go_sem, Nat.reduceAdd, Nat.reduceSub, Nat.reduceMul, Nat.reduceLT, Nat.reduceLeDiff, Nat.reduceEqDiff, Nat.reduceBEq, Nat.reduceBNe, Nat.reducePow, Int.reduceBEq, Int.reduceBNe, Int.reduceEq, Int.reduceLT, Int.reduceLE, Int.reduceNeg, Int.reduceToNat, Int.reduceMul, Int.reduceAdd, Int.reduceSub, Int.reducePow, Int.reduceFDiv, reduceCtorEq, reduceIte, hlt, length_toI, hyl]
                have hie : k = y.length + 1 := by omega
                subst hie
                rw [← hyl, List.take_length]
                exact apost_cellT (.agg (encWord (cwW (d :: y))).toArray) (.int .i64 0) rfl (tree_word _) (.plain _ rfl) ⟨rfl, rfl⟩ _ _ rfl rfl (by simp (implicitDefEqProofs := false) only [go_sem, Nat.reduceAdd, Nat.reduceSub, Nat.reduceMul, Nat.reduceLT, Nat.reduceLeDiff, Nat.reduceEqDiff, Nat.reduceBEq, Nat.reduceBNe, Nat.reducePow, Int.reduceBEq, Int.reduceBNe, Int.reduceEq, Int.reduceLT, Int.reduceLE, Int.reduceNeg, Int.reduceToNat, Int.reduceMul, Int.reduceAdd, Int.reduceSub, Int.reducePow, Int.reduceFDiv, reduceCtorEq, reduceIte, length_encWord])
        · have hz : d = 0 := by
            by_cases hz : d = 0
            · exact hz
            · exact absurd (.inl hz) hgood
          have hy : 0 < y.length := by
            by_cases hy : y.length = 0
            · exact absurd (.inr hy) hgood
            · omega
          have h1' : (1 : Int) < ((y.length + 1 : Nat) : Int) := by omega
          have hr : countM s = none := by rw [countM, hv, Option.bind_some, hz, if_neg]; rw [cnt_bad3 hy]; decide
          rw [hz] at hd0
          have hd0 : ((((0 : UInt8).toNat : Nat) : Int) == 0) = true := rfl
          rw [hz] at hvc hg0
          refine astep_call (hvc _) ?_
          simp (implicitDefEqProofs := false) only [go_sem, Nat.reduceAdd, Nat.reduceSub, Nat.reduceMul, Nat.reduceLT, Nat.reduceLeDiff, Nat.reduceEqDiff, Nat.reduceBEq, Nat.reduceBNe, Nat.reducePow, Int.reduceBEq, Int.reduceBNe, Int.reduceEq, Int.reduceLT, Int.reduceLE, Int.reduceNeg, Int.reduceToNat, Int.reduceMul, Int.reduceAdd, Int.reduceSub, Int.reducePow, Int.reduceFDiv, reduceCtorEq, reduceIte, optI, hl1, hl0, hp, h64', h1', length_toI, hyl, hg0, hd0, hr, Option.isSome_some, Option.isSome_none]
          exact apost_cellT (.agg (encWord zeroW).toArray) (.int .i64 60) rfl (tree_word _) (.plain _ rfl) ⟨rfl, rfl⟩ _ _ rfl rfl (by simp (implicitDefEqProofs := false) only [go_sem, Nat.reduceAdd, Nat.reduceSub, Nat.reduceMul, Nat.reduceLT, Nat.reduceLeDiff, Nat.reduceEqDiff, Nat.reduceBEq, Nat.reduceBNe, Nat.reducePow, Int.reduceBEq, Int.reduceBNe, Int.reduceEq, Int.reduceLT, Int.reduceLE, Int.reduceNeg, Int.reduceToNat, Int.reduceMul, Int.reduceAdd, Int.reduceSub, Int.reducePow, Int.reduceFDiv, reduceCtorEq, reduceIte]; rfl)
      · have h64' : (64 : Int) < ((y.length + 1 : Nat) : Int) := by omega
        have hr : countM s = none := by rw [countM, hv, Option.bind_some, if_neg]; rw [cnt_bad2 (by rw [hyl]; omega)]; decide
        refine astep_call (hvc _) ?_
        simp (implicitDefEqProofs := false) only [go_sem, Nat.reduceAdd, Nat.reduceSub, Nat.reduceMul, Nat.reduceLT, Nat.reduceLeDiff, Nat.reduceEqDiff, Nat.reduceBEq, Nat.reduceBNe, Nat.reducePow, Int.reduceBEq, Int.reduceBNe, Int.reduceEq, Int.reduceLT, Int.reduceLE, Int.reduceNeg, Int.reduceToNat, Int.reduceMul, Int.reduceAdd, Int.reduceSub, Int.reducePow, Int.reduceFDiv, reduceCtorEq, reduceIte, optI, hl1, h64', length_toI, hr, Option.isSome_some, Option.isSome_none]
        exact apost_cellT (.agg (encWord zeroW).toArray) (.int .i64 60) rfl (tree_word _) (.plain _ rfl) ⟨rfl, rfl⟩ _ _ rfl rfl (by simp (implicitDefEqProofs := false) only [go_sem, Nat.reduceAdd, Nat.reduceSub, Nat.reduceMul, Nat.reduceLT, Nat.reduceLeDiff, Nat.reduceEqDiff, Nat.reduceBEq, Nat.reduceBNe, Nat.reducePow, Int.reduceBEq, Int.reduceBNe, Int.reduceEq, Int.reduceLT, Int.reduceLE, Int.reduceNeg, Int.reduceToNat, Int.reduceMul, Int.reduceAdd, Int.reduceSub, Int.reducePow, Int.reduceFDiv, reduceCtorEq, reduceIte]; rfl)
end Go.Proofs
