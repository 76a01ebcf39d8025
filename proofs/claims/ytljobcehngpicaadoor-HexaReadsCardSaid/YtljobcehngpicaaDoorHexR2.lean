import Derived.Test.YtljobcehngpicaaDoorHexR1
import Derived.Test.YtljobcehngpicaaDoorHex3
set_option linter.unusedSimpArgs false
set_option linter.unusedVariables false
/- digits read by the document -/
namespace Go.Proofs
open Go Go.Am

set_option maxRecDepth 10000 in
set_option maxHeartbeats 4000000 in
theorem rdigit_calls (c : UInt8) (h : AH) :
    ACalls Tryd.prog 40 #[.int .u8 ((c.toNat : Nat) : Int)] h (fun v h' => v = .int .i64 (dgI c) ∧ h' = h) := by
  refine ACalls.of_ay Tryd.func40 rfl Tryd.ntmps40 ⟨_, _, rfl, rfl⟩ ?_; simp only [List.length_cons, List.length_nil, Nat.reduceAdd, Nat.reduceSub, List.replicate_succ, List.replicate_zero, List.cons_append, List.nil_append]
  have hc := c.toNat_lt
  by_cases c48 : c.toNat < 48
  · have l65 : ¬ (65 : Int) ≤ ((c.toNat : Nat) : Int) := by omega
    have u70 : ((c.toNat : Nat) : Int) ≤ 70 := by omega
    have l97 : ¬ (97 : Int) ≤ ((c.toNat : Nat) : Int) := by omega
    have u102 : ((c.toNat : Nat) : Int) ≤ 102 := by omega
    have l48 : ¬ (48 : Int) ≤ ((c.toNat : Nat) : Int) := by omega
    have u57 : ((c.toNat : Nat) : Int) ≤ 57 := by omega
    have e : dgt c = none := dgt_none (by omega) (by omega) (by omega)
    simp (implicitDefEqProofs := false) only [go_sem, Nat.reduceAdd, Nat.reduceSub, Nat.reduceMul, Nat.reduceLT, Nat.reduceLeDiff, Nat.reduceEqDiff, Nat.reduceBEq, Nat.reduceBNe, Nat.reducePow, Int.reduceBEq, Int.reduceBNe, Int.reduceEq, Int.reduceLT, Int.reduceLE, Int.reduceNeg, Int.reduceToNat, Int.reduceMul, Int.reduceAdd, Int.reduceSub, Int.reducePow, Int.reduceFDiv, reduceCtorEq, reduceIte, l65, u70, l97, u102, l48, u57]
    exact apost_tmp0 (v := .int .i64 (-1)) rfl rfl ⟨by rw [dgI, e], rfl⟩ _ rfl
  by_cases c58 : c.toNat < 58
  · have l65 : ¬ (65 : Int) ≤ ((c.toNat : Nat) : Int) := by omega
    have u70 : ((c.toNat : Nat) : Int) ≤ 70 := by omega
    have l97 : ¬ (97 : Int) ≤ ((c.toNat : Nat) : Int) := by omega
    have u102 : ((c.toNat : Nat) : Int) ≤ 102 := by omega
    have l48 : (48 : Int) ≤ ((c.toNat : Nat) : Int) := by omega
    have u57 : ((c.toNat : Nat) : Int) ≤ 57 := by omega
    have e : dgt c = some (c - 48) := dgt_num (by omega) (by omega)
    have e1 : (c - 48).toNat = c.toNat - 48 := sub8 (by show 48 ≤ _; omega)
    have w2 : IntKind.u8.wrap (((c.toNat : Nat) : Int) - 48) = ((c.toNat - 48 : Nat) : Int) := by rw [wrap_u8_of _ (by omega) (by omega)]; omega
    have w3 : IntKind.i64.wrap ((c.toNat - 48 : Nat) : Int) = ((c.toNat - 48 : Nat) : Int) := wrap_i64_of _ (by omega) (by omega)
    simp (implicitDefEqProofs := false) only [go_sem, Nat.reduceAdd, Nat.reduceSub, Nat.reduceMul, Nat.reduceLT, Nat.reduceLeDiff, Nat.reduceEqDiff, Nat.reduceBEq, Nat.reduceBNe, Nat.reducePow, Int.reduceBEq, Int.reduceBNe, Int.reduceEq, Int.reduceLT, Int.reduceLE, Int.reduceNeg, Int.reduceToNat, Int.reduceMul, Int.reduceAdd, Int.reduceSub, Int.reducePow, Int.reduceFDiv, reduceCtorEq, reduceIte, l65, u70, l97, u102, l48, u57, w2, w3]
    exact apost_tmp0 (v := .int .i64 ((c.toNat - 48 : Nat) : Int)) rfl rfl ⟨by rw [dgI, e]; simp only [e1], rfl⟩ _ rfl
  by_cases c65 : c.toNat < 65
  · have l65 : ¬ (65 : Int) ≤ ((c.toNat : Nat) : Int) := by omega
    have u70 : ((c.toNat : Nat) : Int) ≤ 70 := by omega
    have l97 : ¬ (97 : Int) ≤ ((c.toNat : Nat) : Int) := by omega
    have u102 : ((c.toNat : Nat) : Int) ≤ 102 := by omega
    have l48 : (48 : Int) ≤ ((c.toNat : Nat) : Int) := by omega
    have u57 : ¬ ((c.toNat : Nat) : Int) ≤ 57 := by omega
    have e : dgt c = none := dgt_none (by omega) (by omega) (by omega)
    simp (implicitDefEqProofs := false) only [go_sem, Nat.reduceAdd, Nat.reduceSub, Nat.reduceMul, Nat.reduceLT, Nat.reduceLeDiff, Nat.reduceEqDiff, Nat.reduceBEq, Nat.reduceBNe, Nat.reducePow, Int.reduceBEq, Int.reduceBNe, Int.reduceEq, Int.reduceLT, Int.reduceLE, Int.reduceNeg, Int.reduceToNat, Int.reduceMul, Int.reduceAdd, Int.reduceSub, Int.reducePow, Int.reduceFDiv, reduceCtorEq, reduceIte, l65, u70, l97, u102, l48, u57]
    exact apost_tmp0 (v := .int .i64 (-1)) rfl rfl ⟨by rw [dgI, e], rfl⟩ _ rfl
  by_cases c71 : c.toNat < 71
  · have l65 : (65 : Int) ≤ ((c.toNat : Nat) : Int) := by omega
    have u70 : ((c.toNat : Nat) : Int) ≤ 70 := by omega
    have l97 : ¬ (97 : Int) ≤ ((c.toNat : Nat) : Int) := by omega
    have u102 : ((c.toNat : Nat) : Int) ≤ 102 := by omega
    have l48 : (48 : Int) ≤ ((c.toNat : Nat) : Int) := by omega
    have u57 : ¬ ((c.toNat : Nat) : Int) ≤ 57 := by omega
    have e : dgt c = some (c - 55) := dgt_up (by omega) (by omega)
    have e1 : (c - 55).toNat = c.toNat - 55 := sub8 (by show 55 ≤ _; omega)
    have w2 : IntKind.u8.wrap (((c.toNat : Nat) : Int) - 65) = ((c.toNat - 65 : Nat) : Int) := by rw [wrap_u8_of _ (by omega) (by omega)]; omega
    have w3 : IntKind.i64.wrap ((c.toNat - 65 : Nat) : Int) = ((c.toNat - 65 : Nat) : Int) := wrap_i64_of _ (by omega) (by omega)
    have w4 : IntKind.i64.wrap (((c.toNat - 65 : Nat) : Int) + 10) = ((c.toNat - 55 : Nat) : Int) := by rw [wrap_i64_of _ (by omega) (by omega)]; omega
    simp (implicitDefEqProofs := false) only [go_sem, Nat.reduceAdd, Nat.reduceSub, Nat.reduceMul, Nat.reduceLT, Nat.reduceLeDiff, Nat.reduceEqDiff, Nat.reduceBEq, Nat.reduceBNe, Nat.reducePow, Int.reduceBEq, Int.reduceBNe, Int.reduceEq, Int.reduceLT, Int.reduceLE, Int.reduceNeg, Int.reduceToNat, Int.reduceMul, Int.reduceAdd, Int.reduceSub, Int.reducePow, Int.reduceFDiv, reduceCtorEq, reduceIte, l65, u70, l97, u102, l48, u57, w2, w3, w4]
    exact apost_tmp0 (v := .int .i64 ((c.toNat - 55 : Nat) : Int)) rfl rfl ⟨by rw [dgI, e]; simp only [e1], rfl⟩ _ rfl
  by_cases c97 : c.toNat < 97
  · have l65 : (65 : Int) ≤ ((c.toNat : Nat) : Int) := by omega
    have u70 : ¬ ((c.toNat : Nat) : Int) ≤ 70 := by omega
    have l97 : ¬ (97 : Int) ≤ ((c.toNat : Nat) : Int) := by omega
    have u102 : ((c.toNat : Nat) : Int) ≤ 102 := by omega
    have l48 : (48 : Int) ≤ ((c.toNat : Nat) : Int) := by omega
    have u57 : ¬ ((c.toNat : Nat) : Int) ≤ 57 := by omega
    have e : dgt c = none := dgt_none (by omega) (by omega) (by omega)
    simp (implicitDefEqProofs := false) only [go_sem, Nat.reduceAdd, Nat.reduceSub, Nat.reduceMul, Nat.reduceLT, Nat.reduceLeDiff, Nat.reduceEqDiff, Nat.reduceBEq, Nat.reduceBNe, Nat.reducePow, Int.reduceBEq, Int.reduceBNe, Int.reduceEq, Int.reduceLT, Int.reduceLE, Int.reduceNeg, Int.reduceToNat, Int.reduceMul, Int.reduceAdd, Int.reduceSub, Int.reducePow, Int.reduceFDiv, reduceCtorEq, reduceIte, l65, u70, l97, u102, l48, u57]
    exact apost_tmp0 (v := .int .i64 (-1)) rfl rfl ⟨by rw [dgI, e], rfl⟩ _ rfl
  by_cases c103 : c.toNat < 103
  · have l65 : (65 : Int) ≤ ((c.toNat : Nat) : Int) := by omega
    have u70 : ¬ ((c.toNat : Nat) : Int) ≤ 70 := by omega
    have l97 : (97 : Int) ≤ ((c.toNat : Nat) : Int) := by omega
    have u102 : ((c.toNat : Nat) : Int) ≤ 102 := by omega
    have l48 : (48 : Int) ≤ ((c.toNat : Nat) : Int) := by omega
    have u57 : ¬ ((c.toNat : Nat) : Int) ≤ 57 := by omega
    have e : dgt c = some (c - 87) := dgt_low (by omega) (by omega)
    have e1 : (c - 87).toNat = c.toNat - 87 := sub8 (by show 87 ≤ _; omega)
    have w2 : IntKind.u8.wrap (((c.toNat : Nat) : Int) - 97) = ((c.toNat - 97 : Nat) : Int) := by rw [wrap_u8_of _ (by omega) (by omega)]; omega
    have w3 : IntKind.i64.wrap ((c.toNat - 97 : Nat) : Int) = ((c.toNat - 97 : Nat) : Int) := wrap_i64_of _ (by omega) (by omega)
    have w4 : IntKind.i64.wrap (((c.toNat - 97 : Nat) : Int) + 10) = ((c.toNat - 87 : Nat) : Int) := by rw [wrap_i64_of _ (by omega) (by omega)]; omega
    simp (implicitDefEqProofs := false) only [go_sem, Nat.reduceAdd, Nat.reduceSub, Nat.reduceMul, Nat.reduceLT, Nat.reduceLeDiff, Nat.reduceEqDiff, Nat.reduceBEq, Nat.reduceBNe, Nat.reducePow, Int.reduceBEq, Int.reduceBNe, Int.reduceEq, Int.reduceLT, Int.reduceLE, Int.reduceNeg, Int.reduceToNat, Int.reduceMul, Int.reduceAdd, Int.reduceSub, Int.reducePow, Int.reduceFDiv, reduceCtorEq, reduceIte, l65, u70, l97, u102, l48, u57, w2, w3, w4]
    exact apost_tmp0 (v := .int .i64 ((c.toNat - 87 : Nat) : Int)) rfl rfl ⟨by rw [dgI, e]; simp only [e1], rfl⟩ _ rfl
  have l65 : (65 : Int) ≤ ((c.toNat : Nat) : Int) := by omega
  have u70 : ¬ ((c.toNat : Nat) : Int) ≤ 70 := by omega
  have l97 : (97 : Int) ≤ ((c.toNat : Nat) : Int) := by omega
  have u102 : ¬ ((c.toNat : Nat) : Int) ≤ 102 := by omega
  have l48 : (48 : Int) ≤ ((c.toNat : Nat) : Int) := by omega
  have u57 : ¬ ((c.toNat : Nat) : Int) ≤ 57 := by omega
  have e : dgt c = none := dgt_none (by omega) (by omega) (by omega)
  simp (implicitDefEqProofs := false) only [go_sem, Nat.reduceAdd, Nat.reduceSub, Nat.reduceMul, Nat.reduceLT, Nat.reduceLeDiff, Nat.reduceEqDiff, Nat.reduceBEq, Nat.reduceBNe, Nat.reducePow, Int.reduceBEq, Int.reduceBNe, Int.reduceEq, Int.reduceLT, Int.reduceLE, Int.reduceNeg, Int.reduceToNat, Int.reduceMul, Int.reduceAdd, Int.reduceSub, Int.reducePow, Int.reduceFDiv, reduceCtorEq, reduceIte, l65, u70, l97, u102, l48, u57]
  exact apost_tmp0 (v := .int .i64 (-1)) rfl rfl ⟨by rw [dgI, e], rfl⟩ _ rfl

def optI : Option (List UInt8) → Value
  | some l => slV encI (Sl.app (toI l))
  | none => .slice none 0 0
theorem bne48 (a : UInt8) : (((a.toNat : Nat) : Int) != 48) = !(a == 48) := by
  have := beq_u8 a 48
  rw [bne, ← this]; rfl
theorem bne120 (a : UInt8) : (((a.toNat : Nat) : Int) != 120) = !(a == 120) := by
  have := beq_u8 a 120
  rw [bne, ← this]; rfl
set_option maxRecDepth 10000 in
set_option maxHeartbeats 4000000 in
theorem rall_bad (s : List UInt8) (hs : s.length < 2 ^ 30) (hc : cutS s = none) (h : AH) :
    ACalls Tryd.prog 27 #[.string (bs s)] h (fun v h' => v = .tuple #[.slice none 0 0, .bool false] ∧ h' = h) := by
  refine ACalls.of_ay Tryd.func27 rfl Tryd.ntmps27 ⟨_, _, rfl, rfl⟩ ?_; simp only [List.length_cons, List.length_nil, Nat.reduceAdd, Nat.reduceSub, List.replicate_succ, List.replicate_zero, List.cons_append, List.nil_append]
  match s, hs, hc with
  | [], _, _ =>
    simp (implicitDefEqProofs := false) only [go_sem, Nat.reduceAdd, Nat.reduceSub, Nat.reduceMul, Nat.reduceLT, Nat.reduceLeDiff, Nat.reduceEqDiff, Nat.reduceBEq, Nat.reduceBNe, Nat.reducePow, Int.reduceBEq, Int.reduceBNe, Int.reduceEq, Int.reduceLT, Int.reduceLE, Int.reduceNeg, Int.reduceToNat, Int.reduceMul, Int.reduceAdd, Int.reduceSub, Int.reducePow, Int.reduceFDiv, reduceCtorEq, reduceIte]
    exact apost_pp _ _ rfl rfl rfl (.plain _ rfl) (.plain _ rfl) ⟨rfl, rfl⟩
  | [a], _, _ =>
    simp (implicitDefEqProofs := false) only [go_sem, Nat.reduceAdd, Nat.reduceSub, Nat.reduceMul, Nat.reduceLT, Nat.reduceLeDiff, Nat.reduceEqDiff, Nat.reduceBEq, Nat.reduceBNe, Nat.reducePow, Int.reduceBEq, Int.reduceBNe, Int.reduceEq, Int.reduceLT, Int.reduceLE, Int.reduceNeg, Int.reduceToNat, Int.reduceMul, Int.reduceAdd, Int.reduceSub, Int.reducePow, Int.reduceFDiv, reduceCtorEq, reduceIte]
    exact apost_pp _ _ rfl rfl rfl (.plain _ rfl) (.plain _ rfl) ⟨rfl, rfl⟩
  | a :: b :: r, hs, hc =>
    have h2 : ¬ ((r.length + 1 + 1 : Nat) : Int) < 2 := by omega
    cases ha : a == 48 with
    | false =>
      simp (implicitDefEqProofs := false) only [go_sem, Nat.reduceAdd, Nat.reduceSub, Nat.reduceMul, Nat.reduceLT, Nat.reduceLeDiff, Nat.reduceEqDiff, Nat.reduceBEq, Nat.reduceBNe, Nat.reducePow, Int.reduceBEq, Int.reduceBNe, Int.reduceEq, Int.reduceLT, Int.reduceLE, Int.reduceNeg, Int.reduceToNat, Int.reduceMul, Int.reduceAdd, Int.reduceSub, Int.reducePow, Int.reduceFDiv, reduceCtorEq, reduceIte, h2, aindex_bs0 strT, aindex_bs1 strT, bne48, ha]
      exact apost_pp _ _ rfl rfl rfl (.plain _ rfl) (.plain _ rfl) ⟨rfl, rfl⟩
    | true =>
      cases hb : b == 120 with
      | false =>
        simp (implicitDefEqProofs := false) only [go_sem, Nat.reduceAdd, Nat.reduceSub, Nat.reduceMul, Nat.reduceLT, Nat.reduceLeDiff, Nat.reduceEqDiff, Nat.reduceBEq, Nat.reduceBNe, Nat.reducePow, Int.reduceBEq, Int.reduceBNe, Int.reduceEq, Int.reduceLT, Int.reduceLE, Int.reduceNeg, Int.reduceToNat, Int.reduceMul, Int.reduceAdd, Int.reduceSub, Int.reducePow, Int.reduceFDiv, reduceCtorEq, reduceIte, h2, aindex_bs0 strT, aindex_bs1 strT, bne48, ha, bne120, hb]
        exact apost_pp _ _ rfl rfl rfl (.plain _ rfl) (.plain _ rfl) ⟨rfl, rfl⟩
      | true =>
        rw [eq_of_beq ha, eq_of_beq hb] at hc
        cases hc

set_option maxRecDepth 10000 in
set_option maxHeartbeats 4000000 in
theorem rall_good (r : List UInt8) (hs : r.length < 2 ^ 29) (h : AH) :
    ACalls Tryd.prog 27 #[.string (bs (48 :: 120 :: r))] h (fun v h' => v = .tuple #[optI (valsR r), .bool (valsR r).isSome] ∧ h' = h) := by
  refine ACalls.of_ay Tryd.func27 rfl Tryd.ntmps27 ⟨_, _, rfl, rfl⟩ ?_; simp only [List.length_cons, List.length_nil, Nat.reduceAdd, Nat.reduceSub, List.replicate_succ, List.replicate_zero, List.cons_append, List.nil_append]
  have h2 : ¬ ((r.length + 1 + 1 : Nat) : Int) < 2 := by omega
  have n48 : (((48 : UInt8).toNat : Nat) : Int) = 48 := rfl
  have n120 : (((120 : UInt8).toNat : Nat) : Int) = 120 := rfl
  simp (implicitDefEqProofs := false) only [go_sem, Nat.reduceAdd, Nat.reduceSub, Nat.reduceMul, Nat.reduceLT, Nat.reduceLeDiff, Nat.reduceEqDiff, Nat.reduceBEq, Nat.reduceBNe, Nat.reducePow, Int.reduceBEq, Int.reduceBNe, Int.reduceEq, Int.reduceLT, Int.reduceLE, Int.reduceNeg, Int.reduceToNat, Int.reduceMul, Int.reduceAdd, Int.reduceSub, Int.reducePow, Int.reduceFDiv, reduceCtorEq, reduceIte, h2, aindex_bs0 strT, aindex_bs1 strT, n48, n120]
  refine AWP.loopI (fun k : Nat => r.length - k) (fun k => [.string (bs (48 :: 120 :: r)), junk, junk, junk, outV h.length (toI ((r.take k).map dz)), .int .i64 ((k + 2 : Nat) : Int), junk, junk, junk, junk, junk, junk, junk, junk, junk, junk, junk, junk, junk, junk, junk, junk, junk, junk, junk, junk, junk, junk, junk, junk, junk, junk, junk, junk, junk, junk, junk]) (fun k => h ++ [outO encI 1 (toI ((r.take k).map dz))]) (fun k => k ≤ r.length ∧ (r.take k).all isD = true) 0 ⟨Nat.zero_le _, by simp⟩ ?_ ?_
  · refine Keeps.easeG ?_
    repeat (first | exact Keeps.nil | refine Keeps.junk _ ?_ | refine Keeps.keep (by first | exact .plain _ rfl | exact .plain rfl) ?_)
  · intro k hk
    obtain ⟨hk, hall⟩ := hk
    by_cases hlt : k < r.length
    · have hl2 : k + 2 < r.length + 1 + 1 := by omega
      have hgi : r[k]? = some r[k] := List.getElem?_eq_getElem hlt
      obtain ⟨c, hc⟩ : ∃ c, c = r[k] := ⟨_, rfl⟩
      rw [← hc] at hgi
      have hw1 : IntKind.i64.wrap (((k + 2 : Nat) : Int) + 1) = ((k + 1 + 2 : Nat) : Int) := by rw [wrap_i64_of _ (by omega) (by omega)]; omega
      have htk : r.take (k + 1) = r.take k ++ [c] := by rw [List.take_add_one, hgi]; rfl
      have hlen : (toI ((r.take k).map dz)).length ≤ r.length := by rw [length_toI, List.length_map, List.length_take]; omega
      have hdc := fun H => rdigit_calls c H
      cases hd : isD c with
      | true =>
        rw [dgI_yes hd] at hdc
        have hn0 : ¬ (((dz c).toNat : Nat) : Int) < 0 := by omega
        simp (implicitDefEqProofs := false) only [go_sem, Nat.reduceAdd, Nat.reduceSub, Nat.reduceMul, Nat.reduceLT, Nat.reduceLeDiff, Nat.reduceEqDiff, Nat.reduceBEq, Nat.reduceBNe, Nat.reducePow, Int.reduceBEq, Int.reduceBNe, Int.reduceEq, Int.reduceLT, Int.reduceLE, Int.reduceNeg, Int.reduceToNat, Int.reduceMul, Int.reduceAdd, Int.reduceSub, Int.reducePow, Int.reduceFDiv, reduceCtorEq, reduceIte, hl2, aindex_bs strT, hgi]
        refine astep_call (hdc _) ?_
        simp (implicitDefEqProofs := false) only [go_sem, Nat.reduceAdd, Nat.reduceSub, Nat.reduceMul, Nat.reduceLT, Nat.reduceLeDiff, Nat.reduceEqDiff, Nat.reduceBEq, Nat.reduceBNe, Nat.reducePow, Int.reduceBEq, Int.reduceBNe, Int.reduceEq, Int.reduceLT, Int.reduceLE, Int.reduceNeg, Int.reduceToNat, Int.reduceMul, Int.reduceAdd, Int.reduceSub, Int.reducePow, Int.reduceFDiv, reduceCtorEq, reduceIte, hn0, hw1, ↓mkApp_outN (enc := encI) (m := 1) (n := 1) (by_ := 8) (l := toI ((r.take k).map dz)) length_encI (Nat.zero_lt_one) ⟨by omega, by omega⟩]
        refine ⟨k + 1, by omega, ⟨by omega, by rw [htk, List.all_append, hall, List.all_cons, hd]; rfl⟩, ?_⟩
        rw [htk, List.map_append, List.map_cons, List.map_nil, toI_snoc]
        refine Eases.pick1 2 (outO encI 1 (toI ((r.take k).map dz) ++ [(((dz c).toNat : Nat) : Int)])) ⟨_, rfl, outO_renS tree_encI⟩ ?_
        repeat (first | exact KeepsS.nil | refine KeepsS.junk _ ?_ | refine KeepsS.keep (by first | exact .plain _ rfl | exact .plain _ rfl | exact outV_renS) ?_)
      | false =>
        rw [dgI_no hd] at hdc
        have hn0 : ((-1 : Int)) < 0 := by decide
        have hv : valsR r = none := by
          rw [valsR, if_neg]
          intro h0
          have := List.all_eq_true.1 h0 _ (List.getElem_mem hlt)
          rw [← hc, hd] at this; cases this
        simp (implicitDefEqProofs := false) only [go_sem, Nat.reduceAdd, Nat.reduceSub, Nat.reduceMul, Nat.reduceLT, Nat.reduceLeDiff, Nat.reduceEqDiff, Nat.reduceBEq, Nat.reduceBNe, Nat.reducePow, Int.reduceBEq, Int.reduceBNe, Int.reduceEq, Int.reduceLT, Int.reduceLE, Int.reduceNeg, Int.reduceToNat, Int.reduceMul, Int.reduceAdd, Int.reduceSub, Int.reducePow, Int.reduceFDiv, reduceCtorEq, reduceIte, hl2, aindex_bs strT, hgi]
        refine astep_call (hdc _) ?_
        simp (implicitDefEqProofs := false) only [go_sem, Nat.reduceAdd, Nat.reduceSub, Nat.reduceMul, Nat.reduceLT, Nat.reduceLeDiff, Nat.reduceEqDiff, Nat.reduceBEq, Nat.reduceBNe, Nat.reducePow, Int.reduceBEq, Int.reduceBNe, Int.reduceEq, Int.reduceLT, Int.reduceLE, Int.reduceNeg, Int.reduceToNat, Int.reduceMul, Int.reduceAdd, Int.reduceSub, Int.reducePow, Int.reduceFDiv, reduceCtorEq, reduceIte, hn0, hv]
        exact apost_pp1 _ _ rfl rfl rfl (.plain _ rfl) (.plain _ rfl) ⟨rfl, rfl⟩
    · have hl2 : ¬ k + 2 < r.length + 1 + 1 := by omega
      simp (implicitDefEqProofs := false) only [go_sem, Nat.reduceAdd, Nat.reduceSub, Nat.reduceMul, Nat.reduceLT, Nat.reduceLeDiff, Nat.reduceEqDiff, Nat.reduceBEq, Nat.reduceBNe, Nat.reducePow, Int.reduceBEq, Int.reduceBNe, Int.reduceEq, Int.reduceLT, Int.reduceLE, Int.reduceNeg, Int.reduceToNat, Int.reduceMul, Int.reduceAdd, Int.reduceSub, Int.reducePow, Int.reduceFDiv, reduceCtorEq, reduceIte, hl2]
      have hie : k = r.length := by omega
      subst hie
      rw [List.take_length] at hall
      have hv : valsR r = some (r.map dz) := by rw [valsR, if_pos hall]
      rw [hv, List.take_length]
      have hb : (h ++ [outO encI 1 (toI (r.map dz))])[h.length]? = some (outO encI 1 (toI (r.map dz))) := at_new0 _ _
      exact apost_two rfl (keeps_append _ _) rfl rfl (Rf.outV hb (dieNew_dead (h0 := h) (Nat.le_refl _) (by simp)) length_encI) (.same _) (.slV tree_encI _) (.plain _ rfl) ⟨rfl, rfl⟩
end Go.Proofs
