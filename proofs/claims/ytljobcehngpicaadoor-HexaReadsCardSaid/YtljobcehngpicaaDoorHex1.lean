import Derived.Test.YtljobcehngpicaaDoorBld1
import Derived.Test.YtljobcehngpicaaDoorAm46x
set_option linter.unusedSimpArgs false
set_option linter.unusedVariables false
/- bytes as digits -/
namespace Go.Proofs
open Go Go.Am

abbrev sT : Nat := 9
theorem strT : isStr Tryd.prog 9 = true := by kernel_rfl
theorem at_digits {k : IntKind} {n : Nat} (hn : n < 16) : aindex Tryd.prog 9 (.string (bs digitsL)) (.int k ((n : Nat) : Int)) = some (.int .u8 (((dig n).toNat : Nat) : Int)) := by
  rw [aindex_bs strT, digitsL_get hn]; rfl

set_option maxRecDepth 10000 in
set_option maxHeartbeats 4000000 in
theorem rwrite_calls (s : Sl UInt8) (hs : s.l.length < 2 ^ 32) (h : AH) :
    ACalls Tryd.prog 9 #[slV encU8 s] h (fun v h' => v = .string (bs (hexW s.l)) ∧ h' = h) := by
  refine ACalls.of_ay Tryd.func9 rfl Tryd.ntmps9 ⟨_, _, rfl, rfl⟩ ?_; simp only [List.length_cons, List.length_nil, Nat.reduceAdd, Nat.reduceSub, List.replicate_succ, List.replicate_zero, List.cons_append, List.nil_append]
  simp (implicitDefEqProofs := false) only [go_sem, Nat.reduceAdd, Nat.reduceSub, Nat.reduceMul, Nat.reduceLT, Nat.reduceLeDiff, Nat.reduceEqDiff, Nat.reduceBEq, Nat.reduceBNe, Nat.reducePow, Int.reduceBEq, Int.reduceBNe, Int.reduceEq, Int.reduceLT, Int.reduceLE, Int.reduceNeg, Int.reduceToNat, Int.reduceMul, Int.reduceAdd, Int.reduceSub, Int.reducePow, Int.reduceFDiv, reduceCtorEq, reduceIte]
  refine AWP.loopI (fun i : Nat => s.l.length - i) (fun i => [slV encU8 s, junk, junk, .string (bs (hexW (s.l.take i))), .int .i64 (i : Nat), junk, junk, junk, junk, junk, junk, junk, junk, junk, junk, junk, junk, junk, junk, junk, junk, junk, junk, junk, junk, junk, junk, junk, junk, junk, junk, junk, junk, junk, junk, junk, junk, junk, junk]) (fun _ => h) (fun i => i ≤ s.l.length) 0 (Nat.zero_le _) ?_ ?_
  · refine Keeps.ease0 ?_
    repeat (first | exact Keeps.nil | refine Keeps.junk _ ?_ | refine Keeps.keep (by first | exact .plain _ rfl | exact (Tree.slV tree_encU8 _).ren | exact .plain rfl) ?_)
  · intro i hi
    by_cases hlt : i < s.l.length
    · obtain ⟨b, hb⟩ : ∃ b, b = s.l[i] := ⟨_, rfl⟩
      have hb8 := b.toNat_lt
      have hq : IntKind.u8.wrap (((b.toNat : Nat) : Int).tdiv 16) = ((b.toNat / 16 : Nat) : Int) := by rw [show ((b.toNat : Nat) : Int).tdiv 16 = ((b.toNat / 16 : Nat) : Int) from rfl]; exact wrap_u8_of _ (by omega) (by omega)
      have hr : ((b.toNat : Nat) : Int).tmod 16 = ((b.toNat % 16 : Nat) : Int) := rfl
      have hq1 : IntKind.u8.wrap (((b.toNat / 16 : Nat) : Int) + 1) = ((b.toNat / 16 + 1 : Nat) : Int) := by rw [wrap_u8_of _ (by omega) (by omega)]; omega
      have hr1 : IntKind.u8.wrap (((b.toNat % 16 : Nat) : Int) + 1) = ((b.toNat % 16 + 1 : Nat) : Int) := by rw [wrap_u8_of _ (by omega) (by omega)]; omega
      have hw1 : IntKind.i64.wrap ((i : Int) + 1) = ((i + 1 : Nat) : Int) := by rw [wrap_i64_of _ (by omega) (by omega), ofNat_succ']
      have hc1 := slT_both (l := digitsL) (k := .u8) (k' := .u8) (i := b.toNat / 16) (j := b.toNat / 16 + 1) (by omega) (by show _ ≤ 16; omega)
      have hc2 := slT_both (l := digitsL) (k := .u8) (k' := .u8) (i := b.toNat % 16) (j := b.toNat % 16 + 1) (by omega) (by show _ ≤ 16; omega)
      rw [digitsL_cut (by omega)] at hc1 hc2
      have hlen := length_hexW (s.l.take i)
      have htl : (s.l.take i).length ≤ i := by rw [List.length_take]; omega
      have hd1 : ∀ x y, abinOp Tryd.prog .add 9 x y (.string (bs (hexW (s.l.take i)))) (.string (bs [dig (b.toNat / 16)])) = _ := fun x y => abin_addL (by simp; omega)
      have hd2 : ∀ x y, abinOp Tryd.prog .add 9 x y (.string (bs (hexW (s.l.take i) ++ [dig (b.toNat / 16)]))) (.string (bs [dig (b.toNat % 16)])) = _ := fun x y => abin_addL (by simp; omega)
      simp (implicitDefEqProofs := false) only [go_sem, Nat.reduceAdd, Nat.reduceSub, Nat.reduceMul, Nat.reduceLT, Nat.reduceLeDiff, Nat.reduceEqDiff, Nat.reduceBEq, Nat.reduceBNe, Nat.reducePow, Int.reduceBEq, Int.reduceBNe, Int.reduceEq, Int.reduceLT, Int.reduceLE, Int.reduceNeg, Int.reduceToNat, Int.reduceMul, Int.reduceAdd, Int.reduceSub, Int.reducePow, Int.reduceFDiv, reduceCtorEq, reduceIte, hlt, ← hb, hq, hr, hq1, hr1, hw1, mk_bs, digits_lit, ↓hc1, ↓hc2, hd1, hd2]
      refine ⟨by kernel_rfl, by kernel_rfl, i + 1, by omega, by omega, ?_⟩
      have htk : s.l.take (i + 1) = s.l.take i ++ [b] := by rw [List.take_add_one, List.getElem?_eq_getElem hlt, ← hb]; rfl
      rw [htk, hexW_snoc]
      refine Keeps.ease0 ?_
      repeat (first | exact Keeps.nil | refine Keeps.junk _ ?_ | refine Keeps.keep (by first | exact .plain _ rfl | exact (Tree.slV tree_encU8 _).ren | exact .plain rfl) ?_)
    · simp (implicitDefEqProofs := false) only [go_sem, Nat.reduceAdd, Nat.reduceSub, Nat.reduceMul, Nat.reduceLT, Nat.reduceLeDiff, Nat.reduceEqDiff, Nat.reduceBEq, Nat.reduceBNe, Nat.reducePow, Int.reduceBEq, Int.reduceBNe, Int.reduceEq, Int.reduceLT, Int.reduceLE, Int.reduceNeg, Int.reduceToNat, Int.reduceMul, Int.reduceAdd, Int.reduceSub, Int.reducePow, Int.reduceFDiv, reduceCtorEq, reduceIte, hlt]
      have hie : i = s.l.length := by omega
      subst hie
      rw [List.take_length]
      exact apost_tmp0 rfl rfl ⟨rfl, rfl⟩ _ rfl

set_option maxRecDepth 10000 in
set_option maxHeartbeats 4000000 in
theorem write_calls (s : Sl UInt8) (hs : s.l.length < 2 ^ 30) (h : AH) :
    ACalls Tryd.prog 8 #[slV encU8 s] h (fun v h' => v = .string (bs (hexW s.l)) ∧ h' = h) := by
  refine ACalls.of_ay Tryd.func8 rfl Tryd.ntmps8 ⟨_, _, rfl, rfl⟩ ?_; simp only [List.length_cons, List.length_nil, Nat.reduceAdd, Nat.reduceSub, List.replicate_succ, List.replicate_zero, List.cons_append, List.nil_append]
  simp (implicitDefEqProofs := false) only [go_sem, Nat.reduceAdd, Nat.reduceSub, Nat.reduceMul, Nat.reduceLT, Nat.reduceLeDiff, Nat.reduceEqDiff, Nat.reduceBEq, Nat.reduceBNe, Nat.reducePow, Int.reduceBEq, Int.reduceBNe, Int.reduceEq, Int.reduceLT, Int.reduceLE, Int.reduceNeg, Int.reduceToNat, Int.reduceMul, Int.reduceAdd, Int.reduceSub, Int.reducePow, Int.reduceFDiv, reduceCtorEq, reduceIte]
  refine astep_calls (ws0_calls h.length ⟨#[48, 120]⟩ (by decide) (by decide) _ (at_new0 _ _)) ?_
  intro v h1 hR
  obtain ⟨rfl, hh⟩ := hR
  simp only [set_new0, List.append_assoc, List.cons_append, List.nil_append, List.length_append, List.length_cons, List.length_nil, Nat.zero_add] at hh
  subst hh
  simp (implicitDefEqProofs := false) only [go_sem, Nat.reduceAdd, Nat.reduceSub, Nat.reduceMul, Nat.reduceLT, Nat.reduceLeDiff, Nat.reduceEqDiff, Nat.reduceBEq, Nat.reduceBNe, Nat.reducePow, Int.reduceBEq, Int.reduceBNe, Int.reduceEq, Int.reduceLT, Int.reduceLE, Int.reduceNeg, Int.reduceToNat, Int.reduceMul, Int.reduceAdd, Int.reduceSub, Int.reducePow, Int.reduceFDiv, reduceCtorEq, reduceIte]
  refine AWP.loopI (fun i : Nat => s.l.length - i) (fun i => [junk, junk, junk, .pointer (some ⟨h.length, 0, none⟩), junk, junk, junk, slV encU8 s, .int .i64 (s.l.length : Nat), .int .i64 (i : Nat), junk, junk, junk, junk, junk, junk, junk, junk, junk, junk, junk, junk, junk]) (fun i => h ++ [bldC h.length 1 (2 * i + 2) (2 * i + 2) (tagN + bT), bufO (hexW (s.l.take i))]) (fun i => i ≤ s.l.length) 0 (Nat.zero_le _) ?_ ?_
  · refine Keeps.easeL (oren_bldB rfl) ?_
    repeat (first | exact Keeps.nil | refine Keeps.junk _ ?_ | refine Keeps.keep (by first | exact .plain _ rfl | exact (Tree.slV tree_encU8 _).ren | exact .ptr _ _ _ (by simp) rfl) ?_)
  · intro i hi
    by_cases hlt : i < s.l.length
    · obtain ⟨b, hb⟩ : ∃ b, b = s.l[i] := ⟨_, rfl⟩
      have hb8 := b.toNat_lt
      have hw1 : IntKind.i64.wrap ((i : Int) + 1) = ((i + 1 : Nat) : Int) := by rw [wrap_i64_of _ (by omega) (by omega), ofNat_succ']
      have hlen := length_hexW (s.l.take i)
      have htl : (s.l.take i).length = i := by rw [List.length_take]; omega
      obtain ⟨L, hL⟩ : ∃ L, L = hexW (s.l.take i) := ⟨_, rfl⟩
      rw [← hL] at hlen
      have hLn : L.length = 2 * i + 2 := by rw [hlen, htl]
      simp (implicitDefEqProofs := false) only [go_sem, Nat.reduceAdd, Nat.reduceSub, Nat.reduceMul, Nat.reduceLT, Nat.reduceLeDiff, Nat.reduceEqDiff, Nat.reduceBEq, Nat.reduceBNe, Nat.reducePow, Int.reduceBEq, Int.reduceBNe, Int.reduceEq, Int.reduceLT, Int.reduceLE, Int.reduceNeg, Int.reduceToNat, Int.reduceMul, Int.reduceAdd, Int.reduceSub, Int.reducePow, Int.reduceFDiv, reduceCtorEq, reduceIte, hlt, ← hb, mk_bs, digits_lit, u8_shr4, at_digits (show b.toNat / 16 < 16 by omega)]
      rw [← hLn, ← hL]
      refine astep_calls (wb1_calls h.length (h.length + 1) L (by omega) (by omega) (dig (b.toNat / 16)) (h ++ [bldC h.length 1 L.length L.length (tagN + bT), bufO L]) (at_new0 h _) (at_new h _ 1) (by omega)) ?_
      intro v h1 hR
      obtain ⟨rfl, hh⟩ := hR
      simp only [set_new0, set_new, List.set_cons_succ, List.set_cons_zero, List.append_assoc, List.cons_append, List.nil_append, List.length_append, List.length_cons, List.length_nil, Nat.zero_add] at hh
      subst hh
      simp (implicitDefEqProofs := false) only [go_sem, Nat.reduceAdd, Nat.reduceSub, Nat.reduceMul, Nat.reduceLT, Nat.reduceLeDiff, Nat.reduceEqDiff, Nat.reduceBEq, Nat.reduceBNe, Nat.reducePow, Int.reduceBEq, Int.reduceBNe, Int.reduceEq, Int.reduceLT, Int.reduceLE, Int.reduceNeg, Int.reduceToNat, Int.reduceMul, Int.reduceAdd, Int.reduceSub, Int.reducePow, Int.reduceFDiv, reduceCtorEq, reduceIte, mk_bs, digits_lit, ↓abin_and15, at_digits (show b.toNat % 16 < 16 by omega)]
      refine astep_calls (wb1_calls h.length (h.length + 3) (L ++ [dig (b.toNat / 16)]) (by simp; omega) (by simp) (dig (b.toNat % 16)) (h ++ [bldC h.length 3 (L.length + 1) (L.length + 1) (tagN + bT), .dead, .cells #[.int .u8 (((dig (b.toNat / 16)).toNat : Nat) : Int)] 1 true, bufO (L ++ [dig (b.toNat / 16)])]) ?_ (at_new h _ 3) (by omega)) ?_
      · simp only [List.length_append, List.length_cons, List.length_nil]; exact at_new0 h _
      intro v h1 hR
      obtain ⟨rfl, hh⟩ := hR
      simp only [set_new0, set_new, List.set_cons_succ, List.set_cons_zero, List.append_assoc, List.cons_append, List.nil_append, List.length_append, List.length_cons, List.length_nil, Nat.zero_add] at hh
      subst hh
      simp (implicitDefEqProofs := false) only [go_sem, Nat.reduceAdd, Nat.reduceSub, Nat.reduceMul, Nat.reduceLT, Nat.reduceLeDiff, Nat.reduceEqDiff, Nat.reduceBEq, Nat.reduceBNe, Nat.reducePow, Int.reduceBEq, Int.reduceBNe, Int.reduceEq, Int.reduceLT, Int.reduceLE, Int.reduceNeg, Int.reduceToNat, Int.reduceMul, Int.reduceAdd, Int.reduceSub, Int.reducePow, Int.reduceFDiv, reduceCtorEq, reduceIte, hw1]
      have htk : s.l.take (i + 1) = s.l.take i ++ [b] := by rw [List.take_add_one, List.getElem?_eq_getElem hlt, ← hb]; rfl
      refine ⟨i + 1, by omega, by omega, ?_⟩
      rw [htk, hexW_snoc, ← hL, show 2 * (i + 1) + 2 = L.length + 1 + 1 by omega]
      refine pickB 5 (by decide) rfl rfl ?_
      repeat (first | exact KeepsS.nil | refine KeepsS.junk _ ?_ | refine KeepsS.keep (by first | exact .plain _ rfl | exact (Tree.slV tree_encU8 _).ren | exact ptr_pick (k := 0) (by omega) rfl) ?_)
    · simp (implicitDefEqProofs := false) only [go_sem, Nat.reduceAdd, Nat.reduceSub, Nat.reduceMul, Nat.reduceLT, Nat.reduceLeDiff, Nat.reduceEqDiff, Nat.reduceBEq, Nat.reduceBNe, Nat.reducePow, Int.reduceBEq, Int.reduceBNe, Int.reduceEq, Int.reduceLT, Int.reduceLE, Int.reduceNeg, Int.reduceToNat, Int.reduceMul, Int.reduceAdd, Int.reduceSub, Int.reducePow, Int.reduceFDiv, reduceCtorEq, reduceIte, hlt]
      have hie : i = s.l.length := by omega
      subst hie
      have hlen := length_hexW s.l
      rw [List.take_length, ← hlen]
      refine astep_calls (bstr_calls h.length (h.length + 1) (hexW s.l) (by omega) (by omega) (h ++ [bldC h.length 1 (hexW s.l).length (hexW s.l).length (tagN + bT), bufO (hexW s.l)]) (at_new0 h _) (at_new h _ 1)) ?_
      intro v h1 hR
      obtain ⟨rfl, hh⟩ := hR
      simp only [set_new, List.set_cons_succ, List.set_cons_zero] at hh
      subst hh
      simp (implicitDefEqProofs := false) only [go_sem, Nat.reduceAdd, Nat.reduceSub, Nat.reduceMul, Nat.reduceLT, Nat.reduceLeDiff, Nat.reduceEqDiff, Nat.reduceBEq, Nat.reduceBNe, Nat.reducePow, Int.reduceBEq, Int.reduceBNe, Int.reduceEq, Int.reduceLT, Int.reduceLE, Int.reduceNeg, Int.reduceToNat, Int.reduceMul, Int.reduceAdd, Int.reduceSub, Int.reducePow, Int.reduceFDiv, reduceCtorEq, reduceIte, mk_bs]
      exact apost_tmp rfl rfl ⟨rfl, rfl⟩ _ _ rfl
end Go.Proofs
