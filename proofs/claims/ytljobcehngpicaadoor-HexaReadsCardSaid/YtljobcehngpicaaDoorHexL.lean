import Derived.Test.YtljobcehngpicaaDoorHexK
import Derived.Test.YtljobcehngpicaaDoorAm49x
set_option linter.unusedSimpArgs false
set_option linter.unusedVariables false
/- bytes that somebody else holds, as digits -/
namespace Go.Proofs
open Go Go.Am

set_option maxRecDepth 10000 in
set_option maxHeartbeats 4000000 in
theorem writeL_calls (l : List UInt8) {n : Nat} (hn : l.length = n) (hs : n < 2 ^ 30) (h : AH) (bb es0 : Nat) (hb0 : h[bb]? = some (.cells (flatV encU8 l) es0 true)) (hes : es0 = 0 ∨ es0 = 1) :
    ACalls Tryd.prog 8 #[.slice (some ⟨bb, 0, none⟩) n n] h (fun v h' => v = .string (bs (hexW l)) ∧ h' = h) := by
  subst hn
  have hbl : bb < h.length := (List.getElem?_eq_some_iff.1 hb0).1
  refine ACalls.of_ay Tryd.func8 rfl Tryd.ntmps8 ⟨_, _, rfl, rfl⟩ ?_; simp only [List.length_cons, List.length_nil, Nat.reduceAdd, Nat.reduceSub, List.replicate_succ, List.replicate_zero, List.cons_append, List.nil_append]
  simp (implicitDefEqProofs := false) only [go_sem, Nat.reduceAdd, Nat.reduceSub, Nat.reduceMul, Nat.reduceLT, Nat.reduceLeDiff, Nat.reduceEqDiff, Nat.reduceBEq, Nat.reduceBNe, Nat.reducePow, Int.reduceBEq, Int.reduceBNe, Int.reduceEq, Int.reduceLT, Int.reduceLE, Int.reduceNeg, Int.reduceToNat, Int.reduceMul, Int.reduceAdd, Int.reduceSub, Int.reducePow, Int.reduceFDiv, reduceCtorEq, reduceIte]
  refine astep_calls (ws0_calls h.length ⟨#[48, 120]⟩ (by decide) (by decide) _ (at_new0 _ _)) ?_
  intro v h1 hR
  obtain ⟨rfl, hh⟩ := hR
  simp only [set_new0, List.append_assoc, List.cons_append, List.nil_append, List.length_append, List.length_cons, List.length_nil, Nat.zero_add] at hh
  subst hh
  simp (implicitDefEqProofs := false) only [go_sem, Nat.reduceAdd, Nat.reduceSub, Nat.reduceMul, Nat.reduceLT, Nat.reduceLeDiff, Nat.reduceEqDiff, Nat.reduceBEq, Nat.reduceBNe, Nat.reducePow, Int.reduceBEq, Int.reduceBNe, Int.reduceEq, Int.reduceLT, Int.reduceLE, Int.reduceNeg, Int.reduceToNat, Int.reduceMul, Int.reduceAdd, Int.reduceSub, Int.reducePow, Int.reduceFDiv, reduceCtorEq, reduceIte]
  refine AWP.loopI (fun i : Nat => l.length - i) (fun i => [junk, junk, junk, .pointer (some ⟨h.length, 0, none⟩), junk, junk, junk, (.slice (some ⟨bb, 0, none⟩) l.length l.length : Value), .int .i64 (l.length : Nat), .int .i64 (i : Nat), junk, junk, junk, junk, junk, junk, junk, junk, junk, junk, junk, junk, junk]) (fun i => h ++ [bldC h.length 1 (2 * i + 2) (2 * i + 2) (tagN + bT), bufO (hexW (l.take i))]) (fun i => i ≤ l.length) 0 (Nat.zero_le _) ?_ ?_
  · refine Keeps.easeL (oren_bldB rfl) ?_
    repeat (first | exact Keeps.nil | refine Keeps.junk _ ?_ | refine Keeps.keep (by first | exact .plain _ rfl | exact .slice _ _ _ _ _ (by simp; omega) rfl | exact .ptr _ _ _ (by simp) rfl) ?_)
  · intro i hi
    by_cases hlt : i < l.length
    · obtain ⟨b, hb⟩ : ∃ b, b = l[i] := ⟨_, rfl⟩
      have hb8 := b.toNat_lt
      have hw1 : IntKind.i64.wrap ((i : Int) + 1) = ((i + 1 : Nat) : Int) := by rw [wrap_i64_of _ (by omega) (by omega), ofNat_succ']
      have hget : (flatV encU8 l)[i]? = some (.int .u8 ((b.toNat : Nat) : Int)) := by rw [flat_u8]; simp [hlt, hb]
      have hfr : ∀ t : AH, (h ++ t)[bb]? = some (.cells (flatV encU8 l) es0 true) := fun t => by rw [at_front hbl]; exact hb0
      have hlen := length_hexW (l.take i)
      have htl : (l.take i).length = i := by rw [List.length_take]; omega
      obtain ⟨L, hL⟩ : ∃ L, L = hexW (l.take i) := ⟨_, rfl⟩
      rw [← hL] at hlen
      have hLn : L.length = 2 * i + 2 := by rw [hlen, htl]
      simp (implicitDefEqProofs := false) only [go_sem, Nat.reduceAdd, Nat.reduceSub, Nat.reduceMul, Nat.reduceLT, Nat.reduceLeDiff, Nat.reduceEqDiff, Nat.reduceBEq, Nat.reduceBNe, Nat.reducePow, Int.reduceBEq, Int.reduceBNe, Int.reduceEq, Int.reduceLT, Int.reduceLE, Int.reduceNeg, Int.reduceToNat, Int.reduceMul, Int.reduceAdd, Int.reduceSub, Int.reducePow, Int.reduceFDiv, reduceCtorEq, reduceIte, hlt, hfr, hget, mk_bs, digits_lit, u8_shr4, at_digits (show b.toNat / 16 < 16 by omega)]
      rw [← hLn, ← hL]
      refine astep_calls (wb1_calls h.length (h.length + 1) L (by omega) (by omega) (dig (b.toNat / 16)) (h ++ [bldC h.length 1 L.length L.length (tagN + bT), bufO L]) (at_new0 h _) (at_new h _ 1) (by omega)) ?_
      intro v h1 hR
      obtain ⟨rfl, hh⟩ := hR
      simp only [set_new0, set_new, List.set_cons_succ, List.set_cons_zero, List.append_assoc, List.cons_append, List.nil_append, List.length_append, List.length_cons, List.length_nil, Nat.zero_add] at hh
      subst hh
      simp (implicitDefEqProofs := false) only [go_sem, Nat.reduceAdd, Nat.reduceSub, Nat.reduceMul, Nat.reduceLT, Nat.reduceLeDiff, Nat.reduceEqDiff, Nat.reduceBEq, Nat.reduceBNe, Nat.reducePow, Int.reduceBEq, Int.reduceBNe, Int.reduceEq, Int.reduceLT, Int.reduceLE, Int.reduceNeg, Int.reduceToNat, Int.reduceMul, Int.reduceAdd, Int.reduceSub, Int.reducePow, Int.reduceFDiv, reduceCtorEq, reduceIte, mk_bs, digits_lit, ↓abin_and15, at_digits (show b.toNat % 16 < 16 by omega)]
      refine astep_calls (wb1_calls h.length (h.length + 3) (L ++ [dig (b.toNat / 16)]) (by simp; omega) (by simp) (dig (b.toNat % 16)) (h ++ [bldC h.length 3 (L.length + 1) (L.length + 1) (tagN + bT), .dead, .cells #[.int .u8 (((dig (b.toNat / 16)).toNat : Nat) : Int)] 1 true, bufO (L ++ [dig (b.toNat / 16)])]) ?_ (at_new h _ 3) (by omega)) ?_
      · simp only [List.length_append, List.length_cons, List.length_nil]; exact at_new0 h _
      intro v h1 hR
      obtain ⟨rfl, hh⟩ := hR
      simp only [set_new0, set_new, List.set_cons_succ, List.set_cons_zero, List.append_assoc, List.cons_append, List.nil_append, List.length_append, List.length_cons, List.length_nil, Nat.zero_add] at hh
      subst hh
      simp (implicitDefEqProofs := false) only [go_sem, Nat.reduceAdd, Nat.reduceSub, Nat.reduceMul, Nat.reduceLT, Nat.reduceLeDiff, Nat.reduceEqDiff, Nat.reduceBEq, Nat.reduceBNe, Nat.reducePow, Int.reduceBEq, Int.reduceBNe, Int.reduceEq, Int.reduceLT, Int.reduceLE, Int.reduceNeg, Int.reduceToNat, Int.reduceMul, Int.reduceAdd, Int.reduceSub, Int.reducePow, Int.reduceFDiv, reduceCtorEq, reduceIte, hw1]
      have htk : l.take (i + 1) = l.take i ++ [b] := by rw [List.take_add_one, List.getElem?_eq_getElem hlt, ← hb]; rfl
      refine ⟨i + 1, by omega, by omega, ?_⟩
      rw [htk, hexW_snoc, ← hL, show 2 * (i + 1) + 2 = L.length + 1 + 1 by omega]
      refine pickB 5 (by decide) rfl rfl ?_
      repeat (first | exact KeepsS.nil | refine KeepsS.junk _ ?_ | refine KeepsS.keep (by first | exact .plain _ rfl | exact .slice _ _ _ _ _ (by omega) (pick_lt _ _ _ hbl).symm | exact ptr_pick (k := 0) (by omega) rfl) ?_)
    · simp (implicitDefEqProofs := false) only [go_sem, Nat.reduceAdd, Nat.reduceSub, Nat.reduceMul, Nat.reduceLT, Nat.reduceLeDiff, Nat.reduceEqDiff, Nat.reduceBEq, Nat.reduceBNe, Nat.reducePow, Int.reduceBEq, Int.reduceBNe, Int.reduceEq, Int.reduceLT, Int.reduceLE, Int.reduceNeg, Int.reduceToNat, Int.reduceMul, Int.reduceAdd, Int.reduceSub, Int.reducePow, Int.reduceFDiv, reduceCtorEq, reduceIte, hlt]
      have hie : i = l.length := by omega
      subst hie
      have hlen := length_hexW l
      rw [List.take_length, ← hlen]
      refine astep_calls (bstr_calls h.length (h.length + 1) (hexW l) (by omega) (by omega) (h ++ [bldC h.length 1 (hexW l).length (hexW l).length (tagN + bT), bufO (hexW l)]) (at_new0 h _) (at_new h _ 1)) ?_
      intro v h1 hR
      obtain ⟨rfl, hh⟩ := hR
      simp only [set_new, List.set_cons_succ, List.set_cons_zero] at hh
      subst hh
      simp (implicitDefEqProofs := false) only [go_sem, Nat.reduceAdd, Nat.reduceSub, Nat.reduceMul, Nat.reduceLT, Nat.reduceLeDiff, Nat.reduceEqDiff, Nat.reduceBEq, Nat.reduceBNe, Nat.reducePow, Int.reduceBEq, Int.reduceBNe, Int.reduceEq, Int.reduceLT, Int.reduceLE, Int.reduceNeg, Int.reduceToNat, Int.reduceMul, Int.reduceAdd, Int.reduceSub, Int.reducePow, Int.reduceFDiv, reduceCtorEq, reduceIte, mk_bs]
      exact apost_tmp rfl rfl ⟨rfl, rfl⟩ _ _ rfl
end Go.Proofs
