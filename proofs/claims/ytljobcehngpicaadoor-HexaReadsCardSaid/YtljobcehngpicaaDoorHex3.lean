import Derived.Test.YtljobcehngpicaaDoorHex1
import Derived.Test.YtljobcehngpicaaDoorAm46x
set_option linter.unusedSimpArgs false
set_option linter.unusedVariables false
/- digits read -/
namespace Go.Proofs
open Go Go.Am

set_option maxRecDepth 10000 in
set_option maxHeartbeats 4000000 in
theorem digit_calls (c : UInt8) (h : AH) :
    ACalls Tryd.prog 39 #[.int .u8 ((c.toNat : Nat) : Int)] h (fun v h' => v = .tuple #[.int .u8 (((dz c).toNat : Nat) : Int), .bool (isD c)] ∧ h' = h) := by
  refine ACalls.of_ay Tryd.func39 rfl Tryd.ntmps39 ⟨_, _, rfl, rfl⟩ ?_; simp only [List.length_cons, List.length_nil, Nat.reduceAdd, Nat.reduceSub, List.replicate_succ, List.replicate_zero, List.cons_append, List.nil_append]
  have hc := c.toNat_lt
  by_cases c48 : c.toNat < 48
  · have l65 : ¬ (65 : Int) ≤ ((c.toNat : Nat) : Int) := by omega
    have u70 : ((c.toNat : Nat) : Int) ≤ 70 := by omega
    have l97 : ¬ (97 : Int) ≤ ((c.toNat : Nat) : Int) := by omega
    have u102 : ((c.toNat : Nat) : Int) ≤ 102 := by omega
    have l48 : ¬ (48 : Int) ≤ ((c.toNat : Nat) : Int) := by omega
    have u57 : ((c.toNat : Nat) : Int) ≤ 57 := by omega
    have e : dgt c = none := dgt_none (by omega) (by omega) (by omega)
    simp (implicitDefEqProofs := false) only [go_sem, Nat.reduceAdd, Nat.reduceSub, Nat.reduceMul, Nat.reduceLT, Nat.reduceLeDiff, Nat.reduceEqDiff, Nat.reduceBEq, Nat.reduceBNe, Nat.reducePow, Int.reduceBEq, Int.reduceBNe, Int.reduceEq, Int.reduceLT, Int.reduceLE, Int.reduceNeg, Int.reduceToNat, Int.reduceMul, Int.reduceAdd, Int.reduceSub, Int.reducePow, Int.reduceFDiv, reduceCtorEq, reduceIte, l65, u70, l97, u102, l48, u57]
    exact apost_pp (.int .u8 0) (.bool false) rfl rfl rfl (.plain _ rfl) (.plain _ rfl) ⟨by rw [dz, isD, e]; rfl, rfl⟩
  by_cases c58 : c.toNat < 58
  · have l65 : ¬ (65 : Int) ≤ ((c.toNat : Nat) : Int) := by omega
    have u70 : ((c.toNat : Nat) : Int) ≤ 70 := by omega
    have l97 : ¬ (97 : Int) ≤ ((c.toNat : Nat) : Int) := by omega
    have u102 : ((c.toNat : Nat) : Int) ≤ 102 := by omega
    have l48 : (48 : Int) ≤ ((c.toNat : Nat) : Int) := by omega
    have u57 : ((c.toNat : Nat) : Int) ≤ 57 := by omega
    have e : dgt c = some (c - 48) := dgt_num (by omega) (by omega)
    have e1 : (c - 48).toNat = c.toNat - 48 := sub8 (by show 48 ≤ _; omega)
    have w2 : IntKind.u8.wrap (((c.toNat : Nat) : Int) - 48) = ((c.toNat - 48 : Nat) : Int) := by rw [wrap_u8_of _ (by omega) (by omega)]; omega
    simp (implicitDefEqProofs := false) only [go_sem, Nat.reduceAdd, Nat.reduceSub, Nat.reduceMul, Nat.reduceLT, Nat.reduceLeDiff, Nat.reduceEqDiff, Nat.reduceBEq, Nat.reduceBNe, Nat.reducePow, Int.reduceBEq, Int.reduceBNe, Int.reduceEq, Int.reduceLT, Int.reduceLE, Int.reduceNeg, Int.reduceToNat, Int.reduceMul, Int.reduceAdd, Int.reduceSub, Int.reducePow, Int.reduceFDiv, reduceCtorEq, reduceIte, l65, u70, l97, u102, l48, u57, w2]
    exact apost_pp (.int .u8 ((c.toNat - 48 : Nat) : Int)) (.bool true) rfl rfl rfl (.plain _ rfl) (.plain _ rfl) ⟨by rw [dz, isD, e]; simp only [Option.getD_some, Option.isSome_some, e1], rfl⟩
  by_cases c65 : c.toNat < 65
  · have l65 : ¬ (65 : Int) ≤ ((c.toNat : Nat) : Int) := by omega
    have u70 : ((c.toNat : Nat) : Int) ≤ 70 := by omega
    have l97 : ¬ (97 : Int) ≤ ((c.toNat : Nat) : Int) := by omega
    have u102 : ((c.toNat : Nat) : Int) ≤ 102 := by omega
    have l48 : (48 : Int) ≤ ((c.toNat : Nat) : Int) := by omega
    have u57 : ¬ ((c.toNat : Nat) : Int) ≤ 57 := by omega
    have e : dgt c = none := dgt_none (by omega) (by omega) (by omega)
    simp (implicitDefEqProofs := false) only [go_sem, Nat.reduceAdd, Nat.reduceSub, Nat.reduceMul, Nat.reduceLT, Nat.reduceLeDiff, Nat.reduceEqDiff, Nat.reduceBEq, Nat.reduceBNe, Nat.reducePow, Int.reduceBEq, Int.reduceBNe, Int.reduceEq, Int.reduceLT, Int.reduceLE, Int.reduceNeg, Int.reduceToNat, Int.reduceMul, Int.reduceAdd, Int.reduceSub, Int.reducePow, Int.reduceFDiv, reduceCtorEq, reduceIte, l65, u70, l97, u102, l48, u57]
    exact apost_pp (.int .u8 0) (.bool false) rfl rfl rfl (.plain _ rfl) (.plain _ rfl) ⟨by rw [dz, isD, e]; rfl, rfl⟩
  by_cases c71 : c.toNat < 71
  · have l65 : (65 : Int) ≤ ((c.toNat : Nat) : Int) := by omega
    have u70 : ((c.toNat : Nat) : Int) ≤ 70 := by omega
    have l97 : ¬ (97 : Int) ≤ ((c.toNat : Nat) : Int) := by omega
    have u102 : ((c.toNat : Nat) : Int) ≤ 102 := by omega
    have l48 : (48 : Int) ≤ ((c.toNat : Nat) : Int) := by omega
    have u57 : ¬ ((c.toNat : Nat) : Int) ≤ 57 := by omega
    have e : dgt c = some (c - 55) := dgt_up (by omega) (by omega)
    have e1 : (c - 55).toNat = c.toNat - 55 := sub8 (by show 55 ≤ _; omega)
    have w1 : IntKind.u8.wrap (((c.toNat : Nat) : Int) + 32) = ((c.toNat + 32 : Nat) : Int) := by rw [wrap_u8_of _ (by omega) (by omega)]; omega
    have w2 : IntKind.u8.wrap (((c.toNat + 32 : Nat) : Int) - 97) = ((c.toNat - 65 : Nat) : Int) := by rw [wrap_u8_of _ (by omega) (by omega)]; omega
    have w3 : IntKind.u8.wrap (((c.toNat - 65 : Nat) : Int) + 10) = ((c.toNat - 55 : Nat) : Int) := by rw [wrap_u8_of _ (by omega) (by omega)]; omega
    simp (implicitDefEqProofs := false) only [go_sem, Nat.reduceAdd, Nat.reduceSub, Nat.reduceMul, Nat.reduceLT, Nat.reduceLeDiff, Nat.reduceEqDiff, Nat.reduceBEq, Nat.reduceBNe, Nat.reducePow, Int.reduceBEq, Int.reduceBNe, Int.reduceEq, Int.reduceLT, Int.reduceLE, Int.reduceNeg, Int.reduceToNat, Int.reduceMul, Int.reduceAdd, Int.reduceSub, Int.reducePow, Int.reduceFDiv, reduceCtorEq, reduceIte, l65, u70, l97, u102, l48, u57, w1, w2, w3]
    exact apost_pp (.int .u8 ((c.toNat - 55 : Nat) : Int)) (.bool true) rfl rfl rfl (.plain _ rfl) (.plain _ rfl) ⟨by rw [dz, isD, e]; simp only [Option.getD_some, Option.isSome_some, e1], rfl⟩
  by_cases c97 : c.toNat < 97
  · have l65 : (65 : Int) ≤ ((c.toNat : Nat) : Int) := by omega
    have u70 : ¬ ((c.toNat : Nat) : Int) ≤ 70 := by omega
    have l97 : ¬ (97 : Int) ≤ ((c.toNat : Nat) : Int) := by omega
    have u102 : ((c.toNat : Nat) : Int) ≤ 102 := by omega
    have l48 : (48 : Int) ≤ ((c.toNat : Nat) : Int) := by omega
    have u57 : ¬ ((c.toNat : Nat) : Int) ≤ 57 := by omega
    have e : dgt c = none := dgt_none (by omega) (by omega) (by omega)
    simp (implicitDefEqProofs := false) only [go_sem, Nat.reduceAdd, Nat.reduceSub, Nat.reduceMul, Nat.reduceLT, Nat.reduceLeDiff, Nat.reduceEqDiff, Nat.reduceBEq, Nat.reduceBNe, Nat.reducePow, Int.reduceBEq, Int.reduceBNe, Int.reduceEq, Int.reduceLT, Int.reduceLE, Int.reduceNeg, Int.reduceToNat, Int.reduceMul, Int.reduceAdd, Int.reduceSub, Int.reducePow, Int.reduceFDiv, reduceCtorEq, reduceIte, l65, u70, l97, u102, l48, u57]
    exact apost_pp (.int .u8 0) (.bool false) rfl rfl rfl (.plain _ rfl) (.plain _ rfl) ⟨by rw [dz, isD, e]; rfl, rfl⟩
  by_cases c103 : c.toNat < 103
  · have l65 : (65 : Int) ≤ ((c.toNat : Nat) : Int) := by omega
    have u70 : ¬ ((c.toNat : Nat) : Int) ≤ 70 := by omega
    have l97 : (97 : Int) ≤ ((c.toNat : Nat) : Int) := by omega
    have u102 : ((c.toNat : Nat) : Int) ≤ 102 := by omega
    have l48 : (48 : Int) ≤ ((c.toNat : Nat) : Int) := by omega
    have u57 : ¬ ((c.toNat : Nat) : Int) ≤ 57 := by omega
    have e : dgt c = some (c - 87) := dgt_low (by omega) (by omega)
    have e1 : (c - 87).toNat = c.toNat - 87 := sub8 (by show 87 ≤ _; omega)
    have w2 : IntKind.u8.wrap (((c.toNat : Nat) : Int) - 97) = ((c.toNat - 97 : Nat) : Int) := by rw [wrap_u8_of _ (by omega) (by omega)]; omega
    have w3 : IntKind.u8.wrap (((c.toNat - 97 : Nat) : Int) + 10) = ((c.toNat - 87 : Nat) : Int) := by rw [wrap_u8_of _ (by omega) (by omega)]; omega
    simp (implicitDefEqProofs := false) only [go_sem, Nat.reduceAdd, Nat.reduceSub, Nat.reduceMul, Nat.reduceLT, Nat.reduceLeDiff, Nat.reduceEqDiff, Nat.reduceBEq, Nat.reduceBNe, Nat.reducePow, Int.reduceBEq, Int.reduceBNe, Int.reduceEq, Int.reduceLT, Int.reduceLE, Int.reduceNeg, Int.reduceToNat, Int.reduceMul, Int.reduceAdd, Int.reduceSub, Int.reducePow, Int.reduceFDiv, reduceCtorEq, reduceIte, l65, u70, l97, u102, l48, u57, w2, w3]
    exact apost_pp (.int .u8 ((c.toNat - 87 : Nat) : Int)) (.bool true) rfl rfl rfl (.plain _ rfl) (.plain _ rfl) ⟨by rw [dz, isD, e]; simp only [Option.getD_some, Option.isSome_some, e1], rfl⟩
  have l65 : (65 : Int) ≤ ((c.toNat : Nat) : Int) := by omega
  have u70 : ¬ ((c.toNat : Nat) : Int) ≤ 70 := by omega
  have l97 : (97 : Int) ≤ ((c.toNat : Nat) : Int) := by omega
  have u102 : ¬ ((c.toNat : Nat) : Int) ≤ 102 := by omega
  have l48 : (48 : Int) ≤ ((c.toNat : Nat) : Int) := by omega
  have u57 : ¬ ((c.toNat : Nat) : Int) ≤ 57 := by omega
  have e : dgt c = none := dgt_none (by omega) (by omega) (by omega)
  simp (implicitDefEqProofs := false) only [go_sem, Nat.reduceAdd, Nat.reduceSub, Nat.reduceMul, Nat.reduceLT, Nat.reduceLeDiff, Nat.reduceEqDiff, Nat.reduceBEq, Nat.reduceBNe, Nat.reducePow, Int.reduceBEq, Int.reduceBNe, Int.reduceEq, Int.reduceLT, Int.reduceLE, Int.reduceNeg, Int.reduceToNat, Int.reduceMul, Int.reduceAdd, Int.reduceSub, Int.reducePow, Int.reduceFDiv, reduceCtorEq, reduceIte, l65, u70, l97, u102, l48, u57]
  exact apost_pp (.int .u8 0) (.bool false) rfl rfl rfl (.plain _ rfl) (.plain _ rfl) ⟨by rw [dz, isD, e]; rfl, rfl⟩

set_option maxRecDepth 10000 in
set_option maxHeartbeats 4000000 in
theorem hasPre_calls (s p : List UInt8) (hs : s.length < 2 ^ 62) (hp : p.length < 2 ^ 62) (h : AH) :
    ACalls Tryd.prog 53 #[.string (bs s), .string (bs p)] h (fun v h' => v = .bool (decide (p.length ≤ s.length) && (s.take p.length == p)) ∧ h' = h) := by
  refine ACalls.of_ay Tryd.func53 rfl Tryd.ntmps53 ⟨_, _, rfl, rfl⟩ ?_; simp only [List.length_cons, List.length_nil, Nat.reduceAdd, Nat.reduceSub, List.replicate_succ, List.replicate_zero, List.cons_append, List.nil_append]
  by_cases hle : p.length ≤ s.length
  · have hle' : ((p.length : Nat) : Int) ≤ ((s.length : Nat) : Int) := by omega
    simp (implicitDefEqProofs := false) only [go_sem, Nat.reduceAdd, Nat.reduceSub, Nat.reduceMul, Nat.reduceLT, Nat.reduceLeDiff, Nat.reduceEqDiff, Nat.reduceBEq, Nat.reduceBNe, Nat.reducePow, Int.reduceBEq, Int.reduceBNe, Int.reduceEq, Int.reduceLT, Int.reduceLE, Int.reduceNeg, Int.reduceToNat, Int.reduceMul, Int.reduceAdd, Int.reduceSub, Int.reducePow, Int.reduceFDiv, reduceCtorEq, reduceIte, hle, hle', ↓slT_hi hle]
    exact apost_tmp0 rfl rfl ⟨rfl, rfl⟩ _ rfl
  · have hle' : ¬ ((p.length : Nat) : Int) ≤ ((s.length : Nat) : Int) := by omega
    simp (implicitDefEqProofs := false) only [go_sem, Nat.reduceAdd, Nat.reduceSub, Nat.reduceMul, Nat.reduceLT, Nat.reduceLeDiff, Nat.reduceEqDiff, Nat.reduceBEq, Nat.reduceBNe, Nat.reducePow, Int.reduceBEq, Int.reduceBNe, Int.reduceEq, Int.reduceLT, Int.reduceLE, Int.reduceNeg, Int.reduceToNat, Int.reduceMul, Int.reduceAdd, Int.reduceSub, Int.reducePow, Int.reduceFDiv, reduceCtorEq, reduceIte, hle, hle']
    exact apost_tmp0 rfl rfl ⟨rfl, rfl⟩ _ rfl
def pre0 : List UInt8 := [48, 120]
theorem cut_none1 {a b : UInt8} {r : List UInt8} (h : ¬ (a = 48 ∧ b = 120)) : cutS (a :: b :: r) = none := by
  unfold cutS
  split
  · rename_i e
    simp at e
    exact absurd ⟨e.1, e.2.1⟩ h
  · rfl
theorem pre_cut (s : List UInt8) : (decide (pre0.length ≤ s.length) && (s.take pre0.length == pre0)) = (cutS s).isSome := by
  match s with
  | [] => rfl
  | [a] => simp [cutS, pre0]
  | a :: b :: r =>
    by_cases h : a = 48 ∧ b = 120
    · obtain ⟨rfl, rfl⟩ := h
      simp [cutS, pre0]
    · rw [cut_none1 h]
      simp [pre0]
      intro h1 h2
      exact h ⟨h1, h2⟩
theorem cut_some {s r : List UInt8} (h : cutS s = some r) : s = 48 :: 120 :: r := by
  unfold cutS at h; split at h <;> cases h; rfl

set_option maxRecDepth 10000 in
set_option maxHeartbeats 4000000 in
theorem cutIn_calls (s : List UInt8) (hs : s.length < 2 ^ 62) (h : AH) :
    ACalls Tryd.prog 47 #[.string (bs s), .string (bs [48, 120])] h (fun v h' => v = .tuple #[.string (bs ((cutS s).getD s)), .bool (cutS s).isSome] ∧ h' = h) := by
  refine ACalls.of_ay Tryd.func47 rfl Tryd.ntmps47 ⟨_, _, rfl, rfl⟩ ?_; simp only [List.length_cons, List.length_nil, Nat.reduceAdd, Nat.reduceSub, List.replicate_succ, List.replicate_zero, List.cons_append, List.nil_append]
  simp (implicitDefEqProofs := false) only [go_sem, Nat.reduceAdd, Nat.reduceSub, Nat.reduceMul, Nat.reduceLT, Nat.reduceLeDiff, Nat.reduceEqDiff, Nat.reduceBEq, Nat.reduceBNe, Nat.reducePow, Int.reduceBEq, Int.reduceBNe, Int.reduceEq, Int.reduceLT, Int.reduceLE, Int.reduceNeg, Int.reduceToNat, Int.reduceMul, Int.reduceAdd, Int.reduceSub, Int.reducePow, Int.reduceFDiv, reduceCtorEq, reduceIte]
  have hp0 := hasPre_calls s pre0 hs (by decide) h
  rw [pre_cut] at hp0
  refine astep_call hp0 ?_
  cases hc : cutS s with
  | none =>
    simp (implicitDefEqProofs := false) only [go_sem, Nat.reduceAdd, Nat.reduceSub, Nat.reduceMul, Nat.reduceLT, Nat.reduceLeDiff, Nat.reduceEqDiff, Nat.reduceBEq, Nat.reduceBNe, Nat.reducePow, Int.reduceBEq, Int.reduceBNe, Int.reduceEq, Int.reduceLT, Int.reduceLE, Int.reduceNeg, Int.reduceToNat, Int.reduceMul, Int.reduceAdd, Int.reduceSub, Int.reducePow, Int.reduceFDiv, reduceCtorEq, reduceIte, Option.isSome_none, Option.getD_none]
    exact apost_pp _ _ rfl rfl rfl (.plain _ rfl) (.plain _ rfl) ⟨rfl, rfl⟩
  | some r =>
    obtain rfl := cut_some hc
    simp (implicitDefEqProofs := false) only [go_sem, Nat.reduceAdd, Nat.reduceSub, Nat.reduceMul, Nat.reduceLT, Nat.reduceLeDiff, Nat.reduceEqDiff, Nat.reduceBEq, Nat.reduceBNe, Nat.reducePow, Int.reduceBEq, Int.reduceBNe, Int.reduceEq, Int.reduceLT, Int.reduceLE, Int.reduceNeg, Int.reduceToNat, Int.reduceMul, Int.reduceAdd, Int.reduceSub, Int.reducePow, Int.reduceFDiv, reduceCtorEq, reduceIte, Option.getD_some]
    exact apost_pp _ _ rfl rfl rfl (.plain _ rfl) (.plain _ rfl) ⟨rfl, rfl⟩
set_option maxRecDepth 10000 in
set_option maxHeartbeats 4000000 in
theorem cut_calls (s : List UInt8) (hs : s.length < 2 ^ 62) (h : AH) :
    ACalls Tryd.prog 38 #[.string (bs s), .string (bs [48, 120])] h (fun v h' => v = .tuple #[.string (bs ((cutS s).getD s)), .bool (cutS s).isSome] ∧ h' = h) := by
  refine ACalls.of_ay Tryd.func38 rfl Tryd.ntmps38 ⟨_, _, rfl, rfl⟩ ?_; simp only [List.length_cons, List.length_nil, Nat.reduceAdd, Nat.reduceSub, List.replicate_succ, List.replicate_zero, List.cons_append, List.nil_append]
  simp (implicitDefEqProofs := false) only [go_sem, Nat.reduceAdd, Nat.reduceSub, Nat.reduceMul, Nat.reduceLT, Nat.reduceLeDiff, Nat.reduceEqDiff, Nat.reduceBEq, Nat.reduceBNe, Nat.reducePow, Int.reduceBEq, Int.reduceBNe, Int.reduceEq, Int.reduceLT, Int.reduceLE, Int.reduceNeg, Int.reduceToNat, Int.reduceMul, Int.reduceAdd, Int.reduceSub, Int.reducePow, Int.reduceFDiv, reduceCtorEq, reduceIte]
  refine astep_call (cutIn_calls s hs _) ?_
  simp (implicitDefEqProofs := false) only [go_sem, Nat.reduceAdd, Nat.reduceSub, Nat.reduceMul, Nat.reduceLT, Nat.reduceLeDiff, Nat.reduceEqDiff, Nat.reduceBEq, Nat.reduceBNe, Nat.reducePow, Int.reduceBEq, Int.reduceBNe, Int.reduceEq, Int.reduceLT, Int.reduceLE, Int.reduceNeg, Int.reduceToNat, Int.reduceMul, Int.reduceAdd, Int.reduceSub, Int.reducePow, Int.reduceFDiv, reduceCtorEq, reduceIte]
  exact apost_pp _ _ rfl rfl rfl (.plain _ rfl) (.plain _ rfl) ⟨rfl, rfl⟩

def optV : Option (List UInt8) → Value
  | some l => slV encU8 (Sl.full l)
  | none => .slice none 0 0
theorem zeros_u8n (n : Nat) : zeros #[Value.int .u8 0] n = flatV encU8 (List.replicate n 0) := by
  rw [← rep_u8]
  unfold zeros
  apply Array.ext
  · simp
  · intro i h1 h2
    simp only [Array.getElem_map, Array.getElem_range, Array.getElem_replicate]
    have : i % (#[Value.int IntKind.u8 0] : Array Value).size = 0 := Nat.mod_one _
    simp only [this]
    rfl
set_option maxRecDepth 10000 in
set_option maxHeartbeats 4000000 in
theorem values_calls (s : List UInt8) (hs : s.length < 2 ^ 30) (h : AH) :
    ACalls Tryd.prog 25 #[.string (bs s)] h (fun v h' => v = .tuple #[optV (valsS s), .bool (valsS s).isSome] ∧ h' = h) := by
  refine ACalls.of_ay Tryd.func25 rfl Tryd.ntmps25 ⟨_, _, rfl, rfl⟩ ?_; simp only [List.length_cons, List.length_nil, Nat.reduceAdd, Nat.reduceSub, List.replicate_succ, List.replicate_zero, List.cons_append, List.nil_append]
  simp (implicitDefEqProofs := false) only [go_sem, Nat.reduceAdd, Nat.reduceSub, Nat.reduceMul, Nat.reduceLT, Nat.reduceLeDiff, Nat.reduceEqDiff, Nat.reduceBEq, Nat.reduceBNe, Nat.reducePow, Int.reduceBEq, Int.reduceBNe, Int.reduceEq, Int.reduceLT, Int.reduceLE, Int.reduceNeg, Int.reduceToNat, Int.reduceMul, Int.reduceAdd, Int.reduceSub, Int.reducePow, Int.reduceFDiv, reduceCtorEq, reduceIte, mk_bs]
  refine astep_call (cut_calls s (by omega) _) ?_
  cases hc : cutS s with
  | none =>
    have hv : valsS s = none := by rw [valsS, hc]; rfl
    simp (implicitDefEqProofs := false) only [go_sem, Nat.reduceAdd, Nat.reduceSub, Nat.reduceMul, Nat.reduceLT, Nat.reduceLeDiff, Nat.reduceEqDiff, Nat.reduceBEq, Nat.reduceBNe, Nat.reducePow, Int.reduceBEq, Int.reduceBNe, Int.reduceEq, Int.reduceLT, Int.reduceLE, Int.reduceNeg, Int.reduceToNat, Int.reduceMul, Int.reduceAdd, Int.reduceSub, Int.reducePow, Int.reduceFDiv, reduceCtorEq, reduceIte, Option.isSome_none, Option.getD_none, hv]
    exact apost_pp _ _ rfl rfl rfl (.plain _ rfl) (.plain _ rfl) ⟨rfl, rfl⟩
  | some r =>
    have hsr := cut_some hc
    have hr : r.length < 2 ^ 30 := by rw [hsr] at hs; simp at hs; omega
    have hv : valsS s = valsR r := by rw [valsS, hc]; rfl
    have hm1 : ((r.length : Nat) : Int) < 4611686018427387904 := by omega
    have hm2 : 1 * ((r.length : Nat) : Int) ≤ 281474976710656 := by omega
    simp (implicitDefEqProofs := false) only [go_sem, Nat.reduceAdd, Nat.reduceSub, Nat.reduceMul, Nat.reduceLT, Nat.reduceLeDiff, Nat.reduceEqDiff, Nat.reduceBEq, Nat.reduceBNe, Nat.reducePow, Int.reduceBEq, Int.reduceBNe, Int.reduceEq, Int.reduceLT, Int.reduceLE, Int.reduceNeg, Int.reduceToNat, Int.reduceMul, Int.reduceAdd, Int.reduceSub, Int.reducePow, Int.reduceFDiv, reduceCtorEq, reduceIte, Option.isSome_some, Option.getD_some, hv, hm1, hm2, Nat.le_refl, zeros_u8n]
    rw [← dzI_0]
    refine AWP.loopI (fun i : Nat => r.length - i) (fun i => [junk, junk, junk, junk, .string (bs r), junk, .slice (some ⟨h.length, 0, none⟩) r.length r.length, junk, junk, junk, junk, junk, junk, junk, junk, junk, junk, junk, junk, .int .i64 (r.length : Nat), .int .i64 (i : Nat), junk, junk, junk, junk, junk, junk, junk, junk, junk, junk, junk, junk, junk, junk, junk, junk]) (fun i => h ++ [.cells (flatV encU8 (dzI r i)) 1 true]) (fun i => i ≤ r.length ∧ (r.take i).all isD = true) 0 ⟨Nat.zero_le _, by simp⟩ ?_ ?_
    · refine Keeps.easeL (by intro o ho; rw [List.mem_singleton] at ho; subst ho; exact ORen.plainCells (l := (dzI r 0).flatMap encU8) tree_bufC) ?_
      repeat (first | exact Keeps.nil | refine Keeps.junk _ ?_ | refine Keeps.keep (by first | exact .plain _ rfl | exact .plain rfl | exact .slice _ _ _ _ _ (by simp) rfl) ?_)
    · intro i hi
      obtain ⟨hi, hall⟩ := hi
      by_cases hlt : i < r.length
      · have hw1 : IntKind.i64.wrap ((i : Int) + 1) = ((i + 1 : Nat) : Int) := by rw [wrap_i64_of _ (by omega) (by omega), ofNat_succ']
        have hgi : r[i]? = some r[i] := List.getElem?_eq_getElem hlt
        have hle1 : i + 1 ≤ r.length := hlt
        have htk : r.take (i + 1) = r.take i ++ [r[i]] := by rw [List.take_add_one, hgi]; rfl
        simp (implicitDefEqProofs := false) only [go_sem, Nat.reduceAdd, Nat.reduceSub, Nat.reduceMul, Nat.reduceLT, Nat.reduceLeDiff, Nat.reduceEqDiff, Nat.reduceBEq, Nat.reduceBNe, Nat.reducePow, Int.reduceBEq, Int.reduceBNe, Int.reduceEq, Int.reduceLT, Int.reduceLE, Int.reduceNeg, Int.reduceToNat, Int.reduceMul, Int.reduceAdd, Int.reduceSub, Int.reducePow, Int.reduceFDiv, reduceCtorEq, reduceIte, hlt, aindex_bs strT, hgi]
        refine astep_calls (digit_calls r[i] _) ?_
        intro v h1 hR
        obtain ⟨rfl, rfl⟩ := hR
        have hlen := length_dzI (r := r) (i := i) (by omega)
        cases hd : isD r[i] with
        | true =>
          simp (implicitDefEqProofs := false) only [go_sem, Nat.reduceAdd, Nat.reduceSub, Nat.reduceMul, Nat.reduceLT, Nat.reduceLeDiff, Nat.reduceEqDiff, Nat.reduceBEq, Nat.reduceBNe, Nat.reducePow, Int.reduceBEq, Int.reduceBNe, Int.reduceEq, Int.reduceLT, Int.reduceLE, Int.reduceNeg, Int.reduceToNat, Int.reduceMul, Int.reduceAdd, Int.reduceSub, Int.reducePow, Int.reduceFDiv, reduceCtorEq, reduceIte, hlt, hd, hw1, size_u8, hlen, set_u8, dzI_set hlt, hle1]
          refine ⟨i + 1, by omega, ⟨by omega, by rw [htk, List.all_append, hall, List.all_cons, hd]; rfl⟩, Keeps.easeL (by intro o ho; rw [List.mem_singleton] at ho; subst ho; exact ORen.plainCells (l := (dzI r (i + 1)).flatMap encU8) tree_bufC) ?_⟩
          repeat (first | exact Keeps.nil | refine Keeps.junk _ ?_ | refine Keeps.keep (by first | exact .plain _ rfl | exact .plain rfl | exact .slice _ _ _ _ _ (by simp) rfl) ?_)
        | false =>
          simp (implicitDefEqProofs := false) only [go_sem, Nat.reduceAdd, Nat.reduceSub, Nat.reduceMul, Nat.reduceLT, Nat.reduceLeDiff, Nat.reduceEqDiff, Nat.reduceBEq, Nat.reduceBNe, Nat.reducePow, Int.reduceBEq, Int.reduceBNe, Int.reduceEq, Int.reduceLT, Int.reduceLE, Int.reduceNeg, Int.reduceToNat, Int.reduceMul, Int.reduceAdd, Int.reduceSub, Int.reducePow, Int.reduceFDiv, reduceCtorEq, reduceIte, hlt, hd, hw1, size_u8, hlen, set_u8, dzI_set hlt, hle1]
          have hn : valsR r = none := by
            rw [valsR, if_neg]
            intro h0
            have := List.all_eq_true.1 h0 _ (List.getElem_mem hlt)
            rw [hd] at this; cases this
          rw [hn]
          exact apost_pp1 _ _ rfl rfl rfl (.plain _ rfl) (.plain _ rfl) ⟨rfl, rfl⟩
      · simp (implicitDefEqProofs := false) only [go_sem, Nat.reduceAdd, Nat.reduceSub, Nat.reduceMul, Nat.reduceLT, Nat.reduceLeDiff, Nat.reduceEqDiff, Nat.reduceBEq, Nat.reduceBNe, Nat.reducePow, Int.reduceBEq, Int.reduceBNe, Int.reduceEq, Int.reduceLT, Int.reduceLE, Int.reduceNeg, Int.reduceToNat, Int.reduceMul, Int.reduceAdd, Int.reduceSub, Int.reducePow, Int.reduceFDiv, reduceCtorEq, reduceIte, hlt]
        have hie : i = r.length := by omega
        subst hie
        rw [List.take_length] at hall
        have hn : valsR r = some (r.map dz) := by rw [valsR, if_pos hall]
        rw [hn, dzI_all]
        have hb : (h ++ [AObj.cells (flatV encU8 (r.map dz)) 1 true])[h.length]? = some (.cells (flatV encU8 (r.map dz)) 1 true) := at_new0 _ _
        have hrf := Rf.full (cap := r.length) hb (dieNew_dead (h0 := h) (h := h ++ [AObj.cells (flatV encU8 (r.map dz)) 1 true]) (Nat.le_refl _) (by simp)) (by simp)
        rw [List.length_map] at hrf
        exact apost_two rfl (keeps_append _ _) rfl rfl hrf (.same _) (.slV tree_encU8 _) (.plain _ rfl) ⟨rfl, rfl⟩
end Go.Proofs
