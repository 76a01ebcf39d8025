import Derived.Test.YtljobcehngpicaaDoorHex1
import Derived.Test.YtljobcehngpicaaDoorHexB
set_option linter.unusedSimpArgs false
set_option linter.unusedVariables false
/- numbers as digits -/
namespace Go.Proofs
open Go Go.Am

set_option maxRecDepth 10000 in
set_option maxHeartbeats 4000000 in
theorem trimB_calls (l : List UInt8) (c : UInt8) (hl : l.length < 2 ^ 62) (h : AH) :
    ACalls Tryd.prog 34 #[.string (bs l), .int .u8 ((c.toNat : Nat) : Int)] h (fun v h' => v = .string (bs (l.dropWhile (· == c))) ∧ h' = h) := by
  refine ACalls.of_ay Tryd.func34 rfl Tryd.ntmps34 ⟨_, _, rfl, rfl⟩ ?_; simp only [List.length_cons, List.length_nil, Nat.reduceAdd, Nat.reduceSub, List.replicate_succ, List.replicate_zero, List.cons_append, List.nil_append]
  simp (implicitDefEqProofs := false) only [go_sem, Nat.reduceAdd, Nat.reduceSub, Nat.reduceMul, Nat.reduceLT, Nat.reduceLeDiff, Nat.reduceEqDiff, Nat.reduceBEq, Nat.reduceBNe, Nat.reducePow, Int.reduceBEq, Int.reduceBNe, Int.reduceEq, Int.reduceLT, Int.reduceLE, Int.reduceNeg, Int.reduceToNat, Int.reduceMul, Int.reduceAdd, Int.reduceSub, Int.reducePow, Int.reduceFDiv, reduceCtorEq, reduceIte]
  refine AWP.loopI (fun x : List UInt8 => x.length) (fun x => [.string (bs x), .int .u8 ((c.toNat : Nat) : Int), junk, junk, junk, junk, junk, junk, junk, junk, junk, junk, junk, junk, junk, junk, junk]) (fun _ => h) (fun x => x.length ≤ l.length ∧ x.dropWhile (· == c) = l.dropWhile (· == c)) l ⟨Nat.le_refl _, rfl⟩ ?_ ?_
  · refine Keeps.ease0 ?_
    repeat (first | exact Keeps.nil | refine Keeps.junk _ ?_ | refine Keeps.keep (by first | exact .plain _ rfl | exact .plain rfl) ?_)
  · intro x hx
    cases x with
    | nil =>
      simp (implicitDefEqProofs := false) only [go_sem, Nat.reduceAdd, Nat.reduceSub, Nat.reduceMul, Nat.reduceLT, Nat.reduceLeDiff, Nat.reduceEqDiff, Nat.reduceBEq, Nat.reduceBNe, Nat.reducePow, Int.reduceBEq, Int.reduceBNe, Int.reduceEq, Int.reduceLT, Int.reduceLE, Int.reduceNeg, Int.reduceToNat, Int.reduceMul, Int.reduceAdd, Int.reduceSub, Int.reducePow, Int.reduceFDiv, reduceCtorEq, reduceIte]
      exact apost_tmp0 rfl rfl ⟨by rw [← hx.2]; rfl, rfl⟩ _ rfl
    | cons d y =>
      have hy := hx.1
      rw [List.length_cons] at hy
      have hp : (0 : Int) < ((y.length + 1 : Nat) : Int) := by omega
      cases hc : d == c with
      | true =>
        simp (implicitDefEqProofs := false) only [go_sem, Nat.reduceAdd, Nat.reduceSub, Nat.reduceMul, Nat.reduceLT, Nat.reduceLeDiff, Nat.reduceEqDiff, Nat.reduceBEq, Nat.reduceBNe, Nat.reducePow, Int.reduceBEq, Int.reduceBNe, Int.reduceEq, Int.reduceLT, Int.reduceLE, Int.reduceNeg, Int.reduceToNat, Int.reduceMul, Int.reduceAdd, Int.reduceSub, Int.reducePow, Int.reduceFDiv, reduceCtorEq, reduceIte, hp, aindex_bs0 strT, beq_u8, hc]
        refine ⟨y, by omega, ⟨by omega, by rw [← hx.2, dropWhile_hd (p := (· == c)) hc]⟩, Keeps.ease0 ?_⟩
        repeat (first | exact Keeps.nil | refine Keeps.junk _ ?_ | refine Keeps.keep (by first | exact .plain _ rfl | exact .plain rfl) ?_)
      | false =>
        simp (implicitDefEqProofs := false) only [go_sem, Nat.reduceAdd, Nat.reduceSub, Nat.reduceMul, Nat.reduceLT, Nat.reduceLeDiff, Nat.reduceEqDiff, Nat.reduceBEq, Nat.reduceBNe, Nat.reducePow, Int.reduceBEq, Int.reduceBNe, Int.reduceEq, Int.reduceLT, Int.reduceLE, Int.reduceNeg, Int.reduceToNat, Int.reduceMul, Int.reduceAdd, Int.reduceSub, Int.reducePow, Int.reduceFDiv, reduceCtorEq, reduceIte, hp, aindex_bs0 strT, beq_u8, hc]
        refine apost_tmp0 (v := .string (bs (d :: y))) rfl rfl ⟨?_, rfl⟩ _ rfl
        rw [← hx.2, List.dropWhile_cons, hc]; rfl

set_option maxRecDepth 10000 in
set_option maxHeartbeats 4000000 in
theorem trim_calls (l : List UInt8) (hl : l.length < 2 ^ 62) (h : AH) :
    ACalls Tryd.prog 22 #[.string (bs l), .string (bs [48])] h (fun v h' => v = .string (bs (l.dropWhile (· == 48))) ∧ h' = h) := by
  refine ACalls.of_ay Tryd.func22 rfl Tryd.ntmps22 ⟨_, _, rfl, rfl⟩ ?_; simp only [List.length_cons, List.length_nil, Nat.reduceAdd, Nat.reduceSub, List.replicate_succ, List.replicate_zero, List.cons_append, List.nil_append]
  cases l with
  | nil =>
    simp (implicitDefEqProofs := false) only [go_sem, Nat.reduceAdd, Nat.reduceSub, Nat.reduceMul, Nat.reduceLT, Nat.reduceLeDiff, Nat.reduceEqDiff, Nat.reduceBEq, Nat.reduceBNe, Nat.reducePow, Int.reduceBEq, Int.reduceBNe, Int.reduceEq, Int.reduceLT, Int.reduceLE, Int.reduceNeg, Int.reduceToNat, Int.reduceMul, Int.reduceAdd, Int.reduceSub, Int.reducePow, Int.reduceFDiv, reduceCtorEq, reduceIte, mk_bs]
    exact apost_tmp0 rfl rfl ⟨rfl, rfl⟩ _ rfl
  | cons d y =>
    have h48 : (((48 : UInt8).toNat : Nat) : Int) = 48 := rfl
    simp (implicitDefEqProofs := false) only [go_sem, Nat.reduceAdd, Nat.reduceSub, Nat.reduceMul, Nat.reduceLT, Nat.reduceLeDiff, Nat.reduceEqDiff, Nat.reduceBEq, Nat.reduceBNe, Nat.reducePow, Int.reduceBEq, Int.reduceBNe, Int.reduceEq, Int.reduceLT, Int.reduceLE, Int.reduceNeg, Int.reduceToNat, Int.reduceMul, Int.reduceAdd, Int.reduceSub, Int.reducePow, Int.reduceFDiv, reduceCtorEq, reduceIte, mk_bs, aindex_bs0 strT, h48]
    refine astep_call (trimB_calls (d :: y) 48 hl _) ?_
    simp (implicitDefEqProofs := false) only [go_sem, Nat.reduceAdd, Nat.reduceSub, Nat.reduceMul, Nat.reduceLT, Nat.reduceLeDiff, Nat.reduceEqDiff, Nat.reduceBEq, Nat.reduceBNe, Nat.reducePow, Int.reduceBEq, Int.reduceBNe, Int.reduceEq, Int.reduceLT, Int.reduceLE, Int.reduceNeg, Int.reduceToNat, Int.reduceMul, Int.reduceAdd, Int.reduceSub, Int.reducePow, Int.reduceFDiv, reduceCtorEq, reduceIte]
    exact apost_tmp0 rfl rfl ⟨rfl, rfl⟩ _ rfl

set_option maxRecDepth 10000 in
set_option maxHeartbeats 4000000 in
theorem number_calls (a : Word4) (h : AH) :
    ACalls Tryd.prog 10 #[.agg (encWord a).toArray] h (fun v h' => v = .string (bs (numW a)) ∧ h' = h) := by
  refine ACalls.of_ay Tryd.func10 rfl Tryd.ntmps10 ⟨_, _, rfl, rfl⟩ ?_; simp only [List.length_cons, List.length_nil, Nat.reduceAdd, Nat.reduceSub, List.replicate_succ, List.replicate_zero, List.cons_append, List.nil_append]
  simp (implicitDefEqProofs := false) only [go_sem, Nat.reduceAdd, Nat.reduceSub, Nat.reduceMul, Nat.reduceLT, Nat.reduceLeDiff, Nat.reduceEqDiff, Nat.reduceBEq, Nat.reduceBNe, Nat.reducePow, Int.reduceBEq, Int.reduceBNe, Int.reduceEq, Int.reduceLT, Int.reduceLE, Int.reduceNeg, Int.reduceToNat, Int.reduceMul, Int.reduceAdd, Int.reduceSub, Int.reducePow, Int.reduceFDiv, reduceCtorEq, reduceIte]
  refine astep_call (wbytes_calls a _) ?_
  simp (implicitDefEqProofs := false) only [go_sem, Nat.reduceAdd, Nat.reduceSub, Nat.reduceMul, Nat.reduceLT, Nat.reduceLeDiff, Nat.reduceEqDiff, Nat.reduceBEq, Nat.reduceBNe, Nat.reducePow, Int.reduceBEq, Int.reduceBNe, Int.reduceEq, Int.reduceLT, Int.reduceLE, Int.reduceNeg, Int.reduceToNat, Int.reduceMul, Int.reduceAdd, Int.reduceSub, Int.reducePow, Int.reduceFDiv, reduceCtorEq, reduceIte]
  refine astep_call (write_calls (Sl.full (bytesW a)) (by rw [full_l, length_bytesW]; decide) _) ?_
  have hl : (hexL (bytesW a)).length = 64 := by rw [length_hexL, length_bytesW]
  simp (implicitDefEqProofs := false) only [go_sem, Nat.reduceAdd, Nat.reduceSub, Nat.reduceMul, Nat.reduceLT, Nat.reduceLeDiff, Nat.reduceEqDiff, Nat.reduceBEq, Nat.reduceBNe, Nat.reducePow, Int.reduceBEq, Int.reduceBNe, Int.reduceEq, Int.reduceLT, Int.reduceLE, Int.reduceNeg, Int.reduceToNat, Int.reduceMul, Int.reduceAdd, Int.reduceSub, Int.reducePow, Int.reduceFDiv, reduceCtorEq, reduceIte, mk_bs, ↓slT_2, hexW]
  refine astep_call (trim_calls (hexL (bytesW a)) (by omega) _) ?_
  have hl2 := length_dropWhile (p := (· == 48)) (hexL (bytesW a))
  cases hc : (hexL (bytesW a)).dropWhile (· == 48) == [] with
  | true =>
    have ht : numW a = [48, 120] ++ [48] := by rw [numW, trimN, if_pos hc]; rfl
    simp (implicitDefEqProofs := false) only [go_sem, Nat.reduceAdd, Nat.reduceSub, Nat.reduceMul, Nat.reduceLT, Nat.reduceLeDiff, Nat.reduceEqDiff, Nat.reduceBEq, Nat.reduceBNe, Nat.reducePow, Int.reduceBEq, Int.reduceBNe, Int.reduceEq, Int.reduceLT, Int.reduceLE, Int.reduceNeg, Int.reduceToNat, Int.reduceMul, Int.reduceAdd, Int.reduceSub, Int.reducePow, Int.reduceFDiv, reduceCtorEq, reduceIte, mk_bs, hc, abin_addL (P := Tryd.prog) (t := 9) (a := [48, 120]) (b := [48]) (by decide)]
    exact apost_tmp rfl rfl ⟨by rw [ht]; rfl, rfl⟩ _ _ rfl
  | false =>
    have ht : numW a = [48, 120] ++ (hexL (bytesW a)).dropWhile (· == 48) := by rw [numW, trimN, if_neg (by rw [hc]; decide)]; rfl
    have hd1 : ∀ x y, abinOp Tryd.prog .add 9 x y (.string (bs [48, 120])) (.string (bs ((hexL (bytesW a)).dropWhile (· == 48)))) = some (.string (bs ([48, 120] ++ (hexL (bytesW a)).dropWhile (· == 48)))) := fun x y => abin_addL (by simp; omega)
    simp (implicitDefEqProofs := false) only [go_sem, Nat.reduceAdd, Nat.reduceSub, Nat.reduceMul, Nat.reduceLT, Nat.reduceLeDiff, Nat.reduceEqDiff, Nat.reduceBEq, Nat.reduceBNe, Nat.reducePow, Int.reduceBEq, Int.reduceBNe, Int.reduceEq, Int.reduceLT, Int.reduceLE, Int.reduceNeg, Int.reduceToNat, Int.reduceMul, Int.reduceAdd, Int.reduceSub, Int.reducePow, Int.reduceFDiv, reduceCtorEq, reduceIte, mk_bs, hc, hd1]
    exact apost_tmp rfl rfl ⟨by rw [ht]; rfl, rfl⟩ _ _ rfl

set_option maxRecDepth 10000 in
set_option maxHeartbeats 4000000 in
theorem rnumber_calls (a : Word4) (h : AH) :
    ACalls Tryd.prog 11 #[.agg (encWord a).toArray] h (fun v h' => v = .string (bs (numW a)) ∧ h' = h) := by
  refine ACalls.of_ay Tryd.func11 rfl Tryd.ntmps11 ⟨_, _, rfl, rfl⟩ ?_; simp only [List.length_cons, List.length_nil, Nat.reduceAdd, Nat.reduceSub, List.replicate_succ, List.replicate_zero, List.cons_append, List.nil_append]
  simp (implicitDefEqProofs := false) only [go_sem, Nat.reduceAdd, Nat.reduceSub, Nat.reduceMul, Nat.reduceLT, Nat.reduceLeDiff, Nat.reduceEqDiff, Nat.reduceBEq, Nat.reduceBNe, Nat.reducePow, Int.reduceBEq, Int.reduceBNe, Int.reduceEq, Int.reduceLT, Int.reduceLE, Int.reduceNeg, Int.reduceToNat, Int.reduceMul, Int.reduceAdd, Int.reduceSub, Int.reducePow, Int.reduceFDiv, reduceCtorEq, reduceIte]
  refine astep_call (rbytes_calls a _) ?_
  simp (implicitDefEqProofs := false) only [go_sem, Nat.reduceAdd, Nat.reduceSub, Nat.reduceMul, Nat.reduceLT, Nat.reduceLeDiff, Nat.reduceEqDiff, Nat.reduceBEq, Nat.reduceBNe, Nat.reducePow, Int.reduceBEq, Int.reduceBNe, Int.reduceEq, Int.reduceLT, Int.reduceLE, Int.reduceNeg, Int.reduceToNat, Int.reduceMul, Int.reduceAdd, Int.reduceSub, Int.reducePow, Int.reduceFDiv, reduceCtorEq, reduceIte]
  refine astep_call (rwrite_calls (Sl.app (bytesW a)) (by rw [app_l, length_bytesW]; decide) _) ?_
  have hl : (hexL (bytesW a)).length = 64 := by rw [length_hexL, length_bytesW]
  have hnz : hexL (bytesW a) ≠ [] := by
    intro h0
    rw [h0] at hl
    cases hl
  simp (implicitDefEqProofs := false) only [go_sem, Nat.reduceAdd, Nat.reduceSub, Nat.reduceMul, Nat.reduceLT, Nat.reduceLeDiff, Nat.reduceEqDiff, Nat.reduceBEq, Nat.reduceBNe, Nat.reducePow, Int.reduceBEq, Int.reduceBNe, Int.reduceEq, Int.reduceLT, Int.reduceLE, Int.reduceNeg, Int.reduceToNat, Int.reduceMul, Int.reduceAdd, Int.reduceSub, Int.reducePow, Int.reduceFDiv, reduceCtorEq, reduceIte, mk_bs, ↓slT_2, hexW]
  refine AWP.loopI (fun x : List UInt8 => x.length) (fun x => [junk, .pointer (some ⟨h.length, 0, none⟩), junk, .string (bs x), junk, junk, junk, junk, junk, junk, junk, junk, junk, junk, junk, junk, junk, junk, junk, junk]) (fun _ => h ++ [.cells (encWord a).toArray 0 true]) (fun x => x ≠ [] ∧ x.length ≤ 64 ∧ strip x = strip (hexL (bytesW a))) (hexL (bytesW a)) ⟨hnz, by omega, rfl⟩ ?_ ?_
  · refine Keeps.easeL (by intro o ho; rw [List.mem_singleton] at ho; subst ho; exact ORen.plainCells (tree_encWord _)) ?_
    repeat (first | exact Keeps.nil | refine Keeps.junk _ ?_ | refine Keeps.keep (by first | exact .plain _ rfl | exact .ptr _ _ _ (by simp) rfl | exact .plain rfl) ?_)
  · intro x hx
    obtain ⟨hne, hle, hst⟩ := hx
    rw [strip_trim (hexL (bytesW a)) hnz] at hst
    have hfin : strip x = x → [48, 120] ++ x = numW a := fun e => by rw [numW, ← hst, e]; rfl
    have hd1 : ∀ p q, abinOp Tryd.prog .add 9 p q (.string (bs [48, 120])) (.string (bs x)) = some (.string (bs ([48, 120] ++ x))) := fun p q => abin_addL (by simp; omega)
    match x, hne with
    | [d], _ =>
      simp (implicitDefEqProofs := false) only [go_sem, Nat.reduceAdd, Nat.reduceSub, Nat.reduceMul, Nat.reduceLT, Nat.reduceLeDiff, Nat.reduceEqDiff, Nat.reduceBEq, Nat.reduceBNe, Nat.reducePow, Int.reduceBEq, Int.reduceBNe, Int.reduceEq, Int.reduceLT, Int.reduceLE, Int.reduceNeg, Int.reduceToNat, Int.reduceMul, Int.reduceAdd, Int.reduceSub, Int.reducePow, Int.reduceFDiv, reduceCtorEq, reduceIte, mk_bs, hd1]
      exact apost_tmp rfl rfl ⟨by rw [← hfin rfl]; rfl, rfl⟩ _ _ rfl
    | d :: e :: y, _ =>
      have hp : (1 : Int) < ((y.length + 1 + 1 : Nat) : Int) := by omega
      have h48 : (((48 : UInt8).toNat : Nat) : Int) = 48 := rfl
      have hb := beq_u8 d 48
      rw [h48] at hb
      cases hc : d == 48 with
      | true =>
        simp (implicitDefEqProofs := false) only [go_sem, Nat.reduceAdd, Nat.reduceSub, Nat.reduceMul, Nat.reduceLT, Nat.reduceLeDiff, Nat.reduceEqDiff, Nat.reduceBEq, Nat.reduceBNe, Nat.reducePow, Int.reduceBEq, Int.reduceBNe, Int.reduceEq, Int.reduceLT, Int.reduceLE, Int.reduceNeg, Int.reduceToNat, Int.reduceMul, Int.reduceAdd, Int.reduceSub, Int.reducePow, Int.reduceFDiv, reduceCtorEq, reduceIte, mk_bs, hp, aindex_bs0 strT, hb, hc]
        refine ⟨e :: y, by simp, ⟨by simp, by rw [List.length_cons] at hle; omega, ?_⟩, ?_⟩
        · rw [strip_trim (hexL (bytesW a)) hnz, ← hst, strip, if_pos hc]
        · refine Keeps.easeL (by intro o ho; rw [List.mem_singleton] at ho; subst ho; exact ORen.plainCells (tree_encWord _)) ?_
          repeat (first | exact Keeps.nil | refine Keeps.junk _ ?_ | refine Keeps.keep (by first | exact .plain _ rfl | exact .ptr _ _ _ (by simp) rfl | exact .plain rfl) ?_)
      | false =>
        simp (implicitDefEqProofs := false) only [go_sem, Nat.reduceAdd, Nat.reduceSub, Nat.reduceMul, Nat.reduceLT, Nat.reduceLeDiff, Nat.reduceEqDiff, Nat.reduceBEq, Nat.reduceBNe, Nat.reducePow, Int.reduceBEq, Int.reduceBNe, Int.reduceEq, Int.reduceLT, Int.reduceLE, Int.reduceNeg, Int.reduceToNat, Int.reduceMul, Int.reduceAdd, Int.reduceSub, Int.reducePow, Int.reduceFDiv, reduceCtorEq, reduceIte, mk_bs, hp, aindex_bs0 strT, hb, hc, hd1]
        exact apost_tmp rfl rfl ⟨by rw [← hfin (by rw [strip, if_neg (by rw [hc]; decide)])]; rfl, rfl⟩ _ _ rfl
end Go.Proofs
