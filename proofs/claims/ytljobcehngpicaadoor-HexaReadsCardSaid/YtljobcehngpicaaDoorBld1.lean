import Derived.Test.YtljobcehngpicaaDoorFacts
import Derived.Test.YtljobcehngpicaaDoorAm46x
set_option linter.unusedSimpArgs false
set_option linter.unusedVariables false
/- strings.Builder -/
namespace Go.Proofs
open Go Go.Am

abbrev bT : Nat := 51
abbrev uT : Nat := 5
/-- a builder in its block B: written (its bytes in block k), or not -/
def bldO (B : Nat) (p : Bool) (v : Value) : AObj := .cells #[bif p then .pointer (some ⟨B, 0, none⟩) else .pointer none, v] (tagN + bT) true
def bufO (l : List UInt8) : AObj := .cells (flatV encU8 l) (tagN + uT) true
theorem alloc_bld {h : AH} : aalloc Tryd.prog h 51 = some (.pointer (some ⟨h.length, 0, none⟩), h ++ [bldO 0 false bnil]) := by
  obtain ⟨i, hi⟩ : ∃ i, Tryd.prog.info? 51 = some i := ⟨_, rfl⟩
  have hz : ∃ z, i.zero = some z ∧ z.cells.toList = [.pointer none, .slice none 0 0] := by
    have : (Tryd.prog.info? 51).bind (·.zero) = some (.agg #[.pointer none, .slice none 0 0]) := by kernel_rfl
    rw [hi] at this
    exact ⟨_, this, rfl⟩
  obtain ⟨z, hz, hc⟩ := hz
  exact aalloc_bld hi hz (by kernel_rfl) hc
attribute [go_sem] alloc_bld
theorem bld_ptrT : ptrT Tryd.prog 49 = true := by kernel_rfl

theorem eq_nilB {x y : Operand} : abinOp Tryd.prog .eql 49 x y (.pointer none) (.pointer none) = some (.bool true) := by kernel_rfl
theorem eq_ptrB {x y : Operand} {b o : Nat} : abinOp Tryd.prog .eql 49 x y (.pointer (some ⟨b, o, none⟩)) (.pointer none) = some (.bool false) := by kernel_rfl
theorem ne_ptrB {x y : Operand} {b o : Nat} : abinOp Tryd.prog .neq 49 x y (.pointer (some ⟨b, o, none⟩)) (.pointer (some ⟨b, o, none⟩)) = some (.bool false) := abin_neqP bld_ptrT
attribute [go_sem] eq_nilB eq_ptrB ne_ptrB
theorem noesc {h : AH} {x : Value} : acall Tryd.prog h (.func (.func 43) #[] #[]) #[x] = aval h (some x) := acall_noescape (by kernel_rfl) (by kernel_rfl)
attribute [go_sem] noesc
theorem info_bld : ∃ j, Tryd.prog.info? 51 = some j ∧ j.size = 2 := by
  obtain ⟨i, hi⟩ : ∃ i, Tryd.prog.info? 51 = some i := ⟨_, rfl⟩
  have : (Tryd.prog.info? 51).map (·.size) = some 2 := by kernel_rfl
  rw [hi] at this
  exact ⟨i, hi, Option.some.inj this⟩
theorem toU_bld {h : AH} {B es : Nat} {c : Array Value} {rw : Bool} (hb : h[B]? = some (.cells c es rw)) (hc : 0 < c.size) : aconvert Tryd.prog h 49 86 (.pointer (some ⟨B, 0, none⟩)) = some (.pointer (some ⟨B, 0, none⟩), h) := by
  obtain ⟨j, hj, hs⟩ := info_bld
  exact aconv_toU Tryd.underlying49 Tryd.underlying86 hj hb hc (by rw [hs]; decide)
theorem fromU_bld {h : AH} {B : Nat} {c : Array Value} (hb : h[B]? = some (.cells c (tagN + bT) true)) (hc : c.size = 2) : aconvert Tryd.prog h 86 49 (.pointer (some ⟨B, 0, none⟩)) = some (.pointer (some ⟨B, 0, none⟩), h) := by
  obtain ⟨j, hj, hs⟩ := info_bld
  exact aconv_fromU Tryd.underlying86 Tryd.underlying49 hj hb (by rw [hs]; decide) (by rw [hs, hc]; exact Nat.le_refl _)

set_option maxRecDepth 10000 in
set_option maxHeartbeats 4000000 in
/-- the first write -/
theorem copyCheck0_calls (B : Nat) (v : Value) (h : AH) (hb : h[B]? = some (bldO B false v)) :
    ACalls Tryd.prog 33 #[.pointer (some ⟨B, 0, none⟩)] h (fun _ h' => h' = h.set B (bldO B true v)) := by
  refine ACalls.of_ay Tryd.func33 rfl Tryd.ntmps33 ⟨undef, _, rfl⟩ ?_; simp only [List.length_cons, List.length_nil, Nat.reduceAdd, Nat.reduceSub, List.replicate_succ, List.replicate_zero, List.cons_append, List.nil_append]
  have hb' : h[B]? = some (.cells #[.pointer none, v] (tagN + bT) true) := hb
  have hc2 : (0 : Nat) < (#[Value.pointer none, v] : Array Value).size := Nat.zero_lt_succ _
  simp (implicitDefEqProofs := false) only [go_sem, Nat.reduceAdd, Nat.reduceSub, Nat.reduceMul, Nat.reduceLT, Nat.reduceLeDiff, Nat.reduceEqDiff, Nat.reduceBEq, Nat.reduceBNe, Nat.reducePow, Int.reduceBEq, Int.reduceBNe, Int.reduceEq, Int.reduceLT, Int.reduceLE, Int.reduceNeg, Int.reduceToNat, Int.reduceMul, Int.reduceAdd, Int.reduceSub, Int.reducePow, Int.reduceFDiv, reduceCtorEq, reduceIte, hb', toU_bld hb' hc2, fromU_bld hb' rfl]
  exact ⟨undef, undef, _, aresults_none rfl _ _, Eases.refl, rfl⟩

set_option maxRecDepth 10000 in
set_option maxHeartbeats 4000000 in
/-- a builder that has been written -/
theorem copyCheck1_calls (B : Nat) (v : Value) (h : AH) (hb : h[B]? = some (bldO B true v)) :
    ACalls Tryd.prog 33 #[.pointer (some ⟨B, 0, none⟩)] h (fun _ h' => h' = h) := by
  refine ACalls.of_ay Tryd.func33 rfl Tryd.ntmps33 ⟨undef, _, rfl⟩ ?_; simp only [List.length_cons, List.length_nil, Nat.reduceAdd, Nat.reduceSub, List.replicate_succ, List.replicate_zero, List.cons_append, List.nil_append]
  have hb' : h[B]? = some (.cells #[.pointer (some ⟨B, 0, none⟩), v] (tagN + bT) true) := hb
  simp (implicitDefEqProofs := false) only [go_sem, Nat.reduceAdd, Nat.reduceSub, Nat.reduceMul, Nat.reduceLT, Nat.reduceLeDiff, Nat.reduceEqDiff, Nat.reduceBEq, Nat.reduceBNe, Nat.reducePow, Int.reduceBEq, Int.reduceBNe, Int.reduceEq, Int.reduceLT, Int.reduceLE, Int.reduceNeg, Int.reduceToNat, Int.reduceMul, Int.reduceAdd, Int.reduceSub, Int.reducePow, Int.reduceFDiv, reduceCtorEq, reduceIte, hb']
  exact ⟨undef, undef, _, aresults_none rfl _ _, Eases.refl, rfl⟩

theorem zc_u8 : zeroCellsOf Tryd.prog 5 = some #[.int .u8 0] := by kernel_rfl
theorem bytes_flat (s : ByteArray) : (s.data.map fun b => Value.int .u8 b.toNat) = flatV encU8 s.data.toList := by
  rw [flat_u8, ← List.map_toArray]

set_option maxRecDepth 10000 in
set_option maxHeartbeats 4000000 in
/-- a string, into a builder that has not been written -/
theorem ws0_calls (B : Nat) (s : ByteArray) (hs0 : 0 < s.size) (hs : s.size < 2 ^ 32) (h : AH) (hb : h[B]? = some (bldO B false bnil)) :
    ACalls Tryd.prog 19 #[.pointer (some ⟨B, 0, none⟩), .string s] h
      (fun v h' => v = .tuple #[.int .i64 (s.size : Nat), .nilIface] ∧ h' = h.set B (bldO B true (.slice (some ⟨h.length, 0, none⟩) s.size s.size)) ++ [bufO s.data.toList]) := by
  have hlt : B < h.length := (List.getElem?_eq_some_iff.1 hb).1
  refine ACalls.of_ay Tryd.func19 rfl Tryd.ntmps19 ⟨_, _, rfl, rfl⟩ ?_; simp only [List.length_cons, List.length_nil, Nat.reduceAdd, Nat.reduceSub, List.replicate_succ, List.replicate_zero, List.cons_append, List.nil_append]
  simp (implicitDefEqProofs := false) only [go_sem, Nat.reduceAdd, Nat.reduceSub, Nat.reduceMul, Nat.reduceLT, Nat.reduceLeDiff, Nat.reduceEqDiff, Nat.reduceBEq, Nat.reduceBNe, Nat.reducePow, Int.reduceBEq, Int.reduceBNe, Int.reduceEq, Int.reduceLT, Int.reduceLE, Int.reduceNeg, Int.reduceToNat, Int.reduceMul, Int.reduceAdd, Int.reduceSub, Int.reducePow, Int.reduceFDiv, reduceCtorEq, reduceIte]
  refine astep_calls (copyCheck0_calls B bnil h hb) ?_
  intro v h1 hR
  subst hR
  have hb1 : (h.set B (bldO B true bnil))[B]? = some (.cells #[.pointer (some ⟨B, 0, none⟩), bnil] (tagN + bT) true) := List.getElem?_set_self hlt
  have hbd : (2 * s.size + 192) * 1 ≤ 2 ^ 48 ∧ s.size < 2 ^ 62 := ⟨by omega, by omega⟩
  have happ : ∀ H : AH, aappendT Tryd.prog H 22 9 bnil (.string s) = some (.slice (some ⟨H.length, 0, none⟩) s.size s.size, H ++ [.cells (s.data.map fun b => Value.int .u8 b.toNat) (tagN + uT) true]) := fun H =>
    app_bnil Tryd.underlying22 Tryd.slc22 zc_u8 (by kernel_rfl) asource_str hs0 hbd
  have hb2 : ∀ t : AH, (h.set B (bldO B true bnil) ++ t)[B]? = some (.cells #[.pointer (some ⟨B, 0, none⟩), bnil] (tagN + bT) true) := fun t => at_setS hlt
  simp (implicitDefEqProofs := false) only [go_sem, Nat.reduceAdd, Nat.reduceSub, Nat.reduceMul, Nat.reduceLT, Nat.reduceLeDiff, Nat.reduceEqDiff, Nat.reduceBEq, Nat.reduceBNe, Nat.reducePow, Int.reduceBEq, Int.reduceBNe, Int.reduceEq, Int.reduceLT, Int.reduceLE, Int.reduceNeg, Int.reduceToNat, Int.reduceMul, Int.reduceAdd, Int.reduceSub, Int.reducePow, Int.reduceFDiv, reduceCtorEq, reduceIte, hb1, happ, hb2, set_setS hlt, List.length_set]
  refine ⟨_, _, _, aresults_tmp2 rfl _ _, Eases.refl, ?_, ?_⟩
  · rfl
  · rw [bytes_flat]; rfl

set_option maxRecDepth 10000 in
set_option maxHeartbeats 4000000 in
/-- a byte, into a builder that has been written -/
theorem wb1_calls (B k : Nat) (l : List UInt8) (hl : l.length < 2 ^ 32) (hl0 : 0 < l.length) (c : UInt8) (h : AH) (hb : h[B]? = some (bldO B true (.slice (some ⟨k, 0, none⟩) l.length l.length))) (hk : h[k]? = some (bufO l)) (hBk : B ≠ k) :
    ACalls Tryd.prog 20 #[.pointer (some ⟨B, 0, none⟩), .int .u8 ((c.toNat : Nat) : Int)] h
      (fun v h' => v = .nilIface ∧ h' = (h.set k .dead).set B (bldO B true (.slice (some ⟨h.length + 1, 0, none⟩) (l.length + 1) (l.length + 1))) ++ [.cells #[.int .u8 ((c.toNat : Nat) : Int)] 1 true, bufO (l ++ [c])]) := by
  have hlt : B < h.length := (List.getElem?_eq_some_iff.1 hb).1
  have hkt : k < h.length := (List.getElem?_eq_some_iff.1 hk).1
  refine ACalls.of_ay Tryd.func20 rfl Tryd.ntmps20 ⟨_, _, rfl, rfl⟩ ?_; simp only [List.length_cons, List.length_nil, Nat.reduceAdd, Nat.reduceSub, List.replicate_succ, List.replicate_zero, List.cons_append, List.nil_append]
  simp (implicitDefEqProofs := false) only [go_sem, Nat.reduceAdd, Nat.reduceSub, Nat.reduceMul, Nat.reduceLT, Nat.reduceLeDiff, Nat.reduceEqDiff, Nat.reduceBEq, Nat.reduceBNe, Nat.reducePow, Int.reduceBEq, Int.reduceBNe, Int.reduceEq, Int.reduceLT, Int.reduceLE, Int.reduceNeg, Int.reduceToNat, Int.reduceMul, Int.reduceAdd, Int.reduceSub, Int.reducePow, Int.reduceFDiv, reduceCtorEq, reduceIte]
  refine astep_calls (copyCheck1_calls B _ h hb) ?_
  intro v h1 hR
  subst hR
  have hb1 : h1[B]? = some (.cells #[.pointer (some ⟨B, 0, none⟩), .slice (some ⟨k, 0, none⟩) l.length l.length] (tagN + bT) true) := hb
  have hk2 : ∀ t : AH, (h1 ++ t)[k]? = some (.cells (flatV encU8 l) (tagN + uT) true) := fun t => by rw [at_front hkt]; exact hk
  have hbd : (2 * (l.length + 1) + 192) * 1 ≤ 2 ^ 48 ∧ l.length + 1 < 2 ^ 62 := ⟨by omega, by omega⟩
  have hsrc : ∀ H : AH, asource (H ++ [.cells #[.int .u8 ((c.toNat : Nat) : Int)] 1 true]) 1 (.slice (some ⟨H.length, 0, none⟩) 1 1) = some (1, #[.int .u8 ((c.toNat : Nat) : Int)]) := fun H => by
    rw [asource_row rfl, at_new0]; rfl
  have happ : aappendT Tryd.prog (h1 ++ [.cells #[.int .u8 ((c.toNat : Nat) : Int)] 1 true]) 22 22 (.slice (some ⟨k, 0, none⟩) l.length l.length) (.slice (some ⟨h1.length, 0, none⟩) 1 1) =
      some (.slice (some ⟨h1.length + 1, 0, none⟩) (l.length + 1) (l.length + 1), h1.set k .dead ++ [.cells #[.int .u8 ((c.toNat : Nat) : Int)] 1 true, bufO (l ++ [c])]) := by
    rw [app_btag Tryd.underlying22 Tryd.slc22 zc_u8 (by kernel_rfl) (hsrc h1) (Nat.zero_lt_one) (hk2 _) (size_u8 l) hbd, set_front hkt, List.append_assoc]
    have : flatV encU8 l ++ #[.int .u8 ((c.toNat : Nat) : Int)] = flatV encU8 (l ++ [c]) := by rw [flatV_append]; rfl
    rw [this]
    simp only [List.length_append, List.length_cons, List.length_nil, List.cons_append, List.nil_append]
    rfl
  have hmk : ∀ n new, mkApp (h1 ++ [.cells #[.int .u8 ((c.toNat : Nat) : Int)] 1 true]) (.slice (some ⟨k, 0, none⟩) l.length l.length) (some (false, 1, 1)) (some (n + 1, new)) = none := fun n new => mkApp_btag (hk2 _) (by unfold tagN; omega) (Nat.succ_pos n)
  have hb2 : ∀ t : AH, (h1.set k .dead ++ t)[B]? = some (.cells #[.pointer (some ⟨B, 0, none⟩), .slice (some ⟨k, 0, none⟩) l.length l.length] (tagN + bT) true) := fun t => by
    rw [List.getElem?_append_left (by simpa using hlt), List.getElem?_set_ne (fun e => hBk e.symm)]; exact hb
  have hst : ∀ (t : AH) (o : AObj), (h1.set k .dead ++ t).set B o = (h1.set k .dead).set B o ++ t := fun t o => List.set_append_left _ _ (by simpa using hlt)
  simp (implicitDefEqProofs := false) only [go_sem, Nat.reduceAdd, Nat.reduceSub, Nat.reduceMul, Nat.reduceLT, Nat.reduceLeDiff, Nat.reduceEqDiff, Nat.reduceBEq, Nat.reduceBNe, Nat.reducePow, Int.reduceBEq, Int.reduceBNe, Int.reduceEq, Int.reduceLT, Int.reduceLE, Int.reduceNeg, Int.reduceToNat, Int.reduceMul, Int.reduceAdd, Int.reduceSub, Int.reducePow, Int.reduceFDiv, reduceCtorEq, reduceIte, hb1, hk2, hmk 0, happ, hb2, hst]
  exact ⟨_, _, _, aresults_tmp rfl _ _, Eases.refl, rfl, rfl⟩

set_option maxRecDepth 10000 in
set_option maxHeartbeats 4000000 in
/-- the bytes, as a string -/
theorem bstr_calls (B k : Nat) (l : List UInt8) (hl : l.length < 2 ^ 32) (hl0 : 0 < l.length) (h : AH) (hb : h[B]? = some (bldO B true (.slice (some ⟨k, 0, none⟩) l.length l.length))) (hk : h[k]? = some (bufO l)) :
    ACalls Tryd.prog 21 #[.pointer (some ⟨B, 0, none⟩)] h (fun v h' => v = .string ⟨l.toArray⟩ ∧ h' = h.set k .dead) := by
  refine ACalls.of_ay Tryd.func21 rfl Tryd.ntmps21 ⟨_, _, rfl, rfl⟩ ?_; simp only [List.length_cons, List.length_nil, Nat.reduceAdd, Nat.reduceSub, List.replicate_succ, List.replicate_zero, List.cons_append, List.nil_append]
  have hb1 : h[B]? = some (.cells #[.pointer (some ⟨B, 0, none⟩), .slice (some ⟨k, 0, none⟩) l.length l.length] (tagN + bT) true) := hb
  have hast : astring Tryd.prog h 71 (.pointer (some ⟨k, 0, none⟩)) (.int .i64 ((l.length : Nat) : Int)) = some (.string ⟨l.toArray⟩, h.set k .dead) :=
    astring_some Tryd.underlying71 hk (by kernel_rfl) hl0 (by omega)
  have hne : l.length ≠ 0 := by omega
  simp (implicitDefEqProofs := false) only [go_sem, Nat.reduceAdd, Nat.reduceSub, Nat.reduceMul, Nat.reduceLT, Nat.reduceLeDiff, Nat.reduceEqDiff, Nat.reduceBEq, Nat.reduceBNe, Nat.reducePow, Int.reduceBEq, Int.reduceBNe, Int.reduceEq, Int.reduceLT, Int.reduceLE, Int.reduceNeg, Int.reduceToNat, Int.reduceMul, Int.reduceAdd, Int.reduceSub, Int.reducePow, Int.reduceFDiv, reduceCtorEq, reduceIte, hb1, hast, asliceData_s hne]
  refine ⟨by kernel_rfl, by kernel_rfl, ?_⟩
  refine ⟨.inr ⟨rfl, by decide⟩, ?_⟩
  exact ⟨_, _, _, aresults_tmp rfl _ _, Eases.refl, rfl, rfl⟩
end Go.Proofs
