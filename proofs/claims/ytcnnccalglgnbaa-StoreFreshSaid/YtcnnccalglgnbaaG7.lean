import Derived.Shelf.SlSortCmp.WholeK
import Derived.Shelf.SlGeneric
import Derived.Test.YtcnnccalglgnbaaProg
import Derived.Test.YtcnnccalglgnbaaG6
set_option linter.unusedSimpArgs false
set_option linter.unusedVariables false
set_option maxRecDepth 100000
/- accounts: a slot is set -/
namespace Go.Proofs
open Go Go.Am
/-- as it was: kept once -/
def WS.keepWas (S : WS) (p : Plc) : WS := match S.orig p with | some _ => S | none => { S with orig := fun y => if y = p then some ((S.slots p).getD zeroW) else S.orig y }
/-- a slot is set -/
def WS.setSlot (S : WS) (p : Plc) (v : Word4) : WS := { WS.keepWas S p with journal := S.journal ++ [⟨1, p, Acc.zero, (S.slots p).getD zeroW, 0⟩], slots := fun y => if y = p then some v else S.slots y }
set_option maxHeartbeats 4000000 in
theorem setSlot_calls (a : Addr20) (k v : Word4) {H : AH} {I : WI} {S : WS} (w : WA H I S) (hj : S.journal.length < 2 ^ 30) :
    ACalls Try.prog 24 #[.pointer (some ⟨I.b, 0, none⟩), .agg (encAddr a).toArray, .agg (encWord k).toArray, .agg (encWord v).toArray] H (fun u h' => u = undef ∧ ∃ I', WOk Try.prog 26 78 H I h' I' (WS.setSlot S ⟨a, k⟩ v)) := by
  have hb := at_old w.box
  have hmo := at_old w.hOrig
  have hms := at_old w.hSlots
  have hlo := lookSlotOk ⟨a, k⟩ w.orig
  have hls := lookSlot ⟨a, k⟩ w.slots
  unfold WI.cells at hb
  obtain ⟨was, hwas⟩ : ∃ was, was = (S.slots ⟨a, k⟩).getD zeroW := ⟨_, rfl⟩
  rw [← hwas] at hls
  obtain ⟨s0, hs0⟩ : ∃ s0 : Stp, s0 = { kind := 1, pl := { addr := a, key := k }, was := Stp.zero.was, word := was, n := Stp.zero.n } := ⟨_, rfl⟩
  have hbd : (2 * (S.journal.length + 1) + 192) * 160 ≤ 2 ^ 48 ∧ S.journal.length + 1 < 2 ^ 62 := ⟨by omega, by omega⟩
  cases ho : S.orig ⟨a, k⟩ with
  | some o =>
    rw [ho] at hlo
    simp only [Option.getD_some, Option.isSome_some] at hlo
    have w1 := w.app (t := [.cells (encAddr a).toArray 0 true, .cells (encWord k).toArray 0 true, .cells (encWord v).toArray 0 true, .cells (encPlc ⟨a, k⟩).toArray 0 true, .cells (encWord was).toArray 0 true, .cells (encWord o).toArray 0 true, .cells (encStp s0).toArray 36 true])
    obtain ⟨r', H', e1, hbox, ok⟩ := w1.step s0 (g := true) (by_ := 160) ⟨by omega, by omega⟩
    obtain ⟨es', ck', hx, ok2⟩ := ok.at_.put_slots (mt := 67) Try.mp67 keyedPlc ⟨a, k⟩ v
    have fin := (ok.trans ok2).pre
    have nb : ∀ i, H.length ≤ i → i ∉ I.own := fun i hi hm => by
      have := w.holds.below i (by rw [WI.own_lay]; exact hm)
      omega
    have h4 := ok.rest.same (H.length + 2) (.cells (encWord v).toArray 0 true) (by simp) rfl (nb _ (by omega))
    have h5 := ok.rest.same (H.length + 3) (.cells (encPlc ⟨a, k⟩).toArray 0 true) (by simp) rfl (nb _ (by omega))
    have hb1 := ok.at_.box
    have hm1 := ok.at_.hSlots
    have hx1 := hx hm1
    unfold WI.cells at hbox hb1 h4 h5 hx1 hm1 fin
    simp only [List.length_append, List.length_singleton, keyPlc] at hb1 h4 h5 hx1 hm1 fin
    have fin2 : ∃ I', WOk Try.prog 26 78 H I _ I' (WS.setSlot S ⟨a, k⟩ v) := ⟨_, by
      have e : WS.setSlot S ⟨a, k⟩ v = { { S with journal := S.journal ++ [s0] } with slots := fun y => if y = ⟨a, k⟩ then some v else S.slots y } := by
        unfold WS.setSlot WS.keepWas; rw [ho, hs0, hwas]; rfl
      rw [e]; exact fin⟩
    have inh : ∃ (u : Value) (h' : AH), u = undef ∧ ∃ I', WOk Try.prog 26 78 H I h' I' (WS.setSlot S ⟨a, k⟩ v) := ⟨_, _, rfl, fin2⟩
    refine ACalls.of_ay Try.func24 rfl Try.ntmps24 inh ?_; simp only [List.length_cons, List.length_nil, Nat.reduceAdd, Nat.reduceSub, List.replicate_succ, List.replicate_zero, List.cons_append, List.nil_append]
    simp (implicitDefEqProofs := false) (maxSteps := 2000000) only [go_sem, Nat.reduceAdd, Nat.reduceSub, Nat.reduceMul, Nat.reduceLT, Nat.reduceLeDiff, Nat.reduceEqDiff, Nat.reduceBEq, Nat.reduceBNe, Nat.reducePow, Int.reduceBEq, Int.reduceBNe, Int.reduceEq, Int.reduceLT, Int.reduceLE, Int.reduceNeg, Int.reduceToNat, Int.reduceMul, Int.reduceAdd, Int.reduceSub, Int.reducePow, Int.reduceFDiv, reduceCtorEq, reduceIte, hb, hmo, hms, length_encAddr, length_encWord, hlo, hls, ← hs0, size_zeros, e1, hbox, hb1, h4, h5, hm1, hx1, keyPlc]
    refine ⟨by kernel_rfl, by kernel_rfl, by kernel_rfl, by kernel_rfl, by kernel_rfl, by kernel_rfl, .inr ⟨rfl, by decide⟩, .inr ⟨rfl, by decide⟩, by kernel_rfl, by kernel_rfl, .inr ⟨rfl, by decide⟩, ?_⟩
    exact ⟨undef, undef, _, rfl, Eases.refl, rfl, fin2⟩
  | none =>
    rw [ho] at hlo
    simp only [Option.getD_none, Option.isSome_none] at hlo
    have w0 := w.app (t := [.cells (encAddr a).toArray 0 true, .cells (encWord k).toArray 0 true, .cells (encWord v).toArray 0 true, .cells (encPlc ⟨a, k⟩).toArray 0 true, .cells (encWord was).toArray 0 true, .cells (encWord zeroW).toArray 0 true])
    obtain ⟨eo, co, hxo, ok0⟩ := w0.put_orig (mt := 67) Try.mp67 keyedPlc ⟨a, k⟩ was
    have hxo1 := hxo (at_old w.hOrig [.cells (encAddr a).toArray 0 true, .cells (encWord k).toArray 0 true, .cells (encWord v).toArray 0 true, .cells (encPlc ⟨a, k⟩).toArray 0 true, .cells (encWord was).toArray 0 true, .cells (encWord zeroW).toArray 0 true])
    have w1 := ok0.at_.app (t := [.cells (encStp s0).toArray 36 true])
    obtain ⟨r', H', e1, hbox, ok1⟩ := w1.step s0 (g := true) (by_ := 160) hbd
    obtain ⟨es', ck', hx, ok2⟩ := ok1.at_.put_slots (mt := 67) Try.mp67 keyedPlc ⟨a, k⟩ v
    have fin := ((ok0.trans ok1.pre).trans ok2).pre
    have nb : ∀ i, H.length ≤ i → i ∉ I.own := fun i hi hm => by
      have := w.holds.below i (by rw [WI.own_lay]; exact hm)
      omega
    have g2 := ok0.rest.same (H.length + 2) (.cells (encWord v).toArray 0 true) (by simp) rfl (nb _ (by omega))
    have g3 := ok0.rest.same (H.length + 3) (.cells (encPlc ⟨a, k⟩).toArray 0 true) (by simp) rfl (nb _ (by omega))
    have g4 := ok0.rest.same (H.length + 4) (.cells (encWord was).toArray 0 true) (by simp) rfl (nb _ (by omega))
    have h4 := ok1.rest.same (H.length + 2) _ (at_old g2 _) rfl (nb _ (by omega))
    have h5 := ok1.rest.same (H.length + 3) _ (at_old g3 _) rfl (nb _ (by omega))
    have hb0 := ok0.at_.box
    have hb1 := ok1.at_.box
    have hm1 := ok1.at_.hSlots
    have hx1 := hx hm1
    unfold WI.cells at hb0 hbox hb1 h4 h5 hx1 hm1 fin
    simp only [List.length_append, List.length_singleton, keyPlc] at hb0 hbox e1 hb1 g2 g3 g4 h4 h5 hx1 hxo1 hm1 fin
    have fin2 : ∃ I', WOk Try.prog 26 78 H I _ I' (WS.setSlot S ⟨a, k⟩ v) := ⟨_, by
      have e : WS.setSlot S ⟨a, k⟩ v = { { ({ S with orig := fun (y : Plc) => if y = (⟨a, k⟩ : Plc) then some was else S.orig y } : WS) with journal := S.journal ++ [s0] } with slots := fun (y : Plc) => if y = (⟨a, k⟩ : Plc) then some v else S.slots y } := by
        unfold WS.setSlot WS.keepWas; rw [ho, hs0, hwas]; rfl
      rw [e]; exact fin⟩
    have inh : ∃ (u : Value) (h' : AH), u = undef ∧ ∃ I', WOk Try.prog 26 78 H I h' I' (WS.setSlot S ⟨a, k⟩ v) := ⟨_, _, rfl, fin2⟩
    refine ACalls.of_ay Try.func24 rfl Try.ntmps24 inh ?_; simp only [List.length_cons, List.length_nil, Nat.reduceAdd, Nat.reduceSub, List.replicate_succ, List.replicate_zero, List.cons_append, List.nil_append]
    simp (implicitDefEqProofs := false) (maxSteps := 2000000) only [go_sem, Nat.reduceAdd, Nat.reduceSub, Nat.reduceMul, Nat.reduceLT, Nat.reduceLeDiff, Nat.reduceEqDiff, Nat.reduceBEq, Nat.reduceBNe, Nat.reducePow, Int.reduceBEq, Int.reduceBNe, Int.reduceEq, Int.reduceLT, Int.reduceLE, Int.reduceNeg, Int.reduceToNat, Int.reduceMul, Int.reduceAdd, Int.reduceSub, Int.reducePow, Int.reduceFDiv, reduceCtorEq, reduceIte, hb, hmo, hms, length_encAddr, length_encWord, hlo, hls, hxo1, hb0, g2, g3, g4, ← hs0, size_zeros, e1, hbox, hb1, h4, h5, hm1, hx1, keyPlc]
    refine ⟨by kernel_rfl, by kernel_rfl, by kernel_rfl, by kernel_rfl, by kernel_rfl, by kernel_rfl, .inr ⟨rfl, by decide⟩, by kernel_rfl, by kernel_rfl, .inr ⟨rfl, by decide⟩, .inr ⟨rfl, by decide⟩, by kernel_rfl, by kernel_rfl, .inr ⟨rfl, by decide⟩, ?_⟩
    exact ⟨undef, undef, _, rfl, Eases.refl, rfl, fin2⟩
end Go.Proofs

set_option linter.unusedSimpArgs false
set_option linter.unusedVariables false
set_option maxRecDepth 100000
/- accounts: marks -/
namespace Go.Proofs
open Go Go.Am
def WS.marked (S : WS) : WS := { S with next := S.next + 1, marks := S.marks ++ [(S.next + 1, (S.journal.length : Int))] }
set_option maxHeartbeats 4000000 in
theorem mark_calls {H : AH} {I : WI} {S : WS} (w : WA H I S) (hj : S.journal.length < 2 ^ 30) (hm : S.marks.length < 2 ^ 30) (hn : 0 ≤ S.next ∧ S.next < 2 ^ 62) :
    ACalls Try.prog 28 #[.pointer (some ⟨I.b, 0, none⟩)] H (fun v h' => v = .int .i64 (S.next + 1) ∧ ∃ I', WOk Try.prog 26 78 H I h' I' (WS.marked S)) := by
  have hb := w.box
  have ok0 := w.fields (S.next + 1) S.refund
  have hb0 := ok0.at_.box
  have w1 := ok0.at_.app (t := [.cells (encMk (S.next + 1, (S.journal.length : Int))).toArray 2 true])
  have hbd : (2 * (S.marks.length + 1) + 192) * 16 ≤ 2 ^ 48 ∧ S.marks.length + 1 < 2 ^ 62 := ⟨by omega, by omega⟩
  obtain ⟨r', H', e1, hbox, ok1⟩ := w1.mark (S.next + 1, (S.journal.length : Int)) (g := true) (by_ := 16) hbd
  have hb1 := ok1.at_.box
  have fin := ok0.trans ok1.pre
  have hw : IntKind.i64.wrap (S.next + 1) = S.next + 1 := wrap_i64_of _ (by omega) (by omega)
  have hlj : ∀ h, alen Try.prog h 70 (I.journal.val S.journal.length) = some (.int .i64 (S.journal.length : Nat)) := fun h => alen_row Try.slc70 w.journal
  unfold WI.cells at hb hb0 hbox hb1 e1 fin
  unfold encMk at e1
  simp only [List.length_append, List.length_singleton] at hb hb0 hbox e1 hb1 fin
  have inh : ∃ (v : Value) (h' : AH), v = .int .i64 (S.next + 1) ∧ ∃ I', WOk Try.prog 26 78 H I h' I' (WS.marked S) := ⟨_, _, rfl, _, fin⟩
  refine ACalls.of_ay Try.func28 rfl Try.ntmps28 inh ?_; simp only [List.length_cons, List.length_nil, Nat.reduceAdd, Nat.reduceSub, List.replicate_succ, List.replicate_zero, List.cons_append, List.nil_append]
  simp (implicitDefEqProofs := false) (maxSteps := 2000000) only [go_sem, Nat.reduceAdd, Nat.reduceSub, Nat.reduceMul, Nat.reduceLT, Nat.reduceLeDiff, Nat.reduceEqDiff, Nat.reduceBEq, Nat.reduceBNe, Nat.reducePow, Int.reduceBEq, Int.reduceBNe, Int.reduceEq, Int.reduceLT, Int.reduceLE, Int.reduceNeg, Int.reduceToNat, Int.reduceMul, Int.reduceAdd, Int.reduceSub, Int.reducePow, Int.reduceFDiv, reduceCtorEq, reduceIte, hb, hw, hb0, size_zeros, hlj, e1, hbox, hb1]
  refine ⟨by kernel_rfl, by kernel_rfl, .inr ⟨rfl, by decide⟩, .inr ⟨rfl, by decide⟩, ?_⟩
  exact ⟨.int .i64 (S.next + 1), .int .i64 (S.next + 1), _, rfl, Eases.refl, rfl, _, fin⟩
end Go.Proofs

set_option linter.unusedSimpArgs false
set_option linter.unusedVariables false
/- words: differences and sums -/
namespace Go.Proofs
open Go Go.Am
/-- a word and a truth come back -/
theorem apost_wb {P : Program} {h0 t : AH} {fn : Func} {R : Value → AH → Prop} {p k : Nat} {ty : TypeId} {w : Word4} {b : Bool} {l : List Value} (hr : fn.results = #[.cell p ty, .tmp k]) (hv : aload P (h0 ++ t) ty (l.getD p junk) = some (.agg (encWord w).toArray)) (hb : l.getD k junk = .bool b) (hR : R (.tuple #[.agg (encWord w).toArray, .bool b]) h0) :
    apost P h0 fn R .ret l.toArray (h0 ++ t) :=
  apost_tuple (l := [.agg (encWord w).toArray, .bool b]) (by rw [aresults_cell_tmp hr _ _ (by rw [getD_lit]; exact hv), getD_lit, hb]) (by simp only [List.all_cons, List.all_nil, encWord_plain]; rfl) (keeps_append _ _) hR
theorem oren4 {σ : Nat → Nat} {L : Nat} {a b c d : Word4} : ∀ o ∈ [AObj.cells (encWord a).toArray 0 true, AObj.cells (encWord b).toArray 0 true, AObj.cells (encWord c).toArray 0 true, AObj.cells (encWord d).toArray 0 true], ORen σ L o o := by
  intro o ho
  simp only [List.mem_cons, List.not_mem_nil, or_false] at ho
  rcases ho with rfl | rfl | rfl | rfl <;> exact ORen.plainCells (tree_encWord _)
set_option maxRecDepth 10000 in
set_option maxHeartbeats 4000000 in
theorem wsub_calls (a b : Word4) (h : AH) :
    ACalls Try.prog 46 #[.agg (encWord a).toArray, .agg (encWord b).toArray] h (fun v h' => v = .tuple #[.agg (encWord (sb a b 4).1).toArray, .bool (((((sb a b 4).2.toNat : Nat) : Int)) != 0)] ∧ h' = h) := by
  refine ACalls.of_ay Try.func46 rfl Try.ntmps46 ⟨_, _, rfl, rfl⟩ ?_; simp only [List.length_cons, List.length_nil, Nat.reduceAdd, Nat.reduceSub, List.replicate_succ, List.replicate_zero, List.cons_append, List.nil_append]
  simp (implicitDefEqProofs := false) (maxSteps := 2000000) only [go_sem, Nat.reduceAdd, Nat.reduceSub, Nat.reduceMul, Nat.reduceLT, Nat.reduceLeDiff, Nat.reduceEqDiff, Nat.reduceBEq, Nat.reduceBNe, Nat.reducePow, Int.reduceBEq, Int.reduceBNe, Int.reduceEq, Int.reduceLT, Int.reduceLE, Int.reduceNeg, Int.reduceToNat, Int.reduceMul, Int.reduceAdd, Int.reduceSub, Int.reducePow, Int.reduceFDiv, reduceCtorEq, reduceIte]
  rw [zeroW_enc]
  refine AWP.loopI (fun i : Nat => 4 - i) (fun i => [junk, junk, .pointer (some ⟨h.length, 0, none⟩), .pointer (some ⟨h.length + 1, 0, none⟩), .pointer (some ⟨h.length + 2, 0, none⟩), junk, .pointer (some ⟨h.length + 3, 0, none⟩), .int .u64 ((((sb a b i).2.toNat : Nat) : Int)), junk, .int .i64 (i : Nat), junk, junk, junk, junk, junk, junk, junk, junk, junk, junk, junk, junk, junk, junk, junk, junk, junk, junk, junk])
    (fun i => h ++ [.cells (encWord a).toArray 0 true, .cells (encWord b).toArray 0 true, .cells (encWord zeroW).toArray 0 true, .cells (encWord (sb a b i).1).toArray 0 true]) (fun i => i ≤ 4) 0 (Nat.zero_le _) ?_ ?_
  · simp only [sb_0]
    refine Keeps.easeL oren4 ?_
    repeat (first | exact Keeps.nil | refine Keeps.junk _ ?_ | refine Keeps.keep (by first | exact .plain _ rfl | exact .ptr _ _ _ (by simp) rfl) ?_)
  · intro i hi
    by_cases hlt : i < 4
    · have h43 : i ≤ 3 := by omega
      have hl4 : ((i : Nat) : Int) < 4 := by omega
      have hw1 : IntKind.i64.wrap ((i : Int) + 1) = ((i + 1 : Nat) : Int) := by rw [wrap_i64_of _ (by omega) (by omega), ofNat_succ']
      simp (implicitDefEqProofs := false) (maxSteps := 2000000) only [go_sem, Nat.reduceAdd, Nat.reduceSub, Nat.reduceMul, Nat.reduceLT, Nat.reduceLeDiff, Nat.reduceEqDiff, Nat.reduceBEq, Nat.reduceBNe, Nat.reducePow, Int.reduceBEq, Int.reduceBNe, Int.reduceEq, Int.reduceLT, Int.reduceLE, Int.reduceNeg, Int.reduceToNat, Int.reduceMul, Int.reduceAdd, Int.reduceSub, Int.reducePow, Int.reduceFDiv, reduceCtorEq, reduceIte, hl4, h43, hw1, encWord_get _ hlt, acarry_sub _ _ _ (sb_le a b i), encWord_set _ hlt]
      refine ⟨by kernel_rfl, by kernel_rfl, .inr ⟨rfl, by decide⟩, ?_⟩
      refine ⟨i + 1, by omega, by omega, ?_⟩
      simp only [sb_succ a b hlt]
      refine Keeps.easeL oren4 ?_
      repeat (first | exact Keeps.nil | refine Keeps.junk _ ?_ | refine Keeps.keep (by first | exact .plain _ rfl | exact .ptr _ _ _ (by simp) rfl) ?_)
    · have hl4 : ¬ ((i : Nat) : Int) < 4 := by omega
      simp (implicitDefEqProofs := false) (maxSteps := 2000000) only [go_sem, Nat.reduceAdd, Nat.reduceSub, Nat.reduceMul, Nat.reduceLT, Nat.reduceLeDiff, Nat.reduceEqDiff, Nat.reduceBEq, Nat.reduceBNe, Nat.reducePow, Int.reduceBEq, Int.reduceBNe, Int.reduceEq, Int.reduceLT, Int.reduceLE, Int.reduceNeg, Int.reduceToNat, Int.reduceMul, Int.reduceAdd, Int.reduceSub, Int.reducePow, Int.reduceFDiv, reduceCtorEq, reduceIte, hl4]
      have hie : i = 4 := by omega
      subst hie
      exact apost_wb rfl (by simp (implicitDefEqProofs := false) (maxSteps := 2000000) only [go_sem, Nat.reduceAdd, Nat.reduceSub, Nat.reduceMul, Nat.reduceLT, Nat.reduceLeDiff, Nat.reduceEqDiff, Nat.reduceBEq, Nat.reduceBNe, Nat.reducePow, Int.reduceBEq, Int.reduceBNe, Int.reduceEq, Int.reduceLT, Int.reduceLE, Int.reduceNeg, Int.reduceToNat, Int.reduceMul, Int.reduceAdd, Int.reduceSub, Int.reducePow, Int.reduceFDiv, reduceCtorEq, reduceIte, length_encWord]) rfl ⟨rfl, rfl⟩
set_option maxRecDepth 10000 in
set_option maxHeartbeats 4000000 in
theorem wadd_calls (a b : Word4) (h : AH) :
    ACalls Try.prog 45 #[.agg (encWord a).toArray, .agg (encWord b).toArray] h (fun v h' => v = .tuple #[.agg (encWord (ad a b 4).1).toArray, .bool (((((ad a b 4).2.toNat : Nat) : Int)) != 0)] ∧ h' = h) := by
  refine ACalls.of_ay Try.func45 rfl Try.ntmps45 ⟨_, _, rfl, rfl⟩ ?_; simp only [List.length_cons, List.length_nil, Nat.reduceAdd, Nat.reduceSub, List.replicate_succ, List.replicate_zero, List.cons_append, List.nil_append]
  simp (implicitDefEqProofs := false) (maxSteps := 2000000) only [go_sem, Nat.reduceAdd, Nat.reduceSub, Nat.reduceMul, Nat.reduceLT, Nat.reduceLeDiff, Nat.reduceEqDiff, Nat.reduceBEq, Nat.reduceBNe, Nat.reducePow, Int.reduceBEq, Int.reduceBNe, Int.reduceEq, Int.reduceLT, Int.reduceLE, Int.reduceNeg, Int.reduceToNat, Int.reduceMul, Int.reduceAdd, Int.reduceSub, Int.reducePow, Int.reduceFDiv, reduceCtorEq, reduceIte]
  rw [zeroW_enc]
  refine AWP.loopI (fun i : Nat => 4 - i) (fun i => [junk, junk, .pointer (some ⟨h.length, 0, none⟩), .pointer (some ⟨h.length + 1, 0, none⟩), .pointer (some ⟨h.length + 2, 0, none⟩), junk, .pointer (some ⟨h.length + 3, 0, none⟩), .int .u64 ((((ad a b i).2.toNat : Nat) : Int)), junk, .int .i64 (i : Nat), junk, junk, junk, junk, junk, junk, junk, junk, junk, junk, junk, junk, junk, junk, junk, junk, junk, junk, junk])
    (fun i => h ++ [.cells (encWord a).toArray 0 true, .cells (encWord b).toArray 0 true, .cells (encWord zeroW).toArray 0 true, .cells (encWord (ad a b i).1).toArray 0 true]) (fun i => i ≤ 4) 0 (Nat.zero_le _) ?_ ?_
  · simp only [ad_0]
    refine Keeps.easeL oren4 ?_
    repeat (first | exact Keeps.nil | refine Keeps.junk _ ?_ | refine Keeps.keep (by first | exact .plain _ rfl | exact .ptr _ _ _ (by simp) rfl) ?_)
  · intro i hi
    by_cases hlt : i < 4
    · have h43 : i ≤ 3 := by omega
      have hl4 : ((i : Nat) : Int) < 4 := by omega
      have hw1 : IntKind.i64.wrap ((i : Int) + 1) = ((i + 1 : Nat) : Int) := by rw [wrap_i64_of _ (by omega) (by omega), ofNat_succ']
      simp (implicitDefEqProofs := false) (maxSteps := 2000000) only [go_sem, Nat.reduceAdd, Nat.reduceSub, Nat.reduceMul, Nat.reduceLT, Nat.reduceLeDiff, Nat.reduceEqDiff, Nat.reduceBEq, Nat.reduceBNe, Nat.reducePow, Int.reduceBEq, Int.reduceBNe, Int.reduceEq, Int.reduceLT, Int.reduceLE, Int.reduceNeg, Int.reduceToNat, Int.reduceMul, Int.reduceAdd, Int.reduceSub, Int.reducePow, Int.reduceFDiv, reduceCtorEq, reduceIte, hl4, h43, hw1, encWord_get _ hlt, acarry_add _ _ _ (ad_le a b i), encWord_set _ hlt]
      refine ⟨by kernel_rfl, by kernel_rfl, .inr ⟨rfl, by decide⟩, ?_⟩
      refine ⟨i + 1, by omega, by omega, ?_⟩
      simp only [ad_succ a b hlt]
      refine Keeps.easeL oren4 ?_
      repeat (first | exact Keeps.nil | refine Keeps.junk _ ?_ | refine Keeps.keep (by first | exact .plain _ rfl | exact .ptr _ _ _ (by simp) rfl) ?_)
    · have hl4 : ¬ ((i : Nat) : Int) < 4 := by omega
      simp (implicitDefEqProofs := false) (maxSteps := 2000000) only [go_sem, Nat.reduceAdd, Nat.reduceSub, Nat.reduceMul, Nat.reduceLT, Nat.reduceLeDiff, Nat.reduceEqDiff, Nat.reduceBEq, Nat.reduceBNe, Nat.reducePow, Int.reduceBEq, Int.reduceBNe, Int.reduceEq, Int.reduceLT, Int.reduceLE, Int.reduceNeg, Int.reduceToNat, Int.reduceMul, Int.reduceAdd, Int.reduceSub, Int.reducePow, Int.reduceFDiv, reduceCtorEq, reduceIte, hl4]
      have hie : i = 4 := by omega
      subst hie
      exact apost_wb rfl (by simp (implicitDefEqProofs := false) (maxSteps := 2000000) only [go_sem, Nat.reduceAdd, Nat.reduceSub, Nat.reduceMul, Nat.reduceLT, Nat.reduceLeDiff, Nat.reduceEqDiff, Nat.reduceBEq, Nat.reduceBNe, Nat.reducePow, Int.reduceBEq, Int.reduceBNe, Int.reduceEq, Int.reduceLT, Int.reduceLE, Int.reduceNeg, Int.reduceToNat, Int.reduceMul, Int.reduceAdd, Int.reduceSub, Int.reducePow, Int.reduceFDiv, reduceCtorEq, reduceIte, length_encWord]) rfl ⟨rfl, rfl⟩
end Go.Proofs

set_option linter.unusedSimpArgs false
set_option linter.unusedVariables false
set_option maxRecDepth 100000
/- accounts: paying -/
namespace Go.Proofs
open Go Go.Am
abbrev WS.bal (S : WS) (a : Addr20) : Word4 := ((S.all a).getD Acc.zero).bal
def WS.setBal (S : WS) (a : Addr20) (v : Word4) : WS := WS.put S a { (S.all a).getD Acc.zero with bal := v }
/-- paid -/
def WS.paid (S : WS) (a b : Addr20) (v : Word4) : WS := let S1 := WS.setBal S a (sb (WS.bal S a) v 4).1; WS.setBal S1 b (ad (WS.bal S1 b) v 4).1
def WS.short (S : WS) (a : Addr20) (v : Word4) : Bool := (((sb (WS.bal S a) v 4).2.toNat : Nat) : Int) != 0
set_option maxHeartbeats 4000000 in
theorem pay_calls (a b : Addr20) (v : Word4) {H : AH} {I : WI} {S : WS} (w : WA H I S) (hj : S.journal.length < 2 ^ 29) :
    ACalls Try.prog 19 #[.pointer (some ⟨I.b, 0, none⟩), .agg (encAddr a).toArray, .agg (encAddr b).toArray, .agg (encWord v).toArray] H (fun u h' => u = .bool (!WS.short S a v) ∧ ∃ I', WOk Try.prog 26 78 H I h' I' (if WS.short S a v then S else WS.paid S a b v)) := by
  obtain ⟨u1, h1, _, I1, ok1⟩ := (setBalance_calls a (sb (WS.bal S a) v 4).1 w (by omega)).inh
  obtain ⟨u2, h2, _, I2, ok2⟩ := (setBalance_calls b (ad (WS.bal (WS.setBal S a (sb (WS.bal S a) v 4).1) b) v 4).1 ok1.at_ (by simp [WS.put]; omega)).inh
  have inh : ∃ (u : Value) (h' : AH), u = .bool (!WS.short S a v) ∧ ∃ I', WOk Try.prog 26 78 H I h' I' (if WS.short S a v then S else WS.paid S a b v) := by
    cases hs : WS.short S a v with
    | true => exact ⟨_, _, rfl, _, WOk.refl w⟩
    | false => exact ⟨_, _, rfl, _, ok1.trans ok2⟩
  refine ACalls.of_ay Try.func19 rfl Try.ntmps19 inh ?_; simp only [List.length_cons, List.length_nil, Nat.reduceAdd, Nat.reduceSub, List.replicate_succ, List.replicate_zero, List.cons_append, List.nil_append]
  simp (implicitDefEqProofs := false) (maxSteps := 2000000) only [go_sem, Nat.reduceAdd, Nat.reduceSub, Nat.reduceMul, Nat.reduceLT, Nat.reduceLeDiff, Nat.reduceEqDiff, Nat.reduceBEq, Nat.reduceBNe, Nat.reducePow, Int.reduceBEq, Int.reduceBNe, Int.reduceEq, Int.reduceLT, Int.reduceLE, Int.reduceNeg, Int.reduceToNat, Int.reduceMul, Int.reduceAdd, Int.reduceSub, Int.reducePow, Int.reduceFDiv, reduceCtorEq, reduceIte, length_encAddr, length_encWord]
  refine ⟨by kernel_rfl, by kernel_rfl, ?_⟩
  refine dstep_callA (fun x => balance_calls a (w.app.app)) pres_refl ?_
  simp (implicitDefEqProofs := false) (maxSteps := 2000000) only [go_sem, Nat.reduceAdd, Nat.reduceSub, Nat.reduceMul, Nat.reduceLT, Nat.reduceLeDiff, Nat.reduceEqDiff, Nat.reduceBEq, Nat.reduceBNe, Nat.reducePow, Int.reduceBEq, Int.reduceBNe, Int.reduceEq, Int.reduceLT, Int.reduceLE, Int.reduceNeg, Int.reduceToNat, Int.reduceMul, Int.reduceAdd, Int.reduceSub, Int.reducePow, Int.reduceFDiv, reduceCtorEq, reduceIte, length_encAddr, length_encWord]
  refine dstep_callA (fun x => wsub_calls _ _ _) pres_refl ?_
  cases hs : WS.short S a v with
  | true =>
    have hs' : ((((sb (WS.bal S a) v 4).2.toNat : Nat) : Int) != 0) = true := hs
    simp (implicitDefEqProofs := false) (maxSteps := 2000000) only [go_sem, Nat.reduceAdd, Nat.reduceSub, Nat.reduceMul, Nat.reduceLT, Nat.reduceLeDiff, Nat.reduceEqDiff, Nat.reduceBEq, Nat.reduceBNe, Nat.reducePow, Int.reduceBEq, Int.reduceBNe, Int.reduceEq, Int.reduceLT, Int.reduceLE, Int.reduceNeg, Int.reduceToNat, Int.reduceMul, Int.reduceAdd, Int.reduceSub, Int.reducePow, Int.reduceFDiv, reduceCtorEq, reduceIte, length_encAddr, length_encWord, hs']
    exact ⟨.bool false, .bool false, _, rfl, Eases.refl, rfl, _, WOk.pre (WOk.refl w.app)⟩
  | false =>
    have hs' : ((((sb (WS.bal S a) v 4).2.toNat : Nat) : Int) != 0) = false := hs
    have nb : ∀ i, H.length ≤ i → i ∉ I.own := fun i hi hm => by
      have := w.holds.below i (by rw [WI.own_lay]; exact hm)
      omega
    simp (implicitDefEqProofs := false) (maxSteps := 2000000) only [go_sem, Nat.reduceAdd, Nat.reduceSub, Nat.reduceMul, Nat.reduceLT, Nat.reduceLeDiff, Nat.reduceEqDiff, Nat.reduceBEq, Nat.reduceBNe, Nat.reducePow, Int.reduceBEq, Int.reduceBNe, Int.reduceEq, Int.reduceLT, Int.reduceLE, Int.reduceNeg, Int.reduceToNat, Int.reduceMul, Int.reduceAdd, Int.reduceSub, Int.reducePow, Int.reduceFDiv, reduceCtorEq, reduceIte, length_encAddr, length_encWord, hs']
    refine astep_calls (setBalance_calls a (sb (WS.bal S a) v 4).1 w.app (by omega)) ?_
    rintro u hA ⟨hu, J1, okA⟩
    have g1 := okA.rest.same (H.length + 1) (.cells (encAddr b).toArray 0 true) (by simp) rfl (nb _ (by omega))
    have g2 := okA.rest.same (H.length + 2) (.cells (encWord v).toArray 0 true) (by simp) rfl (nb _ (by omega))
    have g1' := fun l => at_old g1 l
    have g2' := fun l => at_old g2 l
    have eb : J1.b = I.b := okA.b
    simp (implicitDefEqProofs := false) (maxSteps := 2000000) only [go_sem, Nat.reduceAdd, Nat.reduceSub, Nat.reduceMul, Nat.reduceLT, Nat.reduceLeDiff, Nat.reduceEqDiff, Nat.reduceBEq, Nat.reduceBNe, Nat.reducePow, Int.reduceBEq, Int.reduceBNe, Int.reduceEq, Int.reduceLT, Int.reduceLE, Int.reduceNeg, Int.reduceToNat, Int.reduceMul, Int.reduceAdd, Int.reduceSub, Int.reducePow, Int.reduceFDiv, reduceCtorEq, reduceIte, hu, length_encAddr, length_encWord, g1, g2, g1', g2']
    refine ⟨by kernel_rfl, by kernel_rfl, ?_⟩
    have cB := fun x : AH => balance_calls b (okA.at_.app (t := x))
    rw [eb] at cB
    refine dstep_callA (fun x => cB x) pres_refl ?_
    simp (implicitDefEqProofs := false) (maxSteps := 2000000) only [go_sem, Nat.reduceAdd, Nat.reduceSub, Nat.reduceMul, Nat.reduceLT, Nat.reduceLeDiff, Nat.reduceEqDiff, Nat.reduceBEq, Nat.reduceBNe, Nat.reducePow, Int.reduceBEq, Int.reduceBNe, Int.reduceEq, Int.reduceLT, Int.reduceLE, Int.reduceNeg, Int.reduceToNat, Int.reduceMul, Int.reduceAdd, Int.reduceSub, Int.reducePow, Int.reduceFDiv, reduceCtorEq, reduceIte, length_encAddr, length_encWord, g1, g2, g1', g2']
    refine dstep_callA (fun x => wadd_calls _ _ _) pres_refl ?_
    simp (implicitDefEqProofs := false) (maxSteps := 2000000) only [go_sem, Nat.reduceAdd, Nat.reduceSub, Nat.reduceMul, Nat.reduceLT, Nat.reduceLeDiff, Nat.reduceEqDiff, Nat.reduceBEq, Nat.reduceBNe, Nat.reducePow, Int.reduceBEq, Int.reduceBNe, Int.reduceEq, Int.reduceLT, Int.reduceLE, Int.reduceNeg, Int.reduceToNat, Int.reduceMul, Int.reduceAdd, Int.reduceSub, Int.reducePow, Int.reduceFDiv, reduceCtorEq, reduceIte, length_encAddr, length_encWord, g1, g2, g1', g2']
    have cC := fun x : AH => setBalance_calls b (ad (WS.bal (WS.setBal S a (sb (WS.bal S a) v 4).1) b) v 4).1 (okA.at_.app (t := x)) (by simp [WS.put]; omega)
    rw [eb] at cC
    refine astep_calls (cC _) ?_
    rintro u2 hC ⟨hu2, J2, okC⟩
    simp (implicitDefEqProofs := false) (maxSteps := 2000000) only [go_sem, Nat.reduceAdd, Nat.reduceSub, Nat.reduceMul, Nat.reduceLT, Nat.reduceLeDiff, Nat.reduceEqDiff, Nat.reduceBEq, Nat.reduceBNe, Nat.reducePow, Int.reduceBEq, Int.reduceBNe, Int.reduceEq, Int.reduceLT, Int.reduceLE, Int.reduceNeg, Int.reduceToNat, Int.reduceMul, Int.reduceAdd, Int.reduceSub, Int.reducePow, Int.reduceFDiv, reduceCtorEq, reduceIte, hu2]
    exact ⟨.bool true, .bool true, _, rfl, Eases.refl, rfl, _, (okA.trans okC.pre).pre⟩
end Go.Proofs

set_option linter.unusedSimpArgs false
set_option linter.unusedVariables false
set_option maxRecDepth 100000
/- addresses, slots' places: compared -/
namespace Go.Proofs
open Go Go.Am
set_option maxHeartbeats 4000000 in
theorem bytesCompare_calls {A B : Array Value} {b b2 n n2 : Nat} {es es2 : Nat} {rw rw2 : Bool} {h : AH} (hn : (n == 0) = false) (hn2 : (n2 == 0) = false) (hb : h[b]? = some (.cells A es rw)) (hb2 : h[b2]? = some (.cells B es2 rw2)) (hA : n ≤ A.size) (hB : n2 ≤ B.size) (bA : (A.extract 0 n).all isByte = true) (bB : (B.extract 0 n2).all isByte = true) :
    ACalls Try.prog 64 #[.slice (some ⟨b, 0, none⟩) n n, .slice (some ⟨b2, 0, none⟩) n2 n2] h (fun v h' => v = .int .i64 (cmpV (A.extract 0 n) (B.extract 0 n2)) ∧ h' = h) := by
  refine ACalls.of_ay Try.func64 rfl Try.ntmps64 ⟨_, _, rfl, rfl⟩ ?_; simp only [List.length_cons, List.length_nil, Nat.reduceAdd, Nat.reduceSub, List.replicate_succ, List.replicate_zero, List.cons_append, List.nil_append]
  simp (implicitDefEqProofs := false) (maxSteps := 2000000) only [go_sem, Nat.reduceAdd, Nat.reduceSub, Nat.reduceMul, Nat.reduceLT, Nat.reduceLeDiff, Nat.reduceEqDiff, Nat.reduceBEq, Nat.reduceBNe, Nat.reducePow, Int.reduceBEq, Int.reduceBNe, Int.reduceEq, Int.reduceLT, Int.reduceLE, Int.reduceNeg, Int.reduceToNat, Int.reduceMul, Int.reduceAdd, Int.reduceSub, Int.reducePow, Int.reduceFDiv, reduceCtorEq, reduceIte, hn, hn2, hb, hb2, hA, hB, bA, bB]
  simpa using apost_tmp (P := Try.prog) (fn := Try.f64) (h0 := h) (R := fun v h' => v = .int .i64 (cmpV (A.extract 0 n) (B.extract 0 n2)) ∧ h' = h) rfl rfl ⟨rfl, rfl⟩ _ [] (by simp only [List.getD_cons_succ, List.getD_cons_zero])
/-- two addresses -/
theorem adCompare_calls (p q : Addr20) {b b2 es es2 : Nat} {rw rw2 : Bool} {h : AH} (hb : h[b]? = some (.cells (encAddr p).toArray es rw)) (hb2 : h[b2]? = some (.cells (encAddr q).toArray es2 rw2)) :
    ACalls Try.prog 64 #[.slice (some ⟨b, 0, none⟩) 20 20, .slice (some ⟨b2, 0, none⟩) 20 20] h (fun v h' => v = .int .i64 (sgn (addrN p) (addrN q)) ∧ h' = h) := by
  have e : ∀ p : Addr20, (encAddr p).toArray.extract 0 20 = (encAddr p).toArray := fun p => extract_full (length_encAddr _)
  have sz : ∀ p : Addr20, (encAddr p).toArray.size = 20 := fun p => by simp [length_encAddr]
  have := bytesCompare_calls (n := 20) (n2 := 20) rfl rfl hb hb2 (by rw [sz]; omega) (by rw [sz]; omega) (by rw [e]; exact bytes_addr _) (by rw [e]; exact bytes_addr _)
  rw [e, e, cmpV_addr] at this
  exact this
set_option maxHeartbeats 4000000 in
theorem scompare_calls (p q : Addr20) (h : AH) : ACalls Try.prog 41 #[.agg (encAddr p).toArray, .agg (encAddr q).toArray] h (fun v h' => v = .int .i64 (sgn (addrN p) (addrN q)) ∧ h' = h) := by
  refine ACalls.of_ay Try.func41 rfl Try.ntmps41 ⟨_, _, rfl, rfl⟩ ?_; simp only [List.length_cons, List.length_nil, Nat.reduceAdd, Nat.reduceSub, List.replicate_succ, List.replicate_zero, List.cons_append, List.nil_append]
  simp (implicitDefEqProofs := false) (maxSteps := 2000000) only [go_sem, Nat.reduceAdd, Nat.reduceSub, Nat.reduceMul, Nat.reduceLT, Nat.reduceLeDiff, Nat.reduceEqDiff, Nat.reduceBEq, Nat.reduceBNe, Nat.reducePow, Int.reduceBEq, Int.reduceBNe, Int.reduceEq, Int.reduceLT, Int.reduceLE, Int.reduceNeg, Int.reduceToNat, Int.reduceMul, Int.reduceAdd, Int.reduceSub, Int.reducePow, Int.reduceFDiv, reduceCtorEq, reduceIte, length_encAddr]
  refine ⟨by kernel_rfl, by kernel_rfl, ?_⟩
  refine dstep_call (adCompare_calls p q (h := h ++ [.cells (encAddr p).toArray 0 true, .cells (encAddr q).toArray 0 true]) (at_new0 _ _) (at_new _ _ 1)) pres_refl ?_
  simp (implicitDefEqProofs := false) (maxSteps := 2000000) only [go_sem, Nat.reduceAdd, Nat.reduceSub, Nat.reduceMul, Nat.reduceLT, Nat.reduceLeDiff, Nat.reduceEqDiff, Nat.reduceBEq, Nat.reduceBNe, Nat.reducePow, Int.reduceBEq, Int.reduceBNe, Int.reduceEq, Int.reduceLT, Int.reduceLE, Int.reduceNeg, Int.reduceToNat, Int.reduceMul, Int.reduceAdd, Int.reduceSub, Int.reducePow, Int.reduceFDiv, reduceCtorEq, reduceIte]
  exact apost_tmp rfl rfl ⟨rfl, rfl⟩ _ _ rfl
set_option maxHeartbeats 4000000 in
theorem wcmp_calls (a b : Word4) (h : AH) :
    ACalls Try.prog 59 #[.agg (encWord a).toArray, .agg (encWord b).toArray] h (fun v h' => v = .int .i64 (sgn (valW a) (valW b)) ∧ h' = h) := by
  refine ACalls.of_ay Try.func59 rfl Try.ntmps59 ⟨_, _, rfl, rfl⟩ ?_; simp only [List.length_cons, List.length_nil, Nat.reduceAdd, Nat.reduceSub, List.replicate_succ, List.replicate_zero, List.cons_append, List.nil_append]
  simp (implicitDefEqProofs := false) (maxSteps := 2000000) only [go_sem, Nat.reduceAdd, Nat.reduceSub, Nat.reduceMul, Nat.reduceLT, Nat.reduceLeDiff, Nat.reduceEqDiff, Nat.reduceBEq, Nat.reduceBNe, Nat.reducePow, Int.reduceBEq, Int.reduceBNe, Int.reduceEq, Int.reduceLT, Int.reduceLE, Int.reduceNeg, Int.reduceToNat, Int.reduceMul, Int.reduceAdd, Int.reduceSub, Int.reducePow, Int.reduceFDiv, reduceCtorEq, reduceIte, length_encWord]
  refine astep_call (wsub_calls a b _) ?_
  have hbw := sb_borrow a b
  by_cases h1 : valW a < valW b
  · have e : ((((sb a b 4).2.toNat : Nat) : Int) != 0) = true := by simp; omega
    have e2 : sgn (valW a) (valW b) = -1 := by unfold sgn; rw [if_pos h1]
    simp (implicitDefEqProofs := false) (maxSteps := 2000000) only [go_sem, Nat.reduceAdd, Nat.reduceSub, Nat.reduceMul, Nat.reduceLT, Nat.reduceLeDiff, Nat.reduceEqDiff, Nat.reduceBEq, Nat.reduceBNe, Nat.reducePow, Int.reduceBEq, Int.reduceBNe, Int.reduceEq, Int.reduceLT, Int.reduceLE, Int.reduceNeg, Int.reduceToNat, Int.reduceMul, Int.reduceAdd, Int.reduceSub, Int.reducePow, Int.reduceFDiv, reduceCtorEq, reduceIte, length_encWord, e]
    rw [e2]
    exact apost_tmp rfl rfl ⟨rfl, rfl⟩ _ _ rfl
  · have e : ((((sb a b 4).2.toNat : Nat) : Int) != 0) = false := by simp; omega
    by_cases h2 : a = b
    · have e2 : sgn (valW a) (valW b) = 0 := by rw [h2]; exact sgn_self _
      have e3 : decide (a = b) = true := decide_eq_true h2
      simp (implicitDefEqProofs := false) (maxSteps := 2000000) only [go_sem, Nat.reduceAdd, Nat.reduceSub, Nat.reduceMul, Nat.reduceLT, Nat.reduceLeDiff, Nat.reduceEqDiff, Nat.reduceBEq, Nat.reduceBNe, Nat.reducePow, Int.reduceBEq, Int.reduceBNe, Int.reduceEq, Int.reduceLT, Int.reduceLE, Int.reduceNeg, Int.reduceToNat, Int.reduceMul, Int.reduceAdd, Int.reduceSub, Int.reducePow, Int.reduceFDiv, reduceCtorEq, reduceIte, length_encWord, e, e3]
      rw [e2]
      exact apost_tmp rfl rfl ⟨rfl, rfl⟩ _ _ rfl
    · have h3 : valW a ≠ valW b := fun e => h2 (valW_inj e)
      have e2 : sgn (valW a) (valW b) = 1 := by unfold sgn; rw [if_neg h1, if_pos (by omega)]
      have e3 : decide (a = b) = false := decide_eq_false h2
      simp (implicitDefEqProofs := false) (maxSteps := 2000000) only [go_sem, Nat.reduceAdd, Nat.reduceSub, Nat.reduceMul, Nat.reduceLT, Nat.reduceLeDiff, Nat.reduceEqDiff, Nat.reduceBEq, Nat.reduceBNe, Nat.reducePow, Int.reduceBEq, Int.reduceBNe, Int.reduceEq, Int.reduceLT, Int.reduceLE, Int.reduceNeg, Int.reduceToNat, Int.reduceMul, Int.reduceAdd, Int.reduceSub, Int.reducePow, Int.reduceFDiv, reduceCtorEq, reduceIte, length_encWord, e, e3]
      rw [e2]
      exact apost_tmp rfl rfl ⟨rfl, rfl⟩ _ _ rfl
set_option maxHeartbeats 4000000 in
theorem cor2_calls (x y : Int) {b es : Nat} {h : AH} (hb : h[b]? = some (.cells #[.int .i64 x, .int .i64 y] es true)) : ACalls Try.prog 58 #[.slice (some ⟨b, 0, none⟩) 2 2] h (fun v h' => v = .int .i64 (if x ≠ 0 then x else y) ∧ h' = h) := by
  refine ACalls.of_ay Try.func58 rfl Try.ntmps58 ⟨_, _, rfl, rfl⟩ ?_; simp only [List.length_cons, List.length_nil, Nat.reduceAdd, Nat.reduceSub, List.replicate_succ, List.replicate_zero, List.cons_append, List.nil_append]
  simp (implicitDefEqProofs := false) (maxSteps := 2000000) only [go_sem, Nat.reduceAdd, Nat.reduceSub, Nat.reduceMul, Nat.reduceLT, Nat.reduceLeDiff, Nat.reduceEqDiff, Nat.reduceBEq, Nat.reduceBNe, Nat.reducePow, Int.reduceBEq, Int.reduceBNe, Int.reduceEq, Int.reduceLT, Int.reduceLE, Int.reduceNeg, Int.reduceToNat, Int.reduceMul, Int.reduceAdd, Int.reduceSub, Int.reducePow, Int.reduceFDiv, reduceCtorEq, reduceIte, hb]
  refine AWP.rounds 3 ?_
  have i1 : IntKind.i64.wrap (0 + 1) = 1 := rfl
  have i2 : IntKind.i64.wrap (1 + 1) = 2 := rfl
  by_cases hx : x = 0
  · subst hx
    by_cases hy : y = 0
    · subst hy
      simp (implicitDefEqProofs := false) (maxSteps := 2000000) only [go_sem, Nat.reduceAdd, Nat.reduceSub, Nat.reduceMul, Nat.reduceLT, Nat.reduceLeDiff, Nat.reduceEqDiff, Nat.reduceBEq, Nat.reduceBNe, Nat.reducePow, Int.reduceBEq, Int.reduceBNe, Int.reduceEq, Int.reduceLT, Int.reduceLE, Int.reduceNeg, Int.reduceToNat, Int.reduceMul, Int.reduceAdd, Int.reduceSub, Int.reducePow, Int.reduceFDiv, reduceCtorEq, reduceIte, hb, aRounds, i1, i2, Nat.reduceMod]
      exact apost_tmp0 rfl rfl ⟨rfl, rfl⟩ _ rfl
    · have ey : (y != 0) = true := by simpa using hy
      simp (implicitDefEqProofs := false) (maxSteps := 2000000) only [go_sem, Nat.reduceAdd, Nat.reduceSub, Nat.reduceMul, Nat.reduceLT, Nat.reduceLeDiff, Nat.reduceEqDiff, Nat.reduceBEq, Nat.reduceBNe, Nat.reducePow, Int.reduceBEq, Int.reduceBNe, Int.reduceEq, Int.reduceLT, Int.reduceLE, Int.reduceNeg, Int.reduceToNat, Int.reduceMul, Int.reduceAdd, Int.reduceSub, Int.reducePow, Int.reduceFDiv, reduceCtorEq, reduceIte, hb, aRounds, i1, i2, ey]
      exact apost_tmp0 (v := .int .i64 y) rfl rfl ⟨by simp, rfl⟩ _ rfl
  · have ex : (x != 0) = true := by simpa using hx
    simp (implicitDefEqProofs := false) (maxSteps := 2000000) only [go_sem, Nat.reduceAdd, Nat.reduceSub, Nat.reduceMul, Nat.reduceLT, Nat.reduceLeDiff, Nat.reduceEqDiff, Nat.reduceBEq, Nat.reduceBNe, Nat.reducePow, Int.reduceBEq, Int.reduceBNe, Int.reduceEq, Int.reduceLT, Int.reduceLE, Int.reduceNeg, Int.reduceToNat, Int.reduceMul, Int.reduceAdd, Int.reduceSub, Int.reducePow, Int.reduceFDiv, reduceCtorEq, reduceIte, hb, aRounds, i1, i2, ex]
    exact apost_tmp0 (v := .int .i64 x) rfl rfl ⟨by simp [hx], rfl⟩ _ rfl
theorem part_addr (p : Plc) : (encPlc p).toArray.extract 0 20 = (encAddr p.addr).toArray := by
  have := mid_part (a := []) (b := encAddr p.addr) (c := encWord p.key) (n := 0) (m := 20) rfl (length_encAddr _)
  rw [← this]; simp [encPlc]
theorem part_key (p : Plc) : (encPlc p).toArray.extract 20 24 = (encWord p.key).toArray := by
  have := mid_part (a := encAddr p.addr) (b := encWord p.key) (c := []) (n := 20) (m := 4) (length_encAddr _) (length_encWord _)
  rw [← this]; simp [encPlc]
attribute [go_sem] part_addr part_key
set_option maxHeartbeats 4000000 in
theorem pcompare_calls (p q : Plc) (h : AH) : ACalls Try.prog 35 #[.agg (encPlc p).toArray, .agg (encPlc q).toArray] h (fun v h' => v = .int .i64 (sgn p.rank q.rank) ∧ h' = h) := by
  refine ACalls.of_ay Try.func35 rfl Try.ntmps35 ⟨_, _, rfl, rfl⟩ ?_; simp only [List.length_cons, List.length_nil, Nat.reduceAdd, Nat.reduceSub, List.replicate_succ, List.replicate_zero, List.cons_append, List.nil_append]
  simp (implicitDefEqProofs := false) (maxSteps := 2000000) only [go_sem, Nat.reduceAdd, Nat.reduceSub, Nat.reduceMul, Nat.reduceLT, Nat.reduceLeDiff, Nat.reduceEqDiff, Nat.reduceBEq, Nat.reduceBNe, Nat.reducePow, Int.reduceBEq, Int.reduceBNe, Int.reduceEq, Int.reduceLT, Int.reduceLE, Int.reduceNeg, Int.reduceToNat, Int.reduceMul, Int.reduceAdd, Int.reduceSub, Int.reducePow, Int.reduceFDiv, reduceCtorEq, reduceIte]
  refine ⟨by kernel_rfl, by kernel_rfl, ?_⟩
  refine dstep_call (scompare_calls _ _ _) pres_refl ?_
  simp (implicitDefEqProofs := false) (maxSteps := 2000000) only [go_sem, Nat.reduceAdd, Nat.reduceSub, Nat.reduceMul, Nat.reduceLT, Nat.reduceLeDiff, Nat.reduceEqDiff, Nat.reduceBEq, Nat.reduceBNe, Nat.reducePow, Int.reduceBEq, Int.reduceBNe, Int.reduceEq, Int.reduceLT, Int.reduceLE, Int.reduceNeg, Int.reduceToNat, Int.reduceMul, Int.reduceAdd, Int.reduceSub, Int.reducePow, Int.reduceFDiv, reduceCtorEq, reduceIte]
  refine dstep_call (wcmp_calls _ _ _) pres_refl ?_
  simp (implicitDefEqProofs := false) (maxSteps := 2000000) only [go_sem, Nat.reduceAdd, Nat.reduceSub, Nat.reduceMul, Nat.reduceLT, Nat.reduceLeDiff, Nat.reduceEqDiff, Nat.reduceBEq, Nat.reduceBNe, Nat.reducePow, Int.reduceBEq, Int.reduceBNe, Int.reduceEq, Int.reduceLT, Int.reduceLE, Int.reduceNeg, Int.reduceToNat, Int.reduceMul, Int.reduceAdd, Int.reduceSub, Int.reducePow, Int.reduceFDiv, reduceCtorEq, reduceIte]
  refine dstep_call (cor2_calls _ _ (at_new _ _ 2)) (pres_pre (by simp [Pre])) ?_
  simp (implicitDefEqProofs := false) (maxSteps := 2000000) only [go_sem, Nat.reduceAdd, Nat.reduceSub, Nat.reduceMul, Nat.reduceLT, Nat.reduceLeDiff, Nat.reduceEqDiff, Nat.reduceBEq, Nat.reduceBNe, Nat.reducePow, Int.reduceBEq, Int.reduceBNe, Int.reduceEq, Int.reduceLT, Int.reduceLE, Int.reduceNeg, Int.reduceToNat, Int.reduceMul, Int.reduceAdd, Int.reduceSub, Int.reducePow, Int.reduceFDiv, reduceCtorEq, reduceIte]
  rw [← cmpPlc_eq]
  exact apost_tmp rfl rfl ⟨rfl, rfl⟩ _ _ rfl
end Go.Proofs

set_option linter.unusedSimpArgs false
set_option linter.unusedVariables false
set_option maxRecDepth 100000
/- rows that are collected -/
namespace Go.Proofs
open Go Go.Am
theorem get_appX {H : AH} {i : Nat} {x o : AObj} (h : H[i]? = some x) : (H ++ [o])[i]? = some x := by
  rw [List.getElem?_append_left (List.getElem?_eq_some_iff.1 h).1]; exact h
theorem get_setX {H : AH} {i j : Nat} {x o : AObj} (h : H[i]? = some x) (hne : j ≠ i) : (H.set j o)[i]? = some x := by
  rw [List.getElem?_set_ne hne]; exact h
theorem storable_outV {α : Type} (b : Nat) (l : List α) : storable (outV b l) = true := by cases l <;> rfl
end Go.Proofs

set_option linter.unusedSimpArgs false
set_option linter.unusedVariables false
set_option maxRecDepth 100000
/- keys of maps, collected -/
namespace Go.Proofs
open Go Go.Am
abbrev ItOkP (K : FuncId) (bx b clock : Nat) (es : Array MapEntry) : Prop :=
  ∀ (hh : AH), hh[bx]? = some (.cells #[.map (some b)] 0 true) → hh[b]? = some (.map 78 es clock) → ∀ (Y : YRel) (I : List MapEntry → AObj → AH → Prop), I [] (miterO b clock []) (hh ++ [miterO b clock []]) →
      (∀ pre it H, I pre it H → H[hh.length]? = some it ∧ H[b]? = some (.map 78 es clock)) → (∀ pre it it' H, I pre it H → I pre it' (H.set hh.length it')) → (∀ pre it H o, I pre it H → I pre it (H ++ [o])) →
      (∀ pre it (e : MapEntry) (x : Plc) H (K : Option Code → AH → Prop), I pre it H → e ∈ es.toList → e.key = keyPlc x → pre.length < es.size → (∀ H', I (pre ++ [e]) it H' → K none H') → Y #[.agg (encPlc x).toArray] H K) →
      AIter Try.prog K #[.pointer (some ⟨bx, 0, none⟩)] hh Y (fun H st => st = none ∧ ∃ pre it, I pre it H ∧ pre.Perm es.toList)
set_option maxHeartbeats 4000000 in
theorem keysP_calls (b : Nat) (h : AH) (hb : b < h.length) : ACalls Try.prog 34 #[.map (some b)] h (fun v h' => v = .func (.func 57) #[] #[.pointer (some ⟨h.length, 0, none⟩)] ∧ h' = h ++ [.cells #[.map (some b)] 0 true]) := by
  refine ACalls.of_ay Try.func34 rfl Try.ntmps34 ⟨_, _, rfl, rfl⟩ ?_; simp only [List.length_cons, List.length_nil, Nat.reduceAdd, Nat.reduceSub, List.replicate_succ, List.replicate_zero, List.cons_append, List.nil_append]
  simp (implicitDefEqProofs := false) (maxSteps := 2000000) only [go_sem, Nat.reduceAdd, Nat.reduceSub, Nat.reduceMul, Nat.reduceLT, Nat.reduceLeDiff, Nat.reduceEqDiff, Nat.reduceBEq, Nat.reduceBNe, Nat.reducePow, Int.reduceBEq, Int.reduceBNe, Int.reduceEq, Int.reduceLT, Int.reduceLE, Int.reduceNeg, Int.reduceToNat, Int.reduceMul, Int.reduceAdd, Int.reduceSub, Int.reducePow, Int.reduceFDiv, reduceCtorEq, reduceIte]
  have ho : ORen id (h.length + 1) (.cells #[.map (some b)] 0 true) (.cells #[.map (some b)] 0 true) := ⟨_, rfl, rfl, fun i => by
    cases i with
    | zero => exact .map _ _ (by omega) rfl
    | succ i => simp [Array.getD]; exact .junk _⟩
  exact apost_keep rfl (.func _ _ _ _ _ rfl rfl (fun i => by simp; exact .junk _) rfl (fun i => by
    cases i with
    | zero => exact .ptr _ _ _ (by simp) rfl
    | succ i => simp; exact .junk _)) ho ⟨rfl, rfl⟩ _ rfl
set_option maxHeartbeats 4000000 in
theorem keysP_it {bx b clock : Nat} {es : Array MapEntry} (ok : MapOk Try.prog 78 es.toList clock) (hk : ∀ e ∈ es.toList, ∃ x : Plc, e.key = keyPlc x) : ItOkP 57 bx b clock es := by
  intro h hbx hb Y I h0 hat hset happ hY
  refine AIter.of_ayI Try.func57 rfl rfl Try.ntmps57 (by decide) ?_
  simp only [List.length_cons, List.length_nil, Nat.reduceAdd, Nat.reduceSub, List.replicate_succ, List.replicate_zero, List.cons_append, List.nil_append]
  have hr : amRange Try.prog h 67 (.map (some b)) = some (.pointer (some ⟨h.length, 0, none⟩), h ++ [.miter (some b) clock #[] clock]) := amRangeM Try.underlying67 hb
  simp (implicitDefEqProofs := false) (maxSteps := 2000000) only [go_sem, Nat.reduceAdd, Nat.reduceSub, Nat.reduceMul, Nat.reduceLT, Nat.reduceLeDiff, Nat.reduceEqDiff, Nat.reduceBEq, Nat.reduceBNe, Nat.reducePow, Int.reduceBEq, Int.reduceBNe, Int.reduceEq, Int.reduceLT, Int.reduceLE, Int.reduceNeg, Int.reduceToNat, Int.reduceMul, Int.reduceAdd, Int.reduceSub, Int.reducePow, Int.reduceFDiv, reduceCtorEq, reduceIte, hbx, hr]
  refine AWPI.loopI (fun p : List MapEntry => es.size - p.length) (fun _ => [junk, junk, junk, junk, junk, .pointer (some ⟨h.length, 0, none⟩), junk, junk, junk, junk, junk, junk, junk, junk]) [0] (fun p H => I p (miterO b clock p) H ∧ (∀ e ∈ p, e ∈ es.toList) ∧ (p.map (·.born)).Nodup) [] ⟨h0, by simp, by simp⟩ (fun t ht => ht) (by repeat (first | exact .nil | refine .same _ ?_ | refine .junk _ ?_)) ?_
  rintro p H ⟨hI, hsub, hnd⟩
  obtain ⟨hat1, hat2⟩ := hat _ _ _ hI
  have hn := amNextM hat1 hat2 ok
  simp (implicitDefEqProofs := false) (maxSteps := 2000000) only [go_sem, Nat.reduceAdd, Nat.reduceSub, Nat.reduceMul, Nat.reduceLT, Nat.reduceLeDiff, Nat.reduceEqDiff, Nat.reduceBEq, Nat.reduceBNe, Nat.reducePow, Int.reduceBEq, Int.reduceBNe, Int.reduceEq, Int.reduceLT, Int.reduceLE, Int.reduceNeg, Int.reduceToNat, Int.reduceMul, Int.reduceAdd, Int.reduceSub, Int.reducePow, Int.reduceFDiv, reduceCtorEq, reduceIte, hn]
  intro v H1 hv
  rcases hv with ⟨hz, hv, hH⟩ | ⟨e, he, hv, hH⟩
  · subst hH
    simp (implicitDefEqProofs := false) (maxSteps := 2000000) only [go_sem, Nat.reduceAdd, Nat.reduceSub, Nat.reduceMul, Nat.reduceLT, Nat.reduceLeDiff, Nat.reduceEqDiff, Nat.reduceBEq, Nat.reduceBNe, Nat.reducePow, Int.reduceBEq, Int.reduceBNe, Int.reduceEq, Int.reduceLT, Int.reduceLE, Int.reduceNeg, Int.reduceToNat, Int.reduceMul, Int.reduceAdd, Int.reduceSub, Int.reducePow, Int.reduceFDiv, reduceCtorEq, reduceIte, hv]
    exact ⟨p, _, hI, left_done ok hsub hnd hz⟩
  · obtain ⟨hes, hne⟩ := left_mem he
    obtain ⟨x, hx⟩ := hk e hes
    rw [miter_push] at hH
    have hI2 : I p (miterO b clock (p ++ [e])) H1 := by rw [hH]; exact hset _ _ _ _ hI
    obtain ⟨hat3, hat4⟩ := hat _ _ _ hI2
    have hent := entryOfM hat3 hat4 ok hes
    have hlen : p.length < es.size := by
      have h2 : ((p ++ [e]).map (·.born)).Nodup := by
        rw [List.map_append, List.nodup_append]
        refine ⟨hnd, by simp, fun a ha b hb => ?_⟩
        simp only [List.map_cons, List.map_nil, List.mem_singleton] at hb
        subst hb
        intro hab; subst hab; exact hne ha
      have h3 := nodup_len h2 (m := es.toList.map (·.born)) (by
        intro y hy
        obtain ⟨z, hz, rfl⟩ := List.mem_map.1 hy
        rcases List.mem_append.1 hz with hz | hz
        · exact List.mem_map_of_mem (hsub z hz)
        · rw [List.mem_singleton] at hz; subst hz; exact List.mem_map_of_mem hes)
      simp at h3; omega
    rw [hx] at hv hent
    unfold keyPlc at hv hent
    simp (implicitDefEqProofs := false) (maxSteps := 2000000) only [go_sem, Nat.reduceAdd, Nat.reduceSub, Nat.reduceMul, Nat.reduceLT, Nat.reduceLeDiff, Nat.reduceEqDiff, Nat.reduceBEq, Nat.reduceBNe, Nat.reducePow, Int.reduceBEq, Int.reduceBNe, Int.reduceEq, Int.reduceLT, Int.reduceLE, Int.reduceNeg, Int.reduceToNat, Int.reduceMul, Int.reduceAdd, Int.reduceSub, Int.reducePow, Int.reduceFDiv, reduceCtorEq, reduceIte, hv, hent]
    refine hY p _ e x _ _ (happ _ _ _ _ hI2) hes hx hlen ?_
    intro H' hI'
    simp (implicitDefEqProofs := false) (maxSteps := 2000000) only [go_sem, Nat.reduceAdd, Nat.reduceSub, Nat.reduceMul, Nat.reduceLT, Nat.reduceLeDiff, Nat.reduceEqDiff, Nat.reduceBEq, Nat.reduceBNe, Nat.reducePow, Int.reduceBEq, Int.reduceBNe, Int.reduceEq, Int.reduceLT, Int.reduceLE, Int.reduceNeg, Int.reduceToNat, Int.reduceMul, Int.reduceAdd, Int.reduceSub, Int.reducePow, Int.reduceFDiv, reduceCtorEq, reduceIte]
    refine ⟨p ++ [e], by simp; omega, ⟨hI', fun z hz => ?_, ?_⟩, by simp, _, rfl, by repeat (first | exact .nil | refine .same _ ?_ | refine .junk _ ?_)⟩
    · rcases List.mem_append.1 hz with hz | hz
      · exact hsub z hz
      · rw [List.mem_singleton] at hz; subst hz; exact hes
    · rw [List.map_append, List.nodup_append]
      refine ⟨hnd, by simp, fun a ha b hb => ?_⟩
      simp only [List.map_cons, List.map_nil, List.mem_singleton] at hb
      subst hb
      intro hab; subst hab; exact hne ha
/-- collected so far -/
structure GathP (h : AH) (q0 b clock : Nat) (es : Array MapEntry) (l0 : List Plc) (pre : List MapEntry) (it : AObj) (H : AH) (q : Nat) (l : List Plc) : Prop where
  rest : Am.Rest [q0] h H
  box : H[h.length]? = some (.cells #[outV q (l0 ++ l)] 0 true)
  itr : H[h.length + 1]? = some it
  row : H[q]? = some (outO encPlc 24 (l0 ++ l))
  ne : q ≠ h.length ∧ q ≠ h.length + 1
  new : q = q0 ∨ h.length ≤ q
  keys : l.map keyPlc = pre.map (·.key)
theorem keysOfP {es : Array MapEntry} (hk : ∀ e ∈ es.toList, ∃ x : Plc, e.key = keyPlc x) : ∃ l : List Plc, l.map keyPlc = es.toList.map (·.key) := by
  generalize es.toList = el at hk
  induction el with
  | nil => exact ⟨[], rfl⟩
  | cons e el ih =>
    obtain ⟨l, hl⟩ := ih fun e' he' => hk e' (List.mem_cons_of_mem _ he')
    obtain ⟨x, hx⟩ := hk e (by simp)
    exact ⟨x :: l, by simp [hl, hx]⟩
set_option maxHeartbeats 4000000 in
theorem appendSeqP_calls (K : FuncId) (hK : hasBody Try.prog K = true) {h : AH} {bx b clock q0 : Nat} {es : Array MapEntry} {l0 : List Plc} (hbx : h[bx]? = some (.cells #[.map (some b)] 0 true)) (hb : h[b]? = some (.map 78 es clock)) (hsz : l0.length + es.size < 2 ^ 30) (hk : ∀ e ∈ es.toList, ∃ x : Plc, e.key = keyPlc x)
    (h0 : h[q0]? = some (outO encPlc 24 l0)) (hit : ItOkP K bx b clock es) :
    ACalls Try.prog 71 #[outV q0 l0, .func (.func K) #[] #[.pointer (some ⟨bx, 0, none⟩)]] h (fun v h' => ∃ q l, v = outV q (l0 ++ l) ∧ h'[q]? = some (outO encPlc 24 (l0 ++ l)) ∧ (l.map keyPlc).Perm (es.toList.map (·.key)) ∧ Am.Rest [q0] h h' ∧ (q = q0 ∨ h.length ≤ q)) := by
  obtain ⟨lw, hlw⟩ := keysOfP hk
  have hq0 : q0 < h.length := (List.getElem?_eq_some_iff.1 h0).1
  have hbl : b < h.length := (List.getElem?_eq_some_iff.1 hb).1
  have hbxl : bx < h.length := (List.getElem?_eq_some_iff.1 hbx).1
  have hb0 : b ≠ q0 := fun e => by rw [e, h0] at hb; cases l0 <;> simp [outO] at hb
  have hbx0 : bx ≠ q0 := fun e => by rw [e, h0] at hbx; cases l0 <;> simp [outO] at hbx
  refine ACalls.of_ay Try.func71 rfl Try.ntmps71 ⟨outV q0 (l0 ++ lw), h.set q0 (outO encPlc 24 (l0 ++ lw)), q0, lw, rfl, List.getElem?_set_self hq0, by rw [hlw], Rest.set (by simp), .inl rfl⟩ ?_; simp only [List.length_cons, List.length_nil, Nat.reduceAdd, Nat.reduceSub, List.replicate_succ, List.replicate_zero, List.cons_append, List.nil_append]
  have hbox : abox h (outV q0 l0) = some (.pointer (some ⟨h.length, 0, none⟩), h ++ [.cells #[outV q0 l0] 0 true]) := by cases l0 <;> rfl
  simp (implicitDefEqProofs := false) (maxSteps := 2000000) only [go_sem, Nat.reduceAdd, Nat.reduceSub, Nat.reduceMul, Nat.reduceLT, Nat.reduceLeDiff, Nat.reduceEqDiff, Nat.reduceBEq, Nat.reduceBNe, Nat.reducePow, Int.reduceBEq, Int.reduceBNe, Int.reduceEq, Int.reduceLT, Int.reduceLE, Int.reduceNeg, Int.reduceToNat, Int.reduceMul, Int.reduceAdd, Int.reduceSub, Int.reducePow, Int.reduceFDiv, reduceCtorEq, reduceIte, hbox]
  refine AWP.rangeFunc (K := K) (caps := #[.pointer (some ⟨bx, 0, none⟩)]) (by simp only [aeval_tmp, getD_lit, List.getD_cons_succ, List.getD_cons_zero]) hK (hit _ (at_old hbx _) (at_old hb _) _ (fun pre it H => ∃ q l, GathP h q0 b clock es l0 pre it H q l) ⟨q0, [], ?_⟩ ?_ ?_ ?_ ?_) ?_
  · refine ⟨?_, by simp, by simp, ?_, by omega, .inl rfl, rfl⟩
    · rw [List.append_assoc]; exact Rest.app
    · rw [List.append_assoc, List.getElem?_append_left hq0, List.append_nil]; exact h0
  · rintro pre it H ⟨q, l, g⟩
    refine ⟨by simpa using g.itr, g.rest.same _ _ hb rfl (by simpa using hb0)⟩
  · rintro pre it it' H ⟨q, l, g⟩
    have e : (h ++ [AObj.cells #[outV q0 l0] 0 true]).length = h.length + 1 := by simp
    rw [e]
    have hlt : h.length + 1 < H.length := (List.getElem?_eq_some_iff.1 g.itr).1
    exact ⟨q, l, (g.rest.trans (Rest.set (O := [q0, h.length + 1]) (b := h.length + 1) (o := it') (by simp)) (Gets.far (by simp))).cut (by simp), get_setX g.box (by omega), List.getElem?_set_self hlt, get_setX g.row (fun e => g.ne.2 e.symm), g.ne, g.new, g.keys⟩
  · rintro pre it H o ⟨q, l, g⟩
    exact ⟨q, l, g.rest.trans (Rest.app (O := [q0])) (Gets.refl _ _), get_appX g.box, get_appX g.itr, get_appX g.row, g.ne, g.new, g.keys⟩
  · rintro pre it e x H K' ⟨q, l, g⟩ he hx hlen hK'
    refine roundY_of_ay rfl ?_
    rw [fold1]
    have hll : l.length = pre.length := by have := congrArg List.length g.keys; simpa using this
    have hbx1 := at_old g.box
    have hrow1 := at_old g.row
    obtain ⟨q', H', happ, hrow', hold', hlen', hq'⟩ := mkApp_outs (g := true) (by_ := 56) (l2 := [x]) (hrow1 [.cells (encPlc x).toArray 0 true, .cells (encPlc x).toArray 24 true]) length_encPlc ⟨by simp; omega, by simp; omega⟩
    rw [flatV_one, List.length_singleton] at happ
    have hHl : h.length < H.length := (List.getElem?_eq_some_iff.1 g.box).1
    have hHl1 : h.length + 1 < H.length := (List.getElem?_eq_some_iff.1 g.itr).1
    have hbox2 : H'[h.length]? = some (.cells #[outV q (l0 ++ l)] 0 true) := by rw [hold' _ (fun e => g.ne.1 e.symm) (by simp; omega)]; exact hbx1 _
    simp (implicitDefEqProofs := false) (maxSteps := 2000000) only [go_sem, Nat.reduceAdd, Nat.reduceSub, Nat.reduceMul, Nat.reduceLT, Nat.reduceLeDiff, Nat.reduceEqDiff, Nat.reduceBEq, Nat.reduceBNe, Nat.reducePow, Int.reduceBEq, Int.reduceBNe, Int.reduceEq, Int.reduceLT, Int.reduceLE, Int.reduceNeg, Int.reduceToNat, Int.reduceMul, Int.reduceAdd, Int.reduceSub, Int.reducePow, Int.reduceFDiv, reduceCtorEq, reduceIte, hbx1, hrow1, size_zeros, happ, hbox2, storable_outV]
    refine roundQ_normal (hK' _ ⟨q', l ++ [x], ⟨?_, ?_, ?_, ?_, ?_, ?_, by simp [g.keys, hx]⟩⟩)
    · refine ((g.rest.trans (Rest.app (O := [q0]) (t := [.cells (encPlc x).toArray 0 true, .cells (encPlc x).toArray 24 true])) (Gets.refl _ _)).trans (O' := [q, h.length]) ⟨?_, ?_⟩ (Gets.far ?_)).cut (O' := [q0]) (by simp)
      · intro i o hi ha hn
        simp only [List.mem_cons, List.not_mem_nil, or_false, not_or] at hn
        rw [List.getElem?_set_ne (fun e => hn.2 e.symm), hold' i hn.1 (List.getElem?_eq_some_iff.1 hi).1]; exact hi
      · simp only [List.length_set]; exact hlen'
      · intro i hi
        simp only [List.mem_cons, List.not_mem_nil, or_false] at hi
        rcases hi with rfl | rfl
        · rcases g.new with e | e
          · exact .inl (by simp [e])
          · exact .inr e
        · exact .inr (Nat.le_refl _)
    · rw [← List.append_assoc, List.getElem?_set_self (by simp only [List.length_append, List.length_cons, List.length_nil] at hlen'; omega)]
    · rw [List.getElem?_set_ne (by omega), hold' _ (fun e => g.ne.2 e.symm) (by simp; omega)]; exact at_old g.itr _
    · rw [← List.append_assoc]
      refine get_setX hrow' ?_
      rcases hq' with e | e
      · rw [e]; exact fun e => g.ne.1 e.symm
      · rw [e]; simp; omega
    · rcases hq' with e | e
      · rw [e]; exact g.ne
      · rw [e]; simp; omega
    · rcases hq' with e | e
      · rw [e]; exact g.new
      · rw [e]; simp; omega
  · rintro H1 st ⟨rfl, pre, it, ⟨q, l, g⟩, hperm⟩
    have hb2 := g.box
    simp (implicitDefEqProofs := false) (maxSteps := 2000000) only [go_sem, Nat.reduceAdd, Nat.reduceSub, Nat.reduceMul, Nat.reduceLT, Nat.reduceLeDiff, Nat.reduceEqDiff, Nat.reduceBEq, Nat.reduceBNe, Nat.reducePow, Int.reduceBEq, Int.reduceBNe, Int.reduceEq, Int.reduceLT, Int.reduceLE, Int.reduceNeg, Int.reduceToNat, Int.reduceMul, Int.reduceAdd, Int.reduceSub, Int.reducePow, Int.reduceFDiv, reduceCtorEq, reduceIte, hb2]
    refine ⟨outV q (l0 ++ l), outV q (l0 ++ l), _, by rw [aresults_tmp rfl, getD_lit]; rfl, Eases.refl, q, l, rfl, g.row, ?_, g.rest, g.new⟩
    rw [g.keys]
    exact hperm.map _
end Go.Proofs

set_option linter.unusedSimpArgs false
set_option linter.unusedVariables false
set_option maxRecDepth 100000
/- keys of maps, collected -/
namespace Go.Proofs
open Go Go.Am
abbrev ItOkA (K : FuncId) (bx b clock : Nat) (es : Array MapEntry) : Prop :=
  ∀ (hh : AH), hh[bx]? = some (.cells #[.map (some b)] 0 true) → hh[b]? = some (.map 26 es clock) → ∀ (Y : YRel) (I : List MapEntry → AObj → AH → Prop), I [] (miterO b clock []) (hh ++ [miterO b clock []]) →
      (∀ pre it H, I pre it H → H[hh.length]? = some it ∧ H[b]? = some (.map 26 es clock)) → (∀ pre it it' H, I pre it H → I pre it' (H.set hh.length it')) → (∀ pre it H o, I pre it H → I pre it (H ++ [o])) →
      (∀ pre it (e : MapEntry) (x : Addr20) H (K : Option Code → AH → Prop), I pre it H → e ∈ es.toList → e.key = keyAddr x → pre.length < es.size → (∀ H', I (pre ++ [e]) it H' → K none H') → Y #[.agg (encAddr x).toArray] H K) →
      AIter Try.prog K #[.pointer (some ⟨bx, 0, none⟩)] hh Y (fun H st => st = none ∧ ∃ pre it, I pre it H ∧ pre.Perm es.toList)
set_option maxHeartbeats 4000000 in
theorem keysA_calls (b : Nat) (h : AH) (hb : b < h.length) : ACalls Try.prog 38 #[.map (some b)] h (fun v h' => v = .func (.func 60) #[] #[.pointer (some ⟨h.length, 0, none⟩)] ∧ h' = h ++ [.cells #[.map (some b)] 0 true]) := by
  refine ACalls.of_ay Try.func38 rfl Try.ntmps38 ⟨_, _, rfl, rfl⟩ ?_; simp only [List.length_cons, List.length_nil, Nat.reduceAdd, Nat.reduceSub, List.replicate_succ, List.replicate_zero, List.cons_append, List.nil_append]
  simp (implicitDefEqProofs := false) (maxSteps := 2000000) only [go_sem, Nat.reduceAdd, Nat.reduceSub, Nat.reduceMul, Nat.reduceLT, Nat.reduceLeDiff, Nat.reduceEqDiff, Nat.reduceBEq, Nat.reduceBNe, Nat.reducePow, Int.reduceBEq, Int.reduceBNe, Int.reduceEq, Int.reduceLT, Int.reduceLE, Int.reduceNeg, Int.reduceToNat, Int.reduceMul, Int.reduceAdd, Int.reduceSub, Int.reducePow, Int.reduceFDiv, reduceCtorEq, reduceIte]
  have ho : ORen id (h.length + 1) (.cells #[.map (some b)] 0 true) (.cells #[.map (some b)] 0 true) := ⟨_, rfl, rfl, fun i => by
    cases i with
    | zero => exact .map _ _ (by omega) rfl
    | succ i => simp [Array.getD]; exact .junk _⟩
  exact apost_keep rfl (.func _ _ _ _ _ rfl rfl (fun i => by simp; exact .junk _) rfl (fun i => by
    cases i with
    | zero => exact .ptr _ _ _ (by simp) rfl
    | succ i => simp; exact .junk _)) ho ⟨rfl, rfl⟩ _ rfl
set_option maxHeartbeats 4000000 in
theorem keysA_it {bx b clock : Nat} {es : Array MapEntry} (ok : MapOk Try.prog 26 es.toList clock) (hk : ∀ e ∈ es.toList, ∃ x : Addr20, e.key = keyAddr x) : ItOkA 60 bx b clock es := by
  intro h hbx hb Y I h0 hat hset happ hY
  refine AIter.of_ayI Try.func60 rfl rfl Try.ntmps60 (by decide) ?_
  simp only [List.length_cons, List.length_nil, Nat.reduceAdd, Nat.reduceSub, List.replicate_succ, List.replicate_zero, List.cons_append, List.nil_append]
  have hr : amRange Try.prog h 66 (.map (some b)) = some (.pointer (some ⟨h.length, 0, none⟩), h ++ [.miter (some b) clock #[] clock]) := amRangeM Try.underlying66 hb
  simp (implicitDefEqProofs := false) (maxSteps := 2000000) only [go_sem, Nat.reduceAdd, Nat.reduceSub, Nat.reduceMul, Nat.reduceLT, Nat.reduceLeDiff, Nat.reduceEqDiff, Nat.reduceBEq, Nat.reduceBNe, Nat.reducePow, Int.reduceBEq, Int.reduceBNe, Int.reduceEq, Int.reduceLT, Int.reduceLE, Int.reduceNeg, Int.reduceToNat, Int.reduceMul, Int.reduceAdd, Int.reduceSub, Int.reducePow, Int.reduceFDiv, reduceCtorEq, reduceIte, hbx, hr]
  refine AWPI.loopI (fun p : List MapEntry => es.size - p.length) (fun _ => [junk, junk, junk, junk, junk, .pointer (some ⟨h.length, 0, none⟩), junk, junk, junk, junk, junk, junk, junk, junk]) [0] (fun p H => I p (miterO b clock p) H ∧ (∀ e ∈ p, e ∈ es.toList) ∧ (p.map (·.born)).Nodup) [] ⟨h0, by simp, by simp⟩ (fun t ht => ht) (by repeat (first | exact .nil | refine .same _ ?_ | refine .junk _ ?_)) ?_
  rintro p H ⟨hI, hsub, hnd⟩
  obtain ⟨hat1, hat2⟩ := hat _ _ _ hI
  have hn := amNextM hat1 hat2 ok
  simp (implicitDefEqProofs := false) (maxSteps := 2000000) only [go_sem, Nat.reduceAdd, Nat.reduceSub, Nat.reduceMul, Nat.reduceLT, Nat.reduceLeDiff, Nat.reduceEqDiff, Nat.reduceBEq, Nat.reduceBNe, Nat.reducePow, Int.reduceBEq, Int.reduceBNe, Int.reduceEq, Int.reduceLT, Int.reduceLE, Int.reduceNeg, Int.reduceToNat, Int.reduceMul, Int.reduceAdd, Int.reduceSub, Int.reducePow, Int.reduceFDiv, reduceCtorEq, reduceIte, hn]
  intro v H1 hv
  rcases hv with ⟨hz, hv, hH⟩ | ⟨e, he, hv, hH⟩
  · subst hH
    simp (implicitDefEqProofs := false) (maxSteps := 2000000) only [go_sem, Nat.reduceAdd, Nat.reduceSub, Nat.reduceMul, Nat.reduceLT, Nat.reduceLeDiff, Nat.reduceEqDiff, Nat.reduceBEq, Nat.reduceBNe, Nat.reducePow, Int.reduceBEq, Int.reduceBNe, Int.reduceEq, Int.reduceLT, Int.reduceLE, Int.reduceNeg, Int.reduceToNat, Int.reduceMul, Int.reduceAdd, Int.reduceSub, Int.reducePow, Int.reduceFDiv, reduceCtorEq, reduceIte, hv]
    exact ⟨p, _, hI, left_done ok hsub hnd hz⟩
  · obtain ⟨hes, hne⟩ := left_mem he
    obtain ⟨x, hx⟩ := hk e hes
    rw [miter_push] at hH
    have hI2 : I p (miterO b clock (p ++ [e])) H1 := by rw [hH]; exact hset _ _ _ _ hI
    obtain ⟨hat3, hat4⟩ := hat _ _ _ hI2
    have hent := entryOfM hat3 hat4 ok hes
    have hlen : p.length < es.size := by
      have h2 : ((p ++ [e]).map (·.born)).Nodup := by
        rw [List.map_append, List.nodup_append]
        refine ⟨hnd, by simp, fun a ha b hb => ?_⟩
        simp only [List.map_cons, List.map_nil, List.mem_singleton] at hb
        subst hb
        intro hab; subst hab; exact hne ha
      have h3 := nodup_len h2 (m := es.toList.map (·.born)) (by
        intro y hy
        obtain ⟨z, hz, rfl⟩ := List.mem_map.1 hy
        rcases List.mem_append.1 hz with hz | hz
        · exact List.mem_map_of_mem (hsub z hz)
        · rw [List.mem_singleton] at hz; subst hz; exact List.mem_map_of_mem hes)
      simp at h3; omega
    rw [hx] at hv hent
    unfold keyAddr at hv hent
    simp (implicitDefEqProofs := false) (maxSteps := 2000000) only [go_sem, Nat.reduceAdd, Nat.reduceSub, Nat.reduceMul, Nat.reduceLT, Nat.reduceLeDiff, Nat.reduceEqDiff, Nat.reduceBEq, Nat.reduceBNe, Nat.reducePow, Int.reduceBEq, Int.reduceBNe, Int.reduceEq, Int.reduceLT, Int.reduceLE, Int.reduceNeg, Int.reduceToNat, Int.reduceMul, Int.reduceAdd, Int.reduceSub, Int.reducePow, Int.reduceFDiv, reduceCtorEq, reduceIte, hv, hent]
    refine hY p _ e x _ _ (happ _ _ _ _ hI2) hes hx hlen ?_
    intro H' hI'
    simp (implicitDefEqProofs := false) (maxSteps := 2000000) only [go_sem, Nat.reduceAdd, Nat.reduceSub, Nat.reduceMul, Nat.reduceLT, Nat.reduceLeDiff, Nat.reduceEqDiff, Nat.reduceBEq, Nat.reduceBNe, Nat.reducePow, Int.reduceBEq, Int.reduceBNe, Int.reduceEq, Int.reduceLT, Int.reduceLE, Int.reduceNeg, Int.reduceToNat, Int.reduceMul, Int.reduceAdd, Int.reduceSub, Int.reducePow, Int.reduceFDiv, reduceCtorEq, reduceIte]
    refine ⟨p ++ [e], by simp; omega, ⟨hI', fun z hz => ?_, ?_⟩, by simp, _, rfl, by repeat (first | exact .nil | refine .same _ ?_ | refine .junk _ ?_)⟩
    · rcases List.mem_append.1 hz with hz | hz
      · exact hsub z hz
      · rw [List.mem_singleton] at hz; subst hz; exact hes
    · rw [List.map_append, List.nodup_append]
      refine ⟨hnd, by simp, fun a ha b hb => ?_⟩
      simp only [List.map_cons, List.map_nil, List.mem_singleton] at hb
      subst hb
      intro hab; subst hab; exact hne ha
set_option maxHeartbeats 4000000 in
theorem keysO_calls (b : Nat) (h : AH) (hb : b < h.length) : ACalls Try.prog 39 #[.map (some b)] h (fun v h' => v = .func (.func 61) #[] #[.pointer (some ⟨h.length, 0, none⟩)] ∧ h' = h ++ [.cells #[.map (some b)] 0 true]) := by
  refine ACalls.of_ay Try.func39 rfl Try.ntmps39 ⟨_, _, rfl, rfl⟩ ?_; simp only [List.length_cons, List.length_nil, Nat.reduceAdd, Nat.reduceSub, List.replicate_succ, List.replicate_zero, List.cons_append, List.nil_append]
  simp (implicitDefEqProofs := false) (maxSteps := 2000000) only [go_sem, Nat.reduceAdd, Nat.reduceSub, Nat.reduceMul, Nat.reduceLT, Nat.reduceLeDiff, Nat.reduceEqDiff, Nat.reduceBEq, Nat.reduceBNe, Nat.reducePow, Int.reduceBEq, Int.reduceBNe, Int.reduceEq, Int.reduceLT, Int.reduceLE, Int.reduceNeg, Int.reduceToNat, Int.reduceMul, Int.reduceAdd, Int.reduceSub, Int.reducePow, Int.reduceFDiv, reduceCtorEq, reduceIte]
  have ho : ORen id (h.length + 1) (.cells #[.map (some b)] 0 true) (.cells #[.map (some b)] 0 true) := ⟨_, rfl, rfl, fun i => by
    cases i with
    | zero => exact .map _ _ (by omega) rfl
    | succ i => simp [Array.getD]; exact .junk _⟩
  exact apost_keep rfl (.func _ _ _ _ _ rfl rfl (fun i => by simp; exact .junk _) rfl (fun i => by
    cases i with
    | zero => exact .ptr _ _ _ (by simp) rfl
    | succ i => simp; exact .junk _)) ho ⟨rfl, rfl⟩ _ rfl
set_option maxHeartbeats 4000000 in
theorem keysO_it {bx b clock : Nat} {es : Array MapEntry} (ok : MapOk Try.prog 26 es.toList clock) (hk : ∀ e ∈ es.toList, ∃ x : Addr20, e.key = keyAddr x) : ItOkA 61 bx b clock es := by
  intro h hbx hb Y I h0 hat hset happ hY
  refine AIter.of_ayI Try.func61 rfl rfl Try.ntmps61 (by decide) ?_
  simp only [List.length_cons, List.length_nil, Nat.reduceAdd, Nat.reduceSub, List.replicate_succ, List.replicate_zero, List.cons_append, List.nil_append]
  have hr : amRange Try.prog h 79 (.map (some b)) = some (.pointer (some ⟨h.length, 0, none⟩), h ++ [.miter (some b) clock #[] clock]) := amRangeM Try.underlying79 hb
  simp (implicitDefEqProofs := false) (maxSteps := 2000000) only [go_sem, Nat.reduceAdd, Nat.reduceSub, Nat.reduceMul, Nat.reduceLT, Nat.reduceLeDiff, Nat.reduceEqDiff, Nat.reduceBEq, Nat.reduceBNe, Nat.reducePow, Int.reduceBEq, Int.reduceBNe, Int.reduceEq, Int.reduceLT, Int.reduceLE, Int.reduceNeg, Int.reduceToNat, Int.reduceMul, Int.reduceAdd, Int.reduceSub, Int.reducePow, Int.reduceFDiv, reduceCtorEq, reduceIte, hbx, hr]
  refine AWPI.loopI (fun p : List MapEntry => es.size - p.length) (fun _ => [junk, junk, junk, junk, junk, .pointer (some ⟨h.length, 0, none⟩), junk, junk, junk, junk, junk, junk, junk, junk]) [0] (fun p H => I p (miterO b clock p) H ∧ (∀ e ∈ p, e ∈ es.toList) ∧ (p.map (·.born)).Nodup) [] ⟨h0, by simp, by simp⟩ (fun t ht => ht) (by repeat (first | exact .nil | refine .same _ ?_ | refine .junk _ ?_)) ?_
  rintro p H ⟨hI, hsub, hnd⟩
  obtain ⟨hat1, hat2⟩ := hat _ _ _ hI
  have hn := amNextM hat1 hat2 ok
  simp (implicitDefEqProofs := false) (maxSteps := 2000000) only [go_sem, Nat.reduceAdd, Nat.reduceSub, Nat.reduceMul, Nat.reduceLT, Nat.reduceLeDiff, Nat.reduceEqDiff, Nat.reduceBEq, Nat.reduceBNe, Nat.reducePow, Int.reduceBEq, Int.reduceBNe, Int.reduceEq, Int.reduceLT, Int.reduceLE, Int.reduceNeg, Int.reduceToNat, Int.reduceMul, Int.reduceAdd, Int.reduceSub, Int.reducePow, Int.reduceFDiv, reduceCtorEq, reduceIte, hn]
  intro v H1 hv
  rcases hv with ⟨hz, hv, hH⟩ | ⟨e, he, hv, hH⟩
  · subst hH
    simp (implicitDefEqProofs := false) (maxSteps := 2000000) only [go_sem, Nat.reduceAdd, Nat.reduceSub, Nat.reduceMul, Nat.reduceLT, Nat.reduceLeDiff, Nat.reduceEqDiff, Nat.reduceBEq, Nat.reduceBNe, Nat.reducePow, Int.reduceBEq, Int.reduceBNe, Int.reduceEq, Int.reduceLT, Int.reduceLE, Int.reduceNeg, Int.reduceToNat, Int.reduceMul, Int.reduceAdd, Int.reduceSub, Int.reducePow, Int.reduceFDiv, reduceCtorEq, reduceIte, hv]
    exact ⟨p, _, hI, left_done ok hsub hnd hz⟩
  · obtain ⟨hes, hne⟩ := left_mem he
    obtain ⟨x, hx⟩ := hk e hes
    rw [miter_push] at hH
    have hI2 : I p (miterO b clock (p ++ [e])) H1 := by rw [hH]; exact hset _ _ _ _ hI
    obtain ⟨hat3, hat4⟩ := hat _ _ _ hI2
    have hent := entryOfM hat3 hat4 ok hes
    have hlen : p.length < es.size := by
      have h2 : ((p ++ [e]).map (·.born)).Nodup := by
        rw [List.map_append, List.nodup_append]
        refine ⟨hnd, by simp, fun a ha b hb => ?_⟩
        simp only [List.map_cons, List.map_nil, List.mem_singleton] at hb
        subst hb
        intro hab; subst hab; exact hne ha
      have h3 := nodup_len h2 (m := es.toList.map (·.born)) (by
        intro y hy
        obtain ⟨z, hz, rfl⟩ := List.mem_map.1 hy
        rcases List.mem_append.1 hz with hz | hz
        · exact List.mem_map_of_mem (hsub z hz)
        · rw [List.mem_singleton] at hz; subst hz; exact List.mem_map_of_mem hes)
      simp at h3; omega
    rw [hx] at hv hent
    unfold keyAddr at hv hent
    simp (implicitDefEqProofs := false) (maxSteps := 2000000) only [go_sem, Nat.reduceAdd, Nat.reduceSub, Nat.reduceMul, Nat.reduceLT, Nat.reduceLeDiff, Nat.reduceEqDiff, Nat.reduceBEq, Nat.reduceBNe, Nat.reducePow, Int.reduceBEq, Int.reduceBNe, Int.reduceEq, Int.reduceLT, Int.reduceLE, Int.reduceNeg, Int.reduceToNat, Int.reduceMul, Int.reduceAdd, Int.reduceSub, Int.reducePow, Int.reduceFDiv, reduceCtorEq, reduceIte, hv, hent]
    refine hY p _ e x _ _ (happ _ _ _ _ hI2) hes hx hlen ?_
    intro H' hI'
    simp (implicitDefEqProofs := false) (maxSteps := 2000000) only [go_sem, Nat.reduceAdd, Nat.reduceSub, Nat.reduceMul, Nat.reduceLT, Nat.reduceLeDiff, Nat.reduceEqDiff, Nat.reduceBEq, Nat.reduceBNe, Nat.reducePow, Int.reduceBEq, Int.reduceBNe, Int.reduceEq, Int.reduceLT, Int.reduceLE, Int.reduceNeg, Int.reduceToNat, Int.reduceMul, Int.reduceAdd, Int.reduceSub, Int.reducePow, Int.reduceFDiv, reduceCtorEq, reduceIte]
    refine ⟨p ++ [e], by simp; omega, ⟨hI', fun z hz => ?_, ?_⟩, by simp, _, rfl, by repeat (first | exact .nil | refine .same _ ?_ | refine .junk _ ?_)⟩
    · rcases List.mem_append.1 hz with hz | hz
      · exact hsub z hz
      · rw [List.mem_singleton] at hz; subst hz; exact hes
    · rw [List.map_append, List.nodup_append]
      refine ⟨hnd, by simp, fun a ha b hb => ?_⟩
      simp only [List.map_cons, List.map_nil, List.mem_singleton] at hb
      subst hb
      intro hab; subst hab; exact hne ha
/-- collected so far -/
structure GathA (h : AH) (q0 b clock : Nat) (es : Array MapEntry) (l0 : List Addr20) (pre : List MapEntry) (it : AObj) (H : AH) (q : Nat) (l : List Addr20) : Prop where
  rest : Am.Rest [q0] h H
  box : H[h.length]? = some (.cells #[outV q (l0 ++ l)] 0 true)
  itr : H[h.length + 1]? = some it
  row : H[q]? = some (outO encAddr 20 (l0 ++ l))
  ne : q ≠ h.length ∧ q ≠ h.length + 1
  new : q = q0 ∨ h.length ≤ q
  keys : l.map keyAddr = pre.map (·.key)
theorem keysOfA {es : Array MapEntry} (hk : ∀ e ∈ es.toList, ∃ x : Addr20, e.key = keyAddr x) : ∃ l : List Addr20, l.map keyAddr = es.toList.map (·.key) := by
  generalize es.toList = el at hk
  induction el with
  | nil => exact ⟨[], rfl⟩
  | cons e el ih =>
    obtain ⟨l, hl⟩ := ih fun e' he' => hk e' (List.mem_cons_of_mem _ he')
    obtain ⟨x, hx⟩ := hk e (by simp)
    exact ⟨x :: l, by simp [hl, hx]⟩
set_option maxHeartbeats 4000000 in
theorem appendSeqA_calls (K : FuncId) (hK : hasBody Try.prog K = true) {h : AH} {bx b clock q0 : Nat} {es : Array MapEntry} {l0 : List Addr20} (hbx : h[bx]? = some (.cells #[.map (some b)] 0 true)) (hb : h[b]? = some (.map 26 es clock)) (hsz : l0.length + es.size < 2 ^ 30) (hk : ∀ e ∈ es.toList, ∃ x : Addr20, e.key = keyAddr x)
    (h0 : h[q0]? = some (outO encAddr 20 l0)) (hit : ItOkA K bx b clock es) :
    ACalls Try.prog 36 #[outV q0 l0, .func (.func K) #[] #[.pointer (some ⟨bx, 0, none⟩)]] h (fun v h' => ∃ q l, v = outV q (l0 ++ l) ∧ h'[q]? = some (outO encAddr 20 (l0 ++ l)) ∧ (l.map keyAddr).Perm (es.toList.map (·.key)) ∧ Am.Rest [q0] h h' ∧ (q = q0 ∨ h.length ≤ q)) := by
  obtain ⟨lw, hlw⟩ := keysOfA hk
  have hq0 : q0 < h.length := (List.getElem?_eq_some_iff.1 h0).1
  have hbl : b < h.length := (List.getElem?_eq_some_iff.1 hb).1
  have hbxl : bx < h.length := (List.getElem?_eq_some_iff.1 hbx).1
  have hb0 : b ≠ q0 := fun e => by rw [e, h0] at hb; cases l0 <;> simp [outO] at hb
  have hbx0 : bx ≠ q0 := fun e => by rw [e, h0] at hbx; cases l0 <;> simp [outO] at hbx
  refine ACalls.of_ay Try.func36 rfl Try.ntmps36 ⟨outV q0 (l0 ++ lw), h.set q0 (outO encAddr 20 (l0 ++ lw)), q0, lw, rfl, List.getElem?_set_self hq0, by rw [hlw], Rest.set (by simp), .inl rfl⟩ ?_; simp only [List.length_cons, List.length_nil, Nat.reduceAdd, Nat.reduceSub, List.replicate_succ, List.replicate_zero, List.cons_append, List.nil_append]
  have hbox : abox h (outV q0 l0) = some (.pointer (some ⟨h.length, 0, none⟩), h ++ [.cells #[outV q0 l0] 0 true]) := by cases l0 <;> rfl
  simp (implicitDefEqProofs := false) (maxSteps := 2000000) only [go_sem, Nat.reduceAdd, Nat.reduceSub, Nat.reduceMul, Nat.reduceLT, Nat.reduceLeDiff, Nat.reduceEqDiff, Nat.reduceBEq, Nat.reduceBNe, Nat.reducePow, Int.reduceBEq, Int.reduceBNe, Int.reduceEq, Int.reduceLT, Int.reduceLE, Int.reduceNeg, Int.reduceToNat, Int.reduceMul, Int.reduceAdd, Int.reduceSub, Int.reducePow, Int.reduceFDiv, reduceCtorEq, reduceIte, hbox]
  refine AWP.rangeFunc (K := K) (caps := #[.pointer (some ⟨bx, 0, none⟩)]) (by simp only [aeval_tmp, getD_lit, List.getD_cons_succ, List.getD_cons_zero]) hK (hit _ (at_old hbx _) (at_old hb _) _ (fun pre it H => ∃ q l, GathA h q0 b clock es l0 pre it H q l) ⟨q0, [], ?_⟩ ?_ ?_ ?_ ?_) ?_
  · refine ⟨?_, by simp, by simp, ?_, by omega, .inl rfl, rfl⟩
    · rw [List.append_assoc]; exact Rest.app
    · rw [List.append_assoc, List.getElem?_append_left hq0, List.append_nil]; exact h0
  · rintro pre it H ⟨q, l, g⟩
    refine ⟨by simpa using g.itr, g.rest.same _ _ hb rfl (by simpa using hb0)⟩
  · rintro pre it it' H ⟨q, l, g⟩
    have e : (h ++ [AObj.cells #[outV q0 l0] 0 true]).length = h.length + 1 := by simp
    rw [e]
    have hlt : h.length + 1 < H.length := (List.getElem?_eq_some_iff.1 g.itr).1
    exact ⟨q, l, (g.rest.trans (Rest.set (O := [q0, h.length + 1]) (b := h.length + 1) (o := it') (by simp)) (Gets.far (by simp))).cut (by simp), get_setX g.box (by omega), List.getElem?_set_self hlt, get_setX g.row (fun e => g.ne.2 e.symm), g.ne, g.new, g.keys⟩
  · rintro pre it H o ⟨q, l, g⟩
    exact ⟨q, l, g.rest.trans (Rest.app (O := [q0])) (Gets.refl _ _), get_appX g.box, get_appX g.itr, get_appX g.row, g.ne, g.new, g.keys⟩
  · rintro pre it e x H K' ⟨q, l, g⟩ he hx hlen hK'
    refine roundY_of_ay rfl ?_
    rw [fold1]
    have hll : l.length = pre.length := by have := congrArg List.length g.keys; simpa using this
    have hbx1 := at_old g.box
    have hrow1 := at_old g.row
    obtain ⟨q', H', happ, hrow', hold', hlen', hq'⟩ := mkApp_outs (g := true) (by_ := 20) (l2 := [x]) (hrow1 [.cells (encAddr x).toArray 0 true, .cells (encAddr x).toArray 20 true]) length_encAddr ⟨by simp; omega, by simp; omega⟩
    rw [flatV_one, List.length_singleton] at happ
    have hHl : h.length < H.length := (List.getElem?_eq_some_iff.1 g.box).1
    have hHl1 : h.length + 1 < H.length := (List.getElem?_eq_some_iff.1 g.itr).1
    have hbox2 : H'[h.length]? = some (.cells #[outV q (l0 ++ l)] 0 true) := by rw [hold' _ (fun e => g.ne.1 e.symm) (by simp; omega)]; exact hbx1 _
    simp (implicitDefEqProofs := false) (maxSteps := 2000000) only [go_sem, Nat.reduceAdd, Nat.reduceSub, Nat.reduceMul, Nat.reduceLT, Nat.reduceLeDiff, Nat.reduceEqDiff, Nat.reduceBEq, Nat.reduceBNe, Nat.reducePow, Int.reduceBEq, Int.reduceBNe, Int.reduceEq, Int.reduceLT, Int.reduceLE, Int.reduceNeg, Int.reduceToNat, Int.reduceMul, Int.reduceAdd, Int.reduceSub, Int.reducePow, Int.reduceFDiv, reduceCtorEq, reduceIte, hbx1, hrow1, size_zeros, happ, hbox2, storable_outV]
    refine roundQ_normal (hK' _ ⟨q', l ++ [x], ⟨?_, ?_, ?_, ?_, ?_, ?_, by simp [g.keys, hx]⟩⟩)
    · refine ((g.rest.trans (Rest.app (O := [q0]) (t := [.cells (encAddr x).toArray 0 true, .cells (encAddr x).toArray 20 true])) (Gets.refl _ _)).trans (O' := [q, h.length]) ⟨?_, ?_⟩ (Gets.far ?_)).cut (O' := [q0]) (by simp)
      · intro i o hi ha hn
        simp only [List.mem_cons, List.not_mem_nil, or_false, not_or] at hn
        rw [List.getElem?_set_ne (fun e => hn.2 e.symm), hold' i hn.1 (List.getElem?_eq_some_iff.1 hi).1]; exact hi
      · simp only [List.length_set]; exact hlen'
      · intro i hi
        simp only [List.mem_cons, List.not_mem_nil, or_false] at hi
        rcases hi with rfl | rfl
        · rcases g.new with e | e
          · exact .inl (by simp [e])
          · exact .inr e
        · exact .inr (Nat.le_refl _)
    · rw [← List.append_assoc, List.getElem?_set_self (by simp only [List.length_append, List.length_cons, List.length_nil] at hlen'; omega)]
    · rw [List.getElem?_set_ne (by omega), hold' _ (fun e => g.ne.2 e.symm) (by simp; omega)]; exact at_old g.itr _
    · rw [← List.append_assoc]
      refine get_setX hrow' ?_
      rcases hq' with e | e
      · rw [e]; exact fun e => g.ne.1 e.symm
      · rw [e]; simp; omega
    · rcases hq' with e | e
      · rw [e]; exact g.ne
      · rw [e]; simp; omega
    · rcases hq' with e | e
      · rw [e]; exact g.new
      · rw [e]; simp; omega
  · rintro H1 st ⟨rfl, pre, it, ⟨q, l, g⟩, hperm⟩
    have hb2 := g.box
    simp (implicitDefEqProofs := false) (maxSteps := 2000000) only [go_sem, Nat.reduceAdd, Nat.reduceSub, Nat.reduceMul, Nat.reduceLT, Nat.reduceLeDiff, Nat.reduceEqDiff, Nat.reduceBEq, Nat.reduceBNe, Nat.reducePow, Int.reduceBEq, Int.reduceBNe, Int.reduceEq, Int.reduceLT, Int.reduceLE, Int.reduceNeg, Int.reduceToNat, Int.reduceMul, Int.reduceAdd, Int.reduceSub, Int.reducePow, Int.reduceFDiv, reduceCtorEq, reduceIte, hb2]
    refine ⟨outV q (l0 ++ l), outV q (l0 ++ l), _, by rw [aresults_tmp rfl, getD_lit]; rfl, Eases.refl, q, l, rfl, g.row, ?_, g.rest, g.new⟩
    rw [g.keys]
    exact hperm.map _
end Go.Proofs

/- the sort's contract, laid here -/
namespace Go.Proofs
open Go.Shelf
def Try.sortP_ren : Go.Shelf.Ren := ⟨fun | 6 => 56 | 15 => 63 | 14 => 72 | 28 => 81 | 29 => 82 | 20 => 84 | 21 => 85 | 22 => 86 | 23 => 87 | 24 => 88 | 25 => 89 | 26 => 90 | 27 => 91 | 46 => 97 | 47 => 93 | 48 => 94 | 49 => 98 | 50 => 99 | 57 => 101 | n => n, fun | 22 => 80 | 24 => 78 | 25 => 85 | 3 => 3 | 39 => 122 | 0 => 0 | 53 => 141 | 55 => 27 | 4 => 4 | 46 => 134 | 45 => 133 | 50 => 138 | 5 => 5 | 9 => 9 | 66 => 148 | 70 => 152 | 76 => 156 | 77 => 157 | n => n, fun | n => n⟩
theorem Try.sortP : Go.Proofs.SlLaysF0.n6 Try.prog Try.sortP_ren := {
  mixed := by kernel_rfl
  f6 := ⟨Try.f56.name, by decide, Try.func56.trans (congrArg some (by kernel_rfl))⟩
  f14 := ⟨Try.f72.name, by decide, Try.func72.trans (congrArg some (by kernel_rfl))⟩
  f15 := Try.func63.trans (congrArg some (by kernel_rfl))
  f20 := ⟨Try.f84.name, by decide, Try.func84.trans (congrArg some (by kernel_rfl))⟩
  f21 := ⟨Try.f85.name, by decide, Try.func85.trans (congrArg some (by kernel_rfl))⟩
  f22 := ⟨Try.f86.name, by decide, Try.func86.trans (congrArg some (by kernel_rfl))⟩
  f23 := ⟨Try.f87.name, by decide, Try.func87.trans (congrArg some (by kernel_rfl))⟩
  f24 := ⟨Try.f88.name, by decide, Try.func88.trans (congrArg some (by kernel_rfl))⟩
  f25 := ⟨Try.f89.name, by decide, Try.func89.trans (congrArg some (by kernel_rfl))⟩
  f26 := ⟨Try.f90.name, by decide, Try.func90.trans (congrArg some (by kernel_rfl))⟩
  f27 := ⟨Try.f91.name, by decide, Try.func91.trans (congrArg some (by kernel_rfl))⟩
  f28 := Try.func81.trans (congrArg some (by kernel_rfl))
  f29 := Try.func82.trans (congrArg some (by kernel_rfl))
  f46 := ⟨Try.f97.name, by decide, Try.func97.trans (congrArg some (by kernel_rfl))⟩
  f47 := Try.func93.trans (congrArg some (by kernel_rfl))
  f48 := Try.func94.trans (congrArg some (by kernel_rfl))
  f49 := ⟨Try.f98.name, by decide, Try.func98.trans (congrArg some (by kernel_rfl))⟩
  f50 := ⟨Try.f99.name, by decide, Try.func99.trans (congrArg some (by kernel_rfl))⟩
  f57 := ⟨Try.f101.name, by decide, Try.func101.trans (congrArg some (by kernel_rfl))⟩
  t0 := Try.underlying0
  a0 := Try.isAgg0
  z0 := Try.sizeOf0
  v0 := Try.zeroValue0
  t3 := Try.underlying3
  a3 := Try.isAgg3
  z3 := Try.sizeOf3
  v3 := Try.zeroValue3
  t4 := Try.underlying4
  a4 := Try.isAgg4
  z4 := Try.sizeOf4
  v4 := Try.zeroValue4
  t5 := Try.underlying5
  a5 := Try.isAgg5
  z5 := Try.sizeOf5
  v5 := Try.zeroValue5
  t9 := Try.underlying9
  a9 := Try.isAgg9
  z9 := Try.sizeOf9
  v9 := Try.zeroValue9
  t22 := Try.underlying80
  a22 := Try.isAgg80
  z22 := Try.sizeOf80
  v22 := Try.zeroValue80
  t25 := Try.underlying85
  a25 := Try.isAgg85
  z25 := Try.sizeOf85
  v25 := Try.zeroValue85
  t39 := Try.underlying122
  a39 := Try.isAgg122
  z39 := Try.sizeOf122
  v39 := Try.zeroValue122
  t45 := Try.underlying133
  a45 := Try.isAgg133
  z45 := Try.sizeOf133
  v45 := Try.zeroValue133
  t46 := Try.underlying134
  a46 := Try.isAgg134
  z46 := Try.sizeOf134
  v46 := Try.zeroValue134
  t50 := Try.underlying138
  a50 := Try.isAgg138
  z50 := Try.sizeOf138
  v50 := Try.zeroValue138
  t53 := Try.underlying141
  a53 := Try.isAgg141
  z53 := Try.sizeOf141
  v53 := Try.zeroValue141
  t55 := Try.underlying27
  a55 := Try.isAgg27
  z55 := Try.sizeOf27
  v55 := Try.zeroValue27
  t66 := Try.underlying148
  a66 := Try.isAgg148
  z66 := Try.sizeOf148
  v66 := Try.zeroValue148
  t70 := Try.underlying152
  a70 := Try.isAgg152
  z70 := Try.sizeOf152
  v70 := Try.zeroValue152
  t76 := Try.underlying156
  a76 := Try.isAgg156
  z76 := Try.sizeOf156
  v76 := Try.zeroValue156
  t77 := Try.underlying157
  a77 := Try.isAgg157
  z77 := Try.sizeOf157
  v77 := Try.zeroValue157 }
end Go.Proofs

/- the sort's contract, laid here -/
namespace Go.Proofs
open Go.Shelf
def Try.sortA_ren : Go.Shelf.Ren := ⟨fun | 6 => 40 | 15 => 63 | 14 => 62 | 28 => 81 | 29 => 82 | 20 => 73 | 21 => 74 | 22 => 75 | 23 => 76 | 24 => 77 | 25 => 78 | 26 => 79 | 27 => 80 | 46 => 92 | 47 => 93 | 48 => 94 | 49 => 95 | 50 => 96 | 57 => 100 | n => n, fun | 22 => 87 | 24 => 26 | 25 => 95 | 3 => 3 | 39 => 122 | 0 => 0 | 53 => 141 | 55 => 27 | 4 => 4 | 46 => 134 | 45 => 133 | 50 => 138 | 5 => 5 | 9 => 9 | 66 => 148 | 70 => 152 | 76 => 156 | 77 => 157 | n => n, fun | n => n⟩
theorem Try.sortA : Go.Proofs.SlLaysF0.n6 Try.prog Try.sortA_ren := {
  mixed := by kernel_rfl
  f6 := ⟨Try.f40.name, by decide, Try.func40.trans (congrArg some (by kernel_rfl))⟩
  f14 := ⟨Try.f62.name, by decide, Try.func62.trans (congrArg some (by kernel_rfl))⟩
  f15 := Try.func63.trans (congrArg some (by kernel_rfl))
  f20 := ⟨Try.f73.name, by decide, Try.func73.trans (congrArg some (by kernel_rfl))⟩
  f21 := ⟨Try.f74.name, by decide, Try.func74.trans (congrArg some (by kernel_rfl))⟩
  f22 := ⟨Try.f75.name, by decide, Try.func75.trans (congrArg some (by kernel_rfl))⟩
  f23 := ⟨Try.f76.name, by decide, Try.func76.trans (congrArg some (by kernel_rfl))⟩
  f24 := ⟨Try.f77.name, by decide, Try.func77.trans (congrArg some (by kernel_rfl))⟩
  f25 := ⟨Try.f78.name, by decide, Try.func78.trans (congrArg some (by kernel_rfl))⟩
  f26 := ⟨Try.f79.name, by decide, Try.func79.trans (congrArg some (by kernel_rfl))⟩
  f27 := ⟨Try.f80.name, by decide, Try.func80.trans (congrArg some (by kernel_rfl))⟩
  f28 := Try.func81.trans (congrArg some (by kernel_rfl))
  f29 := Try.func82.trans (congrArg some (by kernel_rfl))
  f46 := ⟨Try.f92.name, by decide, Try.func92.trans (congrArg some (by kernel_rfl))⟩
  f47 := Try.func93.trans (congrArg some (by kernel_rfl))
  f48 := Try.func94.trans (congrArg some (by kernel_rfl))
  f49 := ⟨Try.f95.name, by decide, Try.func95.trans (congrArg some (by kernel_rfl))⟩
  f50 := ⟨Try.f96.name, by decide, Try.func96.trans (congrArg some (by kernel_rfl))⟩
  f57 := ⟨Try.f100.name, by decide, Try.func100.trans (congrArg some (by kernel_rfl))⟩
  t0 := Try.underlying0
  a0 := Try.isAgg0
  z0 := Try.sizeOf0
  v0 := Try.zeroValue0
  t3 := Try.underlying3
  a3 := Try.isAgg3
  z3 := Try.sizeOf3
  v3 := Try.zeroValue3
  t4 := Try.underlying4
  a4 := Try.isAgg4
  z4 := Try.sizeOf4
  v4 := Try.zeroValue4
  t5 := Try.underlying5
  a5 := Try.isAgg5
  z5 := Try.sizeOf5
  v5 := Try.zeroValue5
  t9 := Try.underlying9
  a9 := Try.isAgg9
  z9 := Try.sizeOf9
  v9 := Try.zeroValue9
  t22 := Try.underlying87
  a22 := Try.isAgg87
  z22 := Try.sizeOf87
  v22 := Try.zeroValue87
  t25 := Try.underlying95
  a25 := Try.isAgg95
  z25 := Try.sizeOf95
  v25 := Try.zeroValue95
  t39 := Try.underlying122
  a39 := Try.isAgg122
  z39 := Try.sizeOf122
  v39 := Try.zeroValue122
  t45 := Try.underlying133
  a45 := Try.isAgg133
  z45 := Try.sizeOf133
  v45 := Try.zeroValue133
  t46 := Try.underlying134
  a46 := Try.isAgg134
  z46 := Try.sizeOf134
  v46 := Try.zeroValue134
  t50 := Try.underlying138
  a50 := Try.isAgg138
  z50 := Try.sizeOf138
  v50 := Try.zeroValue138
  t53 := Try.underlying141
  a53 := Try.isAgg141
  z53 := Try.sizeOf141
  v53 := Try.zeroValue141
  t55 := Try.underlying27
  a55 := Try.isAgg27
  z55 := Try.sizeOf27
  v55 := Try.zeroValue27
  t66 := Try.underlying148
  a66 := Try.isAgg148
  z66 := Try.sizeOf148
  v66 := Try.zeroValue148
  t70 := Try.underlying152
  a70 := Try.isAgg152
  z70 := Try.sizeOf152
  v70 := Try.zeroValue152
  t76 := Try.underlying156
  a76 := Try.isAgg156
  z76 := Try.sizeOf156
  v76 := Try.zeroValue156
  t77 := Try.underlying157
  a77 := Try.isAgg157
  z77 := Try.sizeOf157
  v77 := Try.zeroValue157 }
end Go.Proofs

