import Derived.Test.YtcnnccalglgnbaaG7
set_option linter.unusedSimpArgs false
set_option linter.unusedVariables false
set_option maxRecDepth 100000
/- keys of maps, collected and sorted -/
namespace Go.Proofs
open Go Go.Am
theorem rest_ghost {O : List Nat} {h h' : AH} (r : Am.Rest O (h ++ [.dead]) h') (hO : ∀ i ∈ O, h.length ≤ i) : Am.Rest [] h h' :=
  ((Rest.app (O := []) (t := [.dead])).trans r (Gets.far fun i hi => .inr (hO i hi))).cut (by simp)
set_option maxHeartbeats 4000000 in
theorem collectP_calls (K : FuncId) (hK : hasBody Try.prog K = true) {h : AH} {bx b clock : Nat} {es : Array MapEntry} (hbx : h[bx]? = some (.cells #[.map (some b)] 0 true)) (hb : h[b]? = some (.map 78 es clock)) (hsz : es.size < 2 ^ 30) (hk : ∀ e ∈ es.toList, ∃ x : Plc, e.key = keyPlc x) (hit : ItOkP K bx b clock es) :
    ACalls Try.prog 55 #[.func (.func K) #[] #[.pointer (some ⟨bx, 0, none⟩)]] h (fun v h' => ∃ q l, v = outV q l ∧ h'[q]? = some (outO encPlc 24 l) ∧ (l.map keyPlc).Perm (es.toList.map (·.key)) ∧ Am.Rest [] h h' ∧ h.length ≤ q) := by
  have hc := appendSeqP_calls K hK (h := h ++ [.dead]) (q0 := h.length) (l0 := []) (at_old hbx _) (at_old hb _) (by simpa using hsz) hk (by simp [outO]) hit
  have fin : ∀ {v : Value} {h' : AH}, (∃ q l, v = outV q ([] ++ l) ∧ h'[q]? = some (outO encPlc 24 ([] ++ l)) ∧ (l.map keyPlc).Perm (es.toList.map (·.key)) ∧ Am.Rest [h.length] (h ++ [.dead]) h' ∧ (q = h.length ∨ (h ++ [AObj.dead]).length ≤ q)) → ∃ q l, v = outV q l ∧ h'[q]? = some (outO encPlc 24 l) ∧ (l.map keyPlc).Perm (es.toList.map (·.key)) ∧ Am.Rest [] h h' ∧ h.length ≤ q := by
    rintro v h' ⟨q, l, e1, e2, e3, e4, e5⟩
    rw [List.nil_append] at e1 e2
    exact ⟨q, l, e1, e2, e3, rest_ghost e4 (by simp), by simp at e5; omega⟩
  obtain ⟨v0, h0, hi⟩ := hc.inh
  refine ACalls.of_ay1 Try.func55 rfl Try.ntmps55 ⟨v0, h0, fin hi⟩ ?_; simp only [List.length_cons, List.length_nil, Nat.reduceAdd, Nat.reduceSub, List.replicate_succ, List.replicate_zero, List.cons_append, List.nil_append]
  simp (implicitDefEqProofs := false) (maxSteps := 2000000) only [go_sem, Nat.reduceAdd, Nat.reduceSub, Nat.reduceMul, Nat.reduceLT, Nat.reduceLeDiff, Nat.reduceEqDiff, Nat.reduceBEq, Nat.reduceBNe, Nat.reducePow, Int.reduceBEq, Int.reduceBNe, Int.reduceEq, Int.reduceLT, Int.reduceLE, Int.reduceNeg, Int.reduceToNat, Int.reduceMul, Int.reduceAdd, Int.reduceSub, Int.reducePow, Int.reduceFDiv, reduceCtorEq, reduceIte]
  refine astep_calls hc ?_
  intro v h' hR
  have hR2 := fin hR
  simp (implicitDefEqProofs := false) (maxSteps := 2000000) only [go_sem, Nat.reduceAdd, Nat.reduceSub, Nat.reduceMul, Nat.reduceLT, Nat.reduceLeDiff, Nat.reduceEqDiff, Nat.reduceBEq, Nat.reduceBNe, Nat.reducePow, Int.reduceBEq, Int.reduceBNe, Int.reduceEq, Int.reduceLT, Int.reduceLE, Int.reduceNeg, Int.reduceToNat, Int.reduceMul, Int.reduceAdd, Int.reduceSub, Int.reducePow, Int.reduceFDiv, reduceCtorEq, reduceIte]
  exact ⟨v, v, h', by rw [aresults_tmp rfl, getD_lit]; rfl, Eases.refl, hR2⟩
set_option maxHeartbeats 4000000 in
theorem collectA_calls (K : FuncId) (hK : hasBody Try.prog K = true) {h : AH} {bx b clock : Nat} {es : Array MapEntry} (hbx : h[bx]? = some (.cells #[.map (some b)] 0 true)) (hb : h[b]? = some (.map 26 es clock)) (hsz : es.size < 2 ^ 30) (hk : ∀ e ∈ es.toList, ∃ x : Addr20, e.key = keyAddr x) (hit : ItOkA K bx b clock es) :
    ACalls Try.prog 37 #[.func (.func K) #[] #[.pointer (some ⟨bx, 0, none⟩)]] h (fun v h' => ∃ q l, v = outV q l ∧ h'[q]? = some (outO encAddr 20 l) ∧ (l.map keyAddr).Perm (es.toList.map (·.key)) ∧ Am.Rest [] h h' ∧ h.length ≤ q) := by
  have hc := appendSeqA_calls K hK (h := h ++ [.dead]) (q0 := h.length) (l0 := []) (at_old hbx _) (at_old hb _) (by simpa using hsz) hk (by simp [outO]) hit
  have fin : ∀ {v : Value} {h' : AH}, (∃ q l, v = outV q ([] ++ l) ∧ h'[q]? = some (outO encAddr 20 ([] ++ l)) ∧ (l.map keyAddr).Perm (es.toList.map (·.key)) ∧ Am.Rest [h.length] (h ++ [.dead]) h' ∧ (q = h.length ∨ (h ++ [AObj.dead]).length ≤ q)) → ∃ q l, v = outV q l ∧ h'[q]? = some (outO encAddr 20 l) ∧ (l.map keyAddr).Perm (es.toList.map (·.key)) ∧ Am.Rest [] h h' ∧ h.length ≤ q := by
    rintro v h' ⟨q, l, e1, e2, e3, e4, e5⟩
    rw [List.nil_append] at e1 e2
    exact ⟨q, l, e1, e2, e3, rest_ghost e4 (by simp), by simp at e5; omega⟩
  obtain ⟨v0, h0, hi⟩ := hc.inh
  refine ACalls.of_ay1 Try.func37 rfl Try.ntmps37 ⟨v0, h0, fin hi⟩ ?_; simp only [List.length_cons, List.length_nil, Nat.reduceAdd, Nat.reduceSub, List.replicate_succ, List.replicate_zero, List.cons_append, List.nil_append]
  simp (implicitDefEqProofs := false) (maxSteps := 2000000) only [go_sem, Nat.reduceAdd, Nat.reduceSub, Nat.reduceMul, Nat.reduceLT, Nat.reduceLeDiff, Nat.reduceEqDiff, Nat.reduceBEq, Nat.reduceBNe, Nat.reducePow, Int.reduceBEq, Int.reduceBNe, Int.reduceEq, Int.reduceLT, Int.reduceLE, Int.reduceNeg, Int.reduceToNat, Int.reduceMul, Int.reduceAdd, Int.reduceSub, Int.reducePow, Int.reduceFDiv, reduceCtorEq, reduceIte]
  refine astep_calls hc ?_
  intro v h' hR
  have hR2 := fin hR
  simp (implicitDefEqProofs := false) (maxSteps := 2000000) only [go_sem, Nat.reduceAdd, Nat.reduceSub, Nat.reduceMul, Nat.reduceLT, Nat.reduceLeDiff, Nat.reduceEqDiff, Nat.reduceBEq, Nat.reduceBNe, Nat.reducePow, Int.reduceBEq, Int.reduceBNe, Int.reduceEq, Int.reduceLT, Int.reduceLE, Int.reduceNeg, Int.reduceToNat, Int.reduceMul, Int.reduceAdd, Int.reduceSub, Int.reducePow, Int.reduceFDiv, reduceCtorEq, reduceIte]
  exact ⟨v, v, h', by rw [aresults_tmp rfl, getD_lit]; rfl, Eases.refl, hR2⟩
instance : Inhabited Plc := ⟨⟨zeroA, zeroW⟩⟩
theorem laidOk : laidOutB Try.prog = true := by kernel_rfl
/-- places, each ahead of those that are greater -/
def RisesP (L : List Plc) : Prop := L.Pairwise fun x y => x.rank < y.rank
set_option maxHeartbeats 4000000 in
theorem sortedP_calls (K : FuncId) (hK : hasBody Try.prog K = true) {h : AH} {bx b clock : Nat} {es : Array MapEntry} (hbx : h[bx]? = some (.cells #[.map (some b)] 0 true)) (hb : h[b]? = some (.map 78 es clock)) (hsz : es.size < 2 ^ 30) (hk : ∀ e ∈ es.toList, ∃ x : Plc, e.key = keyPlc x) (hap : (es.toList.map (·.key)).Nodup) (hit : ItOkP K bx b clock es) :
    ACalls Try.prog 33 #[.func (.func K) #[] #[.pointer (some ⟨bx, 0, none⟩)], .func (.func 35) #[] #[]] h (fun v h' => ∃ L, v = slV encPlc (Sl.app L) ∧ RisesP L ∧ (L.map keyPlc).Perm (es.toList.map (·.key)) ∧ Am.Rest [] h h') := by
  have hG : hasBody Try.prog 35 = true := by kernel_rfl
  obtain ⟨hO, hT⟩ := swo_rank Plc.rank (fun x y => plc_inj)
  obtain ⟨l0, hl0⟩ := keysOfP hk
  have hsrt : ∀ {l : List Plc}, (l.map keyPlc).Perm (es.toList.map (·.key)) → RisesP (l.mergeSort fun x y => !(Go.Proofs.ltOf fun x y : Plc => sgn x.rank y.rank) y x) ∧ ((l.mergeSort fun x y => !(Go.Proofs.ltOf fun x y : Plc => sgn x.rank y.rank) y x).map keyPlc).Perm (es.toList.map (·.key)) := fun {l} hl => by
    have hnd : l.Nodup := nodup_of_map keyPlc (hl.nodup_iff.2 hap)
    obtain ⟨h1, h2⟩ := sorted_rank Plc.rank (fun x y => plc_inj) l hnd
    exact ⟨h1, (h2.map _).trans hl⟩
  refine ACalls.of_ay Try.func33 rfl Try.ntmps33 ⟨_, h, _, rfl, (hsrt (l := l0) (by rw [hl0])).1, (hsrt (l := l0) (by rw [hl0])).2, Rest.refl _ _⟩ ?_; simp only [List.length_cons, List.length_nil, Nat.reduceAdd, Nat.reduceSub, List.replicate_succ, List.replicate_zero, List.cons_append, List.nil_append]
  simp (implicitDefEqProofs := false) (maxSteps := 2000000) only [go_sem, Nat.reduceAdd, Nat.reduceSub, Nat.reduceMul, Nat.reduceLT, Nat.reduceLeDiff, Nat.reduceEqDiff, Nat.reduceBEq, Nat.reduceBNe, Nat.reducePow, Int.reduceBEq, Int.reduceBNe, Int.reduceEq, Int.reduceLT, Int.reduceLE, Int.reduceNeg, Int.reduceToNat, Int.reduceMul, Int.reduceAdd, Int.reduceSub, Int.reducePow, Int.reduceFDiv, reduceCtorEq, reduceIte]
  refine astep_calls (collectP_calls K hK hbx hb hsz hk hit) ?_
  rintro v h1 ⟨q, l, hv, hq, hl, hr, hlq⟩
  have hlen : l.length = es.size := by have := hl.length_eq; simpa using this
  have hql : q < h1.length := (List.getElem?_eq_some_iff.1 hq).1
  have hsort := ACalls.sortO Try.sortP laidOk Try.isAgg78 Try.sizeOf78 length_encPlc plain_encPlc (fun x y : Plc => sgn x.rank y.rank) hO hT hG pcompare_calls hq (by omega)
  obtain ⟨s1, s2⟩ := hsrt hl
  generalize (l.mergeSort fun x y => !(Go.Proofs.ltOf fun x y : Plc => sgn x.rank y.rank) y x) = L at hsort s1 s2
  change ACalls Try.prog 56 _ _ _ at hsort
  have hlL : outV q l = outV q L := by
    have h1 := s2.length_eq.trans hl.length_eq.symm
    simp only [List.length_map] at h1
    cases l <;> cases L <;> simp_all [outV]
  simp (implicitDefEqProofs := false) (maxSteps := 2000000) only [go_sem, Nat.reduceAdd, Nat.reduceSub, Nat.reduceMul, Nat.reduceLT, Nat.reduceLeDiff, Nat.reduceEqDiff, Nat.reduceBEq, Nat.reduceBNe, Nat.reducePow, Int.reduceBEq, Int.reduceBNe, Int.reduceEq, Int.reduceLT, Int.reduceLE, Int.reduceNeg, Int.reduceToNat, Int.reduceMul, Int.reduceAdd, Int.reduceSub, Int.reducePow, Int.reduceFDiv, reduceCtorEq, reduceIte, hv]
  refine astep_call hsort ?_
  simp (implicitDefEqProofs := false) (maxSteps := 2000000) only [go_sem, Nat.reduceAdd, Nat.reduceSub, Nat.reduceMul, Nat.reduceLT, Nat.reduceLeDiff, Nat.reduceEqDiff, Nat.reduceBEq, Nat.reduceBNe, Nat.reducePow, Int.reduceBEq, Int.reduceBNe, Int.reduceEq, Int.reduceLT, Int.reduceLE, Int.reduceNeg, Int.reduceToNat, Int.reduceMul, Int.reduceAdd, Int.reduceSub, Int.reducePow, Int.reduceFDiv, reduceCtorEq, reduceIte]
  refine apost_froz (k := 4) (q := q) (l := L) rfl length_encPlc (List.getElem?_set_self hql) ⟨L, rfl, s1, s2, ?_⟩ hlL
  rw [List.set_set]
  exact (hr.trans (Rest.set (O := [q]) (by simp)) (Gets.far (by simp; exact hlq))).cut (by simp)
end Go.Proofs

set_option linter.unusedSimpArgs false
set_option linter.unusedVariables false
set_option maxRecDepth 100000
/- accounts: refunds -/
namespace Go.Proofs
open Go Go.Am
set_option maxHeartbeats 4000000 in
theorem refunds_calls {H : AH} {I : WI} {S : WS} (w : WA H I S) :
    ACalls Try.prog 26 #[.pointer (some ⟨I.b, 0, none⟩)] H (fun v h' => v = .int .i64 S.refund ∧ h' = H) := by
  have hb := w.box
  unfold WI.cells at hb
  refine ACalls.of_ay Try.func26 rfl Try.ntmps26 ⟨_, _, rfl, rfl⟩ ?_; simp only [List.length_cons, List.length_nil, Nat.reduceAdd, Nat.reduceSub, List.replicate_succ, List.replicate_zero, List.cons_append, List.nil_append]
  simp (implicitDefEqProofs := false) (maxSteps := 2000000) only [go_sem, Nat.reduceAdd, Nat.reduceSub, Nat.reduceMul, Nat.reduceLT, Nat.reduceLeDiff, Nat.reduceEqDiff, Nat.reduceBEq, Nat.reduceBNe, Nat.reducePow, Int.reduceBEq, Int.reduceBNe, Int.reduceEq, Int.reduceLT, Int.reduceLE, Int.reduceNeg, Int.reduceToNat, Int.reduceMul, Int.reduceAdd, Int.reduceSub, Int.reducePow, Int.reduceFDiv, reduceCtorEq, reduceIte, hb]
  exact apost_tmp0 rfl rfl ⟨rfl, rfl⟩ _ rfl
end Go.Proofs

set_option linter.unusedSimpArgs false
set_option linter.unusedVariables false
set_option maxRecDepth 100000
/- accounts: a step is taken back -/
namespace Go.Proofs
open Go Go.Am
/-- what a step taken back leaves; the journal's row is the same -/
def WOkJ (P : Program) (tA tP : TypeId) (H : AH) (I : WI) (H' : AH) (I' : WI) (S' : WS) : Prop := WOk P tA tP H I H' I' S' ∧ I'.journal = I.journal
set_option maxHeartbeats 4000000 in
theorem undoAcc_calls (s : Stp) (hk : s.kind = 0) {H : AH} {I : WI} {S : WS} (w : WA H I S) :
    ACalls Try.prog 52 #[.pointer (some ⟨I.b, 0, none⟩), .agg (encStp s).toArray] H (fun v h' => v = undef ∧ ∃ I', WOkJ Try.prog 26 78 H I h' I' { S with all := fun y => if y = s.pl.addr then some s.was else S.all y }) := by
  have hb := at_old w.box
  have hm := at_old w.hAll
  unfold WI.cells at hb
  have w1 := w.app (t := [.cells (encStp s).toArray 0 true])
  obtain ⟨es', ck', hx, ok⟩ := w1.put_all (mt := 66) Try.mp66 keyedAddr s.pl.addr s.was
  have hx1 := hx (hm [.cells (encStp s).toArray 0 true])
  simp only [keyAddr] at hx1
  have fin := ok.pre
  have inh : ∃ (v : Value) (h' : AH), v = undef ∧ ∃ I', WOkJ Try.prog 26 78 H I h' I' { S with all := fun y => if y = s.pl.addr then some s.was else S.all y } := ⟨_, _, rfl, _, ⟨fin, rfl⟩⟩
  refine ACalls.of_ay Try.func52 rfl Try.ntmps52 inh ?_; simp only [List.length_cons, List.length_nil, Nat.reduceAdd, Nat.reduceSub, List.replicate_succ, List.replicate_zero, List.cons_append, List.nil_append]
  simp (implicitDefEqProofs := false) (maxSteps := 2000000) only [go_sem, Nat.reduceAdd, Nat.reduceSub, Nat.reduceMul, Nat.reduceLT, Nat.reduceLeDiff, Nat.reduceEqDiff, Nat.reduceBEq, Nat.reduceBNe, Nat.reducePow, Int.reduceBEq, Int.reduceBNe, Int.reduceEq, Int.reduceLT, Int.reduceLE, Int.reduceNeg, Int.reduceToNat, Int.reduceMul, Int.reduceAdd, Int.reduceSub, Int.reducePow, Int.reduceFDiv, reduceCtorEq, reduceIte, hk, hb, hm, hx1]
  refine ⟨by kernel_rfl, by kernel_rfl, .inr ⟨rfl, by decide⟩, ?_⟩
  exact ⟨undef, undef, _, rfl, Eases.refl, rfl, _, ⟨fin, rfl⟩⟩
set_option maxHeartbeats 4000000 in
theorem undoSlot_calls (s : Stp) (hk : s.kind = 1) {H : AH} {I : WI} {S : WS} (w : WA H I S) :
    ACalls Try.prog 52 #[.pointer (some ⟨I.b, 0, none⟩), .agg (encStp s).toArray] H (fun v h' => v = undef ∧ ∃ I', WOkJ Try.prog 26 78 H I h' I' { S with slots := fun y => if y = s.pl then some s.word else S.slots y }) := by
  have hb := at_old w.box
  have hm := at_old w.hSlots
  unfold WI.cells at hb
  have w1 := w.app (t := [.cells (encStp s).toArray 0 true])
  obtain ⟨es', ck', hx, ok⟩ := w1.put_slots (mt := 67) Try.mp67 keyedPlc s.pl s.word
  have hx1 := hx (hm [.cells (encStp s).toArray 0 true])
  simp only [keyPlc] at hx1
  have fin := ok.pre
  have inh : ∃ (v : Value) (h' : AH), v = undef ∧ ∃ I', WOkJ Try.prog 26 78 H I h' I' { S with slots := fun y => if y = s.pl then some s.word else S.slots y } := ⟨_, _, rfl, _, ⟨fin, rfl⟩⟩
  refine ACalls.of_ay Try.func52 rfl Try.ntmps52 inh ?_; simp only [List.length_cons, List.length_nil, Nat.reduceAdd, Nat.reduceSub, List.replicate_succ, List.replicate_zero, List.cons_append, List.nil_append]
  simp (implicitDefEqProofs := false) (maxSteps := 2000000) only [go_sem, Nat.reduceAdd, Nat.reduceSub, Nat.reduceMul, Nat.reduceLT, Nat.reduceLeDiff, Nat.reduceEqDiff, Nat.reduceBEq, Nat.reduceBNe, Nat.reducePow, Int.reduceBEq, Int.reduceBNe, Int.reduceEq, Int.reduceLT, Int.reduceLE, Int.reduceNeg, Int.reduceToNat, Int.reduceMul, Int.reduceAdd, Int.reduceSub, Int.reducePow, Int.reduceFDiv, reduceCtorEq, reduceIte, hk, hb, hm, hx1]
  refine ⟨by kernel_rfl, by kernel_rfl, .inr ⟨rfl, by decide⟩, ?_⟩
  exact ⟨undef, undef, _, rfl, Eases.refl, rfl, _, ⟨fin, rfl⟩⟩
set_option maxHeartbeats 4000000 in
theorem undoTouch_calls (s : Stp) (hk : s.kind = 2) {H : AH} {I : WI} {S : WS} (w : WA H I S) :
    ACalls Try.prog 52 #[.pointer (some ⟨I.b, 0, none⟩), .agg (encStp s).toArray] H (fun v h' => v = undef ∧ ∃ I', WOkJ Try.prog 26 78 H I h' I' { S with touched := fun y => if y = s.pl.addr then none else S.touched y }) := by
  have hb := at_old w.box
  have hm := at_old w.hTouched
  unfold WI.cells at hb
  have w1 := w.app (t := [.cells (encStp s).toArray 0 true])
  obtain ⟨es', hx, ok⟩ := w1.del_touched (mt := 68) Try.mp68 s.pl.addr
  have hx1 := hx (hm [.cells (encStp s).toArray 0 true])
  simp only [keyAddr] at hx1
  have fin := ok.pre
  have inh : ∃ (v : Value) (h' : AH), v = undef ∧ ∃ I', WOkJ Try.prog 26 78 H I h' I' { S with touched := fun y => if y = s.pl.addr then none else S.touched y } := ⟨_, _, rfl, _, ⟨fin, rfl⟩⟩
  refine ACalls.of_ay Try.func52 rfl Try.ntmps52 inh ?_; simp only [List.length_cons, List.length_nil, Nat.reduceAdd, Nat.reduceSub, List.replicate_succ, List.replicate_zero, List.cons_append, List.nil_append]
  simp (implicitDefEqProofs := false) (maxSteps := 2000000) only [go_sem, Nat.reduceAdd, Nat.reduceSub, Nat.reduceMul, Nat.reduceLT, Nat.reduceLeDiff, Nat.reduceEqDiff, Nat.reduceBEq, Nat.reduceBNe, Nat.reducePow, Int.reduceBEq, Int.reduceBNe, Int.reduceEq, Int.reduceLT, Int.reduceLE, Int.reduceNeg, Int.reduceToNat, Int.reduceMul, Int.reduceAdd, Int.reduceSub, Int.reducePow, Int.reduceFDiv, reduceCtorEq, reduceIte, hk, hb, hm, hx1]
  refine ⟨by kernel_rfl, by kernel_rfl, .inr ⟨rfl, by decide⟩, ?_⟩
  exact ⟨undef, undef, _, rfl, Eases.refl, rfl, _, ⟨fin, rfl⟩⟩
set_option maxHeartbeats 4000000 in
theorem undoLook_calls (s : Stp) (hk : s.kind = 3) {H : AH} {I : WI} {S : WS} (w : WA H I S) :
    ACalls Try.prog 52 #[.pointer (some ⟨I.b, 0, none⟩), .agg (encStp s).toArray] H (fun v h' => v = undef ∧ ∃ I', WOkJ Try.prog 26 78 H I h' I' { S with looked := fun y => if y = s.pl then none else S.looked y }) := by
  have hb := at_old w.box
  have hm := at_old w.hLooked
  unfold WI.cells at hb
  have w1 := w.app (t := [.cells (encStp s).toArray 0 true])
  obtain ⟨es', hx, ok⟩ := w1.del_looked (mt := 69) Try.mp69 s.pl
  have hx1 := hx (hm [.cells (encStp s).toArray 0 true])
  simp only [keyPlc] at hx1
  have fin := ok.pre
  have inh : ∃ (v : Value) (h' : AH), v = undef ∧ ∃ I', WOkJ Try.prog 26 78 H I h' I' { S with looked := fun y => if y = s.pl then none else S.looked y } := ⟨_, _, rfl, _, ⟨fin, rfl⟩⟩
  refine ACalls.of_ay Try.func52 rfl Try.ntmps52 inh ?_; simp only [List.length_cons, List.length_nil, Nat.reduceAdd, Nat.reduceSub, List.replicate_succ, List.replicate_zero, List.cons_append, List.nil_append]
  simp (implicitDefEqProofs := false) (maxSteps := 2000000) only [go_sem, Nat.reduceAdd, Nat.reduceSub, Nat.reduceMul, Nat.reduceLT, Nat.reduceLeDiff, Nat.reduceEqDiff, Nat.reduceBEq, Nat.reduceBNe, Nat.reducePow, Int.reduceBEq, Int.reduceBNe, Int.reduceEq, Int.reduceLT, Int.reduceLE, Int.reduceNeg, Int.reduceToNat, Int.reduceMul, Int.reduceAdd, Int.reduceSub, Int.reducePow, Int.reduceFDiv, reduceCtorEq, reduceIte, hk, hb, hm, hx1]
  refine ⟨by kernel_rfl, by kernel_rfl, .inr ⟨rfl, by decide⟩, ?_⟩
  exact ⟨undef, undef, _, rfl, Eases.refl, rfl, _, ⟨fin, rfl⟩⟩
set_option maxHeartbeats 4000000 in
theorem undoDead_calls (s : Stp) (hk : s.kind = 6) {H : AH} {I : WI} {S : WS} (w : WA H I S) :
    ACalls Try.prog 52 #[.pointer (some ⟨I.b, 0, none⟩), .agg (encStp s).toArray] H (fun v h' => v = undef ∧ ∃ I', WOkJ Try.prog 26 78 H I h' I' { S with dead := fun y => if y = s.pl.addr then none else S.dead y }) := by
  have hb := at_old w.box
  have hm := at_old w.hDead
  unfold WI.cells at hb
  have w1 := w.app (t := [.cells (encStp s).toArray 0 true])
  obtain ⟨es', hx, ok⟩ := w1.del_dead (mt := 68) Try.mp68 s.pl.addr
  have hx1 := hx (hm [.cells (encStp s).toArray 0 true])
  simp only [keyAddr] at hx1
  have fin := ok.pre
  have inh : ∃ (v : Value) (h' : AH), v = undef ∧ ∃ I', WOkJ Try.prog 26 78 H I h' I' { S with dead := fun y => if y = s.pl.addr then none else S.dead y } := ⟨_, _, rfl, _, ⟨fin, rfl⟩⟩
  refine ACalls.of_ay Try.func52 rfl Try.ntmps52 inh ?_; simp only [List.length_cons, List.length_nil, Nat.reduceAdd, Nat.reduceSub, List.replicate_succ, List.replicate_zero, List.cons_append, List.nil_append]
  simp (implicitDefEqProofs := false) (maxSteps := 2000000) only [go_sem, Nat.reduceAdd, Nat.reduceSub, Nat.reduceMul, Nat.reduceLT, Nat.reduceLeDiff, Nat.reduceEqDiff, Nat.reduceBEq, Nat.reduceBNe, Nat.reducePow, Int.reduceBEq, Int.reduceBNe, Int.reduceEq, Int.reduceLT, Int.reduceLE, Int.reduceNeg, Int.reduceToNat, Int.reduceMul, Int.reduceAdd, Int.reduceSub, Int.reducePow, Int.reduceFDiv, reduceCtorEq, reduceIte, hk, hb, hm, hx1]
  refine ⟨by kernel_rfl, by kernel_rfl, .inr ⟨rfl, by decide⟩, ?_⟩
  exact ⟨undef, undef, _, rfl, Eases.refl, rfl, _, ⟨fin, rfl⟩⟩
end Go.Proofs

set_option linter.unusedSimpArgs false
set_option linter.unusedVariables false
set_option maxRecDepth 100000
/- accounts: a refund is taken back -/
namespace Go.Proofs
open Go Go.Am
set_option maxHeartbeats 4000000 in
theorem undoRefund_calls (s : Stp) (hk : s.kind = 4) {H : AH} {I : WI} {S : WS} (w : WA H I S) :
    ACalls Try.prog 52 #[.pointer (some ⟨I.b, 0, none⟩), .agg (encStp s).toArray] H (fun v h' => v = undef ∧ ∃ I', WOkJ Try.prog 26 78 H I h' I' { S with refund := s.n }) := by
  have hb := at_old w.box
  unfold WI.cells at hb
  have w1 := w.app (t := [.cells (encStp s).toArray 0 true])
  have ok := w1.fields S.next s.n
  have fin := ok.pre
  unfold WI.cells at fin
  have inh : ∃ (v : Value) (h' : AH), v = undef ∧ ∃ I', WOkJ Try.prog 26 78 H I h' I' { S with refund := s.n } := ⟨_, _, rfl, _, ⟨fin, rfl⟩⟩
  refine ACalls.of_ay Try.func52 rfl Try.ntmps52 inh ?_; simp only [List.length_cons, List.length_nil, Nat.reduceAdd, Nat.reduceSub, List.replicate_succ, List.replicate_zero, List.cons_append, List.nil_append]
  simp (implicitDefEqProofs := false) (maxSteps := 2000000) only [go_sem, Nat.reduceAdd, Nat.reduceSub, Nat.reduceMul, Nat.reduceLT, Nat.reduceLeDiff, Nat.reduceEqDiff, Nat.reduceBEq, Nat.reduceBNe, Nat.reducePow, Int.reduceBEq, Int.reduceBNe, Int.reduceEq, Int.reduceLT, Int.reduceLE, Int.reduceNeg, Int.reduceToNat, Int.reduceMul, Int.reduceAdd, Int.reduceSub, Int.reducePow, Int.reduceFDiv, reduceCtorEq, reduceIte, hk, hb]
  exact ⟨undef, undef, _, rfl, Eases.refl, rfl, _, ⟨fin, rfl⟩⟩
end Go.Proofs

set_option linter.unusedSimpArgs false
set_option linter.unusedVariables false
set_option maxRecDepth 100000
/- accounts: a log is taken back -/
namespace Go.Proofs
open Go Go.Am
set_option maxHeartbeats 4000000 in
theorem undoLog_calls (s : Stp) (hk : s.kind = 5) {n : Nat} (hn : s.n = (n : Nat)) {H : AH} {I : WI} {S : WS} (w : WA H I S) (hl : n ≤ S.logs.length) :
    ACalls Try.prog 52 #[.pointer (some ⟨I.b, 0, none⟩), .agg (encStp s).toArray] H (fun v h' => v = undef ∧ ∃ I', WOkJ Try.prog 26 78 H I h' I' { S with logs := S.logs.take n }) := by
  have hb := at_old w.box
  unfold WI.cells at hb
  have w1 := w.app (t := [.cells (encStp s).toArray 0 true])
  have hf := w1.logsFront (t := 59) Try.slc59 hl
  have ok := w1.cutLogs hl
  have fin := ok.pre
  unfold WI.cells at fin
  have e : (S.logs.take n).length = n := by simp; omega
  simp only [e] at fin
  have inh : ∃ (v : Value) (h' : AH), v = undef ∧ ∃ I', WOkJ Try.prog 26 78 H I h' I' { S with logs := S.logs.take n } := ⟨_, _, rfl, _, ⟨fin, rfl⟩⟩
  refine ACalls.of_ay Try.func52 rfl Try.ntmps52 inh ?_; simp only [List.length_cons, List.length_nil, Nat.reduceAdd, Nat.reduceSub, List.replicate_succ, List.replicate_zero, List.cons_append, List.nil_append]
  simp (implicitDefEqProofs := false) (maxSteps := 2000000) only [go_sem, Nat.reduceAdd, Nat.reduceSub, Nat.reduceMul, Nat.reduceLT, Nat.reduceLeDiff, Nat.reduceEqDiff, Nat.reduceBEq, Nat.reduceBNe, Nat.reducePow, Int.reduceBEq, Int.reduceBNe, Int.reduceEq, Int.reduceLT, Int.reduceLE, Int.reduceNeg, Int.reduceToNat, Int.reduceMul, Int.reduceAdd, Int.reduceSub, Int.reducePow, Int.reduceFDiv, reduceCtorEq, reduceIte, hk, hb, hn, hf]
  refine ⟨by kernel_rfl, by kernel_rfl, .inr ⟨rfl, by decide⟩, ?_⟩
  exact ⟨undef, undef, _, rfl, Eases.refl, rfl, _, ⟨fin, rfl⟩⟩
end Go.Proofs

set_option linter.unusedSimpArgs false
set_option linter.unusedVariables false
set_option maxRecDepth 100000
/- accounts: any step is taken back -/
namespace Go.Proofs
open Go Go.Am
theorem undo_calls (s : Stp) {H : AH} {I : WI} {S : WS} (w : WA H I S) (ft : S.Fits s) :
    ACalls Try.prog 52 #[.pointer (some ⟨I.b, 0, none⟩), .agg (encStp s).toArray] H (fun v h' => v = undef ∧ ∃ I', WOkJ Try.prog 26 78 H I h' I' (S.undo s)) := by
  have lo := ft.lo
  have hi := ft.hi
  have c : s.kind = 0 ∨ s.kind = 1 ∨ s.kind = 2 ∨ s.kind = 3 ∨ s.kind = 4 ∨ s.kind = 5 ∨ s.kind = 6 := by omega
  unfold WS.undo
  rcases c with hk | hk | hk | hk | hk | hk | hk
  · have := undoAcc_calls s hk w
    simpa [hk] using this
  · have := undoSlot_calls s hk w
    simpa [hk] using this
  · have := undoTouch_calls s hk w
    simpa [hk] using this
  · have := undoLook_calls s hk w
    simpa [hk] using this
  · have := undoRefund_calls s hk w
    simpa [hk] using this
  · obtain ⟨h1, h2⟩ := ft.logs hk
    have := undoLog_calls s hk (n := s.n.toNat) (by omega) w h2
    simpa [hk] using this
  · have := undoDead_calls s hk w
    simpa [hk] using this
end Go.Proofs

set_option linter.unusedSimpArgs false
set_option linter.unusedVariables false
set_option maxRecDepth 100000
/- accounts: is it the mark that is sought -/
namespace Go.Proofs
open Go Go.Am
set_option maxHeartbeats 4000000 in
theorem isMark_calls (x : Mk) (n : Int) {b : Nat} {h : AH} (hb : h[b]? = some (.cells #[.int .i64 n] 0 true)) :
    ACalls Try.prog 50 #[.agg (encMk x).toArray, .pointer (some ⟨b, 0, none⟩)] h (fun v h' => v = .bool (decide (x.1 = n)) ∧ h' = h) := by
  have hbo := at_old hb
  refine ACalls.of_ay Try.func50 rfl Try.ntmps50 ⟨_, _, rfl, rfl⟩ ?_; simp only [List.length_cons, List.length_nil, Nat.reduceAdd, Nat.reduceSub, List.replicate_succ, List.replicate_zero, List.cons_append, List.nil_append]
  simp only [encMk]
  simp (implicitDefEqProofs := false) (maxSteps := 2000000) only [go_sem, Nat.reduceAdd, Nat.reduceSub, Nat.reduceMul, Nat.reduceLT, Nat.reduceLeDiff, Nat.reduceEqDiff, Nat.reduceBEq, Nat.reduceBNe, Nat.reducePow, Int.reduceBEq, Int.reduceBNe, Int.reduceEq, Int.reduceLT, Int.reduceLE, Int.reduceNeg, Int.reduceToNat, Int.reduceMul, Int.reduceAdd, Int.reduceSub, Int.reducePow, Int.reduceFDiv, reduceCtorEq, reduceIte, hbo]
  exact apost_tmp rfl rfl ⟨rfl, rfl⟩ _ _ rfl
end Go.Proofs

set_option linter.unusedSimpArgs false
set_option linter.unusedVariables false
set_option maxRecDepth 100000
/- accounts: where a mark lies -/
namespace Go.Proofs
open Go Go.Am
def idxM (n : Int) (l : List Mk) : Int := match l.findIdx? (fun x => decide (x.1 = n)) with | some i => (i : Nat) | none => -1
theorem idxM_at {n : Int} {l : List Mk} {i : Nat} (hi : i < l.length) (hp : decide (l[i].1 = n) = true) (hb : ∀ x ∈ l.take i, decide (x.1 = n) = false) : idxM n l = (i : Nat) := by
  have : l.findIdx? (fun x => decide (x.1 = n)) = some i := by
    rw [List.findIdx?_eq_some_iff_getElem]
    refine ⟨hi, hp, fun j hj => ?_⟩
    have := hb l[j] (by rw [List.mem_take_iff_getElem]; exact ⟨j, by omega, rfl⟩)
    simpa using this
  simp only [idxM, this]
theorem idxM_none {n : Int} {l : List Mk} (hb : ∀ x ∈ l, decide (x.1 = n) = false) : idxM n l = -1 := by
  have : l.findIdx? (fun x => decide (x.1 = n)) = none := by
    rw [List.findIdx?_eq_none_iff]; exact hb
  simp only [idxM, this]
/-- a part of a row's cells -/
theorem part_cells {α : Type} {enc : α → List Value} {m : Nat} (hm : ∀ x, (enc x).length = m) {c : Array Value} {l : List α} (h : c.extract 0 (l.length * m) = flatV enc l) {i : Nat} (hi : i < l.length) : c.extract (i * m) (i * m + m) = (enc l[i]).toArray := by
  have h1 := congrArg (fun a : Array Value => a.extract (i * m) (i * m + m)) h
  have hle : i * m + m ≤ l.length * m := by
    have := Nat.mul_le_mul_right m (Nat.succ_le_of_lt hi)
    rw [Nat.succ_mul] at this; exact this
  simp only [Array.extract_extract, Nat.zero_add] at h1
  rw [Nat.min_eq_left hle] at h1
  rw [h1]
  have hs : flatV enc l = flatV enc (l.take i) ++ (flatV enc [l[i]] ++ flatV enc (l.drop (i + 1))) := by
    rw [← flatV_append, ← flatV_append]
    congr 1
    simp
  have hsz : (flatV enc (l.take i)).size = i * m := by rw [flat_size hm, List.length_take, Nat.min_eq_left (Nat.le_of_lt hi)]
  have hsz2 : (flatV enc [l[i]]).size = m := by rw [flat_size hm]; simp
  have e1 : flatV enc [l[i]] = (enc l[i]).toArray := by simp [flatV]
  rw [hs, ← e1]
  apply Array.ext'
  have hz1 : (flatV enc (l.take i)).toList.length = i * m := by simpa using hsz
  have hz2 : (flatV enc [l[i]]).toList.length = m := by simpa using hsz2
  simp only [Array.toList_extract, List.extract_eq_take_drop, Array.toList_append]
  rw [← hz1, List.drop_left, Nat.add_sub_cancel_left]
  conv => lhs; rw [← hz2]
  rw [List.take_left]
end Go.Proofs

set_option linter.unusedSimpArgs false
set_option linter.unusedVariables false
set_option maxRecDepth 100000
/- accounts: where a mark lies, walked -/
namespace Go.Proofs
open Go Go.Am
theorem vrenFunc1 {L : Nat} {G : FuncId} {c : Value} (hc : VRen id L c c) : VRen id L (.func (.func G) #[] #[c]) (.func (.func G) #[] #[c]) :=
  .func _ _ _ _ _ rfl rfl (fun i => by simp; exact .junk _) rfl (fun i => match i with | 0 => hc | i + 1 => by simp; exact .junk _)
set_option maxHeartbeats 4000000 in
theorem indexM_calls {h : AH} {b : Nat} {c : Array Value} {cap : Nat} {l : List Mk} (hr : h[b]? = some (.cells c 2 true)) (hi : Row.Is (some (b, c, cap)) encMk 2 l) (hs : l.length < 2 ^ 62) (n : Int) {q : Nat} (hq : h[q]? = some (.cells #[.int .i64 n] 0 true)) :
    ACalls Try.prog 49 #[.slice (some ⟨b, 0, none⟩) l.length cap, .func (.func 50) #[] #[.pointer (some ⟨q, 0, none⟩)]] h (fun v h' => v = .int .i64 (idxM n l) ∧ h' = h) := by
  obtain ⟨h1, h2, h3⟩ := hi
  have lb : b < h.length := by
    rcases Nat.lt_or_ge b h.length with hh | hh
    · exact hh
    · rw [List.getElem?_eq_none hh] at hr; cases hr
  have lq : q < h.length := by
    rcases Nat.lt_or_ge q h.length with hh | hh
    · exact hh
    · rw [List.getElem?_eq_none hh] at hq; cases hq
  refine ACalls.of_ay Try.func49 rfl Try.ntmps49 ⟨_, _, rfl, rfl⟩ ?_; simp only [List.length_cons, List.length_nil, Nat.reduceAdd, Nat.reduceSub, List.replicate_succ, List.replicate_zero, List.cons_append, List.nil_append]
  simp (implicitDefEqProofs := false) (maxSteps := 2000000) only [go_sem, Nat.reduceAdd, Nat.reduceSub, Nat.reduceMul, Nat.reduceLT, Nat.reduceLeDiff, Nat.reduceEqDiff, Nat.reduceBEq, Nat.reduceBNe, Nat.reducePow, Int.reduceBEq, Int.reduceBNe, Int.reduceEq, Int.reduceLT, Int.reduceLE, Int.reduceNeg, Int.reduceToNat, Int.reduceMul, Int.reduceAdd, Int.reduceSub, Int.reducePow, Int.reduceFDiv, reduceCtorEq, reduceIte]
  refine AWP.loopI (fun i : Nat => l.length - i) (fun i => [.slice (some ⟨b, 0, none⟩) l.length cap, .func (.func 50) #[] #[.pointer (some ⟨q, 0, none⟩)], junk, junk, junk, junk, junk, .int .i64 (l.length : Nat), .int .i64 (i : Nat), junk, junk, junk, junk, junk, junk, junk, junk, junk, junk]) (fun _ => h) (fun i => i ≤ l.length ∧ ∀ x ∈ l.take i, decide (x.1 = n) = false) 0 ⟨Nat.zero_le _, by simp⟩ ?_ ?_
  · refine Keeps.ease0 ?_
    repeat (first | exact Keeps.nil | refine Keeps.junk _ ?_ | refine Keeps.keep (by first | exact .plain _ rfl | exact .slice _ _ _ _ _ lb rfl | exact vrenFunc1 (.ptr _ _ _ lq rfl)) ?_)
  · intro i hi
    obtain ⟨hi, hp⟩ := hi
    by_cases hlt : i < l.length
    · have hw1 : IntKind.i64.wrap ((i : Int) + 1) = ((i + 1 : Nat) : Int) := by rw [wrap_i64_of _ (by omega) (by omega), ofNat_succ']
      have hpart := part_cells length_encMk h3 hlt
      have hsz : i * 2 + 2 ≤ c.size := by rw [h1]; omega
      simp (implicitDefEqProofs := false) (maxSteps := 2000000) only [go_sem, Nat.reduceAdd, Nat.reduceSub, Nat.reduceMul, Nat.reduceLT, Nat.reduceLeDiff, Nat.reduceEqDiff, Nat.reduceBEq, Nat.reduceBNe, Nat.reducePow, Int.reduceBEq, Int.reduceBNe, Int.reduceEq, Int.reduceLT, Int.reduceLE, Int.reduceNeg, Int.reduceToNat, Int.reduceMul, Int.reduceAdd, Int.reduceSub, Int.reducePow, Int.reduceFDiv, reduceCtorEq, reduceIte, hlt, hr, hpart, hsz]
      refine astep_call (isMark_calls l[i] n hq) ?_
      cases hpx : decide (l[i].1 = n) with
      | true =>
        simp (implicitDefEqProofs := false) (maxSteps := 2000000) only [go_sem, Nat.reduceAdd, Nat.reduceSub, Nat.reduceMul, Nat.reduceLT, Nat.reduceLeDiff, Nat.reduceEqDiff, Nat.reduceBEq, Nat.reduceBNe, Nat.reducePow, Int.reduceBEq, Int.reduceBNe, Int.reduceEq, Int.reduceLT, Int.reduceLE, Int.reduceNeg, Int.reduceToNat, Int.reduceMul, Int.reduceAdd, Int.reduceSub, Int.reducePow, Int.reduceFDiv, reduceCtorEq, reduceIte]
        refine apost_tmp0 (v := .int .i64 (idxM n l)) rfl rfl ⟨rfl, rfl⟩ _ ?_; rw [idxM_at hlt hpx hp]; rfl
      | false =>
        simp (implicitDefEqProofs := false) (maxSteps := 2000000) only [go_sem, Nat.reduceAdd, Nat.reduceSub, Nat.reduceMul, Nat.reduceLT, Nat.reduceLeDiff, Nat.reduceEqDiff, Nat.reduceBEq, Nat.reduceBNe, Nat.reducePow, Int.reduceBEq, Int.reduceBNe, Int.reduceEq, Int.reduceLT, Int.reduceLE, Int.reduceNeg, Int.reduceToNat, Int.reduceMul, Int.reduceAdd, Int.reduceSub, Int.reducePow, Int.reduceFDiv, reduceCtorEq, reduceIte, hw1]
        refine ⟨i + 1, by omega, ⟨by omega, fun x hx => ?_⟩, Keeps.ease0 ?_⟩
        · rw [List.take_add_one, List.getElem?_eq_getElem hlt] at hx
          rcases List.mem_append.1 hx with hx | hx
          · exact hp x hx
          · simp at hx; rw [hx]; exact hpx
        · repeat (first | exact Keeps.nil | refine Keeps.junk _ ?_ | refine Keeps.keep (by first | exact .plain _ rfl | exact .slice _ _ _ _ _ lb rfl | exact vrenFunc1 (.ptr _ _ _ lq rfl)) ?_)
    · simp (implicitDefEqProofs := false) (maxSteps := 2000000) only [go_sem, Nat.reduceAdd, Nat.reduceSub, Nat.reduceMul, Nat.reduceLT, Nat.reduceLeDiff, Nat.reduceEqDiff, Nat.reduceBEq, Nat.reduceBNe, Nat.reducePow, Int.reduceBEq, Int.reduceBNe, Int.reduceEq, Int.reduceLT, Int.reduceLE, Int.reduceNeg, Int.reduceToNat, Int.reduceMul, Int.reduceAdd, Int.reduceSub, Int.reducePow, Int.reduceFDiv, reduceCtorEq, reduceIte, hlt]
      refine apost_tmp0 (v := .int .i64 (idxM n l)) rfl rfl ⟨rfl, rfl⟩ _ ?_; rw [idxM_none fun x hx => hp x (by rw [List.take_of_length_le (by omega)]; exact hx)]; rfl
set_option maxHeartbeats 4000000 in
theorem indexM0_calls {h : AH} (n : Int) {q : Nat} (hq : h[q]? = some (.cells #[.int .i64 n] 0 true)) :
    ACalls Try.prog 49 #[.slice none 0 0, .func (.func 50) #[] #[.pointer (some ⟨q, 0, none⟩)]] h (fun v h' => v = .int .i64 (-1) ∧ h' = h) := by
  have lq : q < h.length := by
    rcases Nat.lt_or_ge q h.length with hh | hh
    · exact hh
    · rw [List.getElem?_eq_none hh] at hq; cases hq
  refine ACalls.of_ay Try.func49 rfl Try.ntmps49 ⟨_, _, rfl, rfl⟩ ?_; simp only [List.length_cons, List.length_nil, Nat.reduceAdd, Nat.reduceSub, List.replicate_succ, List.replicate_zero, List.cons_append, List.nil_append]
  simp (implicitDefEqProofs := false) (maxSteps := 2000000) only [go_sem, Nat.reduceAdd, Nat.reduceSub, Nat.reduceMul, Nat.reduceLT, Nat.reduceLeDiff, Nat.reduceEqDiff, Nat.reduceBEq, Nat.reduceBNe, Nat.reducePow, Int.reduceBEq, Int.reduceBNe, Int.reduceEq, Int.reduceLT, Int.reduceLE, Int.reduceNeg, Int.reduceToNat, Int.reduceMul, Int.reduceAdd, Int.reduceSub, Int.reducePow, Int.reduceFDiv, reduceCtorEq, reduceIte]
  refine AWP.loopI (fun i : Nat => 0) (fun i => [junk, junk, junk, junk, junk, junk, junk, .int .i64 ((0 : Nat) : Int), .int .i64 ((0 : Nat) : Int), junk, junk, junk, junk, junk, junk, junk, junk, junk, junk]) (fun _ => h) (fun i => True) 0 trivial ?_ ?_
  · refine Keeps.ease0 ?_
    repeat (first | exact Keeps.nil | refine Keeps.junk _ ?_ | refine Keeps.keep (by first | exact .plain _ rfl | exact vrenFunc1 (.ptr _ _ _ lq rfl)) ?_)
  · intro i _
    simp (implicitDefEqProofs := false) (maxSteps := 2000000) only [go_sem, Nat.reduceAdd, Nat.reduceSub, Nat.reduceMul, Nat.reduceLT, Nat.reduceLeDiff, Nat.reduceEqDiff, Nat.reduceBEq, Nat.reduceBNe, Nat.reducePow, Int.reduceBEq, Int.reduceBNe, Int.reduceEq, Int.reduceLT, Int.reduceLE, Int.reduceNeg, Int.reduceToNat, Int.reduceMul, Int.reduceAdd, Int.reduceSub, Int.reducePow, Int.reduceFDiv, reduceCtorEq, reduceIte]
    exact apost_tmp0 (v := .int .i64 (-1)) rfl rfl ⟨rfl, rfl⟩ _ rfl
/-- in whatever row -/
theorem indexR_calls {h : AH} {r : Row} {l : List Mk} (hh : Holds h (r.lay 2)) (hi : r.Is encMk 2 l) (hs : l.length < 2 ^ 62) (n : Int) {q : Nat} (hq : h[q]? = some (.cells #[.int .i64 n] 0 true)) :
    ACalls Try.prog 49 #[r.val l.length, .func (.func 50) #[] #[.pointer (some ⟨q, 0, none⟩)]] h (fun v h' => v = .int .i64 (idxM n l) ∧ h' = h) := by
  cases r with
  | none =>
    have : l = [] := hi
    subst this
    exact indexM0_calls n hq
  | some p =>
    obtain ⟨b, c, cap⟩ := p
    exact indexM_calls (hh.get (by simp [Row.lay])) hi hs n hq
end Go.Proofs

set_option linter.unusedSimpArgs false
set_option linter.unusedVariables false
set_option maxRecDepth 100000
/- accounts: the journal from its end; a slot of an account forgotten -/
namespace Go.Proofs
open Go Go.Am
set_option maxHeartbeats 4000000 in
theorem isOf_calls (p : Plc) (x : Word4) (a : Addr20) {b : Nat} {h : AH} (hb : h[b]? = some (.cells (encAddr a).toArray 0 true)) :
    ACalls Try.prog 54 #[.agg (encPlc p).toArray, .agg (encWord x).toArray, .pointer (some ⟨b, 0, none⟩)] h (fun v h' => v = .bool (decide (p.addr = a)) ∧ h' = h) := by
  have hbo := at_old hb
  refine ACalls.of_ay Try.func54 rfl Try.ntmps54 ⟨_, _, rfl, rfl⟩ ?_; simp only [List.length_cons, List.length_nil, Nat.reduceAdd, Nat.reduceSub, List.replicate_succ, List.replicate_zero, List.cons_append, List.nil_append]
  have e1 : (encPlc p).toArray.extract 0 20 = (encAddr p.addr).toArray := by
    have := mid_part (a := []) (b := encAddr p.addr) (c := encWord p.key) (n := 0) (m := 20) rfl (length_encAddr _)
    rw [← this]; simp [encPlc]
  simp (implicitDefEqProofs := false) (maxSteps := 2000000) only [go_sem, Nat.reduceAdd, Nat.reduceSub, Nat.reduceMul, Nat.reduceLT, Nat.reduceLeDiff, Nat.reduceEqDiff, Nat.reduceBEq, Nat.reduceBNe, Nat.reducePow, Int.reduceBEq, Int.reduceBNe, Int.reduceEq, Int.reduceLT, Int.reduceLE, Int.reduceNeg, Int.reduceToNat, Int.reduceMul, Int.reduceAdd, Int.reduceSub, Int.reducePow, Int.reduceFDiv, reduceCtorEq, reduceIte, hbo, e1]
  exact apost_tmp rfl rfl ⟨rfl, rfl⟩ _ _ rfl
end Go.Proofs

set_option linter.unusedSimpArgs false
set_option linter.unusedVariables false
set_option maxRecDepth 100000
/- accounts: the journal from its end, the rounds -/
namespace Go.Proofs
open Go Go.Am
end Go.Proofs

set_option linter.unusedSimpArgs false
set_option linter.unusedVariables false
set_option maxRecDepth 100000
/- accounts: back to a mark that is not there -/
namespace Go.Proofs
open Go Go.Am
end Go.Proofs

set_option linter.unusedSimpArgs false
set_option linter.unusedVariables false
set_option maxRecDepth 100000
/- accounts: an account's slots are forgotten -/
namespace Go.Proofs
open Go Go.Am
open Classical in
/-- a slot of an account -/
noncomputable def ofA (a : Addr20) (e : MapEntry) : Bool := decide (∃ x : Plc, e.key = keyPlc x ∧ x.addr = a)
theorem ofA_key {a : Addr20} {e : MapEntry} {x : Plc} (h : e.key = keyPlc x) : ofA a e = decide (x.addr = a) := by
  unfold ofA
  by_cases hx : x.addr = a
  · simp only [hx, decide_true, decide_eq_true_eq]; exact ⟨x, h, hx⟩
  · simp only [hx, decide_false, decide_eq_false_iff_not]
    rintro ⟨y, hy, hya⟩
    exact hx (by rw [keyPlc_inj x y (h.symm.trans hy)]; exact hya)
set_option maxHeartbeats 4000000 in
theorem deleteFunc_calls (a : Addr20) {H : AH} {b q ck : Nat} {es : Array MapEntry} {f : Plc → Option Word4} (m : MFun Try.prog 78 keyPlc encWordV es ck f) (hb : H[b]? = some (.map 78 es ck)) (hq : H[q]? = some (.cells (encAddr a).toArray 0 true)) :
    ACalls Try.prog 53 #[.map (some b), .func (.func 54) #[] #[.pointer (some ⟨q, 0, none⟩)]] H
      (fun v h' => v = undef ∧ h'[b]? = some (.map 78 (es.toList.filter fun e => !ofA a e).toArray ck) ∧ Am.Rest [b] H h') := by
  have hbl : b < H.length := (List.getElem?_eq_some_iff.1 hb).1
  have hql : q < H.length := (List.getElem?_eq_some_iff.1 hq).1
  have hne : q ≠ b := fun e => by rw [e, hb] at hq; cases hq
  refine ACalls.of_ay Try.func53 rfl Try.ntmps53 ⟨undef, H.set b (.map 78 (es.toList.filter fun e => !ofA a e).toArray ck), rfl, List.getElem?_set_self hbl, Rest.set (by simp)⟩ ?_; simp only [List.length_cons, List.length_nil, Nat.reduceAdd, Nat.reduceSub, List.replicate_succ, List.replicate_zero, List.cons_append, List.nil_append]
  have hr : amRange Try.prog H 67 (.map (some b)) = some (.pointer (some ⟨H.length, 0, none⟩), H ++ [.miter (some b) ck #[] ck]) := amRangeM Try.underlying67 hb
  simp (implicitDefEqProofs := false) (maxSteps := 2000000) only [go_sem, Nat.reduceAdd, Nat.reduceSub, Nat.reduceMul, Nat.reduceLT, Nat.reduceLeDiff, Nat.reduceEqDiff, Nat.reduceBEq, Nat.reduceBNe, Nat.reducePow, Int.reduceBEq, Int.reduceBNe, Int.reduceEq, Int.reduceLT, Int.reduceLE, Int.reduceNeg, Int.reduceToNat, Int.reduceMul, Int.reduceAdd, Int.reduceSub, Int.reducePow, Int.reduceFDiv, reduceCtorEq, reduceIte, hr]
  refine AWP.loopI (ι := List MapEntry × AH) (fun i => es.size - i.1.length) (fun i => [.map (some b), .func (.func 54) #[] #[.pointer (some ⟨q, 0, none⟩)], junk, junk, junk, junk, junk, .pointer (some ⟨H.length, 0, none⟩), junk, junk, junk, junk, junk, junk, junk, junk, junk, junk, junk]) (fun i => i.2)
    (fun i => i.2[b]? = some (.map 78 (sweep (ofA a) i.1 es.toList).toArray ck) ∧ i.2[H.length]? = some (miterO b ck i.1) ∧ Am.Rest [b, H.length] H i.2 ∧ (∀ e ∈ i.1, e ∈ es.toList) ∧ (i.1.map (·.born)).Nodup)
    ([], H ++ [miterO b ck []]) ⟨by rw [sweep_nil, List.getElem?_append_left hbl]; exact hb, by simp, Rest.app, by simp, by simp⟩ ?_ ?_
  · refine KeepsJ.ease ?_
    repeat (first | exact .nil | refine .junk _ ?_ | refine .keep _ ?_)
  · rintro ⟨pre, h⟩ ⟨h1, h2, h3, h4, h5⟩
    simp only at h1 h2 h3 h4 h5 ⊢
    have hok := sweep_ok (d := ofA a) (pre := pre) m.ok
    have hn := amNextM h2 h1 (by simpa using hok)
    simp (implicitDefEqProofs := false) (maxSteps := 2000000) only [go_sem, Nat.reduceAdd, Nat.reduceSub, Nat.reduceMul, Nat.reduceLT, Nat.reduceLeDiff, Nat.reduceEqDiff, Nat.reduceBEq, Nat.reduceBNe, Nat.reducePow, Int.reduceBEq, Int.reduceBNe, Int.reduceEq, Int.reduceLT, Int.reduceLE, Int.reduceNeg, Int.reduceToNat, Int.reduceMul, Int.reduceAdd, Int.reduceSub, Int.reducePow, Int.reduceFDiv, reduceCtorEq, reduceIte, hn]
    intro v H1 hv
    rcases hv with ⟨hz, hv, hH⟩ | ⟨e, he, hv, hH⟩
    · subst hH
      simp (implicitDefEqProofs := false) (maxSteps := 2000000) only [go_sem, Nat.reduceAdd, Nat.reduceSub, Nat.reduceMul, Nat.reduceLT, Nat.reduceLeDiff, Nat.reduceEqDiff, Nat.reduceBEq, Nat.reduceBNe, Nat.reducePow, Int.reduceBEq, Int.reduceBNe, Int.reduceEq, Int.reduceLT, Int.reduceLE, Int.reduceNeg, Int.reduceToNat, Int.reduceMul, Int.reduceAdd, Int.reduceSub, Int.reducePow, Int.reduceFDiv, reduceCtorEq, reduceIte, hv]
      exact ⟨undef, undef, _, rfl, Eases.refl, rfl, by rw [sweep_done hz] at h1; exact h1, h3.cut (by simp)⟩
    · obtain ⟨hes0, hnp⟩ := left_mem he
      have hes := (sweep_mem.1 (by simpa using hes0)).1
      rw [miter_push] at hH
      have hlt : H.length < h.length := (List.getElem?_eq_some_iff.1 h2).1
      have g1 : H1[b]? = some (.map 78 (sweep (ofA a) pre es.toList).toArray ck) := by rw [hH, List.getElem?_set_ne (by omega)]; exact h1
      have g2 : H1[H.length]? = some (miterO b ck (pre ++ [e])) := by rw [hH, List.getElem?_set_self hlt]
      have g3 : Am.Rest [b, H.length] H H1 := by rw [hH]; exact h3.trans (Rest.set (O := [b, H.length]) (by simp)) (Gets.refl _ _)
      obtain ⟨x, hx⟩ := m.keys e hes
      obtain ⟨w, hw⟩ := m.vals e hes
      have hent := entryOfM g2 g1 (by simpa using hok) hes0
      have h5' : ((pre ++ [e]).map (·.born)).Nodup := by
        rw [List.map_append, List.nodup_append]
        refine ⟨h5, by simp, fun p hp q hq => ?_⟩
        simp only [List.map_cons, List.map_nil, List.mem_singleton] at hq
        subst hq
        intro hab; subst hab; exact hnp hp
      have h4' : ∀ z ∈ pre ++ [e], z ∈ es.toList := fun z hz => by
        rcases List.mem_append.1 hz with hz | hz
        · exact h4 z hz
        · rw [List.mem_singleton] at hz; subst hz; exact hes
      have hlen : pre.length < es.size := by
        have h6 := nodup_len h5' (m := es.toList.map (·.born)) (by
          intro y hy
          obtain ⟨z, hz, rfl⟩ := List.mem_map.1 hy
          exact List.mem_map_of_mem (h4' z hz))
        simp at h6; omega
      have hq1 := at_old (g3.same q _ hq rfl (by simp; omega))
      have hdel := sweep_del (t := 67) (z := .agg (encWord zeroW).toArray) (d := ofA a) (H := H1 ++ ([.cells (encPlc x).toArray 0 true] ++ [.cells (encWord w).toArray 0 true])) (b := b) Try.mp67 m.ok hes hnp
      have hda := ofA_key (a := a) hx
      rw [hx, hw] at hv hent
      rw [hx] at hdel
      unfold keyPlc at hv hent hdel
      simp (implicitDefEqProofs := false) (maxSteps := 2000000) only [go_sem, Nat.reduceAdd, Nat.reduceSub, Nat.reduceMul, Nat.reduceLT, Nat.reduceLeDiff, Nat.reduceEqDiff, Nat.reduceBEq, Nat.reduceBNe, Nat.reducePow, Int.reduceBEq, Int.reduceBNe, Int.reduceEq, Int.reduceLT, Int.reduceLE, Int.reduceNeg, Int.reduceToNat, Int.reduceMul, Int.reduceAdd, Int.reduceSub, Int.reducePow, Int.reduceFDiv, reduceCtorEq, reduceIte, hv, hent]
      refine astep_call (isOf_calls x w a (hq1 _)) ?_
      by_cases hxa : x.addr = a
      · rw [decide_eq_true hxa] at hda
        have hd1 := hdel hda (by rw [List.getElem?_append_left (List.getElem?_eq_some_iff.1 g1).1]; exact g1)
        simp only [List.cons_append, List.nil_append] at hd1
        have hlt1 : b < H1.length := (List.getElem?_eq_some_iff.1 g1).1
        have hlt2 : H.length < H1.length := (List.getElem?_eq_some_iff.1 g2).1
        simp (implicitDefEqProofs := false) (maxSteps := 2000000) only [go_sem, Nat.reduceAdd, Nat.reduceSub, Nat.reduceMul, Nat.reduceLT, Nat.reduceLeDiff, Nat.reduceEqDiff, Nat.reduceBEq, Nat.reduceBNe, Nat.reducePow, Int.reduceBEq, Int.reduceBNe, Int.reduceEq, Int.reduceLT, Int.reduceLE, Int.reduceNeg, Int.reduceToNat, Int.reduceMul, Int.reduceAdd, Int.reduceSub, Int.reducePow, Int.reduceFDiv, reduceCtorEq, reduceIte, hxa, decide_true, hd1]
        refine ⟨(pre ++ [e], _), by simp; omega, ⟨?_, ?_, ?_, h4', h5'⟩, KeepsJ.ease ?_⟩
        · exact List.getElem?_set_self (by simp; omega)
        · show (List.set _ b _)[H.length]? = _
          rw [List.getElem?_set_ne (by omega), List.getElem?_append_left hlt2]; exact g2
        · exact (g3.trans (Rest.app (O := [b, H.length])) (Gets.refl _ _)).trans (Rest.set (O := [b, H.length]) (by simp)) (Gets.refl _ _)
        · repeat (first | exact .nil | refine .keep _ ?_ | refine .junk _ ?_)
      · rw [decide_eq_false hxa] at hda
        have hk := sweep_keep (pre := pre) m.ok.born hes hda
        have hlt1 : b < H1.length := (List.getElem?_eq_some_iff.1 g1).1
        have hlt2 : H.length < H1.length := (List.getElem?_eq_some_iff.1 g2).1
        simp (implicitDefEqProofs := false) (maxSteps := 2000000) only [go_sem, Nat.reduceAdd, Nat.reduceSub, Nat.reduceMul, Nat.reduceLT, Nat.reduceLeDiff, Nat.reduceEqDiff, Nat.reduceBEq, Nat.reduceBNe, Nat.reducePow, Int.reduceBEq, Int.reduceBNe, Int.reduceEq, Int.reduceLT, Int.reduceLE, Int.reduceNeg, Int.reduceToNat, Int.reduceMul, Int.reduceAdd, Int.reduceSub, Int.reducePow, Int.reduceFDiv, reduceCtorEq, reduceIte, hxa, decide_false]
        refine ⟨(pre ++ [e], _), by simp; omega, ⟨?_, ?_, ?_, h4', h5'⟩, KeepsJ.ease ?_⟩
        · show (H1 ++ _)[b]? = _
          rw [hk, List.getElem?_append_left hlt1]; exact g1
        · show (H1 ++ _)[H.length]? = _
          rw [List.getElem?_append_left hlt2]; exact g2
        · exact g3.trans (Rest.app (O := [b, H.length])) (Gets.refl _ _)
        · repeat (first | exact .nil | refine .keep _ ?_ | refine .junk _ ?_)
end Go.Proofs

set_option linter.unusedSimpArgs false
set_option linter.unusedVariables false
set_option maxRecDepth 100000
/- accounts: an account is forgotten -/
namespace Go.Proofs
open Go Go.Am
set_option maxHeartbeats 4000000 in
theorem forget_calls (a : Addr20) {H : AH} {b ba bs ckA ckS : Nat} {c : Array Value} {esA esS : Array MapEntry} {f : Addr20 → Option Acc} {g : Plc → Option Word4} (hb : H[b]? = some (.cells c 0 true)) (h0 : c[0]? = some (.map (some ba))) (h1 : c[1]? = some (.map (some bs)))
    (mA : MFun Try.prog 26 keyAddr encAccV esA ckA f) (hA : H[ba]? = some (.map 26 esA ckA)) (mS : MFun Try.prog 78 keyPlc encWordV esS ckS g) (hS : H[bs]? = some (.map 78 esS ckS)) :
    ACalls Try.prog 32 #[.pointer (some ⟨b, 0, none⟩), .agg (encAddr a).toArray] H (fun v h' => v = undef ∧ ∃ eA eS, MFun Try.prog 26 keyAddr encAccV eA ckA (fun y => if y = a then none else f y) ∧ MFun Try.prog 78 keyPlc encWordV eS ckS (fun y => if y.addr = a then none else g y) ∧
      h'[ba]? = some (.map 26 eA ckA) ∧ h'[bs]? = some (.map 78 eS ckS) ∧ Am.Rest [ba, bs] H h') := by
  have hne : ba ≠ bs := fun e => by rw [e, hS] at hA; exact absurd hA (by simp)
  have hneb : b ≠ ba := fun e => by rw [e, hA] at hb; cases hb
  have hneb2 : b ≠ bs := fun e => by rw [e, hS] at hb; cases hb
  obtain ⟨eA, mA', hx⟩ := mA.del (t := 66) (z := .agg ⟨[.int .u64 0, .int .u64 0, .int .u64 0, .int .u64 0, .int .u64 0, .string ⟨⟨[]⟩⟩]⟩) Try.mp66 a
  have mS' := mS.filter (d := ofA a) (dk := fun y => decide (y.addr = a)) (fun e he x hx => ofA_key hx)
  have hla : ba < H.length := (List.getElem?_eq_some_iff.1 hA).1
  have hls : bs < H.length := (List.getElem?_eq_some_iff.1 hS).1
  have hlb : b < H.length := (List.getElem?_eq_some_iff.1 hb).1
  have fin : ∀ h' : AH, Am.Rest [bs] ((H ++ [AObj.cells (encAddr a).toArray 0 true]).set ba (.map 26 eA ckA)) h' → h'[bs]? = some (.map 78 (esS.toList.filter fun e => !ofA a e).toArray ckS) →
      ∃ eA eS, MFun Try.prog 26 keyAddr encAccV eA ckA (fun y => if y = a then none else f y) ∧ MFun Try.prog 78 keyPlc encWordV eS ckS (fun y => if y.addr = a then none else g y) ∧ h'[ba]? = some (.map 26 eA ckA) ∧ h'[bs]? = some (.map 78 eS ckS) ∧ Am.Rest [ba, bs] H h' := by
    intro h' r hb'
    refine ⟨eA, _, mA', by simpa using mS', ?_, hb', ?_⟩
    · exact r.same ba _ (List.getElem?_set_self (by simp; omega)) rfl (by simpa using hne)
    · exact ((Rest.app (O := [ba, bs])).trans (Rest.set (O := [ba, bs]) (by simp)) (Gets.refl _ _)).trans (r.mono (O' := [ba, bs]) (by simp)) (Gets.refl _ _)
  have inh : ∃ h' : AH, Am.Rest [bs] ((H ++ [AObj.cells (encAddr a).toArray 0 true]).set ba (.map 26 eA ckA)) h' ∧ h'[bs]? = some (.map 78 (esS.toList.filter fun e => !ofA a e).toArray ckS) :=
    ⟨_, Rest.set (by simp), List.getElem?_set_self (by simp; omega)⟩
  obtain ⟨hi, hi1, hi2⟩ := inh
  refine ACalls.of_ay Try.func32 rfl Try.ntmps32 ⟨undef, hi, rfl, fin hi hi1 hi2⟩ ?_; simp only [List.length_cons, List.length_nil, Nat.reduceAdd, Nat.reduceSub, List.replicate_succ, List.replicate_zero, List.cons_append, List.nil_append]
  have hb1 := at_old hb
  have hx1 := hx (at_old hA [.cells (encAddr a).toArray 0 true])
  unfold keyAddr at hx1
  simp (implicitDefEqProofs := false) (maxSteps := 2000000) only [go_sem, Nat.reduceAdd, Nat.reduceSub, Nat.reduceMul, Nat.reduceLT, Nat.reduceLeDiff, Nat.reduceEqDiff, Nat.reduceBEq, Nat.reduceBNe, Nat.reducePow, Int.reduceBEq, Int.reduceBNe, Int.reduceEq, Int.reduceLT, Int.reduceLE, Int.reduceNeg, Int.reduceToNat, Int.reduceMul, Int.reduceAdd, Int.reduceSub, Int.reducePow, Int.reduceFDiv, reduceCtorEq, reduceIte, hb1, h0, h1, length_encAddr, hx1]
  refine ⟨by kernel_rfl, by kernel_rfl, .inr ⟨rfl, by decide⟩, ?_⟩
  have hb2 : (List.set (H ++ [AObj.cells (encAddr a).toArray 0 true]) ba (AObj.map 26 eA ckA))[b]? = some (.cells c 0 true) := by
    rw [List.getElem?_set_ne (fun e => hneb e.symm)]; exact at_old hb _
  simp (implicitDefEqProofs := false) (maxSteps := 2000000) only [go_sem, Nat.reduceAdd, Nat.reduceSub, Nat.reduceMul, Nat.reduceLT, Nat.reduceLeDiff, Nat.reduceEqDiff, Nat.reduceBEq, Nat.reduceBNe, Nat.reducePow, Int.reduceBEq, Int.reduceBNe, Int.reduceEq, Int.reduceLT, Int.reduceLE, Int.reduceNeg, Int.reduceToNat, Int.reduceMul, Int.reduceAdd, Int.reduceSub, Int.reducePow, Int.reduceFDiv, reduceCtorEq, reduceIte, hb2, h1]
  refine astep_calls (deleteFunc_calls a mS (q := H.length) (b := bs) ?_ ?_) ?_
  · rw [List.getElem?_set_ne hne]; exact at_old hS _
  · rw [List.getElem?_set_ne (by omega)]; simp
  · rintro v h' ⟨hv, g1, g2⟩
    simp (implicitDefEqProofs := false) (maxSteps := 2000000) only [go_sem, Nat.reduceAdd, Nat.reduceSub, Nat.reduceMul, Nat.reduceLT, Nat.reduceLeDiff, Nat.reduceEqDiff, Nat.reduceBEq, Nat.reduceBNe, Nat.reducePow, Int.reduceBEq, Int.reduceBNe, Int.reduceEq, Int.reduceLT, Int.reduceLE, Int.reduceNeg, Int.reduceToNat, Int.reduceMul, Int.reduceAdd, Int.reduceSub, Int.reducePow, Int.reduceFDiv, reduceCtorEq, reduceIte, hv]
    exact ⟨undef, undef, _, rfl, Eases.refl, rfl, fin _ g2 g1⟩
end Go.Proofs

set_option linter.unusedSimpArgs false
set_option linter.unusedVariables false
set_option maxRecDepth 100000
/- accounts that are handed in: parts, how many -/
namespace Go.Proofs
open Go Go.Am
theorem ent_code (e : Ent) : (encEnt e)[25]? = some (slV encU8 e.code) := by simp [encEnt, List.getElem?_append, length_encAddr, length_encWord]
theorem ent_slots (e : Ent) : (encEnt e)[26]? = some (slV encSlt e.slots) := by simp [encEnt, List.getElem?_append, length_encAddr, length_encWord]
theorem load_ent25 {l : List Ent} {i : Nat} (hi : i < l.length) : mkLoadF (flatV encEnt l) (i * 27 + 25) (some (false, 1)) = some (slV encU8 l[i].code) :=
  (loadF_part (off := 25) (m := 1) length_encEnt hi (by omega) (by omega)).trans (by rw [← ent_code]; simp [mkLoadF])
theorem load_ent26 {l : List Ent} {i : Nat} (hi : i < l.length) : mkLoadF (flatV encEnt l) (i * 27 + 26) (some (false, 1)) = some (slV encSlt l[i].slots) :=
  (loadF_part (off := 26) (m := 1) length_encEnt hi (by omega) (by omega)).trans (by rw [← ent_slots]; simp [mkLoadF])
attribute [go_sem] length_encEnt load_ent25 load_ent26
def ents : List Ent → Nat
  | [] => 0
  | e :: l => 1 + e.code.l.length / 16 + e.slots.l.length + ents l
theorem ents_app (a b : List Ent) : ents (a ++ b) = ents a + ents b := by
  induction a with
  | nil => simp [ents]
  | cons x a ih => simp [ents, ih]; omega
theorem ents_take {l : List Ent} {i : Nat} (hi : i < l.length) : ents (l.take (i + 1)) = ents (l.take i) + (1 + l[i].code.l.length / 16 + l[i].slots.l.length) := by
  rw [List.take_add_one, List.getElem?_eq_getElem hi, ents_app]; simp [ents]
theorem ents_le (l : List Ent) (i : Nat) : ents (l.take i) ≤ ents l := by
  have : ents l = ents (l.take i) + ents (l.drop i) := by rw [← ents_app, List.take_append_drop]
  omega
set_option maxHeartbeats 4000000 in
theorem ents_calls (s : Sl Ent) (hs : s.l.length < 2 ^ 63) (hc : ∀ e ∈ s.l, e.code.l.length < 2 ^ 63 ∧ e.slots.l.length < 2 ^ 62) (h : AH) :
    ACalls Try.prog 7 #[slV encEnt s, .int .i64 300] h (fun v h' => ∃ n : Nat, v = .int .i64 n ∧ (n ≤ 300 ↔ ents s.l ≤ 300) ∧ h' = h) := by
  refine ACalls.of_ay Try.func7 rfl Try.ntmps7 ⟨_, _, min (ents s.l) 301, rfl, by omega, rfl⟩ ?_; simp only [List.length_cons, List.length_nil, Nat.reduceAdd, Nat.reduceSub, List.replicate_succ, List.replicate_zero, List.cons_append, List.nil_append]
  simp (implicitDefEqProofs := false) (maxSteps := 2000000) only [go_sem, Nat.reduceAdd, Nat.reduceSub, Nat.reduceMul, Nat.reduceLT, Nat.reduceLeDiff, Nat.reduceEqDiff, Nat.reduceBEq, Nat.reduceBNe, Nat.reducePow, Int.reduceBEq, Int.reduceBNe, Int.reduceEq, Int.reduceLT, Int.reduceLE, Int.reduceNeg, Int.reduceToNat, Int.reduceMul, Int.reduceAdd, Int.reduceSub, Int.reducePow, Int.reduceFDiv, reduceCtorEq, reduceIte]
  refine AWP.loopI (fun i : Nat => s.l.length - i) (fun i => [slV encEnt s, .int .i64 300, junk, junk, junk, .int .i64 ((ents (s.l.take i) : Nat) : Int), .int .i64 (i : Nat), junk, junk, junk, junk, junk, junk, junk, junk, junk, junk, junk, junk, junk, junk, junk, junk, junk, junk, junk, junk, junk, junk, junk, junk, junk, junk, junk, junk, junk, junk, junk]) (fun _ => h) (fun i => i ≤ s.l.length ∧ ents (s.l.take i) < 2 ^ 63) 0 ⟨Nat.zero_le _, by simp [ents]⟩ ?_ ?_
  · refine Keeps.ease0 ?_
    repeat (first | exact Keeps.nil | refine Keeps.junk _ ?_ | refine Keeps.keep (by first | exact .plain _ rfl | exact (Tree.slV tree_encEnt _).ren) ?_)
  · intro i hi
    obtain ⟨hi, hb⟩ := hi
    by_cases hlt : i < s.l.length
    · by_cases hle : ents (s.l.take i) ≤ 300
      · have hle' : ((ents (s.l.take i) : Nat) : Int) ≤ 300 := by omega
        simp (implicitDefEqProofs := false) (maxSteps := 2000000) only [go_sem, Nat.reduceAdd, Nat.reduceSub, Nat.reduceMul, Nat.reduceLT, Nat.reduceLeDiff, Nat.reduceEqDiff, Nat.reduceBEq, Nat.reduceBNe, Nat.reducePow, Int.reduceBEq, Int.reduceBNe, Int.reduceEq, Int.reduceLT, Int.reduceLE, Int.reduceNeg, Int.reduceToNat, Int.reduceMul, Int.reduceAdd, Int.reduceSub, Int.reducePow, Int.reduceFDiv, reduceCtorEq, reduceIte, hlt, hle']
        refine ⟨by kernel_rfl, by kernel_rfl, ?_⟩
        have hcl := hc _ (List.getElem_mem hlt)
        have e1 : ((s.l[i].code.l.length : Nat) : Int).tdiv 16 = ((s.l[i].code.l.length / 16 : Nat) : Int) := rfl
        have e2 : (1 : Int) + ((s.l[i].code.l.length / 16 : Nat) : Int) = ((1 + s.l[i].code.l.length / 16 : Nat) : Int) := by omega
        rw [e1, wrap_i64_of ((s.l[i].code.l.length / 16 : Nat) : Int) (by omega) (by omega), e2, wrap_i64_of ((1 + s.l[i].code.l.length / 16 : Nat) : Int) (by omega) (by omega), ← Int.natCast_add (1 + s.l[i].code.l.length / 16), wrap_i64_of ((1 + s.l[i].code.l.length / 16 + s.l[i].slots.l.length : Nat) : Int) (by omega) (by omega), ← Int.natCast_add, wrap_i64_of ((ents (s.l.take i) + (1 + s.l[i].code.l.length / 16 + s.l[i].slots.l.length) : Nat) : Int) (by omega) (by omega), wrap_i64_of _ (by omega) (by omega), ofNat_succ', ← ents_take hlt]
        refine ⟨i + 1, by omega, ⟨by omega, by rw [ents_take hlt]; omega⟩, Keeps.ease0 ?_⟩
        repeat (first | exact Keeps.nil | refine Keeps.junk _ ?_ | refine Keeps.keep (by first | exact .plain _ rfl | exact (Tree.slV tree_encEnt _).ren) ?_)
      · have hle' : ¬ ((ents (s.l.take i) : Nat) : Int) ≤ 300 := by omega
        simp (implicitDefEqProofs := false) (maxSteps := 2000000) only [go_sem, Nat.reduceAdd, Nat.reduceSub, Nat.reduceMul, Nat.reduceLT, Nat.reduceLeDiff, Nat.reduceEqDiff, Nat.reduceBEq, Nat.reduceBNe, Nat.reducePow, Int.reduceBEq, Int.reduceBNe, Int.reduceEq, Int.reduceLT, Int.reduceLE, Int.reduceNeg, Int.reduceToNat, Int.reduceMul, Int.reduceAdd, Int.reduceSub, Int.reducePow, Int.reduceFDiv, reduceCtorEq, reduceIte, hlt, hle']
        have := ents_le s.l i
        exact apost_tmp0 (v := .int .i64 ((ents (s.l.take i) : Nat) : Int)) rfl rfl ⟨_, rfl, by omega, rfl⟩ _ rfl
    · simp (implicitDefEqProofs := false) (maxSteps := 2000000) only [go_sem, Nat.reduceAdd, Nat.reduceSub, Nat.reduceMul, Nat.reduceLT, Nat.reduceLeDiff, Nat.reduceEqDiff, Nat.reduceBEq, Nat.reduceBNe, Nat.reducePow, Int.reduceBEq, Int.reduceBNe, Int.reduceEq, Int.reduceLT, Int.reduceLE, Int.reduceNeg, Int.reduceToNat, Int.reduceMul, Int.reduceAdd, Int.reduceSub, Int.reducePow, Int.reduceFDiv, reduceCtorEq, reduceIte, hlt]
      have hie : i = s.l.length := by omega
      subst hie
      rw [List.take_length] at hb ⊢
      exact apost_tmp0 (v := .int .i64 ((ents s.l : Nat) : Int)) rfl rfl ⟨_, rfl, by omega, rfl⟩ _ rfl
end Go.Proofs

set_option linter.unusedSimpArgs false
set_option linter.unusedVariables false
set_option maxRecDepth 100000
/- accounts: a transaction begins in a new world; accounts that are read -/
namespace Go.Proofs
open Go Go.Am Go.Am.D
set_option maxHeartbeats 4000000 in
theorem begin0_calls {H : AH} {b : Nat} {c : Array Value} {mA mS : MB} {f : Addr20 → Option Acc} {g : Plc → Option Word4} (hb : H[b]? = some (.cells c 0 true)) (hc : c.size = 11) (h0 : c[0]? = some (.map (some mA.b))) (h1 : c[1]? = some (.map (some mS.b))) (hA : H[mA.b]? = some (.map 26 mA.es mA.ck)) (hS : H[mS.b]? = some (.map 78 mS.es mS.ck)) (hne : mA.b ≠ mS.b)
    (fA : MFun Try.prog 26 keyAddr encAccV mA.es mA.ck f) (fS : MFun Try.prog 78 keyPlc encWordV mS.es mS.ck g) :
    ACalls Try.prog 20 #[.pointer (some ⟨b, 0, none⟩)] H (fun v h' => v = undef ∧ ∃ I', WA h' I' ⟨f, g, fun _ => none, fun _ => none, fun _ => none, fun _ => none, 0, [], [], [], 0⟩ ∧ Am.Rest [b] H h' ∧ Gets [b, mA.b, mS.b] H I'.own ∧ I'.b = b) := by
  have inh : ∃ (v : Value) (h' : AH), v = undef ∧ ∃ I', WA h' I' ⟨f, g, fun _ => none, fun _ => none, fun _ => none, fun _ => none, 0, [], [], [], 0⟩ ∧ Am.Rest [b] H h' ∧ Gets [b, mA.b, mS.b] H I'.own ∧ I'.b = b := by
    obtain ⟨I', h⟩ := begun0_at hb hA hS hne fA fS keyedAddr keyedPlc keyTyAddr keyTyPlc fresh_end fresh_end fresh_end fresh_end
    exact ⟨_, _, rfl, I', h⟩
  refine ACalls.of_aw Try.func20 rfl Try.ntmps20 inh ?_; simp only [List.length_cons, List.length_nil, Nat.reduceAdd, Nat.reduceSub, List.replicate_succ, List.replicate_zero, List.cons_append, List.nil_append]
  have m1 : D.mkOb Try.prog (.makeMap 68 none) = some (.map 26 #[] 0) := by kernel_rfl
  have m2 : D.mkOb Try.prog (.makeMap 69 none) = some (.map 78 #[] 0) := by kernel_rfl
  have m3 : D.mkOb Try.prog (.makeMap 67 none) = some (.map 78 #[] 0) := by kernel_rfl
  refine D.AWP.drawS H pres_refl (by kernel_rfl) (by kernel_rfl) ?_
  simp (implicitDefEqProofs := false) (maxSteps := 2000000) only [go_sem, Nat.reduceAdd, Nat.reduceSub, Nat.reduceMul, Nat.reduceLT, Nat.reduceLeDiff, Nat.reduceEqDiff, Nat.reduceBEq, Nat.reduceBNe, Nat.reducePow, Int.reduceBEq, Int.reduceBNe, Int.reduceEq, Int.reduceLT, Int.reduceLE, Int.reduceNeg, Int.reduceToNat, Int.reduceMul, Int.reduceAdd, Int.reduceSub, Int.reducePow, Int.reduceFDiv, reduceCtorEq, reduceIte, hb, h0, h1, m1, m2, m3]
  intro b1 f1 b2 f2 b3 f3 b4 f4
  have rr : Am.Rest [] H (hset (hset (hset (hset H b1 (.map 26 #[] 0)) b2 (.map 78 #[] 0)) b3 (.map 78 #[] 0)) b4 (.map 26 #[] 0)) :=
    (((Am.Rest.hset f1).trans (Am.Rest.hset f2) (Gets.refl _ _)).trans (Am.Rest.hset f3) (Gets.refl _ _)).trans (Am.Rest.hset f4) (Gets.refl _ _)
  have hb2 := rr.same _ _ hb rfl (by simp)
  have hbl : ∀ vs : List Value, vs.length = 11 → blit c 0 vs = vs.toArray := fun vs hv => blit_whole c vs (by omega)
  simp (implicitDefEqProofs := false) (maxSteps := 2000000) only [go_sem, Nat.reduceAdd, Nat.reduceSub, Nat.reduceMul, Nat.reduceLT, Nat.reduceLeDiff, Nat.reduceEqDiff, Nat.reduceBEq, Nat.reduceBNe, Nat.reducePow, Int.reduceBEq, Int.reduceBNe, Int.reduceEq, Int.reduceLT, Int.reduceLE, Int.reduceNeg, Int.reduceToNat, Int.reduceMul, Int.reduceAdd, Int.reduceSub, Int.reducePow, Int.reduceFDiv, reduceCtorEq, reduceIte, hb2, hc, hbl]
  refine ⟨.inr ⟨rfl, by decide⟩, ?_⟩
  obtain ⟨I', hI⟩ := begun0_at hb hA hS hne fA fS keyedAddr keyedPlc keyTyAddr keyTyPlc f1 f2 f3 f4
  exact ⟨undef, undef, _, rfl, Eases.refl, rfl, I', hI⟩
abbrev EsIn (H : AH) (O : List Nat) (v : Value) (L : List Ent) := EntsIn Try.prog 22 35 31 65 30 9 H O v L
end Go.Proofs

set_option linter.unusedSimpArgs false
set_option linter.unusedVariables false
set_option maxRecDepth 100000
/- accounts: a new world -/
namespace Go.Proofs
open Go Go.Am Go.Am.D
theorem acc_build (n : UInt64) (w : Word4) (c : List UInt8) : (blit ((#[Value.int .u64 0] ++ (#[Value.int .u64 0, Value.int .u64 0, Value.int .u64 0, Value.int .u64 0] ++ #[Value.string ⟨⟨[]⟩⟩])).setIfInBounds 0 (.int .u64 n.toNat)) 1 (encWord w)).setIfInBounds 5 (.string (bs c)) = (encAcc ⟨n, w, c⟩).toArray := by
  have e1 : (#[Value.int .u64 0] ++ (#[Value.int .u64 0, Value.int .u64 0, Value.int .u64 0, Value.int .u64 0] ++ #[Value.string ⟨⟨[]⟩⟩])).setIfInBounds 0 (.int .u64 n.toNat) = ([Value.int .u64 n.toNat] ++ ([Value.int .u64 0, Value.int .u64 0, Value.int .u64 0, Value.int .u64 0] ++ [Value.string ⟨⟨[]⟩⟩])).toArray := rfl
  have e2 := blit_mid (encWord w) [Value.int .u64 n.toNat] [Value.int .u64 0, Value.int .u64 0, Value.int .u64 0, Value.int .u64 0] [Value.string ⟨⟨[]⟩⟩] (by simp [length_encWord])
  rw [e1]
  rw [List.length_singleton] at e2
  rw [e2]
  apply Array.ext'
  simp only [Array.toList_setIfInBounds]
  rw [List.set_append_right _ _ (by simp), List.set_append_right _ _ (by simp [length_encWord])]
  simp [length_encWord, encAcc]
/-- a world's maps so far -/
structure NewAt (H : AH) (H' : AH) (A S : MB) (f : Addr20 → Option Acc) (g : Plc → Option Word4) : Prop where
  rest : Am.Rest [] H H'
  eA : A.b = H.length
  eS : S.b = H.length + 1
  all : H'[A.b]? = some (.map 26 A.es A.ck)
  slots : H'[S.b]? = some (.map 78 S.es S.ck)
  box : H'[H.length + 2]? = some (.cells #[.map (some H.length), .map (some (H.length + 1)), .map none, .map none, .map none, .map none, .int .i64 0, .slice none 0 0, .slice none 0 0, .slice none 0 0, .int .i64 0] 0 true)
  fA : MFun Try.prog 26 keyAddr encAccV A.es A.ck f
  fS : MFun Try.prog 78 keyPlc encWordV S.es S.ck g
theorem putSlots_fun (a : Addr20) : ∀ (l : List Slt) {g : Plc → Option Word4} {es : Array MapEntry} {ck : Nat}, MFun Try.prog 78 keyPlc encWordV es ck g → ∃ es' ck', MFun Try.prog 78 keyPlc encWordV es' ck' (putSlots a g l)
  | [], g, es, ck, m => ⟨es, ck, m⟩
  | s :: l, g, es, ck, m => by
    obtain ⟨es1, ck1, m1, _⟩ := m.put (t := 67) Try.mp67 keyedPlc ⟨a, s.key⟩ s.val
    exact putSlots_fun a l m1
theorem new_funs (L : List Ent) : ∃ esA ckA esS ckS, MFun Try.prog 26 keyAddr encAccV esA ckA (newAll L) ∧ MFun Try.prog 78 keyPlc encWordV esS ckS (newSlots L) := by
  have key : ∀ (L : List Ent) (f : Addr20 → Option Acc) (g : Plc → Option Word4) (esA : Array MapEntry) (ckA : Nat) (esS : Array MapEntry) (ckS : Nat), MFun Try.prog 26 keyAddr encAccV esA ckA f → MFun Try.prog 78 keyPlc encWordV esS ckS g →
      ∃ esA ckA esS ckS, MFun Try.prog 26 keyAddr encAccV esA ckA (L.foldl (fun f e y => if y = e.addr then some ⟨e.nonce, e.bal, e.code.l⟩ else f y) f) ∧ MFun Try.prog 78 keyPlc encWordV esS ckS (L.foldl (fun g e => putSlots e.addr (fun p => if p.addr = e.addr then none else g p) e.slots.l) g) := by
    intro L
    induction L with
    | nil => intro f g esA ckA esS ckS m1 m2; exact ⟨_, _, _, _, m1, m2⟩
    | cons e L ih =>
      intro f g esA ckA esS ckS m1 m2
      obtain ⟨es1, ck1, n1, _⟩ := m1.put (t := 66) Try.mp66 keyedAddr e.addr ⟨e.nonce, e.bal, e.code.l⟩
      have n2 := m2.filter (d := ofA e.addr) (dk := fun y => decide (y.addr = e.addr)) (fun e he x hx => ofA_key hx)
      simp only [decide_eq_true_eq] at n2
      obtain ⟨es2, ck2, n3⟩ := putSlots_fun e.addr e.slots.l n2
      exact ih _ _ _ _ _ _ n1 n3
  exact key L _ _ _ _ _ _ (MFun.empty keyTyAddr keyedAddr keyAddr_inj) (MFun.empty keyTyPlc keyedPlc keyPlc_inj)
theorem gets_app3 {H t : AH} {O : List Nat} {a b c : Nat} (g : Gets [a, b, c] (H ++ t) O) (e : H.length ≤ a ∧ H.length ≤ b ∧ H.length ≤ c) : Gets [] H O := fun i hi => by
  rcases g i hi with h | h
  · refine .inr fun o ho => ?_
    have := (List.getElem?_eq_some_iff.1 ho).1
    simp at h; omega
  · exact .inr fun o ho => h o (by rw [List.getElem?_append_left (List.getElem?_eq_some_iff.1 ho).1]; exact ho)
theorem new_inh (H : AH) (L : List Ent) : ∃ (u : Value) (h' : AH), ∃ I' : WI, u = .pointer (some ⟨I'.b, 0, none⟩) ∧ WA h' I' (WS.new L) ∧ Am.Rest [] H h' ∧ Gets [] H I'.own := by
  obtain ⟨esA, ckA, esS, ckS, m1, m2⟩ := new_funs L
  obtain ⟨I', h1, h2, h3, h4⟩ := begun0_at (P := Try.prog) (tA := 26) (tP := 78) (H := H ++ [.map 26 esA ckA, .map 78 esS ckS, .cells #[] 0 true]) (b := H.length + 2) (c := #[]) (mA := ⟨H.length, esA, ckA⟩) (mS := ⟨H.length + 1, esS, ckS⟩) (by simp) (by simp) (by simp) (by simp) m1 m2 keyedAddr keyedPlc keyTyAddr keyTyPlc fresh_end fresh_end fresh_end fresh_end
  refine ⟨_, _, I', rfl, h1, ((Rest.app (O := []) (t := [.map 26 esA ckA, .map 78 esS ckS, .cells #[] 0 true])).trans h2 (Gets.far (by simp))).cut (by simp), gets_app3 h3 ⟨by omega, Nat.le_refl _, Nat.le_succ _⟩⟩
set_option maxHeartbeats 4000000 in
theorem new_calls {H : AH} {O : List Nat} {v : Value} {L : List Ent} (e : EsIn H O v L) (hal : ∀ i ∈ O, ∃ o, H[i]? = some o ∧ o.alive = true) (hL : L.length < 2 ^ 62) (hS : ∀ x ∈ L, x.slots.l.length < 2 ^ 62) :
    ACalls Try.prog 10 #[v] H (fun u h' => ∃ I', u = .pointer (some ⟨I'.b, 0, none⟩) ∧ WA h' I' (WS.new L) ∧ Am.Rest [] H h' ∧ Gets [] H I'.own) := by
  refine ACalls.of_ay Try.func10 rfl Try.ntmps10 (new_inh H L) ?_; simp only [List.length_cons, List.length_nil, Nat.reduceAdd, Nat.reduceSub, List.replicate_succ, List.replicate_zero, List.cons_append, List.nil_append]
  have hlen := fun H' a => e.len H' a
  have ag : ∀ {H' : AH}, Am.Rest [] H H' → Agr O H H' := fun r => r.agr hal (by simp)
  have hlen0 := e.len (H ++ [.map 26 #[] 0, .map 78 #[] 0, .cells #[.map (some H.length), .map (some (H.length + 1)), .map none, .map none, .map none, .map none, .int .i64 0, .slice none 0 0, .slice none 0 0, .slice none 0 0, .int .i64 0] 0 true]) (ag Rest.app)
  simp (implicitDefEqProofs := false) (maxSteps := 2000000) only [go_sem, Nat.reduceAdd, Nat.reduceSub, Nat.reduceMul, Nat.reduceLT, Nat.reduceLeDiff, Nat.reduceEqDiff, Nat.reduceBEq, Nat.reduceBNe, Nat.reducePow, Int.reduceBEq, Int.reduceBNe, Int.reduceEq, Int.reduceLT, Int.reduceLE, Int.reduceNeg, Int.reduceToNat, Int.reduceMul, Int.reduceAdd, Int.reduceSub, Int.reducePow, Int.reduceFDiv, reduceCtorEq, reduceIte, hlen0]
  refine AWP.loopI (ι := Nat × AH × MB × MB) (fun i => L.length - i.1) (fun i => [junk, junk, junk, .pointer (some ⟨H.length + 2, 0, none⟩), junk, junk, junk, junk, junk, junk, junk, junk, v, .int .i64 ((L.length : Nat) : Int), .int .i64 ((i.1 : Nat) : Int), junk, junk, junk, junk, junk, junk, junk, junk, junk, junk, junk, junk, junk, junk, junk, junk, junk, junk, junk, junk, junk, junk, junk, junk, junk, junk, junk, junk, junk, junk, junk, junk, junk, junk, junk, junk, junk, junk, junk, junk, junk, junk, junk, junk, junk, junk, junk, junk]) (fun i => i.2.1)
    (fun i => i.1 ≤ L.length ∧ NewAt H i.2.1 i.2.2.1 i.2.2.2 (newAll (L.take i.1)) (newSlots (L.take i.1)))
    (0, _, ⟨H.length, #[], 0⟩, ⟨H.length + 1, #[], 0⟩) ⟨Nat.zero_le _, ?_⟩ (KeepsJ.ease ?_) ?_
  · exact ⟨Rest.app, rfl, rfl, by simp, by simp, by simp, MFun.empty keyTyAddr keyedAddr keyAddr_inj, MFun.empty keyTyPlc keyedPlc keyPlc_inj⟩
  · repeat (first | exact .nil | refine .keep _ ?_ | refine .junk _ ?_)
  · rintro ⟨i, h, A, S⟩ ⟨hi, g⟩
    simp only at hi g ⊢
    by_cases hlt : i < L.length
    · obtain ⟨p, vc, vs, e1, e2, e3⟩ := e.at_ h (ag g.rest) i hlt
      have hlt' : ((i : Nat) : Int) < ((L.length : Nat) : Int) := by omega
      simp (implicitDefEqProofs := false) (maxSteps := 2000000) only [go_sem, Nat.reduceAdd, Nat.reduceSub, Nat.reduceMul, Nat.reduceLT, Nat.reduceLeDiff, Nat.reduceEqDiff, Nat.reduceBEq, Nat.reduceBNe, Nat.reducePow, Int.reduceBEq, Int.reduceBNe, Int.reduceEq, Int.reduceLT, Int.reduceLE, Int.reduceNeg, Int.reduceToNat, Int.reduceMul, Int.reduceAdd, Int.reduceSub, Int.reducePow, Int.reduceFDiv, reduceCtorEq, reduceIte, hlt', e1, e2, size_zeros]
      have hbx := at_old g.box [.cells (encEntV L[i] vc vs).toArray 0 true]
      have hqn : h.length ≠ H.length := by have := (List.getElem?_eq_some_iff.1 g.box).1; omega
      have hqn1 : h.length ≠ H.length + 1 := by have := (List.getElem?_eq_some_iff.1 g.box).1; omega
      have hqn2 : h.length ≠ H.length + 2 := by have := (List.getElem?_eq_some_iff.1 g.box).1; omega
      have hal1 := g.all
      have hsl1 := g.slots
      rw [g.eA] at hal1
      rw [g.eS] at hsl1
      refine astep_calls (forget_calls L[i].addr (ba := H.length) (bs := H.length + 1) hbx rfl rfl g.fA (at_old hal1 _) g.fS (at_old hsl1 _)) ?_
      rintro v1 h1 ⟨hv1, eA, eS, m1, m2, b1, b2, r1⟩
      have r1' : Am.Rest [H.length, H.length + 1] h h1 := (Rest.app (O := [H.length, H.length + 1])).trans r1 (Gets.refl _ _)
      have rH1 : Am.Rest [] H h1 := (g.rest.trans (O' := [H.length, H.length + 1]) r1' (Gets.far (by simp))).cut (by simp)
      have hq1 := r1.same h.length (.cells (encEntV L[i] vc vs).toArray 0 true) (by simp) rfl (by simp; omega)
      have hbx1 := r1'.same _ _ g.box rfl (by simp)
      have hcv := e3.code h1 (ag rH1)
      obtain ⟨eA2, ckA2, m3, hup⟩ := m1.put (t := 66) Try.mp66 keyedAddr L[i].addr ⟨L[i].nonce, L[i].bal, L[i].code.l⟩
      have hup1 := hup b1
      unfold keyAddr encAccV at hup1
      simp (implicitDefEqProofs := false) (maxSteps := 2000000) only [go_sem, Nat.reduceAdd, Nat.reduceSub, Nat.reduceMul, Nat.reduceLT, Nat.reduceLeDiff, Nat.reduceEqDiff, Nat.reduceBEq, Nat.reduceBNe, Nat.reducePow, Int.reduceBEq, Int.reduceBNe, Int.reduceEq, Int.reduceLT, Int.reduceLE, Int.reduceNeg, Int.reduceToNat, Int.reduceMul, Int.reduceAdd, Int.reduceSub, Int.reducePow, Int.reduceFDiv, reduceCtorEq, reduceIte, hv1, hq1, hbx1, hcv, acc_build, size_blit, Array.size_setIfInBounds, Array.size_append, List.size_toArray, List.length_cons, List.length_nil, hup1]
      refine ⟨by kernel_rfl, by kernel_rfl, .inr ⟨rfl, by decide⟩, ?_⟩
      obtain ⟨h2, hh2⟩ : ∃ h2 : AH, h2 = h1.set H.length (.map 26 eA2 ckA2) := ⟨_, rfl⟩
      rw [← hh2]
      have hlA : H.length < h1.length := (List.getElem?_eq_some_iff.1 b1).1
      have r2 : Am.Rest [H.length] h1 h2 := by rw [hh2]; exact Rest.set (by simp)
      have rH2 : Am.Rest [] H h2 := (rH1.trans (O' := [H.length]) r2 (Gets.far (by simp))).cut (by simp)
      have hq2 := r2.same _ _ hq1 rfl (by simpa using hqn)
      have hsl := e3.slots.len h2 (ag rH2)
      simp (implicitDefEqProofs := false) (maxSteps := 2000000) only [go_sem, Nat.reduceAdd, Nat.reduceSub, Nat.reduceMul, Nat.reduceLT, Nat.reduceLeDiff, Nat.reduceEqDiff, Nat.reduceBEq, Nat.reduceBNe, Nat.reducePow, Int.reduceBEq, Int.reduceBNe, Int.reduceEq, Int.reduceLT, Int.reduceLE, Int.reduceNeg, Int.reduceToNat, Int.reduceMul, Int.reduceAdd, Int.reduceSub, Int.reducePow, Int.reduceFDiv, reduceCtorEq, reduceIte, hq2, hsl]
      have hrest : Am.Rest [] H h2 := rH2
      refine AWP.loopI (ι := Nat × AH × MB) (fun j => L[i].slots.l.length - j.1) (fun j => [junk, junk, junk, .pointer (some ⟨H.length + 2, 0, none⟩), junk, .pointer (some ⟨h.length, 0, none⟩), junk, junk, junk, junk, junk, junk, v, .int .i64 ((L.length : Nat) : Int), .int .i64 ((i : Nat) : Int), junk, junk, junk, junk, junk, junk, junk, junk, junk, junk, junk, junk, junk, junk, junk, junk, junk, junk, junk, junk, junk, junk, junk, junk, junk, junk, vs, .int .i64 ((L[i].slots.l.length : Nat) : Int), .int .i64 ((j.1 : Nat) : Int), junk, junk, junk, junk, junk, junk, junk, junk, junk, junk, junk, junk, junk, junk, junk, junk, junk, junk, junk]) (fun j => j.2.1)
        (fun j => j.1 ≤ L[i].slots.l.length ∧ NewAt H j.2.1 ⟨H.length, eA2, ckA2⟩ j.2.2 (newAll (L.take (i + 1))) (putSlots L[i].addr (fun p => if p.addr = L[i].addr then none else newSlots (L.take i) p) (L[i].slots.l.take j.1)) ∧ j.2.1[h.length]? = some (.cells (encEntV L[i] vc vs).toArray 0 true))
        (0, h2, ⟨H.length + 1, eS, S.ck⟩) ⟨Nat.zero_le _, ?_, hq2⟩ (KeepsJ.ease ?_) ?_
      · have etk : L.take (i + 1) = L.take i ++ [L[i]] := by rw [List.take_add_one, List.getElem?_eq_getElem hlt]; rfl
        refine ⟨rH2, rfl, rfl, ?_, ?_, ?_, ?_, m2⟩
        · rw [hh2]; exact List.getElem?_set_self hlA
        · rw [hh2]; show (List.set _ _ _)[H.length + 1]? = _; rw [List.getElem?_set_ne (by omega)]; exact b2
        · exact r2.same _ _ hbx1 rfl (by simp)
        · rw [etk, newAll_snoc]
          have e : (fun y => if y = L[i].addr then some ({ nonce := L[i].nonce, bal := L[i].bal, code := L[i].code.l } : Acc) else newAll (L.take i) y) = (fun y => if y = L[i].addr then some ({ nonce := L[i].nonce, bal := L[i].bal, code := L[i].code.l } : Acc) else (fun y => if y = L[i].addr then none else newAll (L.take i) y) y) := by
            funext y; by_cases hy : y = L[i].addr <;> simp [hy]
          rw [e]; exact m3
      · repeat (first | exact .nil | refine .keep _ ?_ | refine .junk _ ?_)
      · rintro ⟨j, k, S'⟩ ⟨hj, gk, hqk⟩
        simp only at hj gk hqk ⊢
        by_cases hjl : j < L[i].slots.l.length
        · obtain ⟨p2, d1, d2⟩ := e3.slots.at_ k (ag gk.rest) j hjl
          have hjl' : ((j : Nat) : Int) < ((L[i].slots.l.length : Nat) : Int) := by omega
          have hbk := at_old gk.box [.cells (encSlt L[i].slots.l[j]).toArray 0 true]
          have hqk1 := at_old hqk [.cells (encSlt L[i].slots.l[j]).toArray 0 true]
          have hsk := at_old gk.slots [.cells (encSlt L[i].slots.l[j]).toArray 0 true]
          obtain ⟨e4, ck4, m4, hup4⟩ := gk.fS.put (t := 67) Try.mp67 keyedPlc ⟨L[i].addr, L[i].slots.l[j].key⟩ L[i].slots.l[j].val
          have hup4' := hup4 hsk
          unfold keyPlc encWordV at hup4'
          rw [gk.eS] at hup4' hsk
          have hw1 : IntKind.i64.wrap ((j : Int) + 1) = ((j + 1 : Nat) : Int) := by
            have := hS L[i] (List.getElem_mem hlt)
            rw [wrap_i64_of _ (by omega) (by omega), ofNat_succ']
          simp (implicitDefEqProofs := false) (maxSteps := 2000000) only [go_sem, Nat.reduceAdd, Nat.reduceSub, Nat.reduceMul, Nat.reduceLT, Nat.reduceLeDiff, Nat.reduceEqDiff, Nat.reduceBEq, Nat.reduceBNe, Nat.reducePow, Int.reduceBEq, Int.reduceBNe, Int.reduceEq, Int.reduceLT, Int.reduceLE, Int.reduceNeg, Int.reduceToNat, Int.reduceMul, Int.reduceAdd, Int.reduceSub, Int.reducePow, Int.reduceFDiv, reduceCtorEq, reduceIte, hjl', d1, d2, size_zeros, hbk, hqk1, hup4', hw1]
          refine ⟨by kernel_rfl, by kernel_rfl, .inr ⟨rfl, by decide⟩, ?_⟩
          have hlk : H.length + 1 < (k ++ [AObj.cells (encSlt L[i].slots.l[j]).toArray 0 true]).length := (List.getElem?_eq_some_iff.1 hsk).1
          have hal2 := gk.all
          simp only at hal2
          refine ⟨(j + 1, _, ⟨H.length + 1, e4, ck4⟩), by simp only; omega, ⟨by simp only; omega, ⟨?_, rfl, rfl, ?_, ?_, ?_, gk.fA, ?_⟩, ?_⟩, KeepsJ.ease ?_⟩
          · exact ((gk.rest.trans (Rest.app (O := [])) (Gets.refl _ _)).trans (O' := [H.length + 1]) (Rest.set (by simp)) (Gets.far (by simp))).cut (by simp)
          · show (List.set _ _ _)[H.length]? = _
            rw [List.getElem?_set_ne (by omega)]; exact at_old hal2 _
          · exact List.getElem?_set_self hlk
          · show (List.set _ _ _)[H.length + 2]? = _
            rw [List.getElem?_set_ne (by omega)]; exact hbk
          · have etk : L[i].slots.l.take (j + 1) = L[i].slots.l.take j ++ [L[i].slots.l[j]] := by rw [List.take_add_one, List.getElem?_eq_getElem hjl]; rfl
            simp only
            rw [etk, putSlots_snoc]; exact m4
          · show (List.set _ _ _)[h.length]? = _
            rw [List.getElem?_set_ne (fun e => hqn1 e.symm)]; exact hqk1
          · repeat (first | exact .nil | refine .keep _ ?_ | refine .junk _ ?_)
        · have hjl' : ¬ ((j : Nat) : Int) < ((L[i].slots.l.length : Nat) : Int) := by omega
          have hw2 : IntKind.i64.wrap ((i : Int) + 1) = ((i + 1 : Nat) : Int) := by
            rw [wrap_i64_of ((i : Int) + 1) (by omega) (by omega), ofNat_succ']
          simp (implicitDefEqProofs := false) (maxSteps := 2000000) only [go_sem, Nat.reduceAdd, Nat.reduceSub, Nat.reduceMul, Nat.reduceLT, Nat.reduceLeDiff, Nat.reduceEqDiff, Nat.reduceBEq, Nat.reduceBNe, Nat.reducePow, Int.reduceBEq, Int.reduceBNe, Int.reduceEq, Int.reduceLT, Int.reduceLE, Int.reduceNeg, Int.reduceToNat, Int.reduceMul, Int.reduceAdd, Int.reduceSub, Int.reducePow, Int.reduceFDiv, reduceCtorEq, reduceIte, hjl', hw2]
          refine ⟨(i + 1, k, ⟨H.length, eA2, ckA2⟩, S'), by simp only; omega, ⟨by simp only; omega, ?_⟩, KeepsJ.ease ?_⟩
          · have etk : L.take (i + 1) = L.take i ++ [L[i]] := by rw [List.take_add_one, List.getElem?_eq_getElem hlt]; rfl
            have es : newSlots (L.take (i + 1)) = putSlots L[i].addr (fun p => if p.addr = L[i].addr then none else newSlots (L.take i) p) (L[i].slots.l.take j) := by
              rw [etk, newSlots_snoc, List.take_of_length_le (show L[i].slots.l.length ≤ j by omega)]
            simp only
            rw [es]; exact gk
          · repeat (first | exact .nil | refine .keep _ ?_ | refine .junk _ ?_)
    · have hlt' : ¬ ((i : Nat) : Int) < ((L.length : Nat) : Int) := by omega
      have hie : i = L.length := by omega
      subst hie
      rw [List.take_length] at g
      have hal2 := g.all
      have hsl2 := g.slots
      simp (implicitDefEqProofs := false) (maxSteps := 2000000) only [go_sem, Nat.reduceAdd, Nat.reduceSub, Nat.reduceMul, Nat.reduceLT, Nat.reduceLeDiff, Nat.reduceEqDiff, Nat.reduceBEq, Nat.reduceBNe, Nat.reducePow, Int.reduceBEq, Int.reduceBNe, Int.reduceEq, Int.reduceLT, Int.reduceLE, Int.reduceNeg, Int.reduceToNat, Int.reduceMul, Int.reduceAdd, Int.reduceSub, Int.reducePow, Int.reduceFDiv, reduceCtorEq, reduceIte, hlt']
      refine astep_calls (begin0_calls (mA := A) (mS := S) g.box rfl (by rw [g.eA]; rfl) (by rw [g.eS]; rfl) hal2 hsl2 (by rw [g.eA, g.eS]; omega) g.fA g.fS) ?_
      rintro u h' ⟨hu, I', w, r, gt, hb⟩
      simp (implicitDefEqProofs := false) (maxSteps := 2000000) only [go_sem, Nat.reduceAdd, Nat.reduceSub, Nat.reduceMul, Nat.reduceLT, Nat.reduceLeDiff, Nat.reduceEqDiff, Nat.reduceBEq, Nat.reduceBNe, Nat.reducePow, Int.reduceBEq, Int.reduceBNe, Int.reduceEq, Int.reduceLT, Int.reduceLE, Int.reduceNeg, Int.reduceToNat, Int.reduceMul, Int.reduceAdd, Int.reduceSub, Int.reducePow, Int.reduceFDiv, reduceCtorEq, reduceIte, hu]
      refine ⟨.pointer (some ⟨I'.b, 0, none⟩), .pointer (some ⟨I'.b, 0, none⟩), h', by rw [aresults_tmp rfl, getD_lit, hb]; rfl, Eases.refl, I', rfl, w, (g.rest.trans (O' := [H.length + 2]) r (Gets.far (by simp))).cut (by simp), ?_⟩
      rw [g.eA, g.eS] at gt
      exact Gets.trans (O1 := [H.length + 2, H.length, H.length + 1]) g.rest (Gets.far (by simp)) gt
end Go.Proofs

