import Derived.Test.YtihdilnanhjedaaKeysT
import Derived.Test.YtihdilnanhjedaaKeysF
import Derived.Test.YtihdilnanhjedaaLay
set_option linter.unusedSimpArgs false
set_option linter.unusedVariables false
set_option maxRecDepth 100000
/- keys, collected and sorted -/
namespace Go.Proofs
open Go Go.Am

/-- places, collected so far -/
structure Gath (h : AH) (b clock : Nat) (es : Array MapEntry) (pre : List MapEntry) (it : AObj) (H : AH) (q : Nat) (l : List Pl) : Prop where
  old : ∀ i, i < h.length → H[i]? = h[i]?
  box : H[h.length]? = some (.cells #[outV q l] 0 true)
  itr : H[h.length + 2]? = some it
  far : h.length < q
  ne : q ≠ h.length + 2
  row : H[q]? = some (outO encPl 25 l)
  keys : l.map keyPl = pre.map (·.key)

theorem get_app {H : AH} {i : Nat} {x o : AObj} (h : H[i]? = some x) : (H ++ [o])[i]? = some x := by
  rw [List.getElem?_append_left (List.getElem?_eq_some_iff.1 h).1]; exact h
theorem get_set {H : AH} {i j : Nat} {x o : AObj} (h : H[i]? = some x) (hne : j ≠ i) : (H.set j o)[i]? = some x := by
  rw [List.getElem?_set_ne hne]; exact h

set_option maxHeartbeats 4000000 in
theorem appendSeq_calls (K : FuncId) (hK : hasBody Try.prog K = true) {h : AH} {bx b es0 clock : Nat} {rw0 : Bool} {es : Array MapEntry} (hbx : h[bx]? = some (.cells #[.map (some b)] es0 rw0)) (hb : h[b]? = some (.map 54 es clock)) (hsz : es.size < 2 ^ 20) (hk : ∀ e ∈ es.toList, ∃ x : Pl, e.key = keyPl x)
    (hit : ∀ (hh : AH), hh[bx]? = some (.cells #[.map (some b)] es0 rw0) → hh[b]? = some (.map 54 es clock) → ∀ (Y : YRel) (I : List MapEntry → AObj → AH → Prop), I [] (miterO b clock []) (hh ++ [miterO b clock []]) →
      (∀ pre it H, I pre it H → H[hh.length]? = some it ∧ H[b]? = some (.map 54 es clock)) → (∀ pre it it' H, I pre it H → I pre it' (H.set hh.length it')) → (∀ pre it H o, I pre it H → I pre it (H ++ [o])) →
      (∀ pre it (e : MapEntry) (x : Pl) H (K : Option Code → AH → Prop), I pre it H → e ∈ es.toList → e.key = keyPl x → pre.length < es.size → (∀ H', I (pre ++ [e]) it H' → K none H') → Y #[.agg (encPl x).toArray] H K) →
      AIter Try.prog K #[.pointer (some ⟨bx, 0, none⟩)] hh Y (fun H st => st = none ∧ ∃ pre it, I pre it H ∧ pre.Perm es.toList)) :
    ACalls Try.prog 58 #[.slice none 0 0, .func (.func K) #[] #[.pointer (some ⟨bx, 0, none⟩)]] h (fun v h' => ∃ l : List Pl, (l.map keyPl).Perm (es.toList.map (·.key)) ∧ v = outV h.length l ∧ h' = h ++ [outO encPl 25 l]) := by
  have hinh : ∃ l : List Pl, l.map keyPl = es.toList.map (·.key) := by
    generalize es.toList = el at hk
    clear hit hb
    induction el with
    | nil => exact ⟨[], rfl⟩
    | cons e el ih =>
      obtain ⟨l, hl⟩ := ih fun e' he' => hk e' (List.mem_cons_of_mem _ he')
      obtain ⟨x, hx⟩ := hk e (by simp)
      exact ⟨x :: l, by simp [hl, hx]⟩
  obtain ⟨l0, hl0⟩ := hinh
  refine ACalls.of_ay Try.func58 rfl Try.ntmps58 ⟨_, _, l0, by rw [hl0], rfl, rfl⟩ ?_; simp only [List.length_cons, List.length_nil, Nat.reduceAdd, Nat.reduceSub, List.replicate_succ, List.replicate_zero, List.cons_append, List.nil_append]
  simp (implicitDefEqProofs := false) (maxSteps := 2000000) only [go_sem, Nat.reduceAdd, Nat.reduceSub, Nat.reduceMul, Nat.reduceLT, Nat.reduceLeDiff, Nat.reduceEqDiff, Nat.reduceBEq, Nat.reduceBNe, Nat.reducePow, Int.reduceBEq, Int.reduceBNe, Int.reduceEq, Int.reduceLT, Int.reduceLE, Int.reduceNeg, Int.reduceToNat, Int.reduceMul, Int.reduceAdd, Int.reduceSub, Int.reducePow, Int.reduceFDiv, reduceCtorEq, reduceIte]
  refine AWP.ease Eases.ghost ?_
  simp only [List.append_assoc, List.cons_append, List.nil_append]
  have hbl : b < h.length := (List.getElem?_eq_some_iff.1 hb).1
  refine AWP.rangeFunc (K := K) (caps := #[.pointer (some ⟨bx, 0, none⟩)]) (by simp only [aeval_tmp, getD_lit, List.getD_cons_succ, List.getD_cons_zero]) hK (hit _ (at_old hbx _) (at_old hb _) _ (fun pre it H => ∃ q l, Gath h b clock es pre it H q l) ⟨h.length + 1, [], fun i hi => by rw [List.append_assoc, List.getElem?_append_left hi], by simp [outV], by simp, by omega, by omega, by simp [outO], rfl⟩ ?_ ?_ ?_ ?_) ?_
  · rintro pre it H ⟨q, l, g⟩
    refine ⟨by simpa using g.itr, ?_⟩
    rw [g.old b hbl]; exact hb
  · rintro pre it it' H ⟨q, l, g⟩
    have e : (h ++ [AObj.cells #[.slice none 0 0] 0 true, .dead]).length = h.length + 2 := by simp
    rw [e]
    have hlt : h.length + 2 < H.length := (List.getElem?_eq_some_iff.1 g.itr).1
    exact ⟨q, l, fun i hi => by rw [List.getElem?_set_ne (by omega)]; exact g.old i hi, get_set g.box (by omega), List.getElem?_set_self hlt, g.far, g.ne, get_set g.row (fun e => g.ne e.symm), g.keys⟩
  · rintro pre it H o ⟨q, l, g⟩
    have hlt : h.length < H.length := (List.getElem?_eq_some_iff.1 g.box).1
    exact ⟨q, l, fun i hi => by rw [List.getElem?_append_left (by omega)]; exact g.old i hi, get_app g.box, get_app g.itr, g.far, g.ne, get_app g.row, g.keys⟩
  · rintro pre it e x H K' ⟨q, l, g⟩ he hx hlen hK'
    refine roundY_of_ay rfl ?_
    rw [fold1]
    have hll : l.length = pre.length := by have := congrArg List.length g.keys; simpa using this
    have hbx1 := at_old g.box
    have hrow1 := at_old g.row
    have happ := mkApp_out (g := true) (by_ := 56) (n := 1) (new := (encPl x).toArray) (hrow1 [.cells (encPl x).toArray 0 true, .cells (encPl x).toArray 25 true]) length_encPl (Nat.zero_lt_one) ⟨by omega, by omega⟩
    have hHl : h.length < H.length := (List.getElem?_eq_some_iff.1 g.box).1
    have hfar := g.far
    have hbox2 := at_old (get_set (o := .dead) (at_old g.box [.cells (encPl x).toArray 0 true, .cells (encPl x).toArray 25 true]) (show q ≠ h.length by omega))
    simp (implicitDefEqProofs := false) (maxSteps := 2000000) only [go_sem, Nat.reduceAdd, Nat.reduceSub, Nat.reduceMul, Nat.reduceLT, Nat.reduceLeDiff, Nat.reduceEqDiff, Nat.reduceBEq, Nat.reduceBNe, Nat.reducePow, Int.reduceBEq, Int.reduceBNe, Int.reduceEq, Int.reduceLT, Int.reduceLE, Int.reduceNeg, Int.reduceToNat, Int.reduceMul, Int.reduceAdd, Int.reduceSub, Int.reducePow, Int.reduceFDiv, reduceCtorEq, reduceIte, hbx1, hrow1, size_zeros, happ, hbox2]
    refine roundQ_normal (hK' _ ⟨H.length + 2, l ++ [x], fun i hi => ?_, ?_, ?_, by omega, by omega, ?_, by simp [g.keys, hx]⟩)
    · rw [List.getElem?_set_ne (by omega), List.getElem?_append_left (by simp; omega), List.getElem?_set_ne (by omega), List.getElem?_append_left (by omega)]; exact g.old i hi
    · rw [List.getElem?_set_self (by simp; omega), outV_snoc]
    · exact get_set (at_old (get_set (at_old g.itr _) g.ne) _) (by omega)
    · refine get_set ?_ (by omega)
      rw [List.getElem?_append_right (by simp), outO_snoc]
      simp
  · rintro H1 st ⟨rfl, pre, it, ⟨q, l, g⟩, hperm⟩
    have hb2 := g.box
    simp (implicitDefEqProofs := false) (maxSteps := 2000000) only [go_sem, Nat.reduceAdd, Nat.reduceSub, Nat.reduceMul, Nat.reduceLT, Nat.reduceLeDiff, Nat.reduceEqDiff, Nat.reduceBEq, Nat.reduceBNe, Nat.reducePow, Int.reduceBEq, Int.reduceBNe, Int.reduceEq, Int.reduceLT, Int.reduceLE, Int.reduceNeg, Int.reduceToNat, Int.reduceMul, Int.reduceAdd, Int.reduceSub, Int.reducePow, Int.reduceFDiv, reduceCtorEq, reduceIte, hb2]
    have hq : h.length ≤ q := by have := g.far; omega
    refine ⟨outV q l, outV h.length l, h ++ [outO encPl 25 l], by rw [aresults_tmp rfl, getD_lit]; rfl, Eases.grown tree_encPl g.old hq g.row, l, ?_, rfl, rfl⟩
    rw [g.keys]
    exact hperm.map _
theorem outV_len {α : Type} {b : Nat} {l m : List α} (h : l.length = m.length) : outV b l = outV b m := by
  cases l <;> cases m <;> simp_all [outV]

abbrev ItOk (K : FuncId) (bx b es0 clock : Nat) (rw0 : Bool) (es : Array MapEntry) : Prop :=
  ∀ (hh : AH), hh[bx]? = some (.cells #[.map (some b)] es0 rw0) → hh[b]? = some (.map 54 es clock) → ∀ (Y : YRel) (I : List MapEntry → AObj → AH → Prop), I [] (miterO b clock []) (hh ++ [miterO b clock []]) →
      (∀ pre it H, I pre it H → H[hh.length]? = some it ∧ H[b]? = some (.map 54 es clock)) → (∀ pre it it' H, I pre it H → I pre it' (H.set hh.length it')) → (∀ pre it H o, I pre it H → I pre it (H ++ [o])) →
      (∀ pre it (e : MapEntry) (x : Pl) H (K : Option Code → AH → Prop), I pre it H → e ∈ es.toList → e.key = keyPl x → pre.length < es.size → (∀ H', I (pre ++ [e]) it H' → K none H') → Y #[.agg (encPl x).toArray] H K) →
      AIter Try.prog K #[.pointer (some ⟨bx, 0, none⟩)] hh Y (fun H st => st = none ∧ ∃ pre it, I pre it H ∧ pre.Perm es.toList)

theorem keysOf {es : Array MapEntry} (hk : ∀ e ∈ es.toList, ∃ x : Pl, e.key = keyPl x) : ∃ l : List Pl, l.map keyPl = es.toList.map (·.key) := by
  generalize es.toList = el at hk
  induction el with
  | nil => exact ⟨[], rfl⟩
  | cons e el ih =>
    obtain ⟨l, hl⟩ := ih fun e' he' => hk e' (List.mem_cons_of_mem _ he')
    obtain ⟨x, hx⟩ := hk e (by simp)
    exact ⟨x :: l, by simp [hl, hx]⟩

set_option maxHeartbeats 4000000 in
theorem collect_calls (K : FuncId) (hK : hasBody Try.prog K = true) {h : AH} {bx b es0 clock : Nat} {rw0 : Bool} {es : Array MapEntry} (hbx : h[bx]? = some (.cells #[.map (some b)] es0 rw0)) (hb : h[b]? = some (.map 54 es clock)) (hsz : es.size < 2 ^ 20) (hk : ∀ e ∈ es.toList, ∃ x : Pl, e.key = keyPl x)
    (hit : ItOk K bx b es0 clock rw0 es) :
    ACalls Try.prog 40 #[.func (.func K) #[] #[.pointer (some ⟨bx, 0, none⟩)]] h (fun v h' => ∃ l : List Pl, (l.map keyPl).Perm (es.toList.map (·.key)) ∧ v = outV h.length l ∧ h' = h ++ [outO encPl 25 l]) := by
  obtain ⟨l0, hl0⟩ := keysOf hk
  refine ACalls.of_ay Try.func40 rfl Try.ntmps40 ⟨_, _, l0, by rw [hl0], rfl, rfl⟩ ?_; simp only [List.length_cons, List.length_nil, Nat.reduceAdd, Nat.reduceSub, List.replicate_succ, List.replicate_zero, List.cons_append, List.nil_append]
  simp (implicitDefEqProofs := false) (maxSteps := 2000000) only [go_sem, Nat.reduceAdd, Nat.reduceSub, Nat.reduceMul, Nat.reduceLT, Nat.reduceLeDiff, Nat.reduceEqDiff, Nat.reduceBEq, Nat.reduceBNe, Nat.reducePow, Int.reduceBEq, Int.reduceBNe, Int.reduceEq, Int.reduceLT, Int.reduceLE, Int.reduceNeg, Int.reduceToNat, Int.reduceMul, Int.reduceAdd, Int.reduceSub, Int.reducePow, Int.reduceFDiv, reduceCtorEq, reduceIte]
  refine astep_calls (appendSeq_calls K hK hbx hb hsz hk hit) ?_
  rintro v h1 ⟨l, hl, hv, hh⟩
  subst hh
  simp (implicitDefEqProofs := false) (maxSteps := 2000000) only [go_sem, Nat.reduceAdd, Nat.reduceSub, Nat.reduceMul, Nat.reduceLT, Nat.reduceLeDiff, Nat.reduceEqDiff, Nat.reduceBEq, Nat.reduceBNe, Nat.reducePow, Int.reduceBEq, Int.reduceBNe, Int.reduceEq, Int.reduceLT, Int.reduceLE, Int.reduceNeg, Int.reduceToNat, Int.reduceMul, Int.reduceAdd, Int.reduceSub, Int.reducePow, Int.reduceFDiv, reduceCtorEq, reduceIte, hv]
  exact ⟨outV h.length l, outV h.length l, h ++ [outO encPl 25 l], by rw [aresults_tmp rfl, getD_lit]; rfl, Eases.refl, l, hl, rfl, rfl⟩

set_option maxHeartbeats 4000000 in
theorem sorted_calls (K G : FuncId) (hK : hasBody Try.prog K = true) (hG : hasBody Try.prog G = true) (hcG : ∀ p q (h : AH), ACalls Try.prog G #[.agg (encPl p).toArray, .agg (encPl q).toArray] h (fun v h' => v = .int .i64 (cmpPl p q) ∧ h' = h)) (hl : laidOutB Try.prog = true)
    {h : AH} {bx b es0 clock : Nat} {rw0 : Bool} {es : Array MapEntry} (hbx : h[bx]? = some (.cells #[.map (some b)] es0 rw0)) (hb : h[b]? = some (.map 54 es clock)) (hsz : es.size < 2 ^ 20) (hk : ∀ e ∈ es.toList, ∃ x : Pl, e.key = keyPl x)
    (hap : (es.toList.map (·.key)).Nodup) (hit : ItOk K bx b es0 clock rw0 es) {L : List Pl} (hL1 : L.Pairwise fun x y => x.rank < y.rank) (hL2 : ∀ x, x ∈ L ↔ keyPl x ∈ es.toList.map (·.key)) :
    ACalls Try.prog 23 #[.func (.func K) #[] #[.pointer (some ⟨bx, 0, none⟩)], .func (.func G) #[] #[]] h (fun v h' => v = slV encPl (Sl.app L) ∧ h' = h) := by
  refine ACalls.of_ay Try.func23 rfl Try.ntmps23 ⟨_, _, rfl, rfl⟩ ?_; simp only [List.length_cons, List.length_nil, Nat.reduceAdd, Nat.reduceSub, List.replicate_succ, List.replicate_zero, List.cons_append, List.nil_append]
  simp (implicitDefEqProofs := false) (maxSteps := 2000000) only [go_sem, Nat.reduceAdd, Nat.reduceSub, Nat.reduceMul, Nat.reduceLT, Nat.reduceLeDiff, Nat.reduceEqDiff, Nat.reduceBEq, Nat.reduceBNe, Nat.reducePow, Int.reduceBEq, Int.reduceBNe, Int.reduceEq, Int.reduceLT, Int.reduceLE, Int.reduceNeg, Int.reduceToNat, Int.reduceMul, Int.reduceAdd, Int.reduceSub, Int.reducePow, Int.reduceFDiv, reduceCtorEq, reduceIte]
  refine astep_calls (collect_calls K hK hbx hb hsz hk hit) ?_
  rintro v h1 ⟨l, hl1, hv, hh⟩
  subst hh
  have hnd : l.Nodup := nodup_of_map keyPl (hl1.nodup_iff.2 hap)
  have hlen : l.length = es.size := by have := hl1.length_eq; simpa using this
  obtain ⟨hO, hT⟩ := swo_rank Pl.rank (fun x y => rank_inj)
  obtain ⟨hs1, hs2⟩ : (l.mergeSort fun x y => !(Go.Proofs.ltOf cmpPl) y x).Pairwise (fun x y => x.rank < y.rank) ∧ (l.mergeSort fun x y => !(Go.Proofs.ltOf cmpPl) y x).Perm l := sorted_rank Pl.rank (fun x y => rank_inj) l hnd
  have hsort := ACalls.sortO Try.sortL hl Try.isAgg54 Try.sizeOf54 length_encPl plain_encPl cmpPl hO hT hG hcG (h := h ++ [outO encPl 25 l]) (b := h.length) (es := 25) (at_new0 _ _) (by omega)
  have hLe : (l.mergeSort fun x y => !(Go.Proofs.ltOf cmpPl) y x) = L := rise_eq Pl.rank hs1 hL1 fun x => by
    rw [hs2.mem_iff, hL2]
    constructor
    · intro hx; exact hl1.mem_iff.1 (List.mem_map_of_mem hx)
    · intro hx
      obtain ⟨y, hy, hxy⟩ := List.mem_map.1 (hl1.mem_iff.2 hx)
      rw [← keyPl_inj _ _ hxy]; exact hy
  rw [hLe] at hsort
  have hll : l.length = L.length := by rw [← hLe, List.length_mergeSort]
  rw [outV_len hll] at hv hsort
  change ACalls Try.prog 41 _ _ _ at hsort
  rw [set_new0] at hsort
  simp (implicitDefEqProofs := false) (maxSteps := 2000000) only [go_sem, Nat.reduceAdd, Nat.reduceSub, Nat.reduceMul, Nat.reduceLT, Nat.reduceLeDiff, Nat.reduceEqDiff, Nat.reduceBEq, Nat.reduceBNe, Nat.reducePow, Int.reduceBEq, Int.reduceBNe, Int.reduceEq, Int.reduceLT, Int.reduceLE, Int.reduceNeg, Int.reduceToNat, Int.reduceMul, Int.reduceAdd, Int.reduceSub, Int.reducePow, Int.reduceFDiv, reduceCtorEq, reduceIte, hv]
  refine astep_call hsort ?_
  simp (implicitDefEqProofs := false) (maxSteps := 2000000) only [go_sem, Nat.reduceAdd, Nat.reduceSub, Nat.reduceMul, Nat.reduceLT, Nat.reduceLeDiff, Nat.reduceEqDiff, Nat.reduceBEq, Nat.reduceBNe, Nat.reducePow, Int.reduceBEq, Int.reduceBNe, Int.reduceEq, Int.reduceLT, Int.reduceLE, Int.reduceNeg, Int.reduceToNat, Int.reduceMul, Int.reduceAdd, Int.reduceSub, Int.reducePow, Int.reduceFDiv, reduceCtorEq, reduceIte]
  exact apost_out (t := []) rfl length_encPl tree_encPl ⟨rfl, rfl⟩ _ rfl
end Go.Proofs
