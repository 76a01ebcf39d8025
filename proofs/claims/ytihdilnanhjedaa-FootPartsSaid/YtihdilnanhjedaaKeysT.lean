import Derived.Test.YtihdilnanhjedaaCmp
import Derived.Test.YtihdilnanhjedaaAm55x
set_option linter.unusedSimpArgs false
set_option linter.unusedVariables false
set_option maxRecDepth 100000
/- the keys of a map of places -/
namespace Go.Proofs
open Go Go.Am

set_option maxHeartbeats 4000000 in
theorem keysT_calls (b : Nat) (h : AH) (hb : b < h.length) : ACalls Try.prog 24 #[.map (some b)] h (fun v h' => v = .func (.func 42) #[] #[.pointer (some ⟨h.length, 0, none⟩)] ∧ h' = h ++ [.cells #[.map (some b)] 0 true]) := by
  refine ACalls.of_ay Try.func24 rfl Try.ntmps24 ⟨_, _, rfl, rfl⟩ ?_; simp only [List.length_cons, List.length_nil, Nat.reduceAdd, Nat.reduceSub, List.replicate_succ, List.replicate_zero, List.cons_append, List.nil_append]
  simp (implicitDefEqProofs := false) (maxSteps := 2000000) only [go_sem, Nat.reduceAdd, Nat.reduceSub, Nat.reduceMul, Nat.reduceLT, Nat.reduceLeDiff, Nat.reduceEqDiff, Nat.reduceBEq, Nat.reduceBNe, Nat.reducePow, Int.reduceBEq, Int.reduceBNe, Int.reduceEq, Int.reduceLT, Int.reduceLE, Int.reduceNeg, Int.reduceToNat, Int.reduceMul, Int.reduceAdd, Int.reduceSub, Int.reducePow, Int.reduceFDiv, reduceCtorEq, reduceIte]
  have ho : ORen id (h.length + 1) (.cells #[.map (some b)] 0 true) (.cells #[.map (some b)] 0 true) := ⟨_, rfl, rfl, fun i => by
    cases i with
    | zero => exact .map _ _ (by omega) rfl
    | succ i => simp [Array.getD]; exact .junk _⟩
  exact apost_keep rfl (.func _ _ _ _ _ rfl rfl (fun i => by simp; exact .junk _) rfl (fun i => by
    cases i with
    | zero => exact .ptr _ _ _ (by simp) rfl
    | succ i => simp; exact .junk _)) ho ⟨rfl, rfl⟩ _ rfl

set_option maxHeartbeats 4000000 in
theorem keysT_it {h : AH} {bx b es0 clock : Nat} {rw0 : Bool} {es : Array MapEntry} (hbx : h[bx]? = some (.cells #[.map (some b)] es0 rw0)) (hb : h[b]? = some (.map 54 es clock)) (ok : MapOk Try.prog 54 es.toList clock) (hk : ∀ e ∈ es.toList, ∃ x : Pl, e.key = keyPl x)
    (Y : YRel) (I : List MapEntry → AObj → AH → Prop) (h0 : I [] (miterO b clock []) (h ++ [miterO b clock []]))
    (hat : ∀ pre it H, I pre it H → H[h.length]? = some it ∧ H[b]? = some (.map 54 es clock))
    (hset : ∀ pre it it' H, I pre it H → I pre it' (H.set h.length it'))
    (happ : ∀ pre it H o, I pre it H → I pre it (H ++ [o]))
    (hY : ∀ pre it (e : MapEntry) (x : Pl) H (K : Option Code → AH → Prop), I pre it H → e ∈ es.toList → e.key = keyPl x → pre.length < es.size → (∀ H', I (pre ++ [e]) it H' → K none H') → Y #[.agg (encPl x).toArray] H K) :
    AIter Try.prog 42 #[.pointer (some ⟨bx, 0, none⟩)] h Y (fun H st => st = none ∧ ∃ pre it, I pre it H ∧ pre.Perm es.toList) := by
  refine AIter.of_ayI Try.func42 rfl rfl Try.ntmps42 (by decide) ?_
  simp only [List.length_cons, List.length_nil, Nat.reduceAdd, Nat.reduceSub, List.replicate_succ, List.replicate_zero, List.cons_append, List.nil_append]
  have hr : amRange Try.prog h 52 (.map (some b)) = some (.pointer (some ⟨h.length, 0, none⟩), h ++ [.miter (some b) clock #[] clock]) := amRangeM Try.underlying52 hb
  simp (implicitDefEqProofs := false) (maxSteps := 2000000) only [go_sem, Nat.reduceAdd, Nat.reduceSub, Nat.reduceMul, Nat.reduceLT, Nat.reduceLeDiff, Nat.reduceEqDiff, Nat.reduceBEq, Nat.reduceBNe, Nat.reducePow, Int.reduceBEq, Int.reduceBNe, Int.reduceEq, Int.reduceLT, Int.reduceLE, Int.reduceNeg, Int.reduceToNat, Int.reduceMul, Int.reduceAdd, Int.reduceSub, Int.reducePow, Int.reduceFDiv, reduceCtorEq, reduceIte, hbx, hr]
  refine AWPI.loopI (fun p : List MapEntry => es.size - p.length) (fun _ => [junk, junk, junk, junk, junk, .pointer (some ⟨h.length, 0, none⟩), junk, junk, junk, junk, junk, junk, junk, junk]) [0] (fun p H => I p (miterO b clock p) H ∧ (∀ e ∈ p, e ∈ es.toList) ∧ (p.map (·.born)).Nodup) [] ⟨h0, by simp, by simp⟩ (fun t ht => ht) (by repeat (first | exact .nil | refine .same _ ?_ | refine .junk _ ?_)) ?_
  rintro p H ⟨hI, hsub, hnd⟩
  obtain ⟨hat1, hat2⟩ := hat _ _ _ hI
  have hn := amNextM hat1 hat2 ok
  simp (implicitDefEqProofs := false) (maxSteps := 2000000) only [go_sem, Nat.reduceAdd, Nat.reduceSub, Nat.reduceMul, Nat.reduceLT, Nat.reduceLeDiff, Nat.reduceEqDiff, Nat.reduceBEq, Nat.reduceBNe, Nat.reducePow, Int.reduceBEq, Int.reduceBNe, Int.reduceEq, Int.reduceLT, Int.reduceLE, Int.reduceNeg, Int.reduceToNat, Int.reduceMul, Int.reduceAdd, Int.reduceSub, Int.reducePow, Int.reduceFDiv, reduceCtorEq, reduceIte, hn]
  intro v H1 hv
  rcases hv with ⟨hz, hv, hH⟩ | ⟨e, he, hv, hH⟩
  · subst hH
    simp (implicitDefEqProofs := false) (maxSteps := 2000000) only [go_sem, Nat.reduceAdd, Nat.reduceSub, Nat.reduceMul, Nat.reduceLT, Nat.reduceLeDiff, Nat.reduceEqDiff, Nat.reduceBEq, Nat.reduceBNe, Nat.reducePow, Int.reduceBEq, Int.reduceBNe, Int.reduceEq, Int.reduceLT, Int.reduceLE, Int.reduceNeg, Int.reduceToNat, Int.reduceMul, Int.reduceAdd, Int.reduceSub, Int.reducePow, Int.reduceFDiv, reduceCtorEq, reduceIte, hv]
    exact ⟨p, _, hI, left_done ok hsub hnd hz⟩
  · obtain ⟨hes, hne⟩ := left_mem he
    obtain ⟨x, hx⟩ := hk e hes
    rw [miter_push] at hH
    have hI2 : I p (miterO b clock (p ++ [e])) H1 := by rw [hH]; exact hset _ _ _ _ hI
    obtain ⟨hat3, hat4⟩ := hat _ _ _ hI2
    have hent := entryOfM hat3 hat4 ok hes
    have hlen : p.length < es.size := by
      have h2 : ((p ++ [e]).map (·.born)).Nodup := by
        rw [List.map_append, List.nodup_append]
        refine ⟨hnd, by simp, fun a ha b hb => ?_⟩
        simp only [List.map_cons, List.map_nil, List.mem_singleton] at hb
        subst hb
        intro hab; subst hab; exact hne ha
      have h3 := nodup_len h2 (m := es.toList.map (·.born)) (by
        intro y hy
        obtain ⟨z, hz, rfl⟩ := List.mem_map.1 hy
        rcases List.mem_append.1 hz with hz | hz
        · exact List.mem_map_of_mem (hsub z hz)
        · rw [List.mem_singleton] at hz; subst hz; exact List.mem_map_of_mem hes)
      simp at h3; omega
    rw [hx] at hv hent
    unfold keyPl at hv hent
    simp (implicitDefEqProofs := false) (maxSteps := 2000000) only [go_sem, Nat.reduceAdd, Nat.reduceSub, Nat.reduceMul, Nat.reduceLT, Nat.reduceLeDiff, Nat.reduceEqDiff, Nat.reduceBEq, Nat.reduceBNe, Nat.reducePow, Int.reduceBEq, Int.reduceBNe, Int.reduceEq, Int.reduceLT, Int.reduceLE, Int.reduceNeg, Int.reduceToNat, Int.reduceMul, Int.reduceAdd, Int.reduceSub, Int.reducePow, Int.reduceFDiv, reduceCtorEq, reduceIte, hv, hent]
    refine hY p _ e x _ _ (happ _ _ _ _ hI2) hes hx hlen ?_
    intro H' hI'
    simp (implicitDefEqProofs := false) (maxSteps := 2000000) only [go_sem, Nat.reduceAdd, Nat.reduceSub, Nat.reduceMul, Nat.reduceLT, Nat.reduceLeDiff, Nat.reduceEqDiff, Nat.reduceBEq, Nat.reduceBNe, Nat.reducePow, Int.reduceBEq, Int.reduceBNe, Int.reduceEq, Int.reduceLT, Int.reduceLE, Int.reduceNeg, Int.reduceToNat, Int.reduceMul, Int.reduceAdd, Int.reduceSub, Int.reducePow, Int.reduceFDiv, reduceCtorEq, reduceIte]
    refine ⟨p ++ [e], by simp; omega, ⟨hI', fun z hz => ?_, ?_⟩, by simp, _, rfl, by repeat (first | exact .nil | refine .same _ ?_ | refine .junk _ ?_)⟩
    · rcases List.mem_append.1 hz with hz | hz
      · exact hsub z hz
      · rw [List.mem_singleton] at hz; subst hz; exact hes
    · rw [List.map_append, List.nodup_append]
      refine ⟨hnd, by simp, fun a ha b hb => ?_⟩
      simp only [List.map_cons, List.map_nil, List.mem_singleton] at hb
      subst hb
      intro hab; subst hab; exact hne ha
end Go.Proofs
