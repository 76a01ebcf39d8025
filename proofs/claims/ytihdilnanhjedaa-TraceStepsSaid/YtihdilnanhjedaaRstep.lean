import Derived.Test.YtihdilnanhjedaaStep2
import Derived.Test.YtihdilnanhjedaaPut
import Derived.Test.YtihdilnanhjedaaRbytes
set_option linter.unusedSimpArgs false
set_option linter.unusedVariables false
set_option maxRecDepth 100000
/- what events have read and written, by the document -/
namespace Go.Proofs
open Go Go.Am

theorem rR0 {l : List Ev} {i : Nat} (hi : i < l.length) (h : evR l[i] = []) : rise (stR (l.take (i + 1))) = rise (stR (l.take i)) := by rw [stR_take hi, h, List.append_nil]
theorem rR1 {l : List Ev} {i : Nat} {x : Pl} (hi : i < l.length) (h : evR l[i] = [x]) : rise (stR (l.take (i + 1))) = plIns (rise (stR (l.take i))) x := by rw [stR_take hi, h, rise_snoc]
theorem rW0 {l : List Ev} {i : Nat} (hi : i < l.length) (h : evW l[i] = []) : rise (stW (l.take (i + 1))) = rise (stW (l.take i)) := by rw [stW_take hi, h, List.append_nil]
theorem rW1 {l : List Ev} {i : Nat} {x : Pl} (hi : i < l.length) (h : evW l[i] = [x]) : rise (stW (l.take (i + 1))) = plIns (rise (stW (l.take i))) x := by rw [stW_take hi, h, rise_snoc]
theorem rW2 {l : List Ev} {i : Nat} {x y : Pl} (hi : i < l.length) (h : evW l[i] = [x, y]) : rise (stW (l.take (i + 1))) = plIns (plIns (rise (stW (l.take i))) y) x := by
  rw [stW_take hi, h, ← rise_snoc, ← rise_snoc]
  refine rise_congr fun z => ?_
  simp only [List.mem_append, List.mem_cons, List.not_mem_nil, or_false]
  constructor
  · rintro (h | h | h)
    · exact .inl (.inl h)
    · exact .inr h
    · exact .inl (.inr h)
  · rintro ((h | h) | h)
    · exact .inl h
    · exact .inr (.inr h)
    · exact .inr (.inl h)
theorem length_plIns (l : List Pl) (p : Pl) : (plIns l p).length ≤ l.length + 1 := by
  induction l with
  | nil => simp [plIns]
  | cons y l ih => unfold plIns; split; · simp
                   · split <;> simp <;> omega
theorem oren_rs {σ : Nat → Nat} {L : Nat} (A B : List Pl) : ∀ o ∈ [AObj.cells #[.slice none 0 0, .slice none 0 0] 0 true, .cells #[slV encPl (Sl.app A), slV encPl (Sl.app B)] 0 true], ORen σ L o o := by
  intro o ho
  simp only [List.mem_cons, List.not_mem_nil, or_false] at ho
  rcases ho with rfl | rfl
  · exact ORen.plainCells (l := [.slice none 0 0, .slice none 0 0]) (fun v hv => by simp only [List.mem_cons, List.not_mem_nil, or_false] at hv; rcases hv with rfl | rfl <;> exact .plain _ rfl)
  · exact ORen.plainCells (l := [slV encPl (Sl.app A), slV encPl (Sl.app B)]) (fun v hv => by simp only [List.mem_cons, List.not_mem_nil, or_false] at hv; rcases hv with rfl | rfl <;> exact .slV tree_encPl _)

set_option maxHeartbeats 16000000 in
theorem rsteps_calls (s : Sl Ev) (hs : s.l.length ≤ 1000) (h : AH) :
    ACalls Try.prog 11 #[slV encEv s] h (fun v h' => v = .agg #[slV encPl (Sl.app (rise (stR s.l))), slV encPl (Sl.app (rise (stW s.l)))] ∧ h' = h) := by
  refine ACalls.of_ay Try.func11 rfl Try.ntmps11 ⟨_, _, rfl, rfl⟩ ?_; simp only [List.length_cons, List.length_nil, Nat.reduceAdd, Nat.reduceSub, List.replicate_succ, List.replicate_zero, List.cons_append, List.nil_append]
  simp (implicitDefEqProofs := false) (maxSteps := 2000000) only [go_sem, Nat.reduceAdd, Nat.reduceSub, Nat.reduceMul, Nat.reduceLT, Nat.reduceLeDiff, Nat.reduceEqDiff, Nat.reduceBEq, Nat.reduceBNe, Nat.reducePow, Int.reduceBEq, Int.reduceBNe, Int.reduceEq, Int.reduceLT, Int.reduceLE, Int.reduceNeg, Int.reduceToNat, Int.reduceMul, Int.reduceAdd, Int.reduceSub, Int.reducePow, Int.reduceFDiv, reduceCtorEq, reduceIte]
  refine AWP.loopI (fun i : Nat => s.l.length - i) (fun i => [slV encEv s, junk, .pointer (some ⟨h.length, 0, none⟩), .pointer (some ⟨h.length + 1, 0, none⟩), .int .i64 (i : Nat), junk, junk, junk, junk, junk, junk, junk, junk, junk, junk, junk, junk, junk, junk, junk, junk, junk, junk, junk, junk, junk, junk, junk, junk, junk, junk, junk, junk, junk, junk, junk, junk, junk, junk, junk, junk, junk, junk, junk, junk, junk, junk, junk, junk, junk, junk, junk, junk, junk, junk, junk, junk, junk, junk, junk, junk, junk, junk, junk, junk, junk, junk, junk, junk, junk, junk, junk, junk, junk, junk, junk, junk, junk, junk, junk, junk, junk, junk, junk, junk, junk, junk, junk, junk, junk, junk, junk, junk, junk, junk, junk, junk, junk, junk, junk, junk, junk, junk, junk, junk, junk])
    (fun i => h ++ [.cells #[.slice none 0 0, .slice none 0 0] 0 true, .cells #[slV encPl (Sl.app (rise (stR (s.l.take i)))), slV encPl (Sl.app (rise (stW (s.l.take i))))] 0 true]) (fun i => i ≤ s.l.length) 0 (Nat.zero_le _) ?_ ?_
  · refine Keeps.easeL (oren_rs [] []) ?_
    repeat (first | exact Keeps.nil | refine Keeps.junk _ ?_ | refine Keeps.keep (by first | exact .plain _ rfl | exact (Tree.slV tree_encEv _).ren | exact .ptr _ _ _ (by simp) rfl) ?_)
  · intro i hi
    by_cases hlt : i < s.l.length
    · have lR := len_stR (s.l.take i)
      have lW := len_stW (s.l.take i)
      have lR' := length_rise (stR (s.l.take i))
      have lW' := length_rise (stW (s.l.take i))
      have lT : (s.l.take i).length ≤ i := by simp; omega
      have bnd2 : (plIns (rise (stW (s.l.take i))) (otherOf s.l[i])).length ≤ 4000 := Nat.le_trans (length_plIns _ _) (by omega)
      cases hf : (s.l[i].fault != 0) with
      | true =>
        have hf0 : s.l[i].fault ≠ 0 := by simpa using hf
        have hR : evR s.l[i] = [] := by simp [evR, hf0]
        have hW : evW s.l[i] = [] := by simp [evW, hf0]
        have eR := rR0 hlt hR
        have eW := rW0 hlt hW
        simp (implicitDefEqProofs := false) (maxSteps := 2000000) only [go_sem, Nat.reduceAdd, Nat.reduceSub, Nat.reduceMul, Nat.reduceLT, Nat.reduceLeDiff, Nat.reduceEqDiff, Nat.reduceBEq, Nat.reduceBNe, Nat.reducePow, Int.reduceBEq, Int.reduceBNe, Int.reduceEq, Int.reduceLT, Int.reduceLE, Int.reduceNeg, Int.reduceToNat, Int.reduceMul, Int.reduceAdd, Int.reduceSub, Int.reducePow, Int.reduceFDiv, reduceCtorEq, reduceIte, hlt, hf]
        refine ⟨i + 1, by omega, by omega, ?_⟩
        rw [eR, eW, wrap_i64_of _ (by omega) (by omega), ofNat_succ']
        refine Keeps.easeP (t := [.cells #[.slice none 0 0, .slice none 0 0] 0 true, .cells #[slV encPl (Sl.app _), slV encPl (Sl.app _)] 0 true]) (oren_rs _ _) ?_
        repeat (first | exact Keeps.nil | refine Keeps.junk _ ?_ | refine Keeps.keep (by first | exact .plain _ rfl | exact (Tree.slV tree_encEv _).ren | exact .ptr _ _ _ (by simp) rfl) ?_)
      | false =>
        have hf0 : s.l[i].fault = 0 := by simpa using hf
        simp (implicitDefEqProofs := false) (maxSteps := 2000000) only [go_sem, Nat.reduceAdd, Nat.reduceSub, Nat.reduceMul, Nat.reduceLT, Nat.reduceLeDiff, Nat.reduceEqDiff, Nat.reduceBEq, Nat.reduceBNe, Nat.reducePow, Int.reduceBEq, Int.reduceBNe, Int.reduceEq, Int.reduceLT, Int.reduceLE, Int.reduceNeg, Int.reduceToNat, Int.reduceMul, Int.reduceAdd, Int.reduceSub, Int.reducePow, Int.reduceFDiv, reduceCtorEq, reduceIte, hlt, hf]
        refine astep_call (raddr_calls _ _) ?_
        by_cases n84 : s.l[i].op = 84
        · have hop := n84
          as_aux_lemma =>
            have q84 : (((s.l[i].op.toNat : Nat) : Int) == 84) = true := by rw [hop]; rfl
            have q85 : (((s.l[i].op.toNat : Nat) : Int) == 85) = false := by rw [hop]; rfl
            have q49 : (((s.l[i].op.toNat : Nat) : Int) == 49) = false := by rw [hop]; rfl
            have q59 : (((s.l[i].op.toNat : Nat) : Int) == 59) = false := by rw [hop]; rfl
            have q60 : (((s.l[i].op.toNat : Nat) : Int) == 60) = false := by rw [hop]; rfl
            have q63 : (((s.l[i].op.toNat : Nat) : Int) == 63) = false := by rw [hop]; rfl
            have q71 : (((s.l[i].op.toNat : Nat) : Int) == 71) = false := by rw [hop]; rfl
            have q240 : (((s.l[i].op.toNat : Nat) : Int) == 240) = false := by rw [hop]; rfl
            have q245 : (((s.l[i].op.toNat : Nat) : Int) == 245) = false := by rw [hop]; rfl
            have q255 : (((s.l[i].op.toNat : Nat) : Int) == 255) = false := by rw [hop]; rfl
            have q241 : (((s.l[i].op.toNat : Nat) : Int) == 241) = false := by rw [hop]; rfl
            have q242 : (((s.l[i].op.toNat : Nat) : Int) == 242) = false := by rw [hop]; rfl
            have q244 : (((s.l[i].op.toNat : Nat) : Int) == 244) = false := by rw [hop]; rfl
            have q250 : (((s.l[i].op.toNat : Nat) : Int) == 250) = false := by rw [hop]; rfl
            have hR : evR s.l[i] = [slotOf s.l[i]] := by simp [evR, hf0, hop]
            have hW : evW s.l[i] = [] := by simp [evW, hf0, hop]
            have eR := rR1 hlt hR
            have eW := rW0 hlt hW
            simp (implicitDefEqProofs := false) (maxSteps := 2000000) only [go_sem, Nat.reduceAdd, Nat.reduceSub, Nat.reduceMul, Nat.reduceLT, Nat.reduceLeDiff, Nat.reduceEqDiff, Nat.reduceBEq, Nat.reduceBNe, Nat.reducePow, Int.reduceBEq, Int.reduceBNe, Int.reduceEq, Int.reduceLT, Int.reduceLE, Int.reduceNeg, Int.reduceToNat, Int.reduceMul, Int.reduceAdd, Int.reduceSub, Int.reducePow, Int.reduceFDiv, reduceCtorEq, reduceIte, q84, q85, q49, q59, q60, q63, q71, q240, q245, q255, q241, q242, q244, q250, size_zeros, size_blit, length_encWord]
            refine astep_call (rput_calls (Sl.app (rise (stR (s.l.take i)))) (slotOf s.l[i]) (by show (rise _).length ≤ 4000; omega) _) ?_
            simp (implicitDefEqProofs := false) (maxSteps := 2000000) only [go_sem, Nat.reduceAdd, Nat.reduceSub, Nat.reduceMul, Nat.reduceLT, Nat.reduceLeDiff, Nat.reduceEqDiff, Nat.reduceBEq, Nat.reduceBNe, Nat.reducePow, Int.reduceBEq, Int.reduceBNe, Int.reduceEq, Int.reduceLT, Int.reduceLE, Int.reduceNeg, Int.reduceToNat, Int.reduceMul, Int.reduceAdd, Int.reduceSub, Int.reducePow, Int.reduceFDiv, reduceCtorEq, reduceIte, q84, q85, q49, q59, q60, q63, q71, q240, q245, q255, q241, q242, q244, q250, length_encWord]
            refine ⟨i + 1, by omega, by omega, ?_⟩
            rw [eR, eW, wrap_i64_of _ (by omega) (by omega), ofNat_succ']
            refine Keeps.easeP (t := [.cells #[.slice none 0 0, .slice none 0 0] 0 true, .cells #[slV encPl (Sl.app _), slV encPl (Sl.app _)] 0 true]) (oren_rs _ _) ?_
            repeat (first | exact Keeps.nil | refine Keeps.junk _ ?_ | refine Keeps.keep (by first | exact .plain _ rfl | exact (Tree.slV tree_encEv _).ren | exact .ptr _ _ _ (by simp) rfl) ?_)
        by_cases n85 : s.l[i].op = 85
        · have hop := n85
          as_aux_lemma =>
            have q84 : (((s.l[i].op.toNat : Nat) : Int) == 84) = false := by rw [hop]; rfl
            have q85 : (((s.l[i].op.toNat : Nat) : Int) == 85) = true := by rw [hop]; rfl
            have q49 : (((s.l[i].op.toNat : Nat) : Int) == 49) = false := by rw [hop]; rfl
            have q59 : (((s.l[i].op.toNat : Nat) : Int) == 59) = false := by rw [hop]; rfl
            have q60 : (((s.l[i].op.toNat : Nat) : Int) == 60) = false := by rw [hop]; rfl
            have q63 : (((s.l[i].op.toNat : Nat) : Int) == 63) = false := by rw [hop]; rfl
            have q71 : (((s.l[i].op.toNat : Nat) : Int) == 71) = false := by rw [hop]; rfl
            have q240 : (((s.l[i].op.toNat : Nat) : Int) == 240) = false := by rw [hop]; rfl
            have q245 : (((s.l[i].op.toNat : Nat) : Int) == 245) = false := by rw [hop]; rfl
            have q255 : (((s.l[i].op.toNat : Nat) : Int) == 255) = false := by rw [hop]; rfl
            have q241 : (((s.l[i].op.toNat : Nat) : Int) == 241) = false := by rw [hop]; rfl
            have q242 : (((s.l[i].op.toNat : Nat) : Int) == 242) = false := by rw [hop]; rfl
            have q244 : (((s.l[i].op.toNat : Nat) : Int) == 244) = false := by rw [hop]; rfl
            have q250 : (((s.l[i].op.toNat : Nat) : Int) == 250) = false := by rw [hop]; rfl
            have hR : evR s.l[i] = [] := by simp [evR, hf0, hop]
            have hW : evW s.l[i] = [slotOf s.l[i]] := by simp [evW, hf0, hop]
            have eR := rR0 hlt hR
            have eW := rW1 hlt hW
            simp (implicitDefEqProofs := false) (maxSteps := 2000000) only [go_sem, Nat.reduceAdd, Nat.reduceSub, Nat.reduceMul, Nat.reduceLT, Nat.reduceLeDiff, Nat.reduceEqDiff, Nat.reduceBEq, Nat.reduceBNe, Nat.reducePow, Int.reduceBEq, Int.reduceBNe, Int.reduceEq, Int.reduceLT, Int.reduceLE, Int.reduceNeg, Int.reduceToNat, Int.reduceMul, Int.reduceAdd, Int.reduceSub, Int.reducePow, Int.reduceFDiv, reduceCtorEq, reduceIte, q84, q85, q49, q59, q60, q63, q71, q240, q245, q255, q241, q242, q244, q250, size_zeros, size_blit, length_encWord]
            refine astep_call (rput_calls (Sl.app (rise (stW (s.l.take i)))) (slotOf s.l[i]) (by show (rise _).length ≤ 4000; omega) _) ?_
            simp (implicitDefEqProofs := false) (maxSteps := 2000000) only [go_sem, Nat.reduceAdd, Nat.reduceSub, Nat.reduceMul, Nat.reduceLT, Nat.reduceLeDiff, Nat.reduceEqDiff, Nat.reduceBEq, Nat.reduceBNe, Nat.reducePow, Int.reduceBEq, Int.reduceBNe, Int.reduceEq, Int.reduceLT, Int.reduceLE, Int.reduceNeg, Int.reduceToNat, Int.reduceMul, Int.reduceAdd, Int.reduceSub, Int.reducePow, Int.reduceFDiv, reduceCtorEq, reduceIte, q84, q85, q49, q59, q60, q63, q71, q240, q245, q255, q241, q242, q244, q250, length_encWord]
            refine ⟨i + 1, by omega, by omega, ?_⟩
            rw [eR, eW, wrap_i64_of _ (by omega) (by omega), ofNat_succ']
            refine Keeps.easeP (t := [.cells #[.slice none 0 0, .slice none 0 0] 0 true, .cells #[slV encPl (Sl.app _), slV encPl (Sl.app _)] 0 true]) (oren_rs _ _) ?_
            repeat (first | exact Keeps.nil | refine Keeps.junk _ ?_ | refine Keeps.keep (by first | exact .plain _ rfl | exact (Tree.slV tree_encEv _).ren | exact .ptr _ _ _ (by simp) rfl) ?_)
        by_cases n49 : s.l[i].op = 49
        · have hop := n49
          as_aux_lemma =>
            have q84 : (((s.l[i].op.toNat : Nat) : Int) == 84) = false := by rw [hop]; rfl
            have q85 : (((s.l[i].op.toNat : Nat) : Int) == 85) = false := by rw [hop]; rfl
            have q49 : (((s.l[i].op.toNat : Nat) : Int) == 49) = true := by rw [hop]; rfl
            have q59 : (((s.l[i].op.toNat : Nat) : Int) == 59) = false := by rw [hop]; rfl
            have q60 : (((s.l[i].op.toNat : Nat) : Int) == 60) = false := by rw [hop]; rfl
            have q63 : (((s.l[i].op.toNat : Nat) : Int) == 63) = false := by rw [hop]; rfl
            have q71 : (((s.l[i].op.toNat : Nat) : Int) == 71) = false := by rw [hop]; rfl
            have q240 : (((s.l[i].op.toNat : Nat) : Int) == 240) = false := by rw [hop]; rfl
            have q245 : (((s.l[i].op.toNat : Nat) : Int) == 245) = false := by rw [hop]; rfl
            have q255 : (((s.l[i].op.toNat : Nat) : Int) == 255) = false := by rw [hop]; rfl
            have q241 : (((s.l[i].op.toNat : Nat) : Int) == 241) = false := by rw [hop]; rfl
            have q242 : (((s.l[i].op.toNat : Nat) : Int) == 242) = false := by rw [hop]; rfl
            have q244 : (((s.l[i].op.toNat : Nat) : Int) == 244) = false := by rw [hop]; rfl
            have q250 : (((s.l[i].op.toNat : Nat) : Int) == 250) = false := by rw [hop]; rfl
            have hR : evR s.l[i] = [otherOf s.l[i]] := by simp [evR, hf0, hop]
            have hW : evW s.l[i] = [] := by simp [evW, hf0, hop]
            have eR := rR1 hlt hR
            have eW := rW0 hlt hW
            simp (implicitDefEqProofs := false) (maxSteps := 2000000) only [go_sem, Nat.reduceAdd, Nat.reduceSub, Nat.reduceMul, Nat.reduceLT, Nat.reduceLeDiff, Nat.reduceEqDiff, Nat.reduceBEq, Nat.reduceBNe, Nat.reducePow, Int.reduceBEq, Int.reduceBNe, Int.reduceEq, Int.reduceLT, Int.reduceLE, Int.reduceNeg, Int.reduceToNat, Int.reduceMul, Int.reduceAdd, Int.reduceSub, Int.reducePow, Int.reduceFDiv, reduceCtorEq, reduceIte, q84, q85, q49, q59, q60, q63, q71, q240, q245, q255, q241, q242, q244, q250, size_zeros, size_blit, length_encWord]
            refine astep_call (rput_calls (Sl.app (rise (stR (s.l.take i)))) (otherOf s.l[i]) (by show (rise _).length ≤ 4000; omega) _) ?_
            simp (implicitDefEqProofs := false) (maxSteps := 2000000) only [go_sem, Nat.reduceAdd, Nat.reduceSub, Nat.reduceMul, Nat.reduceLT, Nat.reduceLeDiff, Nat.reduceEqDiff, Nat.reduceBEq, Nat.reduceBNe, Nat.reducePow, Int.reduceBEq, Int.reduceBNe, Int.reduceEq, Int.reduceLT, Int.reduceLE, Int.reduceNeg, Int.reduceToNat, Int.reduceMul, Int.reduceAdd, Int.reduceSub, Int.reducePow, Int.reduceFDiv, reduceCtorEq, reduceIte, q84, q85, q49, q59, q60, q63, q71, q240, q245, q255, q241, q242, q244, q250, length_encWord]
            refine ⟨i + 1, by omega, by omega, ?_⟩
            rw [eR, eW, wrap_i64_of _ (by omega) (by omega), ofNat_succ']
            refine Keeps.easeP (t := [.cells #[.slice none 0 0, .slice none 0 0] 0 true, .cells #[slV encPl (Sl.app _), slV encPl (Sl.app _)] 0 true]) (oren_rs _ _) ?_
            repeat (first | exact Keeps.nil | refine Keeps.junk _ ?_ | refine Keeps.keep (by first | exact .plain _ rfl | exact (Tree.slV tree_encEv _).ren | exact .ptr _ _ _ (by simp) rfl) ?_)
        by_cases n59 : s.l[i].op = 59
        · have hop := n59
          as_aux_lemma =>
            have q84 : (((s.l[i].op.toNat : Nat) : Int) == 84) = false := by rw [hop]; rfl
            have q85 : (((s.l[i].op.toNat : Nat) : Int) == 85) = false := by rw [hop]; rfl
            have q49 : (((s.l[i].op.toNat : Nat) : Int) == 49) = false := by rw [hop]; rfl
            have q59 : (((s.l[i].op.toNat : Nat) : Int) == 59) = true := by rw [hop]; rfl
            have q60 : (((s.l[i].op.toNat : Nat) : Int) == 60) = false := by rw [hop]; rfl
            have q63 : (((s.l[i].op.toNat : Nat) : Int) == 63) = false := by rw [hop]; rfl
            have q71 : (((s.l[i].op.toNat : Nat) : Int) == 71) = false := by rw [hop]; rfl
            have q240 : (((s.l[i].op.toNat : Nat) : Int) == 240) = false := by rw [hop]; rfl
            have q245 : (((s.l[i].op.toNat : Nat) : Int) == 245) = false := by rw [hop]; rfl
            have q255 : (((s.l[i].op.toNat : Nat) : Int) == 255) = false := by rw [hop]; rfl
            have q241 : (((s.l[i].op.toNat : Nat) : Int) == 241) = false := by rw [hop]; rfl
            have q242 : (((s.l[i].op.toNat : Nat) : Int) == 242) = false := by rw [hop]; rfl
            have q244 : (((s.l[i].op.toNat : Nat) : Int) == 244) = false := by rw [hop]; rfl
            have q250 : (((s.l[i].op.toNat : Nat) : Int) == 250) = false := by rw [hop]; rfl
            have hR : evR s.l[i] = [otherOf s.l[i]] := by simp [evR, hf0, hop]
            have hW : evW s.l[i] = [] := by simp [evW, hf0, hop]
            have eR := rR1 hlt hR
            have eW := rW0 hlt hW
            simp (implicitDefEqProofs := false) (maxSteps := 2000000) only [go_sem, Nat.reduceAdd, Nat.reduceSub, Nat.reduceMul, Nat.reduceLT, Nat.reduceLeDiff, Nat.reduceEqDiff, Nat.reduceBEq, Nat.reduceBNe, Nat.reducePow, Int.reduceBEq, Int.reduceBNe, Int.reduceEq, Int.reduceLT, Int.reduceLE, Int.reduceNeg, Int.reduceToNat, Int.reduceMul, Int.reduceAdd, Int.reduceSub, Int.reducePow, Int.reduceFDiv, reduceCtorEq, reduceIte, q84, q85, q49, q59, q60, q63, q71, q240, q245, q255, q241, q242, q244, q250, size_zeros, size_blit, length_encWord]
            refine astep_call (rput_calls (Sl.app (rise (stR (s.l.take i)))) (otherOf s.l[i]) (by show (rise _).length ≤ 4000; omega) _) ?_
            simp (implicitDefEqProofs := false) (maxSteps := 2000000) only [go_sem, Nat.reduceAdd, Nat.reduceSub, Nat.reduceMul, Nat.reduceLT, Nat.reduceLeDiff, Nat.reduceEqDiff, Nat.reduceBEq, Nat.reduceBNe, Nat.reducePow, Int.reduceBEq, Int.reduceBNe, Int.reduceEq, Int.reduceLT, Int.reduceLE, Int.reduceNeg, Int.reduceToNat, Int.reduceMul, Int.reduceAdd, Int.reduceSub, Int.reducePow, Int.reduceFDiv, reduceCtorEq, reduceIte, q84, q85, q49, q59, q60, q63, q71, q240, q245, q255, q241, q242, q244, q250, length_encWord]
            refine ⟨i + 1, by omega, by omega, ?_⟩
            rw [eR, eW, wrap_i64_of _ (by omega) (by omega), ofNat_succ']
            refine Keeps.easeP (t := [.cells #[.slice none 0 0, .slice none 0 0] 0 true, .cells #[slV encPl (Sl.app _), slV encPl (Sl.app _)] 0 true]) (oren_rs _ _) ?_
            repeat (first | exact Keeps.nil | refine Keeps.junk _ ?_ | refine Keeps.keep (by first | exact .plain _ rfl | exact (Tree.slV tree_encEv _).ren | exact .ptr _ _ _ (by simp) rfl) ?_)
        by_cases n60 : s.l[i].op = 60
        · have hop := n60
          as_aux_lemma =>
            have q84 : (((s.l[i].op.toNat : Nat) : Int) == 84) = false := by rw [hop]; rfl
            have q85 : (((s.l[i].op.toNat : Nat) : Int) == 85) = false := by rw [hop]; rfl
            have q49 : (((s.l[i].op.toNat : Nat) : Int) == 49) = false := by rw [hop]; rfl
            have q59 : (((s.l[i].op.toNat : Nat) : Int) == 59) = false := by rw [hop]; rfl
            have q60 : (((s.l[i].op.toNat : Nat) : Int) == 60) = true := by rw [hop]; rfl
            have q63 : (((s.l[i].op.toNat : Nat) : Int) == 63) = false := by rw [hop]; rfl
            have q71 : (((s.l[i].op.toNat : Nat) : Int) == 71) = false := by rw [hop]; rfl
            have q240 : (((s.l[i].op.toNat : Nat) : Int) == 240) = false := by rw [hop]; rfl
            have q245 : (((s.l[i].op.toNat : Nat) : Int) == 245) = false := by rw [hop]; rfl
            have q255 : (((s.l[i].op.toNat : Nat) : Int) == 255) = false := by rw [hop]; rfl
            have q241 : (((s.l[i].op.toNat : Nat) : Int) == 241) = false := by rw [hop]; rfl
            have q242 : (((s.l[i].op.toNat : Nat) : Int) == 242) = false := by rw [hop]; rfl
            have q244 : (((s.l[i].op.toNat : Nat) : Int) == 244) = false := by rw [hop]; rfl
            have q250 : (((s.l[i].op.toNat : Nat) : Int) == 250) = false := by rw [hop]; rfl
            have hR : evR s.l[i] = [otherOf s.l[i]] := by simp [evR, hf0, hop]
            have hW : evW s.l[i] = [] := by simp [evW, hf0, hop]
            have eR := rR1 hlt hR
            have eW := rW0 hlt hW
            simp (implicitDefEqProofs := false) (maxSteps := 2000000) only [go_sem, Nat.reduceAdd, Nat.reduceSub, Nat.reduceMul, Nat.reduceLT, Nat.reduceLeDiff, Nat.reduceEqDiff, Nat.reduceBEq, Nat.reduceBNe, Nat.reducePow, Int.reduceBEq, Int.reduceBNe, Int.reduceEq, Int.reduceLT, Int.reduceLE, Int.reduceNeg, Int.reduceToNat, Int.reduceMul, Int.reduceAdd, Int.reduceSub, Int.reducePow, Int.reduceFDiv, reduceCtorEq, reduceIte, q84, q85, q49, q59, q60, q63, q71, q240, q245, q255, q241, q242, q244, q250, size_zeros, size_blit, length_encWord]
            refine astep_call (rput_calls (Sl.app (rise (stR (s.l.take i)))) (otherOf s.l[i]) (by show (rise _).length ≤ 4000; omega) _) ?_
            simp (implicitDefEqProofs := false) (maxSteps := 2000000) only [go_sem, Nat.reduceAdd, Nat.reduceSub, Nat.reduceMul, Nat.reduceLT, Nat.reduceLeDiff, Nat.reduceEqDiff, Nat.reduceBEq, Nat.reduceBNe, Nat.reducePow, Int.reduceBEq, Int.reduceBNe, Int.reduceEq, Int.reduceLT, Int.reduceLE, Int.reduceNeg, Int.reduceToNat, Int.reduceMul, Int.reduceAdd, Int.reduceSub, Int.reducePow, Int.reduceFDiv, reduceCtorEq, reduceIte, q84, q85, q49, q59, q60, q63, q71, q240, q245, q255, q241, q242, q244, q250, length_encWord]
            refine ⟨i + 1, by omega, by omega, ?_⟩
            rw [eR, eW, wrap_i64_of _ (by omega) (by omega), ofNat_succ']
            refine Keeps.easeP (t := [.cells #[.slice none 0 0, .slice none 0 0] 0 true, .cells #[slV encPl (Sl.app _), slV encPl (Sl.app _)] 0 true]) (oren_rs _ _) ?_
            repeat (first | exact Keeps.nil | refine Keeps.junk _ ?_ | refine Keeps.keep (by first | exact .plain _ rfl | exact (Tree.slV tree_encEv _).ren | exact .ptr _ _ _ (by simp) rfl) ?_)
        by_cases n63 : s.l[i].op = 63
        · have hop := n63
          as_aux_lemma =>
            have q84 : (((s.l[i].op.toNat : Nat) : Int) == 84) = false := by rw [hop]; rfl
            have q85 : (((s.l[i].op.toNat : Nat) : Int) == 85) = false := by rw [hop]; rfl
            have q49 : (((s.l[i].op.toNat : Nat) : Int) == 49) = false := by rw [hop]; rfl
            have q59 : (((s.l[i].op.toNat : Nat) : Int) == 59) = false := by rw [hop]; rfl
            have q60 : (((s.l[i].op.toNat : Nat) : Int) == 60) = false := by rw [hop]; rfl
            have q63 : (((s.l[i].op.toNat : Nat) : Int) == 63) = true := by rw [hop]; rfl
            have q71 : (((s.l[i].op.toNat : Nat) : Int) == 71) = false := by rw [hop]; rfl
            have q240 : (((s.l[i].op.toNat : Nat) : Int) == 240) = false := by rw [hop]; rfl
            have q245 : (((s.l[i].op.toNat : Nat) : Int) == 245) = false := by rw [hop]; rfl
            have q255 : (((s.l[i].op.toNat : Nat) : Int) == 255) = false := by rw [hop]; rfl
            have q241 : (((s.l[i].op.toNat : Nat) : Int) == 241) = false := by rw [hop]; rfl
            have q242 : (((s.l[i].op.toNat : Nat) : Int) == 242) = false := by rw [hop]; rfl
            have q244 : (((s.l[i].op.toNat : Nat) : Int) == 244) = false := by rw [hop]; rfl
            have q250 : (((s.l[i].op.toNat : Nat) : Int) == 250) = false := by rw [hop]; rfl
            have hR : evR s.l[i] = [otherOf s.l[i]] := by simp [evR, hf0, hop]
            have hW : evW s.l[i] = [] := by simp [evW, hf0, hop]
            have eR := rR1 hlt hR
            have eW := rW0 hlt hW
            simp (implicitDefEqProofs := false) (maxSteps := 2000000) only [go_sem, Nat.reduceAdd, Nat.reduceSub, Nat.reduceMul, Nat.reduceLT, Nat.reduceLeDiff, Nat.reduceEqDiff, Nat.reduceBEq, Nat.reduceBNe, Nat.reducePow, Int.reduceBEq, Int.reduceBNe, Int.reduceEq, Int.reduceLT, Int.reduceLE, Int.reduceNeg, Int.reduceToNat, Int.reduceMul, Int.reduceAdd, Int.reduceSub, Int.reducePow, Int.reduceFDiv, reduceCtorEq, reduceIte, q84, q85, q49, q59, q60, q63, q71, q240, q245, q255, q241, q242, q244, q250, size_zeros, size_blit, length_encWord]
            refine astep_call (rput_calls (Sl.app (rise (stR (s.l.take i)))) (otherOf s.l[i]) (by show (rise _).length ≤ 4000; omega) _) ?_
            simp (implicitDefEqProofs := false) (maxSteps := 2000000) only [go_sem, Nat.reduceAdd, Nat.reduceSub, Nat.reduceMul, Nat.reduceLT, Nat.reduceLeDiff, Nat.reduceEqDiff, Nat.reduceBEq, Nat.reduceBNe, Nat.reducePow, Int.reduceBEq, Int.reduceBNe, Int.reduceEq, Int.reduceLT, Int.reduceLE, Int.reduceNeg, Int.reduceToNat, Int.reduceMul, Int.reduceAdd, Int.reduceSub, Int.reducePow, Int.reduceFDiv, reduceCtorEq, reduceIte, q84, q85, q49, q59, q60, q63, q71, q240, q245, q255, q241, q242, q244, q250, length_encWord]
            refine ⟨i + 1, by omega, by omega, ?_⟩
            rw [eR, eW, wrap_i64_of _ (by omega) (by omega), ofNat_succ']
            refine Keeps.easeP (t := [.cells #[.slice none 0 0, .slice none 0 0] 0 true, .cells #[slV encPl (Sl.app _), slV encPl (Sl.app _)] 0 true]) (oren_rs _ _) ?_
            repeat (first | exact Keeps.nil | refine Keeps.junk _ ?_ | refine Keeps.keep (by first | exact .plain _ rfl | exact (Tree.slV tree_encEv _).ren | exact .ptr _ _ _ (by simp) rfl) ?_)
        by_cases n71 : s.l[i].op = 71
        · have hop := n71
          as_aux_lemma =>
            have q84 : (((s.l[i].op.toNat : Nat) : Int) == 84) = false := by rw [hop]; rfl
            have q85 : (((s.l[i].op.toNat : Nat) : Int) == 85) = false := by rw [hop]; rfl
            have q49 : (((s.l[i].op.toNat : Nat) : Int) == 49) = false := by rw [hop]; rfl
            have q59 : (((s.l[i].op.toNat : Nat) : Int) == 59) = false := by rw [hop]; rfl
            have q60 : (((s.l[i].op.toNat : Nat) : Int) == 60) = false := by rw [hop]; rfl
            have q63 : (((s.l[i].op.toNat : Nat) : Int) == 63) = false := by rw [hop]; rfl
            have q71 : (((s.l[i].op.toNat : Nat) : Int) == 71) = true := by rw [hop]; rfl
            have q240 : (((s.l[i].op.toNat : Nat) : Int) == 240) = false := by rw [hop]; rfl
            have q245 : (((s.l[i].op.toNat : Nat) : Int) == 245) = false := by rw [hop]; rfl
            have q255 : (((s.l[i].op.toNat : Nat) : Int) == 255) = false := by rw [hop]; rfl
            have q241 : (((s.l[i].op.toNat : Nat) : Int) == 241) = false := by rw [hop]; rfl
            have q242 : (((s.l[i].op.toNat : Nat) : Int) == 242) = false := by rw [hop]; rfl
            have q244 : (((s.l[i].op.toNat : Nat) : Int) == 244) = false := by rw [hop]; rfl
            have q250 : (((s.l[i].op.toNat : Nat) : Int) == 250) = false := by rw [hop]; rfl
            have hR : evR s.l[i] = [selfOf s.l[i]] := by simp [evR, hf0, hop]
            have hW : evW s.l[i] = [] := by simp [evW, hf0, hop]
            have eR := rR1 hlt hR
            have eW := rW0 hlt hW
            simp (implicitDefEqProofs := false) (maxSteps := 2000000) only [go_sem, Nat.reduceAdd, Nat.reduceSub, Nat.reduceMul, Nat.reduceLT, Nat.reduceLeDiff, Nat.reduceEqDiff, Nat.reduceBEq, Nat.reduceBNe, Nat.reducePow, Int.reduceBEq, Int.reduceBNe, Int.reduceEq, Int.reduceLT, Int.reduceLE, Int.reduceNeg, Int.reduceToNat, Int.reduceMul, Int.reduceAdd, Int.reduceSub, Int.reducePow, Int.reduceFDiv, reduceCtorEq, reduceIte, q84, q85, q49, q59, q60, q63, q71, q240, q245, q255, q241, q242, q244, q250, size_zeros, size_blit, length_encWord]
            refine astep_call (rput_calls (Sl.app (rise (stR (s.l.take i)))) (selfOf s.l[i]) (by show (rise _).length ≤ 4000; omega) _) ?_
            simp (implicitDefEqProofs := false) (maxSteps := 2000000) only [go_sem, Nat.reduceAdd, Nat.reduceSub, Nat.reduceMul, Nat.reduceLT, Nat.reduceLeDiff, Nat.reduceEqDiff, Nat.reduceBEq, Nat.reduceBNe, Nat.reducePow, Int.reduceBEq, Int.reduceBNe, Int.reduceEq, Int.reduceLT, Int.reduceLE, Int.reduceNeg, Int.reduceToNat, Int.reduceMul, Int.reduceAdd, Int.reduceSub, Int.reducePow, Int.reduceFDiv, reduceCtorEq, reduceIte, q84, q85, q49, q59, q60, q63, q71, q240, q245, q255, q241, q242, q244, q250, length_encWord]
            refine ⟨i + 1, by omega, by omega, ?_⟩
            rw [eR, eW, wrap_i64_of _ (by omega) (by omega), ofNat_succ']
            refine Keeps.easeP (t := [.cells #[.slice none 0 0, .slice none 0 0] 0 true, .cells #[slV encPl (Sl.app _), slV encPl (Sl.app _)] 0 true]) (oren_rs _ _) ?_
            repeat (first | exact Keeps.nil | refine Keeps.junk _ ?_ | refine Keeps.keep (by first | exact .plain _ rfl | exact (Tree.slV tree_encEv _).ren | exact .ptr _ _ _ (by simp) rfl) ?_)
        by_cases n240 : s.l[i].op = 240
        · have hop := n240
          as_aux_lemma =>
            have q84 : (((s.l[i].op.toNat : Nat) : Int) == 84) = false := by rw [hop]; rfl
            have q85 : (((s.l[i].op.toNat : Nat) : Int) == 85) = false := by rw [hop]; rfl
            have q49 : (((s.l[i].op.toNat : Nat) : Int) == 49) = false := by rw [hop]; rfl
            have q59 : (((s.l[i].op.toNat : Nat) : Int) == 59) = false := by rw [hop]; rfl
            have q60 : (((s.l[i].op.toNat : Nat) : Int) == 60) = false := by rw [hop]; rfl
            have q63 : (((s.l[i].op.toNat : Nat) : Int) == 63) = false := by rw [hop]; rfl
            have q71 : (((s.l[i].op.toNat : Nat) : Int) == 71) = false := by rw [hop]; rfl
            have q240 : (((s.l[i].op.toNat : Nat) : Int) == 240) = true := by rw [hop]; rfl
            have q245 : (((s.l[i].op.toNat : Nat) : Int) == 245) = false := by rw [hop]; rfl
            have q255 : (((s.l[i].op.toNat : Nat) : Int) == 255) = false := by rw [hop]; rfl
            have q241 : (((s.l[i].op.toNat : Nat) : Int) == 241) = false := by rw [hop]; rfl
            have q242 : (((s.l[i].op.toNat : Nat) : Int) == 242) = false := by rw [hop]; rfl
            have q244 : (((s.l[i].op.toNat : Nat) : Int) == 244) = false := by rw [hop]; rfl
            have q250 : (((s.l[i].op.toNat : Nat) : Int) == 250) = false := by rw [hop]; rfl
            have hR : evR s.l[i] = [] := by simp [evR, hf0, hop]
            have hW : evW s.l[i] = [selfOf s.l[i], otherOf s.l[i]] := by simp [evW, hf0, hop]
            have eR := rR0 hlt hR
            have eW := rW2 hlt hW
            simp (implicitDefEqProofs := false) (maxSteps := 2000000) only [go_sem, Nat.reduceAdd, Nat.reduceSub, Nat.reduceMul, Nat.reduceLT, Nat.reduceLeDiff, Nat.reduceEqDiff, Nat.reduceBEq, Nat.reduceBNe, Nat.reducePow, Int.reduceBEq, Int.reduceBNe, Int.reduceEq, Int.reduceLT, Int.reduceLE, Int.reduceNeg, Int.reduceToNat, Int.reduceMul, Int.reduceAdd, Int.reduceSub, Int.reducePow, Int.reduceFDiv, reduceCtorEq, reduceIte, q84, q85, q49, q59, q60, q63, q71, q240, q245, q255, q241, q242, q244, q250, size_zeros, size_blit, length_encWord]
            refine astep_call (rput_calls (Sl.app (rise (stW (s.l.take i)))) (otherOf s.l[i]) (by show (rise _).length ≤ 4000; omega) _) ?_
            simp (implicitDefEqProofs := false) (maxSteps := 2000000) only [go_sem, Nat.reduceAdd, Nat.reduceSub, Nat.reduceMul, Nat.reduceLT, Nat.reduceLeDiff, Nat.reduceEqDiff, Nat.reduceBEq, Nat.reduceBNe, Nat.reducePow, Int.reduceBEq, Int.reduceBNe, Int.reduceEq, Int.reduceLT, Int.reduceLE, Int.reduceNeg, Int.reduceToNat, Int.reduceMul, Int.reduceAdd, Int.reduceSub, Int.reducePow, Int.reduceFDiv, reduceCtorEq, reduceIte, q84, q85, q49, q59, q60, q63, q71, q240, q245, q255, q241, q242, q244, q250, length_encWord]
            refine astep_call (rput_calls (Sl.app (plIns (rise (stW (s.l.take i))) (otherOf s.l[i]))) (selfOf s.l[i]) (by exact bnd2) _) ?_
            simp (implicitDefEqProofs := false) (maxSteps := 2000000) only [go_sem, Nat.reduceAdd, Nat.reduceSub, Nat.reduceMul, Nat.reduceLT, Nat.reduceLeDiff, Nat.reduceEqDiff, Nat.reduceBEq, Nat.reduceBNe, Nat.reducePow, Int.reduceBEq, Int.reduceBNe, Int.reduceEq, Int.reduceLT, Int.reduceLE, Int.reduceNeg, Int.reduceToNat, Int.reduceMul, Int.reduceAdd, Int.reduceSub, Int.reducePow, Int.reduceFDiv, reduceCtorEq, reduceIte, q84, q85, q49, q59, q60, q63, q71, q240, q245, q255, q241, q242, q244, q250, length_encWord]
            refine ⟨i + 1, by omega, by omega, ?_⟩
            rw [eR, eW, wrap_i64_of _ (by omega) (by omega), ofNat_succ']
            refine Keeps.easeP (t := [.cells #[.slice none 0 0, .slice none 0 0] 0 true, .cells #[slV encPl (Sl.app _), slV encPl (Sl.app _)] 0 true]) (oren_rs _ _) ?_
            repeat (first | exact Keeps.nil | refine Keeps.junk _ ?_ | refine Keeps.keep (by first | exact .plain _ rfl | exact (Tree.slV tree_encEv _).ren | exact .ptr _ _ _ (by simp) rfl) ?_)
        by_cases n245 : s.l[i].op = 245
        · have hop := n245
          as_aux_lemma =>
            have q84 : (((s.l[i].op.toNat : Nat) : Int) == 84) = false := by rw [hop]; rfl
            have q85 : (((s.l[i].op.toNat : Nat) : Int) == 85) = false := by rw [hop]; rfl
            have q49 : (((s.l[i].op.toNat : Nat) : Int) == 49) = false := by rw [hop]; rfl
            have q59 : (((s.l[i].op.toNat : Nat) : Int) == 59) = false := by rw [hop]; rfl
            have q60 : (((s.l[i].op.toNat : Nat) : Int) == 60) = false := by rw [hop]; rfl
            have q63 : (((s.l[i].op.toNat : Nat) : Int) == 63) = false := by rw [hop]; rfl
            have q71 : (((s.l[i].op.toNat : Nat) : Int) == 71) = false := by rw [hop]; rfl
            have q240 : (((s.l[i].op.toNat : Nat) : Int) == 240) = false := by rw [hop]; rfl
            have q245 : (((s.l[i].op.toNat : Nat) : Int) == 245) = true := by rw [hop]; rfl
            have q255 : (((s.l[i].op.toNat : Nat) : Int) == 255) = false := by rw [hop]; rfl
            have q241 : (((s.l[i].op.toNat : Nat) : Int) == 241) = false := by rw [hop]; rfl
            have q242 : (((s.l[i].op.toNat : Nat) : Int) == 242) = false := by rw [hop]; rfl
            have q244 : (((s.l[i].op.toNat : Nat) : Int) == 244) = false := by rw [hop]; rfl
            have q250 : (((s.l[i].op.toNat : Nat) : Int) == 250) = false := by rw [hop]; rfl
            have hR : evR s.l[i] = [] := by simp [evR, hf0, hop]
            have hW : evW s.l[i] = [selfOf s.l[i], otherOf s.l[i]] := by simp [evW, hf0, hop]
            have eR := rR0 hlt hR
            have eW := rW2 hlt hW
            simp (implicitDefEqProofs := false) (maxSteps := 2000000) only [go_sem, Nat.reduceAdd, Nat.reduceSub, Nat.reduceMul, Nat.reduceLT, Nat.reduceLeDiff, Nat.reduceEqDiff, Nat.reduceBEq, Nat.reduceBNe, Nat.reducePow, Int.reduceBEq, Int.reduceBNe, Int.reduceEq, Int.reduceLT, Int.reduceLE, Int.reduceNeg, Int.reduceToNat, Int.reduceMul, Int.reduceAdd, Int.reduceSub, Int.reducePow, Int.reduceFDiv, reduceCtorEq, reduceIte, q84, q85, q49, q59, q60, q63, q71, q240, q245, q255, q241, q242, q244, q250, size_zeros, size_blit, length_encWord]
            refine astep_call (rput_calls (Sl.app (rise (stW (s.l.take i)))) (otherOf s.l[i]) (by show (rise _).length ≤ 4000; omega) _) ?_
            simp (implicitDefEqProofs := false) (maxSteps := 2000000) only [go_sem, Nat.reduceAdd, Nat.reduceSub, Nat.reduceMul, Nat.reduceLT, Nat.reduceLeDiff, Nat.reduceEqDiff, Nat.reduceBEq, Nat.reduceBNe, Nat.reducePow, Int.reduceBEq, Int.reduceBNe, Int.reduceEq, Int.reduceLT, Int.reduceLE, Int.reduceNeg, Int.reduceToNat, Int.reduceMul, Int.reduceAdd, Int.reduceSub, Int.reducePow, Int.reduceFDiv, reduceCtorEq, reduceIte, q84, q85, q49, q59, q60, q63, q71, q240, q245, q255, q241, q242, q244, q250, length_encWord]
            refine astep_call (rput_calls (Sl.app (plIns (rise (stW (s.l.take i))) (otherOf s.l[i]))) (selfOf s.l[i]) (by exact bnd2) _) ?_
            simp (implicitDefEqProofs := false) (maxSteps := 2000000) only [go_sem, Nat.reduceAdd, Nat.reduceSub, Nat.reduceMul, Nat.reduceLT, Nat.reduceLeDiff, Nat.reduceEqDiff, Nat.reduceBEq, Nat.reduceBNe, Nat.reducePow, Int.reduceBEq, Int.reduceBNe, Int.reduceEq, Int.reduceLT, Int.reduceLE, Int.reduceNeg, Int.reduceToNat, Int.reduceMul, Int.reduceAdd, Int.reduceSub, Int.reducePow, Int.reduceFDiv, reduceCtorEq, reduceIte, q84, q85, q49, q59, q60, q63, q71, q240, q245, q255, q241, q242, q244, q250, length_encWord]
            refine ⟨i + 1, by omega, by omega, ?_⟩
            rw [eR, eW, wrap_i64_of _ (by omega) (by omega), ofNat_succ']
            refine Keeps.easeP (t := [.cells #[.slice none 0 0, .slice none 0 0] 0 true, .cells #[slV encPl (Sl.app _), slV encPl (Sl.app _)] 0 true]) (oren_rs _ _) ?_
            repeat (first | exact Keeps.nil | refine Keeps.junk _ ?_ | refine Keeps.keep (by first | exact .plain _ rfl | exact (Tree.slV tree_encEv _).ren | exact .ptr _ _ _ (by simp) rfl) ?_)
        by_cases n255 : s.l[i].op = 255
        · have hop := n255
          as_aux_lemma =>
            have q84 : (((s.l[i].op.toNat : Nat) : Int) == 84) = false := by rw [hop]; rfl
            have q85 : (((s.l[i].op.toNat : Nat) : Int) == 85) = false := by rw [hop]; rfl
            have q49 : (((s.l[i].op.toNat : Nat) : Int) == 49) = false := by rw [hop]; rfl
            have q59 : (((s.l[i].op.toNat : Nat) : Int) == 59) = false := by rw [hop]; rfl
            have q60 : (((s.l[i].op.toNat : Nat) : Int) == 60) = false := by rw [hop]; rfl
            have q63 : (((s.l[i].op.toNat : Nat) : Int) == 63) = false := by rw [hop]; rfl
            have q71 : (((s.l[i].op.toNat : Nat) : Int) == 71) = false := by rw [hop]; rfl
            have q240 : (((s.l[i].op.toNat : Nat) : Int) == 240) = false := by rw [hop]; rfl
            have q245 : (((s.l[i].op.toNat : Nat) : Int) == 245) = false := by rw [hop]; rfl
            have q255 : (((s.l[i].op.toNat : Nat) : Int) == 255) = true := by rw [hop]; rfl
            have q241 : (((s.l[i].op.toNat : Nat) : Int) == 241) = false := by rw [hop]; rfl
            have q242 : (((s.l[i].op.toNat : Nat) : Int) == 242) = false := by rw [hop]; rfl
            have q244 : (((s.l[i].op.toNat : Nat) : Int) == 244) = false := by rw [hop]; rfl
            have q250 : (((s.l[i].op.toNat : Nat) : Int) == 250) = false := by rw [hop]; rfl
            have hR : evR s.l[i] = [] := by simp [evR, hf0, hop]
            have hW : evW s.l[i] = [selfOf s.l[i], otherOf s.l[i]] := by simp [evW, hf0, hop]
            have eR := rR0 hlt hR
            have eW := rW2 hlt hW
            simp (implicitDefEqProofs := false) (maxSteps := 2000000) only [go_sem, Nat.reduceAdd, Nat.reduceSub, Nat.reduceMul, Nat.reduceLT, Nat.reduceLeDiff, Nat.reduceEqDiff, Nat.reduceBEq, Nat.reduceBNe, Nat.reducePow, Int.reduceBEq, Int.reduceBNe, Int.reduceEq, Int.reduceLT, Int.reduceLE, Int.reduceNeg, Int.reduceToNat, Int.reduceMul, Int.reduceAdd, Int.reduceSub, Int.reducePow, Int.reduceFDiv, reduceCtorEq, reduceIte, q84, q85, q49, q59, q60, q63, q71, q240, q245, q255, q241, q242, q244, q250, size_zeros, size_blit, length_encWord]
            refine astep_call (rput_calls (Sl.app (rise (stW (s.l.take i)))) (otherOf s.l[i]) (by show (rise _).length ≤ 4000; omega) _) ?_
            simp (implicitDefEqProofs := false) (maxSteps := 2000000) only [go_sem, Nat.reduceAdd, Nat.reduceSub, Nat.reduceMul, Nat.reduceLT, Nat.reduceLeDiff, Nat.reduceEqDiff, Nat.reduceBEq, Nat.reduceBNe, Nat.reducePow, Int.reduceBEq, Int.reduceBNe, Int.reduceEq, Int.reduceLT, Int.reduceLE, Int.reduceNeg, Int.reduceToNat, Int.reduceMul, Int.reduceAdd, Int.reduceSub, Int.reducePow, Int.reduceFDiv, reduceCtorEq, reduceIte, q84, q85, q49, q59, q60, q63, q71, q240, q245, q255, q241, q242, q244, q250, length_encWord]
            refine astep_call (rput_calls (Sl.app (plIns (rise (stW (s.l.take i))) (otherOf s.l[i]))) (selfOf s.l[i]) (by exact bnd2) _) ?_
            simp (implicitDefEqProofs := false) (maxSteps := 2000000) only [go_sem, Nat.reduceAdd, Nat.reduceSub, Nat.reduceMul, Nat.reduceLT, Nat.reduceLeDiff, Nat.reduceEqDiff, Nat.reduceBEq, Nat.reduceBNe, Nat.reducePow, Int.reduceBEq, Int.reduceBNe, Int.reduceEq, Int.reduceLT, Int.reduceLE, Int.reduceNeg, Int.reduceToNat, Int.reduceMul, Int.reduceAdd, Int.reduceSub, Int.reducePow, Int.reduceFDiv, reduceCtorEq, reduceIte, q84, q85, q49, q59, q60, q63, q71, q240, q245, q255, q241, q242, q244, q250, length_encWord]
            refine ⟨i + 1, by omega, by omega, ?_⟩
            rw [eR, eW, wrap_i64_of _ (by omega) (by omega), ofNat_succ']
            refine Keeps.easeP (t := [.cells #[.slice none 0 0, .slice none 0 0] 0 true, .cells #[slV encPl (Sl.app _), slV encPl (Sl.app _)] 0 true]) (oren_rs _ _) ?_
            repeat (first | exact Keeps.nil | refine Keeps.junk _ ?_ | refine Keeps.keep (by first | exact .plain _ rfl | exact (Tree.slV tree_encEv _).ren | exact .ptr _ _ _ (by simp) rfl) ?_)
        by_cases n241 : s.l[i].op = 241
        · have hop := n241
          as_aux_lemma =>
            have q84 : (((s.l[i].op.toNat : Nat) : Int) == 84) = false := by rw [hop]; rfl
            have q85 : (((s.l[i].op.toNat : Nat) : Int) == 85) = false := by rw [hop]; rfl
            have q49 : (((s.l[i].op.toNat : Nat) : Int) == 49) = false := by rw [hop]; rfl
            have q59 : (((s.l[i].op.toNat : Nat) : Int) == 59) = false := by rw [hop]; rfl
            have q60 : (((s.l[i].op.toNat : Nat) : Int) == 60) = false := by rw [hop]; rfl
            have q63 : (((s.l[i].op.toNat : Nat) : Int) == 63) = false := by rw [hop]; rfl
            have q71 : (((s.l[i].op.toNat : Nat) : Int) == 71) = false := by rw [hop]; rfl
            have q240 : (((s.l[i].op.toNat : Nat) : Int) == 240) = false := by rw [hop]; rfl
            have q245 : (((s.l[i].op.toNat : Nat) : Int) == 245) = false := by rw [hop]; rfl
            have q255 : (((s.l[i].op.toNat : Nat) : Int) == 255) = false := by rw [hop]; rfl
            have q241 : (((s.l[i].op.toNat : Nat) : Int) == 241) = true := by rw [hop]; rfl
            have q242 : (((s.l[i].op.toNat : Nat) : Int) == 242) = false := by rw [hop]; rfl
            have q244 : (((s.l[i].op.toNat : Nat) : Int) == 244) = false := by rw [hop]; rfl
            have q250 : (((s.l[i].op.toNat : Nat) : Int) == 250) = false := by rw [hop]; rfl
            have hR : evR s.l[i] = [otherOf s.l[i]] := by simp [evR, hf0, hop]
            simp (implicitDefEqProofs := false) (maxSteps := 2000000) only [go_sem, Nat.reduceAdd, Nat.reduceSub, Nat.reduceMul, Nat.reduceLT, Nat.reduceLeDiff, Nat.reduceEqDiff, Nat.reduceBEq, Nat.reduceBNe, Nat.reducePow, Int.reduceBEq, Int.reduceBNe, Int.reduceEq, Int.reduceLT, Int.reduceLE, Int.reduceNeg, Int.reduceToNat, Int.reduceMul, Int.reduceAdd, Int.reduceSub, Int.reducePow, Int.reduceFDiv, reduceCtorEq, reduceIte, q84, q85, q49, q59, q60, q63, q71, q240, q245, q255, q241, q242, q244, q250, size_zeros, size_blit, length_encWord]
            refine astep_call (rput_calls (Sl.app (rise (stR (s.l.take i)))) (otherOf s.l[i]) (by show (rise _).length ≤ 4000; omega) _) ?_
            by_cases hz : s.l[i].value = zeroW
            · have hW : evW s.l[i] = [] := by simp [evW, hf0, hop, hz]
              have eR := rR1 hlt hR
              have eW := rW0 hlt hW
              have hd : decide (s.l[i].value = zeroW) = true := decide_eq_true hz
              simp (implicitDefEqProofs := false) (maxSteps := 2000000) only [go_sem, Nat.reduceAdd, Nat.reduceSub, Nat.reduceMul, Nat.reduceLT, Nat.reduceLeDiff, Nat.reduceEqDiff, Nat.reduceBEq, Nat.reduceBNe, Nat.reducePow, Int.reduceBEq, Int.reduceBNe, Int.reduceEq, Int.reduceLT, Int.reduceLE, Int.reduceNeg, Int.reduceToNat, Int.reduceMul, Int.reduceAdd, Int.reduceSub, Int.reducePow, Int.reduceFDiv, reduceCtorEq, reduceIte, q84, q85, q49, q59, q60, q63, q71, q240, q245, q255, q241, q242, q244, q250, length_encWord, zeroW_enc, hd]
              refine ⟨i + 1, by omega, by omega, ?_⟩
              rw [eR, eW, wrap_i64_of _ (by omega) (by omega), ofNat_succ']
              refine Keeps.easeP (t := [.cells #[.slice none 0 0, .slice none 0 0] 0 true, .cells #[slV encPl (Sl.app _), slV encPl (Sl.app _)] 0 true]) (oren_rs _ _) ?_
              repeat (first | exact Keeps.nil | refine Keeps.junk _ ?_ | refine Keeps.keep (by first | exact .plain _ rfl | exact (Tree.slV tree_encEv _).ren | exact .ptr _ _ _ (by simp) rfl) ?_)
            · have hW : evW s.l[i] = [selfOf s.l[i], otherOf s.l[i]] := by simp [evW, hf0, hop, hz]
              have eR := rR1 hlt hR
              have eW := rW2 hlt hW
              have hd : decide (s.l[i].value = zeroW) = false := decide_eq_false hz
              simp (implicitDefEqProofs := false) (maxSteps := 2000000) only [go_sem, Nat.reduceAdd, Nat.reduceSub, Nat.reduceMul, Nat.reduceLT, Nat.reduceLeDiff, Nat.reduceEqDiff, Nat.reduceBEq, Nat.reduceBNe, Nat.reducePow, Int.reduceBEq, Int.reduceBNe, Int.reduceEq, Int.reduceLT, Int.reduceLE, Int.reduceNeg, Int.reduceToNat, Int.reduceMul, Int.reduceAdd, Int.reduceSub, Int.reducePow, Int.reduceFDiv, reduceCtorEq, reduceIte, q84, q85, q49, q59, q60, q63, q71, q240, q245, q255, q241, q242, q244, q250, length_encWord, zeroW_enc, hd]
              refine astep_call (rput_calls (Sl.app (rise (stW (s.l.take i)))) (otherOf s.l[i]) (by show (rise _).length ≤ 4000; omega) _) ?_
              simp (implicitDefEqProofs := false) (maxSteps := 2000000) only [go_sem, Nat.reduceAdd, Nat.reduceSub, Nat.reduceMul, Nat.reduceLT, Nat.reduceLeDiff, Nat.reduceEqDiff, Nat.reduceBEq, Nat.reduceBNe, Nat.reducePow, Int.reduceBEq, Int.reduceBNe, Int.reduceEq, Int.reduceLT, Int.reduceLE, Int.reduceNeg, Int.reduceToNat, Int.reduceMul, Int.reduceAdd, Int.reduceSub, Int.reducePow, Int.reduceFDiv, reduceCtorEq, reduceIte, q84, q85, q49, q59, q60, q63, q71, q240, q245, q255, q241, q242, q244, q250, length_encWord]
              refine astep_call (rput_calls (Sl.app (plIns (rise (stW (s.l.take i))) (otherOf s.l[i]))) (selfOf s.l[i]) (by exact bnd2) _) ?_
              simp (implicitDefEqProofs := false) (maxSteps := 2000000) only [go_sem, Nat.reduceAdd, Nat.reduceSub, Nat.reduceMul, Nat.reduceLT, Nat.reduceLeDiff, Nat.reduceEqDiff, Nat.reduceBEq, Nat.reduceBNe, Nat.reducePow, Int.reduceBEq, Int.reduceBNe, Int.reduceEq, Int.reduceLT, Int.reduceLE, Int.reduceNeg, Int.reduceToNat, Int.reduceMul, Int.reduceAdd, Int.reduceSub, Int.reducePow, Int.reduceFDiv, reduceCtorEq, reduceIte, q84, q85, q49, q59, q60, q63, q71, q240, q245, q255, q241, q242, q244, q250, length_encWord]
              refine ⟨i + 1, by omega, by omega, ?_⟩
              rw [eR, eW, wrap_i64_of _ (by omega) (by omega), ofNat_succ']
              refine Keeps.easeP (t := [.cells #[.slice none 0 0, .slice none 0 0] 0 true, .cells #[slV encPl (Sl.app _), slV encPl (Sl.app _)] 0 true]) (oren_rs _ _) ?_
              repeat (first | exact Keeps.nil | refine Keeps.junk _ ?_ | refine Keeps.keep (by first | exact .plain _ rfl | exact (Tree.slV tree_encEv _).ren | exact .ptr _ _ _ (by simp) rfl) ?_)
        by_cases n242 : s.l[i].op = 242
        · have hop := n242
          as_aux_lemma =>
            have q84 : (((s.l[i].op.toNat : Nat) : Int) == 84) = false := by rw [hop]; rfl
            have q85 : (((s.l[i].op.toNat : Nat) : Int) == 85) = false := by rw [hop]; rfl
            have q49 : (((s.l[i].op.toNat : Nat) : Int) == 49) = false := by rw [hop]; rfl
            have q59 : (((s.l[i].op.toNat : Nat) : Int) == 59) = false := by rw [hop]; rfl
            have q60 : (((s.l[i].op.toNat : Nat) : Int) == 60) = false := by rw [hop]; rfl
            have q63 : (((s.l[i].op.toNat : Nat) : Int) == 63) = false := by rw [hop]; rfl
            have q71 : (((s.l[i].op.toNat : Nat) : Int) == 71) = false := by rw [hop]; rfl
            have q240 : (((s.l[i].op.toNat : Nat) : Int) == 240) = false := by rw [hop]; rfl
            have q245 : (((s.l[i].op.toNat : Nat) : Int) == 245) = false := by rw [hop]; rfl
            have q255 : (((s.l[i].op.toNat : Nat) : Int) == 255) = false := by rw [hop]; rfl
            have q241 : (((s.l[i].op.toNat : Nat) : Int) == 241) = false := by rw [hop]; rfl
            have q242 : (((s.l[i].op.toNat : Nat) : Int) == 242) = true := by rw [hop]; rfl
            have q244 : (((s.l[i].op.toNat : Nat) : Int) == 244) = false := by rw [hop]; rfl
            have q250 : (((s.l[i].op.toNat : Nat) : Int) == 250) = false := by rw [hop]; rfl
            have hR : evR s.l[i] = [otherOf s.l[i]] := by simp [evR, hf0, hop]
            simp (implicitDefEqProofs := false) (maxSteps := 2000000) only [go_sem, Nat.reduceAdd, Nat.reduceSub, Nat.reduceMul, Nat.reduceLT, Nat.reduceLeDiff, Nat.reduceEqDiff, Nat.reduceBEq, Nat.reduceBNe, Nat.reducePow, Int.reduceBEq, Int.reduceBNe, Int.reduceEq, Int.reduceLT, Int.reduceLE, Int.reduceNeg, Int.reduceToNat, Int.reduceMul, Int.reduceAdd, Int.reduceSub, Int.reducePow, Int.reduceFDiv, reduceCtorEq, reduceIte, q84, q85, q49, q59, q60, q63, q71, q240, q245, q255, q241, q242, q244, q250, size_zeros, size_blit, length_encWord]
            refine astep_call (rput_calls (Sl.app (rise (stR (s.l.take i)))) (otherOf s.l[i]) (by show (rise _).length ≤ 4000; omega) _) ?_
            by_cases hz : s.l[i].value = zeroW
            · have hW : evW s.l[i] = [] := by simp [evW, hf0, hop, hz]
              have eR := rR1 hlt hR
              have eW := rW0 hlt hW
              have hd : decide (s.l[i].value = zeroW) = true := decide_eq_true hz
              simp (implicitDefEqProofs := false) (maxSteps := 2000000) only [go_sem, Nat.reduceAdd, Nat.reduceSub, Nat.reduceMul, Nat.reduceLT, Nat.reduceLeDiff, Nat.reduceEqDiff, Nat.reduceBEq, Nat.reduceBNe, Nat.reducePow, Int.reduceBEq, Int.reduceBNe, Int.reduceEq, Int.reduceLT, Int.reduceLE, Int.reduceNeg, Int.reduceToNat, Int.reduceMul, Int.reduceAdd, Int.reduceSub, Int.reducePow, Int.reduceFDiv, reduceCtorEq, reduceIte, q84, q85, q49, q59, q60, q63, q71, q240, q245, q255, q241, q242, q244, q250, length_encWord, zeroW_enc, hd]
              refine ⟨i + 1, by omega, by omega, ?_⟩
              rw [eR, eW, wrap_i64_of _ (by omega) (by omega), ofNat_succ']
              refine Keeps.easeP (t := [.cells #[.slice none 0 0, .slice none 0 0] 0 true, .cells #[slV encPl (Sl.app _), slV encPl (Sl.app _)] 0 true]) (oren_rs _ _) ?_
              repeat (first | exact Keeps.nil | refine Keeps.junk _ ?_ | refine Keeps.keep (by first | exact .plain _ rfl | exact (Tree.slV tree_encEv _).ren | exact .ptr _ _ _ (by simp) rfl) ?_)
            · have hW : evW s.l[i] = [selfOf s.l[i], otherOf s.l[i]] := by simp [evW, hf0, hop, hz]
              have eR := rR1 hlt hR
              have eW := rW2 hlt hW
              have hd : decide (s.l[i].value = zeroW) = false := decide_eq_false hz
              simp (implicitDefEqProofs := false) (maxSteps := 2000000) only [go_sem, Nat.reduceAdd, Nat.reduceSub, Nat.reduceMul, Nat.reduceLT, Nat.reduceLeDiff, Nat.reduceEqDiff, Nat.reduceBEq, Nat.reduceBNe, Nat.reducePow, Int.reduceBEq, Int.reduceBNe, Int.reduceEq, Int.reduceLT, Int.reduceLE, Int.reduceNeg, Int.reduceToNat, Int.reduceMul, Int.reduceAdd, Int.reduceSub, Int.reducePow, Int.reduceFDiv, reduceCtorEq, reduceIte, q84, q85, q49, q59, q60, q63, q71, q240, q245, q255, q241, q242, q244, q250, length_encWord, zeroW_enc, hd]
              refine astep_call (rput_calls (Sl.app (rise (stW (s.l.take i)))) (otherOf s.l[i]) (by show (rise _).length ≤ 4000; omega) _) ?_
              simp (implicitDefEqProofs := false) (maxSteps := 2000000) only [go_sem, Nat.reduceAdd, Nat.reduceSub, Nat.reduceMul, Nat.reduceLT, Nat.reduceLeDiff, Nat.reduceEqDiff, Nat.reduceBEq, Nat.reduceBNe, Nat.reducePow, Int.reduceBEq, Int.reduceBNe, Int.reduceEq, Int.reduceLT, Int.reduceLE, Int.reduceNeg, Int.reduceToNat, Int.reduceMul, Int.reduceAdd, Int.reduceSub, Int.reducePow, Int.reduceFDiv, reduceCtorEq, reduceIte, q84, q85, q49, q59, q60, q63, q71, q240, q245, q255, q241, q242, q244, q250, length_encWord]
              refine astep_call (rput_calls (Sl.app (plIns (rise (stW (s.l.take i))) (otherOf s.l[i]))) (selfOf s.l[i]) (by exact bnd2) _) ?_
              simp (implicitDefEqProofs := false) (maxSteps := 2000000) only [go_sem, Nat.reduceAdd, Nat.reduceSub, Nat.reduceMul, Nat.reduceLT, Nat.reduceLeDiff, Nat.reduceEqDiff, Nat.reduceBEq, Nat.reduceBNe, Nat.reducePow, Int.reduceBEq, Int.reduceBNe, Int.reduceEq, Int.reduceLT, Int.reduceLE, Int.reduceNeg, Int.reduceToNat, Int.reduceMul, Int.reduceAdd, Int.reduceSub, Int.reducePow, Int.reduceFDiv, reduceCtorEq, reduceIte, q84, q85, q49, q59, q60, q63, q71, q240, q245, q255, q241, q242, q244, q250, length_encWord]
              refine ⟨i + 1, by omega, by omega, ?_⟩
              rw [eR, eW, wrap_i64_of _ (by omega) (by omega), ofNat_succ']
              refine Keeps.easeP (t := [.cells #[.slice none 0 0, .slice none 0 0] 0 true, .cells #[slV encPl (Sl.app _), slV encPl (Sl.app _)] 0 true]) (oren_rs _ _) ?_
              repeat (first | exact Keeps.nil | refine Keeps.junk _ ?_ | refine Keeps.keep (by first | exact .plain _ rfl | exact (Tree.slV tree_encEv _).ren | exact .ptr _ _ _ (by simp) rfl) ?_)
        by_cases n244 : s.l[i].op = 244
        · have hop := n244
          as_aux_lemma =>
            have q84 : (((s.l[i].op.toNat : Nat) : Int) == 84) = false := by rw [hop]; rfl
            have q85 : (((s.l[i].op.toNat : Nat) : Int) == 85) = false := by rw [hop]; rfl
            have q49 : (((s.l[i].op.toNat : Nat) : Int) == 49) = false := by rw [hop]; rfl
            have q59 : (((s.l[i].op.toNat : Nat) : Int) == 59) = false := by rw [hop]; rfl
            have q60 : (((s.l[i].op.toNat : Nat) : Int) == 60) = false := by rw [hop]; rfl
            have q63 : (((s.l[i].op.toNat : Nat) : Int) == 63) = false := by rw [hop]; rfl
            have q71 : (((s.l[i].op.toNat : Nat) : Int) == 71) = false := by rw [hop]; rfl
            have q240 : (((s.l[i].op.toNat : Nat) : Int) == 240) = false := by rw [hop]; rfl
            have q245 : (((s.l[i].op.toNat : Nat) : Int) == 245) = false := by rw [hop]; rfl
            have q255 : (((s.l[i].op.toNat : Nat) : Int) == 255) = false := by rw [hop]; rfl
            have q241 : (((s.l[i].op.toNat : Nat) : Int) == 241) = false := by rw [hop]; rfl
            have q242 : (((s.l[i].op.toNat : Nat) : Int) == 242) = false := by rw [hop]; rfl
            have q244 : (((s.l[i].op.toNat : Nat) : Int) == 244) = true := by rw [hop]; rfl
            have q250 : (((s.l[i].op.toNat : Nat) : Int) == 250) = false := by rw [hop]; rfl
            have hR : evR s.l[i] = [otherOf s.l[i]] := by simp [evR, hf0, hop]
            simp (implicitDefEqProofs := false) (maxSteps := 2000000) only [go_sem, Nat.reduceAdd, Nat.reduceSub, Nat.reduceMul, Nat.reduceLT, Nat.reduceLeDiff, Nat.reduceEqDiff, Nat.reduceBEq, Nat.reduceBNe, Nat.reducePow, Int.reduceBEq, Int.reduceBNe, Int.reduceEq, Int.reduceLT, Int.reduceLE, Int.reduceNeg, Int.reduceToNat, Int.reduceMul, Int.reduceAdd, Int.reduceSub, Int.reducePow, Int.reduceFDiv, reduceCtorEq, reduceIte, q84, q85, q49, q59, q60, q63, q71, q240, q245, q255, q241, q242, q244, q250, size_zeros, size_blit, length_encWord]
            refine astep_call (rput_calls (Sl.app (rise (stR (s.l.take i)))) (otherOf s.l[i]) (by show (rise _).length ≤ 4000; omega) _) ?_
            by_cases hz : s.l[i].value = zeroW
            · have hW : evW s.l[i] = [] := by simp [evW, hf0, hop, hz]
              have eR := rR1 hlt hR
              have eW := rW0 hlt hW
              have hd : decide (s.l[i].value = zeroW) = true := decide_eq_true hz
              simp (implicitDefEqProofs := false) (maxSteps := 2000000) only [go_sem, Nat.reduceAdd, Nat.reduceSub, Nat.reduceMul, Nat.reduceLT, Nat.reduceLeDiff, Nat.reduceEqDiff, Nat.reduceBEq, Nat.reduceBNe, Nat.reducePow, Int.reduceBEq, Int.reduceBNe, Int.reduceEq, Int.reduceLT, Int.reduceLE, Int.reduceNeg, Int.reduceToNat, Int.reduceMul, Int.reduceAdd, Int.reduceSub, Int.reducePow, Int.reduceFDiv, reduceCtorEq, reduceIte, q84, q85, q49, q59, q60, q63, q71, q240, q245, q255, q241, q242, q244, q250, length_encWord, zeroW_enc, hd]
              refine ⟨i + 1, by omega, by omega, ?_⟩
              rw [eR, eW, wrap_i64_of _ (by omega) (by omega), ofNat_succ']
              refine Keeps.easeP (t := [.cells #[.slice none 0 0, .slice none 0 0] 0 true, .cells #[slV encPl (Sl.app _), slV encPl (Sl.app _)] 0 true]) (oren_rs _ _) ?_
              repeat (first | exact Keeps.nil | refine Keeps.junk _ ?_ | refine Keeps.keep (by first | exact .plain _ rfl | exact (Tree.slV tree_encEv _).ren | exact .ptr _ _ _ (by simp) rfl) ?_)
            · have hW : evW s.l[i] = [selfOf s.l[i], otherOf s.l[i]] := by simp [evW, hf0, hop, hz]
              have eR := rR1 hlt hR
              have eW := rW2 hlt hW
              have hd : decide (s.l[i].value = zeroW) = false := decide_eq_false hz
              simp (implicitDefEqProofs := false) (maxSteps := 2000000) only [go_sem, Nat.reduceAdd, Nat.reduceSub, Nat.reduceMul, Nat.reduceLT, Nat.reduceLeDiff, Nat.reduceEqDiff, Nat.reduceBEq, Nat.reduceBNe, Nat.reducePow, Int.reduceBEq, Int.reduceBNe, Int.reduceEq, Int.reduceLT, Int.reduceLE, Int.reduceNeg, Int.reduceToNat, Int.reduceMul, Int.reduceAdd, Int.reduceSub, Int.reducePow, Int.reduceFDiv, reduceCtorEq, reduceIte, q84, q85, q49, q59, q60, q63, q71, q240, q245, q255, q241, q242, q244, q250, length_encWord, zeroW_enc, hd]
              refine astep_call (rput_calls (Sl.app (rise (stW (s.l.take i)))) (otherOf s.l[i]) (by show (rise _).length ≤ 4000; omega) _) ?_
              simp (implicitDefEqProofs := false) (maxSteps := 2000000) only [go_sem, Nat.reduceAdd, Nat.reduceSub, Nat.reduceMul, Nat.reduceLT, Nat.reduceLeDiff, Nat.reduceEqDiff, Nat.reduceBEq, Nat.reduceBNe, Nat.reducePow, Int.reduceBEq, Int.reduceBNe, Int.reduceEq, Int.reduceLT, Int.reduceLE, Int.reduceNeg, Int.reduceToNat, Int.reduceMul, Int.reduceAdd, Int.reduceSub, Int.reducePow, Int.reduceFDiv, reduceCtorEq, reduceIte, q84, q85, q49, q59, q60, q63, q71, q240, q245, q255, q241, q242, q244, q250, length_encWord]
              refine astep_call (rput_calls (Sl.app (plIns (rise (stW (s.l.take i))) (otherOf s.l[i]))) (selfOf s.l[i]) (by exact bnd2) _) ?_
              simp (implicitDefEqProofs := false) (maxSteps := 2000000) only [go_sem, Nat.reduceAdd, Nat.reduceSub, Nat.reduceMul, Nat.reduceLT, Nat.reduceLeDiff, Nat.reduceEqDiff, Nat.reduceBEq, Nat.reduceBNe, Nat.reducePow, Int.reduceBEq, Int.reduceBNe, Int.reduceEq, Int.reduceLT, Int.reduceLE, Int.reduceNeg, Int.reduceToNat, Int.reduceMul, Int.reduceAdd, Int.reduceSub, Int.reducePow, Int.reduceFDiv, reduceCtorEq, reduceIte, q84, q85, q49, q59, q60, q63, q71, q240, q245, q255, q241, q242, q244, q250, length_encWord]
              refine ⟨i + 1, by omega, by omega, ?_⟩
              rw [eR, eW, wrap_i64_of _ (by omega) (by omega), ofNat_succ']
              refine Keeps.easeP (t := [.cells #[.slice none 0 0, .slice none 0 0] 0 true, .cells #[slV encPl (Sl.app _), slV encPl (Sl.app _)] 0 true]) (oren_rs _ _) ?_
              repeat (first | exact Keeps.nil | refine Keeps.junk _ ?_ | refine Keeps.keep (by first | exact .plain _ rfl | exact (Tree.slV tree_encEv _).ren | exact .ptr _ _ _ (by simp) rfl) ?_)
        by_cases n250 : s.l[i].op = 250
        · have hop := n250
          as_aux_lemma =>
            have q84 : (((s.l[i].op.toNat : Nat) : Int) == 84) = false := by rw [hop]; rfl
            have q85 : (((s.l[i].op.toNat : Nat) : Int) == 85) = false := by rw [hop]; rfl
            have q49 : (((s.l[i].op.toNat : Nat) : Int) == 49) = false := by rw [hop]; rfl
            have q59 : (((s.l[i].op.toNat : Nat) : Int) == 59) = false := by rw [hop]; rfl
            have q60 : (((s.l[i].op.toNat : Nat) : Int) == 60) = false := by rw [hop]; rfl
            have q63 : (((s.l[i].op.toNat : Nat) : Int) == 63) = false := by rw [hop]; rfl
            have q71 : (((s.l[i].op.toNat : Nat) : Int) == 71) = false := by rw [hop]; rfl
            have q240 : (((s.l[i].op.toNat : Nat) : Int) == 240) = false := by rw [hop]; rfl
            have q245 : (((s.l[i].op.toNat : Nat) : Int) == 245) = false := by rw [hop]; rfl
            have q255 : (((s.l[i].op.toNat : Nat) : Int) == 255) = false := by rw [hop]; rfl
            have q241 : (((s.l[i].op.toNat : Nat) : Int) == 241) = false := by rw [hop]; rfl
            have q242 : (((s.l[i].op.toNat : Nat) : Int) == 242) = false := by rw [hop]; rfl
            have q244 : (((s.l[i].op.toNat : Nat) : Int) == 244) = false := by rw [hop]; rfl
            have q250 : (((s.l[i].op.toNat : Nat) : Int) == 250) = true := by rw [hop]; rfl
            have hR : evR s.l[i] = [otherOf s.l[i]] := by simp [evR, hf0, hop]
            simp (implicitDefEqProofs := false) (maxSteps := 2000000) only [go_sem, Nat.reduceAdd, Nat.reduceSub, Nat.reduceMul, Nat.reduceLT, Nat.reduceLeDiff, Nat.reduceEqDiff, Nat.reduceBEq, Nat.reduceBNe, Nat.reducePow, Int.reduceBEq, Int.reduceBNe, Int.reduceEq, Int.reduceLT, Int.reduceLE, Int.reduceNeg, Int.reduceToNat, Int.reduceMul, Int.reduceAdd, Int.reduceSub, Int.reducePow, Int.reduceFDiv, reduceCtorEq, reduceIte, q84, q85, q49, q59, q60, q63, q71, q240, q245, q255, q241, q242, q244, q250, size_zeros, size_blit, length_encWord]
            refine astep_call (rput_calls (Sl.app (rise (stR (s.l.take i)))) (otherOf s.l[i]) (by show (rise _).length ≤ 4000; omega) _) ?_
            by_cases hz : s.l[i].value = zeroW
            · have hW : evW s.l[i] = [] := by simp [evW, hf0, hop, hz]
              have eR := rR1 hlt hR
              have eW := rW0 hlt hW
              have hd : decide (s.l[i].value = zeroW) = true := decide_eq_true hz
              simp (implicitDefEqProofs := false) (maxSteps := 2000000) only [go_sem, Nat.reduceAdd, Nat.reduceSub, Nat.reduceMul, Nat.reduceLT, Nat.reduceLeDiff, Nat.reduceEqDiff, Nat.reduceBEq, Nat.reduceBNe, Nat.reducePow, Int.reduceBEq, Int.reduceBNe, Int.reduceEq, Int.reduceLT, Int.reduceLE, Int.reduceNeg, Int.reduceToNat, Int.reduceMul, Int.reduceAdd, Int.reduceSub, Int.reducePow, Int.reduceFDiv, reduceCtorEq, reduceIte, q84, q85, q49, q59, q60, q63, q71, q240, q245, q255, q241, q242, q244, q250, length_encWord, zeroW_enc, hd]
              refine ⟨i + 1, by omega, by omega, ?_⟩
              rw [eR, eW, wrap_i64_of _ (by omega) (by omega), ofNat_succ']
              refine Keeps.easeP (t := [.cells #[.slice none 0 0, .slice none 0 0] 0 true, .cells #[slV encPl (Sl.app _), slV encPl (Sl.app _)] 0 true]) (oren_rs _ _) ?_
              repeat (first | exact Keeps.nil | refine Keeps.junk _ ?_ | refine Keeps.keep (by first | exact .plain _ rfl | exact (Tree.slV tree_encEv _).ren | exact .ptr _ _ _ (by simp) rfl) ?_)
            · have hW : evW s.l[i] = [selfOf s.l[i], otherOf s.l[i]] := by simp [evW, hf0, hop, hz]
              have eR := rR1 hlt hR
              have eW := rW2 hlt hW
              have hd : decide (s.l[i].value = zeroW) = false := decide_eq_false hz
              simp (implicitDefEqProofs := false) (maxSteps := 2000000) only [go_sem, Nat.reduceAdd, Nat.reduceSub, Nat.reduceMul, Nat.reduceLT, Nat.reduceLeDiff, Nat.reduceEqDiff, Nat.reduceBEq, Nat.reduceBNe, Nat.reducePow, Int.reduceBEq, Int.reduceBNe, Int.reduceEq, Int.reduceLT, Int.reduceLE, Int.reduceNeg, Int.reduceToNat, Int.reduceMul, Int.reduceAdd, Int.reduceSub, Int.reducePow, Int.reduceFDiv, reduceCtorEq, reduceIte, q84, q85, q49, q59, q60, q63, q71, q240, q245, q255, q241, q242, q244, q250, length_encWord, zeroW_enc, hd]
              refine astep_call (rput_calls (Sl.app (rise (stW (s.l.take i)))) (otherOf s.l[i]) (by show (rise _).length ≤ 4000; omega) _) ?_
              simp (implicitDefEqProofs := false) (maxSteps := 2000000) only [go_sem, Nat.reduceAdd, Nat.reduceSub, Nat.reduceMul, Nat.reduceLT, Nat.reduceLeDiff, Nat.reduceEqDiff, Nat.reduceBEq, Nat.reduceBNe, Nat.reducePow, Int.reduceBEq, Int.reduceBNe, Int.reduceEq, Int.reduceLT, Int.reduceLE, Int.reduceNeg, Int.reduceToNat, Int.reduceMul, Int.reduceAdd, Int.reduceSub, Int.reducePow, Int.reduceFDiv, reduceCtorEq, reduceIte, q84, q85, q49, q59, q60, q63, q71, q240, q245, q255, q241, q242, q244, q250, length_encWord]
              refine astep_call (rput_calls (Sl.app (plIns (rise (stW (s.l.take i))) (otherOf s.l[i]))) (selfOf s.l[i]) (by exact bnd2) _) ?_
              simp (implicitDefEqProofs := false) (maxSteps := 2000000) only [go_sem, Nat.reduceAdd, Nat.reduceSub, Nat.reduceMul, Nat.reduceLT, Nat.reduceLeDiff, Nat.reduceEqDiff, Nat.reduceBEq, Nat.reduceBNe, Nat.reducePow, Int.reduceBEq, Int.reduceBNe, Int.reduceEq, Int.reduceLT, Int.reduceLE, Int.reduceNeg, Int.reduceToNat, Int.reduceMul, Int.reduceAdd, Int.reduceSub, Int.reducePow, Int.reduceFDiv, reduceCtorEq, reduceIte, q84, q85, q49, q59, q60, q63, q71, q240, q245, q255, q241, q242, q244, q250, length_encWord]
              refine ⟨i + 1, by omega, by omega, ?_⟩
              rw [eR, eW, wrap_i64_of _ (by omega) (by omega), ofNat_succ']
              refine Keeps.easeP (t := [.cells #[.slice none 0 0, .slice none 0 0] 0 true, .cells #[slV encPl (Sl.app _), slV encPl (Sl.app _)] 0 true]) (oren_rs _ _) ?_
              repeat (first | exact Keeps.nil | refine Keeps.junk _ ?_ | refine Keeps.keep (by first | exact .plain _ rfl | exact (Tree.slV tree_encEv _).ren | exact .ptr _ _ _ (by simp) rfl) ?_)
        as_aux_lemma =>
          have q84 : (((s.l[i].op.toNat : Nat) : Int) == 84) = false := op_ne (k := 84) (by decide) n84
          have q85 : (((s.l[i].op.toNat : Nat) : Int) == 85) = false := op_ne (k := 85) (by decide) n85
          have q49 : (((s.l[i].op.toNat : Nat) : Int) == 49) = false := op_ne (k := 49) (by decide) n49
          have q59 : (((s.l[i].op.toNat : Nat) : Int) == 59) = false := op_ne (k := 59) (by decide) n59
          have q60 : (((s.l[i].op.toNat : Nat) : Int) == 60) = false := op_ne (k := 60) (by decide) n60
          have q63 : (((s.l[i].op.toNat : Nat) : Int) == 63) = false := op_ne (k := 63) (by decide) n63
          have q71 : (((s.l[i].op.toNat : Nat) : Int) == 71) = false := op_ne (k := 71) (by decide) n71
          have q240 : (((s.l[i].op.toNat : Nat) : Int) == 240) = false := op_ne (k := 240) (by decide) n240
          have q245 : (((s.l[i].op.toNat : Nat) : Int) == 245) = false := op_ne (k := 245) (by decide) n245
          have q255 : (((s.l[i].op.toNat : Nat) : Int) == 255) = false := op_ne (k := 255) (by decide) n255
          have q241 : (((s.l[i].op.toNat : Nat) : Int) == 241) = false := op_ne (k := 241) (by decide) n241
          have q242 : (((s.l[i].op.toNat : Nat) : Int) == 242) = false := op_ne (k := 242) (by decide) n242
          have q244 : (((s.l[i].op.toNat : Nat) : Int) == 244) = false := op_ne (k := 244) (by decide) n244
          have q250 : (((s.l[i].op.toNat : Nat) : Int) == 250) = false := op_ne (k := 250) (by decide) n250
          have hR : evR s.l[i] = [] := by simp [evR, hf0, n84, n85, n49, n59, n60, n63, n71, n240, n245, n255, n241, n242, n244, n250]
          have hW : evW s.l[i] = [] := by simp [evW, hf0, n84, n85, n49, n59, n60, n63, n71, n240, n245, n255, n241, n242, n244, n250]
          have eR := rR0 hlt hR
          have eW := rW0 hlt hW
          simp (implicitDefEqProofs := false) (maxSteps := 2000000) only [go_sem, Nat.reduceAdd, Nat.reduceSub, Nat.reduceMul, Nat.reduceLT, Nat.reduceLeDiff, Nat.reduceEqDiff, Nat.reduceBEq, Nat.reduceBNe, Nat.reducePow, Int.reduceBEq, Int.reduceBNe, Int.reduceEq, Int.reduceLT, Int.reduceLE, Int.reduceNeg, Int.reduceToNat, Int.reduceMul, Int.reduceAdd, Int.reduceSub, Int.reducePow, Int.reduceFDiv, reduceCtorEq, reduceIte, q84, q85, q49, q59, q60, q63, q71, q240, q245, q255, q241, q242, q244, q250, size_zeros, size_blit, length_encWord]
          refine ⟨i + 1, by omega, by omega, ?_⟩
          rw [eR, eW, wrap_i64_of _ (by omega) (by omega), ofNat_succ']
          refine Keeps.easeP (t := [.cells #[.slice none 0 0, .slice none 0 0] 0 true, .cells #[slV encPl (Sl.app _), slV encPl (Sl.app _)] 0 true]) (oren_rs _ _) ?_
          repeat (first | exact Keeps.nil | refine Keeps.junk _ ?_ | refine Keeps.keep (by first | exact .plain _ rfl | exact (Tree.slV tree_encEv _).ren | exact .ptr _ _ _ (by simp) rfl) ?_)
    · have hie : i = s.l.length := by omega
      subst hie
      rw [List.take_length]
      simp (implicitDefEqProofs := false) (maxSteps := 2000000) only [go_sem, Nat.reduceAdd, Nat.reduceSub, Nat.reduceMul, Nat.reduceLT, Nat.reduceLeDiff, Nat.reduceEqDiff, Nat.reduceBEq, Nat.reduceBNe, Nat.reducePow, Int.reduceBEq, Int.reduceBNe, Int.reduceEq, Int.reduceLT, Int.reduceLE, Int.reduceNeg, Int.reduceToNat, Int.reduceMul, Int.reduceAdd, Int.reduceSub, Int.reducePow, Int.reduceFDiv, reduceCtorEq, reduceIte, hlt]
      refine apost_tree (v := .agg #[slV encPl (Sl.app (rise (stR s.l))), slV encPl (Sl.app (rise (stW s.l)))]) (by rw [aresults_cell rfl, getD_lit]; simp (implicitDefEqProofs := false) (maxSteps := 2000000) only [go_sem, Nat.reduceAdd, Nat.reduceSub, Nat.reduceMul, Nat.reduceLT, Nat.reduceLeDiff, Nat.reduceEqDiff, Nat.reduceBEq, Nat.reduceBNe, Nat.reducePow, Int.reduceBEq, Int.reduceBNe, Int.reduceEq, Int.reduceLT, Int.reduceLE, Int.reduceNeg, Int.reduceToNat, Int.reduceMul, Int.reduceAdd, Int.reduceSub, Int.reducePow, Int.reduceFDiv, reduceCtorEq, reduceIte]) (keeps_append _ _) (.same _) (Tree.aggL (l := [_, _]) fun v hv => ?_) ⟨rfl, rfl⟩
      simp only [List.mem_cons, List.not_mem_nil, or_false] at hv
      rcases hv with rfl | rfl <;> exact .slV tree_encPl _
end Go.Proofs
