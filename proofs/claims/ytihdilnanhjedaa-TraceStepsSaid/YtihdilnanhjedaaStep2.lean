import Derived.Test.YtihdilnanhjedaaStep1
import Derived.Test.YtihdilnanhjedaaAddr
set_option linter.unusedSimpArgs false
set_option linter.unusedVariables false
set_option maxRecDepth 100000
/- what events have read and written -/
namespace Go.Proofs
open Go Go.Am

def slotOf (e : Ev) : Pl := ⟨e.self, false, e.arg⟩
def selfOf (e : Ev) : Pl := ⟨e.self, true, zeroW⟩
def otherOf (e : Ev) : Pl := ⟨addrW e.arg, true, zeroW⟩
/-- what an event has read -/
def evR (e : Ev) : List Pl :=
  if e.fault ≠ 0 then [] else if e.op = 84 then [slotOf e] else if e.op = 49 ∨ e.op = 59 ∨ e.op = 60 ∨ e.op = 63 then [otherOf e] else if e.op = 71 then [selfOf e]
  else if e.op = 241 ∨ e.op = 242 ∨ e.op = 244 ∨ e.op = 250 then [otherOf e] else []
/-- what it has written -/
def evW (e : Ev) : List Pl :=
  if e.fault ≠ 0 then [] else if e.op = 85 then [slotOf e] else if e.op = 240 ∨ e.op = 245 ∨ e.op = 255 then [selfOf e, otherOf e]
  else if e.op = 241 ∨ e.op = 242 ∨ e.op = 244 ∨ e.op = 250 then (if e.value ≠ zeroW then [selfOf e, otherOf e] else []) else []
def stR (l : List Ev) : List Pl := l.flatMap evR
def stW (l : List Ev) : List Pl := l.flatMap evW
theorem stR_take {l : List Ev} {i : Nat} (hi : i < l.length) : stR (l.take (i + 1)) = stR (l.take i) ++ evR l[i] := by
  rw [stR, List.take_add_one, List.getElem?_eq_getElem hi, List.flatMap_append]; simp [stR]
theorem stW_take {l : List Ev} {i : Nat} (hi : i < l.length) : stW (l.take (i + 1)) = stW (l.take i) ++ evW l[i] := by
  rw [stW, List.take_add_one, List.getElem?_eq_getElem hi, List.flatMap_append]; simp [stW]
abbrev StSt := Nat × (Array MapEntry × Nat) × (Array MapEntry × Nat)

theorem op_ne {x : UInt8} {k : Nat} (hk : k < 256) (h : x ≠ UInt8.ofNat k) : (((x.toNat : Nat) : Int) == (k : Int)) = false := by
  rw [beq_eq_false_iff_ne]
  intro e
  exact h (UInt8.toNat_inj.1 (by rw [UInt8.toNat_ofNat']; omega))
theorem zeros_two {z : Array Value} {p q : Pl} : blit (blit (zeros z 50) 0 (encPl p)) 25 (encPl q) = (encPl p).toArray ++ (encPl q).toArray := by
  obtain ⟨l, hl⟩ : ∃ l, zeros z 50 = ⟨l⟩ := ⟨_, rfl⟩
  have hlen : l.length = 50 := by have := size_zeros z 50; rw [hl] at this; exact this
  rw [hl]
  have e1 := blit_mid (encPl p) [] (l.take 25) (l.drop 25) (by simp [length_encPl, hlen])
  simp only [List.nil_append, List.take_append_drop, List.length_nil] at e1
  have e2 := blit_mid (encPl q) (encPl p) (l.drop 25) [] (by simp [length_encPl, hlen])
  simp only [List.append_nil, length_encPl] at e2
  show blit (blit l.toArray 0 (encPl p)) 25 (encPl q) = _
  rw [e1, e2]
  simp
theorem oren_st {es1 es2 : Array MapEntry} {clk1 clk2 L : Nat} {A B : List Pl} (h1 : TMap es1 clk1 A) (h2 : TMap es2 clk2 B) : ∀ o ∈ [AObj.cells #[.slice none 0 0, .slice none 0 0] 0 true, .map 54 es1 clk1, .map 54 es2 clk2], ORen id L o o := by
  intro o ho
  simp only [List.mem_cons, List.not_mem_nil, or_false] at ho
  rcases ho with rfl | rfl | rfl
  · exact ORen.plainCells (l := [.slice none 0 0, .slice none 0 0]) (fun v hv => by simp only [List.mem_cons, List.not_mem_nil, or_false] at hv; rcases hv with rfl | rfl <;> exact .plain _ rfl)
  · exact h1.ren
  · exact h2.ren

theorem laidP : laidOutB Try.prog = true := by kernel_rfl
theorem len_evR (e : Ev) : (evR e).length ≤ 1 := by unfold evR; (repeat' split) <;> simp
theorem len_evW (e : Ev) : (evW e).length ≤ 2 := by unfold evW; (repeat' split) <;> simp
theorem len_stR (l : List Ev) : (stR l).length ≤ l.length := by
  induction l with
  | nil => simp [stR]
  | cons e l ih => have := len_evR e; unfold stR at *; simp only [List.flatMap_cons, List.length_append, List.length_cons]; omega
theorem len_stW (l : List Ev) : (stW l).length ≤ 2 * l.length := by
  induction l with
  | nil => simp [stW]
  | cons e l ih => have := len_evW e; unfold stW at *; simp only [List.flatMap_cons, List.length_append, List.length_cons]; omega

/-- the round of an event -/
abbrev StepFr (s : Sl Ev) (h : AH) (p : StSt) : List Value := [junk, junk, .pointer (some ⟨h.length, 0, none⟩), .map (some (h.length + 1)), .map (some (h.length + 2)), junk, junk, junk, junk, junk, junk, junk, slV encEv s, .int .i64 (s.l.length : Nat), .int .i64 (p.1 : Nat), junk, junk, junk, junk, junk, junk, junk, junk, junk, junk, junk, junk, junk, junk, junk, junk, junk, junk, junk, junk, junk, junk, junk, junk, junk, junk, junk, junk, junk, junk, junk, junk, junk, junk, junk, junk, junk, junk, junk, junk, junk, junk, junk, junk, junk, junk, junk, junk, junk, junk, junk, junk, junk, junk, junk, junk, junk, junk, junk, junk, junk, junk, junk, junk, junk, junk, junk, junk, junk, junk, junk, junk, junk, junk, junk, junk, junk, junk, junk, junk, junk, junk]
abbrev StepHp (h : AH) (p : StSt) : AH := h ++ [.cells #[.slice none 0 0, .slice none 0 0] 0 true, .map 54 p.2.1.1 p.2.1.2, .map 54 p.2.2.1 p.2.2.2]

set_option maxHeartbeats 16000000 in
theorem steps_calls (s : Sl Ev) (hs : s.l.length ≤ 2000) (h : AH) :
    ACalls Try.prog 10 #[slV encEv s] h (fun v h' => v = .agg #[slV encPl (Sl.app (rise (stR s.l))), slV encPl (Sl.app (rise (stW s.l)))] ∧ h' = h) := by
  refine ACalls.of_ay Try.func10 rfl Try.ntmps10 ⟨_, _, rfl, rfl⟩ ?_; simp only [List.length_cons, List.length_nil, Nat.reduceAdd, Nat.reduceSub, List.replicate_succ, List.replicate_zero, List.cons_append, List.nil_append]
  simp (implicitDefEqProofs := false) (maxSteps := 2000000) only [go_sem, Nat.reduceAdd, Nat.reduceSub, Nat.reduceMul, Nat.reduceLT, Nat.reduceLeDiff, Nat.reduceEqDiff, Nat.reduceBEq, Nat.reduceBNe, Nat.reducePow, Int.reduceBEq, Int.reduceBNe, Int.reduceEq, Int.reduceLT, Int.reduceLE, Int.reduceNeg, Int.reduceToNat, Int.reduceMul, Int.reduceAdd, Int.reduceSub, Int.reducePow, Int.reduceFDiv, reduceCtorEq, reduceIte]
  refine AWP.loopI (fun p : StSt => s.l.length - p.1) (fun p => [junk, junk, .pointer (some ⟨h.length, 0, none⟩), .map (some (h.length + 1)), .map (some (h.length + 2)), junk, junk, junk, junk, junk, junk, junk, slV encEv s, .int .i64 (s.l.length : Nat), .int .i64 (p.1 : Nat), junk, junk, junk, junk, junk, junk, junk, junk, junk, junk, junk, junk, junk, junk, junk, junk, junk, junk, junk, junk, junk, junk, junk, junk, junk, junk, junk, junk, junk, junk, junk, junk, junk, junk, junk, junk, junk, junk, junk, junk, junk, junk, junk, junk, junk, junk, junk, junk, junk, junk, junk, junk, junk, junk, junk, junk, junk, junk, junk, junk, junk, junk, junk, junk, junk, junk, junk, junk, junk, junk, junk, junk, junk, junk, junk, junk, junk, junk, junk, junk, junk, junk])
    (fun p => h ++ [.cells #[.slice none 0 0, .slice none 0 0] 0 true, .map 54 p.2.1.1 p.2.1.2, .map 54 p.2.2.1 p.2.2.2]) (fun p => p.1 ≤ s.l.length ∧ TMap p.2.1.1 p.2.1.2 (stR (s.l.take p.1)) ∧ TMap p.2.2.1 p.2.2.2 (stW (s.l.take p.1))) (0, (#[], 0), (#[], 0)) ⟨Nat.zero_le _, TMap.empty, TMap.empty⟩ ?_ ?_
  · refine Keeps.easeL (oren_st TMap.empty TMap.empty) ?_
    repeat (first | exact Keeps.nil | refine Keeps.junk _ ?_ | refine Keeps.keep (by first | exact .plain _ rfl | exact (Tree.slV tree_encEv _).ren | exact .ptr _ _ _ (by simp) rfl | exact .map _ _ (by simp <;> omega) rfl) ?_)
  · rintro ⟨i, ⟨es1, clk1⟩, ⟨es2, clk2⟩⟩ ⟨hi, hm1, hm2⟩
    simp only at hi hm1 hm2
    by_cases hlt : i < s.l.length
    · cases hf : (s.l[i].fault != 0) with
      | true =>
        have hf0 : s.l[i].fault ≠ 0 := by simpa using hf
        have hR : evR s.l[i] = [] := by simp [evR, hf0]
        have hW : evW s.l[i] = [] := by simp [evW, hf0]
        simp (implicitDefEqProofs := false) (maxSteps := 2000000) only [go_sem, Nat.reduceAdd, Nat.reduceSub, Nat.reduceMul, Nat.reduceLT, Nat.reduceLeDiff, Nat.reduceEqDiff, Nat.reduceBEq, Nat.reduceBNe, Nat.reducePow, Int.reduceBEq, Int.reduceBNe, Int.reduceEq, Int.reduceLT, Int.reduceLE, Int.reduceNeg, Int.reduceToNat, Int.reduceMul, Int.reduceAdd, Int.reduceSub, Int.reducePow, Int.reduceFDiv, reduceCtorEq, reduceIte, hlt, hf]
        refine ⟨(i + 1, (es1, clk1), (es2, clk2)), by show s.l.length - (i + 1) < s.l.length - i; omega, ⟨by show i + 1 ≤ _; omega, by show TMap es1 clk1 (stR (s.l.take (i + 1))); rw [stR_take hlt, hR]; simpa using hm1, by show TMap es2 clk2 (stW (s.l.take (i + 1))); rw [stW_take hlt, hW]; simpa using hm2⟩, ?_⟩
        rw [wrap_i64_of _ (by omega) (by omega), ofNat_succ']
        refine Keeps.easeP (t := [.cells #[.slice none 0 0, .slice none 0 0] 0 true, .map 54 es1 clk1, .map 54 es2 clk2]) (oren_st hm1 hm2) ?_
        repeat (first | exact Keeps.nil | refine Keeps.junk _ ?_ | refine Keeps.keep (by first | exact .plain _ rfl | exact (Tree.slV tree_encEv _).ren | exact .ptr _ _ _ (by simp) rfl | exact .map _ _ (by simp <;> omega) rfl) ?_)
      | false =>
        have hf0 : s.l[i].fault = 0 := by simpa using hf
        simp (implicitDefEqProofs := false) (maxSteps := 2000000) only [go_sem, Nat.reduceAdd, Nat.reduceSub, Nat.reduceMul, Nat.reduceLT, Nat.reduceLeDiff, Nat.reduceEqDiff, Nat.reduceBEq, Nat.reduceBNe, Nat.reducePow, Int.reduceBEq, Int.reduceBNe, Int.reduceEq, Int.reduceLT, Int.reduceLE, Int.reduceNeg, Int.reduceToNat, Int.reduceMul, Int.reduceAdd, Int.reduceSub, Int.reducePow, Int.reduceFDiv, reduceCtorEq, reduceIte, hlt, hf]
        refine astep_call (waddr_calls _ _) ?_
        by_cases n84 : s.l[i].op = 84
        · have hop := n84
          as_aux_lemma =>
            have q84 : (((s.l[i].op.toNat : Nat) : Int) == 84) = true := by rw [hop]; rfl
            have q85 : (((s.l[i].op.toNat : Nat) : Int) == 85) = false := by rw [hop]; rfl
            have q49 : (((s.l[i].op.toNat : Nat) : Int) == 49) = false := by rw [hop]; rfl
            have q59 : (((s.l[i].op.toNat : Nat) : Int) == 59) = false := by rw [hop]; rfl
            have q60 : (((s.l[i].op.toNat : Nat) : Int) == 60) = false := by rw [hop]; rfl
            have q63 : (((s.l[i].op.toNat : Nat) : Int) == 63) = false := by rw [hop]; rfl
            have q71 : (((s.l[i].op.toNat : Nat) : Int) == 71) = false := by rw [hop]; rfl
            have q240 : (((s.l[i].op.toNat : Nat) : Int) == 240) = false := by rw [hop]; rfl
            have q245 : (((s.l[i].op.toNat : Nat) : Int) == 245) = false := by rw [hop]; rfl
            have q255 : (((s.l[i].op.toNat : Nat) : Int) == 255) = false := by rw [hop]; rfl
            have q241 : (((s.l[i].op.toNat : Nat) : Int) == 241) = false := by rw [hop]; rfl
            have q242 : (((s.l[i].op.toNat : Nat) : Int) == 242) = false := by rw [hop]; rfl
            have q244 : (((s.l[i].op.toNat : Nat) : Int) == 244) = false := by rw [hop]; rfl
            have q250 : (((s.l[i].op.toNat : Nat) : Int) == 250) = false := by rw [hop]; rfl
            have hR : evR s.l[i] = [slotOf s.l[i]] := by simp [evR, hf0, hop]
            have hW : evW s.l[i] = [] := by simp [evW, hf0, hop]
            simp (implicitDefEqProofs := false) (maxSteps := 2000000) only [go_sem, Nat.reduceAdd, Nat.reduceSub, Nat.reduceMul, Nat.reduceLT, Nat.reduceLeDiff, Nat.reduceEqDiff, Nat.reduceBEq, Nat.reduceBNe, Nat.reducePow, Int.reduceBEq, Int.reduceBNe, Int.reduceEq, Int.reduceLT, Int.reduceLE, Int.reduceNeg, Int.reduceToNat, Int.reduceMul, Int.reduceAdd, Int.reduceSub, Int.reducePow, Int.reduceFDiv, reduceCtorEq, reduceIte, q84, q85, q49, q59, q60, q63, q71, q240, q245, q255, q241, q242, q244, q250, size_zeros, size_blit, length_encWord, zeros_two]
            refine astep_calls (put1_calls (slotOf s.l[i]) hm1 (m := h.length + 1) (b := h.length + 7) ?_ ?_) ?_
            · exact at_new _ _ 1
            · exact at_new _ _ 7
            rintro v3 H3 ⟨es3, clk3, hm3, hv3, hH3⟩
            subst hH3
            simp (implicitDefEqProofs := false) (maxSteps := 2000000) only [go_sem, Nat.reduceAdd, Nat.reduceSub, Nat.reduceMul, Nat.reduceLT, Nat.reduceLeDiff, Nat.reduceEqDiff, Nat.reduceBEq, Nat.reduceBNe, Nat.reducePow, Int.reduceBEq, Int.reduceBNe, Int.reduceEq, Int.reduceLT, Int.reduceLE, Int.reduceNeg, Int.reduceToNat, Int.reduceMul, Int.reduceAdd, Int.reduceSub, Int.reducePow, Int.reduceFDiv, reduceCtorEq, reduceIte, hv3, q84, q85, q49, q59, q60, q63, q71, q240, q245, q255, q241, q242, q244, q250]
            refine ⟨(i + 1, (es3, clk3), (es2, clk2)), by show s.l.length - (i + 1) < s.l.length - i; omega, ⟨by show i + 1 ≤ _; omega, by show TMap es3 clk3 (stR (s.l.take (i + 1))); rw [stR_take hlt, hR]; simpa using hm3, by show TMap es2 clk2 (stW (s.l.take (i + 1))); rw [stW_take hlt, hW]; simpa using hm2⟩, ?_⟩
            rw [wrap_i64_of _ (by omega) (by omega), ofNat_succ']
            refine Keeps.easeP (t := [.cells #[.slice none 0 0, .slice none 0 0] 0 true, .map 54 es3 clk3, .map 54 es2 clk2]) (oren_st hm3 hm2) ?_
            repeat (first | exact Keeps.nil | refine Keeps.junk _ ?_ | refine Keeps.keep (by first | exact .plain _ rfl | exact (Tree.slV tree_encEv _).ren | exact .ptr _ _ _ (by simp) rfl | exact .map _ _ (by simp <;> omega) rfl) ?_)
        by_cases n85 : s.l[i].op = 85
        · have hop := n85
          as_aux_lemma =>
            have q84 : (((s.l[i].op.toNat : Nat) : Int) == 84) = false := by rw [hop]; rfl
            have q85 : (((s.l[i].op.toNat : Nat) : Int) == 85) = true := by rw [hop]; rfl
            have q49 : (((s.l[i].op.toNat : Nat) : Int) == 49) = false := by rw [hop]; rfl
            have q59 : (((s.l[i].op.toNat : Nat) : Int) == 59) = false := by rw [hop]; rfl
            have q60 : (((s.l[i].op.toNat : Nat) : Int) == 60) = false := by rw [hop]; rfl
            have q63 : (((s.l[i].op.toNat : Nat) : Int) == 63) = false := by rw [hop]; rfl
            have q71 : (((s.l[i].op.toNat : Nat) : Int) == 71) = false := by rw [hop]; rfl
            have q240 : (((s.l[i].op.toNat : Nat) : Int) == 240) = false := by rw [hop]; rfl
            have q245 : (((s.l[i].op.toNat : Nat) : Int) == 245) = false := by rw [hop]; rfl
            have q255 : (((s.l[i].op.toNat : Nat) : Int) == 255) = false := by rw [hop]; rfl
            have q241 : (((s.l[i].op.toNat : Nat) : Int) == 241) = false := by rw [hop]; rfl
            have q242 : (((s.l[i].op.toNat : Nat) : Int) == 242) = false := by rw [hop]; rfl
            have q244 : (((s.l[i].op.toNat : Nat) : Int) == 244) = false := by rw [hop]; rfl
            have q250 : (((s.l[i].op.toNat : Nat) : Int) == 250) = false := by rw [hop]; rfl
            have hR : evR s.l[i] = [] := by simp [evR, hf0, hop]
            have hW : evW s.l[i] = [slotOf s.l[i]] := by simp [evW, hf0, hop]
            simp (implicitDefEqProofs := false) (maxSteps := 2000000) only [go_sem, Nat.reduceAdd, Nat.reduceSub, Nat.reduceMul, Nat.reduceLT, Nat.reduceLeDiff, Nat.reduceEqDiff, Nat.reduceBEq, Nat.reduceBNe, Nat.reducePow, Int.reduceBEq, Int.reduceBNe, Int.reduceEq, Int.reduceLT, Int.reduceLE, Int.reduceNeg, Int.reduceToNat, Int.reduceMul, Int.reduceAdd, Int.reduceSub, Int.reducePow, Int.reduceFDiv, reduceCtorEq, reduceIte, q84, q85, q49, q59, q60, q63, q71, q240, q245, q255, q241, q242, q244, q250, size_zeros, size_blit, length_encWord, zeros_two]
            refine astep_calls (put1_calls (slotOf s.l[i]) hm2 (m := h.length + 2) (b := h.length + 7) ?_ ?_) ?_
            · exact at_new _ _ 2
            · exact at_new _ _ 7
            rintro v3 H3 ⟨es3, clk3, hm3, hv3, hH3⟩
            subst hH3
            simp (implicitDefEqProofs := false) (maxSteps := 2000000) only [go_sem, Nat.reduceAdd, Nat.reduceSub, Nat.reduceMul, Nat.reduceLT, Nat.reduceLeDiff, Nat.reduceEqDiff, Nat.reduceBEq, Nat.reduceBNe, Nat.reducePow, Int.reduceBEq, Int.reduceBNe, Int.reduceEq, Int.reduceLT, Int.reduceLE, Int.reduceNeg, Int.reduceToNat, Int.reduceMul, Int.reduceAdd, Int.reduceSub, Int.reducePow, Int.reduceFDiv, reduceCtorEq, reduceIte, hv3, q84, q85, q49, q59, q60, q63, q71, q240, q245, q255, q241, q242, q244, q250]
            refine ⟨(i + 1, (es1, clk1), (es3, clk3)), by show s.l.length - (i + 1) < s.l.length - i; omega, ⟨by show i + 1 ≤ _; omega, by show TMap es1 clk1 (stR (s.l.take (i + 1))); rw [stR_take hlt, hR]; simpa using hm1, by show TMap es3 clk3 (stW (s.l.take (i + 1))); rw [stW_take hlt, hW]; simpa using hm3⟩, ?_⟩
            rw [wrap_i64_of _ (by omega) (by omega), ofNat_succ']
            refine Keeps.easeP (t := [.cells #[.slice none 0 0, .slice none 0 0] 0 true, .map 54 es1 clk1, .map 54 es3 clk3]) (oren_st hm1 hm3) ?_
            repeat (first | exact Keeps.nil | refine Keeps.junk _ ?_ | refine Keeps.keep (by first | exact .plain _ rfl | exact (Tree.slV tree_encEv _).ren | exact .ptr _ _ _ (by simp) rfl | exact .map _ _ (by simp <;> omega) rfl) ?_)
        by_cases n49 : s.l[i].op = 49
        · have hop := n49
          as_aux_lemma =>
            have q84 : (((s.l[i].op.toNat : Nat) : Int) == 84) = false := by rw [hop]; rfl
            have q85 : (((s.l[i].op.toNat : Nat) : Int) == 85) = false := by rw [hop]; rfl
            have q49 : (((s.l[i].op.toNat : Nat) : Int) == 49) = true := by rw [hop]; rfl
            have q59 : (((s.l[i].op.toNat : Nat) : Int) == 59) = false := by rw [hop]; rfl
            have q60 : (((s.l[i].op.toNat : Nat) : Int) == 60) = false := by rw [hop]; rfl
            have q63 : (((s.l[i].op.toNat : Nat) : Int) == 63) = false := by rw [hop]; rfl
            have q71 : (((s.l[i].op.toNat : Nat) : Int) == 71) = false := by rw [hop]; rfl
            have q240 : (((s.l[i].op.toNat : Nat) : Int) == 240) = false := by rw [hop]; rfl
            have q245 : (((s.l[i].op.toNat : Nat) : Int) == 245) = false := by rw [hop]; rfl
            have q255 : (((s.l[i].op.toNat : Nat) : Int) == 255) = false := by rw [hop]; rfl
            have q241 : (((s.l[i].op.toNat : Nat) : Int) == 241) = false := by rw [hop]; rfl
            have q242 : (((s.l[i].op.toNat : Nat) : Int) == 242) = false := by rw [hop]; rfl
            have q244 : (((s.l[i].op.toNat : Nat) : Int) == 244) = false := by rw [hop]; rfl
            have q250 : (((s.l[i].op.toNat : Nat) : Int) == 250) = false := by rw [hop]; rfl
            have hR : evR s.l[i] = [otherOf s.l[i]] := by simp [evR, hf0, hop]
            have hW : evW s.l[i] = [] := by simp [evW, hf0, hop]
            simp (implicitDefEqProofs := false) (maxSteps := 2000000) only [go_sem, Nat.reduceAdd, Nat.reduceSub, Nat.reduceMul, Nat.reduceLT, Nat.reduceLeDiff, Nat.reduceEqDiff, Nat.reduceBEq, Nat.reduceBNe, Nat.reducePow, Int.reduceBEq, Int.reduceBNe, Int.reduceEq, Int.reduceLT, Int.reduceLE, Int.reduceNeg, Int.reduceToNat, Int.reduceMul, Int.reduceAdd, Int.reduceSub, Int.reducePow, Int.reduceFDiv, reduceCtorEq, reduceIte, q84, q85, q49, q59, q60, q63, q71, q240, q245, q255, q241, q242, q244, q250, size_zeros, size_blit, length_encWord, zeros_two]
            refine astep_calls (put1_calls (otherOf s.l[i]) hm1 (m := h.length + 1) (b := h.length + 7) ?_ ?_) ?_
            · exact at_new _ _ 1
            · exact at_new _ _ 7
            rintro v3 H3 ⟨es3, clk3, hm3, hv3, hH3⟩
            subst hH3
            simp (implicitDefEqProofs := false) (maxSteps := 2000000) only [go_sem, Nat.reduceAdd, Nat.reduceSub, Nat.reduceMul, Nat.reduceLT, Nat.reduceLeDiff, Nat.reduceEqDiff, Nat.reduceBEq, Nat.reduceBNe, Nat.reducePow, Int.reduceBEq, Int.reduceBNe, Int.reduceEq, Int.reduceLT, Int.reduceLE, Int.reduceNeg, Int.reduceToNat, Int.reduceMul, Int.reduceAdd, Int.reduceSub, Int.reducePow, Int.reduceFDiv, reduceCtorEq, reduceIte, hv3, q84, q85, q49, q59, q60, q63, q71, q240, q245, q255, q241, q242, q244, q250]
            refine ⟨(i + 1, (es3, clk3), (es2, clk2)), by show s.l.length - (i + 1) < s.l.length - i; omega, ⟨by show i + 1 ≤ _; omega, by show TMap es3 clk3 (stR (s.l.take (i + 1))); rw [stR_take hlt, hR]; simpa using hm3, by show TMap es2 clk2 (stW (s.l.take (i + 1))); rw [stW_take hlt, hW]; simpa using hm2⟩, ?_⟩
            rw [wrap_i64_of _ (by omega) (by omega), ofNat_succ']
            refine Keeps.easeP (t := [.cells #[.slice none 0 0, .slice none 0 0] 0 true, .map 54 es3 clk3, .map 54 es2 clk2]) (oren_st hm3 hm2) ?_
            repeat (first | exact Keeps.nil | refine Keeps.junk _ ?_ | refine Keeps.keep (by first | exact .plain _ rfl | exact (Tree.slV tree_encEv _).ren | exact .ptr _ _ _ (by simp) rfl | exact .map _ _ (by simp <;> omega) rfl) ?_)
        by_cases n59 : s.l[i].op = 59
        · have hop := n59
          as_aux_lemma =>
            have q84 : (((s.l[i].op.toNat : Nat) : Int) == 84) = false := by rw [hop]; rfl
            have q85 : (((s.l[i].op.toNat : Nat) : Int) == 85) = false := by rw [hop]; rfl
            have q49 : (((s.l[i].op.toNat : Nat) : Int) == 49) = false := by rw [hop]; rfl
            have q59 : (((s.l[i].op.toNat : Nat) : Int) == 59) = true := by rw [hop]; rfl
            have q60 : (((s.l[i].op.toNat : Nat) : Int) == 60) = false := by rw [hop]; rfl
            have q63 : (((s.l[i].op.toNat : Nat) : Int) == 63) = false := by rw [hop]; rfl
            have q71 : (((s.l[i].op.toNat : Nat) : Int) == 71) = false := by rw [hop]; rfl
            have q240 : (((s.l[i].op.toNat : Nat) : Int) == 240) = false := by rw [hop]; rfl
            have q245 : (((s.l[i].op.toNat : Nat) : Int) == 245) = false := by rw [hop]; rfl
            have q255 : (((s.l[i].op.toNat : Nat) : Int) == 255) = false := by rw [hop]; rfl
            have q241 : (((s.l[i].op.toNat : Nat) : Int) == 241) = false := by rw [hop]; rfl
            have q242 : (((s.l[i].op.toNat : Nat) : Int) == 242) = false := by rw [hop]; rfl
            have q244 : (((s.l[i].op.toNat : Nat) : Int) == 244) = false := by rw [hop]; rfl
            have q250 : (((s.l[i].op.toNat : Nat) : Int) == 250) = false := by rw [hop]; rfl
            have hR : evR s.l[i] = [otherOf s.l[i]] := by simp [evR, hf0, hop]
            have hW : evW s.l[i] = [] := by simp [evW, hf0, hop]
            simp (implicitDefEqProofs := false) (maxSteps := 2000000) only [go_sem, Nat.reduceAdd, Nat.reduceSub, Nat.reduceMul, Nat.reduceLT, Nat.reduceLeDiff, Nat.reduceEqDiff, Nat.reduceBEq, Nat.reduceBNe, Nat.reducePow, Int.reduceBEq, Int.reduceBNe, Int.reduceEq, Int.reduceLT, Int.reduceLE, Int.reduceNeg, Int.reduceToNat, Int.reduceMul, Int.reduceAdd, Int.reduceSub, Int.reducePow, Int.reduceFDiv, reduceCtorEq, reduceIte, q84, q85, q49, q59, q60, q63, q71, q240, q245, q255, q241, q242, q244, q250, size_zeros, size_blit, length_encWord, zeros_two]
            refine astep_calls (put1_calls (otherOf s.l[i]) hm1 (m := h.length + 1) (b := h.length + 7) ?_ ?_) ?_
            · exact at_new _ _ 1
            · exact at_new _ _ 7
            rintro v3 H3 ⟨es3, clk3, hm3, hv3, hH3⟩
            subst hH3
            simp (implicitDefEqProofs := false) (maxSteps := 2000000) only [go_sem, Nat.reduceAdd, Nat.reduceSub, Nat.reduceMul, Nat.reduceLT, Nat.reduceLeDiff, Nat.reduceEqDiff, Nat.reduceBEq, Nat.reduceBNe, Nat.reducePow, Int.reduceBEq, Int.reduceBNe, Int.reduceEq, Int.reduceLT, Int.reduceLE, Int.reduceNeg, Int.reduceToNat, Int.reduceMul, Int.reduceAdd, Int.reduceSub, Int.reducePow, Int.reduceFDiv, reduceCtorEq, reduceIte, hv3, q84, q85, q49, q59, q60, q63, q71, q240, q245, q255, q241, q242, q244, q250]
            refine ⟨(i + 1, (es3, clk3), (es2, clk2)), by show s.l.length - (i + 1) < s.l.length - i; omega, ⟨by show i + 1 ≤ _; omega, by show TMap es3 clk3 (stR (s.l.take (i + 1))); rw [stR_take hlt, hR]; simpa using hm3, by show TMap es2 clk2 (stW (s.l.take (i + 1))); rw [stW_take hlt, hW]; simpa using hm2⟩, ?_⟩
            rw [wrap_i64_of _ (by omega) (by omega), ofNat_succ']
            refine Keeps.easeP (t := [.cells #[.slice none 0 0, .slice none 0 0] 0 true, .map 54 es3 clk3, .map 54 es2 clk2]) (oren_st hm3 hm2) ?_
            repeat (first | exact Keeps.nil | refine Keeps.junk _ ?_ | refine Keeps.keep (by first | exact .plain _ rfl | exact (Tree.slV tree_encEv _).ren | exact .ptr _ _ _ (by simp) rfl | exact .map _ _ (by simp <;> omega) rfl) ?_)
        by_cases n60 : s.l[i].op = 60
        · have hop := n60
          as_aux_lemma =>
            have q84 : (((s.l[i].op.toNat : Nat) : Int) == 84) = false := by rw [hop]; rfl
            have q85 : (((s.l[i].op.toNat : Nat) : Int) == 85) = false := by rw [hop]; rfl
            have q49 : (((s.l[i].op.toNat : Nat) : Int) == 49) = false := by rw [hop]; rfl
            have q59 : (((s.l[i].op.toNat : Nat) : Int) == 59) = false := by rw [hop]; rfl
            have q60 : (((s.l[i].op.toNat : Nat) : Int) == 60) = true := by rw [hop]; rfl
            have q63 : (((s.l[i].op.toNat : Nat) : Int) == 63) = false := by rw [hop]; rfl
            have q71 : (((s.l[i].op.toNat : Nat) : Int) == 71) = false := by rw [hop]; rfl
            have q240 : (((s.l[i].op.toNat : Nat) : Int) == 240) = false := by rw [hop]; rfl
            have q245 : (((s.l[i].op.toNat : Nat) : Int) == 245) = false := by rw [hop]; rfl
            have q255 : (((s.l[i].op.toNat : Nat) : Int) == 255) = false := by rw [hop]; rfl
            have q241 : (((s.l[i].op.toNat : Nat) : Int) == 241) = false := by rw [hop]; rfl
            have q242 : (((s.l[i].op.toNat : Nat) : Int) == 242) = false := by rw [hop]; rfl
            have q244 : (((s.l[i].op.toNat : Nat) : Int) == 244) = false := by rw [hop]; rfl
            have q250 : (((s.l[i].op.toNat : Nat) : Int) == 250) = false := by rw [hop]; rfl
            have hR : evR s.l[i] = [otherOf s.l[i]] := by simp [evR, hf0, hop]
            have hW : evW s.l[i] = [] := by simp [evW, hf0, hop]
            simp (implicitDefEqProofs := false) (maxSteps := 2000000) only [go_sem, Nat.reduceAdd, Nat.reduceSub, Nat.reduceMul, Nat.reduceLT, Nat.reduceLeDiff, Nat.reduceEqDiff, Nat.reduceBEq, Nat.reduceBNe, Nat.reducePow, Int.reduceBEq, Int.reduceBNe, Int.reduceEq, Int.reduceLT, Int.reduceLE, Int.reduceNeg, Int.reduceToNat, Int.reduceMul, Int.reduceAdd, Int.reduceSub, Int.reducePow, Int.reduceFDiv, reduceCtorEq, reduceIte, q84, q85, q49, q59, q60, q63, q71, q240, q245, q255, q241, q242, q244, q250, size_zeros, size_blit, length_encWord, zeros_two]
            refine astep_calls (put1_calls (otherOf s.l[i]) hm1 (m := h.length + 1) (b := h.length + 7) ?_ ?_) ?_
            · exact at_new _ _ 1
            · exact at_new _ _ 7
            rintro v3 H3 ⟨es3, clk3, hm3, hv3, hH3⟩
            subst hH3
            simp (implicitDefEqProofs := false) (maxSteps := 2000000) only [go_sem, Nat.reduceAdd, Nat.reduceSub, Nat.reduceMul, Nat.reduceLT, Nat.reduceLeDiff, Nat.reduceEqDiff, Nat.reduceBEq, Nat.reduceBNe, Nat.reducePow, Int.reduceBEq, Int.reduceBNe, Int.reduceEq, Int.reduceLT, Int.reduceLE, Int.reduceNeg, Int.reduceToNat, Int.reduceMul, Int.reduceAdd, Int.reduceSub, Int.reducePow, Int.reduceFDiv, reduceCtorEq, reduceIte, hv3, q84, q85, q49, q59, q60, q63, q71, q240, q245, q255, q241, q242, q244, q250]
            refine ⟨(i + 1, (es3, clk3), (es2, clk2)), by show s.l.length - (i + 1) < s.l.length - i; omega, ⟨by show i + 1 ≤ _; omega, by show TMap es3 clk3 (stR (s.l.take (i + 1))); rw [stR_take hlt, hR]; simpa using hm3, by show TMap es2 clk2 (stW (s.l.take (i + 1))); rw [stW_take hlt, hW]; simpa using hm2⟩, ?_⟩
            rw [wrap_i64_of _ (by omega) (by omega), ofNat_succ']
            refine Keeps.easeP (t := [.cells #[.slice none 0 0, .slice none 0 0] 0 true, .map 54 es3 clk3, .map 54 es2 clk2]) (oren_st hm3 hm2) ?_
            repeat (first | exact Keeps.nil | refine Keeps.junk _ ?_ | refine Keeps.keep (by first | exact .plain _ rfl | exact (Tree.slV tree_encEv _).ren | exact .ptr _ _ _ (by simp) rfl | exact .map _ _ (by simp <;> omega) rfl) ?_)
        by_cases n63 : s.l[i].op = 63
        · have hop := n63
          as_aux_lemma =>
            have q84 : (((s.l[i].op.toNat : Nat) : Int) == 84) = false := by rw [hop]; rfl
            have q85 : (((s.l[i].op.toNat : Nat) : Int) == 85) = false := by rw [hop]; rfl
            have q49 : (((s.l[i].op.toNat : Nat) : Int) == 49) = false := by rw [hop]; rfl
            have q59 : (((s.l[i].op.toNat : Nat) : Int) == 59) = false := by rw [hop]; rfl
            have q60 : (((s.l[i].op.toNat : Nat) : Int) == 60) = false := by rw [hop]; rfl
            have q63 : (((s.l[i].op.toNat : Nat) : Int) == 63) = true := by rw [hop]; rfl
            have q71 : (((s.l[i].op.toNat : Nat) : Int) == 71) = false := by rw [hop]; rfl
            have q240 : (((s.l[i].op.toNat : Nat) : Int) == 240) = false := by rw [hop]; rfl
            have q245 : (((s.l[i].op.toNat : Nat) : Int) == 245) = false := by rw [hop]; rfl
            have q255 : (((s.l[i].op.toNat : Nat) : Int) == 255) = false := by rw [hop]; rfl
            have q241 : (((s.l[i].op.toNat : Nat) : Int) == 241) = false := by rw [hop]; rfl
            have q242 : (((s.l[i].op.toNat : Nat) : Int) == 242) = false := by rw [hop]; rfl
            have q244 : (((s.l[i].op.toNat : Nat) : Int) == 244) = false := by rw [hop]; rfl
            have q250 : (((s.l[i].op.toNat : Nat) : Int) == 250) = false := by rw [hop]; rfl
            have hR : evR s.l[i] = [otherOf s.l[i]] := by simp [evR, hf0, hop]
            have hW : evW s.l[i] = [] := by simp [evW, hf0, hop]
            simp (implicitDefEqProofs := false) (maxSteps := 2000000) only [go_sem, Nat.reduceAdd, Nat.reduceSub, Nat.reduceMul, Nat.reduceLT, Nat.reduceLeDiff, Nat.reduceEqDiff, Nat.reduceBEq, Nat.reduceBNe, Nat.reducePow, Int.reduceBEq, Int.reduceBNe, Int.reduceEq, Int.reduceLT, Int.reduceLE, Int.reduceNeg, Int.reduceToNat, Int.reduceMul, Int.reduceAdd, Int.reduceSub, Int.reducePow, Int.reduceFDiv, reduceCtorEq, reduceIte, q84, q85, q49, q59, q60, q63, q71, q240, q245, q255, q241, q242, q244, q250, size_zeros, size_blit, length_encWord, zeros_two]
            refine astep_calls (put1_calls (otherOf s.l[i]) hm1 (m := h.length + 1) (b := h.length + 7) ?_ ?_) ?_
            · exact at_new _ _ 1
            · exact at_new _ _ 7
            rintro v3 H3 ⟨es3, clk3, hm3, hv3, hH3⟩
            subst hH3
            simp (implicitDefEqProofs := false) (maxSteps := 2000000) only [go_sem, Nat.reduceAdd, Nat.reduceSub, Nat.reduceMul, Nat.reduceLT, Nat.reduceLeDiff, Nat.reduceEqDiff, Nat.reduceBEq, Nat.reduceBNe, Nat.reducePow, Int.reduceBEq, Int.reduceBNe, Int.reduceEq, Int.reduceLT, Int.reduceLE, Int.reduceNeg, Int.reduceToNat, Int.reduceMul, Int.reduceAdd, Int.reduceSub, Int.reducePow, Int.reduceFDiv, reduceCtorEq, reduceIte, hv3, q84, q85, q49, q59, q60, q63, q71, q240, q245, q255, q241, q242, q244, q250]
            refine ⟨(i + 1, (es3, clk3), (es2, clk2)), by show s.l.length - (i + 1) < s.l.length - i; omega, ⟨by show i + 1 ≤ _; omega, by show TMap es3 clk3 (stR (s.l.take (i + 1))); rw [stR_take hlt, hR]; simpa using hm3, by show TMap es2 clk2 (stW (s.l.take (i + 1))); rw [stW_take hlt, hW]; simpa using hm2⟩, ?_⟩
            rw [wrap_i64_of _ (by omega) (by omega), ofNat_succ']
            refine Keeps.easeP (t := [.cells #[.slice none 0 0, .slice none 0 0] 0 true, .map 54 es3 clk3, .map 54 es2 clk2]) (oren_st hm3 hm2) ?_
            repeat (first | exact Keeps.nil | refine Keeps.junk _ ?_ | refine Keeps.keep (by first | exact .plain _ rfl | exact (Tree.slV tree_encEv _).ren | exact .ptr _ _ _ (by simp) rfl | exact .map _ _ (by simp <;> omega) rfl) ?_)
        by_cases n71 : s.l[i].op = 71
        · have hop := n71
          as_aux_lemma =>
            have q84 : (((s.l[i].op.toNat : Nat) : Int) == 84) = false := by rw [hop]; rfl
            have q85 : (((s.l[i].op.toNat : Nat) : Int) == 85) = false := by rw [hop]; rfl
            have q49 : (((s.l[i].op.toNat : Nat) : Int) == 49) = false := by rw [hop]; rfl
            have q59 : (((s.l[i].op.toNat : Nat) : Int) == 59) = false := by rw [hop]; rfl
            have q60 : (((s.l[i].op.toNat : Nat) : Int) == 60) = false := by rw [hop]; rfl
            have q63 : (((s.l[i].op.toNat : Nat) : Int) == 63) = false := by rw [hop]; rfl
            have q71 : (((s.l[i].op.toNat : Nat) : Int) == 71) = true := by rw [hop]; rfl
            have q240 : (((s.l[i].op.toNat : Nat) : Int) == 240) = false := by rw [hop]; rfl
            have q245 : (((s.l[i].op.toNat : Nat) : Int) == 245) = false := by rw [hop]; rfl
            have q255 : (((s.l[i].op.toNat : Nat) : Int) == 255) = false := by rw [hop]; rfl
            have q241 : (((s.l[i].op.toNat : Nat) : Int) == 241) = false := by rw [hop]; rfl
            have q242 : (((s.l[i].op.toNat : Nat) : Int) == 242) = false := by rw [hop]; rfl
            have q244 : (((s.l[i].op.toNat : Nat) : Int) == 244) = false := by rw [hop]; rfl
            have q250 : (((s.l[i].op.toNat : Nat) : Int) == 250) = false := by rw [hop]; rfl
            have hR : evR s.l[i] = [selfOf s.l[i]] := by simp [evR, hf0, hop]
            have hW : evW s.l[i] = [] := by simp [evW, hf0, hop]
            simp (implicitDefEqProofs := false) (maxSteps := 2000000) only [go_sem, Nat.reduceAdd, Nat.reduceSub, Nat.reduceMul, Nat.reduceLT, Nat.reduceLeDiff, Nat.reduceEqDiff, Nat.reduceBEq, Nat.reduceBNe, Nat.reducePow, Int.reduceBEq, Int.reduceBNe, Int.reduceEq, Int.reduceLT, Int.reduceLE, Int.reduceNeg, Int.reduceToNat, Int.reduceMul, Int.reduceAdd, Int.reduceSub, Int.reducePow, Int.reduceFDiv, reduceCtorEq, reduceIte, q84, q85, q49, q59, q60, q63, q71, q240, q245, q255, q241, q242, q244, q250, size_zeros, size_blit, length_encWord, zeros_two]
            refine astep_calls (put1_calls (selfOf s.l[i]) hm1 (m := h.length + 1) (b := h.length + 7) ?_ ?_) ?_
            · exact at_new _ _ 1
            · exact at_new _ _ 7
            rintro v3 H3 ⟨es3, clk3, hm3, hv3, hH3⟩
            subst hH3
            simp (implicitDefEqProofs := false) (maxSteps := 2000000) only [go_sem, Nat.reduceAdd, Nat.reduceSub, Nat.reduceMul, Nat.reduceLT, Nat.reduceLeDiff, Nat.reduceEqDiff, Nat.reduceBEq, Nat.reduceBNe, Nat.reducePow, Int.reduceBEq, Int.reduceBNe, Int.reduceEq, Int.reduceLT, Int.reduceLE, Int.reduceNeg, Int.reduceToNat, Int.reduceMul, Int.reduceAdd, Int.reduceSub, Int.reducePow, Int.reduceFDiv, reduceCtorEq, reduceIte, hv3, q84, q85, q49, q59, q60, q63, q71, q240, q245, q255, q241, q242, q244, q250]
            refine ⟨(i + 1, (es3, clk3), (es2, clk2)), by show s.l.length - (i + 1) < s.l.length - i; omega, ⟨by show i + 1 ≤ _; omega, by show TMap es3 clk3 (stR (s.l.take (i + 1))); rw [stR_take hlt, hR]; simpa using hm3, by show TMap es2 clk2 (stW (s.l.take (i + 1))); rw [stW_take hlt, hW]; simpa using hm2⟩, ?_⟩
            rw [wrap_i64_of _ (by omega) (by omega), ofNat_succ']
            refine Keeps.easeP (t := [.cells #[.slice none 0 0, .slice none 0 0] 0 true, .map 54 es3 clk3, .map 54 es2 clk2]) (oren_st hm3 hm2) ?_
            repeat (first | exact Keeps.nil | refine Keeps.junk _ ?_ | refine Keeps.keep (by first | exact .plain _ rfl | exact (Tree.slV tree_encEv _).ren | exact .ptr _ _ _ (by simp) rfl | exact .map _ _ (by simp <;> omega) rfl) ?_)
        by_cases n240 : s.l[i].op = 240
        · have hop := n240
          as_aux_lemma =>
            have q84 : (((s.l[i].op.toNat : Nat) : Int) == 84) = false := by rw [hop]; rfl
            have q85 : (((s.l[i].op.toNat : Nat) : Int) == 85) = false := by rw [hop]; rfl
            have q49 : (((s.l[i].op.toNat : Nat) : Int) == 49) = false := by rw [hop]; rfl
            have q59 : (((s.l[i].op.toNat : Nat) : Int) == 59) = false := by rw [hop]; rfl
            have q60 : (((s.l[i].op.toNat : Nat) : Int) == 60) = false := by rw [hop]; rfl
            have q63 : (((s.l[i].op.toNat : Nat) : Int) == 63) = false := by rw [hop]; rfl
            have q71 : (((s.l[i].op.toNat : Nat) : Int) == 71) = false := by rw [hop]; rfl
            have q240 : (((s.l[i].op.toNat : Nat) : Int) == 240) = true := by rw [hop]; rfl
            have q245 : (((s.l[i].op.toNat : Nat) : Int) == 245) = false := by rw [hop]; rfl
            have q255 : (((s.l[i].op.toNat : Nat) : Int) == 255) = false := by rw [hop]; rfl
            have q241 : (((s.l[i].op.toNat : Nat) : Int) == 241) = false := by rw [hop]; rfl
            have q242 : (((s.l[i].op.toNat : Nat) : Int) == 242) = false := by rw [hop]; rfl
            have q244 : (((s.l[i].op.toNat : Nat) : Int) == 244) = false := by rw [hop]; rfl
            have q250 : (((s.l[i].op.toNat : Nat) : Int) == 250) = false := by rw [hop]; rfl
            have hR : evR s.l[i] = [] := by simp [evR, hf0, hop]
            have hW : evW s.l[i] = [selfOf s.l[i], otherOf s.l[i]] := by simp [evW, hf0, hop]
            simp (implicitDefEqProofs := false) (maxSteps := 2000000) only [go_sem, Nat.reduceAdd, Nat.reduceSub, Nat.reduceMul, Nat.reduceLT, Nat.reduceLeDiff, Nat.reduceEqDiff, Nat.reduceBEq, Nat.reduceBNe, Nat.reducePow, Int.reduceBEq, Int.reduceBNe, Int.reduceEq, Int.reduceLT, Int.reduceLE, Int.reduceNeg, Int.reduceToNat, Int.reduceMul, Int.reduceAdd, Int.reduceSub, Int.reducePow, Int.reduceFDiv, reduceCtorEq, reduceIte, q84, q85, q49, q59, q60, q63, q71, q240, q245, q255, q241, q242, q244, q250, size_zeros, size_blit, length_encWord, zeros_two]
            refine astep_calls (put2_calls (selfOf s.l[i]) (otherOf s.l[i]) hm2 (m := h.length + 2) (b := h.length + 7) ?_ ?_ ?_) ?_
            · exact at_new _ _ 2
            · exact at_new _ _ 7
            · omega
            rintro v3 H3 ⟨es3, clk3, hm3, hv3, hH3⟩
            subst hH3
            simp (implicitDefEqProofs := false) (maxSteps := 2000000) only [go_sem, Nat.reduceAdd, Nat.reduceSub, Nat.reduceMul, Nat.reduceLT, Nat.reduceLeDiff, Nat.reduceEqDiff, Nat.reduceBEq, Nat.reduceBNe, Nat.reducePow, Int.reduceBEq, Int.reduceBNe, Int.reduceEq, Int.reduceLT, Int.reduceLE, Int.reduceNeg, Int.reduceToNat, Int.reduceMul, Int.reduceAdd, Int.reduceSub, Int.reducePow, Int.reduceFDiv, reduceCtorEq, reduceIte, hv3, q84, q85, q49, q59, q60, q63, q71, q240, q245, q255, q241, q242, q244, q250]
            refine ⟨(i + 1, (es1, clk1), (es3, clk3)), by show s.l.length - (i + 1) < s.l.length - i; omega, ⟨by show i + 1 ≤ _; omega, by show TMap es1 clk1 (stR (s.l.take (i + 1))); rw [stR_take hlt, hR]; simpa using hm1, by show TMap es3 clk3 (stW (s.l.take (i + 1))); rw [stW_take hlt, hW]; simpa using hm3⟩, ?_⟩
            rw [wrap_i64_of _ (by omega) (by omega), ofNat_succ']
            refine Keeps.easeP (t := [.cells #[.slice none 0 0, .slice none 0 0] 0 true, .map 54 es1 clk1, .map 54 es3 clk3]) (oren_st hm1 hm3) ?_
            repeat (first | exact Keeps.nil | refine Keeps.junk _ ?_ | refine Keeps.keep (by first | exact .plain _ rfl | exact (Tree.slV tree_encEv _).ren | exact .ptr _ _ _ (by simp) rfl | exact .map _ _ (by simp <;> omega) rfl) ?_)
        by_cases n245 : s.l[i].op = 245
        · have hop := n245
          as_aux_lemma =>
            have q84 : (((s.l[i].op.toNat : Nat) : Int) == 84) = false := by rw [hop]; rfl
            have q85 : (((s.l[i].op.toNat : Nat) : Int) == 85) = false := by rw [hop]; rfl
            have q49 : (((s.l[i].op.toNat : Nat) : Int) == 49) = false := by rw [hop]; rfl
            have q59 : (((s.l[i].op.toNat : Nat) : Int) == 59) = false := by rw [hop]; rfl
            have q60 : (((s.l[i].op.toNat : Nat) : Int) == 60) = false := by rw [hop]; rfl
            have q63 : (((s.l[i].op.toNat : Nat) : Int) == 63) = false := by rw [hop]; rfl
            have q71 : (((s.l[i].op.toNat : Nat) : Int) == 71) = false := by rw [hop]; rfl
            have q240 : (((s.l[i].op.toNat : Nat) : Int) == 240) = false := by rw [hop]; rfl
            have q245 : (((s.l[i].op.toNat : Nat) : Int) == 245) = true := by rw [hop]; rfl
            have q255 : (((s.l[i].op.toNat : Nat) : Int) == 255) = false := by rw [hop]; rfl
            have q241 : (((s.l[i].op.toNat : Nat) : Int) == 241) = false := by rw [hop]; rfl
            have q242 : (((s.l[i].op.toNat : Nat) : Int) == 242) = false := by rw [hop]; rfl
            have q244 : (((s.l[i].op.toNat : Nat) : Int) == 244) = false := by rw [hop]; rfl
            have q250 : (((s.l[i].op.toNat : Nat) : Int) == 250) = false := by rw [hop]; rfl
            have hR : evR s.l[i] = [] := by simp [evR, hf0, hop]
            have hW : evW s.l[i] = [selfOf s.l[i], otherOf s.l[i]] := by simp [evW, hf0, hop]
            simp (implicitDefEqProofs := false) (maxSteps := 2000000) only [go_sem, Nat.reduceAdd, Nat.reduceSub, Nat.reduceMul, Nat.reduceLT, Nat.reduceLeDiff, Nat.reduceEqDiff, Nat.reduceBEq, Nat.reduceBNe, Nat.reducePow, Int.reduceBEq, Int.reduceBNe, Int.reduceEq, Int.reduceLT, Int.reduceLE, Int.reduceNeg, Int.reduceToNat, Int.reduceMul, Int.reduceAdd, Int.reduceSub, Int.reducePow, Int.reduceFDiv, reduceCtorEq, reduceIte, q84, q85, q49, q59, q60, q63, q71, q240, q245, q255, q241, q242, q244, q250, size_zeros, size_blit, length_encWord, zeros_two]
            refine astep_calls (put2_calls (selfOf s.l[i]) (otherOf s.l[i]) hm2 (m := h.length + 2) (b := h.length + 7) ?_ ?_ ?_) ?_
            · exact at_new _ _ 2
            · exact at_new _ _ 7
            · omega
            rintro v3 H3 ⟨es3, clk3, hm3, hv3, hH3⟩
            subst hH3
            simp (implicitDefEqProofs := false) (maxSteps := 2000000) only [go_sem, Nat.reduceAdd, Nat.reduceSub, Nat.reduceMul, Nat.reduceLT, Nat.reduceLeDiff, Nat.reduceEqDiff, Nat.reduceBEq, Nat.reduceBNe, Nat.reducePow, Int.reduceBEq, Int.reduceBNe, Int.reduceEq, Int.reduceLT, Int.reduceLE, Int.reduceNeg, Int.reduceToNat, Int.reduceMul, Int.reduceAdd, Int.reduceSub, Int.reducePow, Int.reduceFDiv, reduceCtorEq, reduceIte, hv3, q84, q85, q49, q59, q60, q63, q71, q240, q245, q255, q241, q242, q244, q250]
            refine ⟨(i + 1, (es1, clk1), (es3, clk3)), by show s.l.length - (i + 1) < s.l.length - i; omega, ⟨by show i + 1 ≤ _; omega, by show TMap es1 clk1 (stR (s.l.take (i + 1))); rw [stR_take hlt, hR]; simpa using hm1, by show TMap es3 clk3 (stW (s.l.take (i + 1))); rw [stW_take hlt, hW]; simpa using hm3⟩, ?_⟩
            rw [wrap_i64_of _ (by omega) (by omega), ofNat_succ']
            refine Keeps.easeP (t := [.cells #[.slice none 0 0, .slice none 0 0] 0 true, .map 54 es1 clk1, .map 54 es3 clk3]) (oren_st hm1 hm3) ?_
            repeat (first | exact Keeps.nil | refine Keeps.junk _ ?_ | refine Keeps.keep (by first | exact .plain _ rfl | exact (Tree.slV tree_encEv _).ren | exact .ptr _ _ _ (by simp) rfl | exact .map _ _ (by simp <;> omega) rfl) ?_)
        by_cases n255 : s.l[i].op = 255
        · have hop := n255
          as_aux_lemma =>
            have q84 : (((s.l[i].op.toNat : Nat) : Int) == 84) = false := by rw [hop]; rfl
            have q85 : (((s.l[i].op.toNat : Nat) : Int) == 85) = false := by rw [hop]; rfl
            have q49 : (((s.l[i].op.toNat : Nat) : Int) == 49) = false := by rw [hop]; rfl
            have q59 : (((s.l[i].op.toNat : Nat) : Int) == 59) = false := by rw [hop]; rfl
            have q60 : (((s.l[i].op.toNat : Nat) : Int) == 60) = false := by rw [hop]; rfl
            have q63 : (((s.l[i].op.toNat : Nat) : Int) == 63) = false := by rw [hop]; rfl
            have q71 : (((s.l[i].op.toNat : Nat) : Int) == 71) = false := by rw [hop]; rfl
            have q240 : (((s.l[i].op.toNat : Nat) : Int) == 240) = false := by rw [hop]; rfl
            have q245 : (((s.l[i].op.toNat : Nat) : Int) == 245) = false := by rw [hop]; rfl
            have q255 : (((s.l[i].op.toNat : Nat) : Int) == 255) = true := by rw [hop]; rfl
            have q241 : (((s.l[i].op.toNat : Nat) : Int) == 241) = false := by rw [hop]; rfl
            have q242 : (((s.l[i].op.toNat : Nat) : Int) == 242) = false := by rw [hop]; rfl
            have q244 : (((s.l[i].op.toNat : Nat) : Int) == 244) = false := by rw [hop]; rfl
            have q250 : (((s.l[i].op.toNat : Nat) : Int) == 250) = false := by rw [hop]; rfl
            have hR : evR s.l[i] = [] := by simp [evR, hf0, hop]
            have hW : evW s.l[i] = [selfOf s.l[i], otherOf s.l[i]] := by simp [evW, hf0, hop]
            simp (implicitDefEqProofs := false) (maxSteps := 2000000) only [go_sem, Nat.reduceAdd, Nat.reduceSub, Nat.reduceMul, Nat.reduceLT, Nat.reduceLeDiff, Nat.reduceEqDiff, Nat.reduceBEq, Nat.reduceBNe, Nat.reducePow, Int.reduceBEq, Int.reduceBNe, Int.reduceEq, Int.reduceLT, Int.reduceLE, Int.reduceNeg, Int.reduceToNat, Int.reduceMul, Int.reduceAdd, Int.reduceSub, Int.reducePow, Int.reduceFDiv, reduceCtorEq, reduceIte, q84, q85, q49, q59, q60, q63, q71, q240, q245, q255, q241, q242, q244, q250, size_zeros, size_blit, length_encWord, zeros_two]
            refine astep_calls (put2_calls (selfOf s.l[i]) (otherOf s.l[i]) hm2 (m := h.length + 2) (b := h.length + 7) ?_ ?_ ?_) ?_
            · exact at_new _ _ 2
            · exact at_new _ _ 7
            · omega
            rintro v3 H3 ⟨es3, clk3, hm3, hv3, hH3⟩
            subst hH3
            simp (implicitDefEqProofs := false) (maxSteps := 2000000) only [go_sem, Nat.reduceAdd, Nat.reduceSub, Nat.reduceMul, Nat.reduceLT, Nat.reduceLeDiff, Nat.reduceEqDiff, Nat.reduceBEq, Nat.reduceBNe, Nat.reducePow, Int.reduceBEq, Int.reduceBNe, Int.reduceEq, Int.reduceLT, Int.reduceLE, Int.reduceNeg, Int.reduceToNat, Int.reduceMul, Int.reduceAdd, Int.reduceSub, Int.reducePow, Int.reduceFDiv, reduceCtorEq, reduceIte, hv3, q84, q85, q49, q59, q60, q63, q71, q240, q245, q255, q241, q242, q244, q250]
            refine ⟨(i + 1, (es1, clk1), (es3, clk3)), by show s.l.length - (i + 1) < s.l.length - i; omega, ⟨by show i + 1 ≤ _; omega, by show TMap es1 clk1 (stR (s.l.take (i + 1))); rw [stR_take hlt, hR]; simpa using hm1, by show TMap es3 clk3 (stW (s.l.take (i + 1))); rw [stW_take hlt, hW]; simpa using hm3⟩, ?_⟩
            rw [wrap_i64_of _ (by omega) (by omega), ofNat_succ']
            refine Keeps.easeP (t := [.cells #[.slice none 0 0, .slice none 0 0] 0 true, .map 54 es1 clk1, .map 54 es3 clk3]) (oren_st hm1 hm3) ?_
            repeat (first | exact Keeps.nil | refine Keeps.junk _ ?_ | refine Keeps.keep (by first | exact .plain _ rfl | exact (Tree.slV tree_encEv _).ren | exact .ptr _ _ _ (by simp) rfl | exact .map _ _ (by simp <;> omega) rfl) ?_)
        by_cases n241 : s.l[i].op = 241
        · have hop := n241
          as_aux_lemma =>
            have q84 : (((s.l[i].op.toNat : Nat) : Int) == 84) = false := by rw [hop]; rfl
            have q85 : (((s.l[i].op.toNat : Nat) : Int) == 85) = false := by rw [hop]; rfl
            have q49 : (((s.l[i].op.toNat : Nat) : Int) == 49) = false := by rw [hop]; rfl
            have q59 : (((s.l[i].op.toNat : Nat) : Int) == 59) = false := by rw [hop]; rfl
            have q60 : (((s.l[i].op.toNat : Nat) : Int) == 60) = false := by rw [hop]; rfl
            have q63 : (((s.l[i].op.toNat : Nat) : Int) == 63) = false := by rw [hop]; rfl
            have q71 : (((s.l[i].op.toNat : Nat) : Int) == 71) = false := by rw [hop]; rfl
            have q240 : (((s.l[i].op.toNat : Nat) : Int) == 240) = false := by rw [hop]; rfl
            have q245 : (((s.l[i].op.toNat : Nat) : Int) == 245) = false := by rw [hop]; rfl
            have q255 : (((s.l[i].op.toNat : Nat) : Int) == 255) = false := by rw [hop]; rfl
            have q241 : (((s.l[i].op.toNat : Nat) : Int) == 241) = true := by rw [hop]; rfl
            have q242 : (((s.l[i].op.toNat : Nat) : Int) == 242) = false := by rw [hop]; rfl
            have q244 : (((s.l[i].op.toNat : Nat) : Int) == 244) = false := by rw [hop]; rfl
            have q250 : (((s.l[i].op.toNat : Nat) : Int) == 250) = false := by rw [hop]; rfl
            have hR : evR s.l[i] = [otherOf s.l[i]] := by simp [evR, hf0, hop]
            simp (implicitDefEqProofs := false) (maxSteps := 2000000) only [go_sem, Nat.reduceAdd, Nat.reduceSub, Nat.reduceMul, Nat.reduceLT, Nat.reduceLeDiff, Nat.reduceEqDiff, Nat.reduceBEq, Nat.reduceBNe, Nat.reducePow, Int.reduceBEq, Int.reduceBNe, Int.reduceEq, Int.reduceLT, Int.reduceLE, Int.reduceNeg, Int.reduceToNat, Int.reduceMul, Int.reduceAdd, Int.reduceSub, Int.reducePow, Int.reduceFDiv, reduceCtorEq, reduceIte, q84, q85, q49, q59, q60, q63, q71, q240, q245, q255, q241, q242, q244, q250, size_zeros, size_blit, length_encWord, zeros_two]
            refine astep_calls (put1_calls (otherOf s.l[i]) hm1 (m := h.length + 1) (b := h.length + 7) ?_ ?_) ?_
            · exact at_new _ _ 1
            · exact at_new _ _ 7
            rintro v3 H3 ⟨es3, clk3, hm3, hv3, hH3⟩
            subst hH3
            by_cases hz : s.l[i].value = zeroW
            · have hW : evW s.l[i] = [] := by simp [evW, hf0, hop, hz]
              have hd : decide (s.l[i].value = zeroW) = true := decide_eq_true hz
              simp (implicitDefEqProofs := false) (maxSteps := 2000000) only [go_sem, Nat.reduceAdd, Nat.reduceSub, Nat.reduceMul, Nat.reduceLT, Nat.reduceLeDiff, Nat.reduceEqDiff, Nat.reduceBEq, Nat.reduceBNe, Nat.reducePow, Int.reduceBEq, Int.reduceBNe, Int.reduceEq, Int.reduceLT, Int.reduceLE, Int.reduceNeg, Int.reduceToNat, Int.reduceMul, Int.reduceAdd, Int.reduceSub, Int.reducePow, Int.reduceFDiv, reduceCtorEq, reduceIte, hv3, q84, q85, q49, q59, q60, q63, q71, q240, q245, q255, q241, q242, q244, q250, length_encWord, zeroW_enc, hd]
              refine ⟨(i + 1, (es3, clk3), (es2, clk2)), by show s.l.length - (i + 1) < s.l.length - i; omega, ⟨by show i + 1 ≤ _; omega, by show TMap es3 clk3 (stR (s.l.take (i + 1))); rw [stR_take hlt, hR]; simpa using hm3, by show TMap es2 clk2 (stW (s.l.take (i + 1))); rw [stW_take hlt, hW]; simpa using hm2⟩, ?_⟩
              rw [wrap_i64_of _ (by omega) (by omega), ofNat_succ']
              refine Keeps.easeP (t := [.cells #[.slice none 0 0, .slice none 0 0] 0 true, .map 54 es3 clk3, .map 54 es2 clk2]) (oren_st hm3 hm2) ?_
              repeat (first | exact Keeps.nil | refine Keeps.junk _ ?_ | refine Keeps.keep (by first | exact .plain _ rfl | exact (Tree.slV tree_encEv _).ren | exact .ptr _ _ _ (by simp) rfl | exact .map _ _ (by simp <;> omega) rfl) ?_)
            · have hW : evW s.l[i] = [selfOf s.l[i], otherOf s.l[i]] := by simp [evW, hf0, hop, hz]
              have hd : decide (s.l[i].value = zeroW) = false := decide_eq_false hz
              simp (implicitDefEqProofs := false) (maxSteps := 2000000) only [go_sem, Nat.reduceAdd, Nat.reduceSub, Nat.reduceMul, Nat.reduceLT, Nat.reduceLeDiff, Nat.reduceEqDiff, Nat.reduceBEq, Nat.reduceBNe, Nat.reducePow, Int.reduceBEq, Int.reduceBNe, Int.reduceEq, Int.reduceLT, Int.reduceLE, Int.reduceNeg, Int.reduceToNat, Int.reduceMul, Int.reduceAdd, Int.reduceSub, Int.reducePow, Int.reduceFDiv, reduceCtorEq, reduceIte, hv3, q84, q85, q49, q59, q60, q63, q71, q240, q245, q255, q241, q242, q244, q250, size_zeros, size_blit, length_encWord, zeros_two, zeroW_enc, hd]
              refine astep_calls (put2_calls (selfOf s.l[i]) (otherOf s.l[i]) hm2 (m := h.length + 2) (b := h.length + 8) ?_ ?_ ?_) ?_
              · exact at_new _ _ 2
              · exact at_new _ _ 8
              · omega
              rintro v4 H4 ⟨es4, clk4, hm4, hv4, hH4⟩
              subst hH4
              simp (implicitDefEqProofs := false) (maxSteps := 2000000) only [go_sem, Nat.reduceAdd, Nat.reduceSub, Nat.reduceMul, Nat.reduceLT, Nat.reduceLeDiff, Nat.reduceEqDiff, Nat.reduceBEq, Nat.reduceBNe, Nat.reducePow, Int.reduceBEq, Int.reduceBNe, Int.reduceEq, Int.reduceLT, Int.reduceLE, Int.reduceNeg, Int.reduceToNat, Int.reduceMul, Int.reduceAdd, Int.reduceSub, Int.reducePow, Int.reduceFDiv, reduceCtorEq, reduceIte, hv4, q84, q85, q49, q59, q60, q63, q71, q240, q245, q255, q241, q242, q244, q250]
              refine ⟨(i + 1, (es3, clk3), (es4, clk4)), by show s.l.length - (i + 1) < s.l.length - i; omega, ⟨by show i + 1 ≤ _; omega, by show TMap es3 clk3 (stR (s.l.take (i + 1))); rw [stR_take hlt, hR]; simpa using hm3, by show TMap es4 clk4 (stW (s.l.take (i + 1))); rw [stW_take hlt, hW]; simpa using hm4⟩, ?_⟩
              rw [wrap_i64_of _ (by omega) (by omega), ofNat_succ']
              refine Keeps.easeP (t := [.cells #[.slice none 0 0, .slice none 0 0] 0 true, .map 54 es3 clk3, .map 54 es4 clk4]) (oren_st hm3 hm4) ?_
              repeat (first | exact Keeps.nil | refine Keeps.junk _ ?_ | refine Keeps.keep (by first | exact .plain _ rfl | exact (Tree.slV tree_encEv _).ren | exact .ptr _ _ _ (by simp) rfl | exact .map _ _ (by simp <;> omega) rfl) ?_)
        by_cases n242 : s.l[i].op = 242
        · have hop := n242
          as_aux_lemma =>
            have q84 : (((s.l[i].op.toNat : Nat) : Int) == 84) = false := by rw [hop]; rfl
            have q85 : (((s.l[i].op.toNat : Nat) : Int) == 85) = false := by rw [hop]; rfl
            have q49 : (((s.l[i].op.toNat : Nat) : Int) == 49) = false := by rw [hop]; rfl
            have q59 : (((s.l[i].op.toNat : Nat) : Int) == 59) = false := by rw [hop]; rfl
            have q60 : (((s.l[i].op.toNat : Nat) : Int) == 60) = false := by rw [hop]; rfl
            have q63 : (((s.l[i].op.toNat : Nat) : Int) == 63) = false := by rw [hop]; rfl
            have q71 : (((s.l[i].op.toNat : Nat) : Int) == 71) = false := by rw [hop]; rfl
            have q240 : (((s.l[i].op.toNat : Nat) : Int) == 240) = false := by rw [hop]; rfl
            have q245 : (((s.l[i].op.toNat : Nat) : Int) == 245) = false := by rw [hop]; rfl
            have q255 : (((s.l[i].op.toNat : Nat) : Int) == 255) = false := by rw [hop]; rfl
            have q241 : (((s.l[i].op.toNat : Nat) : Int) == 241) = false := by rw [hop]; rfl
            have q242 : (((s.l[i].op.toNat : Nat) : Int) == 242) = true := by rw [hop]; rfl
            have q244 : (((s.l[i].op.toNat : Nat) : Int) == 244) = false := by rw [hop]; rfl
            have q250 : (((s.l[i].op.toNat : Nat) : Int) == 250) = false := by rw [hop]; rfl
            have hR : evR s.l[i] = [otherOf s.l[i]] := by simp [evR, hf0, hop]
            simp (implicitDefEqProofs := false) (maxSteps := 2000000) only [go_sem, Nat.reduceAdd, Nat.reduceSub, Nat.reduceMul, Nat.reduceLT, Nat.reduceLeDiff, Nat.reduceEqDiff, Nat.reduceBEq, Nat.reduceBNe, Nat.reducePow, Int.reduceBEq, Int.reduceBNe, Int.reduceEq, Int.reduceLT, Int.reduceLE, Int.reduceNeg, Int.reduceToNat, Int.reduceMul, Int.reduceAdd, Int.reduceSub, Int.reducePow, Int.reduceFDiv, reduceCtorEq, reduceIte, q84, q85, q49, q59, q60, q63, q71, q240, q245, q255, q241, q242, q244, q250, size_zeros, size_blit, length_encWord, zeros_two]
            refine astep_calls (put1_calls (otherOf s.l[i]) hm1 (m := h.length + 1) (b := h.length + 7) ?_ ?_) ?_
            · exact at_new _ _ 1
            · exact at_new _ _ 7
            rintro v3 H3 ⟨es3, clk3, hm3, hv3, hH3⟩
            subst hH3
            by_cases hz : s.l[i].value = zeroW
            · have hW : evW s.l[i] = [] := by simp [evW, hf0, hop, hz]
              have hd : decide (s.l[i].value = zeroW) = true := decide_eq_true hz
              simp (implicitDefEqProofs := false) (maxSteps := 2000000) only [go_sem, Nat.reduceAdd, Nat.reduceSub, Nat.reduceMul, Nat.reduceLT, Nat.reduceLeDiff, Nat.reduceEqDiff, Nat.reduceBEq, Nat.reduceBNe, Nat.reducePow, Int.reduceBEq, Int.reduceBNe, Int.reduceEq, Int.reduceLT, Int.reduceLE, Int.reduceNeg, Int.reduceToNat, Int.reduceMul, Int.reduceAdd, Int.reduceSub, Int.reducePow, Int.reduceFDiv, reduceCtorEq, reduceIte, hv3, q84, q85, q49, q59, q60, q63, q71, q240, q245, q255, q241, q242, q244, q250, length_encWord, zeroW_enc, hd]
              refine ⟨(i + 1, (es3, clk3), (es2, clk2)), by show s.l.length - (i + 1) < s.l.length - i; omega, ⟨by show i + 1 ≤ _; omega, by show TMap es3 clk3 (stR (s.l.take (i + 1))); rw [stR_take hlt, hR]; simpa using hm3, by show TMap es2 clk2 (stW (s.l.take (i + 1))); rw [stW_take hlt, hW]; simpa using hm2⟩, ?_⟩
              rw [wrap_i64_of _ (by omega) (by omega), ofNat_succ']
              refine Keeps.easeP (t := [.cells #[.slice none 0 0, .slice none 0 0] 0 true, .map 54 es3 clk3, .map 54 es2 clk2]) (oren_st hm3 hm2) ?_
              repeat (first | exact Keeps.nil | refine Keeps.junk _ ?_ | refine Keeps.keep (by first | exact .plain _ rfl | exact (Tree.slV tree_encEv _).ren | exact .ptr _ _ _ (by simp) rfl | exact .map _ _ (by simp <;> omega) rfl) ?_)
            · have hW : evW s.l[i] = [selfOf s.l[i], otherOf s.l[i]] := by simp [evW, hf0, hop, hz]
              have hd : decide (s.l[i].value = zeroW) = false := decide_eq_false hz
              simp (implicitDefEqProofs := false) (maxSteps := 2000000) only [go_sem, Nat.reduceAdd, Nat.reduceSub, Nat.reduceMul, Nat.reduceLT, Nat.reduceLeDiff, Nat.reduceEqDiff, Nat.reduceBEq, Nat.reduceBNe, Nat.reducePow, Int.reduceBEq, Int.reduceBNe, Int.reduceEq, Int.reduceLT, Int.reduceLE, Int.reduceNeg, Int.reduceToNat, Int.reduceMul, Int.reduceAdd, Int.reduceSub, Int.reducePow, Int.reduceFDiv, reduceCtorEq, reduceIte, hv3, q84, q85, q49, q59, q60, q63, q71, q240, q245, q255, q241, q242, q244, q250, size_zeros, size_blit, length_encWord, zeros_two, zeroW_enc, hd]
              refine astep_calls (put2_calls (selfOf s.l[i]) (otherOf s.l[i]) hm2 (m := h.length + 2) (b := h.length + 8) ?_ ?_ ?_) ?_
              · exact at_new _ _ 2
              · exact at_new _ _ 8
              · omega
              rintro v4 H4 ⟨es4, clk4, hm4, hv4, hH4⟩
              subst hH4
              simp (implicitDefEqProofs := false) (maxSteps := 2000000) only [go_sem, Nat.reduceAdd, Nat.reduceSub, Nat.reduceMul, Nat.reduceLT, Nat.reduceLeDiff, Nat.reduceEqDiff, Nat.reduceBEq, Nat.reduceBNe, Nat.reducePow, Int.reduceBEq, Int.reduceBNe, Int.reduceEq, Int.reduceLT, Int.reduceLE, Int.reduceNeg, Int.reduceToNat, Int.reduceMul, Int.reduceAdd, Int.reduceSub, Int.reducePow, Int.reduceFDiv, reduceCtorEq, reduceIte, hv4, q84, q85, q49, q59, q60, q63, q71, q240, q245, q255, q241, q242, q244, q250]
              refine ⟨(i + 1, (es3, clk3), (es4, clk4)), by show s.l.length - (i + 1) < s.l.length - i; omega, ⟨by show i + 1 ≤ _; omega, by show TMap es3 clk3 (stR (s.l.take (i + 1))); rw [stR_take hlt, hR]; simpa using hm3, by show TMap es4 clk4 (stW (s.l.take (i + 1))); rw [stW_take hlt, hW]; simpa using hm4⟩, ?_⟩
              rw [wrap_i64_of _ (by omega) (by omega), ofNat_succ']
              refine Keeps.easeP (t := [.cells #[.slice none 0 0, .slice none 0 0] 0 true, .map 54 es3 clk3, .map 54 es4 clk4]) (oren_st hm3 hm4) ?_
              repeat (first | exact Keeps.nil | refine Keeps.junk _ ?_ | refine Keeps.keep (by first | exact .plain _ rfl | exact (Tree.slV tree_encEv _).ren | exact .ptr _ _ _ (by simp) rfl | exact .map _ _ (by simp <;> omega) rfl) ?_)
        by_cases n244 : s.l[i].op = 244
        · have hop := n244
          as_aux_lemma =>
            have q84 : (((s.l[i].op.toNat : Nat) : Int) == 84) = false := by rw [hop]; rfl
            have q85 : (((s.l[i].op.toNat : Nat) : Int) == 85) = false := by rw [hop]; rfl
            have q49 : (((s.l[i].op.toNat : Nat) : Int) == 49) = false := by rw [hop]; rfl
            have q59 : (((s.l[i].op.toNat : Nat) : Int) == 59) = false := by rw [hop]; rfl
            have q60 : (((s.l[i].op.toNat : Nat) : Int) == 60) = false := by rw [hop]; rfl
            have q63 : (((s.l[i].op.toNat : Nat) : Int) == 63) = false := by rw [hop]; rfl
            have q71 : (((s.l[i].op.toNat : Nat) : Int) == 71) = false := by rw [hop]; rfl
            have q240 : (((s.l[i].op.toNat : Nat) : Int) == 240) = false := by rw [hop]; rfl
            have q245 : (((s.l[i].op.toNat : Nat) : Int) == 245) = false := by rw [hop]; rfl
            have q255 : (((s.l[i].op.toNat : Nat) : Int) == 255) = false := by rw [hop]; rfl
            have q241 : (((s.l[i].op.toNat : Nat) : Int) == 241) = false := by rw [hop]; rfl
            have q242 : (((s.l[i].op.toNat : Nat) : Int) == 242) = false := by rw [hop]; rfl
            have q244 : (((s.l[i].op.toNat : Nat) : Int) == 244) = true := by rw [hop]; rfl
            have q250 : (((s.l[i].op.toNat : Nat) : Int) == 250) = false := by rw [hop]; rfl
            have hR : evR s.l[i] = [otherOf s.l[i]] := by simp [evR, hf0, hop]
            simp (implicitDefEqProofs := false) (maxSteps := 2000000) only [go_sem, Nat.reduceAdd, Nat.reduceSub, Nat.reduceMul, Nat.reduceLT, Nat.reduceLeDiff, Nat.reduceEqDiff, Nat.reduceBEq, Nat.reduceBNe, Nat.reducePow, Int.reduceBEq, Int.reduceBNe, Int.reduceEq, Int.reduceLT, Int.reduceLE, Int.reduceNeg, Int.reduceToNat, Int.reduceMul, Int.reduceAdd, Int.reduceSub, Int.reducePow, Int.reduceFDiv, reduceCtorEq, reduceIte, q84, q85, q49, q59, q60, q63, q71, q240, q245, q255, q241, q242, q244, q250, size_zeros, size_blit, length_encWord, zeros_two]
            refine astep_calls (put1_calls (otherOf s.l[i]) hm1 (m := h.length + 1) (b := h.length + 7) ?_ ?_) ?_
            · exact at_new _ _ 1
            · exact at_new _ _ 7
            rintro v3 H3 ⟨es3, clk3, hm3, hv3, hH3⟩
            subst hH3
            by_cases hz : s.l[i].value = zeroW
            · have hW : evW s.l[i] = [] := by simp [evW, hf0, hop, hz]
              have hd : decide (s.l[i].value = zeroW) = true := decide_eq_true hz
              simp (implicitDefEqProofs := false) (maxSteps := 2000000) only [go_sem, Nat.reduceAdd, Nat.reduceSub, Nat.reduceMul, Nat.reduceLT, Nat.reduceLeDiff, Nat.reduceEqDiff, Nat.reduceBEq, Nat.reduceBNe, Nat.reducePow, Int.reduceBEq, Int.reduceBNe, Int.reduceEq, Int.reduceLT, Int.reduceLE, Int.reduceNeg, Int.reduceToNat, Int.reduceMul, Int.reduceAdd, Int.reduceSub, Int.reducePow, Int.reduceFDiv, reduceCtorEq, reduceIte, hv3, q84, q85, q49, q59, q60, q63, q71, q240, q245, q255, q241, q242, q244, q250, length_encWord, zeroW_enc, hd]
              refine ⟨(i + 1, (es3, clk3), (es2, clk2)), by show s.l.length - (i + 1) < s.l.length - i; omega, ⟨by show i + 1 ≤ _; omega, by show TMap es3 clk3 (stR (s.l.take (i + 1))); rw [stR_take hlt, hR]; simpa using hm3, by show TMap es2 clk2 (stW (s.l.take (i + 1))); rw [stW_take hlt, hW]; simpa using hm2⟩, ?_⟩
              rw [wrap_i64_of _ (by omega) (by omega), ofNat_succ']
              refine Keeps.easeP (t := [.cells #[.slice none 0 0, .slice none 0 0] 0 true, .map 54 es3 clk3, .map 54 es2 clk2]) (oren_st hm3 hm2) ?_
              repeat (first | exact Keeps.nil | refine Keeps.junk _ ?_ | refine Keeps.keep (by first | exact .plain _ rfl | exact (Tree.slV tree_encEv _).ren | exact .ptr _ _ _ (by simp) rfl | exact .map _ _ (by simp <;> omega) rfl) ?_)
            · have hW : evW s.l[i] = [selfOf s.l[i], otherOf s.l[i]] := by simp [evW, hf0, hop, hz]
              have hd : decide (s.l[i].value = zeroW) = false := decide_eq_false hz
              simp (implicitDefEqProofs := false) (maxSteps := 2000000) only [go_sem, Nat.reduceAdd, Nat.reduceSub, Nat.reduceMul, Nat.reduceLT, Nat.reduceLeDiff, Nat.reduceEqDiff, Nat.reduceBEq, Nat.reduceBNe, Nat.reducePow, Int.reduceBEq, Int.reduceBNe, Int.reduceEq, Int.reduceLT, Int.reduceLE, Int.reduceNeg, Int.reduceToNat, Int.reduceMul, Int.reduceAdd, Int.reduceSub, Int.reducePow, Int.reduceFDiv, reduceCtorEq, reduceIte, hv3, q84, q85, q49, q59, q60, q63, q71, q240, q245, q255, q241, q242, q244, q250, size_zeros, size_blit, length_encWord, zeros_two, zeroW_enc, hd]
              refine astep_calls (put2_calls (selfOf s.l[i]) (otherOf s.l[i]) hm2 (m := h.length + 2) (b := h.length + 8) ?_ ?_ ?_) ?_
              · exact at_new _ _ 2
              · exact at_new _ _ 8
              · omega
              rintro v4 H4 ⟨es4, clk4, hm4, hv4, hH4⟩
              subst hH4
              simp (implicitDefEqProofs := false) (maxSteps := 2000000) only [go_sem, Nat.reduceAdd, Nat.reduceSub, Nat.reduceMul, Nat.reduceLT, Nat.reduceLeDiff, Nat.reduceEqDiff, Nat.reduceBEq, Nat.reduceBNe, Nat.reducePow, Int.reduceBEq, Int.reduceBNe, Int.reduceEq, Int.reduceLT, Int.reduceLE, Int.reduceNeg, Int.reduceToNat, Int.reduceMul, Int.reduceAdd, Int.reduceSub, Int.reducePow, Int.reduceFDiv, reduceCtorEq, reduceIte, hv4, q84, q85, q49, q59, q60, q63, q71, q240, q245, q255, q241, q242, q244, q250]
              refine ⟨(i + 1, (es3, clk3), (es4, clk4)), by show s.l.length - (i + 1) < s.l.length - i; omega, ⟨by show i + 1 ≤ _; omega, by show TMap es3 clk3 (stR (s.l.take (i + 1))); rw [stR_take hlt, hR]; simpa using hm3, by show TMap es4 clk4 (stW (s.l.take (i + 1))); rw [stW_take hlt, hW]; simpa using hm4⟩, ?_⟩
              rw [wrap_i64_of _ (by omega) (by omega), ofNat_succ']
              refine Keeps.easeP (t := [.cells #[.slice none 0 0, .slice none 0 0] 0 true, .map 54 es3 clk3, .map 54 es4 clk4]) (oren_st hm3 hm4) ?_
              repeat (first | exact Keeps.nil | refine Keeps.junk _ ?_ | refine Keeps.keep (by first | exact .plain _ rfl | exact (Tree.slV tree_encEv _).ren | exact .ptr _ _ _ (by simp) rfl | exact .map _ _ (by simp <;> omega) rfl) ?_)
        by_cases n250 : s.l[i].op = 250
        · have hop := n250
          as_aux_lemma =>
            have q84 : (((s.l[i].op.toNat : Nat) : Int) == 84) = false := by rw [hop]; rfl
            have q85 : (((s.l[i].op.toNat : Nat) : Int) == 85) = false := by rw [hop]; rfl
            have q49 : (((s.l[i].op.toNat : Nat) : Int) == 49) = false := by rw [hop]; rfl
            have q59 : (((s.l[i].op.toNat : Nat) : Int) == 59) = false := by rw [hop]; rfl
            have q60 : (((s.l[i].op.toNat : Nat) : Int) == 60) = false := by rw [hop]; rfl
            have q63 : (((s.l[i].op.toNat : Nat) : Int) == 63) = false := by rw [hop]; rfl
            have q71 : (((s.l[i].op.toNat : Nat) : Int) == 71) = false := by rw [hop]; rfl
            have q240 : (((s.l[i].op.toNat : Nat) : Int) == 240) = false := by rw [hop]; rfl
            have q245 : (((s.l[i].op.toNat : Nat) : Int) == 245) = false := by rw [hop]; rfl
            have q255 : (((s.l[i].op.toNat : Nat) : Int) == 255) = false := by rw [hop]; rfl
            have q241 : (((s.l[i].op.toNat : Nat) : Int) == 241) = false := by rw [hop]; rfl
            have q242 : (((s.l[i].op.toNat : Nat) : Int) == 242) = false := by rw [hop]; rfl
            have q244 : (((s.l[i].op.toNat : Nat) : Int) == 244) = false := by rw [hop]; rfl
            have q250 : (((s.l[i].op.toNat : Nat) : Int) == 250) = true := by rw [hop]; rfl
            have hR : evR s.l[i] = [otherOf s.l[i]] := by simp [evR, hf0, hop]
            simp (implicitDefEqProofs := false) (maxSteps := 2000000) only [go_sem, Nat.reduceAdd, Nat.reduceSub, Nat.reduceMul, Nat.reduceLT, Nat.reduceLeDiff, Nat.reduceEqDiff, Nat.reduceBEq, Nat.reduceBNe, Nat.reducePow, Int.reduceBEq, Int.reduceBNe, Int.reduceEq, Int.reduceLT, Int.reduceLE, Int.reduceNeg, Int.reduceToNat, Int.reduceMul, Int.reduceAdd, Int.reduceSub, Int.reducePow, Int.reduceFDiv, reduceCtorEq, reduceIte, q84, q85, q49, q59, q60, q63, q71, q240, q245, q255, q241, q242, q244, q250, size_zeros, size_blit, length_encWord, zeros_two]
            refine astep_calls (put1_calls (otherOf s.l[i]) hm1 (m := h.length + 1) (b := h.length + 7) ?_ ?_) ?_
            · exact at_new _ _ 1
            · exact at_new _ _ 7
            rintro v3 H3 ⟨es3, clk3, hm3, hv3, hH3⟩
            subst hH3
            by_cases hz : s.l[i].value = zeroW
            · have hW : evW s.l[i] = [] := by simp [evW, hf0, hop, hz]
              have hd : decide (s.l[i].value = zeroW) = true := decide_eq_true hz
              simp (implicitDefEqProofs := false) (maxSteps := 2000000) only [go_sem, Nat.reduceAdd, Nat.reduceSub, Nat.reduceMul, Nat.reduceLT, Nat.reduceLeDiff, Nat.reduceEqDiff, Nat.reduceBEq, Nat.reduceBNe, Nat.reducePow, Int.reduceBEq, Int.reduceBNe, Int.reduceEq, Int.reduceLT, Int.reduceLE, Int.reduceNeg, Int.reduceToNat, Int.reduceMul, Int.reduceAdd, Int.reduceSub, Int.reducePow, Int.reduceFDiv, reduceCtorEq, reduceIte, hv3, q84, q85, q49, q59, q60, q63, q71, q240, q245, q255, q241, q242, q244, q250, length_encWord, zeroW_enc, hd]
              refine ⟨(i + 1, (es3, clk3), (es2, clk2)), by show s.l.length - (i + 1) < s.l.length - i; omega, ⟨by show i + 1 ≤ _; omega, by show TMap es3 clk3 (stR (s.l.take (i + 1))); rw [stR_take hlt, hR]; simpa using hm3, by show TMap es2 clk2 (stW (s.l.take (i + 1))); rw [stW_take hlt, hW]; simpa using hm2⟩, ?_⟩
              rw [wrap_i64_of _ (by omega) (by omega), ofNat_succ']
              refine Keeps.easeP (t := [.cells #[.slice none 0 0, .slice none 0 0] 0 true, .map 54 es3 clk3, .map 54 es2 clk2]) (oren_st hm3 hm2) ?_
              repeat (first | exact Keeps.nil | refine Keeps.junk _ ?_ | refine Keeps.keep (by first | exact .plain _ rfl | exact (Tree.slV tree_encEv _).ren | exact .ptr _ _ _ (by simp) rfl | exact .map _ _ (by simp <;> omega) rfl) ?_)
            · have hW : evW s.l[i] = [selfOf s.l[i], otherOf s.l[i]] := by simp [evW, hf0, hop, hz]
              have hd : decide (s.l[i].value = zeroW) = false := decide_eq_false hz
              simp (implicitDefEqProofs := false) (maxSteps := 2000000) only [go_sem, Nat.reduceAdd, Nat.reduceSub, Nat.reduceMul, Nat.reduceLT, Nat.reduceLeDiff, Nat.reduceEqDiff, Nat.reduceBEq, Nat.reduceBNe, Nat.reducePow, Int.reduceBEq, Int.reduceBNe, Int.reduceEq, Int.reduceLT, Int.reduceLE, Int.reduceNeg, Int.reduceToNat, Int.reduceMul, Int.reduceAdd, Int.reduceSub, Int.reducePow, Int.reduceFDiv, reduceCtorEq, reduceIte, hv3, q84, q85, q49, q59, q60, q63, q71, q240, q245, q255, q241, q242, q244, q250, size_zeros, size_blit, length_encWord, zeros_two, zeroW_enc, hd]
              refine astep_calls (put2_calls (selfOf s.l[i]) (otherOf s.l[i]) hm2 (m := h.length + 2) (b := h.length + 8) ?_ ?_ ?_) ?_
              · exact at_new _ _ 2
              · exact at_new _ _ 8
              · omega
              rintro v4 H4 ⟨es4, clk4, hm4, hv4, hH4⟩
              subst hH4
              simp (implicitDefEqProofs := false) (maxSteps := 2000000) only [go_sem, Nat.reduceAdd, Nat.reduceSub, Nat.reduceMul, Nat.reduceLT, Nat.reduceLeDiff, Nat.reduceEqDiff, Nat.reduceBEq, Nat.reduceBNe, Nat.reducePow, Int.reduceBEq, Int.reduceBNe, Int.reduceEq, Int.reduceLT, Int.reduceLE, Int.reduceNeg, Int.reduceToNat, Int.reduceMul, Int.reduceAdd, Int.reduceSub, Int.reducePow, Int.reduceFDiv, reduceCtorEq, reduceIte, hv4, q84, q85, q49, q59, q60, q63, q71, q240, q245, q255, q241, q242, q244, q250]
              refine ⟨(i + 1, (es3, clk3), (es4, clk4)), by show s.l.length - (i + 1) < s.l.length - i; omega, ⟨by show i + 1 ≤ _; omega, by show TMap es3 clk3 (stR (s.l.take (i + 1))); rw [stR_take hlt, hR]; simpa using hm3, by show TMap es4 clk4 (stW (s.l.take (i + 1))); rw [stW_take hlt, hW]; simpa using hm4⟩, ?_⟩
              rw [wrap_i64_of _ (by omega) (by omega), ofNat_succ']
              refine Keeps.easeP (t := [.cells #[.slice none 0 0, .slice none 0 0] 0 true, .map 54 es3 clk3, .map 54 es4 clk4]) (oren_st hm3 hm4) ?_
              repeat (first | exact Keeps.nil | refine Keeps.junk _ ?_ | refine Keeps.keep (by first | exact .plain _ rfl | exact (Tree.slV tree_encEv _).ren | exact .ptr _ _ _ (by simp) rfl | exact .map _ _ (by simp <;> omega) rfl) ?_)
        as_aux_lemma =>
          have q84 : (((s.l[i].op.toNat : Nat) : Int) == 84) = false := op_ne (k := 84) (by decide) n84
          have q85 : (((s.l[i].op.toNat : Nat) : Int) == 85) = false := op_ne (k := 85) (by decide) n85
          have q49 : (((s.l[i].op.toNat : Nat) : Int) == 49) = false := op_ne (k := 49) (by decide) n49
          have q59 : (((s.l[i].op.toNat : Nat) : Int) == 59) = false := op_ne (k := 59) (by decide) n59
          have q60 : (((s.l[i].op.toNat : Nat) : Int) == 60) = false := op_ne (k := 60) (by decide) n60
          have q63 : (((s.l[i].op.toNat : Nat) : Int) == 63) = false := op_ne (k := 63) (by decide) n63
          have q71 : (((s.l[i].op.toNat : Nat) : Int) == 71) = false := op_ne (k := 71) (by decide) n71
          have q240 : (((s.l[i].op.toNat : Nat) : Int) == 240) = false := op_ne (k := 240) (by decide) n240
          have q245 : (((s.l[i].op.toNat : Nat) : Int) == 245) = false := op_ne (k := 245) (by decide) n245
          have q255 : (((s.l[i].op.toNat : Nat) : Int) == 255) = false := op_ne (k := 255) (by decide) n255
          have q241 : (((s.l[i].op.toNat : Nat) : Int) == 241) = false := op_ne (k := 241) (by decide) n241
          have q242 : (((s.l[i].op.toNat : Nat) : Int) == 242) = false := op_ne (k := 242) (by decide) n242
          have q244 : (((s.l[i].op.toNat : Nat) : Int) == 244) = false := op_ne (k := 244) (by decide) n244
          have q250 : (((s.l[i].op.toNat : Nat) : Int) == 250) = false := op_ne (k := 250) (by decide) n250
          have hR : evR s.l[i] = [] := by simp [evR, hf0, n84, n85, n49, n59, n60, n63, n71, n240, n245, n255, n241, n242, n244, n250]
          have hW : evW s.l[i] = [] := by simp [evW, hf0, n84, n85, n49, n59, n60, n63, n71, n240, n245, n255, n241, n242, n244, n250]
          simp (implicitDefEqProofs := false) (maxSteps := 2000000) only [go_sem, Nat.reduceAdd, Nat.reduceSub, Nat.reduceMul, Nat.reduceLT, Nat.reduceLeDiff, Nat.reduceEqDiff, Nat.reduceBEq, Nat.reduceBNe, Nat.reducePow, Int.reduceBEq, Int.reduceBNe, Int.reduceEq, Int.reduceLT, Int.reduceLE, Int.reduceNeg, Int.reduceToNat, Int.reduceMul, Int.reduceAdd, Int.reduceSub, Int.reducePow, Int.reduceFDiv, reduceCtorEq, reduceIte, q84, q85, q49, q59, q60, q63, q71, q240, q245, q255, q241, q242, q244, q250, size_zeros, size_blit, length_encWord, zeros_two]
          refine ⟨(i + 1, (es1, clk1), (es2, clk2)), by show s.l.length - (i + 1) < s.l.length - i; omega, ⟨by show i + 1 ≤ _; omega, by show TMap es1 clk1 (stR (s.l.take (i + 1))); rw [stR_take hlt, hR]; simpa using hm1, by show TMap es2 clk2 (stW (s.l.take (i + 1))); rw [stW_take hlt, hW]; simpa using hm2⟩, ?_⟩
          rw [wrap_i64_of _ (by omega) (by omega), ofNat_succ']
          refine Keeps.easeP (t := [.cells #[.slice none 0 0, .slice none 0 0] 0 true, .map 54 es1 clk1, .map 54 es2 clk2]) (oren_st hm1 hm2) ?_
          repeat (first | exact Keeps.nil | refine Keeps.junk _ ?_ | refine Keeps.keep (by first | exact .plain _ rfl | exact (Tree.slV tree_encEv _).ren | exact .ptr _ _ _ (by simp) rfl | exact .map _ _ (by simp <;> omega) rfl) ?_)
    · simp (implicitDefEqProofs := false) (maxSteps := 2000000) only [go_sem, Nat.reduceAdd, Nat.reduceSub, Nat.reduceMul, Nat.reduceLT, Nat.reduceLeDiff, Nat.reduceEqDiff, Nat.reduceBEq, Nat.reduceBNe, Nat.reducePow, Int.reduceBEq, Int.reduceBNe, Int.reduceEq, Int.reduceLT, Int.reduceLE, Int.reduceNeg, Int.reduceToNat, Int.reduceMul, Int.reduceAdd, Int.reduceSub, Int.reducePow, Int.reduceFDiv, reduceCtorEq, reduceIte, hlt]
      have hie : i = s.l.length := by omega
      subst hie
      rw [List.take_length] at hm1 hm2
      obtain ⟨k1, k2, k3, k4⟩ := hm1.keysRise (M := stR s.l) (fun x => by unfold memF; split <;> simp [*])
      obtain ⟨k1', k2', k3', k4'⟩ := hm2.keysRise (M := stW s.l) (fun x => by unfold memF; split <;> simp [*])
      have lR := len_stR s.l
      have lW := len_stW s.l
      refine astep_call (keysT_calls (h.length + 1) _ (by simp)) ?_
      simp (implicitDefEqProofs := false) (maxSteps := 2000000) only [go_sem, Nat.reduceAdd, Nat.reduceSub, Nat.reduceMul, Nat.reduceLT, Nat.reduceLeDiff, Nat.reduceEqDiff, Nat.reduceBEq, Nat.reduceBNe, Nat.reducePow, Int.reduceBEq, Int.reduceBNe, Int.reduceEq, Int.reduceLT, Int.reduceLE, Int.reduceNeg, Int.reduceToNat, Int.reduceMul, Int.reduceAdd, Int.reduceSub, Int.reducePow, Int.reduceFDiv, reduceCtorEq, reduceIte]
      refine astep_call (sorted_calls 42 25 (by kernel_rfl) (by kernel_rfl) tcompare_calls laidP (bx := h.length + 3) (b := h.length + 1) (at_new _ _ 3) (at_new _ _ 1) (by omega) k1 k2 (fun hh e1 e2 => keysT_it e1 e2 hm1.ok k1) (rises_rise _) k3) ?_
      simp (implicitDefEqProofs := false) (maxSteps := 2000000) only [go_sem, Nat.reduceAdd, Nat.reduceSub, Nat.reduceMul, Nat.reduceLT, Nat.reduceLeDiff, Nat.reduceEqDiff, Nat.reduceBEq, Nat.reduceBNe, Nat.reducePow, Int.reduceBEq, Int.reduceBNe, Int.reduceEq, Int.reduceLT, Int.reduceLE, Int.reduceNeg, Int.reduceToNat, Int.reduceMul, Int.reduceAdd, Int.reduceSub, Int.reducePow, Int.reduceFDiv, reduceCtorEq, reduceIte]
      refine astep_call (keysT_calls (h.length + 2) _ (by simp)) ?_
      simp (implicitDefEqProofs := false) (maxSteps := 2000000) only [go_sem, Nat.reduceAdd, Nat.reduceSub, Nat.reduceMul, Nat.reduceLT, Nat.reduceLeDiff, Nat.reduceEqDiff, Nat.reduceBEq, Nat.reduceBNe, Nat.reducePow, Int.reduceBEq, Int.reduceBNe, Int.reduceEq, Int.reduceLT, Int.reduceLE, Int.reduceNeg, Int.reduceToNat, Int.reduceMul, Int.reduceAdd, Int.reduceSub, Int.reducePow, Int.reduceFDiv, reduceCtorEq, reduceIte]
      refine astep_call (sorted_calls 42 25 (by kernel_rfl) (by kernel_rfl) tcompare_calls laidP (bx := h.length + 4) (b := h.length + 2) (at_new _ _ 4) (at_new _ _ 2) (by omega) k1' k2' (fun hh e1 e2 => keysT_it e1 e2 hm2.ok k1') (rises_rise _) k3') ?_
      simp (implicitDefEqProofs := false) (maxSteps := 2000000) only [go_sem, Nat.reduceAdd, Nat.reduceSub, Nat.reduceMul, Nat.reduceLT, Nat.reduceLeDiff, Nat.reduceEqDiff, Nat.reduceBEq, Nat.reduceBNe, Nat.reducePow, Int.reduceBEq, Int.reduceBNe, Int.reduceEq, Int.reduceLT, Int.reduceLE, Int.reduceNeg, Int.reduceToNat, Int.reduceMul, Int.reduceAdd, Int.reduceSub, Int.reducePow, Int.reduceFDiv, reduceCtorEq, reduceIte]
      refine apost_tree (v := .agg #[slV encPl (Sl.app (rise (stR s.l))), slV encPl (Sl.app (rise (stW s.l)))]) (by rw [aresults_cell rfl, getD_lit]; simp (implicitDefEqProofs := false) (maxSteps := 2000000) only [go_sem, Nat.reduceAdd, Nat.reduceSub, Nat.reduceMul, Nat.reduceLT, Nat.reduceLeDiff, Nat.reduceEqDiff, Nat.reduceBEq, Nat.reduceBNe, Nat.reducePow, Int.reduceBEq, Int.reduceBNe, Int.reduceEq, Int.reduceLT, Int.reduceLE, Int.reduceNeg, Int.reduceToNat, Int.reduceMul, Int.reduceAdd, Int.reduceSub, Int.reducePow, Int.reduceFDiv, reduceCtorEq, reduceIte]) (keeps_append _ _) (.same _) (Tree.aggL (l := [_, _]) fun v hv => ?_) ⟨rfl, rfl⟩
      simp only [List.mem_cons, List.not_mem_nil, or_false] at hv
      rcases hv with rfl | rfl <;> exact .slV tree_encPl _
end Go.Proofs
