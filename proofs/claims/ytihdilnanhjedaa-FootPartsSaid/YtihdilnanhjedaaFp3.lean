import Derived.Test.YtihdilnanhjedaaFp2
import Derived.Test.YtihdilnanhjedaaAm55x
set_option linter.unusedSimpArgs false
set_option linter.unusedVariables false
namespace Go.Proofs.Fp
open Go Go.Am Go.Proofs

def encPs (s : Sl Pl) : List Value := [slV encPl s]
theorem tree_encPs (s : Sl Pl) : ∀ v ∈ encPs s, Tree v := by
  intro v hv; simp only [encPs, List.mem_singleton] at hv; subst hv; exact .slV tree_encPl _
theorem length_encPs (s : Sl Pl) : (encPs s).length = 1 := rfl

/-- how often a place stands in a list -/
def cnt (l : List Pl) (x : Pl) : Option Int := if x ∈ l then some (l.count x : Nat) else none
theorem cnt_getD (l : List Pl) (x : Pl) : (cnt l x).getD 0 = (l.count x : Nat) := by
  unfold cnt
  split
  · rfl
  · rw [List.count_eq_zero_of_not_mem ‹_›]; rfl
theorem cnt_snoc (l : List Pl) (x y : Pl) : cnt (l ++ [x]) y = if y = x then some ((l.count x + 1 : Nat) : Int) else cnt l y := by
  unfold cnt
  by_cases h : y = x
  · subst h; simp
  · rw [if_neg h]
    have h2 : ¬ (x == y) = true := by simpa using fun e => h e.symm
    rw [List.count_append, List.count_singleton, if_neg h2]
    by_cases h3 : y ∈ l
    · rw [if_pos (List.mem_append_left _ h3), if_pos h3, Nat.add_zero]
    · rw [if_neg (fun e => by rcases List.mem_append.1 e with e | e; exact h3 e; exact h (List.mem_singleton.1 e)), if_neg h3]

/-- all in one -/
def catS (l : List (Sl Pl)) : List Pl := l.flatMap (·.l)

theorem load_encPs {l : List (Sl Pl)} {i : Nat} (hi : i < l.length) : mkLoadF (flatV encPs l) i (some (false, 1)) = some (slV encPl l[i]) := loadF_one (f := fun s => slV encPl s) hi
attribute [go_sem] load_encPs length_encPs
theorem catS_take {l : List (Sl Pl)} {i : Nat} (hi : i < l.length) : catS (l.take (i + 1)) = catS (l.take i) ++ l[i].l := by
  unfold catS; rw [List.take_add_one, List.getElem?_eq_getElem hi, List.flatMap_append]; simp
theorem catS_part {l : List (Sl Pl)} {i : Nat} (hi : i < l.length) : (catS (l.take i)).length + l[i].l.length ≤ (catS l).length := by
  have h1 : l = l.take (i + 1) ++ l.drop (i + 1) := (List.take_append_drop _ _).symm
  have h2 : catS l = catS (l.take (i + 1)) ++ catS (l.drop (i + 1)) := by unfold catS; rw [← List.flatMap_append, ← h1]
  rw [h2, catS_take hi]; simp
theorem cnt_le (l : List Pl) (x : Pl) : l.count x ≤ l.length := List.count_le_length
theorem cnt_nil : cnt [] = fun _ => none := by funext x; simp [cnt]

theorem CMap.ren {L k : Nat} {es : Array MapEntry} {clk : Nat} {f : Pl → Option Int} (hm : CMap k es clk f) : ORen id L (.map k es clk) (.map k es clk) :=
  treeObj.ren fun e he => by obtain ⟨v, hv⟩ := hm.vals e he; rw [hv]; exact .plain _ rfl
theorem CMap.empty : CMap 54 #[] 0 (cnt []) := by
  rw [cnt_nil]; exact MFun.empty (by kernel_rfl) keyedPl keyPl_inj

abbrev OfSt := Nat × Array MapEntry × Nat
set_option maxRecDepth 10000 in
set_option maxHeartbeats 4000000 in
theorem of_calls (s : Sl (Sl Pl)) (hs : s.l.length < 2 ^ 62) (hc : (catS s.l).length < 2 ^ 62) (h : AH) :
    ACalls Try.prog 36 #[slV encPs s] h (fun v h' => v = .map (some h.length) ∧ ∃ es clk, h' = h ++ [.map 54 es clk] ∧ CMap 54 es clk (cnt (catS s.l))) := by
  have hw : ∃ es clk, CMap 54 es clk (cnt (catS s.l)) := by
    have : ∀ l : List Pl, ∃ es clk, CMap 54 es clk (cnt l) := by
      intro l
      have : ∀ (n : Nat) (l : List Pl), l.length = n → ∃ es clk, CMap 54 es clk (cnt l) := by
        intro n
        induction n with
        | zero => intro l hl; rw [List.length_eq_zero_iff.1 hl]; exact ⟨_, _, CMap.empty⟩
        | succ n ih =>
          intro l hl
          have hne : l ≠ [] := by intro e; subst e; simp at hl
          obtain ⟨es, clk, hm⟩ := ih l.dropLast (by simp [hl])
          have e : l = l.dropLast ++ [l.getLast hne] := (List.dropLast_concat_getLast hne).symm
          generalize l.getLast hne = x at e
          cases hf : cnt l.dropLast x with
          | none =>
            refine ⟨es.push ⟨keyPl x, .int .i64 ((l.dropLast.count x + 1 : Nat) : Int), clk⟩, clk + 1, ?_⟩
            have := hm.push hf ((l.dropLast.count x + 1 : Nat) : Int)
            rw [show cnt l = _ from (congrArg cnt e).trans (funext fun y => cnt_snoc l.dropLast x y)]
            exact this
          | some v =>
            obtain ⟨j, e', h1, h2⟩ := hm.find_some hf
            refine ⟨es.modify j fun e => { e with key := keyPl x, val := .int .i64 ((l.dropLast.count x + 1 : Nat) : Int) }, clk, ?_⟩
            have := hm.modify h1 ((l.dropLast.count x + 1 : Nat) : Int)
            rw [show cnt l = _ from (congrArg cnt e).trans (funext fun y => cnt_snoc l.dropLast x y)]
            exact this
      exact this _ l rfl
    exact this _
  obtain ⟨es0, clk0, hm0⟩ := hw
  refine ACalls.of_ay Try.func36 rfl Try.ntmps36 ⟨_, _, rfl, es0, clk0, rfl, hm0⟩ ?_; simp only [List.length_cons, List.length_nil, Nat.reduceAdd, Nat.reduceSub, List.replicate_succ, List.replicate_zero, List.cons_append, List.nil_append]
  simp (implicitDefEqProofs := false) (maxSteps := 2000000) only [go_sem, Nat.reduceAdd, Nat.reduceSub, Nat.reduceMul, Nat.reduceLT, Nat.reduceLeDiff, Nat.reduceEqDiff, Nat.reduceBEq, Nat.reduceBNe, Nat.reducePow, Int.reduceBEq, Int.reduceBNe, Int.reduceEq, Int.reduceLT, Int.reduceLE, Int.reduceNeg, Int.reduceToNat, Int.reduceMul, Int.reduceAdd, Int.reduceSub, Int.reducePow, Int.reduceFDiv, reduceCtorEq, reduceIte]
  refine AWP.loopI (fun i : OfSt => s.l.length - i.1) (fun i => [junk, junk, junk, .map (some h.length), junk, junk, junk, junk, junk, slV encPs s, .int .i64 (s.l.length : Nat), .int .i64 (i.1 : Nat), junk, junk, junk, junk, junk, junk, junk, junk, junk, junk, junk, junk, junk, junk, junk, junk, junk, junk]) (fun i => h ++ [.map 54 i.2.1 i.2.2]) (fun i => i.1 ≤ s.l.length ∧ CMap 54 i.2.1 i.2.2 (cnt (catS (s.l.take i.1)))) (0, #[], 0) ⟨Nat.zero_le _, CMap.empty⟩ ?_ ?_
  · refine Keeps.easeT (treeObj.ren (by simp [treeObj])) ?_
    repeat (first | exact Keeps.nil | refine Keeps.junk _ ?_ | refine Keeps.keep (by first | exact .plain _ rfl | exact (Tree.slV tree_encPs _).ren | exact .map _ _ (by simp) rfl) ?_)
  · intro i hi
    obtain ⟨i, es, clk⟩ := i
    obtain ⟨hi, hm⟩ := hi
    simp only at hi hm
    by_cases hlt : i < s.l.length
    · have hpart := catS_part hlt
      simp (implicitDefEqProofs := false) (maxSteps := 2000000) only [go_sem, Nat.reduceAdd, Nat.reduceSub, Nat.reduceMul, Nat.reduceLT, Nat.reduceLeDiff, Nat.reduceEqDiff, Nat.reduceBEq, Nat.reduceBNe, Nat.reducePow, Int.reduceBEq, Int.reduceBNe, Int.reduceEq, Int.reduceLT, Int.reduceLE, Int.reduceNeg, Int.reduceToNat, Int.reduceMul, Int.reduceAdd, Int.reduceSub, Int.reducePow, Int.reduceFDiv, reduceCtorEq, reduceIte, hlt]
      refine AWP.loopI (fun j : OfSt => s.l[i].l.length - j.1) (fun j => [junk, junk, junk, .map (some h.length), junk, junk, junk, junk, junk, slV encPs s, .int .i64 (s.l.length : Nat), .int .i64 (i : Nat), junk, junk, junk, slV encPl s.l[i], .int .i64 (s.l[i].l.length : Nat), .int .i64 (j.1 : Nat), junk, junk, junk, junk, junk, junk, junk, junk, junk, junk, junk, junk]) (fun j => h ++ [.map 54 j.2.1 j.2.2]) (fun j => j.1 ≤ s.l[i].l.length ∧ CMap 54 j.2.1 j.2.2 (cnt (catS (s.l.take i) ++ s.l[i].l.take j.1))) (0, es, clk) ⟨Nat.zero_le _, by simpa using hm⟩ ?_ ?_
      · refine Keeps.easeT hm.ren ?_
        repeat (first | exact Keeps.nil | refine Keeps.junk _ ?_ | refine Keeps.keep (by first | exact .plain _ rfl | exact (Tree.slV tree_encPs _).ren | exact (Tree.slV tree_encPl _).ren | exact .map _ _ (by simp) rfl) ?_)
      · intro j hj
        obtain ⟨j, es, clk⟩ := j
        obtain ⟨hj, hm⟩ := hj
        simp only at hj hm
        by_cases hlt2 : j < s.l[i].l.length
        · have hl : lookK false (Value.int IntKind.i64 0) (.agg (encPl s.l[i].l[j]).toArray) es.toList = .int .i64 ((cnt (catS (s.l.take i) ++ s.l[i].l.take j) s.l[i].l[j]).getD 0) := hm.look false 0 _
          rw [cnt_getD] at hl
          have hcl := cnt_le (catS (s.l.take i) ++ s.l[i].l.take j) s.l[i].l[j]
          have hlen : (catS (s.l.take i) ++ s.l[i].l.take j).length < 2 ^ 62 - 1 := by simp [List.length_take]; omega
          have hcs : ∀ y, cnt (catS (s.l.take i) ++ s.l[i].l.take (j + 1)) y = if y = s.l[i].l[j] then some (((catS (s.l.take i) ++ s.l[i].l.take j).count s.l[i].l[j] + 1 : Nat) : Int) else cnt (catS (s.l.take i) ++ s.l[i].l.take j) y := by
            intro y
            rw [← cnt_snoc, List.append_assoc]
            have : s.l[i].l.take (j + 1) = s.l[i].l.take j ++ [s.l[i].l[j]] := by rw [List.take_add_one, List.getElem?_eq_getElem hlt2]; rfl
            rw [this]
          generalize hcnt : (catS (s.l.take i) ++ s.l[i].l.take j).count s.l[i].l[j] = cn at hl hcl hcs
          cases hf : cnt (catS (s.l.take i) ++ s.l[i].l.take j) s.l[i].l[j] with
          | none =>
            have hnf : findK (.agg (encPl s.l[i].l[j]).toArray) es.toList 0 = none := hm.find_none hf
            simp (implicitDefEqProofs := false) (maxSteps := 2000000) only [go_sem, Nat.reduceAdd, Nat.reduceSub, Nat.reduceMul, Nat.reduceLT, Nat.reduceLeDiff, Nat.reduceEqDiff, Nat.reduceBEq, Nat.reduceBNe, Nat.reducePow, Int.reduceBEq, Int.reduceBNe, Int.reduceEq, Int.reduceLT, Int.reduceLE, Int.reduceNeg, Int.reduceToNat, Int.reduceMul, Int.reduceAdd, Int.reduceSub, Int.reducePow, Int.reduceFDiv, reduceCtorEq, reduceIte, hlt2, length_encPl, hl, hnf, blit_list, Array.size_append, Array.size_replicate, store_new' (key := .agg (encPl s.l[i].l[j]).toArray) (z := .int .i64 0) hm.ok]
            refine ⟨by kernel_rfl, by kernel_rfl, .inr ⟨rfl, by decide⟩, .inr ⟨rfl, by decide⟩, ?_⟩
            rw [wrap_i64_of _ (by omega) (by omega), ofNat_succ', wrap_i64_of _ (by omega) (by omega), ofNat_succ']
            have hm2 := hm.push hf ((cn + 1 : Nat) : Int)
            rw [← show _ = _ from funext hcs] at hm2
            refine ⟨(j + 1, _, _), by show s.l[i].l.length - (j + 1) < s.l[i].l.length - j; omega, ⟨by show j + 1 ≤ _; omega, hm2⟩, ?_⟩
            refine Keeps.easeX (CMap.ren hm2) ?_
            repeat (first | exact Keeps.nil | refine Keeps.junk _ ?_ | refine Keeps.keep (by first | exact .plain _ rfl | exact (Tree.slV tree_encPs _).ren | exact (Tree.slV tree_encPl _).ren | exact .map _ _ (by simp) rfl) ?_)
          | some v =>
            obtain ⟨jj, e, hsf0, hev⟩ := hm.find_some hf
            have hsf : findK (.agg (encPl s.l[i].l[j]).toArray) es.toList 0 = some (jj, e) := hsf0
            simp (implicitDefEqProofs := false) (maxSteps := 2000000) only [go_sem, Nat.reduceAdd, Nat.reduceSub, Nat.reduceMul, Nat.reduceLT, Nat.reduceLeDiff, Nat.reduceEqDiff, Nat.reduceBEq, Nat.reduceBNe, Nat.reducePow, Int.reduceBEq, Int.reduceBNe, Int.reduceEq, Int.reduceLT, Int.reduceLE, Int.reduceNeg, Int.reduceToNat, Int.reduceMul, Int.reduceAdd, Int.reduceSub, Int.reducePow, Int.reduceFDiv, reduceCtorEq, reduceIte, hlt2, length_encPl, hl, hsf, blit_list, Array.size_append, Array.size_replicate, store_old' hm.ok (keyedPl _) hsf]
            refine ⟨by kernel_rfl, by kernel_rfl, .inr ⟨rfl, by decide⟩, .inr ⟨rfl, by decide⟩, ?_⟩
            rw [wrap_i64_of _ (by omega) (by omega), ofNat_succ', wrap_i64_of _ (by omega) (by omega), ofNat_succ']
            have hm2 := hm.modify hsf0 ((cn + 1 : Nat) : Int)
            rw [← show _ = _ from funext hcs] at hm2
            refine ⟨(j + 1, _, _), by show s.l[i].l.length - (j + 1) < s.l[i].l.length - j; omega, ⟨by show j + 1 ≤ _; omega, hm2⟩, ?_⟩
            refine Keeps.easeX (CMap.ren hm2) ?_
            repeat (first | exact Keeps.nil | refine Keeps.junk _ ?_ | refine Keeps.keep (by first | exact .plain _ rfl | exact (Tree.slV tree_encPs _).ren | exact (Tree.slV tree_encPl _).ren | exact .map _ _ (by simp) rfl) ?_)
        · simp (implicitDefEqProofs := false) (maxSteps := 2000000) only [go_sem, Nat.reduceAdd, Nat.reduceSub, Nat.reduceMul, Nat.reduceLT, Nat.reduceLeDiff, Nat.reduceEqDiff, Nat.reduceBEq, Nat.reduceBNe, Nat.reducePow, Int.reduceBEq, Int.reduceBNe, Int.reduceEq, Int.reduceLT, Int.reduceLE, Int.reduceNeg, Int.reduceToNat, Int.reduceMul, Int.reduceAdd, Int.reduceSub, Int.reducePow, Int.reduceFDiv, reduceCtorEq, reduceIte, hlt2]
          have hje : j = s.l[i].l.length := by omega
          subst hje
          refine ⟨(i + 1, es, clk), by show s.l.length - (i + 1) < s.l.length - i; omega, ⟨by show i + 1 ≤ _; omega, ?_⟩, ?_⟩
          · show CMap _ es clk (cnt (catS (s.l.take (i + 1))))
            rw [catS_take hlt]; simpa using hm
          · rw [wrap_i64_of _ (by omega) (by omega), ofNat_succ']
            refine Keeps.easeT hm.ren ?_
            repeat (first | exact Keeps.nil | refine Keeps.junk _ ?_ | refine Keeps.keep (by first | exact .plain _ rfl | exact (Tree.slV tree_encPs _).ren | exact .map _ _ (by simp) rfl) ?_)
    · simp (implicitDefEqProofs := false) (maxSteps := 2000000) only [go_sem, Nat.reduceAdd, Nat.reduceSub, Nat.reduceMul, Nat.reduceLT, Nat.reduceLeDiff, Nat.reduceEqDiff, Nat.reduceBEq, Nat.reduceBNe, Nat.reducePow, Int.reduceBEq, Int.reduceBNe, Int.reduceEq, Int.reduceLT, Int.reduceLE, Int.reduceNeg, Int.reduceToNat, Int.reduceMul, Int.reduceAdd, Int.reduceSub, Int.reducePow, Int.reduceFDiv, reduceCtorEq, reduceIte, hlt]
      have hie : i = s.l.length := by omega
      subst hie
      rw [List.take_length] at hm
      exact apost_keep rfl (.map _ _ (by simp) rfl) hm.ren ⟨rfl, _, _, rfl, hm⟩ _ rfl
end Go.Proofs.Fp
