import Derived.Test.YtihdilnanhjedaaFacts
import Derived.Test.YtihdilnanhjedaaAm55x
set_option linter.unusedSimpArgs false
set_option linter.unusedVariables false
set_option maxRecDepth 100000
/- places: what comes in; keys; equality -/
namespace Go.Proofs
open Go Go.Am

theorem flatPl : flat Try.prog 8 54 = some (List.replicate 20 5 ++ ([4] ++ List.replicate 4 34)) := by kernel_rfl
theorem decsPl : Decs Try.prog (List.replicate 20 5 ++ ([4] ++ List.replicate 4 34)) encPl (fun _ => True) :=
  (((Decs.u8 Try.underlying5).vec 20).append ((Decs.bool Try.underlying4).append ((Decs.u64 Try.underlying34).vec 4))).to (fun p => ⟨p.1, p.2.1, p.2.2⟩) (fun p => rfl) (fun _ _ => trivial)
theorem litAddr (a : Addr20) : litCells Try.prog (List.replicate 20 5) (encAddr a) = true := by
  have : ∀ (n : Nat) (l : List UInt8), l.length = n → litCells Try.prog (List.replicate n 5) (l.map fun b => Value.int .u8 b.toNat) = true := by
    intro n
    induction n with
    | zero => intro l h; rw [List.length_eq_zero_iff.1 h]; rfl
    | succ n ih =>
      intro l h
      match l, h with
      | b :: l, h =>
        simp only [List.replicate_succ, List.map_cons, litCells, litCell, Try.underlying5, ih l (by simpa using h), Bool.and_true]
        have := b.toNat_lt
        simp [Lit.wf, IntKind.min, IntKind.max, IntKind.signed, IntKind.bits]; omega
  exact this 20 a.toList (by simp)
theorem litWord (a : Word4) : litCells Try.prog (List.replicate 4 34) (encWord a) = true := by
  have : ∀ (n : Nat) (l : List UInt64), l.length = n → litCells Try.prog (List.replicate n 34) (l.map fun b => Value.int .u64 b.toNat) = true := by
    intro n
    induction n with
    | zero => intro l h; rw [List.length_eq_zero_iff.1 h]; rfl
    | succ n ih =>
      intro l h
      match l, h with
      | b :: l, h =>
        simp only [List.replicate_succ, List.map_cons, litCells, litCell, Try.underlying34, ih l (by simpa using h), Bool.and_true]
        have := b.toNat_lt
        simp [Lit.wf, IntKind.min, IntKind.max, IntKind.signed, IntKind.bits]; omega
  exact this 4 a.toList (by simp)
theorem keyedPl (p : Pl) : keyed Try.prog 54 (.agg (encPl p).toArray) = true := by
  unfold keyed
  rw [Try.underlying54]
  simp only [flatPl]
  show litCells _ _ (encAddr p.addr ++ ([Value.bool p.whole] ++ encWord p.key)) = true
  rw [litCells_append (by simp [length_encAddr]), litCells_append (by simp)]
  exact ⟨litAddr _, by simp [litCells, litCell, Try.underlying4], litWord _⟩
attribute [go_sem] keyedPl

/-! equality -/
theorem pl_partA (p : Pl) : pureRun Try.prog (part 33 (encPl p).toArray 0) = some (.agg (encAddr p.addr).toArray) := by
  obtain ⟨j, hj, hs⟩ : ∃ j, Try.prog.info? 33 = some j ∧ j.size = 20 := by
    obtain ⟨j, hj⟩ : ∃ j, Try.prog.info? 33 = some j := ⟨_, rfl⟩
    have : (Try.prog.info? 33).map (·.size) = some 20 := by kernel_rfl
    rw [hj] at this
    exact ⟨j, hj, Option.some.inj this⟩
  rw [pure_partA (d := .bool) Try.underlying33 hj, hs, Nat.zero_add, pl_addr]
theorem pl_partW (p : Pl) : pureRun Try.prog (part 36 (encPl p).toArray 21) = some (.agg (encWord p.key).toArray) := by
  obtain ⟨j, hj, hs⟩ : ∃ j, Try.prog.info? 36 = some j ∧ j.size = 4 := by
    obtain ⟨j, hj⟩ : ∃ j, Try.prog.info? 36 = some j := ⟨_, rfl⟩
    have : (Try.prog.info? 36).map (·.size) = some 4 := by kernel_rfl
    rw [hj] at this
    exact ⟨j, hj, Option.some.inj this⟩
  rw [pure_partA (d := .bool) Try.underlying36 hj, hs, pl_key]
theorem pl_partB (p : Pl) : pureRun Try.prog (part 4 (encPl p).toArray 20) = some (.bool p.whole) := by
  have : pureRun Try.prog (isAgg 4) = some false := by
    unfold isAgg
    rw [pureRun_bind _ _ (pure_underlying Try.underlying4)]; rfl
  unfold part
  rw [pureRun_bind _ _ this]
  simp only [Bool.false_eq_true, if_false, List.getElem?_toArray, pl_whole]; rfl
theorem addr_run (d : Nat) (a b : Addr20) : pureRun Try.prog (Op.equalIn (d + 2) 33 (.agg (encAddr a).toArray) (.agg (encAddr b).toArray)) = some (decide (a = b)) := by
  obtain ⟨e, i, h1, h2, h3, h4, h5⟩ := rowK_spec Try.rowK33
  have g : ∀ a : Addr20, encAddr a = (a.toList.map fun b => ((b.toNat : Nat) : Int)).map (Value.int .u8) := fun a => by simp [encAddr]
  rw [g a, g b, pure_equalIn_ints d h1 h2 h3 h4 _ _ (by simp) (by simp)]
  congr 1
  rw [Bool.eq_iff_iff]
  simp only [beq_iff_eq, decide_eq_true_eq]
  constructor
  · intro h; exact encAddr_inj (by rw [g a, g b, h])
  · intro h; rw [h]
theorem word_run (d : Nat) (a b : Word4) : pureRun Try.prog (Op.equalIn (d + 2) 36 (.agg (encWord a).toArray) (.agg (encWord b).toArray)) = some (decide (a = b)) := by
  obtain ⟨e, i, h1, h2, h3, h4, h5⟩ := rowK_spec Try.rowK36
  have g : ∀ a : Word4, encWord a = (a.toList.map fun b => ((b.toNat : Nat) : Int)).map (Value.int .u64) := fun a => by simp [encWord]
  rw [g a, g b, pure_equalIn_ints d h1 h2 h3 h4 _ _ (by simp) (by simp)]
  congr 1
  rw [Bool.eq_iff_iff]
  simp only [beq_iff_eq, decide_eq_true_eq]
  constructor
  · intro h; exact encWord_inj (by rw [g a, g b, h])
  · intro h; rw [h]
theorem bool_run (d : Nat) (a b : Bool) : pureRun Try.prog (Op.equalIn (d + 1) 4 (.bool a) (.bool b)) = some (a == b) := by
  unfold Op.equalIn
  rw [pureRun_bind _ _ (pure_underlying Try.underlying4)]
  rfl
theorem pl_run (d : Nat) (p q : Pl) : pureRun Try.prog (Op.equalIn (d + 3) 54 (.agg (encPl p).toArray) (.agg (encPl q).toArray)) = some (decide (p = q)) := by
  have hst : Try.prog.stoodInHeld 54 = false := by kernel_rfl
  rw [Op.equalIn, pureRun_bind _ _ (pure_underlying Try.underlying54)]
  simp only
  rw [pureRun_bind _ _ (show pureRun Try.prog program = some Try.prog from rfl)]
  simp only [hst, Bool.false_eq_true, if_false, List.forIn_toArray, List.forIn_cons, List.forIn_nil, bind_assoc, pure_bind]
  have n1 : ("Addr" ≠ "_") := by decide
  have n2 : ("Whole" ≠ "_") := by decide
  have n3 : ("Key" ≠ "_") := by decide
  simp only [if_pos n1, if_pos n2, if_pos n3, bind_assoc, pure_bind]
  rw [pureRun_bind _ _ (pl_partA p), pureRun_bind _ _ (pl_partA q), pureRun_bind _ _ (addr_run d p.addr q.addr)]
  by_cases h1 : p.addr = q.addr
  case neg =>
    rw [decide_eq_false h1, decide_eq_false (fun e => h1 (by rw [e]))]
    simp only [Bool.not_false, if_true, bind_assoc, pure_bind]
    rfl
  rw [decide_eq_true h1]
  simp only [Bool.not_true, Bool.false_eq_true, if_false, bind_assoc, pure_bind]
  rw [pureRun_bind _ _ (pl_partB p), pureRun_bind _ _ (pl_partB q), pureRun_bind _ _ (bool_run (d + 1) p.whole q.whole)]
  by_cases h2 : p.whole = q.whole
  case neg =>
    rw [show (p.whole == q.whole) = false by simpa using h2, decide_eq_false (fun e => h2 (by rw [e]))]
    simp only [Bool.not_false, if_true, bind_assoc, pure_bind]
    rfl
  rw [show (p.whole == q.whole) = true by simpa using h2]
  simp only [Bool.not_true, Bool.false_eq_true, if_false, bind_assoc, pure_bind]
  rw [pureRun_bind _ _ (pl_partW p), pureRun_bind _ _ (pl_partW q), pureRun_bind _ _ (word_run d p.key q.key)]
  by_cases h3 : p.key = q.key
  case neg =>
    rw [decide_eq_false h3, decide_eq_false (fun e => h3 (by rw [e]))]
    simp only [Bool.not_false, if_true, bind_assoc, pure_bind]
    rfl
  have : p = q := by cases p; cases q; simp only at h1 h2 h3; rw [h1, h2, h3]
  rw [decide_eq_true h3, decide_eq_true this]
  simp only [Bool.not_true, Bool.false_eq_true, if_false, bind_assoc, pure_bind]
  rfl
theorem plainB_pl (p : Pl) : plainB (.agg (encPl p).toArray) = true := by
  show (encPl p).toArray.all plain1 = true
  simp only [List.all_toArray, List.all_eq_true]
  exact plain_encPl p
theorem pl_guard (op : BinOp) {x y : Operand} (p q : Pl) : pureRun Try.prog (eqGuard op 54 x y (.agg (encPl p).toArray) (.agg (encPl q).toArray)) = some () := by
  have hg : Try.prog.eqGuardType Try.prog.depth 54 = false := by kernel_rfl
  have key : pureRun Try.prog (if (!Try.prog.eqGuardType Try.prog.depth 54) = true then pure () else (do
      if (← Op.eqGuardIn Op.maxDepth 54 (.agg (encPl p).toArray) (.agg (encPl q).toArray)) = true then unsupported (.noEntry "binop/eql: two nil values of an interface type with methods, in a part of a struct or an array") else pure ())) = some () := by
    rw [hg]; rfl
  cases op <;> first | rfl | exact key
theorem eqlPl {x y : Operand} (p q : Pl) : abinOp Try.prog .eql 54 x y (.agg (encPl p).toArray) (.agg (encPl q).toArray) = some (.bool (decide (p = q))) := by
  have e1 : abinOp Try.prog .eql 54 x y (.agg (encPl p).toArray) (.agg (encPl q).toArray) = plainOut (pureRun Try.prog (do eqGuard .eql 54 x y (.agg (encPl p).toArray) (.agg (encPl q).toArray); binOp .eql 54 (.agg (encPl p).toArray) (.agg (encPl q).toArray))) := by
    unfold abinOp
    simp only [plainB_pl, Bool.and_self, if_true]
  rw [e1, pureRun_bind _ _ (pl_guard _ p q)]
  show plainOut (pureRun Try.prog (Op.equal 54 _ _ >>= fun r => pure (Value.bool r))) = _
  rw [pureRun_bind _ _ (show pureRun Try.prog (Op.equal 54 (.agg (encPl p).toArray) (.agg (encPl q).toArray)) = some (decide (p = q)) from pl_run 9997 p q)]; rfl
theorem neqPl {x y : Operand} (p q : Pl) : abinOp Try.prog .neq 54 x y (.agg (encPl p).toArray) (.agg (encPl q).toArray) = some (.bool (!decide (p = q))) := by
  have e1 : abinOp Try.prog .neq 54 x y (.agg (encPl p).toArray) (.agg (encPl q).toArray) = plainOut (pureRun Try.prog (do eqGuard .neq 54 x y (.agg (encPl p).toArray) (.agg (encPl q).toArray); binOp .neq 54 (.agg (encPl p).toArray) (.agg (encPl q).toArray))) := by
    unfold abinOp
    simp only [plainB_pl, Bool.and_self, if_true]
  rw [e1, pureRun_bind _ _ (pl_guard _ p q)]
  show plainOut (pureRun Try.prog (Op.equal 54 _ _ >>= fun r => pure (Value.bool !r))) = _
  rw [pureRun_bind _ _ (show pureRun Try.prog (Op.equal 54 (.agg (encPl p).toArray) (.agg (encPl q).toArray)) = some (decide (p = q)) from pl_run 9997 p q)]; rfl
attribute [go_sem] eqlPl neqPl
end Go.Proofs
