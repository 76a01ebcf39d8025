import Derived.Test.YtchknbminoipiaaRepC
set_option linter.unusedSimpArgs false
set_option linter.unusedVariables false
namespace Go.Proofs
open Go Go.Am

theorem fame_part (xs : List Int) (hx : xs.length = 20) (s i : Int) : pureRun Try.prog (part 24 (fame (xs.map (Value.int .u8)).toArray s i) 0) = some (.agg (xs.map (Value.int .u8)).toArray) := by
  obtain ⟨j, hj, hs⟩ : ∃ j, Try.prog.info? 24 = some j ∧ j.size = 20 := by
    obtain ⟨j, hj⟩ : ∃ j, Try.prog.info? 24 = some j := ⟨_, rfl⟩
    have : (Try.prog.info? 24).map (·.size) = some 20 := by kernel_rfl
    rw [hj] at this
    exact ⟨j, hj, Option.some.inj this⟩
  rw [pure_partA (d := .bool) Try.underlying24 hj, hs]
  rw [Nat.zero_add, fame_addr (by simp [hx])]
theorem addr_self (d : Nat) (xs : List Int) (hx : xs.length = 20) : pureRun Try.prog (Op.equalIn (d + 2) 24 (.agg (xs.map (Value.int .u8)).toArray) (.agg (xs.map (Value.int .u8)).toArray)) = some true := by
  obtain ⟨e, i, h1, h2, h3, h4, h5⟩ := rowK_spec Try.rowK24
  rw [pure_equalIn_ints d h1 h2 h3 h4 xs xs hx hx, beq_self_eq_true]
theorem fame_run (d : Nat) (xs : List Int) (hx : xs.length = 20) (s i : Int) : pureRun Try.prog (Op.equalIn (d + 3) 30 (.agg (fame (xs.map (Value.int .u8)).toArray s i)) (.agg (fame (xs.map (Value.int .u8)).toArray s i))) = some true := by
  have hA : ((xs.map (Value.int .u8)).toArray).size = 20 := by simp [hx]
  have hp1 : pureRun Try.prog (part 27 (fame (xs.map (Value.int .u8)).toArray s i) 20) = some (.int .u64 s) := pure_part Try.underlying27 (fame_seen hA)
  have hp2 : pureRun Try.prog (part 27 (fame (xs.map (Value.int .u8)).toArray s i) 21) = some (.int .u64 i) := pure_part Try.underlying27 (fame_incl hA)
  have hst : Try.prog.stoodInHeld 30 = false := by kernel_rfl
  rw [Op.equalIn, pureRun_bind _ _ (pure_underlying Try.underlying30)]
  simp only
  rw [pureRun_bind _ _ (show pureRun Try.prog program = some Try.prog from rfl)]
  simp only [hst, Bool.false_eq_true, if_false, List.forIn_toArray, List.forIn_cons, List.forIn_nil, bind_assoc, pure_bind]
  have n1 : ("Addr" ≠ "_") := by decide
  have n2 : ("Seen" ≠ "_") := by decide
  have n3 : ("Included" ≠ "_") := by decide
  simp only [if_pos n1, if_pos n2, if_pos n3, bind_assoc, pure_bind]
  rw [pureRun_bind _ _ (fame_part xs hx s i), pureRun_bind _ _ (fame_part xs hx s i), pureRun_bind _ _ (addr_self (d) xs hx)]
  simp only [Bool.not_true, Bool.false_eq_true, if_false, bind_assoc, pure_bind]
  rw [pureRun_bind _ _ hp1, pureRun_bind _ _ hp1, pureRun_bind _ _ (pure_equalIn_int (d + 1) Try.underlying27 s s)]
  simp only [beq_self_eq_true, Bool.not_true, Bool.false_eq_true, if_false, bind_assoc, pure_bind]
  rw [pureRun_bind _ _ hp2, pureRun_bind _ _ hp2, pureRun_bind _ _ (pure_equalIn_int (d + 1) Try.underlying27 i i)]
  simp only [beq_self_eq_true, Bool.not_true, Bool.false_eq_true, if_false, bind_assoc, pure_bind]
  rfl
theorem fame_eq {x y : Operand} (xs : List Int) (hx : xs.length = 20) (s i : Int) : abinOp Try.prog .eql 30 x y (.agg (fame (xs.map (Value.int .u8)).toArray s i)) (.agg (fame (xs.map (Value.int .u8)).toArray s i)) = some (.bool true) := by
  have hp : plainB (.agg (fame (xs.map (Value.int .u8)).toArray s i)) = true := by
    show (fame (xs.map (Value.int .u8)).toArray s i).all plain1 = true
    refine fame_plain ?_
    simp [isByte]
  have hg : Try.prog.eqGuardType Try.prog.depth 30 = false := by kernel_rfl
  have hE : pureRun Try.prog (Op.equal 30 (.agg (fame (xs.map (Value.int .u8)).toArray s i)) (.agg (fame (xs.map (Value.int .u8)).toArray s i))) = some true := fame_run 9997 xs hx s i
  have hG : pureRun Try.prog (eqGuard .eql 30 x y (.agg (fame (xs.map (Value.int .u8)).toArray s i)) (.agg (fame (xs.map (Value.int .u8)).toArray s i))) = some () := by
    have key : pureRun Try.prog (if (!Try.prog.eqGuardType Try.prog.depth 30) = true then pure () else (do
        if (← Op.eqGuardIn Op.maxDepth 30 (.agg (fame (xs.map (Value.int .u8)).toArray s i)) (.agg (fame (xs.map (Value.int .u8)).toArray s i))) = true then unsupported (.noEntry "binop/eql: two nil values of an interface type with methods, in a part of a struct or an array") else pure ())) = some () := by
      rw [hg]; rfl
    exact key
  have e1 : abinOp Try.prog .eql 30 x y (.agg (fame (xs.map (Value.int .u8)).toArray s i)) (.agg (fame (xs.map (Value.int .u8)).toArray s i)) = plainOut (pureRun Try.prog (do eqGuard .eql 30 x y (.agg (fame (xs.map (Value.int .u8)).toArray s i)) (.agg (fame (xs.map (Value.int .u8)).toArray s i)); binOp .eql 30 (.agg (fame (xs.map (Value.int .u8)).toArray s i)) (.agg (fame (xs.map (Value.int .u8)).toArray s i)))) := by
    unfold abinOp
    simp only [hp, Bool.and_self, if_true]
  rw [e1, pureRun_bind _ _ hG]
  show plainOut (pureRun Try.prog (Op.equal 30 _ _ >>= fun r => pure (Value.bool r))) = _
  rw [pureRun_bind _ _ hE]; rfl
end Go.Proofs
