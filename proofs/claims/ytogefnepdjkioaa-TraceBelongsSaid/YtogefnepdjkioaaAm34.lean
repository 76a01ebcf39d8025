import Derived.Test.YtogefnepdjkioaaAm33
set_option linter.unusedVariables false
set_option linter.unusedSimpArgs false
/- Equality of booleans and strings. -/
namespace Go.Am
open Go

section
variable {P : Program} {t : TypeId} {x y : Operand} {d : TypeDesc}

theorem pure_underlying (hu : P.underlying t = some d) : pureRun P (Go.underlying t) = some d := by
  unfold Go.underlying
  show pureRun P (match P.underlying t with | some d => pure d | none => stuck "no such type") = _
  rw [hu]; rfl
theorem pure_equal {a b : Value} {r : Bool} (h : pureRun P (Op.equal t a b) = some r) (hg : eqGuard .eql t x y a b = pure ()) (hb : binOp .eql t a b = (do pure (.bool (← Op.equal t a b)))) :
    pureRun P (do eqGuard .eql t x y a b; binOp .eql t a b) = some (.bool r) := by
  rw [hg, hb]
  show pureRun P (Op.equal t a b >>= fun r => pure (Value.bool r)) = _
  rw [pureRun_bind _ _ h]; rfl
theorem pure_nequal {a b : Value} {r : Bool} (h : pureRun P (Op.equal t a b) = some r) (hg : eqGuard .neq t x y a b = pure ()) (hb : binOp .neq t a b = (do pure (.bool !(← Op.equal t a b)))) :
    pureRun P (do eqGuard .neq t x y a b; binOp .neq t a b) = some (.bool !r) := by
  rw [hg, hb]
  show pureRun P (Op.equal t a b >>= fun r => pure (Value.bool !r)) = _
  rw [pureRun_bind _ _ h]; rfl
theorem equal_bool (hu : P.underlying t = some .bool) (a b : Bool) : pureRun P (Op.equal t (.bool a) (.bool b)) = some (a == b) := by
  have e : Op.equal t (.bool a) (.bool b) = Op.equalIn (9999 + 1) t (.bool a) (.bool b) := rfl
  rw [e]; unfold Op.equalIn
  rw [pureRun_bind _ _ (pure_underlying hu)]; rfl
theorem equal_string (hu : P.underlying t = some .string) (a b : ByteArray) : pureRun P (Op.equal t (.string a) (.string b)) = some (a == b) := by
  have e : Op.equal t (.string a) (.string b) = Op.equalIn (9999 + 1) t (.string a) (.string b) := rfl
  rw [e]; unfold Op.equalIn
  rw [pureRun_bind _ _ (pure_underlying hu)]; rfl
theorem abin_eqlB (hu : P.underlying t = some .bool) (a b : Bool) : abinOp P .eql t x y (.bool a) (.bool b) = some (.bool (a == b)) := by
  show plainOut _ = _
  rw [pure_equal (equal_bool hu a b) rfl rfl]; rfl
theorem abin_neqB (hu : P.underlying t = some .bool) (a b : Bool) : abinOp P .neq t x y (.bool a) (.bool b) = some (.bool (!(a == b))) := by
  show plainOut _ = _
  rw [pure_nequal (equal_bool hu a b) rfl rfl]; rfl
theorem abin_str {op : BinOp} {a b : ByteArray} {r : Value} (h : (do eqGuard op t x y (.string a) (.string b); binOp op t (.string a) (.string b)) = (pure r : Sem Value)) (hr : plainB r = true) (hop : op ≠ .shl ∧ op ≠ .shr) : abinOp P op t x y (.string a) (.string b) = some r := by
  have : abinOp P op t x y (.string a) (.string b) = plainOut (pureRun P (do eqGuard op t x y (.string a) (.string b); binOp op t (.string a) (.string b))) := by
    unfold abinOp
    cases op <;> simp [plainB, plain1]
  rw [this, h]
  show (if plainB r = true then some r else none) = some r
  rw [if_pos hr]
theorem abin_eqlS (a b : ByteArray) : abinOp P .eql t x y (.string a) (.string b) = some (.bool (a.toList == b.toList)) := abin_str rfl rfl (by decide)
theorem abin_neqS (a b : ByteArray) : abinOp P .neq t x y (.string a) (.string b) = some (.bool (!(a.toList == b.toList))) := abin_str rfl rfl (by decide)
theorem abin_addS (a b : ByteArray) (h : ((a.size + b.size : Nat) : Int) ≤ 2 ^ 63 - 1) : abinOp P .add t x y (.string a) (.string b) = some (.string (a ++ b)) := by
  refine abin_str ?_ rfl (by decide)
  show Op.stringOp .add a b = _
  unfold Op.stringOp
  simp only
  rw [if_neg]
  have : IntKind.i64.max = 2 ^ 63 - 1 := by decide
  rw [this]; omega
theorem abin_lssS (a b : ByteArray) : abinOp P .lss t x y (.string a) (.string b) = some (.bool (Op.bytesLess a.toList b.toList)) := abin_str rfl rfl (by decide)
theorem abin_gtrS (a b : ByteArray) : abinOp P .gtr t x y (.string a) (.string b) = some (.bool (!(Op.bytesLess a.toList b.toList || a.toList == b.toList))) := abin_str rfl rfl (by decide)
theorem abin_leqS (a b : ByteArray) : abinOp P .leq t x y (.string a) (.string b) = some (.bool (Op.bytesLess a.toList b.toList || a.toList == b.toList)) := abin_str rfl rfl (by decide)
theorem abin_geqS (a b : ByteArray) : abinOp P .geq t x y (.string a) (.string b) = some (.bool (!Op.bytesLess a.toList b.toList)) := abin_str rfl rfl (by decide)
attribute [go_sem] abin_eqlS abin_neqS abin_lssS abin_gtrS abin_leqS abin_geqS
end
def isBool (P : Program) (t : TypeId) : Bool := match P.underlying t with | some .bool => true | _ => false
theorem isBool_u {P : Program} {t : TypeId} (h : isBool P t = true) : P.underlying t = some .bool := by
  unfold isBool at h
  split at h
  · assumption
  · cases h
end Go.Am
