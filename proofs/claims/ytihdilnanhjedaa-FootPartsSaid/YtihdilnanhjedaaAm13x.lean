import Derived.Test.YtihdilnanhjedaaAm10x
import Derived.Orders
set_option linter.unusedVariables false
set_option linter.unusedSimpArgs false
/- Equations by which code is run on an abstract heap. -/
namespace Go.Am
open Go

theorem getD_lit (l : List Value) (i : Nat) : (l.toArray).getD i junk = l.getD i junk := by simp [Array.getD_eq_getD_getElem?, List.getD]
theorem aput_lit (l : List Value) (d : Nat) (v : Value) : aput l.toArray (some d) v = (l.set d v).toArray := by simp [aput]
theorem aput_none (a : Array Value) (v : Value) : aput a none v = a := rfl

section
variable {P : Program} {ops : Array Oper} {Q : Exit → Array Value → AH → Prop} {rest : List Oper} {a : Array Value} {h : AH} {ρ : Operand → Value} {dst : Option Tmp} {ty : TypeId} {pos : String} {after : Array Edge} {guard : Option (Nat × Bool)}

/-- what follows an operation -/
def astep (P : Program) (ops : Array Oper) (Q : Exit → Array Value → AH → Prop) (rest : List Oper) (dst : Option Tmp) (a : Array Value) (h : AH) : Option ARes → Prop
  | some (.val v h1) => awl P ops Q rest (aput a dst v) h1
  | some (.skip h1) => awl P ops Q rest (aput a dst undef) h1
  | some (.enter F args) => ∃ R, ACalls P F args h R ∧ ∀ v h1, R v h1 → awl P ops Q rest (aput a dst v) h1
  | some (.any S) => ∀ v h1, S v h1 → awl P ops Q rest (aput a dst v) h1
  | none => False

theorem awl_nil : awl P ops Q [] a h = Q .normal a h := rfl
theorem awl_cons {op : Op} : awl P ops Q (⟨dst, op, ty, pos, after, none⟩ :: rest) a h = astep P ops Q rest dst a h (aop P (aeval P a) h ⟨dst, op, ty, pos, after, none⟩) := by
  simp only [awl, gval]
  unfold astep
  rfl
def agate (P : Program) (ops : Array Oper) (Q : Exit → Array Value → AH → Prop) (rest : List Oper) (o : Oper) (a : Array Value) (h : AH) : Option Bool → Prop
  | some false => awl P ops Q rest (aput a o.dst undef) h
  | some true => astep P ops Q rest o.dst a h (aop P (aeval P a) h o)
  | none => False
theorem awl_guard {op : Op} {gd : Nat × Bool} : awl P ops Q (⟨dst, op, ty, pos, after, some gd⟩ :: rest) a h = agate P ops Q rest ⟨dst, op, ty, pos, after, some gd⟩ a h (gval ops a ⟨dst, op, ty, pos, after, some gd⟩) := by
  simp only [awl]
  unfold agate astep
  rfl
theorem agate_false {o : Oper} : agate P ops Q rest o a h (some false) = awl P ops Q rest (aput a o.dst undef) h := rfl
theorem agate_true {o : Oper} : agate P ops Q rest o a h (some true) = astep P ops Q rest o.dst a h (aop P (aeval P a) h o) := rfl
theorem astep_val {v : Value} {h1 : AH} : astep P ops Q rest dst a h (some (.val v h1)) = awl P ops Q rest (aput a dst v) h1 := rfl
theorem astep_skip {h1 : AH} : astep P ops Q rest dst a h (some (.skip h1)) = awl P ops Q rest (aput a dst undef) h1 := rfl
theorem astep_enter {F : FuncId} {args : Array Value} : astep P ops Q rest dst a h (some (.enter F args)) = ∃ R, ACalls P F args h R ∧ ∀ v h1, R v h1 → awl P ops Q rest (aput a dst v) h1 := rfl

theorem aop_move {x : Operand} : aop P ρ h ⟨dst, .move x, ty, pos, after, guard⟩ = some (.val (ρ x) h) := rfl
theorem aop_assign {x : Operand} : aop P ρ h ⟨dst, .assign x, ty, pos, after, guard⟩ = some (.val (ρ x) h) := rfl
def apick (h : AH) (x y : Value) : Value → Option ARes
  | .bool t => some (.val (if t then x else y) h)
  | _ => none
theorem aop_pick {c x y : Operand} : aop P ρ h ⟨dst, .pick c x y, ty, pos, after, guard⟩ = apick h (ρ x) (ρ y) (ρ c) := by
  simp only [aop]; unfold apick; rfl
theorem apick_bool {x y : Value} {t : Bool} : apick h x y (.bool t) = some (.val (if t then x else y) h) := rfl
theorem aop_alloc {e : TypeId} : aop P ρ h ⟨dst, .alloc e, ty, pos, after, guard⟩ = avalh (aalloc P h e) := rfl
theorem aop_box {e : TypeId} {x : Operand} : aop P ρ h ⟨dst, .box e x, ty, pos, after, guard⟩ = avalh (abox h (ρ x)) := rfl
theorem aop_build {t : TypeId} {ps : List (Nat × Operand)} : aop P ρ h ⟨dst, .build t ps.toArray, ty, pos, after, guard⟩ = aval h (abuild P t (ps.map fun (i, x) => (i, ρ x))) := rfl
theorem aop_buildSlice {t : TypeId} {n : Nat} {ps : List (Nat × Operand)} : aop P ρ h ⟨dst, .buildSlice t n ps.toArray, ty, pos, after, guard⟩ = avalh (abuildSlice P h t n (ps.map fun (i, x) => (i, ρ x))) := rfl
theorem aop_load {t : TypeId} {x : Operand} : aop P ρ h ⟨dst, .load t x, ty, pos, after, guard⟩ = aval h (aload P h t (ρ x)) := rfl
theorem aop_store {t : TypeId} {x y : Operand} : aop P ρ h ⟨dst, .store t x y, ty, pos, after, guard⟩ = askip (astore P h t (ρ x) (ρ y)) := rfl
theorem aop_nilCheck {x : Operand} : aop P ρ h ⟨dst, .nilCheck x, ty, pos, after, guard⟩ = aval h (anilCheck (ρ x)) := rfl
theorem aop_binOp {op : BinOp} {t u : TypeId} {x y : Operand} : aop P ρ h ⟨dst, .binOp op t x y u, ty, pos, after, guard⟩ = aval h (abinOp P op t x y (ρ x) (ρ y)) := rfl
theorem aop_unOp {op : UnOp} {t : TypeId} {x : Operand} : aop P ρ h ⟨dst, .unOp op t x, ty, pos, after, guard⟩ = aval h (aunOp P op (ρ x)) := rfl
theorem aop_convert {s d : TypeId} {x : Operand} : aop P ρ h ⟨dst, .convert s d x, ty, pos, after, guard⟩ = avalh (aconvert P h s d (ρ x)) := rfl
theorem aop_arrayPtr {t : TypeId} {x : Operand} : aop P ρ h ⟨dst, .sliceToArrayPointer t x, ty, pos, after, guard⟩ = aval h (aarrayPtr P t (ρ x)) := rfl
theorem aop_makeInterface {t : TypeId} {x : Operand} : aop P ρ h ⟨dst, .makeInterface t x, ty, pos, after, guard⟩ = aval h (amakeIface P t (ρ x)) := rfl
theorem aop_makeFunc {F : FuncId} {xs cs : List Operand} : aop P ρ h ⟨dst, .makeFunc (.func F) xs.toArray cs.toArray, ty, pos, after, guard⟩ = some (.val (.func (.func F) (xs.map ρ).toArray (cs.map ρ).toArray) h) := by
  simp only [aop, amakeFunc, aval, List.map_toArray]
theorem aop_makeMap {t : TypeId} : aop P ρ h ⟨dst, .makeMap t none, ty, pos, after, guard⟩ = avalh (amMake P h t) := rfl
theorem aop_makeSlice {t : TypeId} {l c : Operand} : aop P ρ h ⟨dst, .makeSlice t l c, ty, pos, after, guard⟩ = avalh (amakeSlice P h t (ρ l) (ρ c)) := rfl
theorem aop_slice {t : TypeId} {x : Operand} {lo hi : Option Operand} : aop P ρ h ⟨dst, .slice t x lo hi none, ty, pos, after, guard⟩ = aval h (aslice P h t (ρ x) (lo.map ρ) (hi.map ρ)) := rfl
theorem aop_fieldAddr {t : TypeId} {x : Operand} {k : Nat} : aop P ρ h ⟨dst, .fieldAddr t x k, ty, pos, after, guard⟩ = aval h (afieldAddr P t (ρ x) k) := rfl
theorem aop_field {t : TypeId} {x : Operand} {k : Nat} : aop P ρ h ⟨dst, .field t x k, ty, pos, after, guard⟩ = aval h (afield P t (ρ x) k) := rfl
theorem aop_indexAddr {t : TypeId} {x i : Operand} : aop P ρ h ⟨dst, .indexAddr t x i, ty, pos, after, guard⟩ = aval h (aindexAddr P t (ρ x) (ρ i)) := rfl
theorem aop_index {t : TypeId} {x i : Operand} : aop P ρ h ⟨dst, .index t x i, ty, pos, after, guard⟩ = aval h (aindex P t (ρ x) (ρ i)) := rfl
theorem aop_extract {x : Operand} {k : Nat} : aop P ρ h ⟨dst, .extract x k, ty, pos, after, guard⟩ = aval h (aextract (ρ x) k) := rfl
theorem aop_call {f : Operand} {args : List Operand} {ts : Array TypeId} : aop P ρ h ⟨dst, .call ⟨.value f, args.toArray, ts⟩, ty, pos, after, guard⟩ = acall P h (ρ f) (args.map ρ).toArray := by
  simp only [aop, List.map_toArray]
theorem aop_len {x : Operand} {t : TypeId} : aop P ρ h ⟨dst, .call ⟨.builtin .len, #[x], #[t]⟩, ty, pos, after, guard⟩ = aval h (alen P h t (ρ x)) := by simp [aop, abuiltin]
theorem aop_append {x y : Operand} {t u : TypeId} : aop P ρ h ⟨dst, .call ⟨.builtin .append, #[x, y], #[t, u]⟩, ty, pos, after, guard⟩ = avalh (aappend P h t u (ρ x) (ρ y)) := by simp [aop, abuiltin]
theorem aop_copy {x y : Operand} {t u : TypeId} : aop P ρ h ⟨dst, .call ⟨.builtin .copy, #[x, y], #[t, u]⟩, ty, pos, after, guard⟩ = avalh (acopy P h t (ρ x) (ρ y)) := by simp [aop, abuiltin]
theorem aop_delete {x y : Operand} {t u : TypeId} : aop P ρ h ⟨dst, .call ⟨.builtin .delete, #[x, y], #[t, u]⟩, ty, pos, after, guard⟩ = avalh (amDelete P h t (ρ x) (ρ y)) := by simp [aop, abuiltin]
theorem aop_lookup {t : TypeId} {x i : Operand} {ok : Bool} : aop P ρ h ⟨dst, .lookup t x i ok, ty, pos, after, guard⟩ = aval h (amLookup P h t (ρ x) (ρ i) ok) := rfl
theorem aop_mapUpdate {t : TypeId} {m k x : Operand} : aop P ρ h ⟨dst, .mapUpdate t m k x, ty, pos, after, guard⟩ = askip (amUpdate P h t (ρ m) (ρ k) (ρ x)) := rfl
theorem aop_insert {t : TypeId} {m k x : Operand} : aop P ρ h ⟨dst, .insert t m k x, ty, pos, after, guard⟩ = askip (amUpdate P h t (ρ m) (ρ k) (ρ x)) := rfl
theorem aop_mapEntry {t : TypeId} {m k : Operand} : aop P ρ h ⟨dst, .mapEntry t m k, ty, pos, after, guard⟩ = avalh (amEntry P h t (ρ m) (ρ k)) := rfl
theorem aop_entryStore {t : TypeId} {m s x : Operand} : aop P ρ h ⟨dst, .entryStore t m s x, ty, pos, after, guard⟩ = askip (amEntryStore h (ρ m) (ρ s) (ρ x)) := rfl
theorem aop_range {t : TypeId} {x : Operand} : aop P ρ h ⟨dst, .range t x, ty, pos, after, guard⟩ = avalh (amRange P h t (ρ x)) := rfl
theorem aop_next {x : Operand} : aop P ρ h ⟨dst, .next x false, ty, pos, after, guard⟩ = amNext h (ρ x) := rfl
theorem aop_entry {x : Operand} : aop P ρ h ⟨dst, .entry x, ty, pos, after, guard⟩ = aval h (amEntryOf h (ρ x)) := rfl
theorem astep_any {S : Value → AH → Prop} : astep P ops Q rest dst a h (some (.any S)) = ∀ v h1, S v h1 → awl P ops Q rest (aput a dst v) h1 := rfl
theorem aval_val {v : Value} : aval h (some v) = some (.val v h) := rfl
theorem avalh_val {v : Value} : avalh (some (v, h)) = some (.val v h) := rfl
theorem askip_skip : askip (some h) = some (.skip h) := rfl

theorem aeval_tmp (t : Nat) : aeval P a (.tmp t) = a.getD t junk := rfl
theorem aeval_func (F : FuncId) : aeval P a (.func F) = .func (.func F) #[] #[] := rfl
theorem aeval_int (k : IntKind) (n : Int) : aeval P a (.const (.int k n)) = .int k n := rfl
theorem aeval_bool (b : Bool) : aeval P a (.const (.bool b)) = .bool b := rfl
theorem aeval_string (s : ByteArray) : aeval P a (.const (.string s)) = .string s := rfl
theorem aeval_nilSlice (l c : Nat) : aeval P a (.const (.slice none l c)) = .slice none l c := rfl
theorem aeval_nilMap : aeval P a (.const (.map none)) = .map none := rfl
theorem aeval_nilFunc : aeval P a (.const .nilFunc) = .nilFunc := rfl
theorem aeval_nilIface : aeval P a (.const .nilIface) = .nilIface := rfl
theorem aeval_nilPtr : aeval P a (.const (.pointer none)) = .pointer none := rfl

/-- a comparison of bytes -/
theorem acall_compare {F : FuncId} {x y : Value} (hb : hasBody P F = false) (hc : isCompare P F = true) : acall P h (.func (.func F) #[] #[]) #[x, y] = aval h (acompare h x y) := by
  simp [acall, hb, aextern, hc]
theorem acall_func {F : FuncId} {xs cs args : List Value} (hb : hasBody P F = true) : acall P h (.func (.func F) xs.toArray cs.toArray) args.toArray = some (.enter F (xs ++ args ++ cs).toArray) := by
  simp only [acall, hb, if_true, List.append_toArray]

theorem gval_lit {l : List Value} {j : Nat} {want : Bool} {op : Op} {d : Nat} {l2 : List Oper} (hd : (l2[j]?).bind (·.dst) = some d) {b : Bool} (hb : l.getD d junk = .bool b) :
    gval l2.toArray l.toArray ⟨dst, op, ty, pos, after, some (j, want)⟩ = some (b == want) := by
  simp only [gval, List.getElem?_toArray, hd, getD_lit, hb]

/-! numbers -/
variable {t : TypeId} {x y : Operand} {k k' : IntKind} {m n : Int}
theorem abin_add : abinOp P .add t x y (.int k m) (.int k n) = some (.int k (k.wrap (m + n))) := by simp [abinOp, aint]
theorem abin_sub : abinOp P .sub t x y (.int k m) (.int k n) = some (.int k (k.wrap (m - n))) := by simp [abinOp, aint]
theorem abin_mul : abinOp P .mul t x y (.int k m) (.int k n) = some (.int k (k.wrap (m * n))) := by simp [abinOp, aint]
theorem abin_quo (h : n ≠ 0) : abinOp P .quo t x y (.int k m) (.int k n) = some (.int k (k.wrap (m.tdiv n))) := by simp [abinOp, aint, h]
theorem abin_rem (h : n ≠ 0) : abinOp P .rem t x y (.int k m) (.int k n) = some (.int k (m.tmod n)) := by simp [abinOp, aint, h]
theorem abin_and : abinOp P .and t x y (.int k m) (.int k n) = some (.int k (k.wrap (BitVec.ofInt k.bits m &&& BitVec.ofInt k.bits n).toNat)) := by simp [abinOp, aint]
theorem abin_or : abinOp P .or t x y (.int k m) (.int k n) = some (.int k (k.wrap (BitVec.ofInt k.bits m ||| BitVec.ofInt k.bits n).toNat)) := by simp [abinOp, aint]
theorem abin_xor : abinOp P .xor t x y (.int k m) (.int k n) = some (.int k (k.wrap (BitVec.ofInt k.bits m ^^^ BitVec.ofInt k.bits n).toNat)) := by simp [abinOp, aint]
theorem abin_andNot : abinOp P .andNot t x y (.int k m) (.int k n) = some (.int k (k.wrap (BitVec.ofInt k.bits m &&& ~~~ BitVec.ofInt k.bits n).toNat)) := by simp [abinOp, aint]
theorem abin_eql : abinOp P .eql t x y (.int k m) (.int k n) = some (.bool (m == n)) := by simp [abinOp, aint]
theorem abin_neq : abinOp P .neq t x y (.int k m) (.int k n) = some (.bool (m != n)) := by simp [abinOp, aint]
theorem abin_lss : abinOp P .lss t x y (.int k m) (.int k n) = some (.bool (decide (m < n))) := by simp [abinOp, aint]
theorem abin_leq : abinOp P .leq t x y (.int k m) (.int k n) = some (.bool (decide (m ≤ n))) := by simp [abinOp, aint]
theorem abin_gtr : abinOp P .gtr t x y (.int k m) (.int k n) = some (.bool (decide (n < m))) := by simp [abinOp, aint]
theorem abin_geq : abinOp P .geq t x y (.int k m) (.int k n) = some (.bool (decide (n ≤ m))) := by simp [abinOp, aint]
theorem abin_shl (h : ¬ n < 0) : abinOp P .shl t x y (.int k m) (.int k' n) = some (.int k (k.wrap (m * 2 ^ (min n.toNat k.bits)))) := by simp [abinOp, h]
theorem abin_shr (h : ¬ n < 0) : abinOp P .shr t x y (.int k m) (.int k' n) = some (.int k (m.fdiv (2 ^ (min n.toNat k.bits)))) := by simp [abinOp, h]
theorem aun_not {b : Bool} : aunOp P .not (.bool b) = some (.bool !b) := rfl

theorem wrap_u64_of (n : Int) (h0 : 0 ≤ n) (h1 : n < 18446744073709551616) : IntKind.u64.wrap n = n := by
  simp only [IntKind.wrap, IntKind.bits, IntKind.signed, Bool.false_and, Bool.false_eq_true, if_false]
  omega
theorem wrap_u8_of (n : Int) (h0 : 0 ≤ n) (h1 : n < 256) : IntKind.u8.wrap n = n := by
  simp only [IntKind.wrap, IntKind.bits, IntKind.signed, Bool.false_and, Bool.false_eq_true, if_false]
  omega
theorem wrap_u32_of (n : Int) (h0 : 0 ≤ n) (h1 : n < 4294967296) : IntKind.u32.wrap n = n := by
  simp only [IntKind.wrap, IntKind.bits, IntKind.signed, Bool.false_and, Bool.false_eq_true, if_false]
  omega

/-! the code -/
variable {h0 : AH}
theorem ax_skip : ax P h0 .skip Q a h = Q .normal a h := rfl
theorem ax_region {id : Nat} {l : List Oper} : ax P h0 (.region id l.toArray false) Q a h = awl P l.toArray Q l a h := rfl
theorem ax_seq {x y : Code} : ax P h0 (.seq x y) Q a h = ax P h0 x (thenA (ax P h0 y Q) Q) a h := rfl
theorem ax_block {id : Nat} {c : Code} : ax P h0 (.block id c) Q a h = ax P h0 c (inBlockA id Q) a h := rfl
theorem ax_exit {id : Nat} : ax P h0 (.exit id) Q a h = Q (.exit id) a h := rfl
theorem ax_ret : ax P h0 .ret Q a h = Q .ret a h := rfl
theorem ax_loop {c : Code} : ax P h0 (.loop c) Q a h = AWP P h0 (.loop c) Q a h := rfl
def acond (P : Program) (h0 : AH) (x y : Code) (Q : Exit → Array Value → AH → Prop) (a : Array Value) (h : AH) (v : Value) : Prop :=
  ∃ t, v = .bool t ∧ (t = true → ax P h0 x Q a h) ∧ (t = false → ax P h0 y Q a h)
theorem ax_cond {c : Operand} {x y : Code} : ax P h0 (.cond c x y) Q a h = acond P h0 x y Q a h (aeval P a c) := rfl
theorem acond_bool {x y : Code} {t : Bool} : acond P h0 x y Q a h (.bool t) = ((t = true → ax P h0 x Q a h) ∧ (t = false → ax P h0 y Q a h)) := by
  unfold acond
  apply propext
  constructor
  · rintro ⟨t', e, h1⟩; cases e; exact h1
  · intro h1; exact ⟨t, rfl, h1⟩
theorem acond_true {x y : Code} : acond P h0 x y Q a h (.bool true) = ax P h0 x Q a h := by rw [acond_bool]; simp
theorem acond_false {x y : Code} : acond P h0 x y Q a h (.bool false) = ax P h0 y Q a h := by rw [acond_bool]; simp
theorem thenA_normal {next : Array Value → AH → Prop} : thenA next Q .normal a h = next a h := rfl
theorem thenA_ret {next : Array Value → AH → Prop} : thenA next Q .ret a h = Q .ret a h := rfl
theorem thenA_exit {next : Array Value → AH → Prop} {id : Nat} : thenA next Q (.exit id) a h = Q (.exit id) a h := rfl
theorem inBlockA_normal {id : Nat} : inBlockA id Q .normal a h = Q .normal a h := rfl
theorem inBlockA_ret {id : Nat} : inBlockA id Q .ret a h = Q .ret a h := rfl
theorem inBlockA_exit {id id' : Nat} : inBlockA id Q (.exit id') a h = if id' = id then Q .normal a h else Q (.exit id') a h := rfl
end

end Go.Am
set_option linter.unusedVariables false
set_option linter.unusedSimpArgs false
/- Regions that draw their order. -/
namespace Go.Am
open Go

/-- operations that change no heap -/
def isV (P : Program) : Op → Bool
  | .move _ | .assign _ | .pick .. | .build .. | .load .. | .nilCheck _ | .binOp .. | .unOp .. | .sliceToArrayPointer .. | .makeInterface .. | .makeFunc .. | .slice .. | .lookup .. | .entry .. | .fieldAddr .. | .field .. | .indexAddr .. | .index .. | .extract .. => true
  | .convert _ d _ => match P.underlying d with | some (.int _) => true | _ => false
  | .call { callee := .builtin .len, .. } => true
  | .call { callee := .builtin .min, .. } | .call { callee := .builtin .max, .. } => true
  | .call { callee := .builtin .unsafeSliceData, .. } => true
  | _ => false

/-- those among them that read it -/
def isLoad : Op → Bool
  | .load .. | .slice .. | .lookup .. | .entry .. => true
  | .call { callee := .builtin .len, .. } => true
  | _ => false

/-- operations that may write what was there -/
def isWriter : Op → Bool
  | .store .. | .call { callee := .builtin .append, .. } | .call { callee := .builtin .copy, .. } | .mapUpdate .. | .insert .. | .mapEntry .. | .entryStore .. | .next .. | .call { callee := .builtin .delete, .. } | .call { callee := .builtin .clear, .. } | .call { callee := .builtin .unsafeString, .. } => true
  | _ => false

/-- a look at a map that a mapEntry of the same type does not turn -/
def softOf (t : TypeId) : Op → Bool
  | .lookup t' _ _ false => t' == t
  | _ => false
def isEntry (t : TypeId) : Op → Bool
  | .mapEntry t' _ _ => t' == t
  | _ => false
def softPair (x i : Op) : Bool :=
  match i with
  | .mapEntry t _ _ => softOf t x
  | _ => false

theorem aop_congr {P : Program} {ρ ρ' : Operand → Value} {h : AH} (o : Oper) (hρ : ∀ x ∈ o.op.operands, ρ x = ρ' x) : aop P ρ h o = aop P ρ' h o := by
  obtain ⟨dst, op, type, pos, after, guard⟩ := o
  have pairs : ∀ ps : Array (Nat × Operand), (∀ x ∈ ps.map (·.2), ρ x = ρ' x) → (ps.toList.map fun (i, x) => (i, ρ x)) = (ps.toList.map fun (i, x) => (i, ρ' x)) := fun ps hp =>
    List.map_congr_left fun p hm => by
      obtain ⟨i, x⟩ := p
      simp only [hp x (Array.mem_map.2 ⟨(i, x), by simpa using hm, rfl⟩)]
  cases op <;> simp only [Op.operands] at hρ <;> simp only [aop]
  case build t ps => rw [pairs ps fun x hx => hρ x (by simpa using hx)]
  case buildSlice t n ps => rw [pairs ps fun x hx => hρ x (by simpa using hx)]
  case makeFunc fn first captured =>
    rw [Array.map_congr_left (xs := first) fun x hx => hρ x (by simp [hx]), Array.map_congr_left (xs := captured) fun x hx => hρ x (by simp [hx])]
  case call c =>
    have hargs : c.args.map ρ = c.args.map ρ' := Array.map_congr_left fun x hx => hρ x (by simp [Call.operands, hx])
    cases hc : c.callee with
    | value f => have hf : ρ f = ρ' f := hρ f (by simp [Call.operands, hc]); simp only [hargs, hf]
    | invoke r m => rfl
    | builtin b => simp only [hargs]
  case makeMap t r => cases r <;> rfl
  case next it str => cases str <;> simp_all [amore]
  case slice t x lo hi mx => cases lo <;> cases hi <;> cases mx <;> simp_all [amore]
  all_goals (first | rfl | (simp_all; done))

theorem aeval_aput {P : Program} {a : Array Value} {dst : Option Tmp} {v : Value} {x : Operand} (h : ∀ d, dst = some d → x ≠ .tmp d) : aeval P (aput a dst v) x = aeval P a x := by
  cases dst with
  | none => rfl
  | some d =>
    cases x with
    | tmp t =>
      have hne : d ≠ t := fun e => h d rfl (e ▸ rfl)
      simp only [aeval, aput, Array.getD_eq_getD_getElem?, Array.getElem?_setIfInBounds_ne hne]
    | _ => rfl

theorem aop_aput {P : Program} {ops : Array Oper} {a : Array Value} {h : AH} (o : Oper) (dst : Option Tmp) (v : Value) (hd : ∀ d, dst = some d → d ∉ o.looksAt ops) : aop P (aeval P (aput a dst v)) h o = aop P (aeval P a) h o :=
  aop_congr o fun x hx => aeval_aput fun d hd' hxd => hd d hd' (by
    subst hxd
    exact List.mem_append_left _ (List.mem_filterMap.2 ⟨.tmp d, by simpa using hx, rfl⟩))

theorem gval_aput {ops : Array Oper} {a : Array Value} (o : Oper) (dst : Option Tmp) (v : Value) (hd : ∀ d, dst = some d → d ∉ o.looksAt ops) : gval ops (aput a dst v) o = gval ops a o := by
  cases dst with
  | none => rfl
  | some d =>
    unfold gval
    cases hg : o.guard with
    | none => rfl
    | some gw =>
      obtain ⟨j, want⟩ := gw
      simp only
      cases ht : (ops[j]?).bind (·.dst) with
      | none => rfl
      | some t =>
        have hne : d ≠ t := fun e => hd d rfl (by subst e; simp [Oper.looksAt, hg, ht])
        simp only [aput, Array.getD_eq_getD_getElem?, Array.getElem?_setIfInBounds_ne hne]

theorem aput_comm (a : Array Value) {x y : Option Tmp} (v u : Value) (h : ∀ d, x = some d → y ≠ some d) : aput (aput a x v) y u = aput (aput a y u) x v := by
  cases x with
  | none => rfl
  | some d =>
    cases y with
    | none => rfl
    | some e =>
      have hne : d ≠ e := fun he => h d rfl (he ▸ rfl)
      simp [aput, Array.setIfInBounds_comm _ _ hne]

/-- what was there when the region began is there -/
def Pres (H0 h : AH) : Prop := ∀ b, b < H0.length → h[b]? = H0[b]?

theorem isV_val {P : Program} {ρ : Operand → Value} {h : AH} {o : Oper} (hv : isV P o.op = true) {r : ARes} (ha : aop P ρ h o = some r) : ∃ v, r = .val v h := by
  obtain ⟨dst, op, type, pos, after, guard⟩ := o
  cases op <;> simp only [isV] at hv <;> simp only [aop] at ha <;> (try (cases hv; done)) <;> (try (cases ha; exact ⟨_, rfl⟩)) <;> (try (exact (aval_some ha).elim fun v h1 => ⟨v, h1.2⟩))
  case pick c a b => split at ha <;> cases ha; exact ⟨_, rfl⟩
  case convert s d x =>
    obtain ⟨v, h2, h1, rfl⟩ := avalh_some ha
    split at hv
    · rename_i k hk
      unfold aconvert at h1
      rw [hk] at h1
      split at h1 <;> first | (cases h1; exact ⟨_, rfl⟩) | (rename_i he; cases he) | (rename_i he _; cases he) | (rename_i he _ _; cases he) | cases h1
    · cases hv
  case slice t x lo hi mx =>
    cases mx with
    | some m => simp [amore] at ha
    | none => obtain ⟨v, _, h1⟩ := aval_some ha; exact ⟨v, h1⟩
  case call c =>
    split at ha
    · rename_i fo hfo
      obtain ⟨cal, args, ts⟩ := c
      cases hfo
      cases hv
    · rename_i b hb
      obtain ⟨cal, args, ts⟩ := c
      cases hb
      cases b <;> simp only at hv <;> (try (cases hv; done))
      case min =>
        simp only [abuiltin] at ha
        split at ha
        · exact (aval_some ha).elim fun v h1 => ⟨v, h1.2⟩
        · cases ha
      case max =>
        simp only [abuiltin] at ha
        split at ha
        · exact (aval_some ha).elim fun v h1 => ⟨v, h1.2⟩
        · cases ha
      case unsafeSliceData =>
        unfold abuiltin at ha
        split at ha <;> first | (exact (aval_some ha).elim fun v h1 => ⟨v, h1.2⟩) | (rename Builtin.unsafeSliceData = _ => he; cases he) | cases ha
      unfold abuiltin at ha
      split at ha <;> first | (exact (aval_some ha).elim fun v h1 => ⟨v, h1.2⟩) | (rename Builtin.len = _ => he; cases he) | cases ha
    · cases ha

theorem vop_pure {P : Program} {ρ : Operand → Value} {h h2 : AH} {o : Oper} (hv : isV P o.op = true) (hl : isLoad o.op = false) {v : Value} (ha : aop P ρ h o = some (.val v h)) : aop P ρ h2 o = some (.val v h2) := by
  have key : ∀ (x : Option Value), aval h x = some (.val v h) → aval h2 x = some (.val v h2) := by
    intro x hx
    obtain ⟨u, rfl, h1⟩ := aval_some hx
    cases h1
    rfl
  obtain ⟨dst, op, type, pos, after, guard⟩ := o
  cases op <;> simp only [isV] at hv <;> simp only [isLoad] at hl <;> simp only [aop] at ha ⊢ <;> (try (cases hv; done)) <;> (try (cases hl; done)) <;> (try (exact key _ ha)) <;> (try (cases ha; rfl))
  case pick c a b => split at ha <;> cases ha; rfl
  case convert s d x =>
    obtain ⟨u, h3, h1, h4⟩ := avalh_some ha
    cases h4
    split at hv
    · rename_i k hk
      have : aconvert P h2 s d (ρ x) = some (v, h2) := by
        unfold aconvert at h1 ⊢
        rw [hk] at h1 ⊢
        split at h1 <;> first | (cases h1; simp_all; done) | (rename_i he; cases he) | (rename_i he _; cases he) | (rename_i he _ _; cases he) | cases h1
      rw [this]
      rfl
    · cases hv
  case call c =>
    obtain ⟨cal, args, ts⟩ := c
    cases cal with
    | builtin b =>
      cases b <;> (try (simp_all; done))
      case min =>
        simp only [abuiltin] at ha ⊢
        split at ha
        · rename_i hp; rw [if_pos hp]; exact key _ ha
        · cases ha
      case max =>
        simp only [abuiltin] at ha ⊢
        split at ha
        · rename_i hp; rw [if_pos hp]; exact key _ ha
        · cases ha
      case unsafeSliceData =>
        change abuiltin P h .unsafeSliceData ts type (args.map ρ) = _ at ha
        change abuiltin P h2 .unsafeSliceData ts type (args.map ρ) = _
        unfold abuiltin at ha ⊢
        split at ha <;> (try (rename Builtin.unsafeSliceData = _ => he; cases he; done)) <;> (try (cases ha; done))
        exact key _ ha
    | _ => cases hv

theorem vop_load {P : Program} {ρ : Operand → Value} {H0 h : AH} (hp : Pres H0 h) {o : Oper} (hl : isLoad o.op = true) {v : Value} (ha : aop P ρ H0 o = some (.val v H0)) : aop P ρ h o = some (.val v h) := by
  have hget : ∀ (b : Nat) (x : AObj), H0[b]? = some x → h[b]? = some x := fun b x hb => by rw [hp b (List.getElem?_eq_some_iff.1 hb).1]; exact hb
  obtain ⟨dst, op, type, pos, after, guard⟩ := o
  cases op <;> simp only [isLoad] at hl <;> (try (cases hl; done)) <;> simp only [aop] at ha ⊢
  case load t a =>
    obtain ⟨u, h1, h2⟩ := aval_some ha
    cases h2
    have : aload P h t (ρ a) = some v := by
      unfold aload at h1 ⊢
      split at h1
      · rename_i b o' heq
        split at h1
        · rename_i c es rw hb
          simp only [hget _ _ hb]
          exact h1
        · cases h1
      · exact h1
      · cases h1
    rw [this]; rfl
  case slice t x lo hi mx =>
    cases mx with
    | some m => simp [amore] at ha
    | none =>
      obtain ⟨u, h1, h2⟩ := aval_some ha
      cases h2
      have : aslice P h t (ρ x) (lo.map ρ) (hi.map ρ) = some v := by
        unfold aslice at h1 ⊢
        split at h1
        · exact h1
        · exact h1
        · rename_i e b o' len cap hu heq
          split at h1
          · rename_i ie hie
            unfold asliceS at h1
            split at h1
            · rename_i c es rw hb
              simp only [asliceS, hget _ _ hb]
              exact h1
            · cases h1
          · cases h1
        · exact h1
        · exact h1
        · exact h1
        · cases h1
      show aval h (aslice P h t (ρ x) (lo.map ρ) (hi.map ρ)) = some (.val v h)
      rw [this]; rfl
  case lookup t x i ok =>
    obtain ⟨u, h1, h2⟩ := aval_some ha
    cases h2
    have : amLookup P h t (ρ x) (ρ i) ok = some v := by
      unfold amLookup at h1 ⊢
      split at h1
      case h_2 => cases h1
      split at h1
      case h_2 => cases h1
      split at h1
      case isFalse => cases h1
      rename_i hk
      rw [if_pos hk]
      split at h1
      · exact h1
      · rename_i b hm
        split at h1
        · rename_i k' es clk hb
          simp only [hget _ _ hb]
          exact h1
        · cases h1
      · cases h1
    rw [this]; rfl
  case entry x =>
    obtain ⟨u, h1, h2⟩ := aval_some ha
    cases h2
    have : amEntryOf h (ρ x) = some v := by
      unfold amEntryOf at h1 ⊢
      split at h1
      case h_2 => cases h1
      split at h1
      case h_2 => cases h1
      rename_i hr
      split at h1
      case h_2 => cases h1
      rename_i hb hs
      simp only [hget _ _ hr, hget _ _ hb, hs]
      exact h1
    rw [this]; rfl
  case call c =>
    obtain ⟨cal, args, ts⟩ := c
    cases cal with
    | builtin b =>
      cases b <;> simp only at hl <;> (try (cases hl; done))
      change abuiltin P H0 .len ts type (args.map ρ) = _ at ha
      change abuiltin P h .len ts type (args.map ρ) = _
      unfold abuiltin at ha ⊢
      split at ha <;> (try (rename Builtin.len = _ => he; cases he; done)) <;> (try (cases ha; done))
      rename_i t x heq0 ht hx
      obtain ⟨u, h1, h2⟩ := aval_some ha
      cases h2
      have : alen P h t x = some v := by
        unfold alen at h1 ⊢
        split at h1 <;> (try exact h1)
        rename_i kt et b hu
        split at h1
        · rename_i es clk hb
          simp only [hget _ _ hb]
          exact h1
        · cases h1
      simp only [this]
      rfl
    | _ => cases hl

/-- maps may have got entries that hold nothing -/
def SoftT (P : Program) (t : TypeId) (H0 h : AH) : Prop := ∀ (b : Nat) (o : AObj), H0[b]? = some o → h[b]? = some o ∨
  ∃ (k e : TypeId) (z : Value) (es es' : Array MapEntry) (clk clk' : Nat), P.underlying t = some (.map k e) ∧ zeroOf P e = some z ∧ o = .map k es clk ∧ h[b]? = some (.map k es' clk') ∧ ∀ key, keyed P k key = true → lookK false z key es'.toList = lookK false z key es.toList

theorem SoftT.of_pres {P : Program} {t : TypeId} {H0 h : AH} (hp : Pres H0 h) : SoftT P t H0 h := fun b o hb => .inl (by rw [hp b (List.getElem?_eq_some_iff.1 hb).1]; exact hb)

theorem SoftT.then {P : Program} {t : TypeId} {H0 h h1 : AH} (a : SoftT P t H0 h) (b : SoftT P t h h1) : SoftT P t H0 h1 := by
  intro i o hi
  rcases a i o hi with ha | ⟨k2, e2, z2, es2, es2', clk2, clk2', hu2, hz2, rfl, g3, g4⟩
  · exact b i o ha
  · rcases b i _ g3 with hb | ⟨k, e, z, es, es', clk, clk', hu, hz, h2, h3, h4⟩
    · exact .inr ⟨k2, e2, z2, es2, es2', clk2, clk2', hu2, hz2, rfl, hb, g4⟩
    · rw [hu] at hu2; cases hu2
      rw [hz] at hz2; cases hz2
      cases h2
      exact .inr ⟨_, _, _, es2, es', clk2, clk', hu, hz, rfl, h3, fun key hk => (h4 key hk).trans (g4 key hk)⟩

theorem soft_entry {P : Program} {h h1 : AH} {t : TypeId} {m key v : Value} (hok : ∀ (b : Nat) (o : AObj), h[b]? = some o → o.ok P) (ha : amEntry P h t m key = some (v, h1)) : SoftT P t h h1 := by
  unfold amEntry at ha
  split at ha
  case h_2 => cases ha
  rename_i k e hu
  split at ha
  case h_2 => cases ha
  rename_i z hz
  split at ha
  case isFalse => cases ha
  rename_i hk
  split at ha
  case h_2 => cases ha
  rename_i b
  split at ha
  case h_2 => cases ha
  rename_i k' es clock hb
  split at ha
  case isFalse => cases ha
  rename_i hkk
  subst hkk
  have m := hok b _ hb
  have hlt : b < h.length := (List.getElem?_eq_some_iff.1 hb).1
  have lift : ∀ (es' : Array MapEntry) (clk' : Nat), (∀ key, keyed P k' key = true → lookK false z key es'.toList = lookK false z key es.toList) → SoftT P t h (h.set b (.map k' es' clk')) := by
    intro es' clk' hl i o hi
    by_cases he : b = i
    · subst he
      rw [hb] at hi; cases hi
      exact .inr ⟨k', e, z, es, es', clock, clk', hu, hz, rfl, List.getElem?_set_self hlt, hl⟩
    · exact .inl (by rw [List.getElem?_set_ne he]; exact hi)
  split at ha
  · rename_i j x hx
    cases ha
    refine lift _ _ fun key2 hk2 => ?_
    have := findK_modify hk hk2 (g := fun e => { e with key := key }) (fun _ => rfl) es.toList 0 m.keys hx
    rw [Nat.sub_zero] at this
    unfold lookK
    rw [Array.toList_modify, this]
    by_cases hs : sameKey key key2 = true
    · rw [if_pos hs]
      have := (sameKey_iff hk hk2).1 hs
      subst this
      rw [hx]
    · rw [if_neg hs]
  · rename_i hx
    cases ha
    refine lift _ _ fun key2 hk2 => ?_
    unfold lookK
    rw [Array.toList_push, findK_append]
    cases hf : findK key2 es.toList 0 with
    | some p => rfl
    | none =>
      simp only [findK]
      by_cases hs : sameKey key key2 = true
      · rw [if_pos hs]; rfl
      · rw [if_neg hs]

theorem vop_soft {P : Program} {ρ : Operand → Value} {H0 h : AH} {t : TypeId} (hp : SoftT P t H0 h) {o : Oper} (hl : softOf t o.op = true) {v : Value} (ha : aop P ρ H0 o = some (.val v H0)) : aop P ρ h o = some (.val v h) := by
  obtain ⟨dst, op, type, pos, after, guard⟩ := o
  cases op <;> simp only [softOf] at hl <;> (try (cases hl; done)) <;> simp only [aop] at ha ⊢
  case lookup t' x i ok =>
    cases ok <;> simp only at hl <;> (try (cases hl; done))
    simp only [beq_iff_eq] at hl
    subst hl
    obtain ⟨u, h1, h2⟩ := aval_some ha
    cases h2
    have : amLookup P h t' (ρ x) (ρ i) false = some v := by
      unfold amLookup at h1 ⊢
      split at h1
      case h_2 => cases h1
      rename_i k e hu
      split at h1
      case h_2 => cases h1
      rename_i z hz
      split at h1
      case isFalse => cases h1
      rename_i hk
      rw [if_pos hk]
      split at h1
      · exact h1
      · rename_i b hm
        split at h1
        · rename_i k' es clk hb
          rcases hp b _ hb with h3 | ⟨k2, e2, z2, es2, es', clk2, clk', hu2, hz2, g2, g3, g4⟩
          · simp only [h3]; exact h1
          · rw [hu] at hu2; cases hu2
            rw [hz] at hz2; cases hz2
            cases g2
            simp only [g3]
            simp only [if_true] at h1 ⊢
            have := g4 _ hk
            unfold lookK at this
            rw [← h1]
            cases hf1 : findK (ρ i) es'.toList 0 <;> cases hf2 : findK (ρ i) es.toList 0 <;> rw [hf1, hf2] at this <;> simp only at this ⊢ <;> simp only [lookRes, Bool.false_eq_true, if_false] at this ⊢ <;> rw [this]
        · cases h1
      · cases h1
    rw [this]; rfl

/-! ### a region, in whatever order -/
/-- Does this operation leave alone what was there, as far as the operations behind it read it? -/
def leaves (H0 : AH) (rest : List Oper) (o : Oper) (h1 : AH) : Prop := Pres H0 h1 ∨ (isWriter o.op = true ∧ ∀ x ∈ rest, isLoad x.op = true → softPair x.op o.op = true)

def isAlloc : Op → Bool
  | .alloc _ => true
  | _ => false
def hasAlloc (ops : Array Oper) : Bool := ops.toList.any fun o => isAlloc o.op
/-- a call that leaves the heap as it was, whatever stands behind -/
def Calm (P : Program) (ops : Array Oper) (F : FuncId) (args : Array Value) (h : AH) (R : Value → AH → Prop) : Prop :=
  hasAlloc ops = false ∨ ((∀ v h1, R v h1 → h1 = h) ∧ ∀ x : AH, ACalls P F args (h ++ x) (fun v h1 => R v h ∧ h1 = h ++ x))
/-- a call of a function that has a body -/
def isFn (P : Program) : Op → Bool
  | .call { callee := .value (.func F), .. } => hasBody P F
  | _ => false

/-- operations in the order of the text, such that any order that their edges allow comes to the same -/
def awd (P : Program) (ops : Array Oper) (H0 : AH) (Q : Exit → Array Value → AH → Prop) : List Oper → Array Value → AH → Prop
  | [], a, h => Q .normal a h
  | o :: rest, a, h =>
    match gval ops a o with
    | some false => awd P ops H0 Q rest (aput a o.dst undef) h
    | some true =>
      if isV P o.op then (match aop P (aeval P a) H0 o with
        | some (.val v _) => awd P ops H0 Q rest (aput a o.dst v) h
        | _ => False)
      else match aop P (aeval P a) h o with
      | some (.val v h1) => leaves H0 rest o h1 ∧ awd P ops H0 Q rest (aput a o.dst v) h1
      | some (.skip h1) => leaves H0 rest o h1 ∧ awd P ops H0 Q rest (aput a o.dst undef) h1
      | some (.enter F args) => ∃ R, ACalls P F args h R ∧ Calm P ops F args h R ∧ ∀ v h1, R v h1 → Pres H0 h1 ∧ awd P ops H0 Q rest (aput a o.dst v) h1
      | _ => False
    | none => False

/-- may these two (x ahead of i in the text) be carried out in either order? -/
def swapOk (P : Program) (ops : Array Oper) (x i : Oper) : Bool :=
  x.apart ops i && (((isV P x.op || isV P i.op) && !(isLoad x.op && isWriter i.op && !softPair x.op i.op) && !(isWriter x.op && isLoad i.op && !softPair i.op x.op)) ||
    (isAlloc i.op && i.guard.isNone && isFn P x.op && hasAlloc ops))

theorem aop_at {P : Program} {ops : Array Oper} {a : Array Value} {h : AH} {x i : Oper} (hap : x.apart ops i = true) (v : Value) : aop P (aeval P (aput a x.dst v)) h i = aop P (aeval P a) h i :=
  aop_aput (ops := ops) i x.dst v (Oper.apart_spec hap).1
theorem aop_at' {P : Program} {ops : Array Oper} {a : Array Value} {h : AH} {x i : Oper} (hap : x.apart ops i = true) (v : Value) : aop P (aeval P (aput a i.dst v)) h x = aop P (aeval P a) h x :=
  aop_aput (ops := ops) x i.dst v (Oper.apart_spec hap).2.2
theorem gval_at {ops : Array Oper} {a : Array Value} {x i : Oper} (hap : x.apart ops i = true) (v : Value) : gval ops (aput a x.dst v) i = gval ops a i := gval_aput i x.dst v (Oper.apart_spec hap).1
theorem gval_at' {ops : Array Oper} {a : Array Value} {x i : Oper} (hap : x.apart ops i = true) (v : Value) : gval ops (aput a i.dst v) x = gval ops a x := gval_aput x i.dst v (Oper.apart_spec hap).2.2
theorem aput_at {ops : Array Oper} {a : Array Value} {x i : Oper} (hap : x.apart ops i = true) (v u : Value) : aput (aput a x.dst v) i.dst u = aput (aput a i.dst u) x.dst v := aput_comm a v u (Oper.apart_spec hap).2.1

/-- what one operation does to the frame and the heap, in such a region; 'K' for what follows -/
def awd1 (P : Program) (ops : Array Oper) (H0 : AH) (rest : List Oper) (K : Array Value → AH → Prop) (o : Oper) (a : Array Value) (h : AH) : Prop :=
    match gval ops a o with
    | some false => K (aput a o.dst undef) h
    | some true =>
      if isV P o.op then (match aop P (aeval P a) H0 o with
        | some (.val v _) => K (aput a o.dst v) h
        | _ => False)
      else match aop P (aeval P a) h o with
      | some (.val v h1) => leaves H0 rest o h1 ∧ K (aput a o.dst v) h1
      | some (.skip h1) => leaves H0 rest o h1 ∧ K (aput a o.dst undef) h1
      | some (.enter F args) => ∃ R, ACalls P F args h R ∧ Calm P ops F args h R ∧ ∀ v h1, R v h1 → Pres H0 h1 ∧ K (aput a o.dst v) h1
      | _ => False
    | none => False

theorem awd_cons {P : Program} {ops : Array Oper} {H0 : AH} {Q : Exit → Array Value → AH → Prop} {o : Oper} {rest : List Oper} {a : Array Value} {h : AH} : awd P ops H0 Q (o :: rest) a h = awd1 P ops H0 rest (awd P ops H0 Q rest) o a h := rfl

theorem awd1_map {P : Program} {ops : Array Oper} {H0 : AH} {rest rest' : List Oper} {K K' : Array Value → AH → Prop} {o : Oper} {a a' : Array Value} {h : AH} (hg : gval ops a' o = gval ops a o) (ha : ∀ h, aop P (aeval P a') h o = aop P (aeval P a) h o)
    (hl : ∀ h1, leaves H0 rest o h1 → leaves H0 rest' o h1) (hk : ∀ v h1, K (aput a o.dst v) h1 → K' (aput a' o.dst v) h1) (H : awd1 P ops H0 rest K o a h) : awd1 P ops H0 rest' K' o a' h := by
  unfold awd1 at H ⊢
  rw [hg, ha H0, ha h]
  split at H
  · exact hk _ _ H
  · split at H
    · rename_i hv
      simp only [hv, if_true]
      split at H
      · exact hk _ _ H
      · exact H.elim
    · rename_i hv
      simp only [hv, Bool.false_eq_true, if_false]
      split at H
      · exact ⟨hl _ H.1, hk _ _ H.2⟩
      · exact ⟨hl _ H.1, hk _ _ H.2⟩
      · obtain ⟨R, hc, hcm, hR⟩ := H
        exact ⟨R, hc, hcm, fun v h1 hr => ⟨(hR v h1 hr).1, hk _ _ (hR v h1 hr).2⟩⟩
      · exact H.elim
  · exact H.elim

theorem awd1_some {P : Program} {ops : Array Oper} {H0 : AH} {rest : List Oper} {K : Array Value → AH → Prop} {o : Oper} {a : Array Value} {h : AH} (H : awd1 P ops H0 rest K o a h) : ∃ v h1, K (aput a o.dst v) h1 := by
  unfold awd1 at H
  split at H
  · exact ⟨_, _, H⟩
  · split at H
    · split at H
      · exact ⟨_, _, H⟩
      · exact H.elim
    · split at H
      · exact ⟨_, _, H.2⟩
      · exact ⟨_, _, H.2⟩
      · obtain ⟨R, hc, _, hR⟩ := H
        obtain ⟨v, h1, hr⟩ := hc.inh
        exact ⟨v, h1, (hR v h1 hr).2⟩
      · exact H.elim
  · exact H.elim

theorem awd1_v {P : Program} {ops : Array Oper} {H0 : AH} {rest : List Oper} {K : Array Value → AH → Prop} {o : Oper} {a : Array Value} {h : AH} (hv : isV P o.op = true) :
    awd1 P ops H0 rest K o a h ↔ (gval ops a o = some false ∧ K (aput a o.dst undef) h) ∨ (gval ops a o = some true ∧ ∃ u h2, aop P (aeval P a) H0 o = some (.val u h2) ∧ K (aput a o.dst u) h) := by
  unfold awd1
  constructor
  · intro H
    split at H
    · rename_i hg; exact .inl ⟨hg, H⟩
    · rename_i hg
      rw [if_pos hv] at H
      split at H
      · rename_i u h2 hu; exact .inr ⟨hg, u, h2, hu, H⟩
      · exact H.elim
    · exact H.elim
  · rintro (⟨hg, hk⟩ | ⟨hg, u, h2, hu, hk⟩)
    · rw [hg]; exact hk
    · rw [hg]
      simp only [hv, if_true, hu]
      exact hk

theorem swap_v_any {P : Program} {ops : Array Oper} {H0 : AH} {K : Array Value → AH → Prop} {x i : Oper} {l : List Oper} {a : Array Value} {h : AH} (hap : x.apart ops i = true) (hi : isV P i.op = true) (hw : (isWriter x.op && isLoad i.op && !softPair i.op x.op) = false)
    (H : awd1 P ops H0 (i :: l) (awd1 P ops H0 l K i) x a h) : awd1 P ops H0 (x :: l) (awd1 P ops H0 l K x) i a h := by
  have hlv : ∀ h1, leaves H0 (i :: l) x h1 → leaves H0 l x h1 := fun h1 hl => hl.imp id fun ⟨h2, h3⟩ => ⟨h2, fun y hy => h3 y (List.mem_cons_of_mem _ hy)⟩
  rw [awd1_v hi]
  obtain ⟨v0, h10, hw0⟩ := awd1_some H
  rw [awd1_v hi, gval_at hap, aop_at hap] at hw0
  rcases hw0 with ⟨hg, _⟩ | ⟨hg, u, h2, hu, _⟩
  · refine .inl ⟨hg, awd1_map (gval_at' hap _) (fun _ => aop_at' hap _) hlv (fun v h1 hk => ?_) H⟩
    rw [awd1_v hi, gval_at hap, aop_at hap] at hk
    rcases hk with ⟨_, hk⟩ | ⟨hg2, _⟩
    · rw [← aput_at hap]; exact hk
    · rw [hg] at hg2; cases hg2
  · refine .inr ⟨hg, u, h2, hu, awd1_map (gval_at' hap _) (fun _ => aop_at' hap _) hlv (fun v h1 hk => ?_) H⟩
    rw [awd1_v hi, gval_at hap, aop_at hap] at hk
    rcases hk with ⟨hg2, _⟩ | ⟨_, u2, h3, hu2, hk⟩
    · rw [hg] at hg2; cases hg2
    · rw [hu] at hu2; cases hu2; rw [← aput_at hap]; exact hk

theorem swap_any_v {P : Program} {ops : Array Oper} {H0 : AH} {K : Array Value → AH → Prop} {x i : Oper} {l : List Oper} {a : Array Value} {h : AH} (hap : x.apart ops i = true) (hx : isV P x.op = true) (hw : (isLoad x.op && isWriter i.op && !softPair x.op i.op) = false)
    (H : awd1 P ops H0 (i :: l) (awd1 P ops H0 l K i) x a h) : awd1 P ops H0 (x :: l) (awd1 P ops H0 l K x) i a h := by
  have hlv : ∀ h1, leaves H0 l i h1 → leaves H0 (x :: l) i h1 := fun h1 hl => hl.imp id fun ⟨h2, h3⟩ => ⟨h2, fun y hy => by
    rcases List.mem_cons.1 hy with rfl | hy
    · intro hl
      simpa [h2, hl] using hw
    · exact h3 y hy⟩
  rw [awd1_v hx] at H
  rcases H with ⟨hg, H2⟩ | ⟨hg, u, h2, hu, H2⟩
  · refine awd1_map (gval_at hap _).symm (fun _ => (aop_at hap _).symm) hlv (fun v h1 hk => ?_) H2
    rw [awd1_v hx, gval_at' hap, aop_at' hap]
    rw [aput_at hap] at hk
    exact .inl ⟨hg, hk⟩
  · refine awd1_map (gval_at hap _).symm (fun _ => (aop_at hap _).symm) hlv (fun v h1 hk => ?_) H2
    rw [awd1_v hx, gval_at' hap, aop_at' hap]
    rw [aput_at hap] at hk
    exact .inr ⟨hg, u, h2, hu, hk⟩

theorem isFn_enter {P : Program} {a : Array Value} {x : Oper} (hf : isFn P x.op = true) : isV P x.op = false ∧ ∃ F args, ∀ h, aop P (aeval P a) h x = some (.enter F args) := by
  obtain ⟨dst, op, type, pos, after, guard⟩ := x
  simp only at hf
  unfold isFn at hf
  split at hf
  · rename_i F args ts
    refine ⟨rfl, F, #[] ++ args.map (aeval P a) ++ #[], fun h => ?_⟩
    show acall P h (.func (.func F) #[] #[]) (args.map (aeval P a)) = _
    simp only [acall, hf, if_true]
  · cases hf
theorem isAlloc_val {P : Program} {a a' : Array Value} {i : Oper} (hi : isAlloc i.op = true) : isV P i.op = false ∧ isWriter i.op = false ∧ (∀ h, aop P (aeval P a') h i = aop P (aeval P a) h i) ∧ ∀ h r, aop P (aeval P a) h i = some r → ∃ v z, r = .val v (h ++ [z]) := by
  obtain ⟨dst, op, type, pos, after, guard⟩ := i
  cases op <;> simp only [isAlloc] at hi <;> (try (cases hi; done))
  refine ⟨rfl, rfl, fun h => rfl, fun h r hr => ?_⟩
  obtain ⟨v, h1, h2, rfl⟩ := avalh_some (show avalh (aalloc P h _) = some r from hr)
  unfold aalloc at h2
  split at h2
  · split at h2
    · split at h2
      · unfold abld at h2
        split at h2
        · cases h2; exact ⟨_, _, rfl⟩
        · cases h2
      split at h2
      · cases h2; exact ⟨_, _, rfl⟩
      · cases h2
    · cases h2
  · cases h2

theorem swap_alloc {P : Program} {ops : Array Oper} {H0 : AH} {K : Array Value → AH → Prop} {x i : Oper} {l : List Oper} {a : Array Value} {h : AH} (hap : x.apart ops i = true) (hi : isAlloc i.op = true) (hg : i.guard.isNone = true) (hx : isFn P x.op = true) (hal : hasAlloc ops = true)
    (H : awd1 P ops H0 (i :: l) (awd1 P ops H0 l K i) x a h) : awd1 P ops H0 (x :: l) (awd1 P ops H0 l K x) i a h := by
  have hgi : ∀ b, gval ops b i = some true := fun b => by
    unfold gval
    cases hh : i.guard with
    | none => rfl
    | some p => rw [hh] at hg; cases hg
  obtain ⟨v1, v2, _, v4⟩ := isAlloc_val (P := P) (a := a) (a' := a) hi
  have inner : ∀ b, awd1 P ops H0 l K i b h → ∃ p z, aop P (aeval P a) h i = some (.val p (h ++ [z])) ∧ leaves H0 l i (h ++ [z]) ∧ K (aput b i.dst p) (h ++ [z]) := by
    intro b hb
    obtain ⟨_, _, w3, _⟩ := isAlloc_val (P := P) (a := a) (a' := b) hi
    unfold awd1 at hb
    rw [hgi, v1] at hb
    simp only [Bool.false_eq_true, if_false, w3] at hb
    split at hb
    · rename_i v h1 hv
      obtain ⟨p, z, e⟩ := v4 h _ hv
      cases e
      exact ⟨_, _, hv, hb.1, hb.2⟩
    · rename_i h1 hv
      obtain ⟨p, z, e⟩ := v4 h _ hv
      cases e
    · rename_i F args hv
      obtain ⟨p, z, e⟩ := v4 h _ hv
      cases e
    · exact hb.elim
  have lift : ∀ z, leaves H0 l i (h ++ [z]) → Pres H0 (h ++ [z]) := fun z hl => by
    rcases hl with hl | ⟨hw, _⟩
    · exact hl
    · rw [v2] at hw; cases hw
  have out : ∀ p z, aop P (aeval P a) h i = some (.val p (h ++ [z])) → leaves H0 l i (h ++ [z]) → awd1 P ops H0 l K x (aput a i.dst p) (h ++ [z]) → awd1 P ops H0 (x :: l) (awd1 P ops H0 l K x) i a h := by
    intro p z e1 e2 e3
    unfold awd1
    rw [hgi, v1]
    simp only [Bool.false_eq_true, if_false, e1]
    exact ⟨.inl (lift z e2), e3⟩
  obtain ⟨f1, F, args, f2⟩ := isFn_enter (P := P) (a := a) hx
  unfold awd1 at H
  split at H
  · rename_i hgx
    obtain ⟨p, z, e1, e2, e3⟩ := inner _ H
    refine out p z e1 e2 ?_
    unfold awd1
    rw [gval_at' hap, hgx]
    rw [aput_at hap] at e3
    exact e3
  · rename_i hgx
    rw [f1] at H
    simp only [Bool.false_eq_true, if_false, f2] at H
    obtain ⟨R, hc, hcm, hR⟩ := H
    rcases hcm with hcm | ⟨c1, c2⟩
    · rw [hal] at hcm; cases hcm
    obtain ⟨v0, h0, r0⟩ := hc.inh
    have hR2 : ∀ v, R v h → awd1 P ops H0 l K i (aput a x.dst v) h := fun v hr => (hR v h hr).2
    have r0' : R v0 h := by rw [← c1 v0 h0 r0]; rw [c1 v0 h0 r0]; rw [c1 v0 h0 r0] at r0; exact r0
    obtain ⟨p, z, e1, e2, _⟩ := inner _ (hR2 v0 r0')
    refine out p z e1 e2 ?_
    unfold awd1
    rw [gval_at' hap, hgx, f1]
    simp only [Bool.false_eq_true, if_false]
    have e4 : aop P (aeval P (aput a i.dst p)) (h ++ [z]) x = some (.enter F args) := by rw [aop_at' hap]; exact f2 _
    simp only [e4]
    refine ⟨fun v h1 => R v h ∧ h1 = h ++ [z], c2 [z], .inr ⟨fun v h1 hr => hr.2, fun y => ?_⟩, fun v h1 hr => ?_⟩
    · have := c2 ([z] ++ y)
      rw [← List.append_assoc] at this
      exact this.mono fun v h1 hr => ⟨⟨hr.1, rfl⟩, hr.2⟩
    · obtain ⟨hr1, rfl⟩ := hr
      obtain ⟨p', z', e1', e2', e3'⟩ := inner _ (hR2 v hr1)
      rw [e1] at e1'
      simp only [Option.some.injEq, ARes.val.injEq] at e1'
      obtain ⟨rfl, e6⟩ := e1'
      rw [e6]
      refine ⟨lift _ e2', ?_⟩
      rw [aput_at hap] at e3'
      exact e3'
  · exact H.elim

theorem awd_front {P : Program} {ops : Array Oper} {H0 : AH} {Q : Exit → Array Value → AH → Prop} {i : Oper} {l2 : List Oper} (l1 : List Oper) : ∀ {a : Array Value} {h : AH}, (∀ x ∈ l1, swapOk P ops x i = true) →
    awd P ops H0 Q (l1 ++ i :: l2) a h → awd P ops H0 Q (i :: (l1 ++ l2)) a h := by
  induction l1 with
  | nil => intro a h _ H; exact H
  | cons x r ih =>
    intro a h hs H
    have hx := hs x (by simp)
    simp only [swapOk, Bool.and_eq_true, Bool.not_eq_true', Bool.or_eq_true] at hx
    obtain ⟨h1, hx⟩ := hx
    have H2 : awd1 P ops H0 (i :: (r ++ l2)) (awd1 P ops H0 (r ++ l2) (awd P ops H0 Q (r ++ l2)) i) x a h := by
      have H3 : awd1 P ops H0 (r ++ i :: l2) (awd P ops H0 Q (r ++ i :: l2)) x a h := H
      refine awd1_map rfl (fun _ => rfl) (fun h1 hl => hl.imp id fun ⟨h2, h3⟩ => ⟨h2, fun y hy => h3 y (by
        simp only [List.mem_cons, List.mem_append] at hy ⊢
        rcases hy with h | h | h
        · exact .inr (.inl h)
        · exact .inl h
        · exact .inr (.inr h))⟩) (fun v h1 hk => ?_) H3
      exact ih (fun y hy => hs y (List.mem_cons_of_mem _ hy)) hk
    show awd1 P ops H0 (x :: (r ++ l2)) (awd1 P ops H0 (r ++ l2) (awd P ops H0 Q (r ++ l2)) x) i a h
    rcases hx with ⟨⟨h2, h3⟩, h4⟩ | ⟨⟨⟨h2, h3⟩, h4⟩, h5⟩
    · rcases h2 with h2 | h2
      · exact swap_any_v h1 h2 h3 H2
      · exact swap_v_any h1 h2 h4 H2
    · exact swap_alloc h1 h2 h3 h4 h5 H2

/-! ### which orders there are -/
/-- of each operation: those that its edges put ahead of it, as bits -/
def deps (ops : List Oper) : List Nat :=
  ops.foldl (fun tbl o => tbl ++ [o.after.toList.foldl (fun s e => if Region.binds .any e then s ||| 2 ^ e.on ||| tbl.getD e.on 0 else s) 0]) []

/-- i hangs on x -/
inductive Hangs (ops : List Oper) : Nat → Nat → Prop
  | one (i x : Nat) (o : Oper) (e : Edge) (ho : ops[i]? = some o) (he : e ∈ o.after) (hb : Region.binds .any e = true) (hx : e.on = x) : Hangs ops i x
  | more (i j x : Nat) (o : Oper) (e : Edge) (ho : ops[i]? = some o) (he : e ∈ o.after) (hb : Region.binds .any e = true) (hj : e.on = j) (h : Hangs ops j x) : Hangs ops i x

theorem Hangs.append {ops l : List Oper} {i x : Nat} (h : Hangs ops i x) : Hangs (ops ++ l) i x := by
  induction h with
  | one i x o e ho he hb hx => exact .one i x o e (by rw [List.getElem?_append_left (List.getElem?_eq_some_iff.1 ho).1]; exact ho) he hb hx
  | more i j x o e ho he hb hj _ ih => exact .more i j x o e (by rw [List.getElem?_append_left (List.getElem?_eq_some_iff.1 ho).1]; exact ho) he hb hj ih

theorem deps_step (tbl : List Nat) (es : List Edge) : ∀ (s0 : Nat) (x : Nat), (es.foldl (fun s e => if Region.binds .any e then s ||| 2 ^ e.on ||| tbl.getD e.on 0 else s) s0).testBit x = true →
    s0.testBit x = true ∨ ∃ e ∈ es, Region.binds .any e = true ∧ (e.on = x ∨ (tbl.getD e.on 0).testBit x = true) := by
  induction es with
  | nil => intro s0 x h; exact .inl h
  | cons e r ih =>
    intro s0 x h
    simp only [List.foldl_cons] at h
    rcases ih _ _ h with h1 | ⟨e', he', h2⟩
    · split at h1
      · rename_i hb
        simp only [Nat.testBit_or, Bool.or_eq_true] at h1
        rcases h1 with (h1 | h1) | h1
        · exact .inl h1
        · rw [Nat.testBit_two_pow] at h1
          exact .inr ⟨e, by simp, hb, .inl (by simpa using h1)⟩
        · exact .inr ⟨e, by simp, hb, .inr h1⟩
      · exact .inl h1
    · exact .inr ⟨e', List.mem_cons_of_mem _ he', h2⟩

theorem deps_spec (ops : List Oper) : (deps ops).length = ops.length ∧ ∀ i x, ((deps ops).getD i 0).testBit x = true → Hangs ops i x := by
  suffices H : ∀ (l pre : List Oper) (tbl : List Nat), tbl.length = pre.length → (∀ i x, (tbl.getD i 0).testBit x = true → Hangs pre i x) →
      (l.foldl (fun tbl (o : Oper) => tbl ++ [o.after.toList.foldl (fun s e => if Region.binds .any e then s ||| 2 ^ e.on ||| tbl.getD e.on 0 else s) 0]) tbl).length = (pre ++ l).length ∧
      ∀ i x, ((l.foldl (fun tbl (o : Oper) => tbl ++ [o.after.toList.foldl (fun s e => if Region.binds .any e then s ||| 2 ^ e.on ||| tbl.getD e.on 0 else s) 0]) tbl).getD i 0).testBit x = true → Hangs (pre ++ l) i x by
    have := H ops [] [] rfl (fun i x h => by simp at h)
    simp only [List.nil_append] at this
    exact this
  intro l
  induction l with
  | nil => intro pre tbl h1 h2; simpa using ⟨h1, h2⟩
  | cons o r ih =>
    intro pre tbl h1 h2
    simp only [List.foldl_cons]
    have := ih (pre ++ [o]) (tbl ++ [o.after.toList.foldl (fun s e => if Region.binds .any e then s ||| 2 ^ e.on ||| tbl.getD e.on 0 else s) 0]) (by simp [h1]) (fun i x h => by
      by_cases hi : i < tbl.length
      · rw [List.getD_eq_getElem?_getD, List.getElem?_append_left hi, ← List.getD_eq_getElem?_getD] at h
        exact (h2 i x h).append
      · by_cases he : i = tbl.length
        · subst he
          have e1 : (tbl ++ [o.after.toList.foldl (fun s e => if Region.binds .any e then s ||| 2 ^ e.on ||| tbl.getD e.on 0 else s) 0]).getD tbl.length 0 = o.after.toList.foldl (fun s e => if Region.binds .any e then s ||| 2 ^ e.on ||| tbl.getD e.on 0 else s) 0 := by
            simp [List.getD]
          rw [e1] at h
          have ho : (pre ++ [o])[tbl.length]? = some o := by rw [h1]; simp
          rcases deps_step tbl _ _ _ h with h3 | ⟨e, he, hb, h3⟩
          · simp at h3
          · rcases h3 with h3 | h3
            · exact .one _ _ o e ho (by simpa using he) hb h3
            · exact .more _ e.on _ o e ho (by simpa using he) hb rfl (h2 _ _ h3).append
        · have e2 : (tbl ++ [o.after.toList.foldl (fun s e => if Region.binds .any e then s ||| 2 ^ e.on ||| tbl.getD e.on 0 else s) 0])[i]? = none := List.getElem?_eq_none (by simp only [List.length_append, List.length_singleton]; omega)
          rw [List.getD_eq_getElem?_getD, e2] at h
          simp at h)
    simpa only [List.append_assoc, List.singleton_append] using this

/-- May the region be read in the order of its text, whatever order is drawn? -/
def okDraw (P : Program) (ops : List Oper) : Bool :=
  let d := deps ops
  (ops.zipIdx.all fun (o, i) => o.after.all fun e => !Region.binds .any e || decide (e.on < i)) &&
  ops.zipIdx.all fun (o, i) => ops.zipIdx.all fun (x, j) => !decide (j < i) || (d.getD i 0).testBit j || swapOk P ops.toArray x o

theorem okDraw_back {P : Program} {ops : List Oper} (h : okDraw P ops = true) {i : Nat} {o : Oper} (ho : ops[i]? = some o) {e : Edge} (he : e ∈ o.after) (hb : Region.binds .any e = true) : e.on < i := by
  simp only [okDraw, Bool.and_eq_true, List.all_eq_true] at h
  have := h.1 (o, i) (by rw [List.mem_zipIdx_iff_getElem?]; exact ho)
  simp only [Array.all_eq_true_iff_forall_mem, Bool.or_eq_true, Bool.not_eq_true', decide_eq_true_eq] at this
  rcases this e he with h1 | h1
  · rw [hb] at h1; cases h1
  · exact h1

theorem okDraw_swap {P : Program} {ops : List Oper} (h : okDraw P ops = true) {i j : Nat} {o x : Oper} (ho : ops[i]? = some o) (hx : ops[j]? = some x) (hlt : j < i) : Hangs ops i j ∨ swapOk P ops.toArray x o = true := by
  simp only [okDraw, Bool.and_eq_true, List.all_eq_true] at h
  have := h.2 (o, i) (by rw [List.mem_zipIdx_iff_getElem?]; exact ho) (x, j) (by rw [List.mem_zipIdx_iff_getElem?]; exact hx)
  simp only [Bool.or_eq_true, Bool.not_eq_true', decide_eq_false_iff_not] at this
  rcases this with (h1 | h1) | h1
  · exact absurd hlt h1
  · exact .inl ((deps_spec ops).2 i j h1)
  · exact .inr h1

/-- listed numbers are closed under what they hang on -/
def Closed (ops : List Oper) (listed : Array Bool) : Prop := ∀ i o e, ops[i]? = some o → listed.getD i false = true → e ∈ o.after → Region.binds .any e = true → listed.getD e.on false = true

theorem Closed.hangs {ops : List Oper} {listed : Array Bool} (hc : Closed ops listed) {i x : Nat} (h : Hangs ops i x) : listed.getD i false = true → listed.getD x false = true := by
  induction h with
  | one i x o e ho he hb hx => intro hl; rw [← hx]; exact hc i o e ho hl he hb
  | more i j x o e ho he hb hj _ ih => intro hl; exact ih (by rw [← hj]; exact hc i o e ho hl he hb)

theorem ready_hangs {ops : List Oper} {listed : Array Bool} (hc : Closed ops listed) {i x : Nat} (hr : i ∈ Region.ready .any ops.toArray listed) (h : Hangs ops i x) : listed.getD x false = true := by
  rw [mem_ready] at hr
  obtain ⟨_, o, ho, hall⟩ := hr
  cases h with
  | one _ _ o' e ho' he hb hx =>
    rw [List.getElem?_toArray] at ho
    rw [ho] at ho'; cases ho'
    rw [← hx]; exact hall e he hb
  | more _ j _ o' e ho' he hb hj h2 =>
    rw [List.getElem?_toArray] at ho
    rw [ho] at ho'; cases ho'
    exact hc.hangs h2 (by rw [← hj]; exact hall e he hb)

/-- the operations that are still to come, in the order of the text -/
def left (listed : Array Bool) (l : List (Oper × Nat)) : List Oper := (l.filter fun p => !listed.getD p.2 false).map (·.1)

theorem left_true {listed : Array Bool} {x : Oper} {j : Nat} {r : List (Oper × Nat)} (h : listed.getD j false = true) : left listed ((x, j) :: r) = left listed r := by
  unfold left
  rw [List.filter_cons]
  simp only [h, Bool.not_true, Bool.false_eq_true, if_false]
theorem left_false {listed : Array Bool} {x : Oper} {j : Nat} {r : List (Oper × Nat)} (h : listed.getD j false = false) : left listed ((x, j) :: r) = x :: left listed r := by
  unfold left
  rw [List.filter_cons]
  simp only [h, Bool.not_false, if_true, List.map_cons]

theorem left_split {listed : Array Bool} {i : Nat} {o : Oper} (l : List (Oper × Nat)) (hn : ∀ p ∈ l, ∀ q ∈ l, p.2 = q.2 → p = q) (hnd : (l.map (·.2)).Nodup) (hm : (o, i) ∈ l) (hi : listed.getD i false = false) (hs : i < listed.size) :
    ∃ l1 l2, left listed l = l1 ++ o :: l2 ∧ left (listed.setIfInBounds i true) l = l1 ++ l2 ∧ ∀ x ∈ l1, ∃ j, (x, j) ∈ l.takeWhile (fun p => p.2 != i) ∧ listed.getD j false = false := by
  induction l with
  | nil => simp at hm
  | cons p r ih =>
    simp only [List.map_cons, List.nodup_cons] at hnd
    obtain ⟨x, j⟩ := p
    have hset : ∀ k, k ≠ i → (listed.setIfInBounds i true).getD k false = listed.getD k false := fun k hk => getD_set_ne false (fun e => hk e.symm)
    have hself : (listed.setIfInBounds i true).getD i false = true := by simp [hs]
    by_cases hj : j = i
    · subst hj
      have hxo : x = o := by
        have := hn (x, j) (by simp) (o, j) hm rfl
        cases this; rfl
      subst hxo
      refine ⟨[], left listed r, left_false hi, ?_, by simp⟩
      have : ∀ q ∈ r, q.2 ≠ j := fun q hq e => hnd.1 (List.mem_map.2 ⟨q, hq, e⟩)
      rw [left_true hself, List.nil_append]
      unfold left
      congr 1
      apply List.filter_congr
      intro q hq
      rw [hset q.2 (this q hq)]
    · have hm' : (o, i) ∈ r := by
        rcases List.mem_cons.1 hm with h | h
        · cases h; exact absurd rfl hj
        · exact h
      obtain ⟨l1, l2, h1, h2, h3⟩ := ih (fun p hp q hq => hn p (List.mem_cons_of_mem _ hp) q (List.mem_cons_of_mem _ hq)) hnd.2 hm'
      have htw : List.takeWhile (fun p : Oper × Nat => p.2 != i) ((x, j) :: r) = (x, j) :: r.takeWhile (fun p => p.2 != i) := by
        simp [List.takeWhile_cons, hj]
      cases hl : listed.getD j false with
      | true =>
        refine ⟨l1, l2, by rw [left_true hl]; exact h1, by rw [left_true ((hset j hj).trans hl)]; exact h2, fun y hy => ?_⟩
        obtain ⟨k, hk, hk2⟩ := h3 y hy
        exact ⟨k, by rw [htw]; exact List.mem_cons_of_mem _ hk, hk2⟩
      | false =>
        refine ⟨x :: l1, l2, by rw [left_false hl, h1]; rfl, by rw [left_false ((hset j hj).trans hl), h2]; rfl, fun y hy => ?_⟩
        rcases List.mem_cons.1 hy with rfl | hy
        · exact ⟨j, by rw [htw]; simp, hl⟩
        · obtain ⟨k, hk, hk2⟩ := h3 y hy
          exact ⟨k, by rw [htw]; exact List.mem_cons_of_mem _ hk, hk2⟩

theorem zipIdx_nodup (l : List Oper) : ∀ k, ((l.zipIdx k).map (·.2)).Nodup ∧ ∀ p ∈ l.zipIdx k, k ≤ p.2 := by
  induction l with
  | nil => intro k; simp
  | cons o r ih =>
    intro k
    obtain ⟨h1, h2⟩ := ih (k + 1)
    simp only [List.zipIdx_cons, List.map_cons, List.nodup_cons, List.mem_map, List.mem_cons]
    refine ⟨⟨?_, h1⟩, ?_⟩
    · rintro ⟨q, hq, e⟩
      have := h2 q hq
      omega
    · rintro p (rfl | hp)
      · exact Nat.le_refl _
      · have := h2 p hp; omega

theorem mem_takeWhile_lt (l : List Oper) (i : Nat) : ∀ k, ∀ p ∈ (l.zipIdx k).takeWhile (fun p => p.2 != i), k ≤ i → p.2 < i ∧ p ∈ l.zipIdx k := by
  induction l with
  | nil => intro k p hp; simp at hp
  | cons o r ih =>
    intro k p hp hk
    rw [List.zipIdx_cons, List.takeWhile_cons] at hp
    by_cases he : k = i
    · subst he; simp at hp
    · have hb : ((o, k).2 != i) = true := by simpa using he
      rw [hb] at hp
      simp only [if_true, List.mem_cons] at hp
      rcases hp with rfl | hp
      · exact ⟨by simp only; omega, by simp⟩
      · obtain ⟨h1, h2⟩ := ih (k + 1) p hp (by omega)
        exact ⟨h1, by rw [List.zipIdx_cons]; exact List.mem_cons_of_mem _ h2⟩

/-- from a state in which some are listed: whatever is ready may go next -/
theorem awd_any {P : Program} {ops : List Oper} {H0 : AH} {Q : Exit → Array Value → AH → Prop} {f0 : Emb} {h0 : AH} {w0 : World} (hok : okDraw P ops = true) (ro : Option Nat) : ∀ (fuel : Nat) (listed : Array Bool) (f : Emb) (a : Array Value) (h : AH) (a' : Act) (w : World),
    listed.size = ops.length → Closed ops listed → (left listed ops.zipIdx).length ≤ fuel → (∀ x ∈ left listed ops.zipIdx, isLoad x.op = true → Pres H0 h ∨ ∃ t, softOf t x.op = true ∧ SoftT P t H0 h) → awd P ops.toArray H0 Q (left listed ops.zipIdx) a h →
    Good P f0 h0 w0 f a h a' w → wpAnyIn (fenceR ro) 0 P .any ops.toArray (Lift P f0 h0 w0 Q) fuel listed a' w := by
  have hnd := zipIdx_nodup ops 0
  have hinj : ∀ p ∈ ops.zipIdx, ∀ q ∈ ops.zipIdx, p.2 = q.2 → p = q := by
    intro p hp q hq e
    rw [List.mem_zipIdx_iff_getElem?] at hp hq
    rw [e, hq] at hp
    obtain ⟨p1, p2⟩ := p
    obtain ⟨q1, q2⟩ := q
    simp only at e hp
    cases e
    cases hp
    rfl
  -- nothing ready: nothing left
  have done : ∀ (listed : Array Bool), listed.size = ops.length → Closed ops listed → Region.ready .any ops.toArray listed = [] → left listed ops.zipIdx = [] := by
    intro listed hsz hcl hr
    by_cases hx : ∃ i, i < ops.length ∧ listed.getD i false = false
    · exfalso
      obtain ⟨i, hi, hl⟩ := hx
      induction i using Nat.strongRecOn with
      | _ i ih =>
        have : i ∈ Region.ready .any ops.toArray listed ∨ ∃ j, j < i ∧ listed.getD j false = false := by
          by_cases hex : ∃ j, j < i ∧ listed.getD j false = false
          · exact .inr hex
          · left
            rw [mem_ready]
            refine ⟨?_, ops[i], by simp, fun e he hb => ?_⟩
            · have : i < listed.size := by omega
              simp only [Array.getD, this, dite_true] at hl ⊢
              exact hl
            · have hlt := okDraw_back hok (List.getElem?_eq_getElem hi) he hb
              cases hle : listed.getD e.on false with
              | true => rfl
              | false => exact absurd ⟨e.on, hlt, hle⟩ hex
        rcases this with h1 | ⟨j, hj, hjl⟩
        · rw [hr] at h1; cases h1
        · exact ih j hj (by omega) hjl
    · unfold left
      rw [List.map_eq_nil_iff, List.filter_eq_nil_iff]
      rintro ⟨o, i⟩ hm
      rw [List.mem_zipIdx_iff_getElem?] at hm
      have hi := (List.getElem?_eq_some_iff.1 hm).1
      cases hl : listed.getD i false with
      | true => simp [hl]
      | false => exact absurd ⟨i, hi, hl⟩ hx
  -- one of them goes
  have go : ∀ (fuel : Nat), (∀ (listed : Array Bool) (f : Emb) (a : Array Value) (h : AH) (a' : Act) (w : World),
      listed.size = ops.length → Closed ops listed → (left listed ops.zipIdx).length ≤ fuel → (∀ x ∈ left listed ops.zipIdx, isLoad x.op = true → Pres H0 h ∨ ∃ t, softOf t x.op = true ∧ SoftT P t H0 h) → awd P ops.toArray H0 Q (left listed ops.zipIdx) a h →
      Good P f0 h0 w0 f a h a' w → wpAnyIn (fenceR ro) 0 P .any ops.toArray (Lift P f0 h0 w0 Q) fuel listed a' w) →
      ∀ (listed : Array Bool) (f : Emb) (a : Array Value) (h : AH) (a' : Act) (w : World),
      listed.size = ops.length → Closed ops listed → (left listed ops.zipIdx).length ≤ fuel + 1 → (∀ x ∈ left listed ops.zipIdx, isLoad x.op = true → Pres H0 h ∨ ∃ t, softOf t x.op = true ∧ SoftT P t H0 h) → awd P ops.toArray H0 Q (left listed ops.zipIdx) a h →
      Good P f0 h0 w0 f a h a' w → ∀ i ∈ Region.ready .any ops.toArray listed, wpOpIn (fenceR ro) 0 P ops.toArray (Lift P f0 h0 w0 Q) i (wpAnyIn (fenceR ro) 0 P .any ops.toArray (Lift P f0 h0 w0 Q) fuel (listed.setIfInBounds i true)) a' w := by
    intro fuel ih listed f a h a' w hsz hcl hlen hpres H g i hi
    have hi0 := hi
    rw [mem_ready] at hi0
    obtain ⟨hun, o, ho, hall⟩ := hi0
    have ho' : ops[i]? = some o := by simpa using ho
    have hlt : i < ops.length := (List.getElem?_eq_some_iff.1 ho').1
    have hun' : listed.getD i false = false := by
      have : i < listed.size := by omega
      simp only [Array.getD, this, dite_true] at hun ⊢
      exact hun
    obtain ⟨l1, l2, e1, e2, e3⟩ := left_split (listed := listed) (i := i) (o := o) ops.zipIdx hinj hnd.1 (by rw [List.mem_zipIdx_iff_getElem?]; exact ho') hun' (by omega)
    have hsw : ∀ x ∈ l1, swapOk P ops.toArray x o = true := by
      intro x hx
      obtain ⟨j, hj, hjl⟩ := e3 x hx
      obtain ⟨hji, hm⟩ := mem_takeWhile_lt ops i 0 _ hj (Nat.zero_le _)
      rw [List.mem_zipIdx_iff_getElem?] at hm
      rcases okDraw_swap hok ho' hm hji with hh | hh
      · have := ready_hangs hcl hi hh
        rw [hjl] at this; cases this
      · exact hh
    rw [e1] at H hpres hlen
    have H2 := awd_front l1 hsw H
    rw [awd_cons] at H2
    have hcl2 : Closed ops (listed.setIfInBounds i true) := by
      intro k ok e hk hkl he hb
      by_cases hki : k = i
      · subst hki
        rw [ho'] at hk; cases hk
        exact getD_set_true (hall e he hb)
      · rw [getD_set_ne false (fun e => hki e.symm)] at hkl
        exact getD_set_true (hcl k ok e hk hkl he hb)
    have hlen2 : (left (listed.setIfInBounds i true) ops.zipIdx).length ≤ fuel := by
      rw [e2]; simp at hlen ⊢; omega
    have hsub : ∀ x ∈ l1 ++ l2, x ∈ l1 ++ o :: l2 := fun x hx => (by
      simp only [List.mem_append, List.mem_cons] at hx ⊢
      rcases hx with hx | hx
      · exact .inl hx
      · exact .inr (.inr hx))
    have next : ∀ (f1 : Emb) (b : Array Value) (h1 : AH) (b' : Act) (w1 : World), (∀ x ∈ l1 ++ l2, isLoad x.op = true → Pres H0 h1 ∨ ∃ t, softOf t x.op = true ∧ SoftT P t H0 h1) → awd P ops.toArray H0 Q (l1 ++ l2) b h1 → Good P f0 h0 w0 f1 b h1 b' w1 →
        wpAnyIn (fenceR ro) 0 P .any ops.toArray (Lift P f0 h0 w0 Q) fuel (listed.setIfInBounds i true) b' w1 := fun f1 b h1 b' w1 hp hk g1 =>
      ih _ f1 b h1 b' w1 (by simpa using hsz) hcl2 hlen2 (by rw [e2]; exact hp) (by rw [e2]; exact hk) g1
    unfold wpOpIn
    simp only [ho]
    unfold awd1 at H2
    split at H2
    · rename_i hg
      rw [if_neg (by simp [gval_wanted g.tm hg])]
      exact ⟨fun _ _ => trivial, next f _ h _ w (fun x hx => hpres x (hsub x hx)) H2 (g.step (Step.refl g.sim) (g.tm.aput o.dst undef_rel) (put_defers _ _ _))⟩
    · rename_i hg
      rw [if_pos (gval_wanted g.tm hg)]
      split at H2
      · rename_i hv
        split at H2
        · rename_i v h2 hval
          have hval2 : aop P (aeval P a) h o = some (.val v h) := by
            obtain ⟨u, hu⟩ := isV_val hv hval
            cases hu
            cases hl : isLoad o.op with
            | false => exact vop_pure hv hl hval
            | true =>
              rcases hpres o (by simp) hl with hp | ⟨t, hs, hp⟩
              · exact vop_load hp hl hval
              · exact vop_soft hp hs hval
          exact oper_wp g o hval2 (fun f1 b' w1 g1 => next f1 _ h b' w1 (fun x hx => hpres x (hsub x hx)) H2 g1) ro
        · exact H2.elim
      · rename_i hv
        have hlv : ∀ h1, (∀ t, isEntry t o.op = true → SoftT P t h h1) → leaves H0 (l1 ++ l2) o h1 → (∀ x ∈ l1 ++ l2, isLoad x.op = true → Pres H0 h1 ∨ ∃ t, softOf t x.op = true ∧ SoftT P t H0 h1) := fun h1 hent hl => by
          intro x hx hlx
          rcases hl with hl | ⟨_, hl⟩
          · exact .inl hl
          · right
            have hsp := hl x hx hlx
            unfold softPair at hsp
            split at hsp
            · rename_i t m0 k0 hop
              refine ⟨t, hsp, ?_⟩
              have hs0 : SoftT P t H0 h := by
                rcases hpres x (hsub x hx) hlx with hp | ⟨t', hs', hp⟩
                · exact .of_pres hp
                · have : t' = t := by
                    unfold softOf at hs' hsp
                    split at hs'
                    · rename_i t2 _ _ heq; rw [heq] at hsp; simp only [beq_iff_eq] at hs' hsp; exact hs'.symm.trans hsp
                    · cases hs'
                  subst this; exact hp
              exact hs0.then (hent t (by rw [hop]; simp [isEntry]))
            · cases hsp
        have hent : ∀ (v : Value) (h1 : AH), aop P (aeval P a) h o = some (.val v h1) → ∀ t, isEntry t o.op = true → SoftT P t h h1 := by
          intro v h1 hval t ht
          obtain ⟨dst, op, type, pos, after, guard⟩ := o
          cases op <;> simp only [isEntry] at ht <;> (try (cases ht; done))
          simp only [beq_iff_eq] at ht
          subst ht
          obtain ⟨v2, h2, h3, h4⟩ := avalh_some (show avalh (amEntry P h _ _ _) = _ from hval)
          cases h4
          exact soft_entry g.sim.ok h3
        split at H2
        · rename_i v h1 hval
          exact oper_wp g o hval (fun f1 b' w1 g1 => next f1 _ h1 b' w1 (hlv h1 (hent v h1 hval) H2.1) H2.2 g1) ro
        · rename_i h1 hval
          refine oper_wp g o hval (fun f1 b' w1 g1 => next f1 _ h1 b' w1 (hlv h1 (fun t ht => ?_) H2.1) H2.2 g1) ro
          exfalso
          obtain ⟨dst, op, type, pos, after, guard⟩ := o
          cases op <;> simp only [isEntry] at ht <;> (try (cases ht; done))
          obtain ⟨v2, h2, h3, h4⟩ := avalh_some (show avalh (amEntry P h _ _ _) = _ from hval)
          cases h4
        · rename_i F args hval
          obtain ⟨R, hc, _, hR⟩ := H2
          exact oper_wp g o hval ⟨R, hc, fun v h1 hr f1 b' w1 g1 => next f1 _ h1 b' w1 (fun x hx _ => .inl (hR v h1 hr).1) (hR v h1 hr).2 g1⟩ ro
        · exact H2.elim
    · exact H2.elim
  intro fuel
  induction fuel with
  | zero =>
    intro listed f a h a' w hsz hcl hlen hpres H g
    have : left listed ops.zipIdx = [] := List.length_eq_zero_iff.1 (by omega)
    have hr : Region.ready .any ops.toArray listed = [] := by
      cases hr : Region.ready .any ops.toArray listed with
      | nil => rfl
      | cons i r =>
        have hi : i ∈ Region.ready .any ops.toArray listed := by rw [hr]; simp
        rw [mem_ready] at hi
        obtain ⟨hun, o, ho, _⟩ := hi
        have ho' : ops[i]? = some o := by simpa using ho
        have hlt : i < ops.length := (List.getElem?_eq_some_iff.1 ho').1
        have hun' : listed.getD i false = false := by
          have : i < listed.size := by omega
          simp only [Array.getD, this, dite_true] at hun ⊢
          exact hun
        obtain ⟨l1, l2, e1, _⟩ := left_split (listed := listed) (i := i) (o := o) ops.zipIdx hinj hnd.1 (by rw [List.mem_zipIdx_iff_getElem?]; exact ho') hun' (by omega)
        rw [this] at e1
        simp at e1
    rw [this] at H
    exact ⟨hr, ⟨f, a, h, H, g⟩⟩
  | succ fuel ih =>
    intro listed f a h a' w hsz hcl hlen hpres H g
    refine ⟨fun hr => ?_, go fuel ih listed f a h a' w hsz hcl hlen hpres H g⟩
    rw [done listed hsz hcl hr] at H
    exact ⟨f, a, h, H, g⟩

theorem AWP.draw {P : Program} {h0 : AH} {id : Nat} {l : List Oper} {Q : Exit → Array Value → AH → Prop} {a : Array Value} {h : AH} (hm : P.follows .mixedOrders = true) (hok : okDraw P l = true) (ha : awd P l.toArray h Q l a h) :
    AWP P h0 (.region id l.toArray true) Q a h := by
  intro f0 w0 f a' w s0 g ro hrb
  refine wpIn_region_any hm ?_
  have hl : left (Array.replicate l.length false) l.zipIdx = l := by
    have : ∀ (r : List Oper) (k : Nat), left (Array.replicate l.length false) (r.zipIdx k) = r := by
      intro r
      induction r with
      | nil => intro k; rfl
      | cons x r ih =>
        intro k
        rw [List.zipIdx_cons, left_false (by simp only [Array.getD_eq_getD_getElem?, Array.getElem?_replicate]; split <;> rfl), ih]
    exact this l 0
  have := awd_any (Q := Q) (f0 := f0) (h0 := h0) (w0 := w0) hok ro l.length (Array.replicate l.length false) f a h a' w.drew (by simp) (fun i o e _ hl _ _ => by
    exfalso
    simp only [Array.getD_eq_getD_getElem?, Array.getElem?_replicate] at hl
    split at hl <;> cases hl) (by rw [hl]; exact Nat.le_refl _) (fun x _ _ => .inl fun b _ => rfl) (by rw [hl]; exact ha) (g.step (Step.drew g.sim) g.tm rfl)
  simpa using this

end Go.Am
set_option linter.unusedVariables false
set_option linter.unusedSimpArgs false
/- Equations, second part: regions that draw; types' closed facts; memory. -/
namespace Go.Am
open Go

/-- code, with regions that draw taken in -/
def ay (P : Program) (h0 : AH) : Code → (Exit → Array Value → AH → Prop) → Array Value → AH → Prop
  | .skip, Q, a, h => Q .normal a h
  | .region _ ops false, Q, a, h => awl P ops Q ops.toList a h
  | .region _ ops true, Q, a, h => okDraw P ops.toList = true ∧ P.follows .mixedOrders = true ∧ awd P ops h Q ops.toList a h
  | .seq x y, Q, a, h => ay P h0 x (thenA (ay P h0 y Q) Q) a h
  | .cond c x y, Q, a, h => ∃ t, aeval P a c = .bool t ∧ (t = true → ay P h0 x Q a h) ∧ (t = false → ay P h0 y Q a h)
  | .block id c, Q, a, h => ay P h0 c (inBlockA id Q) a h
  | .exit id, Q, a, h => Q (.exit id) a h
  | .ret, Q, a, h => Q .ret a h
  | .label _, Q, a, h => Q .normal a h
  | c, Q, a, h => AWP P h0 c Q a h

theorem ay_sound {P : Program} {h0 : AH} (c : Code) : ∀ (Q : Exit → Array Value → AH → Prop) (a : Array Value) (h : AH), ay P h0 c Q a h → AWP P h0 c Q a h := by
  induction c with
  | skip => intro Q a h ha f0 w0 f a' w s0 g ro hrb; exact Go.wpIn_skip ⟨f, a, h, ha, g⟩
  | region id ops draw =>
    intro Q a h ha
    cases draw with
    | false => exact AWP.region ha
    | true =>
      obtain ⟨h1, h2, h3⟩ := ha
      have := AWP.draw (P := P) (h0 := h0) (id := id) (l := ops.toList) (Q := Q) (a := a) (h := h) h2 h1 (by simpa using h3)
      simpa using this
  | seq x y ihx ihy => intro Q a h ha; exact AWP.seq (AWP.mono (ihx _ a h ha) (thenA_mono fun a h hx => ihy Q a h hx))
  | cond c x y ihx ihy =>
    intro Q a h ha f0 w0 f a' w s0 g ro hrb
    obtain ⟨t, ht, h1, h2⟩ := ha
    have hc := aeval_rel g.sim g.tm c
    rw [ht] at hc
    refine wpIn_cond_split hc.bool_inv (fun e => ?_) (fun e => ?_)
    · exact ihx Q a h (h1 e) f0 w0 f a' w s0 g ro hrb
    · exact ihy Q a h (h2 e) f0 w0 f a' w s0 g ro hrb
  | block id c ih => intro Q a h ha; exact AWP.block (ih _ a h ha)
  | loop c ih => intro Q a h ha; exact ha
  | rangeFunc f ps as c ih1 ih2 => intro Q a h ha; exact ha
  | exit id => intro Q a h ha f0 w0 f a' w s0 g ro hrb; exact Go.wpIn_exit ⟨f, a, h, ha, g⟩
  | scope c ih => intro Q a h ha; exact ha
  | label l => intro Q a h ha f0 w0 f a' w s0 g ro hrb; exact Go.wpIn_label ⟨f, a, h, ha, g⟩
  | goto l => intro Q a h ha; exact ha
  | ret => intro Q a h ha f0 w0 f a' w s0 g ro hrb; exact Go.wpIn_ret ⟨f, a, h, ha, g⟩
  | refuse why => intro Q a h ha; exact ha

theorem ACalls.of_ay {P : Program} {F : FuncId} {fn : Func} {c : Code} (hf : P.funcs[F]? = some fn) (hb : fn.body = some c) {n : Nat} (hn : fn.ntmps = n) {args : List Value} {h : AH} {R : Value → AH → Prop} (inh : ∃ v h', R v h')
    (ha : ay P h c (apost P h fn R) (args ++ List.replicate (n - args.length) undef).toArray h) : ACalls P F args.toArray h R := by
  subst hn
  refine ACalls.of_awp hf hb inh (ay_sound c _ _ _ ?_)
  have e : (args.toArray ++ Array.replicate (fn.ntmps - args.toArray.size) undef) = (args ++ List.replicate (fn.ntmps - args.length) undef).toArray := by
    simp
  rw [e]
  exact ha

section
variable {P : Program} {ops : Array Oper} {Q : Exit → Array Value → AH → Prop} {rest : List Oper} {a : Array Value} {h H0 h0 : AH} {dst : Option Tmp} {ty : TypeId} {pos : String} {after : Array Edge}

theorem ay_skip : ay P h0 .skip Q a h = Q .normal a h := rfl
theorem ay_region {id : Nat} {l : List Oper} : ay P h0 (.region id l.toArray false) Q a h = awl P l.toArray Q l a h := rfl
theorem ay_draw {id : Nat} {l : List Oper} : ay P h0 (.region id l.toArray true) Q a h = (okDraw P l = true ∧ P.follows .mixedOrders = true ∧ awd P l.toArray h Q l a h) := rfl
theorem ay_seq {x y : Code} : ay P h0 (.seq x y) Q a h = ay P h0 x (thenA (ay P h0 y Q) Q) a h := rfl
theorem ay_block {id : Nat} {c : Code} : ay P h0 (.block id c) Q a h = ay P h0 c (inBlockA id Q) a h := rfl
theorem ay_exit {id : Nat} : ay P h0 (.exit id) Q a h = Q (.exit id) a h := rfl
theorem ay_ret : ay P h0 .ret Q a h = Q .ret a h := rfl
theorem ay_loop {c : Code} : ay P h0 (.loop c) Q a h = AWP P h0 (.loop c) Q a h := rfl
def ycond (P : Program) (h0 : AH) (x y : Code) (Q : Exit → Array Value → AH → Prop) (a : Array Value) (h : AH) (v : Value) : Prop :=
  ∃ t, v = .bool t ∧ (t = true → ay P h0 x Q a h) ∧ (t = false → ay P h0 y Q a h)
theorem ay_cond {c : Operand} {x y : Code} : ay P h0 (.cond c x y) Q a h = ycond P h0 x y Q a h (aeval P a c) := rfl
theorem ycond_bool {x y : Code} {t : Bool} : ycond P h0 x y Q a h (.bool t) = ((t = true → ay P h0 x Q a h) ∧ (t = false → ay P h0 y Q a h)) := by
  unfold ycond
  apply propext
  constructor
  · rintro ⟨t', e, h1⟩; cases e; exact h1
  · intro h1; exact ⟨t, rfl, h1⟩

/-- what follows an operation, in a region that draws -/
def dstep (P : Program) (ops : Array Oper) (H0 : AH) (Q : Exit → Array Value → AH → Prop) (rest : List Oper) (o : Oper) (a : Array Value) (h : AH) : Option ARes → Prop
  | some (.val v h1) => leaves H0 rest o h1 ∧ awd P ops H0 Q rest (aput a o.dst v) h1
  | some (.skip h1) => leaves H0 rest o h1 ∧ awd P ops H0 Q rest (aput a o.dst undef) h1
  | some (.enter F args) => ∃ R, ACalls P F args h R ∧ Calm P ops F args h R ∧ ∀ v h1, R v h1 → Pres H0 h1 ∧ awd P ops H0 Q rest (aput a o.dst v) h1
  | _ => False
def dvstep (P : Program) (ops : Array Oper) (H0 : AH) (Q : Exit → Array Value → AH → Prop) (rest : List Oper) (dst : Option Tmp) (a : Array Value) (h : AH) : Option ARes → Prop
  | some (.val v _) => awd P ops H0 Q rest (aput a dst v) h
  | _ => False
def dgate (P : Program) (ops : Array Oper) (H0 : AH) (Q : Exit → Array Value → AH → Prop) (rest : List Oper) (o : Oper) (a : Array Value) (h : AH) : Option Bool → Prop
  | some false => awd P ops H0 Q rest (aput a o.dst undef) h
  | some true => bif isV P o.op then dvstep P ops H0 Q rest o.dst a h (aop P (aeval P a) H0 o) else dstep P ops H0 Q rest o a h (aop P (aeval P a) h o)
  | none => False
theorem awd_nil : awd P ops H0 Q [] a h = Q .normal a h := rfl
theorem awd_gate {o : Oper} : awd P ops H0 Q (o :: rest) a h = dgate P ops H0 Q rest o a h (gval ops a o) := by
  simp only [awd]
  unfold dgate dvstep dstep
  cases gval ops a o with
  | none => rfl
  | some b =>
    cases b with
    | false => rfl
    | true =>
      simp only []
      cases hv : isV P o.op <;> simp only [cond_true, cond_false, if_true, if_false, Bool.false_eq_true] <;> rfl
theorem gval_none {op : Op} : gval ops a ⟨dst, op, ty, pos, after, none⟩ = some true := rfl
theorem dgate_false {o : Oper} : dgate P ops H0 Q rest o a h (some false) = awd P ops H0 Q rest (aput a o.dst undef) h := rfl
theorem dgate_true {o : Oper} : dgate P ops H0 Q rest o a h (some true) = bif isV P o.op then dvstep P ops H0 Q rest o.dst a h (aop P (aeval P a) H0 o) else dstep P ops H0 Q rest o a h (aop P (aeval P a) h o) := rfl
theorem dvstep_val {v : Value} {h1 : AH} : dvstep P ops H0 Q rest dst a h (some (.val v h1)) = awd P ops H0 Q rest (aput a dst v) h := rfl
theorem dstep_val {o : Oper} {v : Value} {h1 : AH} : dstep P ops H0 Q rest o a h (some (.val v h1)) = (leaves H0 rest o h1 ∧ awd P ops H0 Q rest (aput a o.dst v) h1) := rfl
theorem dstep_skip {o : Oper} {h1 : AH} : dstep P ops H0 Q rest o a h (some (.skip h1)) = (leaves H0 rest o h1 ∧ awd P ops H0 Q rest (aput a o.dst undef) h1) := rfl
theorem dstep_enter {o : Oper} {F : FuncId} {args : Array Value} : dstep P ops H0 Q rest o a h (some (.enter F args)) = ∃ R, ACalls P F args h R ∧ Calm P ops F args h R ∧ ∀ v h1, R v h1 → Pres H0 h1 ∧ awd P ops H0 Q rest (aput a o.dst v) h1 := rfl
end

/-! ### closed facts of types -/
/-- an aggregate? how many cells? -/
def tyc (P : Program) (t : TypeId) : Option (Bool × Nat) :=
  match P.underlying t, P.info? t with
  | some d, some i => some (isAggD d, i.size)
  | _, _ => none

/-- a struct's field: where, an aggregate?, how many cells -/
def fld (P : Program) (t : TypeId) (k : Nat) : Option (Nat × Bool × Nat) :=
  match P.underlying t with
  | some (.struct fields) => match fields[k]? with
    | some fd => match tyc P fd.type with
      | some (g, n) => some (fd.offset, g, n)
      | none => none
    | none => none
  | _ => none

/-- an array: how long, of aggregates?, of how many cells -/
def arr (P : Program) (t : TypeId) : Option (Nat × Bool × Nat) :=
  match P.underlying t with
  | some (.array n elem) => match tyc P elem with
    | some (g, m) => some (n, g, m)
    | none => none
  | _ => none

/-- a slice: of aggregates?, of how many cells and bytes -/
def slc (P : Program) (t : TypeId) : Option (Bool × Nat × Nat) :=
  match P.underlying t with
  | some (.slice elem) => match tyc P elem, P.info? elem with
    | some (g, m), some ie => some (g, m, ie.bytes)
    | _, _ => none
  | _ => none

section
variable {P : Program} {h : AH} {t : TypeId} {b o n m : Nat} {c : Array Value} {es : Nat} {rw g : Bool} {v : Value}

theorem aload_agg (ht : tyc P t = some (true, n)) (hb : h[b]? = some (.cells c es rw)) (hle : o + n ≤ c.size) : aload P h t (.pointer (some ⟨b, o, none⟩)) = some (.agg (c.extract o (o + n))) := by
  unfold tyc at ht
  split at ht
  · rename_i d i hu hi
    simp only [Option.some.injEq, Prod.mk.injEq] at ht
    obtain ⟨h1, h2⟩ := ht
    simp only [aload, aloadRow, hb, hu, hi, h1, h2, if_true, hle]
  · cases ht
theorem aload_whole (ht : tyc P t = some (true, n)) (hb : h[b]? = some (.cells c es rw)) (hn : c.size = n) : aload P h t (.pointer (some ⟨b, 0, none⟩)) = some (.agg c) := by
  rw [aload_agg ht hb (by omega)]
  subst hn
  simp
theorem aload_cell (ht : tyc P t = some (false, n)) (hb : h[b]? = some (.cells c es rw)) (hc : c[o]? = some v) : aload P h t (.pointer (some ⟨b, o, none⟩)) = some v := by
  unfold tyc at ht
  split at ht
  · rename_i d i hu hi
    simp only [Option.some.injEq, Prod.mk.injEq] at ht
    obtain ⟨h1, h2⟩ := ht
    simp only [aload, aloadRow, hb, hu, hi, h1, Bool.false_eq_true, if_false, hc]
  · cases ht

theorem astore_eq (ht : tyc P t = some (g, n)) (hb : h[b]? = some (.cells c es true)) (hs : storable v = true) (hn : v.cells.size = n) (hle : o + n ≤ c.size) :
    astore P h t (.pointer (some ⟨b, o, none⟩)) v = some (h.set b (.cells (blit c o v.cells.toList) es true)) := by
  unfold tyc at ht
  split at ht
  · rename_i d i hu hi
    simp only [Option.some.injEq, Prod.mk.injEq] at ht
    obtain ⟨h1, h2⟩ := ht
    have : storable v = true ∧ v.cells.size = i.size ∧ o + v.cells.size ≤ c.size := ⟨hs, by omega, by omega⟩
    simp only [astore, hb, hi]
    rw [if_pos this]
  · cases ht

theorem blit_whole (c : Array Value) (vs : List Value) (h : vs.length = c.size) : blit c 0 vs = vs.toArray := by
  have key : ∀ (vs : List Value) (c : Array Value) (o : Nat), o + vs.length = c.size → blit c o vs = (c.toList.take o ++ vs).toArray := by
    intro vs
    induction vs with
    | nil =>
      intro c o h
      simp at h
      subst h
      rw [blit, List.append_nil, List.take_of_length_le (by simp)]
    | cons v r ih =>
      intro c o h
      simp only [List.length_cons] at h
      rw [blit, ih _ _ (by simp; omega)]
      congr 1
      rw [Array.toList_setIfInBounds]
      have ho : o < c.toList.length := by simp; omega
      rw [List.take_add_one, List.take_set_of_le (by omega), List.getElem?_set_self ho]
      simp
  have := key vs c 0 (by omega)
  simpa using this

/-- a variable of an aggregate type, written whole -/
theorem astore_whole {x : Array Value} (ht : tyc P t = some (g, n)) (hb : h[b]? = some (.cells c es true)) (hn : x.size = n) (hc : c.size = n) :
    astore P h t (.pointer (some ⟨b, 0, none⟩)) (.agg x) = some (h.set b (.cells x es true)) := by
  rw [astore_eq (v := .agg x) ht hb rfl hn (by omega), blit_whole _ _ (by simp [Value.cells]; omega)]
  simp [Value.cells]
theorem astore_cell (ht : tyc P t = some (g, 1)) (hb : h[b]? = some (.cells c es true)) (hs : storable v = true) (hv : v.cells = #[v]) (ho : o < c.size) :
    astore P h t (.pointer (some ⟨b, o, none⟩)) v = some (h.set b (.cells (c.setIfInBounds o v) es true)) := by
  rw [astore_eq ht hb hs (by rw [hv]; rfl) (by omega), hv]
  rfl

theorem abox_agg {x : Array Value} : abox h (.agg x) = some (.pointer (some ⟨h.length, 0, none⟩), h ++ [.cells x 0 true]) := rfl
theorem abox_int {k : IntKind} {z : Int} : abox h (.int k z) = some (.pointer (some ⟨h.length, 0, none⟩), h ++ [.cells #[.int k z] 0 true]) := rfl
theorem abox_bool {z : Bool} : abox h (.bool z) = some (.pointer (some ⟨h.length, 0, none⟩), h ++ [.cells #[.bool z] 0 true]) := rfl
theorem abox_slice {x : Option Addr} {l k : Nat} : abox h (.slice x l k) = some (.pointer (some ⟨h.length, 0, none⟩), h ++ [.cells #[.slice x l k] 0 true]) := rfl
theorem abox_map {x : Option Nat} : abox h (.map x) = some (.pointer (some ⟨h.length, 0, none⟩), h ++ [.cells #[.map x] 0 true]) := rfl
theorem abox_string {s : ByteArray} : abox h (.string s) = some (.pointer (some ⟨h.length, 0, none⟩), h ++ [.cells #[.string s] 0 true]) := rfl
theorem abox_pointer {x : Option Addr} : abox h (.pointer x) = some (.pointer (some ⟨h.length, 0, none⟩), h ++ [.cells #[.pointer x] 0 true]) := rfl
theorem abox_func {F : Fn} {xs cs : Array Value} : abox h (.func F xs cs) = some (.pointer (some ⟨h.length, 0, none⟩), h ++ [.cells #[.func F xs cs] 0 true]) := rfl

theorem aalloc_eq {zc : Array Value} (hz : zeroCellsOf P t = some zc) : aalloc P h t = some (.pointer (some ⟨h.length, 0, none⟩), h ++ [.cells zc 0 true]) := by
  obtain ⟨i, z, hi, hz', hzc, hall, hsz, hpos⟩ := zeroCellsOf_spec hz
  have hp : plainB z = true ∧ storable z = true := by
    cases z with
    | agg cs => simp only [Value.cells] at hzc; subst hzc; exact ⟨hall, rfl⟩
    | _ =>
      simp only [Value.cells] at hzc
      subst hzc
      simp only [List.all_toArray, List.all_cons, List.all_nil, Bool.and_true] at hall
      first
        | (simp [plain1] at hall; done)
        | exact ⟨by simpa [plainB] using hall, rfl⟩
        | (refine ⟨by cases ‹Option _› <;> simp_all [plainB, plain1], rfl⟩)
  simp only [aalloc, hi, hz', hp.1, hp.2, Bool.and_self, if_true, hzc, (zeroCellsOf_tag hz).2, Bool.false_eq_true, if_false]

theorem afieldAddr_eq {k off : Nat} (hf : fld P t k = some (off, g, n)) (hn : n ≠ 0) : afieldAddr P t (.pointer (some ⟨b, o, none⟩)) k = some (.pointer (some ⟨b, o + off, none⟩)) := by
  unfold fld at hf
  split at hf
  · rename_i fields hu
    split at hf
    · rename_i fd hfd
      split at hf
      · rename_i g' n' ht
        simp only [Option.some.injEq, Prod.mk.injEq] at hf
        obtain ⟨rfl, rfl, rfl⟩ := hf
        unfold tyc at ht
        split at ht
        · rename_i d i hud hi
          simp only [Option.some.injEq, Prod.mk.injEq] at ht
          obtain ⟨h1, h2⟩ := ht
          simp only [afieldAddr, hu, hfd, hi]
          rw [if_neg (by omega)]
        · cases ht
      · cases hf
    · cases hf
  · cases hf

theorem apart_agg {x : Array Value} (ht : tyc P t = some (true, n)) (hle : o + n ≤ x.size) : apart P t x o = some (.agg (x.extract o (o + n))) := by
  unfold tyc at ht
  split at ht
  · rename_i d i hu hi
    simp only [Option.some.injEq, Prod.mk.injEq] at ht
    obtain ⟨h1, h2⟩ := ht
    simp only [apart, hu, hi, h1, h2, if_true, hle]
  · cases ht
theorem apart_cell {x : Array Value} (ht : tyc P t = some (false, n)) (hc : x[o]? = some v) : apart P t x o = some v := by
  unfold tyc at ht
  split at ht
  · rename_i d i hu hi
    simp only [Option.some.injEq, Prod.mk.injEq] at ht
    obtain ⟨h1, h2⟩ := ht
    simp only [apart, hu, hi, h1, Bool.false_eq_true, if_false, hc]
  · cases ht

theorem fld_spec {k off : Nat} (hf : fld P t k = some (off, g, n)) : ∃ fields fd, P.underlying t = some (.struct fields) ∧ fields[k]? = some fd ∧ fd.offset = off ∧ tyc P fd.type = some (g, n) := by
  unfold fld at hf
  split at hf
  · rename_i fields hu
    split at hf
    · rename_i fd hfd
      split at hf
      · rename_i g' n' ht
        simp only [Option.some.injEq, Prod.mk.injEq] at hf
        obtain ⟨rfl, rfl, rfl⟩ := hf
        exact ⟨fields, fd, hu, hfd, rfl, ht⟩
      · cases hf
    · cases hf
  · cases hf

theorem afield_agg {x : Array Value} {k off : Nat} (hf : fld P t k = some (off, true, n)) (hle : off + n ≤ x.size) : afield P t (.agg x) k = some (.agg (x.extract off (off + n))) := by
  obtain ⟨fields, fd, hu, hfd, ho, ht⟩ := fld_spec hf
  subst ho
  simp only [afield, hu, hfd, apart_agg ht hle]
theorem afield_cell {x : Array Value} {k off : Nat} (hf : fld P t k = some (off, false, n)) (hc : x[off]? = some v) : afield P t (.agg x) k = some v := by
  obtain ⟨fields, fd, hu, hfd, ho, ht⟩ := fld_spec hf
  subst ho
  simp only [afield, hu, hfd, apart_cell ht hc]

theorem arr_spec (ha : arr P t = some (n, g, m)) : ∃ elem ie, P.underlying t = some (.array n elem) ∧ tyc P elem = some (g, m) ∧ P.info? elem = some ie ∧ ie.size = m := by
  unfold arr at ha
  split at ha
  · rename_i n' elem hu
    split at ha
    · rename_i g' m' ht
      simp only [Option.some.injEq, Prod.mk.injEq] at ha
      obtain ⟨rfl, rfl, rfl⟩ := ha
      have ht0 := ht
      unfold tyc at ht
      split at ht
      · rename_i d i hud hi
        simp only [Option.some.injEq, Prod.mk.injEq] at ht
        exact ⟨elem, i, hu, ht0, hi, ht.2⟩
      · cases ht
    · cases ha
  · cases ha

theorem slc_spec {by_ : Nat} (ha : slc P t = some (g, m, by_)) : ∃ elem ie, P.underlying t = some (.slice elem) ∧ tyc P elem = some (g, m) ∧ P.info? elem = some ie ∧ ie.size = m ∧ ie.bytes = by_ := by
  unfold slc at ha
  split at ha
  · rename_i elem hu
    split at ha
    · rename_i g' m' ie ht hie
      simp only [Option.some.injEq, Prod.mk.injEq] at ha
      obtain ⟨rfl, rfl, rfl⟩ := ha
      have ht0 := ht
      unfold tyc at ht
      rw [hie] at ht
      split at ht
      · rename_i d i hud hi
        cases hi
        simp only [Option.some.injEq, Prod.mk.injEq] at ht
        exact ⟨elem, ie, hu, ht0, hie, ht.2, rfl⟩
      · cases ht
    · cases ha
  · cases ha

theorem aindex_cell {x : Array Value} {k : IntKind} {i : Int} (ha : arr P t = some (n, false, m)) (h0 : 0 ≤ i) (h1 : i < n) (hc : x[i.toNat * m]? = some v) : aindex P t (.agg x) (.int k i) = some v := by
  obtain ⟨elem, ie, hu, ht, hie, hsz⟩ := arr_spec ha
  simp only [aindex, hu, hie, h0, h1, and_self, if_true, hsz, apart_cell ht hc]
theorem aindex_agg {x : Array Value} {k : IntKind} {i : Int} (ha : arr P t = some (n, true, m)) (h0 : 0 ≤ i) (h1 : i < n) (hle : i.toNat * m + m ≤ x.size) : aindex P t (.agg x) (.int k i) = some (.agg (x.extract (i.toNat * m) (i.toNat * m + m))) := by
  obtain ⟨elem, ie, hu, ht, hie, hsz⟩ := arr_spec ha
  simp only [aindex, hu, hie, h0, h1, and_self, if_true, hsz, apart_agg ht hle]
theorem aindexAddr_arr {k : IntKind} {i : Int} (ha : arr P t = some (n, g, m)) (h0 : 0 ≤ i) (h1 : i < n) : aindexAddr P t (.pointer (some ⟨b, o, none⟩)) (.int k i) = some (.pointer (some ⟨b, o + i.toNat * m, none⟩)) := by
  obtain ⟨elem, ie, hu, ht, hie, hsz⟩ := arr_spec ha
  simp only [aindexAddr, hu, hie, h0, h1, and_self, if_true, hsz]
theorem aindexAddr_slc {k : IntKind} {i : Int} {len cap by_ : Nat} (ha : slc P t = some (g, m, by_)) (h0 : 0 ≤ i) (h1 : i < len) : aindexAddr P t (.slice (some ⟨b, o, none⟩) len cap) (.int k i) = some (.pointer (some ⟨b, o + i.toNat * m, none⟩)) := by
  obtain ⟨elem, ie, hu, ht, hie, hsz, _⟩ := slc_spec ha
  simp only [aindexAddr, hu, hie, h0, h1, and_self, if_true, hsz]
theorem alen_slc {by_ : Nat} {x : Option Addr} {len cap : Nat} (ha : slc P t = some (g, m, by_)) : alen P h t (.slice x len cap) = some (.int .i64 len) := by
  obtain ⟨elem, ie, hu, _⟩ := slc_spec ha
  simp only [alen, hu]
theorem alen_arr {x : Value} (ha : arr P t = some (n, g, m)) : alen P h t x = some (.int .i64 n) := by
  obtain ⟨elem, ie, hu, _⟩ := arr_spec ha
  simp only [alen, hu]

/-! heaps -/
theorem at_old {H : AH} {x : AObj} (hb : H[b]? = some x) (l : AH) : (H ++ l)[b]? = some x := by
  rw [List.getElem?_append_left (List.getElem?_eq_some_iff.1 hb).1]; exact hb
theorem at_new (H l : AH) (k : Nat) : (H ++ l)[H.length + k]? = l[k]? := by
  rw [List.getElem?_append_right (by omega)]; congr 1; omega
theorem at_new0 (H l : AH) : (H ++ l)[H.length]? = l[0]? := at_new H l 0
theorem set_new (H l : AH) (k : Nat) (x : AObj) : (H ++ l).set (H.length + k) x = H ++ l.set k x := by
  rw [List.set_append_right _ _ (by omega)]; congr 2; omega
theorem set_new0 (H l : AH) (x : AObj) : (H ++ l).set H.length x = H ++ l.set 0 x := set_new H l 0 x
end
end Go.Am
