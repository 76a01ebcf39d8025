import Derived.Test.YtogefnepdjkioaaAm12
set_option linter.unusedVariables false
set_option linter.unusedSimpArgs false
/- Equations by which code is run on an abstract heap. -/
namespace Go.Am
open Go

theorem getD_lit (l : List Value) (i : Nat) : (l.toArray).getD i junk = l.getD i junk := by simp [Array.getD_eq_getD_getElem?, List.getD]
theorem aput_lit (l : List Value) (d : Nat) (v : Value) : aput l.toArray (some d) v = (l.set d v).toArray := by simp [aput]
theorem aput_none (a : Array Value) (v : Value) : aput a none v = a := rfl

section
variable {P : Program} {ops : Array Oper} {Q : Exit → Array Value → AH → Prop} {rest : List Oper} {a : Array Value} {h : AH} {ρ : Operand → Value} {dst : Option Tmp} {ty : TypeId} {pos : String} {after : Array Edge} {guard : Option (Nat × Bool)}

/-- what follows an operation -/
def astep (P : Program) (ops : Array Oper) (Q : Exit → Array Value → AH → Prop) (rest : List Oper) (dst : Option Tmp) (a : Array Value) (h : AH) : Option ARes → Prop
  | some (.val v h1) => awl P ops Q rest (aput a dst v) h1
  | some (.skip h1) => awl P ops Q rest (aput a dst undef) h1
  | some (.enter F args) => ∃ R, ACalls P F args h R ∧ ∀ v h1, R v h1 → awl P ops Q rest (aput a dst v) h1
  | some (.any S) => ∀ v h1, S v h1 → awl P ops Q rest (aput a dst v) h1
  | none => False

theorem awl_nil : awl P ops Q [] a h = Q .normal a h := rfl
theorem awl_cons {op : Op} : awl P ops Q (⟨dst, op, ty, pos, after, none⟩ :: rest) a h = astep P ops Q rest dst a h (aop P (aeval P a) h ⟨dst, op, ty, pos, after, none⟩) := by
  simp only [awl, gval]
  unfold astep
  rfl
def agate (P : Program) (ops : Array Oper) (Q : Exit → Array Value → AH → Prop) (rest : List Oper) (o : Oper) (a : Array Value) (h : AH) : Option Bool → Prop
  | some false => awl P ops Q rest (aput a o.dst undef) h
  | some true => astep P ops Q rest o.dst a h (aop P (aeval P a) h o)
  | none => False
theorem awl_guard {op : Op} {gd : Nat × Bool} : awl P ops Q (⟨dst, op, ty, pos, after, some gd⟩ :: rest) a h = agate P ops Q rest ⟨dst, op, ty, pos, after, some gd⟩ a h (gval ops a ⟨dst, op, ty, pos, after, some gd⟩) := by
  simp only [awl]
  unfold agate astep
  rfl
theorem agate_false {o : Oper} : agate P ops Q rest o a h (some false) = awl P ops Q rest (aput a o.dst undef) h := rfl
theorem agate_true {o : Oper} : agate P ops Q rest o a h (some true) = astep P ops Q rest o.dst a h (aop P (aeval P a) h o) := rfl
theorem astep_val {v : Value} {h1 : AH} : astep P ops Q rest dst a h (some (.val v h1)) = awl P ops Q rest (aput a dst v) h1 := rfl
theorem astep_skip {h1 : AH} : astep P ops Q rest dst a h (some (.skip h1)) = awl P ops Q rest (aput a dst undef) h1 := rfl
theorem astep_enter {F : FuncId} {args : Array Value} : astep P ops Q rest dst a h (some (.enter F args)) = ∃ R, ACalls P F args h R ∧ ∀ v h1, R v h1 → awl P ops Q rest (aput a dst v) h1 := rfl

theorem aop_move {x : Operand} : aop P ρ h ⟨dst, .move x, ty, pos, after, guard⟩ = some (.val (ρ x) h) := rfl
theorem aop_assign {x : Operand} : aop P ρ h ⟨dst, .assign x, ty, pos, after, guard⟩ = some (.val (ρ x) h) := rfl
def apick (h : AH) (x y : Value) : Value → Option ARes
  | .bool t => some (.val (if t then x else y) h)
  | _ => none
theorem aop_pick {c x y : Operand} : aop P ρ h ⟨dst, .pick c x y, ty, pos, after, guard⟩ = apick h (ρ x) (ρ y) (ρ c) := by
  simp only [aop]; unfold apick; rfl
theorem apick_bool {x y : Value} {t : Bool} : apick h x y (.bool t) = some (.val (if t then x else y) h) := rfl
theorem aop_alloc {e : TypeId} : aop P ρ h ⟨dst, .alloc e, ty, pos, after, guard⟩ = avalh (aalloc P h e) := rfl
theorem aop_box {e : TypeId} {x : Operand} : aop P ρ h ⟨dst, .box e x, ty, pos, after, guard⟩ = avalh (abox h (ρ x)) := rfl
theorem aop_build {t : TypeId} {ps : List (Nat × Operand)} : aop P ρ h ⟨dst, .build t ps.toArray, ty, pos, after, guard⟩ = aval h (abuild P t (ps.map fun (i, x) => (i, ρ x))) := rfl
theorem aop_buildSlice {t : TypeId} {n : Nat} {ps : List (Nat × Operand)} : aop P ρ h ⟨dst, .buildSlice t n ps.toArray, ty, pos, after, guard⟩ = avalh (abuildSlice P h t n (ps.map fun (i, x) => (i, ρ x))) := rfl
theorem aop_load {t : TypeId} {x : Operand} : aop P ρ h ⟨dst, .load t x, ty, pos, after, guard⟩ = aval h (aload P h t (ρ x)) := rfl
theorem aop_store {t : TypeId} {x y : Operand} : aop P ρ h ⟨dst, .store t x y, ty, pos, after, guard⟩ = askip (astore P h t (ρ x) (ρ y)) := rfl
theorem aop_nilCheck {x : Operand} : aop P ρ h ⟨dst, .nilCheck x, ty, pos, after, guard⟩ = aval h (anilCheck (ρ x)) := rfl
theorem aop_binOp {op : BinOp} {t u : TypeId} {x y : Operand} : aop P ρ h ⟨dst, .binOp op t x y u, ty, pos, after, guard⟩ = aval h (abinOp P op t x y (ρ x) (ρ y)) := rfl
theorem aop_unOp {op : UnOp} {t : TypeId} {x : Operand} : aop P ρ h ⟨dst, .unOp op t x, ty, pos, after, guard⟩ = aval h (aunOp P op (ρ x)) := rfl
theorem aop_convert {s d : TypeId} {x : Operand} : aop P ρ h ⟨dst, .convert s d x, ty, pos, after, guard⟩ = avalh (aconvert P h s d (ρ x)) := rfl
theorem aop_arrayPtr {t : TypeId} {x : Operand} : aop P ρ h ⟨dst, .sliceToArrayPointer t x, ty, pos, after, guard⟩ = aval h (aarrayPtr P t (ρ x)) := rfl
theorem aop_makeInterface {t : TypeId} {x : Operand} : aop P ρ h ⟨dst, .makeInterface t x, ty, pos, after, guard⟩ = aval h (amakeIface P t (ρ x)) := rfl
theorem aop_makeFunc {F : FuncId} {xs cs : List Operand} : aop P ρ h ⟨dst, .makeFunc (.func F) xs.toArray cs.toArray, ty, pos, after, guard⟩ = some (.val (.func (.func F) (xs.map ρ).toArray (cs.map ρ).toArray) h) := by
  simp only [aop, amakeFunc, aval, List.map_toArray]
theorem aop_makeMap {t : TypeId} : aop P ρ h ⟨dst, .makeMap t none, ty, pos, after, guard⟩ = avalh (amMake P h t) := rfl
theorem aop_makeSlice {t : TypeId} {l c : Operand} : aop P ρ h ⟨dst, .makeSlice t l c, ty, pos, after, guard⟩ = avalh (amakeSlice P h t (ρ l) (ρ c)) := rfl
theorem aop_slice {t : TypeId} {x : Operand} {lo hi : Option Operand} : aop P ρ h ⟨dst, .slice t x lo hi none, ty, pos, after, guard⟩ = aval h (aslice P h t (ρ x) (lo.map ρ) (hi.map ρ)) := rfl
theorem aop_fieldAddr {t : TypeId} {x : Operand} {k : Nat} : aop P ρ h ⟨dst, .fieldAddr t x k, ty, pos, after, guard⟩ = aval h (afieldAddr P t (ρ x) k) := rfl
theorem aop_field {t : TypeId} {x : Operand} {k : Nat} : aop P ρ h ⟨dst, .field t x k, ty, pos, after, guard⟩ = aval h (afield P t (ρ x) k) := rfl
theorem aop_indexAddr {t : TypeId} {x i : Operand} : aop P ρ h ⟨dst, .indexAddr t x i, ty, pos, after, guard⟩ = aval h (aindexAddr P t (ρ x) (ρ i)) := rfl
theorem aop_index {t : TypeId} {x i : Operand} : aop P ρ h ⟨dst, .index t x i, ty, pos, after, guard⟩ = aval h (aindex P t (ρ x) (ρ i)) := rfl
theorem aop_extract {x : Operand} {k : Nat} : aop P ρ h ⟨dst, .extract x k, ty, pos, after, guard⟩ = aval h (aextract (ρ x) k) := rfl
theorem aop_call {f : Operand} {args : List Operand} {ts : Array TypeId} : aop P ρ h ⟨dst, .call ⟨.value f, args.toArray, ts⟩, ty, pos, after, guard⟩ = acall P h (ρ f) (args.map ρ).toArray := by
  simp only [aop, List.map_toArray]
theorem aop_len {x : Operand} {t : TypeId} : aop P ρ h ⟨dst, .call ⟨.builtin .len, #[x], #[t]⟩, ty, pos, after, guard⟩ = aval h (alen P h t (ρ x)) := by simp [aop, abuiltin]
theorem aop_append {x y : Operand} {t u : TypeId} : aop P ρ h ⟨dst, .call ⟨.builtin .append, #[x, y], #[t, u]⟩, ty, pos, after, guard⟩ = avalh (aappend P h t u (ρ x) (ρ y)) := by simp [aop, abuiltin]
theorem aop_copy {x y : Operand} {t u : TypeId} : aop P ρ h ⟨dst, .call ⟨.builtin .copy, #[x, y], #[t, u]⟩, ty, pos, after, guard⟩ = avalh (acopy P h t (ρ x) (ρ y)) := by simp [aop, abuiltin]
theorem aop_delete {x y : Operand} {t u : TypeId} : aop P ρ h ⟨dst, .call ⟨.builtin .delete, #[x, y], #[t, u]⟩, ty, pos, after, guard⟩ = avalh (amDelete P h t (ρ x) (ρ y)) := by simp [aop, abuiltin]
theorem aop_lookup {t : TypeId} {x i : Operand} {ok : Bool} : aop P ρ h ⟨dst, .lookup t x i ok, ty, pos, after, guard⟩ = aval h (amLookup P h t (ρ x) (ρ i) ok) := rfl
theorem aop_mapUpdate {t : TypeId} {m k x : Operand} : aop P ρ h ⟨dst, .mapUpdate t m k x, ty, pos, after, guard⟩ = askip (amUpdate P h t (ρ m) (ρ k) (ρ x)) := rfl
theorem aop_insert {t : TypeId} {m k x : Operand} : aop P ρ h ⟨dst, .insert t m k x, ty, pos, after, guard⟩ = askip (amUpdate P h t (ρ m) (ρ k) (ρ x)) := rfl
theorem aop_mapEntry {t : TypeId} {m k : Operand} : aop P ρ h ⟨dst, .mapEntry t m k, ty, pos, after, guard⟩ = avalh (amEntry P h t (ρ m) (ρ k)) := rfl
theorem aop_entryStore {t : TypeId} {m s x : Operand} : aop P ρ h ⟨dst, .entryStore t m s x, ty, pos, after, guard⟩ = askip (amEntryStore h (ρ m) (ρ s) (ρ x)) := rfl
theorem aop_range {t : TypeId} {x : Operand} : aop P ρ h ⟨dst, .range t x, ty, pos, after, guard⟩ = avalh (amRange P h t (ρ x)) := rfl
theorem aop_next {x : Operand} : aop P ρ h ⟨dst, .next x false, ty, pos, after, guard⟩ = amNext h (ρ x) := rfl
theorem aop_entry {x : Operand} : aop P ρ h ⟨dst, .entry x, ty, pos, after, guard⟩ = aval h (amEntryOf h (ρ x)) := rfl
theorem astep_any {S : Value → AH → Prop} : astep P ops Q rest dst a h (some (.any S)) = ∀ v h1, S v h1 → awl P ops Q rest (aput a dst v) h1 := rfl
theorem aval_val {v : Value} : aval h (some v) = some (.val v h) := rfl
theorem avalh_val {v : Value} : avalh (some (v, h)) = some (.val v h) := rfl
theorem askip_skip : askip (some h) = some (.skip h) := rfl

theorem aeval_tmp (t : Nat) : aeval P a (.tmp t) = a.getD t junk := rfl
theorem aeval_func (F : FuncId) : aeval P a (.func F) = .func (.func F) #[] #[] := rfl
theorem aeval_int (k : IntKind) (n : Int) : aeval P a (.const (.int k n)) = .int k n := rfl
theorem aeval_bool (b : Bool) : aeval P a (.const (.bool b)) = .bool b := rfl
theorem aeval_string (s : ByteArray) : aeval P a (.const (.string s)) = .string s := rfl
theorem aeval_nilSlice (l c : Nat) : aeval P a (.const (.slice none l c)) = .slice none l c := rfl
theorem aeval_nilMap : aeval P a (.const (.map none)) = .map none := rfl
theorem aeval_nilFunc : aeval P a (.const .nilFunc) = .nilFunc := rfl
theorem aeval_nilIface : aeval P a (.const .nilIface) = .nilIface := rfl
theorem aeval_nilPtr : aeval P a (.const (.pointer none)) = .pointer none := rfl

/-- a comparison of bytes -/
theorem acall_compare {F : FuncId} {x y : Value} (hb : hasBody P F = false) (hc : isCompare P F = true) : acall P h (.func (.func F) #[] #[]) #[x, y] = aval h (acompare h x y) := by
  simp [acall, hb, aextern, hc]
theorem acall_func {F : FuncId} {xs cs args : List Value} (hb : hasBody P F = true) : acall P h (.func (.func F) xs.toArray cs.toArray) args.toArray = some (.enter F (xs ++ args ++ cs).toArray) := by
  simp only [acall, hb, if_true, List.append_toArray]

theorem gval_lit {l : List Value} {j : Nat} {want : Bool} {op : Op} {d : Nat} {l2 : List Oper} (hd : (l2[j]?).bind (·.dst) = some d) {b : Bool} (hb : l.getD d junk = .bool b) :
    gval l2.toArray l.toArray ⟨dst, op, ty, pos, after, some (j, want)⟩ = some (b == want) := by
  simp only [gval, List.getElem?_toArray, hd, getD_lit, hb]

/-! numbers -/
variable {t : TypeId} {x y : Operand} {k k' : IntKind} {m n : Int}
theorem abin_add : abinOp P .add t x y (.int k m) (.int k n) = some (.int k (k.wrap (m + n))) := by simp [abinOp, aint]
theorem abin_sub : abinOp P .sub t x y (.int k m) (.int k n) = some (.int k (k.wrap (m - n))) := by simp [abinOp, aint]
theorem abin_mul : abinOp P .mul t x y (.int k m) (.int k n) = some (.int k (k.wrap (m * n))) := by simp [abinOp, aint]
theorem abin_quo (h : n ≠ 0) : abinOp P .quo t x y (.int k m) (.int k n) = some (.int k (k.wrap (m.tdiv n))) := by simp [abinOp, aint, h]
theorem abin_rem (h : n ≠ 0) : abinOp P .rem t x y (.int k m) (.int k n) = some (.int k (m.tmod n)) := by simp [abinOp, aint, h]
theorem abin_and : abinOp P .and t x y (.int k m) (.int k n) = some (.int k (k.wrap (BitVec.ofInt k.bits m &&& BitVec.ofInt k.bits n).toNat)) := by simp [abinOp, aint]
theorem abin_or : abinOp P .or t x y (.int k m) (.int k n) = some (.int k (k.wrap (BitVec.ofInt k.bits m ||| BitVec.ofInt k.bits n).toNat)) := by simp [abinOp, aint]
theorem abin_xor : abinOp P .xor t x y (.int k m) (.int k n) = some (.int k (k.wrap (BitVec.ofInt k.bits m ^^^ BitVec.ofInt k.bits n).toNat)) := by simp [abinOp, aint]
theorem abin_andNot : abinOp P .andNot t x y (.int k m) (.int k n) = some (.int k (k.wrap (BitVec.ofInt k.bits m &&& ~~~ BitVec.ofInt k.bits n).toNat)) := by simp [abinOp, aint]
theorem abin_eql : abinOp P .eql t x y (.int k m) (.int k n) = some (.bool (m == n)) := by simp [abinOp, aint]
theorem abin_neq : abinOp P .neq t x y (.int k m) (.int k n) = some (.bool (m != n)) := by simp [abinOp, aint]
theorem abin_lss : abinOp P .lss t x y (.int k m) (.int k n) = some (.bool (decide (m < n))) := by simp [abinOp, aint]
theorem abin_leq : abinOp P .leq t x y (.int k m) (.int k n) = some (.bool (decide (m ≤ n))) := by simp [abinOp, aint]
theorem abin_gtr : abinOp P .gtr t x y (.int k m) (.int k n) = some (.bool (decide (n < m))) := by simp [abinOp, aint]
theorem abin_geq : abinOp P .geq t x y (.int k m) (.int k n) = some (.bool (decide (n ≤ m))) := by simp [abinOp, aint]
theorem abin_shl (h : ¬ n < 0) : abinOp P .shl t x y (.int k m) (.int k' n) = some (.int k (k.wrap (m * 2 ^ (min n.toNat k.bits)))) := by simp [abinOp, h]
theorem abin_shr (h : ¬ n < 0) : abinOp P .shr t x y (.int k m) (.int k' n) = some (.int k (m.fdiv (2 ^ (min n.toNat k.bits)))) := by simp [abinOp, h]
theorem aun_not {b : Bool} : aunOp P .not (.bool b) = some (.bool !b) := rfl

theorem wrap_u64_of (n : Int) (h0 : 0 ≤ n) (h1 : n < 18446744073709551616) : IntKind.u64.wrap n = n := by
  simp only [IntKind.wrap, IntKind.bits, IntKind.signed, Bool.false_and, Bool.false_eq_true, if_false]
  omega
theorem wrap_u8_of (n : Int) (h0 : 0 ≤ n) (h1 : n < 256) : IntKind.u8.wrap n = n := by
  simp only [IntKind.wrap, IntKind.bits, IntKind.signed, Bool.false_and, Bool.false_eq_true, if_false]
  omega
theorem wrap_u32_of (n : Int) (h0 : 0 ≤ n) (h1 : n < 4294967296) : IntKind.u32.wrap n = n := by
  simp only [IntKind.wrap, IntKind.bits, IntKind.signed, Bool.false_and, Bool.false_eq_true, if_false]
  omega

/-! the code -/
variable {h0 : AH}
theorem ax_skip : ax P h0 .skip Q a h = Q .normal a h := rfl
theorem ax_region {id : Nat} {l : List Oper} : ax P h0 (.region id l.toArray false) Q a h = awl P l.toArray Q l a h := rfl
theorem ax_seq {x y : Code} : ax P h0 (.seq x y) Q a h = ax P h0 x (thenA (ax P h0 y Q) Q) a h := rfl
theorem ax_block {id : Nat} {c : Code} : ax P h0 (.block id c) Q a h = ax P h0 c (inBlockA id Q) a h := rfl
theorem ax_exit {id : Nat} : ax P h0 (.exit id) Q a h = Q (.exit id) a h := rfl
theorem ax_ret : ax P h0 .ret Q a h = Q .ret a h := rfl
theorem ax_loop {c : Code} : ax P h0 (.loop c) Q a h = AWP P h0 (.loop c) Q a h := rfl
def acond (P : Program) (h0 : AH) (x y : Code) (Q : Exit → Array Value → AH → Prop) (a : Array Value) (h : AH) (v : Value) : Prop :=
  ∃ t, v = .bool t ∧ (t = true → ax P h0 x Q a h) ∧ (t = false → ax P h0 y Q a h)
theorem ax_cond {c : Operand} {x y : Code} : ax P h0 (.cond c x y) Q a h = acond P h0 x y Q a h (aeval P a c) := rfl
theorem acond_bool {x y : Code} {t : Bool} : acond P h0 x y Q a h (.bool t) = ((t = true → ax P h0 x Q a h) ∧ (t = false → ax P h0 y Q a h)) := by
  unfold acond
  apply propext
  constructor
  · rintro ⟨t', e, h1⟩; cases e; exact h1
  · intro h1; exact ⟨t, rfl, h1⟩
theorem acond_true {x y : Code} : acond P h0 x y Q a h (.bool true) = ax P h0 x Q a h := by rw [acond_bool]; simp
theorem acond_false {x y : Code} : acond P h0 x y Q a h (.bool false) = ax P h0 y Q a h := by rw [acond_bool]; simp
theorem thenA_normal {next : Array Value → AH → Prop} : thenA next Q .normal a h = next a h := rfl
theorem thenA_ret {next : Array Value → AH → Prop} : thenA next Q .ret a h = Q .ret a h := rfl
theorem thenA_exit {next : Array Value → AH → Prop} {id : Nat} : thenA next Q (.exit id) a h = Q (.exit id) a h := rfl
theorem inBlockA_normal {id : Nat} : inBlockA id Q .normal a h = Q .normal a h := rfl
theorem inBlockA_ret {id : Nat} : inBlockA id Q .ret a h = Q .ret a h := rfl
theorem inBlockA_exit {id id' : Nat} : inBlockA id Q (.exit id') a h = if id' = id then Q .normal a h else Q (.exit id') a h := rfl
end

end Go.Am
