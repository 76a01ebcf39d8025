import Derived.Test.YtogefnepdjkioaaAm18
set_option linter.unusedVariables false
set_option linter.unusedSimpArgs false
/- Booleans at a gate; the smaller and the greater one. -/
namespace Go.Am
open Go
theorem beq_ft : (false == true) = false := rfl
theorem beq_tf : (true == false) = false := rfl
theorem beq_ff : (false == false) = true := rfl
theorem beq_tt : (true == true) = true := rfl

section
variable {P : Program} {ops : Array Oper} {Q : Exit → Array Value → AH → Prop} {rest : List Oper} {a : Array Value} {h : AH} {ρ : Operand → Value} {dst : Option Tmp} {ty : TypeId} {pos : String} {after : Array Edge} {guard : Option (Nat × Bool)}
def amin (P : Program) (ts : Array TypeId) (ty : TypeId) (x y : Value) : Option Value := if (#[x, y].all plainB) = true then plainOut (pureRun P (Builtin.min_ ts ty #[x, y])) else none
/-- two whole numbers -/
theorem amin_int {ts : Array TypeId} {k k2 : IntKind} {a b : Int} : amin P ts ty (.int k a) (.int k2 b) = some (.int k (if b < a then b else a)) := by
  have e1 : (#[Value.int k a, Value.int k2 b].all plainB) = true := by simp [plainB, plain1]
  have e2 : Builtin.min_ ts ty #[Value.int k a, Value.int k2 b] = pure (.int k (if b < a then b else a)) := by simp [Builtin.min_, Builtin.min2]
  unfold amin
  rw [if_pos e1, e2]; rfl
theorem aop_min {x y : Operand} {ts : Array TypeId} : aop P ρ h ⟨dst, .call ⟨.builtin .min, #[x, y], ts⟩, ty, pos, after, guard⟩ = aval h (amin P ts ty (ρ x) (ρ y)) := by
  simp only [aop, abuiltin, List.map_toArray, List.map_cons, List.map_nil, amin]
  split <;> rfl
def amax (P : Program) (ts : Array TypeId) (ty : TypeId) (x y : Value) : Option Value := if (#[x, y].all plainB) = true then plainOut (pureRun P (Builtin.max_ ts ty #[x, y])) else none
/-- two whole numbers -/
theorem amax_int {ts : Array TypeId} {k k2 : IntKind} {a b : Int} : amax P ts ty (.int k a) (.int k2 b) = some (.int k (if b > a then b else a)) := by
  have e1 : (#[Value.int k a, Value.int k2 b].all plainB) = true := by simp [plainB, plain1]
  have e2 : Builtin.max_ ts ty #[Value.int k a, Value.int k2 b] = pure (.int k (if b > a then b else a)) := by simp [Builtin.max_, Builtin.max2]
  unfold amax
  rw [if_pos e1, e2]; rfl
theorem aop_max {x y : Operand} {ts : Array TypeId} : aop P ρ h ⟨dst, .call ⟨.builtin .max, #[x, y], ts⟩, ty, pos, after, guard⟩ = aval h (amax P ts ty (ρ x) (ρ y)) := by
  simp only [aop, abuiltin, List.map_toArray, List.map_cons, List.map_nil, amax]
  split <;> rfl
end

section
variable {P : Program} {ops : Array Oper} {Q : Exit → Array Value → AH → Prop} {rest : List Oper} {a : Array Value} {h H0 : AH} {dst : Option Tmp} {o : Oper} {F : FuncId} {args : Array Value}
/-- a call whose contract is known -/
theorem astep_calls {R : Value → AH → Prop} (hc : ACalls P F args h R) (hn : ∀ v h1, R v h1 → awl P ops Q rest (aput a dst v) h1) : astep P ops Q rest dst a h (some (.enter F args)) := ⟨R, hc, hn⟩
/-- a call that tells one value and leaves all as it was -/
theorem astep_call {v : Value} {h2 : AH} (hc : ACalls P F args h (fun u h' => u = v ∧ h' = h2)) (hn : awl P ops Q rest (aput a dst v) h2) : astep P ops Q rest dst a h (some (.enter F args)) :=
  ⟨_, hc, fun _ _ e => by obtain ⟨rfl, rfl⟩ := e; exact hn⟩
theorem dstep_calls {R : Value → AH → Prop} (hc : ACalls P F args h R) (hn : ∀ v h1, R v h1 → Pres H0 h1 ∧ awd P ops H0 Q rest (aput a o.dst v) h1) (hcm : Calm P ops F args h R := by exact .inl rfl) : dstep P ops H0 Q rest o a h (some (.enter F args)) := ⟨R, hc, hcm, hn⟩
theorem dstep_call {v : Value} {h2 : AH} (hc : ACalls P F args h (fun u h' => u = v ∧ h' = h2)) (hp : Pres H0 h2) (hn : awd P ops H0 Q rest (aput a o.dst v) h2) (hcm : Calm P ops F args h (fun u h' => u = v ∧ h' = h2) := by exact .inl rfl) : dstep P ops H0 Q rest o a h (some (.enter F args)) :=
  ⟨_, hc, hcm, fun _ _ e => by obtain ⟨rfl, rfl⟩ := e; exact ⟨hp, hn⟩⟩
/-- a call that leaves the heap alone, where something new is made at any time -/
theorem dstep_callA {v : Value} (hc : ∀ x : AH, ACalls P F args (h ++ x) (fun u h' => u = v ∧ h' = h ++ x)) (hp : Pres H0 h) (hn : awd P ops H0 Q rest (aput a o.dst v) h) : dstep P ops H0 Q rest o a h (some (.enter F args)) := by
  have hc0 := hc []
  rw [List.append_nil] at hc0
  exact ⟨_, hc0, .inr ⟨fun u h1 e => e.2, fun x => (hc x).mono fun u h1 e => ⟨⟨e.1, rfl⟩, e.2⟩⟩, fun _ _ e => by obtain ⟨rfl, rfl⟩ := e; exact ⟨hp, hn⟩⟩
theorem pres_refl : Pres H0 H0 := fun _ _ => rfl
theorem pres_append (l : AH) : Pres H0 (H0 ++ l) := fun _ hb => List.getElem?_append_left hb
end

/-! numbers -/
theorem bits_u8 : IntKind.u8.bits = 8 := rfl
theorem bits_u16 : IntKind.u16.bits = 16 := rfl
theorem bits_u32 : IntKind.u32.bits = 32 := rfl
theorem bits_u64 : IntKind.u64.bits = 64 := rfl
theorem bits_i64 : IntKind.i64.bits = 64 := rfl
theorem bits_i32 : IntKind.i32.bits = 32 := rfl
theorem wrap_i64_of (n : Int) (h0 : -9223372036854775808 ≤ n) (h1 : n < 9223372036854775808) : IntKind.i64.wrap n = n := by
  unfold IntKind.wrap
  simp only [IntKind.bits, IntKind.signed]
  first | omega | (simp; omega) | (split <;> omega)
theorem cast0 : ((0 : Nat) : Int) = 0 := rfl
theorem cast1 : ((1 : Nat) : Int) = 1 := rfl

/-! rows that are written -/
theorem blit_all {c d : Array Value} (h : c.size = d.size) : blit c 0 d.toList = d := by rw [blit_whole _ _ (by simp [h])]
theorem blit_one {c : Array Value} {k : Nat} {v : Value} : blit c k #[v].toList = c.setIfInBounds k v := rfl
theorem blit_one' {c : Array Value} {k : Nat} {v : Value} : blit c k [v] = c.setIfInBounds k v := rfl


/-- one plain result that a temporary holds -/
theorem apost_tmp {P : Program} {h0 : AH} {fn : Func} {R : Value → AH → Prop} {v : Value} {k : Nat} (hr : fn.results = #[.tmp k]) (hp : plainB v = true) (hR : R v h0) (l : List Value) (t : AH) (hl : l.getD k junk = v) : apost P h0 fn R .ret l.toArray (h0 ++ t) :=
  apost_plain (by rw [aresults_tmp hr, getD_lit, hl]) hp (keeps_append _ _) hR
end Go.Am
