import Derived.Test.YtogefnepdjkioaaAm35
set_option linter.unusedVariables false
set_option linter.unusedSimpArgs false
/- Addresses, words, bytes, numbers as cells. -/
namespace Go.Am
open Go

abbrev Addr20 := Vector UInt8 20
abbrev Word4 := Vector UInt64 4
def encAddr (a : Addr20) : List Value := a.toList.map fun b => .int .u8 b.toNat
def encWord (w : Word4) : List Value := w.toList.map fun b => .int .u64 b.toNat
def encU8 (b : UInt8) : List Value := [.int .u8 b.toNat]
def encI (n : Int) : List Value := [.int .i64 n]
theorem length_encAddr (a : Addr20) : (encAddr a).length = 20 := by simp [encAddr]
theorem length_encWord (a : Word4) : (encWord a).length = 4 := by simp [encWord]
theorem length_encU8 (a : UInt8) : (encU8 a).length = 1 := rfl
theorem length_encI (a : Int) : (encI a).length = 1 := rfl
theorem load_encU8 {l : List UInt8} {i : Nat} (hi : i < l.length) : mkLoadF (flatV encU8 l) i (some (false, 1)) = some (.int .u8 (l[i].toNat : Nat)) := loadF_one (f := fun b : UInt8 => .int .u8 b.toNat) hi
theorem load_encI {l : List Int} {i : Nat} (hi : i < l.length) : mkLoadF (flatV encI l) i (some (false, 1)) = some (.int .i64 l[i]) := loadF_one (f := fun b : Int => .int .i64 b) hi
attribute [go_sem] length_encAddr length_encWord length_encU8 length_encI load_encU8 load_encI
theorem tree_encAddr (a : Addr20) : ∀ v ∈ encAddr a, Tree v := by
  intro v hv; obtain ⟨_, _, rfl⟩ := List.mem_map.1 hv; exact .plain _ rfl
theorem tree_encWord (a : Word4) : ∀ v ∈ encWord a, Tree v := by
  intro v hv; obtain ⟨_, _, rfl⟩ := List.mem_map.1 hv; exact .plain _ rfl
theorem tree_encU8 (a : UInt8) : ∀ v ∈ encU8 a, Tree v := by
  intro v hv; simp only [encU8, List.mem_singleton] at hv; subst hv; exact .plain _ rfl
theorem tree_encI (a : Int) : ∀ v ∈ encI a, Tree v := by
  intro v hv; simp only [encI, List.mem_singleton] at hv; subst hv; exact .plain _ rfl

theorem map_inj {α : Type} {f : α → Value} (hf : ∀ x y, f x = f y → x = y) : ∀ {a b : List α}, a.map f = b.map f → a = b
  | [], [], _ => rfl
  | x :: a, y :: b, h => by simp only [List.map_cons, List.cons.injEq] at h; rw [hf _ _ h.1, map_inj hf h.2]
  | [], _ :: _, h => by simp at h
  | _ :: _, [], h => by simp at h
theorem encAddr_inj {a b : Addr20} (h : encAddr a = encAddr b) : a = b := by
  have := map_inj (fun x y e => by simp only [Value.int.injEq, true_and] at e; exact UInt8.toNat_inj.1 (by omega)) h
  exact Vector.toList_inj.1 this
theorem encWord_inj {a b : Word4} (h : encWord a = encWord b) : a = b := by
  have := map_inj (fun x y e => by simp only [Value.int.injEq, true_and] at e; exact UInt64.toNat_inj.1 (by omega)) h
  exact Vector.toList_inj.1 this

/-- a row of numbers: its length, their kind -/
def rowK (P : Program) (t : TypeId) : Option (Nat × IntKind) :=
  match P.underlying t with
  | some (.array n e) => match P.underlying e, P.info? e with
    | some (.int k), some i => if i.size = 1 ∧ P.eqGuardType P.depth t = false then some (n, k) else none
    | _, _ => none
  | _ => none
theorem rowK_spec {P : Program} {t : TypeId} {n : Nat} {k : IntKind} (h : rowK P t = some (n, k)) : ∃ e i, P.underlying t = some (.array n e) ∧ P.underlying e = some (.int k) ∧ P.info? e = some i ∧ i.size = 1 ∧ P.eqGuardType P.depth t = false := by
  unfold rowK at h
  split at h
  · rename_i n' e hu
    split at h
    · rename_i k' i hk hi
      split at h
      · rename_i hc
        cases h
        exact ⟨e, i, hu, hk, hi, hc.1, hc.2⟩
      · cases h
    · cases h
  · cases h
section
variable {P : Program} {t : TypeId} {x y : Operand}
theorem abin_row {n : Nat} {k : IntKind} (h : rowK P t = some (n, k)) (xs ys : List Int) (hx : xs.length = n) (hy : ys.length = n) :
    abinOp P .eql t x y (.agg (xs.map (Value.int k)).toArray) (.agg (ys.map (Value.int k)).toArray) = some (.bool (xs == ys)) ∧ abinOp P .neq t x y (.agg (xs.map (Value.int k)).toArray) (.agg (ys.map (Value.int k)).toArray) = some (.bool (!(xs == ys))) := by
  obtain ⟨e, i, h1, h2, h3, h4, h5⟩ := rowK_spec h
  exact abin_eqlI h1 h2 h3 h4 h5 xs ys hx hy
theorem encAddr_map (a : Addr20) : encAddr a = (a.toList.map fun b => (b.toNat : Int)).map (Value.int .u8) := by simp [encAddr]
theorem encWord_map (a : Word4) : encWord a = (a.toList.map fun b => (b.toNat : Int)).map (Value.int .u64) := by simp [encWord]
theorem addr_beq (a b : Addr20) : ((a.toList.map fun b => (b.toNat : Int)) == (b.toList.map fun b => (b.toNat : Int))) = decide (a = b) := by
  rw [Bool.eq_iff_iff, beq_iff_eq, decide_eq_true_iff]
  constructor
  · intro h
    exact encAddr_inj (by rw [encAddr_map, encAddr_map, h])
  · intro h; rw [h]
theorem word_beq (a b : Word4) : ((a.toList.map fun b => (b.toNat : Int)) == (b.toList.map fun b => (b.toNat : Int))) = decide (a = b) := by
  rw [Bool.eq_iff_iff, beq_iff_eq, decide_eq_true_iff]
  constructor
  · intro h
    exact encWord_inj (by rw [encWord_map, encWord_map, h])
  · intro h; rw [h]
theorem abin_eqlAddr (h : rowK P t = some (20, .u8)) (a b : Addr20) : abinOp P .eql t x y (.agg (encAddr a).toArray) (.agg (encAddr b).toArray) = some (.bool (decide (a = b))) := by
  rw [encAddr_map, encAddr_map, (abin_row h _ _ (by simp) (by simp)).1, addr_beq]
theorem abin_neqAddr (h : rowK P t = some (20, .u8)) (a b : Addr20) : abinOp P .neq t x y (.agg (encAddr a).toArray) (.agg (encAddr b).toArray) = some (.bool (!decide (a = b))) := by
  rw [encAddr_map, encAddr_map, (abin_row h _ _ (by simp) (by simp)).2, addr_beq]
theorem abin_eqlWord (h : rowK P t = some (4, .u64)) (a b : Word4) : abinOp P .eql t x y (.agg (encWord a).toArray) (.agg (encWord b).toArray) = some (.bool (decide (a = b))) := by
  rw [encWord_map, encWord_map, (abin_row h _ _ (by simp) (by simp)).1, word_beq]
theorem abin_neqWord (h : rowK P t = some (4, .u64)) (a b : Word4) : abinOp P .neq t x y (.agg (encWord a).toArray) (.agg (encWord b).toArray) = some (.bool (!decide (a = b))) := by
  rw [encWord_map, encWord_map, (abin_row h _ _ (by simp) (by simp)).2, word_beq]
end
end Go.Am
