import Derived.Test.YtaldmhpgfhamcaaFacts
import Derived.Test.YtaldmhpgfhamcaaAm32
set_option linter.unusedSimpArgs false
set_option linter.unusedVariables false
/- places and feet -/
namespace Go.Proofs
open Go Go.Am

abbrev Addr20 := Vector UInt8 20
abbrev Word4 := Vector UInt64 4
def encAddr (a : Addr20) : List Value := a.toList.map fun b => .int .u8 b.toNat
def encWord (w : Word4) : List Value := w.toList.map fun b => .int .u64 b.toNat
structure Place where
  addr : Addr20
  whole : Bool
  key : Word4
deriving DecidableEq
def encPlace (p : Place) : List Value := encAddr p.addr ++ (Value.bool p.whole :: encWord p.key)
structure Foot where
  reads : Sl Place
  writes : Sl Place
def encFoot (f : Foot) : List Value := [slV encPlace f.reads, slV encPlace f.writes]

theorem length_encAddr (a : Addr20) : (encAddr a).length = 20 := by simp [encAddr]
theorem length_encWord (a : Word4) : (encWord a).length = 4 := by simp [encWord]
theorem length_encPlace (p : Place) : (encPlace p).length = 25 := by simp [encPlace, length_encAddr, length_encWord]
theorem length_encFoot (f : Foot) : (encFoot f).length = 2 := rfl
attribute [go_sem] length_encAddr length_encWord length_encPlace length_encFoot

theorem tree_ints {k : IntKind} {l : List Int} : ∀ v ∈ l.map fun n => Value.int k n, Tree v := by
  intro v hv; obtain ⟨n, _, rfl⟩ := List.mem_map.1 hv; exact .plain _ rfl
theorem tree_encPlace (p : Place) : ∀ v ∈ encPlace p, Tree v := by
  intro v hv
  simp only [encPlace, encAddr, encWord, List.mem_append, List.mem_map, List.mem_cons] at hv
  rcases hv with ⟨_, _, rfl⟩ | rfl | ⟨_, _, rfl⟩ <;> exact .plain _ rfl
theorem tree_encFoot (f : Foot) : ∀ v ∈ encFoot f, Tree v := by
  intro v hv
  simp only [encFoot, List.mem_cons, List.not_mem_nil, or_false] at hv
  rcases hv with rfl | rfl <;> exact .slV tree_encPlace _

theorem flatPlace : flat Try.prog 8 38 = some (List.replicate 20 5 ++ ([4] ++ List.replicate 4 34)) := by kernel_rfl
theorem flatFoot : flat Try.prog 8 24 = some ([22] ++ [22]) := by kernel_rfl
theorem decsPlace : Decs Try.prog (List.replicate 20 5 ++ ([4] ++ List.replicate 4 34)) encPlace (fun _ => True) :=
  (((Decs.u8 Try.underlying5).vec 20).append ((Decs.bool Try.underlying4).append ((Decs.u64 Try.underlying34).vec 4))).to (fun p => ⟨p.1, p.2.1, p.2.2⟩) (fun p => rfl) (fun _ _ => trivial)
def Foot.ok (f : Foot) : Prop := f.reads.l.length ≤ maxLen ∧ f.writes.l.length ≤ maxLen
theorem decsFoot : Decs Try.prog ([22] ++ [22]) encFoot Foot.ok :=
  ((Decs.slice Try.underlying22 flatPlace (fun p => length_encPlace p) decsPlace).append (Decs.slice Try.underlying22 flatPlace (fun p => length_encPlace p) decsPlace)).to (fun p => ⟨p.1, p.2⟩) (fun p => rfl) (fun p h => ⟨h.1.1, h.2.1⟩)

theorem litAddr (a : Addr20) : litCells Try.prog (List.replicate 20 5) (encAddr a) = true := by
  have : ∀ (n : Nat) (l : List UInt8), l.length = n → litCells Try.prog (List.replicate n 5) (l.map fun b => Value.int .u8 b.toNat) = true := by
    intro n
    induction n with
    | zero => intro l h; rw [List.length_eq_zero_iff.1 h]; rfl
    | succ n ih =>
      intro l h
      match l, h with
      | b :: l, h =>
        simp only [List.replicate_succ, List.map_cons, litCells, litCell, Try.underlying5, ih l (by simpa using h), Bool.and_true]
        have := b.toNat_lt
        simp [Lit.wf, IntKind.min, IntKind.max, IntKind.signed, IntKind.bits]; omega
  exact this 20 a.toList (by simp)
theorem litWord (a : Word4) : litCells Try.prog (List.replicate 4 34) (encWord a) = true := by
  have : ∀ (n : Nat) (l : List UInt64), l.length = n → litCells Try.prog (List.replicate n 34) (l.map fun b => Value.int .u64 b.toNat) = true := by
    intro n
    induction n with
    | zero => intro l h; rw [List.length_eq_zero_iff.1 h]; rfl
    | succ n ih =>
      intro l h
      match l, h with
      | b :: l, h =>
        simp only [List.replicate_succ, List.map_cons, litCells, litCell, Try.underlying34, ih l (by simpa using h), Bool.and_true]
        have := b.toNat_lt
        simp [Lit.wf, IntKind.min, IntKind.max, IntKind.signed, IntKind.bits]; omega
  exact this 4 a.toList (by simp)
theorem keyedPlace (p : Place) : keyed Try.prog 38 (.agg (encPlace p).toArray) = true := by
  unfold keyed
  rw [Try.underlying38]
  simp only [flatPlace]
  show litCells _ _ (encAddr p.addr ++ ([Value.bool p.whole] ++ encWord p.key)) = true
  rw [litCells_append (by simp [length_encAddr]), litCells_append (by simp)]
  exact ⟨litAddr _, by simp [litCells, litCell, Try.underlying4], litWord _⟩
attribute [go_sem] keyedPlace

theorem map_inj {α : Type} {f : α → Value} (hf : ∀ x y, f x = f y → x = y) : ∀ {a b : List α}, a.map f = b.map f → a = b
  | [], [], _ => rfl
  | x :: a, y :: b, h => by simp only [List.map_cons, List.cons.injEq] at h; rw [hf _ _ h.1, map_inj hf h.2]
  | [], _ :: _, h => by simp at h
  | _ :: _, [], h => by simp at h
theorem encAddr_inj {a b : Addr20} (h : encAddr a = encAddr b) : a = b := by
  have := map_inj (fun x y e => by simp only [Value.int.injEq, true_and] at e; exact UInt8.toNat_inj.1 (by omega)) h
  exact Vector.toList_inj.1 this
theorem encWord_inj {a b : Word4} (h : encWord a = encWord b) : a = b := by
  have := map_inj (fun x y e => by simp only [Value.int.injEq, true_and] at e; exact UInt64.toNat_inj.1 (by omega)) h
  exact Vector.toList_inj.1 this
theorem encPlace_inj {a b : Place} (h : encPlace a = encPlace b) : a = b := by
  unfold encPlace at h
  have h1 := List.append_inj h (by simp [length_encAddr])
  simp only [List.cons.injEq, Value.bool.injEq] at h1
  obtain ⟨g1, g2, g3⟩ := h1
  cases a; cases b
  simp only at g1 g2 g3
  rw [encAddr_inj g1, g2, encWord_inj g3]
def keyP (p : Place) : Value := .agg (encPlace p).toArray
theorem keyP_inj (a b : Place) (h : keyP a = keyP b) : a = b := by
  unfold keyP at h
  exact encPlace_inj (by simpa using h)
end Go.Proofs
