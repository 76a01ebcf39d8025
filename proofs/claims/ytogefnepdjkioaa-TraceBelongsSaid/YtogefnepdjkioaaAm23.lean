import Derived.Test.YtogefnepdjkioaaAm22
set_option linter.unusedVariables false
set_option linter.unusedSimpArgs false
/- What is known of arguments, laid open. -/
namespace Go.Am
open Go

variable {P : Program} {h : AH} {t e : TypeId} {v : Value}

theorem TLeaf.int_inv {k : IntKind} (ha : TLeaf P t v) (hu : P.underlying t = some (.int k)) : ∃ n, v = .int k n ∧ (Lit.int k n).wf = true := by
  cases ha with
  | int n hu2 hw => rw [hu] at hu2; cases hu2; exact ⟨n, rfl, hw⟩
  | bool _ hu2 | string _ hu2 | nil hu2 | slice _ _ _ hu2 => rw [hu] at hu2; cases hu2
theorem TLeaf.bool_inv (ha : TLeaf P t v) (hu : P.underlying t = some .bool) : ∃ b, v = .bool b := by
  cases ha with
  | bool b hu2 => exact ⟨b, rfl⟩
  | int _ hu2 | string _ hu2 | nil hu2 | slice _ _ _ hu2 => rw [hu] at hu2; cases hu2
theorem TLeaf.string_inv (ha : TLeaf P t v) (hu : P.underlying t = some .string) : ∃ s, v = .string s ∧ s.size ≤ maxLen := by
  cases ha with
  | string s hu2 hs => exact ⟨s, rfl, hs⟩
  | int _ hu2 | bool _ hu2 | nil hu2 | slice _ _ _ hu2 => rw [hu] at hu2; cases hu2
theorem TLeaf.slice_inv {l : List TypeId} (ha : TLeaf P t v) (hu : P.underlying t = some (.slice e)) (hl : flat P 8 e = some l) :
    v = .slice none 0 0 ∨ ∃ len c, v = fz c len ∧ len ≤ maxLen ∧ c.size = len * l.length ∧ ∀ i j, i < len → j < l.length → TLeaf P (l.getD j 0) (c.getD (i * l.length + j) junk) := by
  cases ha with
  | nil hu2 => exact .inl rfl
  | slice l2 len c hu2 hl2 he h0 hm hc hall =>
    rw [hu] at hu2; cases hu2
    rw [hl] at hl2; cases hl2
    exact .inr ⟨len, c, rfl, hm, hc, hall⟩
  | int _ hu2 | bool _ hu2 | string _ hu2 => rw [hu] at hu2; cases hu2

theorem TArg.agg_struct {fs : Array Field} {l : List TypeId} (ha : TArg P t v) (hu : P.underlying t = some (.struct fs)) (hf : flat P 8 t = some l) :
    ∃ cs, v = .agg cs ∧ cs.size = l.length ∧ ∀ i, i < l.length → TLeaf P (l.getD i 0) (cs.getD i junk) := by
  unfold TArg at ha
  rw [hu] at ha
  obtain ⟨l2, cs, h1, h2, h3, h4⟩ := ha
  rw [hf] at h1; cases h1
  exact ⟨cs, h2, h3, h4⟩
theorem TArg.agg_array {k : Nat} {l : List TypeId} (ha : TArg P t v) (hu : P.underlying t = some (.array k e)) (hf : flat P 8 t = some l) :
    ∃ cs, v = .agg cs ∧ cs.size = l.length ∧ ∀ i, i < l.length → TLeaf P (l.getD i 0) (cs.getD i junk) := by
  unfold TArg at ha
  rw [hu] at ha
  obtain ⟨l2, cs, h1, h2, h3, h4⟩ := ha
  rw [hf] at h1; cases h1
  exact ⟨cs, h2, h3, h4⟩
theorem TArg.leaf_int {k : IntKind} (ha : TArg P t v) (hu : P.underlying t = some (.int k)) : TLeaf P t v := by unfold TArg at ha; rw [hu] at ha; exact ha
theorem TArg.leaf_bool (ha : TArg P t v) (hu : P.underlying t = some .bool) : TLeaf P t v := by unfold TArg at ha; rw [hu] at ha; exact ha
theorem TArg.leaf_string (ha : TArg P t v) (hu : P.underlying t = some .string) : TLeaf P t v := by unfold TArg at ha; rw [hu] at ha; exact ha
theorem TArg.leaf_slice (ha : TArg P t v) (hu : P.underlying t = some (.slice e)) : TLeaf P t v := by unfold TArg at ha; rw [hu] at ha; exact ha

theorem TArgs.none_inv {vs : List Value} (ha : TArgs P [] vs) : vs = [] := by cases ha; rfl
theorem TArgs.cons_inv {ts : List TypeId} {vs : List Value} (ha : TArgs P (t :: ts) vs) : ∃ v r, vs = v :: r ∧ TArg P t v ∧ TArgs P ts r := by
  cases ha with
  | cons h1 h2 => exact ⟨_, _, rfl, h1, h2⟩

theorem wf_u64 {n : Int} (h : (Lit.int .u64 n).wf = true) : 0 ≤ n ∧ n < 18446744073709551616 := by
  simp [Lit.wf, IntKind.min, IntKind.max, IntKind.signed, IntKind.bits] at h
  omega

/-- the last cells of a row -/
theorem split_at {cs : Array Value} {n : Nat} (k : Nat) (hs : cs.size = n + k) : cs = cs.extract 0 n ++ cs.extract n (n + k) := by
  have e1 : min 0 n = 0 := by omega
  have e2 : max n (n + k) = cs.size := by omega
  rw [Array.extract_append_extract, e1, e2]; simp
theorem extract_two {cs : Array Value} {n : Nat} (hs : cs.size = n + 2) : cs = cs.extract 0 n ++ #[cs.getD n junk, cs.getD (n + 1) junk] := by
  apply Array.ext
  · simp [hs]
  · intro i h1 h2
    rw [Array.getElem_append]
    by_cases h : i < n
    · simp [hs, h]
    · have : i = n ∨ i = n + 1 := by omega
      rcases this with rfl | rfl <;> simp [hs, Array.getD, h1] <;> congr 1
end Go.Am
