import Derived.Test.YtibkpodkogclbaaAm23
set_option linter.unusedVariables false
set_option linter.unusedSimpArgs false
/- Rows that are written. -/
namespace Go.Am
open Go
/-- a row with two numbers behind it -/
def fame (A : Array Value) (s i : Int) : Array Value := A ++ #[.int .u64 s, .int .u64 i]
section
variable {A : Array Value} {s i x : Int}
theorem fame_size (hA : A.size = 20) : (fame A s i).size = 22 := by simp [fame, hA]
theorem fame_seen (hA : A.size = 20) : (fame A s i)[20]? = some (.int .u64 s) := by simp [fame, Array.getElem?_append, hA]
theorem fame_incl (hA : A.size = 20) : (fame A s i)[21]? = some (.int .u64 i) := by simp [fame, Array.getElem?_append, hA]
theorem fame_all (hA : A.size = 20) : (fame A s i).extract 0 22 = fame A s i := by rw [Array.extract_eq_self_of_le]; simp [fame_size hA]
theorem fame_addr (hA : A.size = 20) : (fame A s i).extract 0 20 = A := by
  unfold fame; rw [Array.extract_append]; simp [hA]
theorem fame_set_seen (hA : A.size = 20) : (fame A s i).setIfInBounds 20 (.int .u64 x) = fame A x i := by
  unfold fame; rw [Array.setIfInBounds_append_right (by omega)]; simp [hA]
theorem fame_set_incl (hA : A.size = 20) : (fame A s i).setIfInBounds 21 (.int .u64 x) = fame A s x := by
  unfold fame; rw [Array.setIfInBounds_append_right (by omega)]; simp [hA]
theorem fame0_size {v : Value} : (fame (Array.replicate 20 v) s i).size = 22 := by simp [fame]
theorem fame0_blit {v : Value} {s' i' : Int} (hA : A.size = 20) : blit (fame (Array.replicate 20 v) s' i') 0 (fame A s i).toList = fame A s i := blit_all (by rw [fame0_size, fame_size hA])
theorem fame_mk : A ++ #[Value.int .u64 s, .int .u64 i] = fame A s i := rfl
end
end Go.Am
