import Derived.Test.YtihdilnanhjedaaFacts
import Derived.Test.YtihdilnanhjedaaAm37x
set_option linter.unusedSimpArgs false
set_option linter.unusedVariables false
namespace Go.Proofs
open Go Go.Am
theorem known_run : arun Try.prog 60 8 #[] (List.replicate 1 .dead) = some (.bool true, List.replicate 1 .dead, 1) := by kernel_rfl
theorem globs : Try.prog.globals.size = 1 := by kernel_rfl
theorem known_calls (h : AH) : ACalls Try.prog 8 #[] h (fun v h' => v = .bool true ∧ h' = h) :=
  ACalls.of_run known_run rfl (by simp) (by rw [globs]; exact Nat.le_refl _) rfl (fun b o hb ha => by cases b <;> simp at hb; subst hb; cases ha)
end Go.Proofs
