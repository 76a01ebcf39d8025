import Derived.Test.YtihdilnanhjedaaPlT
import Derived.Test.YtihdilnanhjedaaAm55x
import Derived.Test.YtihdilnanhjedaaAm58x
import Derived.Test.YtihdilnanhjedaaAm31x
set_option linter.unusedSimpArgs false
set_option linter.unusedVariables false
/- feet -/
namespace Go.Proofs.Fp
open Go Go.Am Go.Proofs

structure Foot where
  reads : Sl Pl
  writes : Sl Pl
def encFoot (f : Foot) : List Value := [slV encPl f.reads, slV encPl f.writes]
theorem length_encFoot (f : Foot) : (encFoot f).length = 2 := rfl
attribute [go_sem] length_encFoot
theorem tree_encFoot (f : Foot) : ∀ v ∈ encFoot f, Tree v := by
  intro v hv
  simp only [encFoot, List.mem_cons, List.not_mem_nil, or_false] at hv
  rcases hv with rfl | rfl <;> exact .slV tree_encPl _
theorem flatFoot : flat Try.prog 8 28 = some ([26] ++ [26]) := by kernel_rfl
def Foot.ok (f : Foot) : Prop := f.reads.l.length ≤ maxLen ∧ f.writes.l.length ≤ maxLen
theorem decsFoot : Decs Try.prog ([26] ++ [26]) encFoot Foot.ok :=
  ((Decs.slice Try.underlying26 flatPl (fun p => length_encPl p) decsPl).append (Decs.slice Try.underlying26 flatPl (fun p => length_encPl p) decsPl)).to (fun p => ⟨p.1, p.2⟩) (fun p => rfl) (fun p h => ⟨h.1.1, h.2.1⟩)

theorem globs : Try.prog.globals.size = 1 := by kernel_rfl
theorem known_run : arun Try.prog 40 16 #[] (List.replicate 1 .dead) = some (.bool true, List.replicate 1 .dead, 1) := by kernel_rfl
theorem known_calls (h : AH) : ACalls Try.prog 16 #[] h (fun v h' => v = .bool true ∧ h' = h) :=
  ACalls.of_run known_run rfl (by simp) (by rw [globs]; exact Nat.le_refl _) rfl (fun b o hb ha => by cases b <;> simp at hb; subst hb; cases ha)
end Go.Proofs.Fp
