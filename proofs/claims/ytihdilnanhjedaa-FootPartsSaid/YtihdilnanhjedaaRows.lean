/-
  No cell of these rows narrows 'for every input' (looked for: loops, veiled, ifaces, maps, wideKeys, modest, calm, conditions, laid).
  DERIVED. THE GIVEN ROWS OF THIS SEAT. 4 by the template 'for every input the law returns true; each argument reads behind the call as it read before'; 0 by the template 'total and deterministic' (their statements: YtihdilnanhjedaaTotals.lean).
  GIVEN WITH THE SEED: the statements are not yours to turn. If you find one false, say at which input.
  Laid BY PROGRAM, IN A SANDBOX (cutbox-rows.mjs): the forced cells as the released guide's own fill.sh prints them over the translation bf87f6bfb9d200c1… (all of the seat's roots in one cut). By AI agents, Wed Nov 11 2026. No macro, syntax, notation, axiom, sorry.
-/
import Derived.Test.YtihdilnanhjedaaChecked
import GoSem.Claim
import GoSem.ClaimJoined
import GoSem.ClaimMapViews
import Derived.JoinedTies
import Derived.KernelRfl
namespace Go.Proofs.Ytihdilnanhjedaa
/- THE CELL 'sum', in the pinned program and in every row, IS THE sha256 OF THE DUMP (.gsa) THAT YtihdilnanhjedaaProg.lean LOADS. Nothing in Lean hashes anything: it is a label: what it is worth is what the hold of that sum in a sandbox is worth. -/
noncomputable def Try.pinned : Pinned := { name := "ytihdilnanhjedaa", sum := "bf87f6bfb9d200c148b82ea1d69b8898f71ad4835797233d679b7aab1d0818d1", checked := Try.checked }
namespace Rows
def none {H : Type} : Left H := { results := [], args := [] }

/-- 'quaestorlaw14.TraceSteps': WHATEVER THE INPUT: true; the input reads as it did. -/
def traceStepsSpec : ChangeSpec := { name := "traceSteps", fn := fun _ => fun
  | [d] => { results := [.lit (.bool true)], args := [d] }
  | _ => none }
def traceStepsRow : OpenClaim := { program := "ytihdilnanhjedaa", sum := "bf87f6bfb9d200c148b82ea1d69b8898f71ad4835797233d679b7aab1d0818d1", func := "quaestor/quaestorlaw14.TraceSteps", spec := "traceSteps", inPlace := ["math/bits.Sub64", "internal/bytealg.Compare"], unfollowed := true, recurses := true, plainKeys := false, apart := false }
def TraceStepsSaid : Prop := traceStepsRow.holds Try.pinned (OpenSpec.ofChange traceStepsSpec)

/-- ITS FALSE NEIGHBOUR: 'it returns false'. Refute it at one input. -/
def traceStepsWrong : ChangeSpec := { name := "traceSteps", fn := fun _ => fun
  | [d] => { results := [.lit (.bool false)], args := [d] }
  | _ => none }
def TraceStepsWrongFalsely : Prop := traceStepsRow.holds Try.pinned (OpenSpec.ofChange traceStepsWrong)

/-- 'quaestorlaw14.TraceTurns': WHATEVER THE INPUT: true; the input reads as it did. -/
def traceTurnsSpec : ChangeSpec := { name := "traceTurns", fn := fun _ => fun
  | [d1, d2] => { results := [.lit (.bool true)], args := [d1, d2] }
  | _ => none }
def traceTurnsRow : OpenClaim := { program := "ytihdilnanhjedaa", sum := "bf87f6bfb9d200c148b82ea1d69b8898f71ad4835797233d679b7aab1d0818d1", func := "quaestor/quaestorlaw14.TraceTurns", spec := "traceTurns", inPlace := ["math/bits.Sub64", "internal/bytealg.Compare"], unfollowed := true, recurses := true, plainKeys := false, apart := false }
def TraceTurnsSaid : Prop := traceTurnsRow.holds Try.pinned (OpenSpec.ofChange traceTurnsSpec)

/-- ITS FALSE NEIGHBOUR: 'it returns false'. Refute it at one input. -/
def traceTurnsWrong : ChangeSpec := { name := "traceTurns", fn := fun _ => fun
  | [d1, d2] => { results := [.lit (.bool false)], args := [d1, d2] }
  | _ => none }
def TraceTurnsWrongFalsely : Prop := traceTurnsRow.holds Try.pinned (OpenSpec.ofChange traceTurnsWrong)

/-- 'quaestorlaw14.TraceMore': WHATEVER THE INPUT: true; the input reads as it did. -/
def traceMoreSpec : ChangeSpec := { name := "traceMore", fn := fun _ => fun
  | [d1, d2, d3, d4] => { results := [.lit (.bool true)], args := [d1, d2, d3, d4] }
  | _ => none }
def traceMoreRow : OpenClaim := { program := "ytihdilnanhjedaa", sum := "bf87f6bfb9d200c148b82ea1d69b8898f71ad4835797233d679b7aab1d0818d1", func := "quaestor/quaestorlaw14.TraceMore", spec := "traceMore", inPlace := ["math/bits.Sub64", "internal/bytealg.Compare"], unfollowed := true, recurses := true, plainKeys := false, apart := false }
def TraceMoreSaid : Prop := traceMoreRow.holds Try.pinned (OpenSpec.ofChange traceMoreSpec)

/-- ITS FALSE NEIGHBOUR: 'it returns false'. Refute it at one input. -/
def traceMoreWrong : ChangeSpec := { name := "traceMore", fn := fun _ => fun
  | [d1, d2, d3, d4] => { results := [.lit (.bool false)], args := [d1, d2, d3, d4] }
  | _ => none }
def TraceMoreWrongFalsely : Prop := traceMoreRow.holds Try.pinned (OpenSpec.ofChange traceMoreWrong)

/-- 'quaestorlaw18.FootParts': WHATEVER THE INPUT: true; the input reads as it did. -/
def footPartsSpec : ChangeSpec := { name := "footParts", fn := fun _ => fun
  | [d1, d2] => { results := [.lit (.bool true)], args := [d1, d2] }
  | _ => none }
def footPartsRow : OpenClaim := { program := "ytihdilnanhjedaa", sum := "bf87f6bfb9d200c148b82ea1d69b8898f71ad4835797233d679b7aab1d0818d1", func := "quaestor/quaestorlaw18.FootParts", spec := "footParts", inPlace := ["internal/bytealg.Compare", "math/bits.Sub64"], unfollowed := true, recurses := true, plainKeys := false, apart := false }
def FootPartsSaid : Prop := footPartsRow.holds Try.pinned (OpenSpec.ofChange footPartsSpec)

/-- ITS FALSE NEIGHBOUR: 'it returns false'. Refute it at one input. -/
def footPartsWrong : ChangeSpec := { name := "footParts", fn := fun _ => fun
  | [d1, d2] => { results := [.lit (.bool false)], args := [d1, d2] }
  | _ => none }
def FootPartsWrongFalsely : Prop := footPartsRow.holds Try.pinned (OpenSpec.ofChange footPartsWrong)

/- THE SECOND FORM. 'bulk': how many values and letters a reading holds, each counted each time it is reached (what is shared counts as often as it is met; a slice's spare places count too). A statement '..UptoSaid' is the law's where the arguments, and the package variables that the reading takes, are together of bulk at most 1048576: NARROWER than '..Said'. Prove '..Said' where nothing that the law and all that it calls make is longer than what came in: it says more and counts as full. Else prove '..UptoSaid'. A law counts once. -/
mutual
def uptoBulk {H : Type} : DataW H → Nat
  | .lit (.string bytes) => bytes.length + 1
  | .lit _ => 1
  | .nil => 1
  | .ptr d => uptoBulk d + 1
  | .slice elems spare => uptoBulkAll elems + uptoBulkAll spare + 1
  | .agg parts => uptoBulkAll parts + 1
  | .iface _ d => uptoBulk d + 1
  | .map entries => uptoBulkEntries entries + 1
  | .held _ => 1
def uptoBulkAll {H : Type} : List (DataW H) → Nat
  | [] => 0
  | d :: r => uptoBulk d + uptoBulkAll r
def uptoBulkEntries {H : Type} : List (Lit × DataW H) → Nat
  | [] => 0
  | x :: r => uptoBulkEntry x + uptoBulkEntries r
def uptoBulkEntry {H : Type} : Lit × DataW H → Nat
  | (.string bytes, d) => bytes.length + uptoBulk d + 1
  | (_, d) => uptoBulk d + 1
 end
def uptoSmall : (H : Type) → List (DataW H) → Bool := fun _ ds => decide (uptoBulkAll ds ≤ 1048576)
def OpenSpec.upto (s : _root_.Go.ChangeSpec) : _root_.Go.OpenSpec := { _root_.Go.OpenSpec.ofChange s with cond := some uptoSmall }

/-- 'quaestorlaw14.TraceSteps', WHERE WHAT IT READS IS OF BULK AT MOST 1048576: true; the input reads as it did. -/
def traceStepsUptoRow : OpenClaim := { program := "ytihdilnanhjedaa", sum := "bf87f6bfb9d200c148b82ea1d69b8898f71ad4835797233d679b7aab1d0818d1", func := "quaestor/quaestorlaw14.TraceSteps", spec := "traceSteps", inPlace := ["math/bits.Sub64", "internal/bytealg.Compare"], unfollowed := true, recurses := true, plainKeys := false, apart := false, narrowed := true }
def TraceStepsUptoSaid : Prop := traceStepsUptoRow.holds Try.pinned (OpenSpec.upto traceStepsSpec)

/-- 'quaestorlaw14.TraceTurns', WHERE WHAT IT READS IS OF BULK AT MOST 1048576: true; the input reads as it did. -/
def traceTurnsUptoRow : OpenClaim := { program := "ytihdilnanhjedaa", sum := "bf87f6bfb9d200c148b82ea1d69b8898f71ad4835797233d679b7aab1d0818d1", func := "quaestor/quaestorlaw14.TraceTurns", spec := "traceTurns", inPlace := ["math/bits.Sub64", "internal/bytealg.Compare"], unfollowed := true, recurses := true, plainKeys := false, apart := false, narrowed := true }
def TraceTurnsUptoSaid : Prop := traceTurnsUptoRow.holds Try.pinned (OpenSpec.upto traceTurnsSpec)

/-- 'quaestorlaw14.TraceMore', WHERE WHAT IT READS IS OF BULK AT MOST 1048576: true; the input reads as it did. -/
def traceMoreUptoRow : OpenClaim := { program := "ytihdilnanhjedaa", sum := "bf87f6bfb9d200c148b82ea1d69b8898f71ad4835797233d679b7aab1d0818d1", func := "quaestor/quaestorlaw14.TraceMore", spec := "traceMore", inPlace := ["math/bits.Sub64", "internal/bytealg.Compare"], unfollowed := true, recurses := true, plainKeys := false, apart := false, narrowed := true }
def TraceMoreUptoSaid : Prop := traceMoreUptoRow.holds Try.pinned (OpenSpec.upto traceMoreSpec)

/-- 'quaestorlaw18.FootParts', WHERE WHAT IT READS IS OF BULK AT MOST 1048576: true; the input reads as it did. -/
def footPartsUptoRow : OpenClaim := { program := "ytihdilnanhjedaa", sum := "bf87f6bfb9d200c148b82ea1d69b8898f71ad4835797233d679b7aab1d0818d1", func := "quaestor/quaestorlaw18.FootParts", spec := "footParts", inPlace := ["internal/bytealg.Compare", "math/bits.Sub64"], unfollowed := true, recurses := true, plainKeys := false, apart := false, narrowed := true }
def FootPartsUptoSaid : Prop := footPartsUptoRow.holds Try.pinned (OpenSpec.upto footPartsSpec)

end Rows
end Go.Proofs.Ytihdilnanhjedaa
