/-
  No cell of these rows narrows 'for every input' (looked for: loops, veiled, ifaces, maps, wideKeys, modest, calm, conditions, laid).
  DERIVED. THE GIVEN ROWS OF THIS SEAT. 4 by the template 'for every input the law returns true; each argument reads behind the call as it read before'; 0 by the template 'total and deterministic' (their statements: YtibkpodkogclbaaTotals.lean).
  GIVEN WITH THE SEED: the statements are not yours to turn. If you find one false, say at which input.
  Laid BY PROGRAM, IN A SANDBOX (cutbox-rows.mjs): the forced cells as the released guide's own fill.sh prints them over the translation 0ba3c1ed65dd3fae… (all of the seat's roots in one cut). By AI agents, Wed Nov 11 2026. No macro, syntax, notation, axiom, sorry.
-/
import Derived.Test.YtibkpodkogclbaaChecked
import GoSem.Claim
import GoSem.ClaimJoined
import GoSem.ClaimMapViews
import Derived.JoinedTies
import Derived.KernelRfl
namespace Go.Proofs.Ytibkpodkogclbaa
/- THE CELL 'sum', in the pinned program and in every row, IS THE sha256 OF THE DUMP (.gsa) THAT YtibkpodkogclbaaProg.lean LOADS. Nothing in Lean hashes anything: it is a label: what it is worth is what the hold of that sum in a sandbox is worth. -/
noncomputable def Try.pinned : Pinned := { name := "ytibkpodkogclbaa", sum := "0ba3c1ed65dd3fae86fbcc14f3336ef0bb2cf21a90fb4b5656fd02e62db751fc", checked := Try.checked }
namespace Rows
def none {H : Type} : Left H := { results := [], args := [] }

/-- 'quaestorlaw19.ReputeStands': WHATEVER THE INPUT: true; the input reads as it did. -/
def reputeStandsSpec : ChangeSpec := { name := "reputeStands", fn := fun _ => fun
  | [d] => { results := [.lit (.bool true)], args := [d] }
  | _ => none }
def reputeStandsRow : OpenClaim := { program := "ytibkpodkogclbaa", sum := "0ba3c1ed65dd3fae86fbcc14f3336ef0bb2cf21a90fb4b5656fd02e62db751fc", func := "quaestor/quaestorlaw19.ReputeStands", spec := "reputeStands", inPlace := ["internal/bytealg.Compare", "slices.overlaps[quaestor/api.Fame]"], unfollowed := true, recurses := true, apart := false }
def ReputeStandsSaid : Prop := reputeStandsRow.holds Try.pinned (OpenSpec.ofChange reputeStandsSpec)

/-- ITS FALSE NEIGHBOUR: 'it returns false'. Refute it at one input. -/
def reputeStandsWrong : ChangeSpec := { name := "reputeStands", fn := fun _ => fun
  | [d] => { results := [.lit (.bool false)], args := [d] }
  | _ => none }
def ReputeStandsWrongFalsely : Prop := reputeStandsRow.holds Try.pinned (OpenSpec.ofChange reputeStandsWrong)

/-- 'quaestorlaw19.ReputeOrder': WHATEVER THE INPUT: true; the input reads as it did. -/
def reputeOrderSpec : ChangeSpec := { name := "reputeOrder", fn := fun _ => fun
  | [d1, d2] => { results := [.lit (.bool true)], args := [d1, d2] }
  | _ => none }
def reputeOrderRow : OpenClaim := { program := "ytibkpodkogclbaa", sum := "0ba3c1ed65dd3fae86fbcc14f3336ef0bb2cf21a90fb4b5656fd02e62db751fc", func := "quaestor/quaestorlaw19.ReputeOrder", spec := "reputeOrder", inPlace := ["internal/bytealg.Compare", "slices.overlaps[quaestor/api.Fame]"], unfollowed := true, recurses := true, apart := false }
def ReputeOrderSaid : Prop := reputeOrderRow.holds Try.pinned (OpenSpec.ofChange reputeOrderSpec)

/-- ITS FALSE NEIGHBOUR: 'it returns false'. Refute it at one input. -/
def reputeOrderWrong : ChangeSpec := { name := "reputeOrder", fn := fun _ => fun
  | [d1, d2] => { results := [.lit (.bool false)], args := [d1, d2] }
  | _ => none }
def ReputeOrderWrongFalsely : Prop := reputeOrderRow.holds Try.pinned (OpenSpec.ofChange reputeOrderWrong)

/-- 'quaestorlaw19.ReputeFades': WHATEVER THE INPUT: true; the input reads as it did. -/
def reputeFadesSpec : ChangeSpec := { name := "reputeFades", fn := fun _ => fun
  | [d1, d2] => { results := [.lit (.bool true)], args := [d1, d2] }
  | _ => none }
def reputeFadesRow : OpenClaim := { program := "ytibkpodkogclbaa", sum := "0ba3c1ed65dd3fae86fbcc14f3336ef0bb2cf21a90fb4b5656fd02e62db751fc", func := "quaestor/quaestorlaw19.ReputeFades", spec := "reputeFades", inPlace := ["internal/bytealg.Compare", "slices.overlaps[quaestor/api.Fame]"], unfollowed := true, recurses := true, apart := false }
def ReputeFadesSaid : Prop := reputeFadesRow.holds Try.pinned (OpenSpec.ofChange reputeFadesSpec)

/-- ITS FALSE NEIGHBOUR: 'it returns false'. Refute it at one input. -/
def reputeFadesWrong : ChangeSpec := { name := "reputeFades", fn := fun _ => fun
  | [d1, d2] => { results := [.lit (.bool false)], args := [d1, d2] }
  | _ => none }
def ReputeFadesWrongFalsely : Prop := reputeFadesRow.holds Try.pinned (OpenSpec.ofChange reputeFadesWrong)

/-- 'quaestorlaw19.ReputeCounts': WHATEVER THE INPUT: true; the input reads as it did. -/
def reputeCountsSpec : ChangeSpec := { name := "reputeCounts", fn := fun _ => fun
  | [d1, d2, d3] => { results := [.lit (.bool true)], args := [d1, d2, d3] }
  | _ => none }
def reputeCountsRow : OpenClaim := { program := "ytibkpodkogclbaa", sum := "0ba3c1ed65dd3fae86fbcc14f3336ef0bb2cf21a90fb4b5656fd02e62db751fc", func := "quaestor/quaestorlaw19.ReputeCounts", spec := "reputeCounts", inPlace := ["internal/bytealg.Compare", "slices.overlaps[quaestor/api.Fame]"], unfollowed := true, recurses := true, apart := false }
def ReputeCountsSaid : Prop := reputeCountsRow.holds Try.pinned (OpenSpec.ofChange reputeCountsSpec)

/-- ITS FALSE NEIGHBOUR: 'it returns false'. Refute it at one input. -/
def reputeCountsWrong : ChangeSpec := { name := "reputeCounts", fn := fun _ => fun
  | [d1, d2, d3] => { results := [.lit (.bool false)], args := [d1, d2, d3] }
  | _ => none }
def ReputeCountsWrongFalsely : Prop := reputeCountsRow.holds Try.pinned (OpenSpec.ofChange reputeCountsWrong)

/- THE SECOND FORM. 'bulk': how many values and letters a reading holds, each counted each time it is reached (what is shared counts as often as it is met; a slice's spare places count too). A statement '..UptoSaid' is the law's where the arguments, and the package variables that the reading takes, are together of bulk at most 1048576: NARROWER than '..Said'. Prove '..Said' where nothing that the law and all that it calls make is longer than what came in: it says more and counts as full. Else prove '..UptoSaid'. A law counts once. -/
mutual
def uptoBulk {H : Type} : DataW H → Nat
  | .lit (.string bytes) => bytes.length + 1
  | .lit _ => 1
  | .nil => 1
  | .ptr d => uptoBulk d + 1
  | .slice elems spare => uptoBulkAll elems + uptoBulkAll spare + 1
  | .agg parts => uptoBulkAll parts + 1
  | .iface _ d => uptoBulk d + 1
  | .map entries => uptoBulkEntries entries + 1
  | .held _ => 1
def uptoBulkAll {H : Type} : List (DataW H) → Nat
  | [] => 0
  | d :: r => uptoBulk d + uptoBulkAll r
def uptoBulkEntries {H : Type} : List (Lit × DataW H) → Nat
  | [] => 0
  | x :: r => uptoBulkEntry x + uptoBulkEntries r
def uptoBulkEntry {H : Type} : Lit × DataW H → Nat
  | (.string bytes, d) => bytes.length + uptoBulk d + 1
  | (_, d) => uptoBulk d + 1
 end
def uptoSmall : (H : Type) → List (DataW H) → Bool := fun _ ds => decide (uptoBulkAll ds ≤ 1048576)
def OpenSpec.upto (s : _root_.Go.ChangeSpec) : _root_.Go.OpenSpec := { _root_.Go.OpenSpec.ofChange s with cond := some uptoSmall }

/-- 'quaestorlaw19.ReputeStands', WHERE WHAT IT READS IS OF BULK AT MOST 1048576: true; the input reads as it did. -/
def reputeStandsUptoRow : OpenClaim := { program := "ytibkpodkogclbaa", sum := "0ba3c1ed65dd3fae86fbcc14f3336ef0bb2cf21a90fb4b5656fd02e62db751fc", func := "quaestor/quaestorlaw19.ReputeStands", spec := "reputeStands", inPlace := ["internal/bytealg.Compare", "slices.overlaps[quaestor/api.Fame]"], unfollowed := true, recurses := true, apart := false, narrowed := true }
def ReputeStandsUptoSaid : Prop := reputeStandsUptoRow.holds Try.pinned (OpenSpec.upto reputeStandsSpec)

/-- 'quaestorlaw19.ReputeOrder', WHERE WHAT IT READS IS OF BULK AT MOST 1048576: true; the input reads as it did. -/
def reputeOrderUptoRow : OpenClaim := { program := "ytibkpodkogclbaa", sum := "0ba3c1ed65dd3fae86fbcc14f3336ef0bb2cf21a90fb4b5656fd02e62db751fc", func := "quaestor/quaestorlaw19.ReputeOrder", spec := "reputeOrder", inPlace := ["internal/bytealg.Compare", "slices.overlaps[quaestor/api.Fame]"], unfollowed := true, recurses := true, apart := false, narrowed := true }
def ReputeOrderUptoSaid : Prop := reputeOrderUptoRow.holds Try.pinned (OpenSpec.upto reputeOrderSpec)

/-- 'quaestorlaw19.ReputeFades', WHERE WHAT IT READS IS OF BULK AT MOST 1048576: true; the input reads as it did. -/
def reputeFadesUptoRow : OpenClaim := { program := "ytibkpodkogclbaa", sum := "0ba3c1ed65dd3fae86fbcc14f3336ef0bb2cf21a90fb4b5656fd02e62db751fc", func := "quaestor/quaestorlaw19.ReputeFades", spec := "reputeFades", inPlace := ["internal/bytealg.Compare", "slices.overlaps[quaestor/api.Fame]"], unfollowed := true, recurses := true, apart := false, narrowed := true }
def ReputeFadesUptoSaid : Prop := reputeFadesUptoRow.holds Try.pinned (OpenSpec.upto reputeFadesSpec)

/-- 'quaestorlaw19.ReputeCounts', WHERE WHAT IT READS IS OF BULK AT MOST 1048576: true; the input reads as it did. -/
def reputeCountsUptoRow : OpenClaim := { program := "ytibkpodkogclbaa", sum := "0ba3c1ed65dd3fae86fbcc14f3336ef0bb2cf21a90fb4b5656fd02e62db751fc", func := "quaestor/quaestorlaw19.ReputeCounts", spec := "reputeCounts", inPlace := ["internal/bytealg.Compare", "slices.overlaps[quaestor/api.Fame]"], unfollowed := true, recurses := true, apart := false, narrowed := true }
def ReputeCountsUptoSaid : Prop := reputeCountsUptoRow.holds Try.pinned (OpenSpec.upto reputeCountsSpec)

end Rows
end Go.Proofs.Ytibkpodkogclbaa
