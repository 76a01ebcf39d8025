/-
  DERIVED. GIVEN WITH THE SEED: THE CARDS: each row of YtljobcehngpicaaDoorRows.lean that lists a variable, with what it lists TIED to the program's text (the seventh form; the later family's looks); each row that meets fmt, with fmt's text TOLD by the authors' own Lean function (tested against real Go, not proved from fmt's source: count such statements apart). THE CARD IS WHAT COUNTS. Prove the row's statement (the work); the ties are given (YtljobcehngpicaaDoorTie.lean); close each card by the builder's one call (the guide's Derived/Test/ToyasCard.lean, 'card_holds'). Laid BY PROGRAM, IN A SANDBOX (cutbox-door.mjs). By AI agents, Wed Nov 11 2026. No macro, syntax, notation, axiom, sorry.
-/
import Derived.Test.YtljobcehngpicaaDoorRows
import GoSem.ClaimSeven
namespace Go.Proofs.YtljobcehngpicaaDoor
namespace Rows

/-- THE TIED CARD OF 'quaestorlaw06.HexaWrites'. -/
def hexaWritesCard : Claim7 := { stood := { row := hexaWritesRow, standIns := [], harness := (true, "95cfe0f8bc6536e9fcdf6a063d5018f53283c1701064a9117eeb341368f2fb7c"), looks := false }, kinds := [], alts := [], laidByText := true, laidKinds := [.data, .pinned], laidTests := true, laidLooks := .later }
def HexaWritesCardSaid : Prop := Claim7.holds Tryd.pinned (.plain (OpenSpec.ofChange hexaWritesSpec)) hexaWritesCard

/-- THE TIED CARD OF 'quaestorlaw06.HexaReads'. -/
def hexaReadsCard : Claim7 := { stood := { row := hexaReadsRow, standIns := [], harness := (true, "95cfe0f8bc6536e9fcdf6a063d5018f53283c1701064a9117eeb341368f2fb7c"), looks := false }, kinds := [], alts := [], laidByText := true, laidKinds := [.data, .pinned], laidTests := true, laidLooks := .later }
def HexaReadsCardSaid : Prop := Claim7.holds Tryd.pinned (.plain (OpenSpec.ofChange hexaReadsSpec)) hexaReadsCard

/-- THE TIED CARD OF 'quaestorlaw06.HexaBack'. -/
def hexaBackCard : Claim7 := { stood := { row := hexaBackRow, standIns := [], harness := (true, "95cfe0f8bc6536e9fcdf6a063d5018f53283c1701064a9117eeb341368f2fb7c"), looks := false }, kinds := [], alts := [], laidByText := true, laidKinds := [.data, .pinned], laidTests := true, laidLooks := .later }
def HexaBackCardSaid : Prop := Claim7.holds Tryd.pinned (.plain (OpenSpec.ofChange hexaBackSpec)) hexaBackCard

/-- THE TIED CARD OF 'quaestorlaw06.HexaSize'. -/
def hexaSizeCard : Claim7 := { stood := { row := hexaSizeRow, standIns := [], harness := (true, "95cfe0f8bc6536e9fcdf6a063d5018f53283c1701064a9117eeb341368f2fb7c"), looks := false }, kinds := [], alts := [], laidByText := true, laidKinds := [.data, .pinned], laidTests := true, laidLooks := .later }
def HexaSizeCardSaid : Prop := Claim7.holds Tryd.pinned (.plain (OpenSpec.ofChange hexaSizeSpec)) hexaSizeCard

/-- THE SECOND FORM's CARD OF 'quaestorlaw06.HexaWrites'. -/
def hexaWritesUptoCard : Claim7 := { stood := { row := hexaWritesUptoRow, standIns := [], harness := (true, "95cfe0f8bc6536e9fcdf6a063d5018f53283c1701064a9117eeb341368f2fb7c"), looks := false }, kinds := [], alts := [], laidByText := true, laidKinds := [.data, .pinned], laidTests := true, laidLooks := .later }
def HexaWritesUptoCardSaid : Prop := Claim7.holds Tryd.pinned (.plain (OpenSpec.upto hexaWritesSpec)) hexaWritesUptoCard

/-- THE SECOND FORM's CARD OF 'quaestorlaw06.HexaReads'. -/
def hexaReadsUptoCard : Claim7 := { stood := { row := hexaReadsUptoRow, standIns := [], harness := (true, "95cfe0f8bc6536e9fcdf6a063d5018f53283c1701064a9117eeb341368f2fb7c"), looks := false }, kinds := [], alts := [], laidByText := true, laidKinds := [.data, .pinned], laidTests := true, laidLooks := .later }
def HexaReadsUptoCardSaid : Prop := Claim7.holds Tryd.pinned (.plain (OpenSpec.upto hexaReadsSpec)) hexaReadsUptoCard

/-- THE SECOND FORM's CARD OF 'quaestorlaw06.HexaBack'. -/
def hexaBackUptoCard : Claim7 := { stood := { row := hexaBackUptoRow, standIns := [], harness := (true, "95cfe0f8bc6536e9fcdf6a063d5018f53283c1701064a9117eeb341368f2fb7c"), looks := false }, kinds := [], alts := [], laidByText := true, laidKinds := [.data, .pinned], laidTests := true, laidLooks := .later }
def HexaBackUptoCardSaid : Prop := Claim7.holds Tryd.pinned (.plain (OpenSpec.upto hexaBackSpec)) hexaBackUptoCard

/-- THE SECOND FORM's CARD OF 'quaestorlaw06.HexaSize'. -/
def hexaSizeUptoCard : Claim7 := { stood := { row := hexaSizeUptoRow, standIns := [], harness := (true, "95cfe0f8bc6536e9fcdf6a063d5018f53283c1701064a9117eeb341368f2fb7c"), looks := false }, kinds := [], alts := [], laidByText := true, laidKinds := [.data, .pinned], laidTests := true, laidLooks := .later }
def HexaSizeUptoCardSaid : Prop := Claim7.holds Tryd.pinned (.plain (OpenSpec.upto hexaSizeSpec)) hexaSizeUptoCard
end Rows
end Go.Proofs.YtljobcehngpicaaDoor
