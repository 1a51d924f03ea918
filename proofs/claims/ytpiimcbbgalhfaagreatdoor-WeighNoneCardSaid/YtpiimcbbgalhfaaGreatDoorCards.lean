/-
  DERIVED. GIVEN WITH THE SEED: THE CARDS: each row of YtpiimcbbgalhfaaGreatDoorRows.lean that lists a variable, with what it lists TIED to the program's text (the seventh form; the later family's looks); each row that meets fmt, with fmt's text TOLD by the authors' own Lean function (tested against real Go, not proved from fmt's source: count such statements apart). THE CARD IS WHAT COUNTS. Prove the row's statement (the work); the ties are given (YtpiimcbbgalhfaaGreatDoorTie.lean); close each card by the builder's one call (the guide's Derived/Test/ToyasCard.lean, 'card_holds'). Laid BY PROGRAM, IN A SANDBOX (cutbox-door.mjs). By AI agents, Wed Nov 11 2026. No macro, syntax, notation, axiom, sorry.
-/
import Derived.Test.YtpiimcbbgalhfaaGreatDoorRows
import GoSem.ClaimSeven
namespace Go.Proofs.YtpiimcbbgalhfaaGreatDoor
namespace Rows

/-- THE TIED CARD OF 'caltroplaw07.PrinterParts'. -/
def printerPartsCard : Claim7 := { stood := { row := printerPartsRow, standIns := [], harness := (true, "ae6ee8cb0317b971bf8949b39aefbfd995df97a39f22a1239b84fc6e89f3b58d"), looks := false }, kinds := [], alts := [], laidByText := true, laidKinds := [.data, .data, .data], laidTests := true, laidLooks := .later }
def PrinterPartsCardSaid : Prop := Claim7.holds Tryz.pinned (.plain (OpenSpec.ofChange printerPartsSpec)) printerPartsCard

/-- THE TIED CARD OF 'caltroplaw07.PrinterBack'. -/
def printerBackCard : Claim7 := { stood := { row := printerBackRow, standIns := [], harness := (true, "ae6ee8cb0317b971bf8949b39aefbfd995df97a39f22a1239b84fc6e89f3b58d"), looks := false }, kinds := [], alts := [], laidByText := true, laidKinds := [.data, .data, .data], laidTests := true, laidLooks := .later }
def PrinterBackCardSaid : Prop := Claim7.holds Tryz.pinned (.plain (OpenSpec.ofChange printerBackSpec)) printerBackCard

/-- THE TIED CARD OF 'caltroplaw09.WeighNone'. -/
def weighNoneCard : Claim7 := { stood := { row := weighNoneRow, standIns := [], harness := (true, "ae6ee8cb0317b971bf8949b39aefbfd995df97a39f22a1239b84fc6e89f3b58d"), looks := false }, kinds := [], alts := [], laidByText := true, laidKinds := [.data], laidTests := true, laidLooks := .later }
def WeighNoneCardSaid : Prop := Claim7.holds Tryz.pinned (.plain (OpenSpec.ofChange weighNoneSpec)) weighNoneCard

/-- THE TIED CARD OF 'caltroplaw09.WeighCats'. -/
def weighCatsCard : Claim7 := { stood := { row := weighCatsRow, standIns := [], harness := (true, "ae6ee8cb0317b971bf8949b39aefbfd995df97a39f22a1239b84fc6e89f3b58d"), looks := false }, kinds := [], alts := [], laidByText := true, laidKinds := [.data], laidTests := true, laidLooks := .later }
def WeighCatsCardSaid : Prop := Claim7.holds Tryz.pinned (.plain (OpenSpec.ofChange weighCatsSpec)) weighCatsCard

/-- THE TIED CARD OF 'caltroplaw13.WaysNone'. -/
def waysNoneCard : Claim7 := { stood := { row := waysNoneRow, standIns := [], harness := (true, "ae6ee8cb0317b971bf8949b39aefbfd995df97a39f22a1239b84fc6e89f3b58d"), looks := false }, kinds := [], alts := [], laidByText := true, laidKinds := [.data], laidTests := true, laidLooks := .later }
def WaysNoneCardSaid : Prop := Claim7.holds Tryz.pinned (.plain (OpenSpec.ofChange waysNoneSpec)) waysNoneCard

/-- THE TIED CARD OF 'caltroplaw25.TraceNone'. -/
def traceNoneCard : Claim7 := { stood := { row := traceNoneRow, standIns := [], harness := (true, "ae6ee8cb0317b971bf8949b39aefbfd995df97a39f22a1239b84fc6e89f3b58d"), looks := false }, kinds := [], alts := [], laidByText := true, laidKinds := [.data, .data, .data], laidTests := true, laidLooks := .later }
def TraceNoneCardSaid : Prop := Claim7.holds Tryz.pinned (.plain (OpenSpec.ofChange traceNoneSpec)) traceNoneCard

/-- THE TIED CARD OF 'caltroplaw11.MemberNone'. -/
def memberNoneCard : Claim7 := { stood := { row := memberNoneRow, standIns := [], harness := (true, "ae6ee8cb0317b971bf8949b39aefbfd995df97a39f22a1239b84fc6e89f3b58d"), looks := false }, kinds := [], alts := [], laidByText := true, laidKinds := [.data], laidTests := true, laidLooks := .later }
def MemberNoneCardSaid : Prop := Claim7.holds Tryz.pinned (.plain (OpenSpec.ofChange memberNoneSpec)) memberNoneCard

/-- THE TIED CARD OF 'caltroplaw27.SameNone'. -/
def sameNoneCard : Claim7 := { stood := { row := sameNoneRow, standIns := [], harness := (true, "ae6ee8cb0317b971bf8949b39aefbfd995df97a39f22a1239b84fc6e89f3b58d"), looks := false }, kinds := [], alts := [], laidByText := true, laidKinds := [.data], laidTests := true, laidLooks := .later }
def SameNoneCardSaid : Prop := Claim7.holds Tryz.pinned (.plain (OpenSpec.ofChange sameNoneSpec)) sameNoneCard

/-- THE SECOND FORM's CARD OF 'caltroplaw07.PrinterParts'. -/
def printerPartsUptoCard : Claim7 := { stood := { row := printerPartsUptoRow, standIns := [], harness := (true, "ae6ee8cb0317b971bf8949b39aefbfd995df97a39f22a1239b84fc6e89f3b58d"), looks := false }, kinds := [], alts := [], laidByText := true, laidKinds := [.data, .data, .data], laidTests := true, laidLooks := .later }
def PrinterPartsUptoCardSaid : Prop := Claim7.holds Tryz.pinned (.plain (OpenSpec.upto printerPartsSpec)) printerPartsUptoCard

/-- THE SECOND FORM's CARD OF 'caltroplaw07.PrinterBack'. -/
def printerBackUptoCard : Claim7 := { stood := { row := printerBackUptoRow, standIns := [], harness := (true, "ae6ee8cb0317b971bf8949b39aefbfd995df97a39f22a1239b84fc6e89f3b58d"), looks := false }, kinds := [], alts := [], laidByText := true, laidKinds := [.data, .data, .data], laidTests := true, laidLooks := .later }
def PrinterBackUptoCardSaid : Prop := Claim7.holds Tryz.pinned (.plain (OpenSpec.upto printerBackSpec)) printerBackUptoCard

/-- THE SECOND FORM's CARD OF 'caltroplaw09.WeighNone'. -/
def weighNoneUptoCard : Claim7 := { stood := { row := weighNoneUptoRow, standIns := [], harness := (true, "ae6ee8cb0317b971bf8949b39aefbfd995df97a39f22a1239b84fc6e89f3b58d"), looks := false }, kinds := [], alts := [], laidByText := true, laidKinds := [.data], laidTests := true, laidLooks := .later }
def WeighNoneUptoCardSaid : Prop := Claim7.holds Tryz.pinned (.plain (OpenSpec.upto weighNoneSpec)) weighNoneUptoCard

/-- THE SECOND FORM's CARD OF 'caltroplaw09.WeighCats'. -/
def weighCatsUptoCard : Claim7 := { stood := { row := weighCatsUptoRow, standIns := [], harness := (true, "ae6ee8cb0317b971bf8949b39aefbfd995df97a39f22a1239b84fc6e89f3b58d"), looks := false }, kinds := [], alts := [], laidByText := true, laidKinds := [.data], laidTests := true, laidLooks := .later }
def WeighCatsUptoCardSaid : Prop := Claim7.holds Tryz.pinned (.plain (OpenSpec.upto weighCatsSpec)) weighCatsUptoCard

/-- THE SECOND FORM's CARD OF 'caltroplaw13.WaysNone'. -/
def waysNoneUptoCard : Claim7 := { stood := { row := waysNoneUptoRow, standIns := [], harness := (true, "ae6ee8cb0317b971bf8949b39aefbfd995df97a39f22a1239b84fc6e89f3b58d"), looks := false }, kinds := [], alts := [], laidByText := true, laidKinds := [.data], laidTests := true, laidLooks := .later }
def WaysNoneUptoCardSaid : Prop := Claim7.holds Tryz.pinned (.plain (OpenSpec.upto waysNoneSpec)) waysNoneUptoCard

/-- THE SECOND FORM's CARD OF 'caltroplaw25.TraceNone'. -/
def traceNoneUptoCard : Claim7 := { stood := { row := traceNoneUptoRow, standIns := [], harness := (true, "ae6ee8cb0317b971bf8949b39aefbfd995df97a39f22a1239b84fc6e89f3b58d"), looks := false }, kinds := [], alts := [], laidByText := true, laidKinds := [.data, .data, .data], laidTests := true, laidLooks := .later }
def TraceNoneUptoCardSaid : Prop := Claim7.holds Tryz.pinned (.plain (OpenSpec.upto traceNoneSpec)) traceNoneUptoCard

/-- THE SECOND FORM's CARD OF 'caltroplaw11.MemberNone'. -/
def memberNoneUptoCard : Claim7 := { stood := { row := memberNoneUptoRow, standIns := [], harness := (true, "ae6ee8cb0317b971bf8949b39aefbfd995df97a39f22a1239b84fc6e89f3b58d"), looks := false }, kinds := [], alts := [], laidByText := true, laidKinds := [.data], laidTests := true, laidLooks := .later }
def MemberNoneUptoCardSaid : Prop := Claim7.holds Tryz.pinned (.plain (OpenSpec.upto memberNoneSpec)) memberNoneUptoCard

/-- THE SECOND FORM's CARD OF 'caltroplaw27.SameNone'. -/
def sameNoneUptoCard : Claim7 := { stood := { row := sameNoneUptoRow, standIns := [], harness := (true, "ae6ee8cb0317b971bf8949b39aefbfd995df97a39f22a1239b84fc6e89f3b58d"), looks := false }, kinds := [], alts := [], laidByText := true, laidKinds := [.data], laidTests := true, laidLooks := .later }
def SameNoneUptoCardSaid : Prop := Claim7.holds Tryz.pinned (.plain (OpenSpec.upto sameNoneSpec)) sameNoneUptoCard
end Rows
end Go.Proofs.YtpiimcbbgalhfaaGreatDoor
