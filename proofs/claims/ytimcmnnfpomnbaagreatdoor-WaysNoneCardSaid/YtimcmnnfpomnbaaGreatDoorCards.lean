/-
  DERIVED. GIVEN WITH THE SEED: THE CARDS: each row of YtimcmnnfpomnbaaGreatDoorRows.lean that lists a variable, with what it lists TIED to the program's text (the seventh form; the later family's looks); each row that meets fmt, with fmt's text TOLD by the authors' own Lean function (tested against real Go, not proved from fmt's source: count such statements apart). THE CARD IS WHAT COUNTS. Prove the row's statement (the work); the ties are given (YtimcmnnfpomnbaaGreatDoorTie.lean); close each card by the builder's one call (the guide's Derived/Test/ToyasCard.lean, 'card_holds'). Laid BY PROGRAM, IN A SANDBOX (cutbox-door.mjs). By AI agents, Wed Nov 11 2026. No macro, syntax, notation, axiom, sorry.
-/
import Derived.Test.YtimcmnnfpomnbaaGreatDoorRows
import GoSem.ClaimSeven
namespace Go.Proofs.YtimcmnnfpomnbaaGreatDoor
namespace Rows

/-- THE TIED CARD OF 'caltroplaw07.PrinterApart'. -/
def printerApartCard : Claim7 := { stood := { row := printerApartRow, standIns := [], harness := (true, "7a7dd2dc1e1f6f6581c3b87c9d6a71e2a31cbbfc02779d1975ed0352fbaff0f6"), looks := false }, kinds := [], alts := [], laidByText := true, laidKinds := [.data, .data, .data], laidTests := true, laidLooks := .later }
def PrinterApartCardSaid : Prop := Claim7.holds Tryz.pinned (.plain (OpenSpec.ofChange printerApartSpec)) printerApartCard

/-- THE TIED CARD OF 'caltroplaw07.PrinterNone'. -/
def printerNoneCard : Claim7 := { stood := { row := printerNoneRow, standIns := [], harness := (true, "7a7dd2dc1e1f6f6581c3b87c9d6a71e2a31cbbfc02779d1975ed0352fbaff0f6"), looks := false }, kinds := [], alts := [], laidByText := true, laidKinds := [.data, .data, .data], laidTests := true, laidLooks := .later }
def PrinterNoneCardSaid : Prop := Claim7.holds Tryz.pinned (.plain (OpenSpec.ofChange printerNoneSpec)) printerNoneCard

/-- THE TIED CARD OF 'caltroplaw07.PrinterParts'. -/
def printerPartsCard : Claim7 := { stood := { row := printerPartsRow, standIns := [], harness := (true, "7a7dd2dc1e1f6f6581c3b87c9d6a71e2a31cbbfc02779d1975ed0352fbaff0f6"), looks := false }, kinds := [], alts := [], laidByText := true, laidKinds := [.data, .data, .data], laidTests := true, laidLooks := .later }
def PrinterPartsCardSaid : Prop := Claim7.holds Tryz.pinned (.plain (OpenSpec.ofChange printerPartsSpec)) printerPartsCard

/-- THE TIED CARD OF 'caltroplaw07.PrinterBack'. -/
def printerBackCard : Claim7 := { stood := { row := printerBackRow, standIns := [], harness := (true, "7a7dd2dc1e1f6f6581c3b87c9d6a71e2a31cbbfc02779d1975ed0352fbaff0f6"), looks := false }, kinds := [], alts := [], laidByText := true, laidKinds := [.data, .data, .data], laidTests := true, laidLooks := .later }
def PrinterBackCardSaid : Prop := Claim7.holds Tryz.pinned (.plain (OpenSpec.ofChange printerBackSpec)) printerBackCard

/-- THE TIED CARD OF 'caltroplaw08.CoreNone'. -/
def coreNoneCard : Claim7 := { stood := { row := coreNoneRow, standIns := [], harness := (true, "7a7dd2dc1e1f6f6581c3b87c9d6a71e2a31cbbfc02779d1975ed0352fbaff0f6"), looks := false }, kinds := [], alts := [], laidByText := true, laidKinds := [.data], laidTests := true, laidLooks := .later }
def CoreNoneCardSaid : Prop := Claim7.holds Tryz.pinned (.plain (OpenSpec.ofChange coreNoneSpec)) coreNoneCard

/-- THE TIED CARD OF 'caltroplaw08.CoreSame'. -/
def coreSameCard : Claim7 := { stood := { row := coreSameRow, standIns := [], harness := (true, "7a7dd2dc1e1f6f6581c3b87c9d6a71e2a31cbbfc02779d1975ed0352fbaff0f6"), looks := false }, kinds := [], alts := [], laidByText := true, laidKinds := [.data], laidTests := true, laidLooks := .later }
def CoreSameCardSaid : Prop := Claim7.holds Tryz.pinned (.plain (OpenSpec.ofChange coreSameSpec)) coreSameCard

/-- THE TIED CARD OF 'caltroplaw09.WeighNone'. -/
def weighNoneCard : Claim7 := { stood := { row := weighNoneRow, standIns := [], harness := (true, "7a7dd2dc1e1f6f6581c3b87c9d6a71e2a31cbbfc02779d1975ed0352fbaff0f6"), looks := false }, kinds := [], alts := [], laidByText := true, laidKinds := [.data], laidTests := true, laidLooks := .later }
def WeighNoneCardSaid : Prop := Claim7.holds Tryz.pinned (.plain (OpenSpec.ofChange weighNoneSpec)) weighNoneCard

/-- THE TIED CARD OF 'caltroplaw13.WaysNone'. -/
def waysNoneCard : Claim7 := { stood := { row := waysNoneRow, standIns := [], harness := (true, "7a7dd2dc1e1f6f6581c3b87c9d6a71e2a31cbbfc02779d1975ed0352fbaff0f6"), looks := false }, kinds := [], alts := [], laidByText := true, laidKinds := [.data], laidTests := true, laidLooks := .later }
def WaysNoneCardSaid : Prop := Claim7.holds Tryz.pinned (.plain (OpenSpec.ofChange waysNoneSpec)) waysNoneCard

/-- THE TIED CARD OF 'caltroplaw25.TraceNone'. -/
def traceNoneCard : Claim7 := { stood := { row := traceNoneRow, standIns := [], harness := (true, "7a7dd2dc1e1f6f6581c3b87c9d6a71e2a31cbbfc02779d1975ed0352fbaff0f6"), looks := false }, kinds := [], alts := [], laidByText := true, laidKinds := [.data, .data, .data], laidTests := true, laidLooks := .later }
def TraceNoneCardSaid : Prop := Claim7.holds Tryz.pinned (.plain (OpenSpec.ofChange traceNoneSpec)) traceNoneCard

/-- THE TIED CARD OF 'caltroplaw11.MemberNone'. -/
def memberNoneCard : Claim7 := { stood := { row := memberNoneRow, standIns := [], harness := (true, "7a7dd2dc1e1f6f6581c3b87c9d6a71e2a31cbbfc02779d1975ed0352fbaff0f6"), looks := false }, kinds := [], alts := [], laidByText := true, laidKinds := [.data], laidTests := true, laidLooks := .later }
def MemberNoneCardSaid : Prop := Claim7.holds Tryz.pinned (.plain (OpenSpec.ofChange memberNoneSpec)) memberNoneCard

/-- THE TIED CARD OF 'caltroplaw15.SquareNone'. -/
def squareNoneCard : Claim7 := { stood := { row := squareNoneRow, standIns := [], harness := (true, "7a7dd2dc1e1f6f6581c3b87c9d6a71e2a31cbbfc02779d1975ed0352fbaff0f6"), looks := false }, kinds := [], alts := [], laidByText := true, laidKinds := [.data], laidTests := true, laidLooks := .later }
def SquareNoneCardSaid : Prop := Claim7.holds Tryz.pinned (.plain (OpenSpec.ofChange squareNoneSpec)) squareNoneCard

/-- THE SECOND FORM's CARD OF 'caltroplaw07.PrinterApart'. -/
def printerApartUptoCard : Claim7 := { stood := { row := printerApartUptoRow, standIns := [], harness := (true, "7a7dd2dc1e1f6f6581c3b87c9d6a71e2a31cbbfc02779d1975ed0352fbaff0f6"), looks := false }, kinds := [], alts := [], laidByText := true, laidKinds := [.data, .data, .data], laidTests := true, laidLooks := .later }
def PrinterApartUptoCardSaid : Prop := Claim7.holds Tryz.pinned (.plain (OpenSpec.upto printerApartSpec)) printerApartUptoCard

/-- THE SECOND FORM's CARD OF 'caltroplaw07.PrinterNone'. -/
def printerNoneUptoCard : Claim7 := { stood := { row := printerNoneUptoRow, standIns := [], harness := (true, "7a7dd2dc1e1f6f6581c3b87c9d6a71e2a31cbbfc02779d1975ed0352fbaff0f6"), looks := false }, kinds := [], alts := [], laidByText := true, laidKinds := [.data, .data, .data], laidTests := true, laidLooks := .later }
def PrinterNoneUptoCardSaid : Prop := Claim7.holds Tryz.pinned (.plain (OpenSpec.upto printerNoneSpec)) printerNoneUptoCard

/-- THE SECOND FORM's CARD OF 'caltroplaw07.PrinterParts'. -/
def printerPartsUptoCard : Claim7 := { stood := { row := printerPartsUptoRow, standIns := [], harness := (true, "7a7dd2dc1e1f6f6581c3b87c9d6a71e2a31cbbfc02779d1975ed0352fbaff0f6"), looks := false }, kinds := [], alts := [], laidByText := true, laidKinds := [.data, .data, .data], laidTests := true, laidLooks := .later }
def PrinterPartsUptoCardSaid : Prop := Claim7.holds Tryz.pinned (.plain (OpenSpec.upto printerPartsSpec)) printerPartsUptoCard

/-- THE SECOND FORM's CARD OF 'caltroplaw07.PrinterBack'. -/
def printerBackUptoCard : Claim7 := { stood := { row := printerBackUptoRow, standIns := [], harness := (true, "7a7dd2dc1e1f6f6581c3b87c9d6a71e2a31cbbfc02779d1975ed0352fbaff0f6"), looks := false }, kinds := [], alts := [], laidByText := true, laidKinds := [.data, .data, .data], laidTests := true, laidLooks := .later }
def PrinterBackUptoCardSaid : Prop := Claim7.holds Tryz.pinned (.plain (OpenSpec.upto printerBackSpec)) printerBackUptoCard

/-- THE SECOND FORM's CARD OF 'caltroplaw08.CoreNone'. -/
def coreNoneUptoCard : Claim7 := { stood := { row := coreNoneUptoRow, standIns := [], harness := (true, "7a7dd2dc1e1f6f6581c3b87c9d6a71e2a31cbbfc02779d1975ed0352fbaff0f6"), looks := false }, kinds := [], alts := [], laidByText := true, laidKinds := [.data], laidTests := true, laidLooks := .later }
def CoreNoneUptoCardSaid : Prop := Claim7.holds Tryz.pinned (.plain (OpenSpec.upto coreNoneSpec)) coreNoneUptoCard

/-- THE SECOND FORM's CARD OF 'caltroplaw08.CoreSame'. -/
def coreSameUptoCard : Claim7 := { stood := { row := coreSameUptoRow, standIns := [], harness := (true, "7a7dd2dc1e1f6f6581c3b87c9d6a71e2a31cbbfc02779d1975ed0352fbaff0f6"), looks := false }, kinds := [], alts := [], laidByText := true, laidKinds := [.data], laidTests := true, laidLooks := .later }
def CoreSameUptoCardSaid : Prop := Claim7.holds Tryz.pinned (.plain (OpenSpec.upto coreSameSpec)) coreSameUptoCard

/-- THE SECOND FORM's CARD OF 'caltroplaw09.WeighNone'. -/
def weighNoneUptoCard : Claim7 := { stood := { row := weighNoneUptoRow, standIns := [], harness := (true, "7a7dd2dc1e1f6f6581c3b87c9d6a71e2a31cbbfc02779d1975ed0352fbaff0f6"), looks := false }, kinds := [], alts := [], laidByText := true, laidKinds := [.data], laidTests := true, laidLooks := .later }
def WeighNoneUptoCardSaid : Prop := Claim7.holds Tryz.pinned (.plain (OpenSpec.upto weighNoneSpec)) weighNoneUptoCard

/-- THE SECOND FORM's CARD OF 'caltroplaw13.WaysNone'. -/
def waysNoneUptoCard : Claim7 := { stood := { row := waysNoneUptoRow, standIns := [], harness := (true, "7a7dd2dc1e1f6f6581c3b87c9d6a71e2a31cbbfc02779d1975ed0352fbaff0f6"), looks := false }, kinds := [], alts := [], laidByText := true, laidKinds := [.data], laidTests := true, laidLooks := .later }
def WaysNoneUptoCardSaid : Prop := Claim7.holds Tryz.pinned (.plain (OpenSpec.upto waysNoneSpec)) waysNoneUptoCard

/-- THE SECOND FORM's CARD OF 'caltroplaw25.TraceNone'. -/
def traceNoneUptoCard : Claim7 := { stood := { row := traceNoneUptoRow, standIns := [], harness := (true, "7a7dd2dc1e1f6f6581c3b87c9d6a71e2a31cbbfc02779d1975ed0352fbaff0f6"), looks := false }, kinds := [], alts := [], laidByText := true, laidKinds := [.data, .data, .data], laidTests := true, laidLooks := .later }
def TraceNoneUptoCardSaid : Prop := Claim7.holds Tryz.pinned (.plain (OpenSpec.upto traceNoneSpec)) traceNoneUptoCard

/-- THE SECOND FORM's CARD OF 'caltroplaw11.MemberNone'. -/
def memberNoneUptoCard : Claim7 := { stood := { row := memberNoneUptoRow, standIns := [], harness := (true, "7a7dd2dc1e1f6f6581c3b87c9d6a71e2a31cbbfc02779d1975ed0352fbaff0f6"), looks := false }, kinds := [], alts := [], laidByText := true, laidKinds := [.data], laidTests := true, laidLooks := .later }
def MemberNoneUptoCardSaid : Prop := Claim7.holds Tryz.pinned (.plain (OpenSpec.upto memberNoneSpec)) memberNoneUptoCard

/-- THE SECOND FORM's CARD OF 'caltroplaw15.SquareNone'. -/
def squareNoneUptoCard : Claim7 := { stood := { row := squareNoneUptoRow, standIns := [], harness := (true, "7a7dd2dc1e1f6f6581c3b87c9d6a71e2a31cbbfc02779d1975ed0352fbaff0f6"), looks := false }, kinds := [], alts := [], laidByText := true, laidKinds := [.data], laidTests := true, laidLooks := .later }
def SquareNoneUptoCardSaid : Prop := Claim7.holds Tryz.pinned (.plain (OpenSpec.upto squareNoneSpec)) squareNoneUptoCard
end Rows
end Go.Proofs.YtimcmnnfpomnbaaGreatDoor
