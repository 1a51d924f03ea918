/-
  DERIVED. GIVEN WITH THE SEED: THE CARDS: each row of YtanimknpnniabaaDoorRows.lean that lists a variable, with what it lists TIED to the program's text (the seventh form; the later family's looks); each row that meets fmt, with fmt's text TOLD by the authors' own Lean function (tested against real Go, not proved from fmt's source: count such statements apart). THE CARD IS WHAT COUNTS. Prove the row's statement (the work); the ties are given (YtanimknpnniabaaDoorTie.lean); close each card by the builder's one call (the guide's Derived/Test/ToyasCard.lean, 'card_holds'). Laid BY PROGRAM, IN A SANDBOX (cutbox-door.mjs). By AI agents, Wed Nov 11 2026. No macro, syntax, notation, axiom, sorry.
-/
import Derived.Test.YtanimknpnniabaaDoorRows
import GoSem.ClaimSeven
namespace Go.Proofs.YtanimknpnniabaaDoor
namespace Rows

/-- THE TIED CARD OF 'caltroplaw04.BlocksOf'. -/
def blocksOfCard : Claim7 := { stood := { row := blocksOfRow, standIns := [], harness := (true, "23f8d099b8cb5ac76cce2c713e0c70e1d576ddcaffbf6633ad7e511677efdf67"), looks := false }, kinds := [], alts := [], laidByText := true, laidKinds := [.data], laidTests := true, laidLooks := .later }
def BlocksOfCardSaid : Prop := Claim7.holds Tryd.pinned (.plain (OpenSpec.ofChange blocksOfSpec)) blocksOfCard

/-- THE TIED CARD OF 'caltroplaw01.BytesMakes'. -/
def bytesMakesCard : Claim7 := { stood := { row := bytesMakesRow, standIns := [], harness := (true, "23f8d099b8cb5ac76cce2c713e0c70e1d576ddcaffbf6633ad7e511677efdf67"), looks := false }, kinds := [], alts := [], laidByText := true, laidKinds := [.data], laidTests := true, laidLooks := .later }
def BytesMakesCardSaid : Prop := Claim7.holds Tryd.pinned (.plain (OpenSpec.ofChange bytesMakesSpec)) bytesMakesCard

/-- THE TIED CARD OF 'caltroplaw04.BlocksMore'. -/
def blocksMoreCard : Claim7 := { stood := { row := blocksMoreRow, standIns := [], harness := (true, "23f8d099b8cb5ac76cce2c713e0c70e1d576ddcaffbf6633ad7e511677efdf67"), looks := false }, kinds := [], alts := [], laidByText := true, laidKinds := [.data], laidTests := true, laidLooks := .later }
def BlocksMoreCardSaid : Prop := Claim7.holds Tryd.pinned (.plain (OpenSpec.ofChange blocksMoreSpec)) blocksMoreCard

/-- THE TIED CARD OF 'caltroplaw04.BlocksIn'. -/
def blocksInCard : Claim7 := { stood := { row := blocksInRow, standIns := [], harness := (true, "23f8d099b8cb5ac76cce2c713e0c70e1d576ddcaffbf6633ad7e511677efdf67"), looks := false }, kinds := [], alts := [], laidByText := true, laidKinds := [.data], laidTests := true, laidLooks := .later }
def BlocksInCardSaid : Prop := Claim7.holds Tryd.pinned (.plain (OpenSpec.ofChange blocksInSpec)) blocksInCard

/-- THE TIED CARD OF 'caltroplaw04.BlocksWords'. -/
def blocksWordsCard : Claim7 := { stood := { row := blocksWordsRow, standIns := [], harness := (true, "23f8d099b8cb5ac76cce2c713e0c70e1d576ddcaffbf6633ad7e511677efdf67"), looks := false }, kinds := [], alts := [], laidByText := true, laidKinds := [.data], laidTests := true, laidLooks := .later }
def BlocksWordsCardSaid : Prop := Claim7.holds Tryd.pinned (.plain (OpenSpec.ofChange blocksWordsSpec)) blocksWordsCard

/-- THE TIED CARD OF 'caltroplaw04.BlocksNone'. -/
def blocksNoneCard : Claim7 := { stood := { row := blocksNoneRow, standIns := [], harness := (true, "23f8d099b8cb5ac76cce2c713e0c70e1d576ddcaffbf6633ad7e511677efdf67"), looks := false }, kinds := [], alts := [], laidByText := true, laidKinds := [.data], laidTests := true, laidLooks := .later }
def BlocksNoneCardSaid : Prop := Claim7.holds Tryd.pinned (.plain (OpenSpec.ofChange blocksNoneSpec)) blocksNoneCard

/-- THE SECOND FORM's CARD OF 'caltroplaw04.BlocksOf'. -/
def blocksOfUptoCard : Claim7 := { stood := { row := blocksOfUptoRow, standIns := [], harness := (true, "23f8d099b8cb5ac76cce2c713e0c70e1d576ddcaffbf6633ad7e511677efdf67"), looks := false }, kinds := [], alts := [], laidByText := true, laidKinds := [.data], laidTests := true, laidLooks := .later }
def BlocksOfUptoCardSaid : Prop := Claim7.holds Tryd.pinned (.plain (OpenSpec.upto blocksOfSpec)) blocksOfUptoCard

/-- THE SECOND FORM's CARD OF 'caltroplaw01.BytesMakes'. -/
def bytesMakesUptoCard : Claim7 := { stood := { row := bytesMakesUptoRow, standIns := [], harness := (true, "23f8d099b8cb5ac76cce2c713e0c70e1d576ddcaffbf6633ad7e511677efdf67"), looks := false }, kinds := [], alts := [], laidByText := true, laidKinds := [.data], laidTests := true, laidLooks := .later }
def BytesMakesUptoCardSaid : Prop := Claim7.holds Tryd.pinned (.plain (OpenSpec.upto bytesMakesSpec)) bytesMakesUptoCard

/-- THE SECOND FORM's CARD OF 'caltroplaw04.BlocksMore'. -/
def blocksMoreUptoCard : Claim7 := { stood := { row := blocksMoreUptoRow, standIns := [], harness := (true, "23f8d099b8cb5ac76cce2c713e0c70e1d576ddcaffbf6633ad7e511677efdf67"), looks := false }, kinds := [], alts := [], laidByText := true, laidKinds := [.data], laidTests := true, laidLooks := .later }
def BlocksMoreUptoCardSaid : Prop := Claim7.holds Tryd.pinned (.plain (OpenSpec.upto blocksMoreSpec)) blocksMoreUptoCard

/-- THE SECOND FORM's CARD OF 'caltroplaw04.BlocksIn'. -/
def blocksInUptoCard : Claim7 := { stood := { row := blocksInUptoRow, standIns := [], harness := (true, "23f8d099b8cb5ac76cce2c713e0c70e1d576ddcaffbf6633ad7e511677efdf67"), looks := false }, kinds := [], alts := [], laidByText := true, laidKinds := [.data], laidTests := true, laidLooks := .later }
def BlocksInUptoCardSaid : Prop := Claim7.holds Tryd.pinned (.plain (OpenSpec.upto blocksInSpec)) blocksInUptoCard

/-- THE SECOND FORM's CARD OF 'caltroplaw04.BlocksWords'. -/
def blocksWordsUptoCard : Claim7 := { stood := { row := blocksWordsUptoRow, standIns := [], harness := (true, "23f8d099b8cb5ac76cce2c713e0c70e1d576ddcaffbf6633ad7e511677efdf67"), looks := false }, kinds := [], alts := [], laidByText := true, laidKinds := [.data], laidTests := true, laidLooks := .later }
def BlocksWordsUptoCardSaid : Prop := Claim7.holds Tryd.pinned (.plain (OpenSpec.upto blocksWordsSpec)) blocksWordsUptoCard

/-- THE SECOND FORM's CARD OF 'caltroplaw04.BlocksNone'. -/
def blocksNoneUptoCard : Claim7 := { stood := { row := blocksNoneUptoRow, standIns := [], harness := (true, "23f8d099b8cb5ac76cce2c713e0c70e1d576ddcaffbf6633ad7e511677efdf67"), looks := false }, kinds := [], alts := [], laidByText := true, laidKinds := [.data], laidTests := true, laidLooks := .later }
def BlocksNoneUptoCardSaid : Prop := Claim7.holds Tryd.pinned (.plain (OpenSpec.upto blocksNoneSpec)) blocksNoneUptoCard
end Rows
end Go.Proofs.YtanimknpnniabaaDoor
