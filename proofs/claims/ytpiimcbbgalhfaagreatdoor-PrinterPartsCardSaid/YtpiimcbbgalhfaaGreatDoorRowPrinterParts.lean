/- Any set, any byte, any count is told by the printer as the document's answer tells it; a set that is told is read again as itself, a byte as one node; and the document's example of layer 7 is told as it should: the law returns true, with no condition on the input. -/
import Derived.Test.YtpiimcbbgalhfaaGreatDoorRwPrinterParts
import Derived.Test.YtpiimcbbgalhfaaGreatDoorTie
import Derived.Test.YtpiimcbbgalhfaaGreatDoorCards
import Derived.SevenTiedAt
namespace Go.Proofs.YtpiimcbbgalhfaaGreatDoor
open Go.ChangeShapes Go.WideShapes Go.ChangeAt Go.RowKit
open Go.ChangeMaps (open_string shut_string)
/-- The statement: the tied card. -/
theorem printerParts_holds : Rows.PrinterPartsCardSaid :=
  Claim7.holds_tied_plain_at .later [] [.data, .data, .data] true (true, "ae6ee8cb0317b971bf8949b39aefbfd995df97a39f22a1239b84fc6e89f3b58d") false
    printerParts_row (fun _ h => by cases h) (by kernel_rfl) (fun _ h => by cases h) printerParts_row_tie rfl ⟨rfl, rfl⟩ (by kernel_rfl) rfl
    (fun f fn hf hfn => by
      obtain rfl : f = 3 := Option.some.inj ((show Tryz.prog.funcNamed "caltrop/caltroplaw07.PrinterParts" = some 3 by kernel_rfl).symm.trans hf) |>.symm
      obtain rfl : fn = Tryz.f3 := (Option.some.inj (Tryz.func3.symm.trans hfn)).symm
      exact ⟨by kernel_rfl, fun j t ht => by
        rw [Tryz.params3] at ht
        have hm : t ∈ [24, 5, 3, 3, 4] := by simpa using Array.mem_of_getElem? ht
        have hall : ([24, 5, 3, 3, 4].all fun u => !Tryz.prog.wantsStandIn u) = true := by kernel_rfl
        exact (show Tryz.prog.wantsStandIn t = false by simpa using List.all_eq_true.1 hall t hm)⟩)
    (by kernel_rfl)
#print axioms printerParts_holds
end Go.Proofs.YtpiimcbbgalhfaaGreatDoor
