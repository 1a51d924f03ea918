/- What is printed of any pattern's tree is read again as the same tree, without a group more, and printed again as itself; and the document's example of layer 7 is told as it should: the law returns true, with no condition on the input. -/
import Derived.Test.YtpiimcbbgalhfaaGreatDoorRwPrinterBack
import Derived.Test.YtpiimcbbgalhfaaGreatDoorTie
import Derived.Test.YtpiimcbbgalhfaaGreatDoorCards
import Derived.SevenTiedAt
namespace Go.Proofs.YtpiimcbbgalhfaaGreatDoor
open Go.ChangeShapes Go.WideShapes Go.ChangeAt Go.RowKit
open Go.ChangeMaps (open_string shut_string)
/-- The statement: the tied card. -/
theorem printerBack_holds : Rows.PrinterBackCardSaid :=
  Claim7.holds_tied_plain_at .later [] [.data, .data, .data] true (true, "ae6ee8cb0317b971bf8949b39aefbfd995df97a39f22a1239b84fc6e89f3b58d") false
    printerBack_row (fun _ h => by cases h) (by kernel_rfl) (fun _ h => by cases h) printerBack_row_tie rfl ⟨rfl, rfl⟩ (by kernel_rfl) rfl
    (fun f fn hf hfn => by
      obtain rfl : f = 4 := Option.some.inj ((show Tryz.prog.funcNamed "caltrop/caltroplaw07.PrinterBack" = some 4 by kernel_rfl).symm.trans hf) |>.symm
      obtain rfl : fn = Tryz.f4 := (Option.some.inj (Tryz.func4.symm.trans hfn)).symm
      exact ⟨by kernel_rfl, fun j t ht => by
        rw [Tryz.params4] at ht
        have hm : t ∈ [9] := by simpa using Array.mem_of_getElem? ht
        have hall : ([9].all fun u => !Tryz.prog.wantsStandIn u) = true := by kernel_rfl
        exact (show Tryz.prog.wantsStandIn t = false by simpa using List.all_eq_true.1 hall t hm)⟩)
    (by kernel_rfl)
#print axioms printerBack_holds
end Go.Proofs.YtpiimcbbgalhfaaGreatDoor
