/- Any two sets are told alike just if they have the same bytes, and any two bytes are told alike just if they are the same byte; and the document's example of layer 7 is printed as it should: the law returns true, with no condition on the input. -/
import Derived.Test.YtimcmnnfpomnbaaGreatDoorRwPrinterApart
import Derived.Test.YtimcmnnfpomnbaaGreatDoorTie
import Derived.Test.YtimcmnnfpomnbaaGreatDoorCards
import Derived.SevenTiedAt
namespace Go.Proofs.YtimcmnnfpomnbaaGreatDoor
open Go.ChangeShapes Go.WideShapes Go.ChangeAt Go.RowKit
open Go.ChangeMaps (open_string shut_string)
/-- The statement: the tied card. -/
theorem printerApart_holds : Rows.PrinterApartCardSaid :=
  Claim7.holds_tied_plain_at .later [] [.data, .data, .data] true (true, "7a7dd2dc1e1f6f6581c3b87c9d6a71e2a31cbbfc02779d1975ed0352fbaff0f6") false
    printerApart_row (fun _ h => by cases h) (by kernel_rfl) (fun _ h => by cases h) printerApart_row_tie rfl ⟨rfl, rfl⟩ (by kernel_rfl) rfl
    (fun f fn hf hfn => by
      obtain rfl : f = 3 := Option.some.inj ((show Tryz.prog.funcNamed "caltrop/caltroplaw07.PrinterApart" = some 3 by kernel_rfl).symm.trans hf) |>.symm
      obtain rfl : fn = Tryz.f3 := (Option.some.inj (Tryz.func3.symm.trans hfn)).symm
      exact ⟨by kernel_rfl, fun j t ht => by
        rw [Tryz.params3] at ht
        have hm : t ∈ [24, 24, 5, 5] := by simpa using Array.mem_of_getElem? ht
        have hall : ([24, 24, 5, 5].all fun u => !Tryz.prog.wantsStandIn u) = true := by kernel_rfl
        exact (show Tryz.prog.wantsStandIn t = false by simpa using List.all_eq_true.1 hall t hm)⟩)
    (by kernel_rfl)
#print axioms printerApart_holds
end Go.Proofs.YtimcmnnfpomnbaaGreatDoor
