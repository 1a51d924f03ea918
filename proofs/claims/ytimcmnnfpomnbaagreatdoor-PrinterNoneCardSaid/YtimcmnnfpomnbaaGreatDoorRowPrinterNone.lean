/- What is no pattern's tree isn't printed: not nil, and of a node of any kind alone just nothing and a set; and the document's example of layer 7 is printed as it should: the law returns true, with no condition on the input. -/
import Derived.Test.YtimcmnnfpomnbaaGreatDoorRwPrinterNone
import Derived.Test.YtimcmnnfpomnbaaGreatDoorTie
import Derived.Test.YtimcmnnfpomnbaaGreatDoorCards
import Derived.SevenTiedAt
namespace Go.Proofs.YtimcmnnfpomnbaaGreatDoor
open Go.ChangeShapes Go.WideShapes Go.ChangeAt Go.RowKit
open Go.ChangeMaps (open_string shut_string)
/-- The statement: the tied card. -/
theorem printerNone_holds : Rows.PrinterNoneCardSaid :=
  Claim7.holds_tied_plain_at .later [] [.data, .data, .data] true (true, "7a7dd2dc1e1f6f6581c3b87c9d6a71e2a31cbbfc02779d1975ed0352fbaff0f6") false
    printerNone_row (fun _ h => by cases h) (by kernel_rfl) (fun _ h => by cases h) printerNone_row_tie rfl ⟨rfl, rfl⟩ (by kernel_rfl) rfl
    (fun f fn hf hfn => by
      obtain rfl : f = 4 := Option.some.inj ((show Tryz.prog.funcNamed "caltrop/caltroplaw07.PrinterNone" = some 4 by kernel_rfl).symm.trans hf) |>.symm
      obtain rfl : fn = Tryz.f4 := (Option.some.inj (Tryz.func4.symm.trans hfn)).symm
      exact ⟨by kernel_rfl, fun j t ht => by
        rw [Tryz.params4] at ht
        have hm : t ∈ [3] := by simpa using Array.mem_of_getElem? ht
        have hall : ([3].all fun u => !Tryz.prog.wantsStandIn u) = true := by kernel_rfl
        exact (show Tryz.prog.wantsStandIn t = false by simpa using List.all_eq_true.1 hall t hm)⟩)
    (by kernel_rfl)
#print axioms printerNone_holds
end Go.Proofs.YtimcmnnfpomnbaaGreatDoor
