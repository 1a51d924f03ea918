/- Of no core, or of more ways than ten thousand or fewer than none, there is no list of ways, and of no list nothing comes: no length, not whole, no way, no count, none apart, none the same; and the document's example of layer 13 is told as it should: the law returns true, with no condition on the input. -/
import Derived.Test.YtimcmnnfpomnbaaGreatDoorRwWaysNone
import Derived.Test.YtimcmnnfpomnbaaGreatDoorTie
import Derived.Test.YtimcmnnfpomnbaaGreatDoorCards
import Derived.SevenTiedAt
namespace Go.Proofs.YtimcmnnfpomnbaaGreatDoor
open Go.ChangeShapes Go.WideShapes Go.ChangeAt Go.RowKit
open Go.ChangeMaps (open_string shut_string)
/-- The statement: the tied card. -/
theorem waysNone_holds : Rows.WaysNoneCardSaid :=
  Claim7.holds_tied_plain_at .later [] [.data] true (true, "7a7dd2dc1e1f6f6581c3b87c9d6a71e2a31cbbfc02779d1975ed0352fbaff0f6") false
    waysNone_row (fun _ h => by cases h) (by kernel_rfl) (fun _ h => by cases h) waysNone_row_tie rfl ⟨rfl, rfl⟩ (by kernel_rfl) rfl
    (fun f fn hf hfn => by
      obtain rfl : f = 10 := Option.some.inj ((show Tryz.prog.funcNamed "caltrop/caltroplaw13.WaysNone" = some 10 by kernel_rfl).symm.trans hf) |>.symm
      obtain rfl : fn = Tryz.f10 := (Option.some.inj (Tryz.func10.symm.trans hfn)).symm
      exact ⟨by kernel_rfl, fun j t ht => by
        rw [Tryz.params10] at ht
        have hm : t ∈ [3, 3] := by simpa using Array.mem_of_getElem? ht
        have hall : ([3, 3].all fun u => !Tryz.prog.wantsStandIn u) = true := by kernel_rfl
        exact (show Tryz.prog.wantsStandIn t = false by simpa using List.all_eq_true.1 hall t hm)⟩)
    (by kernel_rfl)
#print axioms waysNone_holds
end Go.Proofs.YtimcmnnfpomnbaaGreatDoor
