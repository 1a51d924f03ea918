/- Of no tree no core is built, whatever the mode, and of no core nothing comes: no size, no sets, no text; and the document's example of layer 8 is told as it should: the law returns true, with no condition on the input. -/
import Derived.Test.YtimcmnnfpomnbaaGreatDoorRwCoreNone
import Derived.Test.YtimcmnnfpomnbaaGreatDoorTie
import Derived.Test.YtimcmnnfpomnbaaGreatDoorCards
import Derived.SevenTiedAt
namespace Go.Proofs.YtimcmnnfpomnbaaGreatDoor
open Go.ChangeShapes Go.WideShapes Go.ChangeAt Go.RowKit
open Go.ChangeMaps (open_string shut_string)
/-- The statement: the tied card. -/
theorem coreNone_holds : Rows.CoreNoneCardSaid :=
  Claim7.holds_tied_plain_at .later [] [.data] true (true, "7a7dd2dc1e1f6f6581c3b87c9d6a71e2a31cbbfc02779d1975ed0352fbaff0f6") false
    coreNone_row (fun _ h => by cases h) (by kernel_rfl) (fun _ h => by cases h) coreNone_row_tie rfl ⟨rfl, rfl⟩ (by kernel_rfl) rfl
    (fun f fn hf hfn => by
      obtain rfl : f = 7 := Option.some.inj ((show Tryz.prog.funcNamed "caltrop/caltroplaw08.CoreNone" = some 7 by kernel_rfl).symm.trans hf) |>.symm
      obtain rfl : fn = Tryz.f7 := (Option.some.inj (Tryz.func7.symm.trans hfn)).symm
      exact ⟨by kernel_rfl, fun j t ht => by
        rw [Tryz.params7] at ht
        have hm : t ∈ [3] := by simpa using Array.mem_of_getElem? ht
        have hall : ([3].all fun u => !Tryz.prog.wantsStandIn u) = true := by kernel_rfl
        exact (show Tryz.prog.wantsStandIn t = false by simpa using List.all_eq_true.1 hall t hm)⟩)
    (by kernel_rfl)
#print axioms coreNone_holds
end Go.Proofs.YtimcmnnfpomnbaaGreatDoor
