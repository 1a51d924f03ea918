/- Of no core there are no weights, and of too many positions neither; of none nothing comes; and the document's example of layer 9 is told as it should: the law returns true, with no condition on the input. -/
import Derived.Test.YtpiimcbbgalhfaaGreatDoorRwWeighNone
import Derived.Test.YtpiimcbbgalhfaaGreatDoorTie
import Derived.Test.YtpiimcbbgalhfaaGreatDoorCards
import Derived.SevenTiedAt
namespace Go.Proofs.YtpiimcbbgalhfaaGreatDoor
open Go.ChangeShapes Go.WideShapes Go.ChangeAt Go.RowKit
open Go.ChangeMaps (open_string shut_string)
/-- The statement: the tied card. -/
theorem weighNone_holds : Rows.WeighNoneCardSaid :=
  Claim7.holds_tied_plain_at .later [] [.data] true (true, "ae6ee8cb0317b971bf8949b39aefbfd995df97a39f22a1239b84fc6e89f3b58d") false
    weighNone_row (fun _ h => by cases h) (by kernel_rfl) (fun _ h => by cases h) weighNone_row_tie rfl ⟨rfl, rfl⟩ (by kernel_rfl) rfl
    (fun f fn hf hfn => by
      obtain rfl : f = 5 := Option.some.inj ((show Tryz.prog.funcNamed "caltrop/caltroplaw09.WeighNone" = some 5 by kernel_rfl).symm.trans hf) |>.symm
      obtain rfl : fn = Tryz.f5 := (Option.some.inj (Tryz.func5.symm.trans hfn)).symm
      exact ⟨by kernel_rfl, fun j t ht => by
        rw [Tryz.params5] at ht
        have hm : t ∈ [3] := by simpa using Array.mem_of_getElem? ht
        have hall : ([3].all fun u => !Tryz.prog.wantsStandIn u) = true := by kernel_rfl
        exact (show Tryz.prog.wantsStandIn t = false by simpa using List.all_eq_true.1 hall t hm)⟩)
    (by kernel_rfl)
#print axioms weighNone_holds
end Go.Proofs.YtpiimcbbgalhfaaGreatDoor
