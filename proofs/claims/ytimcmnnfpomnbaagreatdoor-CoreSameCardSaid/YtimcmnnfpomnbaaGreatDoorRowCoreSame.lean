/- Of any two patterns and any mode the program's word whether their cores are the same is the word whether their texts are the same, a core is the same as itself, and a pattern in one more group has the same core; where a pattern has no core, none is told: the law returns true, with no condition on the input. -/
import Derived.Test.YtimcmnnfpomnbaaGreatDoorRwCoreSame
import Derived.Test.YtimcmnnfpomnbaaGreatDoorTie
import Derived.Test.YtimcmnnfpomnbaaGreatDoorCards
import Derived.SevenTiedAt
namespace Go.Proofs.YtimcmnnfpomnbaaGreatDoor
open Go.ChangeShapes Go.WideShapes Go.ChangeAt Go.RowKit
open Go.ChangeMaps (open_string shut_string)
/-- The statement: the tied card. -/
theorem coreSame_holds : Rows.CoreSameCardSaid :=
  Claim7.holds_tied_plain_at .later [] [.data] true (true, "7a7dd2dc1e1f6f6581c3b87c9d6a71e2a31cbbfc02779d1975ed0352fbaff0f6") false
    coreSame_row (fun _ h => by cases h) (by kernel_rfl) (fun _ h => by cases h) coreSame_row_tie rfl ⟨rfl, rfl⟩ (by kernel_rfl) rfl
    (fun f fn hf hfn => by
      obtain rfl : f = 8 := Option.some.inj ((show Tryz.prog.funcNamed "caltrop/caltroplaw08.CoreSame" = some 8 by kernel_rfl).symm.trans hf) |>.symm
      obtain rfl : fn = Tryz.f8 := (Option.some.inj (Tryz.func8.symm.trans hfn)).symm
      exact ⟨by kernel_rfl, fun j t ht => by
        rw [Tryz.params8] at ht
        have hm : t ∈ [9, 9, 5] := by simpa using Array.mem_of_getElem? ht
        have hall : ([9, 9, 5].all fun u => !Tryz.prog.wantsStandIn u) = true := by kernel_rfl
        exact (show Tryz.prog.wantsStandIn t = false by simpa using List.all_eq_true.1 hall t hm)⟩)
    (by kernel_rfl)
#print axioms coreSame_holds
end Go.Proofs.YtimcmnnfpomnbaaGreatDoor
