/- Of no core, or of too great a limit, there is no trace, and of no trace nothing comes: no events, no hits, not found, not stopped, no busiest place, none read, no text; and the document's example of layer 25 is told as it should: the law returns true, with no condition on the input. -/
import Derived.Test.YtpiimcbbgalhfaaGreatDoorRwTraceNone
import Derived.Test.YtpiimcbbgalhfaaGreatDoorTie
import Derived.Test.YtpiimcbbgalhfaaGreatDoorCards
import Derived.SevenTiedAt
namespace Go.Proofs.YtpiimcbbgalhfaaGreatDoor
open Go.ChangeShapes Go.WideShapes Go.ChangeAt Go.RowKit
open Go.ChangeMaps (open_string shut_string)
/-- The statement: the tied card. -/
theorem traceNone_holds : Rows.TraceNoneCardSaid :=
  Claim7.holds_tied_plain_at .later [] [.data, .data, .data] true (true, "ae6ee8cb0317b971bf8949b39aefbfd995df97a39f22a1239b84fc6e89f3b58d") false
    traceNone_row (fun _ h => by cases h) (by kernel_rfl) (fun _ h => by cases h) traceNone_row_tie rfl ⟨rfl, rfl⟩ (by kernel_rfl) rfl
    (fun f fn hf hfn => by
      obtain rfl : f = 8 := Option.some.inj ((show Tryz.prog.funcNamed "caltrop/caltroplaw25.TraceNone" = some 8 by kernel_rfl).symm.trans hf) |>.symm
      obtain rfl : fn = Tryz.f8 := (Option.some.inj (Tryz.func8.symm.trans hfn)).symm
      exact ⟨by kernel_rfl, fun j t ht => by
        rw [Tryz.params8] at ht
        have hm : t ∈ [9, 3] := by simpa using Array.mem_of_getElem? ht
        have hall : ([9, 3].all fun u => !Tryz.prog.wantsStandIn u) = true := by kernel_rfl
        exact (show Tryz.prog.wantsStandIn t = false by simpa using List.all_eq_true.1 hall t hm)⟩)
    (by kernel_rfl)
#print axioms traceNone_holds
end Go.Proofs.YtpiimcbbgalhfaaGreatDoor
