/- Closed facts of the row of: Of no core, or of too great a limit, there is no trace, and of no trace nothing comes: no events, no hits, not found, not stopped, no busiest place, none read, no text; and the document's example of layer 25 is told as it should: the law returns true, with no condition on the input. -/
import Derived.Test.YtpiimcbbgalhfaaGreatDoorRows
import Derived.JoinedOf
namespace Go.Proofs.YtpiimcbbgalhfaaGreatDoor
set_option maxRecDepth 100000 in
theorem traceNone_closed : joinedFacts Tryz.prog 8 Tryz.f8 Rows.traceNoneSpec Rows.traceNoneRow = true := by kernel_rfl
end Go.Proofs.YtpiimcbbgalhfaaGreatDoor
