/- Closed facts of the row of: Of no core there are no weights, and of too many positions neither; of none nothing comes; and the document's example of layer 9 is told as it should: the law returns true, with no condition on the input. -/
import Derived.Test.YtpiimcbbgalhfaaGreatDoorRows
import Derived.JoinedOf
namespace Go.Proofs.YtpiimcbbgalhfaaGreatDoor
set_option maxRecDepth 100000 in
theorem weighNone_closed : joinedFacts Tryz.prog 5 Tryz.f5 Rows.weighNoneSpec Rows.weighNoneRow = true := by kernel_rfl
end Go.Proofs.YtpiimcbbgalhfaaGreatDoor
