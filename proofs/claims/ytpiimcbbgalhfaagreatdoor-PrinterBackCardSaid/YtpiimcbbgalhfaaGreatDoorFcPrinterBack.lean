/- Closed facts of the row of: What is printed of any pattern's tree is read again as the same tree, without a group more, and printed again as itself; and the document's example of layer 7 is told as it should: the law returns true, with no condition on the input. -/
import Derived.Test.YtpiimcbbgalhfaaGreatDoorRows
import Derived.JoinedOf
namespace Go.Proofs.YtpiimcbbgalhfaaGreatDoor
set_option maxRecDepth 100000 in
theorem printerBack_closed : joinedFacts Tryz.prog 4 Tryz.f4 Rows.printerBackSpec Rows.printerBackRow = true := by kernel_rfl
end Go.Proofs.YtpiimcbbgalhfaaGreatDoor
