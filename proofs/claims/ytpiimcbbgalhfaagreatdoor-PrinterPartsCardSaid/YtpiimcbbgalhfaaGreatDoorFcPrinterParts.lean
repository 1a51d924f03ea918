/- Closed facts of the row of: Any set, any byte, any count is told by the printer as the document's answer tells it; a set that is told is read again as itself, a byte as one node; and the document's example of layer 7 is told as it should: the law returns true, with no condition on the input. -/
import Derived.Test.YtpiimcbbgalhfaaGreatDoorRows
import Derived.JoinedOf
namespace Go.Proofs.YtpiimcbbgalhfaaGreatDoor
set_option maxRecDepth 100000 in
theorem printerParts_closed : joinedFacts Tryz.prog 3 Tryz.f3 Rows.printerPartsSpec Rows.printerPartsRow = true := by kernel_rfl
end Go.Proofs.YtpiimcbbgalhfaaGreatDoor
