/- Closed facts of the row of: Of no tree no core is built, whatever the mode, and of no core nothing comes: no size, no sets, no text; and the document's example of layer 8 is told as it should: the law returns true, with no condition on the input. -/
import Derived.Test.YtimcmnnfpomnbaaGreatDoorRows
import Derived.JoinedOf
namespace Go.Proofs.YtimcmnnfpomnbaaGreatDoor
set_option maxRecDepth 100000 in
theorem coreNone_closed : joinedFacts Tryz.prog 7 Tryz.f7 Rows.coreNoneSpec Rows.coreNoneRow = true := by kernel_rfl
end Go.Proofs.YtimcmnnfpomnbaaGreatDoor
