/- Closed facts of the row of: What is no pattern's tree isn't printed: not nil, and of a node of any kind alone just nothing and a set; and the document's example of layer 7 is printed as it should: the law returns true, with no condition on the input. -/
import Derived.Test.YtimcmnnfpomnbaaGreatDoorRows
import Derived.JoinedOf
namespace Go.Proofs.YtimcmnnfpomnbaaGreatDoor
set_option maxRecDepth 100000 in
theorem printerNone_closed : joinedFacts Tryz.prog 4 Tryz.f4 Rows.printerNoneSpec Rows.printerNoneRow = true := by kernel_rfl
end Go.Proofs.YtimcmnnfpomnbaaGreatDoor
