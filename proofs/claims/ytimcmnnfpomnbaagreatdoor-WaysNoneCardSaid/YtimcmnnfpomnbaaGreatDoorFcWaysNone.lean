/- Closed facts of the row of: Of no core, or of more ways than ten thousand or fewer than none, there is no list of ways, and of no list nothing comes: no length, not whole, no way, no count, none apart, none the same; and the document's example of layer 13 is told as it should: the law returns true, with no condition on the input. -/
import Derived.Test.YtimcmnnfpomnbaaGreatDoorRows
import Derived.JoinedOf
namespace Go.Proofs.YtimcmnnfpomnbaaGreatDoor
set_option maxRecDepth 100000 in
theorem waysNone_closed : joinedFacts Tryz.prog 10 Tryz.f10 Rows.waysNoneSpec Rows.waysNoneRow = true := by kernel_rfl
end Go.Proofs.YtimcmnnfpomnbaaGreatDoor
