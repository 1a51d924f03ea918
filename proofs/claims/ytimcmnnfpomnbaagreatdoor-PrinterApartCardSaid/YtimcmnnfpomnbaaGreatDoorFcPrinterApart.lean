/- Closed facts of the row of: Any two sets are told alike just if they have the same bytes, and any two bytes are told alike just if they are the same byte; and the document's example of layer 7 is printed as it should: the law returns true, with no condition on the input. -/
import Derived.Test.YtimcmnnfpomnbaaGreatDoorRows
import Derived.JoinedOf
namespace Go.Proofs.YtimcmnnfpomnbaaGreatDoor
set_option maxRecDepth 100000 in
theorem printerApart_closed : joinedFacts Tryz.prog 3 Tryz.f3 Rows.printerApartSpec Rows.printerApartRow = true := by kernel_rfl
end Go.Proofs.YtimcmnnfpomnbaaGreatDoor
