/- Closed facts of the row of: Of any two patterns and any mode the program's word whether their cores are the same is the word whether their texts are the same, a core is the same as itself, and a pattern in one more group has the same core; where a pattern has no core, none is told: the law returns true, with no condition on the input. -/
import Derived.Test.YtimcmnnfpomnbaaGreatDoorRows
import Derived.JoinedOf
namespace Go.Proofs.YtimcmnnfpomnbaaGreatDoor
set_option maxRecDepth 100000 in
theorem coreSame_closed : joinedFacts Tryz.prog 8 Tryz.f8 Rows.coreSameSpec Rows.coreSameRow = true := by kernel_rfl
end Go.Proofs.YtimcmnnfpomnbaaGreatDoor
