/- What the listed tables' condition says of the tables that printing reads. -/
import Derived.Test.YtpiimcbbgalhfaaGreatDoorCb
import Derived.Test.YtpiimcbbgalhfaaGreatDoorBz
namespace Go.Proofs.YtpiimcbbgalhfaaGreatDoor
set_option maxRecDepth 100000
open Go.ChangeShapes Go.WideShapes Go.ChangeAt Go.RowKit Go.Deep
theorem tabp_of_laid3 {W : World} (h : laidMetH Tryz.prog laidL3 W) : TabP W := by
  refine ⟨tab_of_laid3 h, ?_⟩
  rw [MakeChecks.laidMetH_plain _ _ _ (by kernel_rfl)] at h
  have h3 := laid_tail (laid_tail h)
  exact Lib.tabIs_of_head (rest := []) pow_named (by kernel_rfl : (Tryz.prog.globals[2]?).map (·.type) = some 350) Tryz.underlying350 Tryz.underlying22 (by kernel_rfl) (by kernel_rfl) h3
end Go.Proofs.YtpiimcbbgalhfaaGreatDoor
