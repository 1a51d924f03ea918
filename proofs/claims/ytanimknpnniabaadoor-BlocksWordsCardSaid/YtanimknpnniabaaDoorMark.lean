/- The map of split: its keys. -/
import Derived.Test.YtanimknpnniabaaDoorRowKit
import Derived.Maps.OwnSet
import Derived.DeepKeys4
namespace Go.Proofs.YtanimknpnniabaaDoor
theorem mark_keyed : Maps.Keyed Tryd.prog 74 := Maps.Keyed.of_law (deep_law_laid laid_out (m := 2) (by omega) (of_decide_eq_true (by kernel_rfl)) (by kernel_rfl) (by rw [Tryd.underlying74]))
theorem mark_key (x : Int) (y : Bool) (hx : (Lit.int .i64 x).wf = true) : keyOf Tryd.prog 74 (.agg #[.int .i64 x, .bool y]) = some (.string (keyBytes [.int .i64 x, .bool y])) := by
  have hk : Tryd.prog.keyType 74 = true := by kernel_rfl
  have hc : Tryd.prog.cellsOf 74 = 2 := by kernel_rfl
  have hf : (Value.agg #[.int .i64 x, .bool y]).formed Tryd.prog 74 = true := by simp [Value.formed, Tryd.underlying74, hc]
  unfold keyOf
  simp only [Tryd.underlying74, hk, hf, Bool.and_self, if_true]
  have c3 : Tryd.prog.cellsOf 3 = 1 := by kernel_rfl
  have c4 : Tryd.prog.cellsOf 4 = 1 := by kernel_rfl
  have hp : 0 < Tryd.prog.types.size := of_decide_eq_true (by kernel_rfl)
  obtain ⟨n, hn⟩ : ∃ n, Tryd.prog.types.size = n + 1 := ⟨Tryd.prog.types.size - 1, by omega⟩
  rw [hn]
  simp [Value.cells, Program.keyLits, Tryd.underlying74, Tryd.underlying3, Tryd.underlying4, hc, c3, c4, hx]
end Go.Proofs.YtanimknpnniabaaDoor
