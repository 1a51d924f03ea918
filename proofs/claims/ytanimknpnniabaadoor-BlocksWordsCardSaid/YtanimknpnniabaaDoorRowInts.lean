/- How an argument []int is opened. -/
import Derived.Test.YtanimknpnniabaaDoorRowSets
import Derived.Test.YtanimknpnniabaaDoorWordP
namespace Go.Proofs.YtanimknpnniabaaDoor
open Go.ChangeShapes Go.WideShapes Go.ChangeAt Go.RowKit Go.Deep
theorem open_ints {H : Type} {enc : TypeId × Value → H} {W : World} {base : Nat} {v : Value} {d : DataW H} {p : List MemPlace} (hv : Value.okWide Tryd.prog W .any base 26 v)
    (h : DataW.Trod enc Tryd.prog W 0 (fun _ => true) true 26 v d p) : ∃ l : List Int, RdW W .i64 v l := by
  obtain ⟨a0, len, cap, rfl⟩ := okWide_slice Tryd.underlying26 hv
  obtain ⟨fuel, hf⟩ := h
  have hC : Tryd.prog.cellsOf 3 = 1 := by kernel_rfl
  rcases open_slice1 Tryd.underlying26 hC hf with ⟨hcs, _⟩ | ⟨a, len', cap', m, n, V, D, Pl, hcs, _, hle, hmax, hm, _, hx⟩
  · simp [Value.cells] at hcs
    obtain ⟨rfl, rfl, rfl⟩ := hcs
    exact ⟨[], none, 0, rfl, Nat.le_refl _, Nat.zero_le _, fun i p h => by simp at h⟩
  · simp [Value.cells] at hcs
    obtain ⟨rfl, rfl, rfl⟩ := hcs
    simp only [if_true] at hm
    subst hm
    obtain ⟨Z, hZ⟩ := choose_lt (α := Int) (n := len) (p := fun i z => W.cell? (a.add i) = some (.int .i64 z)) (fun i hi => by
      obtain ⟨hc, ht⟩ := hx i (by omega)
      obtain ⟨z, hcs, _, wz⟩ := DataW.trod_int Tryd.underlying3 ht
      simp at hcs
      rw [hcs] at hc
      exact ⟨z, hc⟩)
    refine ⟨(List.range len).map Z, some a, m, by simp, by simpa using hle, by unfold maxLen at hmax; simp; omega, fun i p hi => ?_⟩
    rw [List.getElem?_map] at hi
    obtain ⟨j, hj, rfl⟩ := Option.map_eq_some_iff.1 hi
    have hlt : i < len := by
      have := (List.getElem?_eq_some_iff.1 hj).1
      simpa using this
    rw [List.getElem?_range hlt] at hj
    obtain rfl := Option.some.inj hj
    have h := hZ i hlt
    exact ⟨a, rfl, by have := cell_lt' h; rwa [add_block] at this, h⟩
end Go.Proofs.YtanimknpnniabaaDoor
