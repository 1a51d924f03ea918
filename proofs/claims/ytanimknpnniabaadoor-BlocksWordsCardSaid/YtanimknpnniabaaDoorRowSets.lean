/- How an argument []api.Set is opened; a []int, too. -/
import Derived.Test.YtanimknpnniabaaDoorTied
import Derived.Test.YtanimknpnniabaaDoorMoreLaw
namespace Go.Proofs.YtanimknpnniabaaDoor
open Go.ChangeShapes Go.WideShapes Go.ChangeAt Go.RowKit Go.Deep
theorem open_sets {H : Type} {enc : TypeId × Value → H} {W : World} {base : Nat} {v : Value} {d : DataW H} {p : List MemPlace} (hv : Value.okWide Tryd.prog W .any base 22 v)
    (h : DataW.Trod enc Tryd.prog W 0 (fun _ => true) true 22 v d p) : ∃ l : List (Nat → Bool), RdSw W v l ∧ FormS v := by
  obtain ⟨a0, len, cap, rfl⟩ := okWide_slice Tryd.underlying22 hv
  obtain ⟨fuel, hf⟩ := h
  have hC : Tryd.prog.cellsOf 35 = 4 := by kernel_rfl
  have hE : Tryd.prog.cellsOf 33 = 1 := by kernel_rfl
  rcases open_slice Tryd.underlying22 hf with ⟨hcs, _⟩ | ⟨a, len', cap', m, n, D, Pl, hcs, _, hle, hmax, hm, _, hx⟩
  · simp [Value.cells] at hcs
    obtain ⟨rfl, rfl, rfl⟩ := hcs
    exact ⟨[], ⟨none, 0, rfl, Nat.le_refl _, Nat.zero_le _, fun i p h => by simp at h⟩, .inl rfl⟩
  · simp [Value.cells] at hcs
    obtain ⟨rfl, rfl, rfl⟩ := hcs
    simp only [if_true] at hm
    subst hm
    rw [hC] at hx
    obtain ⟨V, hV⟩ := choose_lt (α := Nat → Bool) (n := len) (p := fun i q => W.cell? (a.add (i * 4)) = some (.int .u64 (word q 0)) ∧ W.cell? ⟨(a.add (i * 4)).block, (a.add (i * 4)).off + 1, none⟩ = some (.int .u64 (word q 1)) ∧
        W.cell? ⟨(a.add (i * 4)).block, (a.add (i * 4)).off + 2, none⟩ = some (.int .u64 (word q 2)) ∧ W.cell? ⟨(a.add (i * 4)).block, (a.add (i * 4)).off + 3, none⟩ = some (.int .u64 (word q 3))) (fun i hi => by
      obtain ⟨cs, h1, h2⟩ := hx i (by omega)
      obtain ⟨_, hl, hcell⟩ := World.cells?_some h1
      obtain ⟨xs, m, _, _, _, hn, hx'⟩ := DataW.trod_array Tryd.underlying35 h2
      rw [hE] at hx'
      match cs, hl with
      | [c0, c1, c2, c3], _ =>
        have k : ∀ (j : Nat) (c : Value), j < 4 → ([c0, c1, c2, c3].drop (j * 1)).take 1 = [c] → ∃ z, c = .int .u64 z ∧ 0 ≤ z ∧ z < 18446744073709551616 := by
          intro j c hj hc
          have h1 := hx' j hj
          have hlt : j < xs.length := by omega
          rw [hc, List.getElem?_eq_getElem hlt] at h1
          obtain ⟨z, hcs, _, wz⟩ := DataW.trod_int Tryd.underlying33 h1
          simp at hcs
          exact ⟨z, hcs, u64_bounds wz⟩
        obtain ⟨z0, rfl, b0⟩ := k 0 c0 (by omega) rfl
        obtain ⟨z1, rfl, b1⟩ := k 1 c1 (by omega) rfl
        obtain ⟨z2, rfl, b2⟩ := k 2 c2 (by omega) rfl
        obtain ⟨z3, rfl, b3⟩ := k 3 c3 (by omega) rfl
        have e0 := hcell 0 (by omega)
        have e1 := hcell 1 (by omega)
        have e2 := hcell 2 (by omega)
        have e3 := hcell 3 (by omega)
        obtain ⟨w0, w1, w2, w3⟩ := ofWords_words z0 z1 z2 z3 b0 b1 b2 b3
        refine ⟨ofWords z0 z1 z2 z3, ?_, ?_, ?_, ?_⟩
        · rw [← w0]
          exact e0
        · rw [← w1]
          exact e1
        · rw [← w2]
          exact e2
        · rw [← w3]
          exact e3
        )
    refine ⟨(List.range len).map V, ⟨some a, m, by simp, by simpa using hle, by unfold maxLen at hmax; simp; omega, fun i p hi => ?_⟩, .inr ⟨_, _, _, rfl⟩⟩
    rw [List.getElem?_map] at hi
    obtain ⟨j, hj, rfl⟩ := Option.map_eq_some_iff.1 hi
    have hlt : i < len := by
      have := (List.getElem?_eq_some_iff.1 hj).1
      simpa using this
    rw [List.getElem?_range hlt] at hj
    obtain rfl := Option.some.inj hj
    have h := hV i hlt
    exact ⟨a, rfl, by have := cell_lt' h.1; rwa [add_block] at this, h⟩
end Go.Proofs.YtanimknpnniabaaDoor
