/- How an argument [][2]byte is opened. -/
import Derived.Test.YtanimknpnniabaaRowKit
import Derived.Test.YtanimknpnniabaaPairs
import Derived.Deep.Slices
namespace Go.Proofs.Ytanimknpnniabaa
open Go.ChangeShapes Go.WideShapes Go.ChangeAt Go.RowKit Go.Deep
theorem cell_lt {w : World} {a : Addr} {v : Value} (h : w.cell? a = some v) : a.block < w.heap.size := by
  unfold World.cell? at h
  rcases Nat.lt_or_ge a.block w.heap.size with hl | hl
  · exact hl
  · rw [Array.getElem?_eq_none hl] at h
    cases h
theorem u8_bounds {n : Int} (h : (Lit.int .u8 n).wf = true) : 0 ≤ n ∧ n < 256 := by
  simp [Lit.wf, IntKind.min, IntKind.max, IntKind.signed, IntKind.bits] at h
  omega
theorem open_pairs {H : Type} {enc : TypeId × Value → H} {W : World} {base : Nat} {v : Value} {d : DataW H} {p : List MemPlace} (hv : Value.okWide Try.prog W .any base 37 v)
    (h : DataW.Trod enc Try.prog W 0 (fun _ => true) true 37 v d p) : ∃ l : List (Int × Int), RdP W v l ∧ ∀ q ∈ l, (0 ≤ q.1 ∧ q.1 < 256) ∧ 0 ≤ q.2 ∧ q.2 < 256 := by
  obtain ⟨a0, len, cap, rfl⟩ := okWide_slice Try.underlying37 hv
  obtain ⟨fuel, hf⟩ := h
  have hC : Try.prog.cellsOf 40 = 2 := by kernel_rfl
  have hE : Try.prog.cellsOf 5 = 1 := by kernel_rfl
  rcases open_slice Try.underlying37 hf with ⟨hcs, _⟩ | ⟨a, len', cap', m, n, D, Pl, hcs, _, hle, hmax, hm, _, hx⟩
  · simp [Value.cells] at hcs
    obtain ⟨rfl, rfl, rfl⟩ := hcs
    exact ⟨[], ⟨none, 0, rfl, Nat.le_refl _, Nat.zero_le _, fun i p h => by simp at h⟩, by simp⟩
  · simp [Value.cells] at hcs
    obtain ⟨rfl, rfl, rfl⟩ := hcs
    simp only [if_true] at hm
    subst hm
    rw [hC] at hx
    obtain ⟨V, hV⟩ := choose_lt (α := Int × Int) (n := len) (p := fun i q => (W.cell? (a.add (i * 2)) = some (.int .u8 q.1) ∧ W.cell? ⟨(a.add (i * 2)).block, (a.add (i * 2)).off + 1, none⟩ = some (.int .u8 q.2)) ∧ (0 ≤ q.1 ∧ q.1 < 256) ∧ 0 ≤ q.2 ∧ q.2 < 256) (fun i hi => by
      obtain ⟨cs, h1, h2⟩ := hx i (by omega)
      obtain ⟨_, hl, hcell⟩ := World.cells?_some h1
      obtain ⟨xs, m, _, _, _, hn, hx'⟩ := DataW.trod_array Try.underlying40 h2
      rw [hE] at hx'
      match cs, hl with
      | [c0, c1], _ =>
        have k : ∀ (j : Nat) (c : Value), j < 2 → ([c0, c1].drop (j * 1)).take 1 = [c] → ∃ z, c = .int .u8 z ∧ 0 ≤ z ∧ z < 256 := by
          intro j c hj hc
          have h1 := hx' j hj
          have hlt : j < xs.length := by omega
          rw [hc, List.getElem?_eq_getElem hlt] at h1
          obtain ⟨z, hcs, _, wz⟩ := DataW.trod_int Try.underlying5 h1
          simp at hcs
          exact ⟨z, hcs, u8_bounds wz⟩
        obtain ⟨z0, rfl, b0⟩ := k 0 c0 (by omega) rfl
        obtain ⟨z1, rfl, b1⟩ := k 1 c1 (by omega) rfl
        have e0 := hcell 0 (by omega)
        have e1 := hcell 1 (by omega)
        refine ⟨(z0, z1), ⟨?_, ?_⟩, b0, b1⟩
        · simpa [Addr.add] using e0
        · have : (a.add (i * 2)).spot = none := by
            cases hs : (a.add (i * 2)).spot with
            | none => rfl
            | some s =>
              unfold World.cell? at e0
              rw [show ((a.add (i * 2)).add 0).spot = (a.add (i * 2)).spot by simp [Addr.add]] at e0
              rw [hs] at e0
              split at e0 <;> simp at e0
          rw [show (a.add (i * 2)).add 1 = ⟨(a.add (i * 2)).block, (a.add (i * 2)).off + 1, none⟩ by unfold Addr.add at this ⊢; simp_all] at e1
          simpa using e1)
    refine ⟨(List.range len).map V, ⟨some a, m, by simp, by simpa using hle, by unfold maxLen at hmax; simp; omega, fun i p hi => ?_⟩, fun q hq => ?_⟩
    · rw [List.getElem?_map] at hi
      obtain ⟨j, hj, rfl⟩ := Option.map_eq_some_iff.1 hi
      have hlt : i < len := by
        have := (List.getElem?_eq_some_iff.1 hj).1
        simpa using this
      rw [List.getElem?_range hlt] at hj
      obtain rfl := Option.some.inj hj
      have h := hV i hlt
      exact ⟨a, rfl, by have := cell_lt h.1.1; rwa [add_block] at this, h.1⟩
    · obtain ⟨j, hj, rfl⟩ := List.mem_map.1 hq
      exact (hV j (List.mem_range.1 hj)).2
end Go.Proofs.Ytanimknpnniabaa
