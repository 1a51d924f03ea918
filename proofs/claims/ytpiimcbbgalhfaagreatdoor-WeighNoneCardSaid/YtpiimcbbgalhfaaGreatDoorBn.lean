/- How arguments are opened, for the rows of this seat: a set; and the closed facts on the program. -/
import Derived.Test.YtpiimcbbgalhfaaGreatDoorRows
import Derived.Test.YtpiimcbbgalhfaaGreatDoorBa
import Derived.WalkKit
import Derived.ProofKit
import Derived.OpenShut
import Derived.ShutString
import Derived.ChangeOld
import Derived.Below
import Derived.LaidMore
import Derived.Lib.LaidTab
import Derived.Stop.Joined
import Derived.Deep.Slices
namespace Go.Proofs.YtpiimcbbgalhfaaGreatDoor
set_option maxRecDepth 100000
open Go.ChangeShapes Go.WideShapes Go.ChangeAt Go.RowKit
open Go.ChangeMaps (open_string shut_string)
theorem own_knob : ownKnob Tryz.prog.godebug = none := by kernel_rfl
theorem laid_out : laidOutB Tryz.prog = true := by kernel_rfl
theorem lt_of_trod {H : Type} {enc : TypeId × Value → H} {W : World} {t : TypeId} {v : Value} {d : DataW H} {p : List MemPlace} (h : DataW.Trod enc Tryz.prog W 0 (fun _ => true) true t v d p) : ∀ x ∈ p, x.block < W.heap.size := by
  obtain ⟨m, hm⟩ := h
  exact DataW.trod_lt m _ _ _ hm
theorem u64_bounds {n : Int} (h : (Lit.int .u64 n).wf = true) : 0 ≤ n ∧ n < 18446744073709551616 := by
  simp [Lit.wf, IntKind.min, IntKind.max, IntKind.signed, IntKind.bits] at h
  omega
theorem open_set {H : Type} {enc : TypeId × Value → H} {W : World} {base : Nat} {v : Value} {d : DataW H} {p : List MemPlace} (hv : Value.okWide Tryz.prog W .any base 24 v)
    (h : DataW.Trod enc Tryz.prog W 0 (fun _ => true) true 24 v d p) : ∃ m, v = setV m := by
  unfold Value.okWide at hv
  rw [Tryz.underlying24] at hv
  obtain ⟨cs, rfl, hsz, _⟩ := hv
  obtain ⟨fuel, hf⟩ := h
  obtain ⟨xs, m, _, _, hl, hn, hx⟩ := DataW.trod_array Tryz.underlying24 hf
  have hC : Tryz.prog.cellsOf 24 = 4 := by kernel_rfl
  have hE : Tryz.prog.cellsOf 22 = 1 := by kernel_rfl
  rw [hC] at hsz
  rw [hE] at hx
  obtain ⟨l⟩ := cs
  match l, hsz with
  | [c0, c1, c2, c3], _ =>
    have k : ∀ (i : Nat) (c : Value), i < 4 → ([c0, c1, c2, c3].drop (i * 1)).take 1 = [c] → ∃ a, c = .int .u64 a ∧ 0 ≤ a ∧ a < 18446744073709551616 := by
      intro i c hi hc
      have h1 := hx i hi
      have hlt : i < xs.length := by omega
      simp only [Value.cells] at h1
      rw [hc, List.getElem?_eq_getElem hlt] at h1
      obtain ⟨a, hcs, _, wa⟩ := DataW.trod_int Tryz.underlying22 h1
      simp at hcs
      exact ⟨a, hcs, u64_bounds wa⟩
    obtain ⟨a0, rfl, b0⟩ := k 0 c0 (by omega) rfl
    obtain ⟨a1, rfl, b1⟩ := k 1 c1 (by omega) rfl
    obtain ⟨a2, rfl, b2⟩ := k 2 c2 (by omega) rfl
    obtain ⟨a3, rfl, b3⟩ := k 3 c3 (by omega) rfl
    obtain ⟨e0, e1, e2, e3⟩ := ofWords_words a0 a1 a2 a3 b0 b1 b2 b3
    refine ⟨ofWords a0 a1 a2 a3, ?_⟩
    unfold setV
    rw [← e0, ← e1, ← e2, ← e3]
end Go.Proofs.YtpiimcbbgalhfaaGreatDoor
/- The door's own heap meets the condition; what the condition says of the table; how an argument []byte is opened. -/
namespace Go.Proofs.YtpiimcbbgalhfaaGreatDoor
set_option maxRecDepth 100000
open Go.ChangeShapes Go.WideShapes Go.ChangeAt Go.RowKit Go.Deep
def laidL : List (String × DataW Unit) := [("math/bits.deBruijn64tab", Rows.laid_math_bits_deBruijn64tab)]
set_option maxRecDepth 100000 in
theorem door_met (os : Os) (args : Array Value) : laidMetH Tryz.prog laidL ((World.doorLaid Tryz.prog 14 os).forCall (fun _ _ => 0) ⟨#[], args, []⟩).memory :=
  laidMetH_of_parts3 (fuel := 8) (laidMet_of_run' 8 (by kernel_rfl) (by kernel_rfl)) (by kernel_rfl) (by kernel_rfl)
theorem tab_named : Tryz.prog.globalNamed "math/bits.deBruijn64tab" = some 0 := by kernel_rfl
theorem tab_of_laid {W : World} (h : laidMetH Tryz.prog laidL W) : TabOk W := by
  rw [MakeChecks.laidMetH_plain _ _ _ (by kernel_rfl)] at h
  have hT : Lib.TabIs Tryz.prog W "math/bits.deBruijn64tab" .u8 (Lib.deBruijn64tab.map fun (n : Nat) => (n : Int)) :=
    Lib.tabIs_of_head (rest := []) tab_named (by kernel_rfl : (Tryz.prog.globals[0]?).map (·.type) = some 262) Tryz.underlying262 Tryz.underlying5 (by kernel_rfl) (by kernel_rfl) h
  intro j hj
  have hc := hT.cell tab_named j (by rw [List.length_map]; exact hj)
  rw [hc]
  congr 2
  simp only [List.getD_eq_getElem?_getD, List.getElem?_map]
  cases Lib.deBruijn64tab[j]? <;> rfl
theorem cell_lt' {w : World} {a : Addr} {v : Value} (h : w.cell? a = some v) : a.block < w.heap.size := by
  unfold World.cell? at h
  rcases Nat.lt_or_ge a.block w.heap.size with hl | hl
  · exact hl
  · rw [Array.getElem?_eq_none hl] at h
    cases h
theorem u8_bounds' {n : Int} (h : (Lit.int .u8 n).wf = true) : 0 ≤ n ∧ n < 256 := by
  simp [Lit.wf, IntKind.min, IntKind.max, IntKind.signed, IntKind.bits] at h
  omega
theorem open_bytes {H : Type} {enc : TypeId × Value → H} {W : World} {base : Nat} {v : Value} {d : DataW H} {p : List MemPlace} (hv : Value.okWide Tryz.prog W .any base 115 v)
    (h : DataW.Trod enc Tryz.prog W 0 (fun _ => true) true 115 v d p) : ∃ (A : Option Addr) (c : Nat) (l : List Int), v = .slice A l.length c ∧ l.length ≤ c ∧ l.length ≤ 9223372036854775807 ∧ (∀ x ∈ l, 0 ≤ x ∧ x < 256) ∧
      ∀ i x, l[i]? = some x → ∃ ad, A = some ad ∧ ad.block < W.heap.size ∧ W.cell? (ad.add i) = some (.int .u8 x) := by
  obtain ⟨a0, len, cap, rfl⟩ := okWide_slice Tryz.underlying115 hv
  obtain ⟨fuel, hf⟩ := h
  have hC : Tryz.prog.cellsOf 5 = 1 := by kernel_rfl
  rcases open_slice1 Tryz.underlying115 hC hf with ⟨hcs, _⟩ | ⟨a, len', cap', m, n, V, D, Pl, hcs, _, hle, hmax, hm, _, hx⟩
  · simp [Value.cells] at hcs
    obtain ⟨rfl, rfl, rfl⟩ := hcs
    exact ⟨none, 0, [], rfl, Nat.le_refl _, Nat.zero_le _, by simp, fun i p h => by simp at h⟩
  · simp [Value.cells] at hcs
    obtain ⟨rfl, rfl, rfl⟩ := hcs
    simp only [if_true] at hm
    subst hm
    obtain ⟨Z, hZ⟩ := choose_lt (α := Int) (n := len) (p := fun i z => W.cell? (a.add i) = some (.int .u8 z) ∧ 0 ≤ z ∧ z < 256) (fun i hi => by
      obtain ⟨hc, ht⟩ := hx i (by omega)
      obtain ⟨z, hcs, _, wz⟩ := DataW.trod_int Tryz.underlying5 ht
      simp at hcs
      rw [hcs] at hc
      exact ⟨z, hc, u8_bounds' wz⟩)
    refine ⟨some a, m, (List.range len).map Z, by simp, by simpa using hle, by unfold maxLen at hmax; simp; omega, fun q hq => ?_, fun i p hi => ?_⟩
    · obtain ⟨j, hj, rfl⟩ := List.mem_map.1 hq
      exact (hZ j (List.mem_range.1 hj)).2
    · rw [List.getElem?_map] at hi
      obtain ⟨j, hj, rfl⟩ := Option.map_eq_some_iff.1 hi
      have hlt : i < len := by
        have := (List.getElem?_eq_some_iff.1 hj).1
        simpa using this
      rw [List.getElem?_range hlt] at hj
      obtain rfl := Option.some.inj hj
      have h := hZ i hlt
      exact ⟨a, rfl, by have := cell_lt' h.1; rwa [add_block] at this, h.1⟩
end Go.Proofs.YtpiimcbbgalhfaaGreatDoor
