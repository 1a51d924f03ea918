/- How arguments are opened, for the rows of this seat: a set; and the closed facts on the program. -/
import Derived.Test.YtofhkgafgnldnaaDoorRows
import Derived.Test.YtofhkgafgnldnaaDoorBytes
import Derived.WalkKit
import Derived.ProofKit
import Derived.OpenShut
import Derived.ShutString
import Derived.ChangeOld
import Derived.Below
namespace Go.Proofs.YtofhkgafgnldnaaDoor
open Go.ChangeShapes Go.WideShapes Go.ChangeAt Go.RowKit
open Go.ChangeMaps (open_string shut_string)
theorem own_knob : ownKnob Tryd.prog.godebug = none := by kernel_rfl
theorem laid_out : laidOutB Tryd.prog = true := by kernel_rfl
theorem lt_of_trod {H : Type} {enc : TypeId × Value → H} {W : World} {t : TypeId} {v : Value} {d : DataW H} {p : List MemPlace} (h : DataW.Trod enc Tryd.prog W 0 (fun _ => true) true t v d p) : ∀ x ∈ p, x.block < W.heap.size := by
  obtain ⟨m, hm⟩ := h
  exact DataW.trod_lt m _ _ _ hm
theorem u64_bounds {n : Int} (h : (Lit.int .u64 n).wf = true) : 0 ≤ n ∧ n < 18446744073709551616 := by
  simp [Lit.wf, IntKind.min, IntKind.max, IntKind.signed, IntKind.bits] at h
  omega
theorem open_set {H : Type} {enc : TypeId × Value → H} {W : World} {base : Nat} {v : Value} {d : DataW H} {p : List MemPlace} (hv : Value.okWide Tryd.prog W .any base 32 v)
    (h : DataW.Trod enc Tryd.prog W 0 (fun _ => true) true 32 v d p) : ∃ m, v = setV m := by
  unfold Value.okWide at hv
  rw [Tryd.underlying32] at hv
  obtain ⟨cs, rfl, hsz, _⟩ := hv
  obtain ⟨fuel, hf⟩ := h
  obtain ⟨xs, m, _, _, hl, hn, hx⟩ := DataW.trod_array Tryd.underlying32 hf
  have hC : Tryd.prog.cellsOf 32 = 4 := by kernel_rfl
  have hE : Tryd.prog.cellsOf 30 = 1 := by kernel_rfl
  rw [hC] at hsz
  rw [hE] at hx
  obtain ⟨l⟩ := cs
  match l, hsz with
  | [c0, c1, c2, c3], _ =>
    have k : ∀ (i : Nat) (c : Value), i < 4 → ([c0, c1, c2, c3].drop (i * 1)).take 1 = [c] → ∃ a, c = .int .u64 a ∧ 0 ≤ a ∧ a < 18446744073709551616 := by
      intro i c hi hc
      have h1 := hx i hi
      have hlt : i < xs.length := by omega
      simp only [Value.cells] at h1
      rw [hc, List.getElem?_eq_getElem hlt] at h1
      obtain ⟨a, hcs, _, wa⟩ := DataW.trod_int Tryd.underlying30 h1
      simp at hcs
      exact ⟨a, hcs, u64_bounds wa⟩
    obtain ⟨a0, rfl, b0⟩ := k 0 c0 (by omega) rfl
    obtain ⟨a1, rfl, b1⟩ := k 1 c1 (by omega) rfl
    obtain ⟨a2, rfl, b2⟩ := k 2 c2 (by omega) rfl
    obtain ⟨a3, rfl, b3⟩ := k 3 c3 (by omega) rfl
    obtain ⟨e0, e1, e2, e3⟩ := ofWords_words a0 a1 a2 a3 b0 b1 b2 b3
    refine ⟨ofWords a0 a1 a2 a3, ?_⟩
    unfold setV
    rw [← e0, ← e1, ← e2, ← e3]
end Go.Proofs.YtofhkgafgnldnaaDoor
