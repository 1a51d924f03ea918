/- Layer 5's example. -/
import Derived.Test.YtofhkgafgnldnaaDoorScan
namespace Go.Proofs.YtofhkgafgnldnaaDoor
open Go.RowKit
def awakeS : ByteArray := { data := #[97, 123, 50, 44, 125, 63] }
def awakeL : List (Tok × Nat × Nat) := [(setTok (oneM 97), 0, 1), (⟨5, noSet, 2, -1, true⟩, 1, 6)]
theorem awake_scan : scanM (bytesN awakeS) = .ok awakeL 6 := by rfl
theorem own_cell {w : World} {base size n g c : Nat} {e : TypeId} {xs : List Value} (h : w.ownsRow base e size (.slice (some ⟨g, 0, none⟩) n c) n xs) (j : Nat) (u : Value) (hu : xs[j]? = some u) : w.cell? ⟨g, j, none⟩ = some u := by
  have := h.cells rfl j u hu
  rw [show (⟨g, 0, none⟩ : Addr).add j = ⟨g, j, none⟩ by unfold Addr.add; split <;> simp_all] at this
  exact this
set_option maxRecDepth 100000 in
set_option maxHeartbeats 2000000 in
theorem awake_at (w : World) (hT : TabOk w) :
    Calls Tryd.prog 7 #[] w fun e w' => e = .returned (.bool true) ∧ Below w.heap.size w w' := by
  go_enter Tryd.func7, Tryd.ntmps7
  go_wp2_with fail
  refine (scan_at awakeS w hT).mono ?_
  rintro v w1 ⟨lv, n, e, rfl, hs, hb⟩
  unfold ScanIs at hs
  rw [if_neg (by decide), awake_scan] at hs
  obtain ⟨hown, rfl, rfl⟩ := hs
  obtain ⟨g, c, rfl⟩ := own_some hown (by decide)
  have c10 : w1.cell? ⟨g, 10, none⟩ = some (.int .i64 5) := own_cell hown 10 _ rfl
  have c17 : w1.cell? ⟨g, 17, none⟩ = some (.int .i64 2) := own_cell hown 17 _ rfl
  have c18 : w1.cell? ⟨g, 18, none⟩ = some (.int .i64 (-1)) := own_cell hown 18 _ rfl
  have c19 : w1.cell? ⟨g, 19, none⟩ = some (.bool true) := own_cell hown 19 _ rfl
  rw [show awakeL.length = 2 from rfl]
  clear hown
  go_wp2
  go_returns
  exact ⟨rfl, hb⟩
end Go.Proofs.YtofhkgafgnldnaaDoor
