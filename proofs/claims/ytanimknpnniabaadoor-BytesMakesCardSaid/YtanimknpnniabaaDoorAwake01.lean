/- The example of layer 1: it is as the document says. -/
import Derived.Test.YtanimknpnniabaaDoorCount
namespace Go.Proofs.YtanimknpnniabaaDoor
open Go.RowKit
attribute [local go_sem] eq_words eqB_words eqB_zero idx_set0 idx_set1 idx_set2 idx_set3
theorem rd_lit (w : World) (k : IntKind) (e : TypeId) (l : List Int) (hl : l.length ≤ 1000) : Rd (w.alloc (.cells (l.map (.int k)).toArray e)) k (.slice (some ⟨w.heap.size, 0, none⟩) l.length l.length) l := by
  have h := World.ownsRow_lit (base := w.heap.size) (e := e) (size := 1) w (l.map (.int k)).toArray l.length (Nat.le_refl _) (by unfold maxLen; omega) (by simp)
  exact own_rd h (by omega)
theorem awake_e1 : eqB (foldM (ofM [97, 49])) (ofM [65, 97, 49]) = true := by decide +kernel
theorem awake_e2 : cnt (fun _ => true) 256 = 256 := by decide +kernel
set_option maxRecDepth 100000 in
set_option maxHeartbeats 1000000 in
theorem awake_any (w : World) : Calls Tryd.prog 17 #[] w fun e w' => e = .returned (.bool true) ∧ Below w.heap.size w w' := by
  have E1 := Lib.hid awake_e1
  have E2 := Lib.hid awake_e2
  go_enter Tryd.func17, Tryd.ntmps17
  go_wp2_with fail
  refine (of_any [97, 49] _ _ (rd_lit w .u8 5 [97, 49] (by decide)) (by decide)).mono ?_
  rintro e w1 ⟨rfl, hb1⟩
  have hw1 : Below w.heap.size w w1 := ((Below.refl _ _).alloc (Nat.le_refl _) _).trans (hb1.mono (by simp))
  clear hb1
  go_wp2_with fail
  refine (fold_any _ _).mono ?_
  rintro e w2 ⟨rfl, hb2⟩
  have hw2 : Below w.heap.size w w2 := hw1.trans (hb2.mono hw1.size)
  clear hb2 hw1
  go_wp2_with fail
  refine (of_any [65, 97, 49] _ _ (rd_lit w2 .u8 5 [65, 97, 49] (by decide)) (by decide)).mono ?_
  rintro e w3 ⟨rfl, hb3⟩
  have hw3 : Below w.heap.size w w3 := (hw2.alloc hw2.size _).trans (hb3.mono (by have := hw2.size; simp; omega))
  clear hb3 hw2
  have e1 := E1.out
  go_wp2_with fail
  refine (all_any _).mono ?_
  rintro e w4 ⟨rfl, hb4⟩
  have hw4 : Below w.heap.size w w4 := hw3.trans (hb4.mono hw3.size)
  clear hb4 hw3
  go_wp2_with fail
  refine (count_any _ _).mono ?_
  rintro e w5 ⟨rfl, hb5⟩
  have hw5 : Below w.heap.size w w5 := hw4.trans (hb5.mono hw4.size)
  clear hb5 hw4
  rw [E2.out]
  go_wp2
  go_returns
  exact ⟨rfl, hw5⟩
end Go.Proofs.YtanimknpnniabaaDoor
