/- strings.IndexByte, strings.HasPrefix: their contracts (after the shelf's texts); which byte is among which. -/
import Derived.Test.YtofhkgafgnldnaaDoorRdr
import Derived.Lib.Strings
import Derived.Lib.Slices
import Derived.Lib.Walk
import Derived.Lib.Bytealg
namespace Go.Proofs.YtofhkgafgnldnaaDoor
open Go.RowKit
set_option maxHeartbeats 1000000 in
set_option maxRecDepth 100000 in
theorem lite_index (s : ByteArray) (c : Int) (w : World) :
    Calls Tryd.prog 43 #[.string s, .int .u8 c] w fun e w' => e = .returned (.int .i64 (Lib.indexByte s.data.toList c.toNat.toUInt8)) ∧ w' = w := by
  go_enter Tryd.func43, Tryd.ntmps43
  go_wp2
  rw [run_callFunc_extern Tryd.func53 (by kernel_rfl) (by kernel_rfl) (by kernel_rfl) (e := Extern.BytealgIndexByte.indexByte) (by kernel_rfl), Lib.run_indexByteString]
  simp only [Result.andThen]
  rw [Oper.upon_value]
  go_wp2
  go_ret
  exact ⟨rfl, rfl⟩
theorem index_of (s : ByteArray) (c : Int) (w : World) :
    Calls Tryd.prog 32 #[.string s, .int .u8 c] w fun e w' => e = .returned (.int .i64 (Lib.indexByte s.data.toList c.toNat.toUInt8)) ∧ w' = w := by
  go_enter Tryd.func32, Tryd.ntmps32
  go_wp2_with fail
  refine (lite_index _ _ _).mono ?_
  rintro e w' ⟨rfl, rfl⟩
  go_wp2
  go_ret
  exact ⟨rfl, rfl⟩
/-- A byte's place among some, or a number below 0. -/
theorem index_in (l : ByteArray) (L : List Nat) (hL : ∀ c : Fin 256, decide (0 ≤ Lib.indexByte l.data.toList c.val.toUInt8) = L.contains c.val) (c : Nat) (hc : c < 256) (w : World) :
    Calls Tryd.prog 32 #[.string l, .int .u8 ((c : Nat) : Int)] w fun e w' => (∃ n : Int, e = .returned (.int .i64 n) ∧ (if L.contains c = true then 0 ≤ n else n < 0)) ∧ w' = w := by
  refine (index_of l _ w).mono ?_
  rintro e w' ⟨rfl, rfl⟩
  refine ⟨⟨_, rfl, ?_⟩, rfl⟩
  have h := hL ⟨c, hc⟩
  simp only [Int.toNat_natCast] at h ⊢
  split
  · rename_i hm
    rw [hm] at h
    exact of_decide_eq_true h
  · rename_i hm
    rw [Bool.not_eq_true] at hm
    rw [hm] at h
    have := of_decide_eq_false h
    omega
theorem special_ix : ∀ c : Fin 256, decide (0 ≤ Lib.indexByte (⟨#[92, 124, 40, 41, 91, 93, 123, 125, 42, 43, 63, 46, 94, 36, 47, 45]⟩ : ByteArray).data.toList c.val.toUInt8) = (specialL).contains c.val := by decide +kernel
theorem other_ix : ∀ c : Fin 256, decide (0 ≤ Lib.indexByte (⟨#[49, 50, 51, 52, 53, 54, 55, 56, 57, 98, 66, 65, 122, 90, 71, 81, 69, 107, 112, 80]⟩ : ByteArray).data.toList c.val.toUInt8) = (otherL).contains c.val := by decide +kernel
theorem lone_ix : ∀ c : Fin 256, decide (0 ≤ Lib.indexByte (⟨#[93, 125]⟩ : ByteArray).data.toList c.val.toUInt8) = (loneL).contains c.val := by decide +kernel
theorem inner_ix : ∀ c : Fin 256, decide (0 ≤ Lib.indexByte (⟨#[91, 93, 45, 94]⟩ : ByteArray).data.toList c.val.toUInt8) = (innerL).contains c.val := by decide +kernel
def hexIx (c : Nat) : Int := match hexM c with | some n => ((n : Nat) : Int) | none => -1
theorem hex_up : ∀ c : Fin 256, 65 ≤ c.val → Lib.indexByte (⟨#[48, 49, 50, 51, 52, 53, 54, 55, 56, 57, 97, 98, 99, 100, 101, 102]⟩ : ByteArray).data.toList (bits .or .u8 ((c.val : Nat) : Int) 32).toNat.toUInt8 = hexIx c.val := by decide +kernel
theorem hex_low : ∀ c : Fin 256, c.val < 65 → Lib.indexByte (⟨#[48, 49, 50, 51, 52, 53, 54, 55, 56, 57]⟩ : ByteArray).data.toList ((c.val : Nat) : Int).toNat.toUInt8 = hexIx c.val := by decide +kernel
theorem hexM_lt {c n : Nat} (h : hexM c = some n) : n < 16 := by
  unfold hexM at h
  split at h
  · injection h; omega
  · split at h
    · injection h; omega
    · split at h
      · injection h; omega
      · cases h
set_option maxHeartbeats 1000000 in
theorem prefix_of (s p : ByteArray) (w : World) :
    Calls Tryd.prog 40 #[.string s, .string p] w fun e w' => e = .returned (.bool (Lib.hasPrefix s.data.toList p.data.toList)) ∧ w' = w := by
  rw [← Lib.hasPrefix_of_take, ← Lib.size_eq, ← Lib.size_eq]
  go_enter Tryd.func40, Tryd.ntmps40
  go_wp2
  · rename_i h
    go_ret
    refine ⟨?_, rfl⟩
    show Ending.returned (Value.bool ((s.extract 0 p.size).toList == p.toList)) = _
    rw [Lib.extract_toList, Lib.toList_data]
    simp [h]
  · rename_i h
    go_ret
    refine ⟨?_, rfl⟩
    show Ending.returned (Value.bool false) = _
    simp [h]
end Go.Proofs.YtofhkgafgnldnaaDoor
