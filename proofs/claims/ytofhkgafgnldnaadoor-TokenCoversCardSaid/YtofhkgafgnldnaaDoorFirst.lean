/- bytes.First, math/bits.TrailingZeros64; the reference's First, Bytes. -/
import Derived.Test.YtofhkgafgnldnaaDoorCount
import Derived.Test.YtofhkgafgnldnaaDoorRef01
import Derived.Lib.TrailingZeros
import Derived.Shelf.Spec.TrailingZeros
namespace Go.Proofs.YtofhkgafgnldnaaDoor
open Go.RowKit
attribute [local go_sem] idx_set0 idx_set1 idx_set2 idx_set3
/-- The table lies in its variable. -/
def TabOk (w : World) : Prop := ∀ j, j < 64 → w.cell? ⟨1, j, none⟩ = some (.int .u8 (Lib.deBruijn64tab.getD j 0))
theorem TabOk.below {w w' : World} (h : TabOk w) (hb : Below w.heap.size w w') : TabOk w' := fun j hj => by
  have hc := h j hj
  have hl : (⟨1, j, none⟩ : Addr).block < w.heap.size := by
    unfold World.cell? at hc
    rcases Nat.lt_or_ge (⟨1, j, none⟩ : Addr).block w.heap.size with hl | hl
    · exact hl
    · rw [Array.getElem?_eq_none hl] at hc
      cases hc
  exact (hb.cell hl).trans hc
set_option maxHeartbeats 1000000 in
theorem tz_core (x k idx : Nat) (w : World) (hx0 : ((x : Int) == 0) = false)
    (key : IntKind.u64.wrap (bits BinOp.and IntKind.u64 (x : Int) (IntKind.u64.wrap (-(x : Int))) * 285870213051353865) / 288230376151711744 = (idx : Int))
    (hi : idx < 64) (hk : k < 64) (hcell : w.cell? ⟨1, idx, none⟩ = some (.int .u8 k)) :
    Calls Tryd.prog 55 #[.int .u64 x] w fun e w' => e = .returned (.int .i64 k) ∧ w' = w := by
  go_enter Tryd.func55, Tryd.ntmps55
  go_wp2_with (simp only [key])
  go_ret
  exact ⟨rfl, rfl⟩
theorem tz_any (x : Nat) (hx : x < 18446744073709551616) (hx0 : x ≠ 0) (w : World) (hT : TabOk w) :
    Calls Tryd.prog 55 #[.int .u64 x] w fun e w' => e = .returned (.int .i64 (Lib.ctz 64 x)) ∧ w' = w := by
  obtain ⟨hlow, hk⟩ := Lib.lowest_bit 64 x hx0 hx
  obtain ⟨hi, htab⟩ := Lib.deBruijn64_at _ hk
  have hcell := hT _ hi
  rw [htab] at hcell
  exact tz_core x _ _ w (by simp; omega) (tz64_key x _ hx hx0 hlow) hi hk hcell
theorem ctz_bits (x : Nat) (h0 : x ≠ 0) (h : x < 2 ^ 64) : x.testBit (Lib.ctz 64 x) = true ∧ (∀ j, j < Lib.ctz 64 x → x.testBit j = false) ∧ Lib.ctz 64 x < 64 := by
  obtain ⟨m, hm, hk⟩ := Lib.ctzFrom_spec 64 x (by omega) h
  have e : Lib.ctz 64 x = Lib.ctzFrom 64 x := by simp [Lib.ctz, h0]
  rw [e]
  generalize Lib.ctzFrom 64 x = k at *
  subst hm
  refine ⟨?_, fun j hj => ?_, hk⟩
  · rw [Nat.mul_comm, Nat.testBit_mul_two_pow]
    simp [Nat.testBit_zero]
  · rw [Nat.mul_comm, Nat.testBit_mul_two_pow]
    simp
    omega
def firstM (m : Nat → Bool) : Option Nat := (List.range 256).find? m
theorem firstM_some {m : Nat → Bool} {b : Nat} (h : m b = true) (hb : b < 256) (hl : ∀ j, j < b → m j = false) : firstM m = some b := by
  unfold firstM
  rw [List.find?_range_eq_some]
  exact ⟨h, List.mem_range.2 hb, fun j hj => by rw [hl j hj]; rfl⟩
theorem firstM_none {m : Nat → Bool} (h : ∀ j, j < 256 → m j = false) : firstM m = none := by
  unfold firstM
  rw [List.find?_range_eq_none]
  exact fun j hj => by rw [h j hj]; rfl
theorem word_zero {m : Nat → Bool} {i : Nat} (h : word m i = 0) (j : Nat) (hj : j < 64) : m (64 * i + j) = false := by
  have := testBit_word m i j
  rw [h] at this
  simpa [hj] using this.symm
theorem first_at {m : Nat → Bool} (i : Nat) (hi : i < 4) (hz : ∀ j, j < i → word m j = 0) (hn : word m i ≠ 0) :
    firstM m = some (64 * i + Lib.ctz 64 (word m i).toNat) ∧ Lib.ctz 64 (word m i).toNat < 64 := by
  have h0 := word_nonneg m i
  have h1 := word_lt m i
  obtain ⟨hb, hl, hk⟩ := ctz_bits (word m i).toNat (by omega) (by omega)
  rw [testBit_word] at hb
  simp only [Bool.and_eq_true, decide_eq_true_eq] at hb
  refine ⟨firstM_some hb.2 (by omega) fun j hj => ?_, hk⟩
  by_cases hji : j < 64 * i
  · have := word_zero (hz (j / 64) (by omega)) (j % 64) (by omega)
    rw [Nat.div_add_mod] at this
    exact this
  · have := hl (j - 64 * i) (by omega)
    rw [testBit_word] at this
    simp only [Bool.and_eq_false_iff, decide_eq_false_iff_not] at this
    rcases this with h | h
    · omega
    · rwa [show 64 * i + (j - 64 * i) = j by omega] at h
/-- What First answers. -/
def firstV (m : Nat → Bool) : Value := .tuple #[.int .u8 ((firstM m).getD 0 : Nat), .bool (firstM m).isSome]
set_option maxHeartbeats 2000000 in
theorem first_any (m : Nat → Bool) (w : World) (hT : TabOk w) :
    Calls Tryd.prog 47 #[setV m] w fun e w' => e = .returned (firstV m) ∧ Below w.heap.size w w' := by
  have hs : (word m 0 ≠ 0) ∨ (word m 0 = 0 ∧ word m 1 ≠ 0) ∨ (word m 0 = 0 ∧ word m 1 = 0 ∧ word m 2 ≠ 0) ∨ (word m 0 = 0 ∧ word m 1 = 0 ∧ word m 2 = 0 ∧ word m 3 ≠ 0) ∨ (word m 0 = 0 ∧ word m 1 = 0 ∧ word m 2 = 0 ∧ word m 3 = 0) := by omega
  have HT := Lib.hid hT
  clear hT
  unfold setV
  rcases hs with hs | hs | hs | hs | hs
  · have hn := hs
    clear hs
    obtain ⟨hf, hk⟩ := first_at (m := m) 0 (by omega) (by intro j hj; omega) hn
    have HF := Lib.hid hf
    have hlt := word_lt m 0
    obtain ⟨x, hx⟩ := Int.eq_ofNat_of_zero_le (word_nonneg m 0)
    rw [hx] at hn hlt hk
    have hx0 : x ≠ 0 := by omega
    have hx1 : x < 18446744073709551616 := by omega
    have HX := Lib.hid hx
    rw [hx]
    clear hf hx hn hlt
    rw [Int.toNat_natCast] at hk
    go_enter Tryd.func47, Tryd.ntmps47
    go_wp2
    refine wp_loop_rounds 5 ?_
    rw [rounds_succ]; go_wp2_with fail
    refine (tz_any x hx1 hx0 _ (HT.out.below (by go_grown))).mono ?_
    rintro e w1 ⟨rfl, rfl⟩
    go_wp2
    go_returns
    refine ⟨?_, by go_grown⟩
    unfold firstV
    rw [HF.out, HX.out, Int.toNat_natCast]
    simp
  · obtain ⟨z0, hn⟩ := hs
    obtain ⟨hf, hk⟩ := first_at (m := m) 1 (by omega) (by intro j hj; have hj : j = 0 := (by omega); rcases hj with rfl <;> assumption) hn
    have HF := Lib.hid hf
    have hlt := word_lt m 1
    obtain ⟨x, hx⟩ := Int.eq_ofNat_of_zero_le (word_nonneg m 1)
    rw [hx] at hn hlt hk
    have hx0 : x ≠ 0 := by omega
    have hx1 : x < 18446744073709551616 := by omega
    have HX := Lib.hid hx
    rw [hx, z0]
    clear hf hx hn hlt z0
    rw [Int.toNat_natCast] at hk
    go_enter Tryd.func47, Tryd.ntmps47
    go_wp2
    refine wp_loop_rounds 5 ?_
    rw [rounds_succ]; go_wp2
    rw [rounds_succ]; go_wp2_with fail
    refine (tz_any x hx1 hx0 _ (HT.out.below (by go_grown))).mono ?_
    rintro e w1 ⟨rfl, rfl⟩
    go_wp2
    go_returns
    refine ⟨?_, by go_grown⟩
    unfold firstV
    rw [HF.out, HX.out, Int.toNat_natCast]
    simp
  · obtain ⟨z0, z1, hn⟩ := hs
    obtain ⟨hf, hk⟩ := first_at (m := m) 2 (by omega) (by intro j hj; have hj : j = 0 ∨ j = 1 := (by omega); rcases hj with rfl | rfl <;> assumption) hn
    have HF := Lib.hid hf
    have hlt := word_lt m 2
    obtain ⟨x, hx⟩ := Int.eq_ofNat_of_zero_le (word_nonneg m 2)
    rw [hx] at hn hlt hk
    have hx0 : x ≠ 0 := by omega
    have hx1 : x < 18446744073709551616 := by omega
    have HX := Lib.hid hx
    rw [hx, z0, z1]
    clear hf hx hn hlt z0 z1
    rw [Int.toNat_natCast] at hk
    go_enter Tryd.func47, Tryd.ntmps47
    go_wp2
    refine wp_loop_rounds 5 ?_
    rw [rounds_succ]; go_wp2
    rw [rounds_succ]; go_wp2
    rw [rounds_succ]; go_wp2_with fail
    refine (tz_any x hx1 hx0 _ (HT.out.below (by go_grown))).mono ?_
    rintro e w1 ⟨rfl, rfl⟩
    go_wp2
    go_returns
    refine ⟨?_, by go_grown⟩
    unfold firstV
    rw [HF.out, HX.out, Int.toNat_natCast]
    simp
  · obtain ⟨z0, z1, z2, hn⟩ := hs
    obtain ⟨hf, hk⟩ := first_at (m := m) 3 (by omega) (by intro j hj; have hj : j = 0 ∨ j = 1 ∨ j = 2 := (by omega); rcases hj with rfl | rfl | rfl <;> assumption) hn
    have HF := Lib.hid hf
    have hlt := word_lt m 3
    obtain ⟨x, hx⟩ := Int.eq_ofNat_of_zero_le (word_nonneg m 3)
    rw [hx] at hn hlt hk
    have hx0 : x ≠ 0 := by omega
    have hx1 : x < 18446744073709551616 := by omega
    have HX := Lib.hid hx
    rw [hx, z0, z1, z2]
    clear hf hx hn hlt z0 z1 z2
    rw [Int.toNat_natCast] at hk
    go_enter Tryd.func47, Tryd.ntmps47
    go_wp2
    refine wp_loop_rounds 5 ?_
    rw [rounds_succ]; go_wp2
    rw [rounds_succ]; go_wp2
    rw [rounds_succ]; go_wp2
    rw [rounds_succ]; go_wp2_with fail
    refine (tz_any x hx1 hx0 _ (HT.out.below (by go_grown))).mono ?_
    rintro e w1 ⟨rfl, rfl⟩
    go_wp2
    go_returns
    refine ⟨?_, by go_grown⟩
    unfold firstV
    rw [HF.out, HX.out, Int.toNat_natCast]
    simp
  · obtain ⟨z0, z1, z2, z3⟩ := hs
    have hf : firstM m = none := firstM_none fun j hj => by
      have hq : j / 64 = 0 ∨ j / 64 = 1 ∨ j / 64 = 2 ∨ j / 64 = 3 := by omega
      have hz : word m (j / 64) = 0 := by rcases hq with h | h | h | h <;> rw [h] <;> assumption
      have := word_zero hz (j % 64) (by omega)
      rwa [Nat.div_add_mod] at this
    have HF := Lib.hid hf
    rw [z0, z1, z2, z3]
    clear hf z0 z1 z2 z3
    go_enter Tryd.func47, Tryd.ntmps47
    go_wp2
    refine wp_loop_rounds 5 ?_
    rw [rounds_succ]; go_wp2
    rw [rounds_succ]; go_wp2
    rw [rounds_succ]; go_wp2
    rw [rounds_succ]; go_wp2
    rw [rounds_succ]; go_wp2
    go_returns
    refine ⟨?_, by go_grown⟩
    unfold firstV
    rw [HF.out]
    rfl
/-- What the reference's First answers. -/
def firstZ (m : Nat → Bool) : Int := match firstM m with
  | some b => b
  | none => -1
end Go.Proofs.YtofhkgafgnldnaaDoor
