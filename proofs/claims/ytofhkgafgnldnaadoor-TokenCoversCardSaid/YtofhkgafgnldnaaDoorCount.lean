/- bytes.Count, Fold, Ranges, From. -/
import Derived.Test.YtofhkgafgnldnaaDoorRows
import Derived.Test.YtofhkgafgnldnaaDoorSets
import Derived.Test.YtofhkgafgnldnaaDoorMem
import Derived.Test.YtofhkgafgnldnaaDoorBytes
import Derived.Test.YtofhkgafgnldnaaDoorOf
import Derived.Test.YtofhkgafgnldnaaDoorList
import Derived.Test.YtofhkgafgnldnaaDoorPop
import Derived.Test.YtofhkgafgnldnaaDoorUnion
import Derived.WalkKit
import Derived.WalkSpells
import Derived.WalkLawsBesides
import Derived.Lib.Hide
import Derived.Handy
import Derived.StillTailTactics
import Derived.Deep.RegionWith
import Derived.Deep.QuietTactic
import Derived.BigQuiet
import Derived.Deep.RegionHeld3
import Derived.Deep.RegionLaw
namespace Go.Proofs.YtofhkgafgnldnaaDoor
open Go.RowKit
attribute [local go_sem] eq_words eqB_words eqB_zero idx_set0 idx_set1 idx_set2 idx_set3
set_option maxHeartbeats 400000 in
theorem ones_any (x : Int) (h0 : 0 ≤ x) (h1 : x < 18446744073709551616) (w : World) :
    Calls Tryd.prog 54 #[.int .u64 x] w fun e w' => e = .returned (.int .i64 (pop64 x.toNat)) ∧ w = w' := by
  go_enter Tryd.func54, Tryd.ntmps54
  go_wp2
  go_ret
  refine ⟨?_, rfl⟩
  show Ending.returned (Value.int .i64 _) = Ending.returned (Value.int .i64 _)
  congr 2
  obtain ⟨n, rfl⟩ := Int.eq_ofNat_of_zero_le h0
  rw [Int.toNat_natCast]
  have hn : n < 18446744073709551616 := by omega
  rw [mask2 n 6148914691236517205 6148914691236517205 rfl hn (by decide)]
  have b1 : n / 2 &&& 6148914691236517205 ≤ 6148914691236517205 := Nat.and_le_right
  have b2 : n &&& 6148914691236517205 ≤ 6148914691236517205 := Nat.and_le_right
  generalize hy1 : (n / 2 &&& 6148914691236517205) + (n &&& 6148914691236517205) = y1
  rw [mask4 y1 3689348814741910323 3689348814741910323 rfl (by omega) (by decide)]
  have b3 : y1 / 4 &&& 3689348814741910323 ≤ 3689348814741910323 := Nat.and_le_right
  have b4 : y1 &&& 3689348814741910323 ≤ 3689348814741910323 := Nat.and_le_right
  generalize hy2 : (y1 / 4 &&& 3689348814741910323) + (y1 &&& 3689348814741910323) = y2
  rw [mask16 y2 1085102592571150095 1085102592571150095 rfl (by omega) (by decide)]
  have b5 : (y2 / 16 + y2) &&& 1085102592571150095 ≤ 1085102592571150095 := Nat.and_le_right
  generalize hy3 : (y2 / 16 + y2) &&& 1085102592571150095 = y3
  rw [hy3] at b5
  rw [plus256 y3 (by omega), plus65536 _ (by omega), plus4294967296 _ (by omega)]
  have hp : pop64 n = (y3 + y3 / 256 + (y3 + y3 / 256) / 65536 + (y3 + y3 / 256 + (y3 + y3 / 256) / 65536) / 4294967296) % 128 := by
    simp only [pop64]
    rw [hy1, hy2, hy3]
  rw [hp]
  exact i64_and127 _ (by omega)
set_option maxRecDepth 100000 in
set_option maxHeartbeats 400000 in
theorem count_any (m : Nat → Bool) (w : World) :
    Calls Tryd.prog 46 #[setV m] w fun e w' => e = .returned (.int .i64 (cnt m 256)) ∧ Below w.heap.size w w' := by
  unfold setV
  go_enter Tryd.func46, Tryd.ntmps46
  go_wp2
  have hc := cnt_words m
  have l0 := cnt_le (fun j => m (64 * 0 + j)) 64
  have l1 := cnt_le (fun j => m (64 * 1 + j)) 64
  have l2 := cnt_le (fun j => m (64 * 2 + j)) 64
  have l3 := cnt_le (fun j => m (64 * 3 + j)) 64
  simp only [Nat.mul_zero, Nat.zero_add, Nat.mul_one, Nat.reduceMul] at hc l0 l1 l2 l3
  have Hc := Lib.hid hc
  clear hc
  refine wp_loop_rounds 5 ?_
  rw [rounds_succ]; go_wp2_with fail
  refine (ones_any _ (word_nonneg _ _) (word_lt _ _) _).mono ?_
  rintro e w' ⟨rfl, rfl⟩
  rw [pop_word]
  go_wp2
  rw [rounds_succ]; go_wp2_with fail
  refine (ones_any _ (word_nonneg _ _) (word_lt _ _) _).mono ?_
  rintro e w' ⟨rfl, rfl⟩
  rw [pop_word]
  go_wp2
  rw [rounds_succ]; go_wp2_with fail
  refine (ones_any _ (word_nonneg _ _) (word_lt _ _) _).mono ?_
  rintro e w' ⟨rfl, rfl⟩
  rw [pop_word]
  go_wp2
  rw [rounds_succ]; go_wp2_with fail
  refine (ones_any _ (word_nonneg _ _) (word_lt _ _) _).mono ?_
  rintro e w' ⟨rfl, rfl⟩
  rw [pop_word]
  go_wp2
  rw [rounds_succ]; go_wp2
  go_returns
  refine ⟨?_, by go_grown⟩
  rw [Hc.out]
  exact ret_congr (congrArg (Value.int .i64) (by omega))
/-- The set with both cases of its letters. -/
def foldM (m : Nat → Bool) (x : Nat) : Bool := m x || (decide (65 ≤ x ∧ x ≤ 90) && m (x + 32)) || (decide (97 ≤ x ∧ x ≤ 122) && m (x - 32))
/-- What is put behind the first k bytes of the list. -/
def foldL (m : Nat → Bool) (l : List Int) (x : Nat) : Bool := m x || decide ((65 ≤ x ∧ x ≤ 90 ∧ ((x + 32 : Nat) : Int) ∈ l) ∨ (97 ≤ x ∧ x ≤ 122 ∧ ((x - 32 : Nat) : Int) ∈ l))
theorem foldL_nil (m : Nat → Bool) : foldL m [] = m := by funext x; simp [foldL]
theorem foldL_small (m : Nat → Bool) (l : List Int) (b : Int) (h0 : 97 ≤ b) (h1 : b ≤ 122) : foldL m (l ++ [b]) = putM (foldL m l) (b - 32) := by
  funext x
  simp only [foldL, putM, List.mem_append, List.mem_singleton, Bool.or_assoc, ← Bool.decide_or]
  congr 1
  simp only [decide_eq_decide]
  constructor
  · rintro (⟨a, c, h | h⟩ | ⟨a, c, h | h⟩)
    · exact .inl (.inl ⟨a, c, h⟩)
    · exact .inr (by omega)
    · exact .inl (.inr ⟨a, c, h⟩)
    · omega
  · rintro ((⟨a, c, h⟩ | ⟨a, c, h⟩) | h)
    · exact .inl ⟨a, c, .inl h⟩
    · exact .inr ⟨a, c, .inl h⟩
    · exact .inl ⟨by omega, by omega, .inr (by omega)⟩
theorem foldL_great (m : Nat → Bool) (l : List Int) (b : Int) (h0 : 65 ≤ b) (h1 : b ≤ 90) : foldL m (l ++ [b]) = putM (foldL m l) (b + 32) := by
  funext x
  simp only [foldL, putM, List.mem_append, List.mem_singleton, Bool.or_assoc, ← Bool.decide_or]
  congr 1
  simp only [decide_eq_decide]
  constructor
  · rintro (⟨a, c, h | h⟩ | ⟨a, c, h | h⟩)
    · exact .inl (.inl ⟨a, c, h⟩)
    · omega
    · exact .inl (.inr ⟨a, c, h⟩)
    · exact .inr (by omega)
  · rintro ((⟨a, c, h⟩ | ⟨a, c, h⟩) | h)
    · exact .inl ⟨a, c, .inl h⟩
    · exact .inr ⟨a, c, .inl h⟩
    · exact .inr ⟨by omega, by omega, .inr (by omega)⟩
theorem foldL_other (m : Nat → Bool) (l : List Int) (b : Int) (h0 : ¬(97 ≤ b ∧ b ≤ 122)) (h1 : ¬(65 ≤ b ∧ b ≤ 90)) : foldL m (l ++ [b]) = foldL m l := by
  funext x
  simp only [foldL, List.mem_append, List.mem_singleton]
  congr 1
  simp only [decide_eq_decide]
  constructor
  · rintro (⟨a, c, h | h⟩ | ⟨a, c, h | h⟩)
    · exact .inl ⟨a, c, h⟩
    · omega
    · exact .inr ⟨a, c, h⟩
    · omega
  · rintro (⟨a, c, h⟩ | ⟨a, c, h⟩)
    · exact .inl ⟨a, c, .inl h⟩
    · exact .inr ⟨a, c, .inl h⟩
theorem foldL_all (m : Nat → Bool) : ∀ x, x < 256 → foldL m (listM m 256) x = foldM m x := by
  intro x hx
  simp only [foldL, foldM, mem_listM, Bool.or_assoc]
  congr 1
  rw [Bool.eq_iff_iff]
  simp only [decide_eq_true_eq, Bool.or_eq_true, Bool.and_eq_true]
  constructor
  · rintro (⟨a, c, _, _, h⟩ | ⟨a, c, _, _, h⟩)
    · exact .inl ⟨⟨a, c⟩, by rwa [Int.toNat_natCast] at h⟩
    · exact .inr ⟨⟨a, c⟩, by rwa [Int.toNat_natCast] at h⟩
  · rintro (⟨⟨a, c⟩, h⟩ | ⟨⟨a, c⟩, h⟩)
    · exact .inl ⟨a, c, by omega, by omega, by rwa [Int.toNat_natCast]⟩
    · exact .inr ⟨a, c, by omega, by omega, by rwa [Int.toNat_natCast]⟩
end Go.Proofs.YtofhkgafgnldnaaDoor
