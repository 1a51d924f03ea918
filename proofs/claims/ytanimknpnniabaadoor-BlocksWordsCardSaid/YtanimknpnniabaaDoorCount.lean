/- bytes.Count, Fold, Ranges, From. -/
import Derived.Test.YtanimknpnniabaaDoorRows
import Derived.Test.YtanimknpnniabaaDoorSets
import Derived.Test.YtanimknpnniabaaDoorMem
import Derived.Test.YtanimknpnniabaaDoorBytes
import Derived.Test.YtanimknpnniabaaDoorOf
import Derived.Test.YtanimknpnniabaaDoorList
import Derived.Test.YtanimknpnniabaaDoorPop
import Derived.Test.YtanimknpnniabaaDoorUnion
import Derived.WalkKit
import Derived.WalkSpells
import Derived.WalkLawsBesides
import Derived.Lib.Hide
import Derived.Handy
import Derived.StillTailTactics
import Derived.Deep.RegionWith
import Derived.Deep.QuietTactic
import Derived.BigQuiet
import Derived.Deep.RegionHeld3
import Derived.Deep.RegionLaw
namespace Go.Proofs.YtanimknpnniabaaDoor
open Go.RowKit
attribute [local go_sem] eq_words eqB_words eqB_zero idx_set0 idx_set1 idx_set2 idx_set3
set_option maxHeartbeats 400000 in
theorem ones_any (x : Int) (h0 : 0 ≤ x) (h1 : x < 18446744073709551616) (w : World) :
    Calls Tryd.prog 39 #[.int .u64 x] w fun e w' => e = .returned (.int .i64 (pop64 x.toNat)) ∧ w = w' := by
  go_enter Tryd.func39, Tryd.ntmps39
  go_wp2
  go_ret
  refine ⟨?_, rfl⟩
  show Ending.returned (Value.int .i64 _) = Ending.returned (Value.int .i64 _)
  congr 2
  obtain ⟨n, rfl⟩ := Int.eq_ofNat_of_zero_le h0
  rw [Int.toNat_natCast]
  have hn : n < 18446744073709551616 := by omega
  rw [mask2 n 6148914691236517205 6148914691236517205 rfl hn (by decide)]
  have b1 : n / 2 &&& 6148914691236517205 ≤ 6148914691236517205 := Nat.and_le_right
  have b2 : n &&& 6148914691236517205 ≤ 6148914691236517205 := Nat.and_le_right
  generalize hy1 : (n / 2 &&& 6148914691236517205) + (n &&& 6148914691236517205) = y1
  rw [mask4 y1 3689348814741910323 3689348814741910323 rfl (by omega) (by decide)]
  have b3 : y1 / 4 &&& 3689348814741910323 ≤ 3689348814741910323 := Nat.and_le_right
  have b4 : y1 &&& 3689348814741910323 ≤ 3689348814741910323 := Nat.and_le_right
  generalize hy2 : (y1 / 4 &&& 3689348814741910323) + (y1 &&& 3689348814741910323) = y2
  rw [mask16 y2 1085102592571150095 1085102592571150095 rfl (by omega) (by decide)]
  have b5 : (y2 / 16 + y2) &&& 1085102592571150095 ≤ 1085102592571150095 := Nat.and_le_right
  generalize hy3 : (y2 / 16 + y2) &&& 1085102592571150095 = y3
  rw [hy3] at b5
  rw [plus256 y3 (by omega), plus65536 _ (by omega), plus4294967296 _ (by omega)]
  have hp : pop64 n = (y3 + y3 / 256 + (y3 + y3 / 256) / 65536 + (y3 + y3 / 256 + (y3 + y3 / 256) / 65536) / 4294967296) % 128 := by
    simp only [pop64]
    rw [hy1, hy2, hy3]
  rw [hp]
  exact i64_and127 _ (by omega)
set_option maxRecDepth 100000 in
set_option maxHeartbeats 400000 in
theorem count_any (m : Nat → Bool) (w : World) :
    Calls Tryd.prog 24 #[setV m] w fun e w' => e = .returned (.int .i64 (cnt m 256)) ∧ Below w.heap.size w w' := by
  unfold setV
  go_enter Tryd.func24, Tryd.ntmps24
  go_wp2
  have hc := cnt_words m
  have l0 := cnt_le (fun j => m (64 * 0 + j)) 64
  have l1 := cnt_le (fun j => m (64 * 1 + j)) 64
  have l2 := cnt_le (fun j => m (64 * 2 + j)) 64
  have l3 := cnt_le (fun j => m (64 * 3 + j)) 64
  simp only [Nat.mul_zero, Nat.zero_add, Nat.mul_one, Nat.reduceMul] at hc l0 l1 l2 l3
  have Hc := Lib.hid hc
  clear hc
  refine wp_loop_rounds 5 ?_
  rw [rounds_succ]; go_wp2_with fail
  refine (ones_any _ (word_nonneg _ _) (word_lt _ _) _).mono ?_
  rintro e w' ⟨rfl, rfl⟩
  rw [pop_word]
  go_wp2
  rw [rounds_succ]; go_wp2_with fail
  refine (ones_any _ (word_nonneg _ _) (word_lt _ _) _).mono ?_
  rintro e w' ⟨rfl, rfl⟩
  rw [pop_word]
  go_wp2
  rw [rounds_succ]; go_wp2_with fail
  refine (ones_any _ (word_nonneg _ _) (word_lt _ _) _).mono ?_
  rintro e w' ⟨rfl, rfl⟩
  rw [pop_word]
  go_wp2
  rw [rounds_succ]; go_wp2_with fail
  refine (ones_any _ (word_nonneg _ _) (word_lt _ _) _).mono ?_
  rintro e w' ⟨rfl, rfl⟩
  rw [pop_word]
  go_wp2
  rw [rounds_succ]; go_wp2
  go_returns
  refine ⟨?_, by go_grown⟩
  rw [Hc.out]
  exact ret_congr (congrArg (Value.int .i64) (by omega))
/-- The set with both cases of its letters. -/
def foldM (m : Nat → Bool) (x : Nat) : Bool := m x || (decide (65 ≤ x ∧ x ≤ 90) && m (x + 32)) || (decide (97 ≤ x ∧ x ≤ 122) && m (x - 32))
/-- What is put behind the first k bytes of the list. -/
def foldL (m : Nat → Bool) (l : List Int) (x : Nat) : Bool := m x || decide ((65 ≤ x ∧ x ≤ 90 ∧ ((x + 32 : Nat) : Int) ∈ l) ∨ (97 ≤ x ∧ x ≤ 122 ∧ ((x - 32 : Nat) : Int) ∈ l))
theorem foldL_nil (m : Nat → Bool) : foldL m [] = m := by funext x; simp [foldL]
theorem foldL_small (m : Nat → Bool) (l : List Int) (b : Int) (h0 : 97 ≤ b) (h1 : b ≤ 122) : foldL m (l ++ [b]) = putM (foldL m l) (b - 32) := by
  funext x
  simp only [foldL, putM, List.mem_append, List.mem_singleton, Bool.or_assoc, ← Bool.decide_or]
  congr 1
  simp only [decide_eq_decide]
  constructor
  · rintro (⟨a, c, h | h⟩ | ⟨a, c, h | h⟩)
    · exact .inl (.inl ⟨a, c, h⟩)
    · exact .inr (by omega)
    · exact .inl (.inr ⟨a, c, h⟩)
    · omega
  · rintro ((⟨a, c, h⟩ | ⟨a, c, h⟩) | h)
    · exact .inl ⟨a, c, .inl h⟩
    · exact .inr ⟨a, c, .inl h⟩
    · exact .inl ⟨by omega, by omega, .inr (by omega)⟩
theorem foldL_great (m : Nat → Bool) (l : List Int) (b : Int) (h0 : 65 ≤ b) (h1 : b ≤ 90) : foldL m (l ++ [b]) = putM (foldL m l) (b + 32) := by
  funext x
  simp only [foldL, putM, List.mem_append, List.mem_singleton, Bool.or_assoc, ← Bool.decide_or]
  congr 1
  simp only [decide_eq_decide]
  constructor
  · rintro (⟨a, c, h | h⟩ | ⟨a, c, h | h⟩)
    · exact .inl (.inl ⟨a, c, h⟩)
    · omega
    · exact .inl (.inr ⟨a, c, h⟩)
    · exact .inr (by omega)
  · rintro ((⟨a, c, h⟩ | ⟨a, c, h⟩) | h)
    · exact .inl ⟨a, c, .inl h⟩
    · exact .inr ⟨a, c, .inl h⟩
    · exact .inr ⟨by omega, by omega, .inr (by omega)⟩
theorem foldL_other (m : Nat → Bool) (l : List Int) (b : Int) (h0 : ¬(97 ≤ b ∧ b ≤ 122)) (h1 : ¬(65 ≤ b ∧ b ≤ 90)) : foldL m (l ++ [b]) = foldL m l := by
  funext x
  simp only [foldL, List.mem_append, List.mem_singleton]
  congr 1
  simp only [decide_eq_decide]
  constructor
  · rintro (⟨a, c, h | h⟩ | ⟨a, c, h | h⟩)
    · exact .inl ⟨a, c, h⟩
    · omega
    · exact .inr ⟨a, c, h⟩
    · omega
  · rintro (⟨a, c, h⟩ | ⟨a, c, h⟩)
    · exact .inl ⟨a, c, .inl h⟩
    · exact .inr ⟨a, c, .inl h⟩
theorem foldL_all (m : Nat → Bool) : ∀ x, x < 256 → foldL m (listM m 256) x = foldM m x := by
  intro x hx
  simp only [foldL, foldM, mem_listM, Bool.or_assoc]
  congr 1
  rw [Bool.eq_iff_iff]
  simp only [decide_eq_true_eq, Bool.or_eq_true, Bool.and_eq_true]
  constructor
  · rintro (⟨a, c, _, _, h⟩ | ⟨a, c, _, _, h⟩)
    · exact .inl ⟨⟨a, c⟩, by rwa [Int.toNat_natCast] at h⟩
    · exact .inr ⟨⟨a, c⟩, by rwa [Int.toNat_natCast] at h⟩
  · rintro (⟨⟨a, c⟩, h⟩ | ⟨⟨a, c⟩, h⟩)
    · exact .inl ⟨a, c, by omega, by omega, by rwa [Int.toNat_natCast]⟩
    · exact .inr ⟨a, c, by omega, by omega, by rwa [Int.toNat_natCast]⟩
set_option maxRecDepth 100000 in
set_option maxHeartbeats 1000000 in
theorem fold_any (m : Nat → Bool) (w : World) :
    Calls Tryd.prog 34 #[setV m] w fun e w' => e = .returned (setV (foldM m)) ∧ Below w.heap.size w w' := by
  unfold setV
  go_enter Tryd.func34, Tryd.ntmps34
  go_wp2_with fail
  have hl := list_any m (((w.alloc (.cells (setL m).toArray 35)).alloc (.cells #[.int .u64 0, .int .u64 0, .int .u64 0, .int .u64 0] 35)).alloc (.cells (setL m).toArray 35))
  have Hl := Lib.hid hl
  clear hl
  refine Hl.out.mono ?_
  rintro e w1 ⟨v, rfl, hown, hb⟩
  have hle := listM_length m 256
  have hrd := own_cells hown
  have hb1 : Blk w1 (w.heap.size + 1) 35 [.int .u64 0, .int .u64 0, .int .u64 0, .int .u64 0] := (Blk.alloc (by simpa using Blk.new (w.alloc (.cells (setL m).toArray 35)) [.int .u64 0, .int .u64 0, .int .u64 0, .int .u64 0] 35) _).below hb (by simp)
  have hb2 : Blk w1 (w.heap.size + 1 + 1) 35 (setL m) := Blk.below (by simpa using Blk.new ((w.alloc (.cells (setL m).toArray 35)).alloc (.cells #[.int .u64 0, .int .u64 0, .int .u64 0, .int .u64 0] 35)) (setL m) 35) hb (by simp)
  have hbw : Below w.heap.size w w1 := Below.trans (by go_grown) (hb.mono (by simp; omega))
  have hall : ∀ b ∈ listM m 256, 0 ≤ b ∧ b < 256 := fun b hb => by have := (mem_listM m 256 b).1 hb; omega
  have hfin := foldL_all m
  clear Hl hown hb
  generalize listM m 256 = l at *
  obtain ⟨A, c, rfl, h1, h3⟩ := hrd
  have H3 := Lib.hid h3
  have HA := Lib.hid hall
  have HF := Lib.hid hfin
  clear h3 hall hfin
  go_wp2
  go_loopw [10] (fun i wr => ∃ k : Nat, k ≤ l.length ∧ i = .int .i64 k ∧ Blk wr (w.heap.size + 1) 35 [.int .u64 0, .int .u64 0, .int .u64 0, .int .u64 0] ∧ Blk wr (w.heap.size + 1 + 1) 35 (setL (foldL m (l.take k))) ∧ Below w.heap.size w wr ∧ w1.grownBy wr (some (w.heap.size + 1 + 1))) (fun i _ => l.length - (intOf i).toNat)
  case atStart =>
    refine ⟨0, Nat.zero_le _, rfl, hb1, ?_, hbw, World.grownBy.refl _ _⟩
    rw [List.take_zero, foldL_nil]
    exact hb2
  case round =>
    clear hb1 hb2 hbw
    obtain ⟨k, hk, rfl, hb1, hb2, hbw, hg⟩ := hrel
    by_cases hlt : k < l.length
    · obtain ⟨ad, rfl, hlo, had, hc⟩ := H3.out k l[k] (List.getElem?_eq_getElem hlt)
      have hx := HA.out l[k] (List.getElem_mem hlt)
      have hcr : wr.cell? (ad.add k) = some (.int .u8 l[k]) := (only_cell hg (p := ad.add k) (by rw [add_block]; exact had) (by rw [add_block]; simp at hlo; omega)).trans hc
      obtain ⟨c0, c1, c2, c3, f0, f1, f2, f3⟩ := hb2.four
      have hsn := List.take_succ_eq_append_getElem hlt
      have Hsn := Lib.hid hsn
      clear hc hsn
      generalize hbx : l[k] = b at *
      clear hbx
      have hs : (97 ≤ b ∧ b ≤ 122) ∨ (65 ≤ b ∧ b ≤ 90) ∨ b < 65 ∨ (90 < b ∧ b < 97) ∨ 122 < b := by omega
      rcases hs with hs | hs | hs | hs | hs
      · have HE := Lib.hid (foldL_small m (l.take k) b hs.1 hs.2)
        obtain ⟨hs0, hs1⟩ := hs
        go_wp2_with fail
        refine (put_any _ (b - 32) (by omega) (by omega) _).mono ?_
        rintro e w2 ⟨rfl, hb⟩
        rw [← HE.out]
        have hb2' := hb2.below hb hb2.lt
        have hb1' := hb1.below hb hb1.lt
        have hbw' := hbw.trans (hb.mono hbw.size)
        have hg' := only_below hg hb
        clear c0 c1 c2 c3 f0 f1 f2 f3 hcr hb
        obtain ⟨d0, d1, d2, d3, g0, g1, g2, g3⟩ := hb2'.four
        go_wp2
        go_roundw
        case rel =>
          refine ⟨k + 1, by omega, by go_num, hb1'.far4 (by omega) _ _ _ _, ?_, below_set4 hbw' (by omega) _ _ _ _, only_set4 hg' _ _ _ _⟩
          rw [Hsn.out]
          exact hb2'.set4 _ _ _ _
        case measure => simp [intOf]; omega
      · have HE := Lib.hid (foldL_great m (l.take k) b hs.1 hs.2)
        obtain ⟨hs0, hs1⟩ := hs
        go_wp2_with fail
        refine (put_any _ (b + 32) (by omega) (by omega) _).mono ?_
        rintro e w2 ⟨rfl, hb⟩
        rw [← HE.out]
        have hb2' := hb2.below hb hb2.lt
        have hb1' := hb1.below hb hb1.lt
        have hbw' := hbw.trans (hb.mono hbw.size)
        have hg' := only_below hg hb
        clear c0 c1 c2 c3 f0 f1 f2 f3 hcr hb
        obtain ⟨d0, d1, d2, d3, g0, g1, g2, g3⟩ := hb2'.four
        go_wp2
        go_roundw
        case rel =>
          refine ⟨k + 1, by omega, by go_num, hb1'.far4 (by omega) _ _ _ _, ?_, below_set4 hbw' (by omega) _ _ _ _, only_set4 hg' _ _ _ _⟩
          rw [Hsn.out]
          exact hb2'.set4 _ _ _ _
        case measure => simp [intOf]; omega
      · have HE := Lib.hid (foldL_other m (l.take k) b (by omega) (by omega))
        skip
        go_wp2
        go_roundw
        case rel =>
          refine ⟨k + 1, by omega, by go_num, hb1, ?_, hbw, hg⟩
          rw [Hsn.out, HE.out]
          exact hb2
        case measure => simp [intOf]; omega
      · have HE := Lib.hid (foldL_other m (l.take k) b (by omega) (by omega))
        obtain ⟨hs0, hs1⟩ := hs
        go_wp2
        go_roundw
        case rel =>
          refine ⟨k + 1, by omega, by go_num, hb1, ?_, hbw, hg⟩
          rw [Hsn.out, HE.out]
          exact hb2
        case measure => simp [intOf]; omega
      · have HE := Lib.hid (foldL_other m (l.take k) b (by omega) (by omega))
        skip
        go_wp2
        go_roundw
        case rel =>
          refine ⟨k + 1, by omega, by go_num, hb1, ?_, hbw, hg⟩
          rw [Hsn.out, HE.out]
          exact hb2
        case measure => simp [intOf]; omega
    · obtain rfl : k = l.length := by omega
      obtain ⟨c0, c1, c2, c3, _, _, _, _⟩ := hb2.four
      obtain ⟨_, _, _, _, f0, f1, f2, f3⟩ := hb1.four
      go_wp2
      refine ret_set (b := w.heap.size + 1) rfl rfl (hb1.set4 _ _ _ _) rfl ⟨?_, below_set4 hbw (by omega) _ _ _ _⟩
      exact ret_congr (setV_congr HF.out)
end Go.Proofs.YtanimknpnniabaaDoor
