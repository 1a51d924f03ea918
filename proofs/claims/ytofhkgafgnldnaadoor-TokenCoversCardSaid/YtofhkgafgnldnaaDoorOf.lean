/- bytes.Of, Range, List and their kin: loops over put and Has. -/
import Derived.Test.YtofhkgafgnldnaaDoorRows
import Derived.Test.YtofhkgafgnldnaaDoorSets
import Derived.Test.YtofhkgafgnldnaaDoorMem
import Derived.Test.YtofhkgafgnldnaaDoorBytes
import Derived.WalkKit
import Derived.WalkSpells
import Derived.WalkLawsBesides
import Derived.Lib.Hide
import Derived.Handy
import Derived.StillTailTactics
import Derived.Deep.RegionWith
import Derived.Deep.QuietTactic
import Derived.BigQuiet
import Derived.Deep.RegionHeld3
import Derived.Deep.RegionLaw
namespace Go.Proofs.YtofhkgafgnldnaaDoor
open Go.RowKit
/-- The set of the numbers of a list. -/
def ofM (l : List Int) (x : Nat) : Bool := decide ((x : Int) ∈ l)
theorem ofM_snoc (l : List Int) (b : Int) : ofM (l ++ [b]) = putM (ofM l) b := by
  funext x
  simp only [ofM, putM, List.mem_append, List.mem_singleton, Bool.decide_or]
theorem ofM_nil : ofM [] = fun _ => false := by funext x; simp [ofM]
set_option maxHeartbeats 400000 in
theorem of_any (l : List Int) (v : Value) (w : World) (hv : Rd w .u8 v l) (hl : ∀ x ∈ l, 0 ≤ x ∧ x < 256) :
    Calls Tryd.prog 29 #[v] w fun e w' => e = .returned (setV (ofM l)) ∧ Below w.heap.size w w' := by
  obtain ⟨A, c, rfl, h1, h2, h3⟩ := hv
  have H3 := Lib.hid h3
  clear h3
  have HL := Lib.hid hl
  clear hl
  go_enter Tryd.func29, Tryd.ntmps29
  go_wp2
  go_loopw [8] (fun i wr => ∃ k : Nat, k ≤ l.length ∧ i = .int .i64 k ∧ Blk wr w.heap.size 32 (setL (fun _ => false)) ∧ Blk wr (w.heap.size + 1) 32 (setL (ofM (l.take k))) ∧ Below w.heap.size w wr) (fun i _ => l.length - (intOf i).toNat)
  case atStart =>
    refine ⟨0, Nat.zero_le _, rfl, ?_, ?_, by go_grown⟩
    · rw [setL, word_none, word_none, word_none, word_none]
      exact (Blk.new w _ _).alloc _
    · rw [List.take_zero, ofM_nil, setL, word_none, word_none, word_none, word_none]
      exact blk_new2 w _ _ _
  case round =>
    obtain ⟨k, hk, rfl, hb0, hb1, hbw⟩ := hrel
    by_cases hlt : k < l.length
    · obtain ⟨ad, rfl, had, hc⟩ := H3.out k l[k] (List.getElem?_eq_getElem hlt)
      have hx := HL.out l[k] (List.getElem_mem hlt)
      have hcr : wr.cell? (ad.add k) = some (.int .u8 l[k]) := (hbw.cell (p := ad.add k) (by unfold Addr.add; split <;> exact had)).trans hc
      obtain ⟨c0, c1, c2, c3, f0, f1, f2, f3⟩ := hb1.four
      clear hc
      go_wp2_with fail
      refine (put_any _ _ hx.1 hx.2 _).mono ?_
      rintro e w1 ⟨rfl, hb⟩
      have hb1' := hb1.below hb hb1.lt
      have hb0' := hb0.below hb hb0.lt
      have hbw' := hbw.trans (hb.mono hbw.size)
      obtain ⟨d0, d1, d2, d3, g0, g1, g2, g3⟩ := hb1'.four
      clear c0 c1 c2 c3 f0 f1 f2 f3
      go_wp2
      go_roundw
      case rel =>
        refine ⟨k + 1, by omega, by go_num, hb0'.far4 (by omega) _ _ _ _, ?_, below_set4 hbw' (by omega) _ _ _ _⟩
        rw [List.take_succ_eq_append_getElem hlt, ofM_snoc]
        exact hb1'.set4 _ _ _ _
      case measure => simp [intOf]; omega
    · obtain rfl : k = l.length := by omega
      obtain ⟨c0, c1, c2, c3, _, _, _, _⟩ := hb1.four
      obtain ⟨_, _, _, _, f0, f1, f2, f3⟩ := hb0.four
      go_wp2
      refine ret_set (b := w.heap.size) rfl rfl (hb0.set4 _ _ _ _) rfl ⟨?_, below_set4 hbw (Nat.le_refl _) _ _ _ _⟩
      rfl
/-- The bytes of a range. -/
def rangeM (lo hi : Int) (x : Nat) : Bool := decide (lo ≤ (x : Int) ∧ (x : Int) ≤ hi)
theorem rangeM_snoc (lo n : Int) (h : lo ≤ n) : putM (rangeM lo (n - 1)) n = rangeM lo n := by
  funext x
  simp only [rangeM, putM, ← Bool.decide_or, decide_eq_decide]
  omega
theorem rangeM_nil (lo hi : Int) (h : hi < lo) : rangeM lo hi = fun _ => false := by
  funext x
  simp only [rangeM, decide_eq_false_iff_not]
  omega
set_option maxHeartbeats 400000 in
theorem range_any (lo hi : Int) (hlo : 0 ≤ lo ∧ lo < 256) (hhi : 0 ≤ hi ∧ hi < 256) (w : World) :
    Calls Tryd.prog 48 #[.int .u8 lo, .int .u8 hi] w fun e w' => e = .returned (setV (rangeM lo hi)) ∧ Below w.heap.size w w' := by
  go_enter Tryd.func48, Tryd.ntmps48
  go_wp2
  go_loopw [6] (fun i wr => ∃ n : Int, lo ≤ n ∧ (n ≤ hi + 1 ∨ n = lo) ∧ i = .int .i64 n ∧ Blk wr w.heap.size 32 (setL (fun _ => false)) ∧ Blk wr (w.heap.size + 1) 32 (setL (rangeM lo (n - 1))) ∧ Below w.heap.size w wr) (fun i _ => (hi + 1 - intOf i).toNat)
  case atStart =>
    refine ⟨lo, Int.le_refl _, .inr rfl, rfl, ?_, ?_, by go_grown⟩
    · rw [setL, word_none, word_none, word_none, word_none]
      exact (Blk.new w _ _).alloc _
    · rw [rangeM_nil _ _ (by omega), setL, word_none, word_none, word_none, word_none]
      exact blk_new2 w _ _ _
  case round =>
    obtain ⟨n, hn, hn2, rfl, hb0, hb1, hbw⟩ := hrel
    by_cases hlt : n ≤ hi
    · obtain ⟨c0, c1, c2, c3, f0, f1, f2, f3⟩ := hb1.four
      have hnn : 0 ≤ n := by omega
      go_wp2_with fail
      refine (put_any _ n (by omega) (by omega) _).mono ?_
      rintro e w1 ⟨rfl, hb⟩
      have hb1' := hb1.below hb hb1.lt
      have hb0' := hb0.below hb hb0.lt
      have hbw' := hbw.trans (hb.mono hbw.size)
      obtain ⟨d0, d1, d2, d3, g0, g1, g2, g3⟩ := hb1'.four
      clear c0 c1 c2 c3 f0 f1 f2 f3
      go_wp2
      go_roundw
      case rel =>
        refine ⟨n + 1, by omega, .inl (by omega), by go_num, hb0'.far4 (by omega) _ _ _ _, ?_, below_set4 hbw' (by omega) _ _ _ _⟩
        rw [show n + 1 - 1 = n by omega, ← rangeM_snoc lo n hn]
        exact hb1'.set4 _ _ _ _
      case measure => simp [intOf]; omega
    · have e : Hid (rangeM lo (n - 1) = rangeM lo hi) := by
        rcases hn2 with h | h
        · rw [show n - 1 = hi by omega]; rfl
        · show rangeM lo (n - 1) = rangeM lo hi
          rw [rangeM_nil _ _ (by omega), rangeM_nil _ _ (by omega)]
      obtain ⟨c0, c1, c2, c3, _, _, _, _⟩ := hb1.four
      obtain ⟨_, _, _, _, f0, f1, f2, f3⟩ := hb0.four
      go_wp2
      refine ret_set (b := w.heap.size) rfl rfl (hb0.set4 _ _ _ _) rfl ⟨?_, below_set4 hbw (Nat.le_refl _) _ _ _ _⟩
      rw [← e.out]
theorem not_any (m : Nat → Bool) (w : World) :
    Calls Tryd.prog 28 #[setV m] w fun e w' => e = .returned (setV (fun x => !m x)) ∧ Below w.heap.size w w' := by
  unfold setV
  go_enter Tryd.func28, Tryd.ntmps28
  go_wp2
  refine wp_loop_rounds 5 ?_
  rw [rounds_succ]; go_wp2
  rw [rounds_succ]; go_wp2
  rw [rounds_succ]; go_wp2
  rw [rounds_succ]; go_wp2
  rw [rounds_succ]; go_wp2
  go_returns
  exact ⟨by simp only [not_word], by go_grown⟩
end Go.Proofs.YtofhkgafgnldnaaDoor
