/- bytes.Union, Meet, Minus, Within. -/
import Derived.Test.YtofhkgafgnldnaaDoorRows
import Derived.Test.YtofhkgafgnldnaaDoorSets
import Derived.Test.YtofhkgafgnldnaaDoorMem
import Derived.Test.YtofhkgafgnldnaaDoorBytes
import Derived.Test.YtofhkgafgnldnaaDoorEach
import Derived.WalkKit
import Derived.WalkSpells
import Derived.WalkLawsBesides
import Derived.Lib.Hide
import Derived.Handy
import Derived.StillTailTactics
import Derived.Deep.RegionWith
import Derived.Deep.QuietTactic
import Derived.BigQuiet
import Derived.Deep.RegionHeld3
import Derived.Deep.RegionLaw
namespace Go.Proofs.YtofhkgafgnldnaaDoor
open Go.RowKit
attribute [local go_sem] eq_words eqB_words eqB_zero
/-- The set of what some of the sets have. -/
def anyM (l : List (Nat → Bool)) (x : Nat) : Bool := l.any (· x)
theorem anyM_snoc (l : List (Nat → Bool)) (m : Nat → Bool) : anyM (l ++ [m]) = fun x => anyM l x || m x := by
  funext x
  simp [anyM]
set_option maxHeartbeats 400000 in
theorem union_any (l : List (Nat → Bool)) (v : Value) (w : World) (hv : RdS w v l) :
    Calls Tryd.prog 36 #[v] w fun e w' => e = .returned (setV (anyM l)) ∧ Below w.heap.size w w' := by
  obtain ⟨A, c, rfl, h1, h2, h3⟩ := hv
  have H3 := Lib.hid h3
  clear h3
  go_enter Tryd.func36, Tryd.ntmps36
  go_wp2
  go_loopw [8] (fun i wr => ∃ k : Nat, k ≤ l.length ∧ i = .int .i64 k ∧ Blk wr w.heap.size 32 (setL (fun _ => false)) ∧ Blk wr (w.heap.size + 1) 32 (setL (anyM (l.take k))) ∧ Below w.heap.size w wr) (fun i _ => l.length - (intOf i).toNat)
  case atStart =>
    refine ⟨0, Nat.zero_le _, rfl, ?_, ?_, by go_grown⟩
    · rw [setL, word_none, word_none, word_none, word_none]
      exact (Blk.new w _ _).alloc _
    · rw [show anyM (l.take 0) = fun _ => false from rfl, setL, word_none, word_none, word_none, word_none]
      exact blk_new2 w _ _ _
  case round =>
    obtain ⟨k, hk, rfl, hb0, hb1, hbw⟩ := hrel
    by_cases hlt : k < l.length
    · obtain ⟨ad, rfl, had, e0, e1, e2, e3⟩ := H3.out k l[k] (List.getElem?_eq_getElem hlt)
      have hl : (ad.add (k * 4)).block < w.heap.size := by rw [add_block]; exact had
      have hb' : ∀ o, wr.cell? ⟨(ad.add (k * 4)).block, o, none⟩ = w.cell? ⟨(ad.add (k * 4)).block, o, none⟩ := fun o => hbw.cell (p := ⟨(ad.add (k * 4)).block, o, none⟩) hl
      have d0 := (hbw.cell hl).trans e0
      have d1 := (hb' _).trans e1
      have d2 := (hb' _).trans e2
      have d3 := (hb' _).trans e3
      clear e0 e1 e2 e3 hb'
      obtain ⟨c0, c1, c2, c3, f0, f1, f2, f3⟩ := hb1.four
      have hz := hb1.lt
      go_wp2_with fail
      refine (each_or _ _ _).mono ?_
      rintro e w1 ⟨rfl, hb⟩
      simp only [or_word]
      have hb1' : Blk w1 (w.heap.size + 1) 32 _ := (hb1.alloc _).below hb (by simp; omega)
      have hb0' : Blk w1 w.heap.size 32 _ := (hb0.alloc _).below hb (by simp; omega)
      have hbw' : Below w.heap.size w w1 := (hbw.alloc (by omega) _).trans (hb.mono (by simp; omega))
      clear hb c0 c1 c2 c3 f0 f1 f2 f3 d0 d1 d2 d3
      obtain ⟨d0, d1, d2, d3, g0, g1, g2, g3⟩ := hb1'.four
      go_wp2
      go_roundw
      case rel =>
        refine ⟨k + 1, by omega, by go_num, hb0'.far4 (by omega) _ _ _ _, ?_, below_set4 hbw' (by omega) _ _ _ _⟩
        rw [List.take_succ_eq_append_getElem hlt, anyM_snoc]
        exact hb1'.set4 _ _ _ _
      case measure => simp [intOf]; omega
    · obtain rfl : k = l.length := by omega
      obtain ⟨c0, c1, c2, c3, _, _, _, _⟩ := hb1.four
      obtain ⟨_, _, _, _, f0, f1, f2, f3⟩ := hb0.four
      go_wp2
      refine ret_set (b := w.heap.size) rfl rfl (hb0.set4 _ _ _ _) rfl ⟨?_, below_set4 hbw (Nat.le_refl _) _ _ _ _⟩
      rfl
end Go.Proofs.YtofhkgafgnldnaaDoor
