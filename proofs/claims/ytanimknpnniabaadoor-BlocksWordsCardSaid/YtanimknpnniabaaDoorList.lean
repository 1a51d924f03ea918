/- bytes.List, Count, Fold. -/
import Derived.Test.YtanimknpnniabaaDoorRows
import Derived.Test.YtanimknpnniabaaDoorSets
import Derived.Test.YtanimknpnniabaaDoorMem
import Derived.Test.YtanimknpnniabaaDoorBytes
import Derived.Test.YtanimknpnniabaaDoorOf
import Derived.WalkKit
import Derived.WalkSpells
import Derived.WalkLawsBesides
import Derived.Lib.Hide
import Derived.Handy
import Derived.StillTailTactics
import Derived.Deep.RegionWith
import Derived.Deep.QuietTactic
import Derived.BigQuiet
import Derived.Deep.RegionHeld3
import Derived.Deep.RegionLaw
namespace Go.Proofs.YtanimknpnniabaaDoor
open Go.RowKit
set_option maxRecDepth 100000 in
set_option maxHeartbeats 400000 in
theorem list_any (m : Nat → Bool) (w : World) :
    Calls Tryd.prog 23 #[setV m] w fun e w' => ∃ v, e = .returned v ∧ w'.ownsRow w.heap.size 5 1 v (listM m 256).length ((listM m 256).map (.int .u8)) ∧ Below w.heap.size w w' := by
  unfold setV
  go_enter Tryd.func23, Tryd.ntmps23
  go_wp2
  go_loopw [3, 5] (fun v i wr => ∃ k : Nat, k ≤ 256 ∧ i = .int .i64 k ∧ Blk wr w.heap.size 35 (setL m) ∧ Below w.heap.size w wr ∧ wr.ownsRow (w.heap.size + 1) 5 1 v (listM m k).length ((listM m k).map (.int .u8))) (fun _ i _ => 256 - (intOf i).toNat)
  case atStart =>
    refine ⟨0, by omega, rfl, Blk.new w _ _, by go_grown, ?_⟩
    rw [show listM m 0 = [] from rfl]
    exact World.ownsRow_nil _ _ _ _
  case round =>
    obtain ⟨k, hk, rfl, hb0, hbw, hown⟩ := hrel
    by_cases hlt : k < 256
    · obtain ⟨c0, c1, c2, c3, _, _, _, _⟩ := hb0.four
      have hz := hb0.lt
      have hlen := listM_length m k
      cases hm : m k with
      | true =>
        have Hm := Lib.hid hm
        clear hm
        go_wp2_with fail
        refine (has_any _ _ (by omega) (by omega) _).mono ?_
        rintro e w1 ⟨rfl, hb⟩
        rw [Int.toNat_natCast, Hm.out]
        have hown1 := own_below hown hb
        have hb1 := hb0.below hb hz
        have hbw1 := hbw.trans (hb.mono hbw.size)
        have hz1 := hb1.lt
        clear hown hb0 hbw hb c0 c1 c2 c3
        go_wp2_with (at_builtin; refine append_one rfl (.tmp 12) (.tmp 15) 39 rfl (w.heap.size + 1) 5 1 1 elem_u8 u3 _ _ rfl hown1 [.int .u8 k] rfl rfl (one_int _ _) ?h1 ?h2 ?h3 ?h4; (case h1 => omega); (case h2 => omega); (case h3 => omega); intro v2 w2 hown2 hb2)
        go_roundw
        case rel =>
          refine ⟨k + 1, by omega, by go_num, hb1.below hb2 (by omega), hbw1.trans (hb2.mono (by omega)), ?_⟩
          rw [listM_succ, if_pos Hm.out]
          simpa using hown2
        case measure => simp [intOf]; omega
      | false =>
        have Hm := Lib.hid hm
        clear hm
        go_wp2_with fail
        refine (has_any _ _ (by omega) (by omega) _).mono ?_
        rintro e w1 ⟨rfl, hb⟩
        rw [Int.toNat_natCast, Hm.out]
        go_wp2
        go_roundw
        case rel =>
          refine ⟨k + 1, by omega, by go_num, hb0.below hb hz, hbw.trans (hb.mono hbw.size), ?_⟩
          rw [listM_succ, Hm.out, if_neg (by simp)]
          exact own_below hown hb
        case measure => simp [intOf]; omega
    · obtain rfl : k = 256 := by omega
      clear hlt hk
      have Hown := Lib.hid hown
      clear hown
      go_wp2
      go_returns
      exact ⟨u3, rfl, own_base Hown.out (by omega), hbw⟩
end Go.Proofs.YtanimknpnniabaaDoor
