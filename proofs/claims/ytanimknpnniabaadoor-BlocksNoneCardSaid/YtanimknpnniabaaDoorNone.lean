/- BlocksNone: of no blocks nothing comes. -/
import Derived.Test.YtanimknpnniabaaDoorAwake04
import Derived.Test.YtanimknpnniabaaDoorOps2
namespace Go.Proofs.YtanimknpnniabaaDoor
open Go.RowKit
attribute [local go_sem] eq_words eqB_words eqB_zero
set_option maxRecDepth 100000 in
set_option maxHeartbeats 2000000 in
theorem none_law (b i : Int) (m : Nat → Bool) (w : World) (hT : TabOk w) :
    Calls Tryd.prog 8 #[.int .u8 b, .int .i64 i, setV m] w fun e w' => e = .returned (.bool true) ∧ Below w.heap.size w w' := by
  have HT := Lib.hid hT
  clear hT
  have hfv : firstV (fun _ => false) = .tuple #[.int .u8 0, .bool false] := by
    unfold firstV
    rw [firstM_none (fun _ _ => rfl)]
    rfl
  unfold setV
  go_enter Tryd.func8, Tryd.ntmps8
  go_wp2_with fail
  have hB := Blk.new w (setL m) 35
  have hbw : Below w.heap.size w (w.alloc (.cells (setL m).toArray 35)) := by go_grown
  refine (least_nil i _ (HT.out.below hbw)).mono ?_
  rintro e w1 ⟨rfl, hb⟩
  replace hB := hB.below hb hB.lt
  replace hbw := hbw.trans (hb.mono hbw.size)
  clear hb
  rw [hfv]
  obtain ⟨c0, c1, c2, c3, _, _, _, _⟩ := hB.four
  go_wp2_with fail
  refine (in_nil m _).mono ?_
  rintro e w2 ⟨rfl, hb⟩
  clear c0 c1 c2 c3
  replace hB := hB.below hb hB.lt
  replace hbw := hbw.trans (hb.mono hbw.size)
  clear hb
  go_wp2_with fail
  refine (word_nil _).mono ?_
  rintro e w3 ⟨⟨u, rfl⟩, hb⟩
  replace hB := hB.below hb hB.lt
  replace hbw := hbw.trans (hb.mono hbw.size)
  clear hb
  go_wp2_with fail
  refine (count_nil _).mono ?_
  rintro e w4 ⟨rfl, hb⟩
  replace hB := hB.below hb hB.lt
  replace hbw := hbw.trans (hb.mono hbw.size)
  clear hb
  go_wp2_with fail
  refine (ofm_nil _ _).mono ?_
  rintro e w5 ⟨rfl, hb⟩
  replace hB := hB.below hb hB.lt
  replace hbw := hbw.trans (hb.mono hbw.size)
  clear hb
  go_wp2_with fail
  refine (set_nil _ _).mono ?_
  rintro e w6 ⟨rfl, hb⟩
  replace hB := hB.below hb hB.lt
  replace hbw := hbw.trans (hb.mono hbw.size)
  clear hb
  rw [setV_none]
  obtain ⟨c0, c1, c2, c3, _, _, _, _⟩ := hB.four
  go_wp2_with fail
  refine (more_nil m _).mono ?_
  rintro e w7 ⟨rfl, hb⟩
  clear c0 c1 c2 c3
  replace hB := hB.below hb hB.lt
  replace hbw := hbw.trans (hb.mono hbw.size)
  clear hb
  go_wp2_with fail
  refine (names_nil _ _).mono ?_
  rintro e w8 ⟨rfl, hb⟩
  replace hbw := hbw.trans (hb.mono hbw.size)
  clear hb hB
  go_wp2_with fail
  refine (awake04_any _ (HT.out.below hbw)).mono ?_
  rintro e w9 ⟨rfl, hb⟩
  replace hbw := hbw.trans (hb.mono hbw.size)
  go_wp2
  go_returns
  exact ⟨rfl, hbw⟩
end Go.Proofs.YtanimknpnniabaaDoor
