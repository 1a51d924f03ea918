/- PrinterBack: the walk. -/
import Derived.Test.YtpiimcbbgalhfaaGreatDoorCv
import Derived.Test.YtpiimcbbgalhfaaGreatDoorCs
import Derived.Test.YtpiimcbbgalhfaaGreatDoorCa
import Derived.Test.YtpiimcbbgalhfaaGreatDoorCt
namespace Go.Proofs.YtpiimcbbgalhfaaGreatDoor
set_option maxRecDepth 100000
open Go.RowKit
theorem print_good {w : World} {S : Nat → Prop} {n : Tree} {b z : Nat} (h : TreeAt w S n b) (hT : TabP w) (hg : TreeOk n 200 z) (hz : z ≤ 1000000000) (hle : (nodeP n []).length ≤ 1048576) :
    Calls Tryz.prog 20 #[ptrV b] w fun v w' => v = .returned (.tuple #[.string ⟨(nodeP n []).toArray⟩, .int .i64 0]) ∧ Below w.heap.size w w' := by
  refine (Print_at h hT hg.rng (by have := hg.deep; omega) (fun hf => prok_of count_ok n hf) (by have := hg.size; omega)).mono ?_
  rintro v w' ⟨hp, hb⟩
  unfold PrintIs at hp
  rw [if_pos (by rw [hg.fit, decide_eq_true (show deepT n ≤ 200 from hg.deep)]; rfl), if_neg (by omega)] at hp
  exact ⟨hp, hb⟩
theorem parseB_low {s : ByteArray} (h : s.size ≤ 1048576) : parseB s = parseM s := by unfold parseB; rw [if_neg (by omega)]
set_option maxHeartbeats 8000000 in
theorem back_law (p : ByteArray) (w : World) (hT : TabP w) :
    Calls Tryz.prog 4 #[.string p] w fun e w' => e = .returned (.bool true) ∧ Below w.heap.size w w' := by
  have HT := Lib.hid hT
  clear hT
  by_cases hp : 300 < p.size
  · go_enter Tryz.func4, Tryz.ntmps4
    go_wp2_with fail
    refine (awake07_at _ HT.out).mono ?_
    rintro v w1 ⟨rfl, hb⟩
    go_wp2
    go_returns
    exact ⟨rfl, hb⟩
  have HPB := Lib.hid (parseB_low (s := p) (by omega))
  go_enter Tryz.func4, Tryz.ntmps4
  go_wp2_with fail
  refine (sparse_at p w HT.out.tab).mono ?_
  rintro v w2 ⟨hpi, hb1⟩
  have HT2 := Lib.hid (HT.out.below hb1)
  have HB2 := Lib.hid hb1
  clear hb1
  unfold ParseIs at hpi
  rw [HPB.out] at hpi
  cases hpm : parseM p with
  | err p1 e1 =>
    rw [hpm] at hpi
    obtain ⟨rfl, he1⟩ := hpi
    clear hpm
    have hq : (((e1 : Nat) : Int) != 0) = true := by rw [bne_iff_ne]; omega
    go_wp2_with fail
    refine (awake07_at _ HT2.out).mono ?_
    rintro v w3 ⟨rfl, hb⟩
    go_wp2
    go_returns
    exact ⟨rfl, HB2.out.trans (hb.mono HB2.out.size)⟩
  | ok t1 j1 =>
    rw [hpm] at hpi
    obtain ⟨b1, rfl, htr1⟩ := hpi
    obtain ⟨hle, t2, k2, hp2, hsm, hgr, hsz, htx⟩ := back_plain (by omega) hpm
    have hg1 := parse_good hpm
    have hg2 := parse_good hp2
    have hs1 : sizeT t1 ≤ 1000000 := by have := hg1.size; omega
    have hs2 : sizeT t2 ≤ 1000000 := by omega
    have hS : ({ data := (nodeP t1 []).toArray } : ByteArray).size = (nodeP t1 []).length := by simp [ByteArray.size]
    have HPR1 := Lib.hid (fun (W : World) (hW : Below w2.heap.size w2 W) => print_good (htr1.under hW) (HT2.out.below hW) hg1 (by omega) hle)
    have hpb2 := parseB_low (s := ⟨(nodeP t1 []).toArray⟩) (by rw [hS]; exact hle)
    rw [hp2] at hpb2
    have HPR2 := Lib.hid (fun (W : World) (S : Nat → Prop) (b : Nat) (h : TreeAt W S t2 b) (hTW : TabP W) => print_good h hTW hg2 (by rw [hS]; omega) (by rw [htx]; exact hle))
    rw [htx] at HPR2
    have HTR := Lib.hid htr1
    have HSM := Lib.hid hsm
    have HGR := Lib.hid hgr
    have HS1 := Lib.hid hs1
    have HS2 := Lib.hid hs2
    clear hp2 htx hsm hgr hsz hg1 hg2 hs1 hs2 hS hle hpm htr1
    generalize ({ data := (nodeP t1 []).toArray } : ByteArray) = S at *
    have HPB2 := Lib.hid hpb2
    clear hpb2
    go_wp2_with fail
    refine (HPR1.out w2 (Below.refl _ _)).mono ?_
    rintro v w3 ⟨rfl, hb3⟩
    have HT3 := Lib.hid (HT2.out.below hb3)
    have HB3 := Lib.hid (HB2.out.trans (hb3.mono HB2.out.size))
    have HTR3 := Lib.hid (HTR.out.under hb3)
    clear hb3
    go_wp2_with fail
    refine (sparse_at S w3 HT3.out.tab).mono ?_
    rintro v w4 ⟨hpi2, hb4⟩
    have HT4 := Lib.hid (HT3.out.below hb4)
    have HB4 := Lib.hid (HB3.out.trans (hb4.mono HB3.out.size))
    have HTR4 := Lib.hid (HTR3.out.under hb4)
    clear hb4
    unfold ParseIs at hpi2
    rw [HPB2.out] at hpi2
    obtain ⟨b2, rfl, htr2⟩ := hpi2
    have HU4 := Lib.hid htr2
    clear htr2
    go_wp2_with fail
    refine (HPR2.out w4 _ b2 HU4.out HT4.out).mono ?_
    rintro v w5 ⟨rfl, hb5⟩
    have HT5 := Lib.hid (HT4.out.below hb5)
    have HB5 := Lib.hid (HB4.out.trans (hb5.mono HB4.out.size))
    have HTR5 := Lib.hid (HTR4.out.under hb5)
    have HU5 := Lib.hid (HU4.out.under hb5)
    clear hb5
    go_wp2_with fail
    refine (same_at HTR5.out t2 b2 _ HU5.out w5 (Below.refl _ _)).mono ?_
    rintro v w6 ⟨rfl, q6, rfl⟩
    rw [HSM.out]
    have hb6 := below_drewN (Below.refl w5.heap.size w5) q6
    have HT6 := Lib.hid (HT5.out.below hb6)
    have HB6 := Lib.hid (HB5.out.trans (hb6.mono HB5.out.size))
    have HTR6 := Lib.hid (HTR5.out.under hb6)
    have HU6 := Lib.hid (HU5.out.under hb6)
    clear hb6
    generalize w5.drewN q6 = w6 at *
    go_wp2_with fail
    refine (sgroups_at HTR6.out HS1.out).mono ?_
    rintro v w7 ⟨rfl, hb7⟩
    have HT7 := Lib.hid (HT6.out.below hb7)
    have HB7 := Lib.hid (HB6.out.trans (hb7.mono HB6.out.size))
    have HU7 := Lib.hid (HU6.out.under hb7)
    clear hb7
    go_wp2_with fail
    refine (sgroups_at HU7.out HS2.out).mono ?_
    rintro v w8 ⟨rfl, hb8⟩
    have HT8 := Lib.hid (HT7.out.below hb8)
    have HB8 := Lib.hid (HB7.out.trans (hb8.mono HB7.out.size))
    clear hb8
    rw [HGR.out]
    go_wp2_with fail
    refine (awake07_at _ HT8.out).mono ?_
    rintro v w9 ⟨rfl, hb9⟩
    go_wp2
    go_returns
    exact ⟨rfl, HB8.out.trans (hb9.mono HB8.out.size)⟩
end Go.Proofs.YtpiimcbbgalhfaaGreatDoor
