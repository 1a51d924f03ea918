/- number: a count's digits. -/
import Derived.Test.YtofhkgafgnldnaaDoorClass
namespace Go.Proofs.YtofhkgafgnldnaaDoor
open Go.RowKit
/-- What a reading of a number leaves. -/
def NumIs (r : Res Nat) (n j e : Nat) : Prop := match r with
  | .ok n' j' => n = n' ∧ j = j' ∧ e = 0
  | .err j' e' => j = j' ∧ e = e' ∧ e' ≠ 0
theorem digit_byte {s : ByteArray} {i d : Nat} (h : digitAt (bytesN s) i = some d) : ∃ hi : i < s.size, (s[i]'hi).toNat = 48 + d ∧ d ≤ 9 := by
  unfold digitAt at h
  cases hc : (bytesN s)[i]? with
  | none => rw [hc] at h; cases h
  | some c =>
    obtain ⟨hi, rfl⟩ := bytesN_some hc
    rw [hc] at h
    simp only [Option.bind_some] at h
    split at h
    · injection h with h
      exact ⟨hi, by omega, by omega⟩
    · cases h
set_option maxRecDepth 100000 in
set_option maxHeartbeats 2000000 in
theorem number_none {w : World} {b : Nat} {s : ByteArray} {i : Nat} {lv : Value} (h : Rdr w b s i 0 lv) (hd : digitAt (bytesN s) i = none) :
    Calls Tryd.prog 52 #[.pointer (some ⟨b, 0, none⟩)] w fun v w' => v = .returned (.int .i64 0) ∧ Rdr w' b s i 4 lv ∧ w.grownBy w' (some b) := by
  have hsz := h.size
  have hle := h.le
  have HD := Lib.hid (show (digitAt (bytesN s) i).isSome = false by rw [hd]; rfl)
  clear hd
  obtain ⟨_, c1, _, _, f1, _, _⟩ := h.cells
  go_enter Tryd.func52, Tryd.ntmps52
  go_wp2_with fail
  refine (digits_at h).mono ?_
  rintro v w0 ⟨rfl, hb⟩
  rw [HD.out]
  have hr := h.below hb
  have g := only_of b hb
  clear c1 f1 hb
  obtain ⟨_, c1, _, _, f1, _, _⟩ := hr.cells
  go_wp2_with fail
  go_still_tail 8, (by kernel_rfl)
  change wpList _ _ _ _ _ w0.drew
  go_wp2_with fail
  refine (fail_at (k := 4) (hr.below (Below.refl _ _).drew) (by omega)).mono ?_
  rintro v w1 ⟨⟨u, rfl⟩, hr1, hg⟩
  replace g := only_trans g (only_trans (only_of b (Below.refl w0.heap.size _).drew) hg)
  clear c1 f1 hg hr
  go_wp2
  go_loopw [4] (fun nv wr => nv = .int .i64 0 ∧ Rdr wr b s i 4 lv ∧ w.grownBy wr (some b)) (fun _ _ => 0)
  case atStart => exact ⟨rfl, hr1, g⟩
  case round =>
    obtain ⟨rfl, hr, g⟩ := hrel
    go_wp2_with fail
    refine (bad_at hr).mono ?_
    rintro v w0 ⟨rfl, hb⟩
    rw [show decide ((4 : Nat) ≠ 0) = true from rfl]
    go_wp2
    go_returns
    exact ⟨rfl, hr.below hb, only_below g hb⟩
set_option maxRecDepth 100000 in
set_option maxHeartbeats 2000000 in
theorem number_some {w : World} {b : Nat} {s : ByteArray} {i d0 : Nat} {lv : Value} (h : Rdr w b s i 0 lv) (hd : digitAt (bytesN s) i = some d0) :
    Calls Tryd.prog 52 #[.pointer (some ⟨b, 0, none⟩)] w fun v w' => ∃ n j e, v = .returned (.int .i64 ((n : Nat) : Int)) ∧ Rdr w' b s j e lv ∧ w.grownBy w' (some b) ∧ NumIs (numberM (bytesN s) i) n j e := by
  have hsz := h.size
  have hle := h.le
  have HD := Lib.hid (show (digitAt (bytesN s) i).isSome = true by rw [hd]; rfl)
  have HN := Lib.hid (show numberM (bytesN s) i = if (numFrom (bytesN s) 0 i).1 > 1000 then .err i 5 else .ok (numFrom (bytesN s) 0 i).1 (numFrom (bytesN s) 0 i).2 by unfold numberM; rw [hd]; rfl)
  clear hd
  obtain ⟨_, c1, _, _, f1, _, _⟩ := h.cells
  go_enter Tryd.func52, Tryd.ntmps52
  go_wp2_with fail
  refine (digits_at h).mono ?_
  rintro v w0 ⟨rfl, hb⟩
  rw [HD.out]
  have hr := h.below hb
  have g := only_of b hb
  clear c1 f1 hb
  go_wp2
  go_loopw [4] (fun nv wr => ∃ v j : Nat, nv = .int .i64 ((min v 1001 : Nat) : Int) ∧ Rdr wr b s j 0 lv ∧ w.grownBy wr (some b) ∧ numFrom (bytesN s) 0 i = numFrom (bytesN s) v j) (fun _ wr => s.size - posOf wr b)
  case atStart => exact ⟨0, i, rfl, hr, g, rfl⟩
  case round =>
    clear hr g
    obtain ⟨v, j, rfl, hr, g, hnf⟩ := hrel
    have HP := Lib.hid hr.pos
    have HF := Lib.hid hnf
    clear hnf
    have hmn : min v 1001 ≤ 1001 := Nat.min_le_right _ _
    generalize hmv : min v 1001 = n at *
    have HM := Lib.hid hmv
    clear hmv
    go_wp2_with fail
    refine (bad_at hr).mono ?_
    rintro v0 w1 ⟨rfl, hb⟩
    rw [show decide ((0 : Nat) ≠ 0) = false from rfl]
    replace hr := hr.below hb
    replace g := only_below g hb
    clear hb
    go_wp2_with fail
    refine (digits_at hr).mono ?_
    rintro v0 w2 ⟨rfl, hb⟩
    replace hr := hr.below hb
    replace g := only_below g hb
    clear hb
    have hjle := hr.le
    cases hdj : digitAt (bytesN s) j with
    | some d =>
      obtain ⟨hj, hby, hd9⟩ := digit_byte hdj
      have HDJ := Lib.hid (numFrom_next v hdj)
      clear hdj
      dsimp only [Option.isSome]
      have hrd := hr.below (Below.refl _ _).drew
      obtain ⟨c0, c1, _, _, f1, _, _⟩ := hrd.cells
      have hby' : (((s[j]'hj).toNat : Nat) : Int) = 48 + ((d : Nat) : Int) := by omega
      go_wp2_with fail
      go_region
      replace g := only_below g (Below.refl _ _).drew
      clear hr
      generalize w2.drew = wd at *
      go_wp2
      obtain ⟨hri, gi⟩ := hrd.incv (v := ((j : Nat) : Int) + 1) (by omega) hj
      have HRI := Lib.hid hri
      have HPI := Lib.hid hri.pos
      have gw := only_trans g gi
      clear hri
      go_roundw
      case rel =>
        refine ⟨10 * v + d, j + 1, ?_, HRI.out, gw, HF.out.trans HDJ.out⟩
        have := HM.out
        congr 1
        omega
      case measure =>
        rw [HPI.out.1, HP.out.1]
        omega
    | none =>
      have HDJ := Lib.hid (numFrom_end v hdj)
      clear hdj
      dsimp only [Option.isSome]
      by_cases hbig : 1000 < n
      · go_wp2_with fail
        refine (fail_at (k := 5) hr hle).mono ?_
        rintro v0 w3 ⟨⟨u, rfl⟩, hr3, hg⟩
        go_wp2
        go_returns
        refine ⟨n, i, 5, rfl, hr3, only_trans g hg, ?_⟩
        have := HM.out
        rw [HN.out, HF.out, HDJ.out, if_pos (show v > 1000 by omega)]
        exact ⟨rfl, rfl, by omega⟩
      · go_wp2
        go_returns
        refine ⟨n, j, 0, rfl, hr, g, ?_⟩
        have := HM.out
        rw [HN.out, HF.out, HDJ.out, if_neg (show ¬v > 1000 by omega)]
        exact ⟨by show n = v; omega, rfl, rfl⟩
theorem number_at {w : World} {b : Nat} {s : ByteArray} {i : Nat} {lv : Value} (h : Rdr w b s i 0 lv) :
    Calls Tryd.prog 52 #[.pointer (some ⟨b, 0, none⟩)] w fun v w' => ∃ n j e, v = .returned (.int .i64 ((n : Nat) : Int)) ∧ Rdr w' b s j e lv ∧ w.grownBy w' (some b) ∧ NumIs (numberM (bytesN s) i) n j e := by
  cases hd : digitAt (bytesN s) i with
  | none =>
    refine (number_none h hd).mono ?_
    rintro v w' ⟨rfl, h1, h2⟩
    exact ⟨0, i, 4, rfl, h1, h2, by unfold numberM; rw [hd]; exact ⟨rfl, rfl, by omega⟩⟩
  | some d => exact number_some h hd
end Go.Proofs.YtofhkgafgnldnaaDoor
