/- class: the set of a class, at its bracket. -/
import Derived.Test.YtpiimcbbgalhfaaGreatDoorBd
import Derived.Test.YtpiimcbbgalhfaaGreatDoorBb
import Derived.Deep.RegionWith
import Derived.Deep.WholeRow
namespace Go.Proofs.YtpiimcbbgalhfaaGreatDoor
set_option maxRecDepth 100000
open Go.RowKit
/-- Where the reader in block b stands; its error. -/
def posOf (w : World) (b : Nat) : Nat := match w.cell? ⟨b, 1, none⟩ with | some (.int _ n) => n.toNat | _ => 0
def errOf (w : World) (b : Nat) : Nat := match w.cell? ⟨b, 2, none⟩ with | some (.int _ n) => n.toNat | _ => 0
theorem Rdr.pos {w : World} {b : Nat} {s : ByteArray} {i e : Nat} {lv : Value} (h : Rdr w b s i e lv) : posOf w b = i ∧ errOf w b = e := by
  obtain ⟨_, c1, c2, _⟩ := h.cells
  unfold posOf errOf
  rw [c1, c2]
  simp
/-- What the rounds ahead leave: all well, and the rest is to come; or it has failed. -/
def ClassAt (t : List Nat) (i0 : Nat) (m : Nat → Bool) (j e : Nat) : Prop := (e = 0 ∧ classBody t i0 = classFrom t m j) ∨ (e ≠ 0 ∧ classBody t i0 = .err j e)
theorem classAt_first {t : List Nat} {i0 : Nat} {m : Nat → Bool} {j e : Nat} (h : SetIs (spanM t i0) m j e) : ClassAt t i0 m j e := by
  unfold ClassAt
  rw [classBody_from]
  cases hs : spanM t i0 with
  | err k k' =>
    rw [hs] at h
    obtain ⟨rfl, rfl, h3⟩ := h
    exact .inr ⟨h3, rfl⟩
  | ok m' k =>
    rw [hs] at h
    obtain ⟨rfl, rfl, rfl⟩ := h
    exact .inl ⟨rfl, rfl⟩
theorem classAt_next {t : List Nat} {i0 : Nat} {m m2 : Nat → Bool} {i j e : Nat} (h : classBody t i0 = classFrom t m i) (hi : i ≤ t.length) (hn : t[i]? ≠ some 93) (hs : SetIs (spanM t i) m2 j e) : ClassAt t i0 (anyM [m, m2]) j e := by
  unfold ClassAt
  rw [h, classFrom_next m hi hn]
  cases hsp : spanM t i with
  | err k k' =>
    rw [hsp] at hs
    obtain ⟨rfl, rfl, h3⟩ := hs
    exact .inr ⟨h3, rfl⟩
  | ok m' k =>
    rw [hsp] at hs
    obtain ⟨rfl, rfl, rfl⟩ := hs
    exact .inl ⟨rfl, rfl⟩
theorem classM_of {t : List Nat} {i i0 : Nat} {nt : Bool} (hI : isI t (i + 1) 94 = i0) (hN : isB t (i + 1) 94 = nt) :
    classM t i = match classBody t i0 with | .err j e => .err j e | .ok m j => .ok (if nt = true then notM m else m) j := by
  unfold classM
  by_cases h : t[i + 1]? = some 94
  · rw [if_pos h]
    obtain ⟨e1, e2⟩ := isB_yes h
    rw [e2] at hI
    rw [e1] at hN
    subst hI hN
    simp
    rfl
  · rw [if_neg h]
    obtain ⟨e1, e2⟩ := isB_no h
    rw [e2] at hI
    rw [e1] at hN
    subst hI hN
    cases classBody t (i + 1) <;> simp
set_option maxRecDepth 100000 in
set_option maxHeartbeats 4000000 in
theorem class_at {w : World} {b : Nat} {s : ByteArray} {i : Nat} {lv : Value} (h : Rdr w b s i 0 lv) (hi : i + 1 ≤ s.size) :
    Calls Tryz.prog 172 #[.pointer (some ⟨b, 0, none⟩)] w fun v w' => ∃ m j e, v = .returned (setV m) ∧ Rdr w' b s j e lv ∧ w.grownBy w' (some b) ∧ SetIs (classM (bytesN s) i) m j e := by
  have hblt := h.blk.lt
  have hsz := h.size
  obtain ⟨_, c1, _, _, f1, _, _⟩ := h.cells
  go_enter Tryz.func172, Tryz.ntmps172
  go_wp2_with fail
  obtain ⟨hr, g⟩ := h.inc hi
  have hR := Blk.new (w.setCell ⟨b, 1, none⟩ (.int .i64 (((i : Nat) : Int) + 1))) (setL noSet) 24
  rw [setL_none, show (w.setCell ⟨b, 1, none⟩ (.int .i64 (((i : Nat) : Int) + 1))).heap.size = w.heap.size by simp [World.setCell], ← setL_none] at hR
  replace hr := hr.below ((Below.refl _ _).alloc (Nat.le_refl _) (.cells (setL noSet).toArray 24))
  replace g := only_alloc g (.cells (setL noSet).toArray 24)
  rw [show (setL noSet).toArray = #[.int .u64 0, .int .u64 0, .int .u64 0, .int .u64 0] by rw [setL_none]] at hr g hR
  clear c1 f1
  generalize (w.setCell _ _).alloc _ = wa at *
  refine (is_at 94 hr).mono ?_
  rintro v w0 ⟨rfl, hr, hg⟩
  replace hR := Blk.turn hR hg (by omega)
  replace g := only_trans g hg
  clear hg
  generalize hi0 : isI (bytesN s) (i + 1) 94 = i0 at *
  generalize hnot : isB (bytesN s) (i + 1) 94 = nt at *
  have HI0 := Lib.hid hi0
  have HNT := Lib.hid hnot
  clear hi0 hnot
  go_wp2_with fail
  refine (span_at hr).mono ?_
  rintro v w0 ⟨m1, j1, e1, rfl, hr, hg, hs1⟩
  replace hR := Blk.turn hR hg (by omega)
  replace g := only_trans g hg
  clear hg
  have HC := Lib.hid (classAt_first hs1)
  clear hs1
  unfold setV
  go_wp2
  have h4 : Blk (w0.alloc (.cells #[.int .u64 (word m1 0), .int .u64 (word m1 1), .int .u64 (word m1 2), .int .u64 (word m1 3)] 24)) w0.heap.size 24 (setL m1) := Blk.new w0 (setL m1) 24
  have kh4 : w.heap.size < w0.heap.size := hR.lt
  have jh4 : b < w0.heap.size := hr.blk.lt
  replace g := only_alloc g (.cells #[.int .u64 (word m1 0), .int .u64 (word m1 1), .int .u64 (word m1 2), .int .u64 (word m1 3)] 24)
  replace hR := hR.alloc (.cells #[.int .u64 (word m1 0), .int .u64 (word m1 1), .int .u64 (word m1 2), .int .u64 (word m1 3)] 24)
  replace hr := hr.below ((Below.refl _ w0).alloc (Nat.le_refl _) (.cells #[.int .u64 (word m1 0), .int .u64 (word m1 1), .int .u64 (word m1 2), .int .u64 (word m1 3)] 24))
  generalize w0.alloc _ = wn at *
  generalize w0.heap.size = b4 at *
  go_loopw [] (fun wr => ∃ m j e, Rdr wr b s j e lv ∧ Blk wr b4 24 (setL m) ∧ Blk wr w.heap.size 24 (setL noSet) ∧ w.grownBy wr (some b) ∧ ClassAt (bytesN s) i0 m j e) (fun wr => if errOf wr b = 0 then s.size + 1 - posOf wr b else 0)
  case atStart => exact ⟨m1, j1, e1, hr, h4, hR, g, HC.out⟩
  case round =>
    obtain ⟨m, j, e, hr, h4, hR, g, hC⟩ := hrel
    have HP := Lib.hid hr.pos
    have hle := hr.le
    have hne4 : b4 ≠ w.heap.size := by omega
    rcases hC with ⟨rfl, hcf⟩ | ⟨he, hcf⟩
    · have HCF := Lib.hid hcf
      clear hcf
      by_cases h93 : (bytesN s)[j]? = some 93
      · have H93 := Lib.hid h93
        clear h93
        go_wp2_with fail
        refine (bad_at hr).mono ?_
        rintro v w0 ⟨rfl, hb⟩
        replace hR := hR.below hb hR.lt
        replace h4 := h4.below hb h4.lt
        replace g := only_below g hb
        replace hr := hr.below hb
        clear hb
        rw [show decide ((0 : Nat) ≠ 0) = false from rfl]
        go_wp2_with fail
        refine (is_at 93 hr).mono ?_
        rintro v w0 ⟨rfl, hr, hg⟩
        rw [(isB_yes H93.out).2] at hr
        rw [(isB_yes H93.out).1]
        replace hR := Blk.turn hR hg (by omega)
        replace h4 := Blk.turn h4 hg (by omega)
        replace g := only_trans g hg
        clear hg
        cases hnt : nt with
        | true =>
          have HQ := Lib.hid hnt
          clear hnt
          obtain ⟨x0, x1, x2, x3, _, _, _, _⟩ := h4.four
          go_wp2_with fail
          refine (not_any m _).mono ?_
          rintro v w0 ⟨rfl, hb⟩
          clear x0 x1 x2 x3
          replace hR := hR.below hb hR.lt
          replace h4 := h4.below hb h4.lt
          replace g := only_below g hb
          replace hr := hr.below hb
          clear hb
          unfold setV
          obtain ⟨x0, x1, x2, x3, p0, p1, p2, p3⟩ := h4.four
          go_upto_region 8 with fail
          have hRa := hR.far4 (g := b4) (by omega) (.int .u64 (word (fun x => !m x) 0)) (.int .u64 (word (fun x => !m x) 1)) (.int .u64 (word (fun x => !m x) 2)) (.int .u64 (word (fun x => !m x) 3))
          have hra := hr.far4 (g := b4) (by omega) (by have := tab_lt h.tab; omega) (.int .u64 (word (fun x => !m x) 0)) (.int .u64 (word (fun x => !m x) 1)) (.int .u64 (word (fun x => !m x) 2)) (.int .u64 (word (fun x => !m x) 3))
          have h4a := h4.set4 (.int .u64 (word (fun x => !m x) 0)) (.int .u64 (word (fun x => !m x) 1)) (.int .u64 (word (fun x => !m x) 2)) (.int .u64 (word (fun x => !m x) 3))
          have ga := only_set4' g (g := b4) (by omega) (.int .u64 (word (fun x => !m x) 0)) (.int .u64 (word (fun x => !m x) 1)) (.int .u64 (word (fun x => !m x) 2)) (.int .u64 (word (fun x => !m x) 3))
          clear x0 x1 x2 x3 p0 p1 p2 p3 hR hr h4 g
          generalize (((w0.setCell _ _).setCell _ _).setCell _ _).setCell _ _ = wz at *
          obtain ⟨x0, x1, x2, x3, _, _, _, _⟩ := h4a.four
          obtain ⟨y0, y1, y2, y3, k0, k1, k2, k3⟩ := hRa.four
          go_wp2
          refine ret_set (b := w.heap.size) rfl rfl (hRa.set4 _ _ _ _) rfl ?_
          exact ⟨fun x => !m x, j + 1, 0, rfl, hra.far4 (by omega) (by have := tab_lt h.tab; omega) _ _ _ _, only_set4' ga (Nat.le_refl _) _ _ _ _, by rw [classM_of HI0.out (HNT.out.trans HQ.out), HCF.out, classFrom_end m H93.out]; exact ⟨rfl, rfl, rfl⟩⟩
        | false =>
          have HQ := Lib.hid hnt
          clear hnt
          obtain ⟨x0, x1, x2, x3, _, _, _, _⟩ := h4.four
          obtain ⟨y0, y1, y2, y3, k0, k1, k2, k3⟩ := hR.four
          go_wp2
          refine ret_set (b := w.heap.size) rfl rfl (hR.set4 _ _ _ _) rfl ?_
          exact ⟨m, j + 1, 0, rfl, hr.far4 (by omega) (by have := tab_lt h.tab; omega) _ _ _ _, only_set4' g (Nat.le_refl _) _ _ _ _, by rw [classM_of HI0.out (HNT.out.trans HQ.out), HCF.out, classFrom_end m H93.out]; exact ⟨rfl, rfl, rfl⟩⟩
      · have H93 := Lib.hid h93
        clear h93
        go_wp2_with fail
        refine (bad_at hr).mono ?_
        rintro v w0 ⟨rfl, hb⟩
        replace hR := hR.below hb hR.lt
        replace h4 := h4.below hb h4.lt
        replace g := only_below g hb
        replace hr := hr.below hb
        clear hb
        rw [show decide ((0 : Nat) ≠ 0) = false from rfl]
        go_wp2_with fail
        refine (is_at 93 hr).mono ?_
        rintro v w0 ⟨rfl, hr, hg⟩
        rw [(isB_no H93.out).2] at hr
        rw [(isB_no H93.out).1]
        replace hR := Blk.turn hR hg (by omega)
        replace h4 := Blk.turn h4 hg (by omega)
        replace g := only_trans g hg
        clear hg
        go_wp2_with fail
        have hrd := hr.below (Below.refl _ _).drew
        have h4d := h4.drew
        obtain ⟨x0, x1, x2, x3, _, _, _, _⟩ := h4d.four
        go_region_with (first
          | (go_at_call 225; refine (span_at hrd).mono ?_; rintro v w5 ⟨m2, j2, e2, rfl, hr2, hg2, hs2⟩; have h42 := Blk.turn h4d hg2 (by omega); obtain ⟨z0, z1, z2, z3, _, _, _, _⟩ := h42.four; have hrn := run_build2 m m2 w5; have hrdS := rdS_new w5 [m, m2] 24 (by simp) _ rfl; unfold setV at hrn; unfold setV)
          | (go_at_call 226; refine (union_any [m, m2] _ _ hrdS).mono ?_; rintro v w6 ⟨rfl, hb6⟩; have hb56 := Below.trans ((Below.refl _ w5).alloc (Nat.le_refl _) _) (hb6.mono (by simp)); have h46 := h42.below hb56 h42.lt; obtain ⟨y0, y1, y2, y3, k0, k1, k2, k3⟩ := h46.four; unfold setV))
        all_goals
          have hr6 := hr2.below hb56
          have hR6 := (Blk.turn hR.drew hg2 (by omega)).below hb56 (Blk.turn hR.drew hg2 (by omega)).lt
          have g6 := only_below (only_trans (only_below g (Below.refl _ _).drew) hg2) hb56
          have hz := hr6.far4 (g := b4) (by omega) (by have := tab_lt h.tab; omega) (.int .u64 (word (anyM [m, m2]) 0)) (.int .u64 (word (anyM [m, m2]) 1)) (.int .u64 (word (anyM [m, m2]) 2)) (.int .u64 (word (anyM [m, m2]) 3))
          have HZ := Lib.hid hz
          have HZp := Lib.hid hz.pos
          have HCn := Lib.hid (classAt_next HCF.out (by rw [bytesN_length]; exact hle) H93.out hs2)
          have HS2 := Lib.hid hs2
          clear hz hs2
          go_wp2
          go_roundw
          case rel => exact ⟨anyM [m, m2], j2, e2, HZ.out, h46.set4 _ _ _ _, hR6.far4 (by omega) _ _ _ _, only_set4' g6 (by omega) _ _ _ _, HCn.out⟩
          case measure =>
            rw [HZp.out.1, HZp.out.2, HP.out.1, HP.out.2, if_pos rfl]
            split
            · rename_i he0
              subst he0
              have hs := HS2.out
              unfold SetIs at hs
              cases hsp : spanM (bytesN s) j with
              | err k k' =>
                rw [hsp] at hs
                obtain ⟨_, h2, h3⟩ := hs
                exact absurd h2.symm h3
              | ok m' k =>
                rw [hsp] at hs
                obtain ⟨_, rfl, _⟩ := hs
                have hl := spanM_le hsp
                rw [bytesN_length] at hl
                omega
            · omega
    · have HCF := Lib.hid hcf
      clear hcf
      go_wp2_with fail
      refine (bad_at hr).mono ?_
      rintro v w0 ⟨rfl, hb⟩
      replace hR := hR.below hb hR.lt
      replace h4 := h4.below hb h4.lt
      replace g := only_below g hb
      replace hr := hr.below hb
      clear hb
      rw [show decide (e ≠ 0) = true from decide_eq_true he]
      cases hnt : nt with
      | true =>
        have HQ := Lib.hid hnt
        clear hnt
        obtain ⟨x0, x1, x2, x3, _, _, _, _⟩ := h4.four
        go_wp2_with fail
        refine (not_any m _).mono ?_
        rintro v w0 ⟨rfl, hb⟩
        clear x0 x1 x2 x3
        replace hR := hR.below hb hR.lt
        replace h4 := h4.below hb h4.lt
        replace g := only_below g hb
        replace hr := hr.below hb
        clear hb
        unfold setV
        obtain ⟨x0, x1, x2, x3, p0, p1, p2, p3⟩ := h4.four
        go_upto_region 8 with fail
        have hRa := hR.far4 (g := b4) (by omega) (.int .u64 (word (fun x => !m x) 0)) (.int .u64 (word (fun x => !m x) 1)) (.int .u64 (word (fun x => !m x) 2)) (.int .u64 (word (fun x => !m x) 3))
        have hra := hr.far4 (g := b4) (by omega) (by have := tab_lt h.tab; omega) (.int .u64 (word (fun x => !m x) 0)) (.int .u64 (word (fun x => !m x) 1)) (.int .u64 (word (fun x => !m x) 2)) (.int .u64 (word (fun x => !m x) 3))
        have h4a := h4.set4 (.int .u64 (word (fun x => !m x) 0)) (.int .u64 (word (fun x => !m x) 1)) (.int .u64 (word (fun x => !m x) 2)) (.int .u64 (word (fun x => !m x) 3))
        have ga := only_set4' g (g := b4) (by omega) (.int .u64 (word (fun x => !m x) 0)) (.int .u64 (word (fun x => !m x) 1)) (.int .u64 (word (fun x => !m x) 2)) (.int .u64 (word (fun x => !m x) 3))
        clear x0 x1 x2 x3 p0 p1 p2 p3 hR hr h4 g
        generalize (((w0.setCell _ _).setCell _ _).setCell _ _).setCell _ _ = wz at *
        obtain ⟨x0, x1, x2, x3, _, _, _, _⟩ := h4a.four
        obtain ⟨y0, y1, y2, y3, k0, k1, k2, k3⟩ := hRa.four
        go_wp2
        refine ret_set (b := w.heap.size) rfl rfl (hRa.set4 _ _ _ _) rfl ?_
        exact ⟨fun x => !m x, j, e, rfl, hra.far4 (by omega) (by have := tab_lt h.tab; omega) _ _ _ _, only_set4' ga (Nat.le_refl _) _ _ _ _, by rw [classM_of HI0.out rfl, HCF.out]; exact ⟨rfl, rfl, he⟩⟩
      | false =>
        have HQ := Lib.hid hnt
        clear hnt
        obtain ⟨x0, x1, x2, x3, _, _, _, _⟩ := h4.four
        obtain ⟨y0, y1, y2, y3, k0, k1, k2, k3⟩ := hR.four
        go_wp2
        refine ret_set (b := w.heap.size) rfl rfl (hR.set4 _ _ _ _) rfl ?_
        exact ⟨m, j, e, rfl, hr.far4 (by omega) (by have := tab_lt h.tab; omega) _ _ _ _, only_set4' g (Nat.le_refl _) _ _ _ _, by rw [classM_of HI0.out rfl, HCF.out]; exact ⟨rfl, rfl, he⟩⟩
end Go.Proofs.YtpiimcbbgalhfaaGreatDoor
/- number: a count's digits. -/
namespace Go.Proofs.YtpiimcbbgalhfaaGreatDoor
set_option maxRecDepth 100000
open Go.RowKit
/-- What a reading of a number leaves. -/
def NumIs (r : Res Nat) (n j e : Nat) : Prop := match r with
  | .ok n' j' => n = n' ∧ j = j' ∧ e = 0
  | .err j' e' => j = j' ∧ e = e' ∧ e' ≠ 0
theorem digit_byte {s : ByteArray} {i d : Nat} (h : digitAt (bytesN s) i = some d) : ∃ hi : i < s.size, (s[i]'hi).toNat = 48 + d ∧ d ≤ 9 := by
  unfold digitAt at h
  cases hc : (bytesN s)[i]? with
  | none => rw [hc] at h; cases h
  | some c =>
    obtain ⟨hi, rfl⟩ := bytesN_some hc
    rw [hc] at h
    simp only [Option.bind_some] at h
    split at h
    · injection h with h
      exact ⟨hi, by omega, by omega⟩
    · cases h
set_option maxRecDepth 100000 in
set_option maxHeartbeats 2000000 in
theorem number_none {w : World} {b : Nat} {s : ByteArray} {i : Nat} {lv : Value} (h : Rdr w b s i 0 lv) (hd : digitAt (bytesN s) i = none) :
    Calls Tryz.prog 262 #[.pointer (some ⟨b, 0, none⟩)] w fun v w' => v = .returned (.int .i64 0) ∧ Rdr w' b s i 4 lv ∧ w.grownBy w' (some b) := by
  have hsz := h.size
  have hle := h.le
  have HD := Lib.hid (show (digitAt (bytesN s) i).isSome = false by rw [hd]; rfl)
  clear hd
  obtain ⟨_, c1, _, _, f1, _, _⟩ := h.cells
  go_enter Tryz.func262, Tryz.ntmps262
  go_wp2_with fail
  refine (digits_at h).mono ?_
  rintro v w0 ⟨rfl, hb⟩
  rw [HD.out]
  have hr := h.below hb
  have g := only_of b hb
  clear c1 f1 hb
  obtain ⟨_, c1, _, _, f1, _, _⟩ := hr.cells
  go_wp2_with fail
  go_still_tail 8, (by kernel_rfl)
  change wpList _ _ _ _ _ w0.drew
  go_wp2_with fail
  refine (fail_at (k := 4) (hr.below (Below.refl _ _).drew) (by omega)).mono ?_
  rintro v w1 ⟨⟨u, rfl⟩, hr1, hg⟩
  replace g := only_trans g (only_trans (only_of b (Below.refl w0.heap.size _).drew) hg)
  clear c1 f1 hg hr
  go_wp2
  go_loopw [4] (fun nv wr => nv = .int .i64 0 ∧ Rdr wr b s i 4 lv ∧ w.grownBy wr (some b)) (fun _ _ => 0)
  case atStart => exact ⟨rfl, hr1, g⟩
  case round =>
    obtain ⟨rfl, hr, g⟩ := hrel
    go_wp2_with fail
    refine (bad_at hr).mono ?_
    rintro v w0 ⟨rfl, hb⟩
    rw [show decide ((4 : Nat) ≠ 0) = true from rfl]
    go_wp2
    go_returns
    exact ⟨rfl, hr.below hb, only_below g hb⟩
set_option maxRecDepth 100000 in
set_option maxHeartbeats 2000000 in
theorem number_some {w : World} {b : Nat} {s : ByteArray} {i d0 : Nat} {lv : Value} (h : Rdr w b s i 0 lv) (hd : digitAt (bytesN s) i = some d0) :
    Calls Tryz.prog 262 #[.pointer (some ⟨b, 0, none⟩)] w fun v w' => ∃ n j e, v = .returned (.int .i64 ((n : Nat) : Int)) ∧ Rdr w' b s j e lv ∧ w.grownBy w' (some b) ∧ NumIs (numberM (bytesN s) i) n j e := by
  have hsz := h.size
  have hle := h.le
  have HD := Lib.hid (show (digitAt (bytesN s) i).isSome = true by rw [hd]; rfl)
  have HN := Lib.hid (show numberM (bytesN s) i = if (numFrom (bytesN s) 0 i).1 > 1000 then .err i 5 else .ok (numFrom (bytesN s) 0 i).1 (numFrom (bytesN s) 0 i).2 by unfold numberM; rw [hd]; rfl)
  clear hd
  obtain ⟨_, c1, _, _, f1, _, _⟩ := h.cells
  go_enter Tryz.func262, Tryz.ntmps262
  go_wp2_with fail
  refine (digits_at h).mono ?_
  rintro v w0 ⟨rfl, hb⟩
  rw [HD.out]
  have hr := h.below hb
  have g := only_of b hb
  clear c1 f1 hb
  go_wp2
  go_loopw [4] (fun nv wr => ∃ v j : Nat, nv = .int .i64 ((min v 1001 : Nat) : Int) ∧ Rdr wr b s j 0 lv ∧ w.grownBy wr (some b) ∧ numFrom (bytesN s) 0 i = numFrom (bytesN s) v j) (fun _ wr => s.size - posOf wr b)
  case atStart => exact ⟨0, i, rfl, hr, g, rfl⟩
  case round =>
    clear hr g
    obtain ⟨v, j, rfl, hr, g, hnf⟩ := hrel
    have HP := Lib.hid hr.pos
    have HF := Lib.hid hnf
    clear hnf
    have hmn : min v 1001 ≤ 1001 := Nat.min_le_right _ _
    generalize hmv : min v 1001 = n at *
    have HM := Lib.hid hmv
    clear hmv
    go_wp2_with fail
    refine (bad_at hr).mono ?_
    rintro v0 w1 ⟨rfl, hb⟩
    rw [show decide ((0 : Nat) ≠ 0) = false from rfl]
    replace hr := hr.below hb
    replace g := only_below g hb
    clear hb
    go_wp2_with fail
    refine (digits_at hr).mono ?_
    rintro v0 w2 ⟨rfl, hb⟩
    replace hr := hr.below hb
    replace g := only_below g hb
    clear hb
    have hjle := hr.le
    cases hdj : digitAt (bytesN s) j with
    | some d =>
      obtain ⟨hj, hby, hd9⟩ := digit_byte hdj
      have HDJ := Lib.hid (numFrom_next v hdj)
      clear hdj
      dsimp only [Option.isSome]
      have hrd := hr.below (Below.refl _ _).drew
      obtain ⟨c0, c1, _, _, f1, _, _⟩ := hrd.cells
      have hby' : (((s[j]'hj).toNat : Nat) : Int) = 48 + ((d : Nat) : Int) := by omega
      go_wp2_with fail
      go_region
      replace g := only_below g (Below.refl _ _).drew
      clear hr
      generalize w2.drew = wd at *
      go_wp2
      obtain ⟨hri, gi⟩ := hrd.incv (v := ((j : Nat) : Int) + 1) (by omega) hj
      have HRI := Lib.hid hri
      have HPI := Lib.hid hri.pos
      have gw := only_trans g gi
      clear hri
      go_roundw
      case rel =>
        refine ⟨10 * v + d, j + 1, ?_, HRI.out, gw, HF.out.trans HDJ.out⟩
        have := HM.out
        congr 1
        omega
      case measure =>
        rw [HPI.out.1, HP.out.1]
        omega
    | none =>
      have HDJ := Lib.hid (numFrom_end v hdj)
      clear hdj
      dsimp only [Option.isSome]
      by_cases hbig : 1000 < n
      · go_wp2_with fail
        refine (fail_at (k := 5) hr hle).mono ?_
        rintro v0 w3 ⟨⟨u, rfl⟩, hr3, hg⟩
        go_wp2
        go_returns
        refine ⟨n, i, 5, rfl, hr3, only_trans g hg, ?_⟩
        have := HM.out
        rw [HN.out, HF.out, HDJ.out, if_pos (show v > 1000 by omega)]
        exact ⟨rfl, rfl, by omega⟩
      · go_wp2
        go_returns
        refine ⟨n, j, 0, rfl, hr, g, ?_⟩
        have := HM.out
        rw [HN.out, HF.out, HDJ.out, if_neg (show ¬v > 1000 by omega)]
        exact ⟨by show n = v; omega, rfl, rfl⟩
theorem number_at {w : World} {b : Nat} {s : ByteArray} {i : Nat} {lv : Value} (h : Rdr w b s i 0 lv) :
    Calls Tryz.prog 262 #[.pointer (some ⟨b, 0, none⟩)] w fun v w' => ∃ n j e, v = .returned (.int .i64 ((n : Nat) : Int)) ∧ Rdr w' b s j e lv ∧ w.grownBy w' (some b) ∧ NumIs (numberM (bytesN s) i) n j e := by
  cases hd : digitAt (bytesN s) i with
  | none =>
    refine (number_none h hd).mono ?_
    rintro v w' ⟨rfl, h1, h2⟩
    exact ⟨0, i, 4, rfl, h1, h2, by unfold numberM; rw [hd]; exact ⟨rfl, rfl, by omega⟩⟩
  | some d => exact number_some h hd
end Go.Proofs.YtpiimcbbgalhfaaGreatDoor
/- braces: what stands in braces. -/
namespace Go.Proofs.YtpiimcbbgalhfaaGreatDoor
set_option maxRecDepth 100000
open Go.RowKit
def BracesIs (r : Res (Nat × Option Nat)) (lo : Nat) (hi : Int) (j e : Nat) : Prop := match r with
  | .ok (l, o) j' => lo = l ∧ hi = hiZ o ∧ j = j' ∧ e = 0
  | .err j' e' => j = j' ∧ e = e' ∧ e' ≠ 0
set_option maxRecDepth 100000 in
set_option maxHeartbeats 1000000 in
theorem bra_a {w : World} {b : Nat} {s : ByteArray} {i : Nat} {lv : Value} (h : Rdr w b s i 0 lv) (j e : Nat) (h1 : numberM (bytesN s) i = .err j e)  :
    Calls Tryz.prog 228 #[.pointer (some ⟨b, 0, none⟩)] w fun v w' => ∃ lo hi j e, v = .returned (.tuple #[.int .i64 ((lo : Nat) : Int), .int .i64 hi]) ∧ Rdr w' b s j e lv ∧ w.grownBy w' (some b) ∧ BracesIs (bracesM (bytesN s) i) lo hi j e := by
  have HX := Lib.hid (show bracesM (bytesN s) i = .err j e by unfold bracesM; rw [h1])
  have H1 := Lib.hid h1
  clear h1
  have hsz := h.size
  have hr := h
  have g := only_refl w b
  go_enter Tryz.func228, Tryz.ntmps228
  go_wp2_with fail
  refine (number_at hr).mono ?_
  rintro v w0 ⟨n1, j1, e1, rfl, hr, hg, hn⟩
  rw [H1.out] at hn
  obtain ⟨rfl, rfl, he⟩ := hn
  replace g := only_trans g hg
  clear hg
  have hln1 := hr.le
  go_wp2_with fail
  refine (bad_at hr).mono ?_
  rintro v w0 ⟨rfl, hb⟩
  replace hr := hr.below hb
  replace g := only_below g hb
  clear hb
  rw [show decide (e1 ≠ 0) = true from decide_eq_true he]
  go_wp2_with fail
  refine (bad_at hr).mono ?_
  rintro v w0 ⟨rfl, hb⟩
  replace hr := hr.below hb
  replace g := only_below g hb
  clear hb
  rw [show decide (e1 ≠ 0) = true from decide_eq_true he]
  go_wp2
  go_returns
  exact ⟨n1, ((n1 : Nat) : Int), j1, e1, rfl, hr, g, by rw [HX.out]; exact ⟨rfl, rfl, he⟩⟩
set_option maxRecDepth 100000 in
set_option maxHeartbeats 1000000 in
theorem bra_b1 {w : World} {b : Nat} {s : ByteArray} {i : Nat} {lv : Value} (h : Rdr w b s i 0 lv) (lo j : Nat) (h1 : numberM (bytesN s) i = .ok lo j) (h2 : (bytesN s)[j]? ≠ some 44) (h3 : (bytesN s)[j]? = some 125) :
    Calls Tryz.prog 228 #[.pointer (some ⟨b, 0, none⟩)] w fun v w' => ∃ lo hi j e, v = .returned (.tuple #[.int .i64 ((lo : Nat) : Int), .int .i64 hi]) ∧ Rdr w' b s j e lv ∧ w.grownBy w' (some b) ∧ BracesIs (bracesM (bytesN s) i) lo hi j e := by
  have HX := Lib.hid (show bracesM (bytesN s) i = .ok (lo, some lo) (j + 1) by unfold bracesM; rw [h1]; simp only []; rw [if_neg h2, if_pos h3])
  have H1 := Lib.hid h1
  have H2 := Lib.hid h2
  have H3 := Lib.hid h3
  clear h1 h2 h3
  have hsz := h.size
  have hr := h
  have g := only_refl w b
  go_enter Tryz.func228, Tryz.ntmps228
  go_wp2_with fail
  refine (number_at hr).mono ?_
  rintro v w0 ⟨n1, j1, e1, rfl, hr, hg, hn⟩
  rw [H1.out] at hn
  obtain ⟨rfl, rfl, rfl⟩ := hn
  replace g := only_trans g hg
  clear hg
  have hln1 := hr.le
  go_wp2_with fail
  refine (bad_at hr).mono ?_
  rintro v w0 ⟨rfl, hb⟩
  replace hr := hr.below hb
  replace g := only_below g hb
  clear hb
  rw [show decide ((0 : Nat) ≠ 0) = false from rfl]
  go_wp2_with fail
  refine (is_at 44 hr).mono ?_
  rintro v w0 ⟨rfl, hr, hg⟩
  rw [(isB_no H2.out).2] at hr
  rw [(isB_no H2.out).1]
  replace g := only_trans g hg
  clear hg
  go_wp2_with fail
  refine (bad_at hr).mono ?_
  rintro v w0 ⟨rfl, hb⟩
  replace hr := hr.below hb
  replace g := only_below g hb
  clear hb
  rw [show decide ((0 : Nat) ≠ 0) = false from rfl]
  go_wp2_with fail
  refine (is_at 125 hr).mono ?_
  rintro v w0 ⟨rfl, hr, hg⟩
  rw [(isB_yes H3.out).2] at hr
  rw [(isB_yes H3.out).1]
  replace g := only_trans g hg
  clear hg
  go_wp2
  go_returns
  exact ⟨n1, ((n1 : Nat) : Int), j1 + 1, 0, rfl, hr, g, by rw [HX.out]; exact ⟨rfl, rfl, rfl, rfl⟩⟩
set_option maxRecDepth 100000 in
set_option maxHeartbeats 1000000 in
theorem bra_b2 {w : World} {b : Nat} {s : ByteArray} {i : Nat} {lv : Value} (h : Rdr w b s i 0 lv) (lo j : Nat) (h1 : numberM (bytesN s) i = .ok lo j) (h2 : (bytesN s)[j]? ≠ some 44) (h3 : (bytesN s)[j]? ≠ some 125) :
    Calls Tryz.prog 228 #[.pointer (some ⟨b, 0, none⟩)] w fun v w' => ∃ lo hi j e, v = .returned (.tuple #[.int .i64 ((lo : Nat) : Int), .int .i64 hi]) ∧ Rdr w' b s j e lv ∧ w.grownBy w' (some b) ∧ BracesIs (bracesM (bytesN s) i) lo hi j e := by
  have HX := Lib.hid (show bracesM (bytesN s) i = .err j 4 by unfold bracesM; rw [h1]; simp only []; rw [if_neg h2, if_neg h3])
  have H1 := Lib.hid h1
  have H2 := Lib.hid h2
  have H3 := Lib.hid h3
  clear h1 h2 h3
  have hsz := h.size
  have hr := h
  have g := only_refl w b
  go_enter Tryz.func228, Tryz.ntmps228
  go_wp2_with fail
  refine (number_at hr).mono ?_
  rintro v w0 ⟨n1, j1, e1, rfl, hr, hg, hn⟩
  rw [H1.out] at hn
  obtain ⟨rfl, rfl, rfl⟩ := hn
  replace g := only_trans g hg
  clear hg
  have hln1 := hr.le
  go_wp2_with fail
  refine (bad_at hr).mono ?_
  rintro v w0 ⟨rfl, hb⟩
  replace hr := hr.below hb
  replace g := only_below g hb
  clear hb
  rw [show decide ((0 : Nat) ≠ 0) = false from rfl]
  go_wp2_with fail
  refine (is_at 44 hr).mono ?_
  rintro v w0 ⟨rfl, hr, hg⟩
  rw [(isB_no H2.out).2] at hr
  rw [(isB_no H2.out).1]
  replace g := only_trans g hg
  clear hg
  go_wp2_with fail
  refine (bad_at hr).mono ?_
  rintro v w0 ⟨rfl, hb⟩
  replace hr := hr.below hb
  replace g := only_below g hb
  clear hb
  rw [show decide ((0 : Nat) ≠ 0) = false from rfl]
  go_wp2_with fail
  refine (is_at 125 hr).mono ?_
  rintro v w0 ⟨rfl, hr, hg⟩
  rw [(isB_no H3.out).2] at hr
  rw [(isB_no H3.out).1]
  replace g := only_trans g hg
  clear hg
  obtain ⟨_, c1, _, _, f1, _, _⟩ := hr.cells
  go_wp2_with fail
  go_still_tail 8, (by kernel_rfl)
  change wpList _ _ _ _ _ w0.drew
  go_wp2_with fail
  refine (fail_at (k := 4) (hr.below (Below.refl _ _).drew) (by omega)).mono ?_
  rintro v w1 ⟨⟨u, rfl⟩, hr, hg⟩
  replace g := only_trans g (only_trans (only_of b (Below.refl w0.heap.size _).drew) hg)
  clear hg c1 f1
  go_wp2
  go_returns
  exact ⟨n1, ((n1 : Nat) : Int), j1, 4, rfl, hr, g, by rw [HX.out]; exact ⟨rfl, rfl, by omega⟩⟩
set_option maxRecDepth 100000 in
set_option maxHeartbeats 1000000 in
theorem bra_c1 {w : World} {b : Nat} {s : ByteArray} {i : Nat} {lv : Value} (h : Rdr w b s i 0 lv) (lo j : Nat) (h1 : numberM (bytesN s) i = .ok lo j) (h2 : (bytesN s)[j]? = some 44) (h3 : (bytesN s)[j + 1]? = some 125) :
    Calls Tryz.prog 228 #[.pointer (some ⟨b, 0, none⟩)] w fun v w' => ∃ lo hi j e, v = .returned (.tuple #[.int .i64 ((lo : Nat) : Int), .int .i64 hi]) ∧ Rdr w' b s j e lv ∧ w.grownBy w' (some b) ∧ BracesIs (bracesM (bytesN s) i) lo hi j e := by
  have HX := Lib.hid (show bracesM (bytesN s) i = .ok (lo, none) (j + 2) by unfold bracesM; rw [h1]; simp only []; rw [if_pos h2, if_pos h3])
  have H1 := Lib.hid h1
  have H2 := Lib.hid h2
  have H3 := Lib.hid h3
  clear h1 h2 h3
  have HPk := Lib.hid (show peekV (bytesN s) (j + 1) = .tuple #[.int .u8 125, .bool true] by unfold peekV; rw [H3.out]; rfl)
  have hsz := h.size
  have hr := h
  have g := only_refl w b
  go_enter Tryz.func228, Tryz.ntmps228
  go_wp2_with fail
  refine (number_at hr).mono ?_
  rintro v w0 ⟨n1, j1, e1, rfl, hr, hg, hn⟩
  rw [H1.out] at hn
  obtain ⟨rfl, rfl, rfl⟩ := hn
  replace g := only_trans g hg
  clear hg
  have hln1 := hr.le
  go_wp2_with fail
  refine (bad_at hr).mono ?_
  rintro v w0 ⟨rfl, hb⟩
  replace hr := hr.below hb
  replace g := only_below g hb
  clear hb
  rw [show decide ((0 : Nat) ≠ 0) = false from rfl]
  go_wp2_with fail
  refine (is_at 44 hr).mono ?_
  rintro v w0 ⟨rfl, hr, hg⟩
  rw [(isB_yes H2.out).2] at hr
  rw [(isB_yes H2.out).1]
  replace g := only_trans g hg
  clear hg
  go_wp2_with fail
  refine (peek_at hr).mono ?_
  rintro v w0 ⟨rfl, hb⟩
  replace hr := hr.below hb
  replace g := only_below g hb
  clear hb
  rw [HPk.out]
  go_wp2_with fail
  refine (bad_at hr).mono ?_
  rintro v w0 ⟨rfl, hb⟩
  replace hr := hr.below hb
  replace g := only_below g hb
  clear hb
  rw [show decide ((0 : Nat) ≠ 0) = false from rfl]
  go_wp2_with fail
  refine (is_at 125 hr).mono ?_
  rintro v w0 ⟨rfl, hr, hg⟩
  rw [(isB_yes H3.out).2] at hr
  rw [(isB_yes H3.out).1]
  replace g := only_trans g hg
  clear hg
  go_wp2
  go_returns
  exact ⟨n1, -1, j1 + 1 + 1, 0, rfl, hr, g, by rw [HX.out]; exact ⟨rfl, rfl, rfl, rfl⟩⟩
set_option maxRecDepth 100000 in
set_option maxHeartbeats 1000000 in
theorem bra_c2a {w : World} {b : Nat} {s : ByteArray} {i : Nat} {lv : Value} (h : Rdr w b s i 0 lv) (lo j : Nat) (h1 : numberM (bytesN s) i = .ok lo j) (h2 : (bytesN s)[j]? = some 44) (h3 : (bytesN s)[j + 1]? ≠ some 125) (k e : Nat) (h4 : numberM (bytesN s) (j + 1) = .err k e) :
    Calls Tryz.prog 228 #[.pointer (some ⟨b, 0, none⟩)] w fun v w' => ∃ lo hi j e, v = .returned (.tuple #[.int .i64 ((lo : Nat) : Int), .int .i64 hi]) ∧ Rdr w' b s j e lv ∧ w.grownBy w' (some b) ∧ BracesIs (bracesM (bytesN s) i) lo hi j e := by
  have hpk : (∃ c : Nat, peekV (bytesN s) (j + 1) = .tuple #[.int .u8 ((c : Nat) : Int), .bool true] ∧ ((c : Nat) : Int) ≠ 125) ∨ peekV (bytesN s) (j + 1) = .tuple #[.int .u8 0, .bool false] := by
    unfold peekV
    cases hc : (bytesN s)[j + 1]? with
    | none => exact .inr rfl
    | some c =>
      refine .inl ⟨c, rfl, fun e => ?_⟩
      apply h3
      rw [hc]
      congr 1
      omega
  have HPk := Lib.hid hpk
  clear hpk
  have HX := Lib.hid (show bracesM (bytesN s) i = .err k e by unfold bracesM; rw [h1]; simp only []; rw [if_pos h2, if_neg h3, h4])
  have H1 := Lib.hid h1
  have H2 := Lib.hid h2
  have H3 := Lib.hid h3
  have H4 := Lib.hid h4
  clear h1 h2 h3 h4
  have hsz := h.size
  have hr := h
  have g := only_refl w b
  go_enter Tryz.func228, Tryz.ntmps228
  go_wp2_with fail
  refine (number_at hr).mono ?_
  rintro v w0 ⟨n1, j1, e1, rfl, hr, hg, hn⟩
  rw [H1.out] at hn
  obtain ⟨rfl, rfl, rfl⟩ := hn
  replace g := only_trans g hg
  clear hg
  have hln1 := hr.le
  go_wp2_with fail
  refine (bad_at hr).mono ?_
  rintro v w0 ⟨rfl, hb⟩
  replace hr := hr.below hb
  replace g := only_below g hb
  clear hb
  rw [show decide ((0 : Nat) ≠ 0) = false from rfl]
  go_wp2_with fail
  refine (is_at 44 hr).mono ?_
  rintro v w0 ⟨rfl, hr, hg⟩
  rw [(isB_yes H2.out).2] at hr
  rw [(isB_yes H2.out).1]
  replace g := only_trans g hg
  clear hg
  go_wp2_with fail
  refine (peek_at hr).mono ?_
  rintro v w0 ⟨rfl, hb⟩
  replace hr := hr.below hb
  replace g := only_below g hb
  clear hb
  rcases HPk.out with ⟨c, hp, hne⟩ | hp
  · have HP := Lib.hid hp
    clear hp
    rw [HP.out]
    obtain ⟨_, c1, _, _, f1, _, _⟩ := hr.cells
    go_wp2_with fail
    clear c1 f1
    refine (number_at hr).mono ?_
    rintro v w0 ⟨n2, j2, e2, rfl, hr, hg, hn⟩
    rw [H4.out] at hn
    obtain ⟨rfl, rfl, he⟩ := hn
    replace g := only_trans g hg
    clear hg
    have hln2 := hr.le
    go_wp2_with fail
    refine (bad_at hr).mono ?_
    rintro v w0 ⟨rfl, hb⟩
    replace hr := hr.below hb
    replace g := only_below g hb
    clear hb
    rw [show decide (e2 ≠ 0) = true from decide_eq_true he]
    go_wp2_with fail
    refine (bad_at hr).mono ?_
    rintro v w0 ⟨rfl, hb⟩
    replace hr := hr.below hb
    replace g := only_below g hb
    clear hb
    rw [show decide (e2 ≠ 0) = true from decide_eq_true he]
    go_wp2
    go_returns
    exact ⟨n1, ((n2 : Nat) : Int), j2, e2, rfl, hr, g, by rw [HX.out]; exact ⟨rfl, rfl, he⟩⟩
  · have HP := Lib.hid hp
    clear hp
    rw [HP.out]
    obtain ⟨_, c1, _, _, f1, _, _⟩ := hr.cells
    go_wp2_with fail
    clear c1 f1
    refine (number_at hr).mono ?_
    rintro v w0 ⟨n2, j2, e2, rfl, hr, hg, hn⟩
    rw [H4.out] at hn
    obtain ⟨rfl, rfl, he⟩ := hn
    replace g := only_trans g hg
    clear hg
    have hln2 := hr.le
    go_wp2_with fail
    refine (bad_at hr).mono ?_
    rintro v w0 ⟨rfl, hb⟩
    replace hr := hr.below hb
    replace g := only_below g hb
    clear hb
    rw [show decide (e2 ≠ 0) = true from decide_eq_true he]
    go_wp2_with fail
    refine (bad_at hr).mono ?_
    rintro v w0 ⟨rfl, hb⟩
    replace hr := hr.below hb
    replace g := only_below g hb
    clear hb
    rw [show decide (e2 ≠ 0) = true from decide_eq_true he]
    go_wp2
    go_returns
    exact ⟨n1, ((n2 : Nat) : Int), j2, e2, rfl, hr, g, by rw [HX.out]; exact ⟨rfl, rfl, he⟩⟩
set_option maxRecDepth 100000 in
set_option maxHeartbeats 1000000 in
theorem bra_c2b {w : World} {b : Nat} {s : ByteArray} {i : Nat} {lv : Value} (h : Rdr w b s i 0 lv) (lo j : Nat) (h1 : numberM (bytesN s) i = .ok lo j) (h2 : (bytesN s)[j]? = some 44) (h3 : (bytesN s)[j + 1]? ≠ some 125) (hi k : Nat) (h4 : numberM (bytesN s) (j + 1) = .ok hi k) (h5 : hi < lo) :
    Calls Tryz.prog 228 #[.pointer (some ⟨b, 0, none⟩)] w fun v w' => ∃ lo hi j e, v = .returned (.tuple #[.int .i64 ((lo : Nat) : Int), .int .i64 hi]) ∧ Rdr w' b s j e lv ∧ w.grownBy w' (some b) ∧ BracesIs (bracesM (bytesN s) i) lo hi j e := by
  have hpk : (∃ c : Nat, peekV (bytesN s) (j + 1) = .tuple #[.int .u8 ((c : Nat) : Int), .bool true] ∧ ((c : Nat) : Int) ≠ 125) ∨ peekV (bytesN s) (j + 1) = .tuple #[.int .u8 0, .bool false] := by
    unfold peekV
    cases hc : (bytesN s)[j + 1]? with
    | none => exact .inr rfl
    | some c =>
      refine .inl ⟨c, rfl, fun e => ?_⟩
      apply h3
      rw [hc]
      congr 1
      omega
  have HPk := Lib.hid hpk
  clear hpk
  have HX := Lib.hid (show bracesM (bytesN s) i = .err (j + 1) 5 by unfold bracesM; rw [h1]; simp only []; rw [if_pos h2, if_neg h3, h4]; simp only []; rw [if_pos h5])
  have H1 := Lib.hid h1
  have H2 := Lib.hid h2
  have H3 := Lib.hid h3
  have H4 := Lib.hid h4
  clear h1 h2 h3 h4
  have hsz := h.size
  have hr := h
  have g := only_refl w b
  go_enter Tryz.func228, Tryz.ntmps228
  go_wp2_with fail
  refine (number_at hr).mono ?_
  rintro v w0 ⟨n1, j1, e1, rfl, hr, hg, hn⟩
  rw [H1.out] at hn
  obtain ⟨rfl, rfl, rfl⟩ := hn
  replace g := only_trans g hg
  clear hg
  have hln1 := hr.le
  go_wp2_with fail
  refine (bad_at hr).mono ?_
  rintro v w0 ⟨rfl, hb⟩
  replace hr := hr.below hb
  replace g := only_below g hb
  clear hb
  rw [show decide ((0 : Nat) ≠ 0) = false from rfl]
  go_wp2_with fail
  refine (is_at 44 hr).mono ?_
  rintro v w0 ⟨rfl, hr, hg⟩
  rw [(isB_yes H2.out).2] at hr
  rw [(isB_yes H2.out).1]
  replace g := only_trans g hg
  clear hg
  go_wp2_with fail
  refine (peek_at hr).mono ?_
  rintro v w0 ⟨rfl, hb⟩
  replace hr := hr.below hb
  replace g := only_below g hb
  clear hb
  rcases HPk.out with ⟨c, hp, hne⟩ | hp
  · have HP := Lib.hid hp
    clear hp
    rw [HP.out]
    obtain ⟨_, c1, _, _, f1, _, _⟩ := hr.cells
    have hj1 := hr.le
    go_wp2_with fail
    clear c1 f1
    refine (number_at hr).mono ?_
    rintro v w0 ⟨n2, j2, e2, rfl, hr, hg, hn⟩
    rw [H4.out] at hn
    obtain ⟨rfl, rfl, rfl⟩ := hn
    replace g := only_trans g hg
    clear hg
    have hln2 := hr.le
    go_wp2_with fail
    refine (bad_at hr).mono ?_
    rintro v w0 ⟨rfl, hb⟩
    replace hr := hr.below hb
    replace g := only_below g hb
    clear hb
    rw [show decide ((0 : Nat) ≠ 0) = false from rfl]
    go_wp2_with fail
    refine (fail_at (k := 5) hr (by omega)).mono ?_
    rintro v w0 ⟨⟨u, rfl⟩, hr, hg⟩
    replace g := only_trans g hg
    clear hg
    go_wp2_with fail
    refine (bad_at hr).mono ?_
    rintro v w0 ⟨rfl, hb⟩
    replace hr := hr.below hb
    replace g := only_below g hb
    clear hb
    rw [show decide ((5 : Nat) ≠ 0) = true from rfl]
    go_wp2
    go_returns
    exact ⟨n1, ((n2 : Nat) : Int), j1 + 1, 5, rfl, hr, g, by rw [HX.out]; exact ⟨rfl, rfl, by omega⟩⟩
  · have HP := Lib.hid hp
    clear hp
    rw [HP.out]
    obtain ⟨_, c1, _, _, f1, _, _⟩ := hr.cells
    have hj1 := hr.le
    go_wp2_with fail
    clear c1 f1
    refine (number_at hr).mono ?_
    rintro v w0 ⟨n2, j2, e2, rfl, hr, hg, hn⟩
    rw [H4.out] at hn
    obtain ⟨rfl, rfl, rfl⟩ := hn
    replace g := only_trans g hg
    clear hg
    have hln2 := hr.le
    go_wp2_with fail
    refine (bad_at hr).mono ?_
    rintro v w0 ⟨rfl, hb⟩
    replace hr := hr.below hb
    replace g := only_below g hb
    clear hb
    rw [show decide ((0 : Nat) ≠ 0) = false from rfl]
    go_wp2_with fail
    refine (fail_at (k := 5) hr (by omega)).mono ?_
    rintro v w0 ⟨⟨u, rfl⟩, hr, hg⟩
    replace g := only_trans g hg
    clear hg
    go_wp2_with fail
    refine (bad_at hr).mono ?_
    rintro v w0 ⟨rfl, hb⟩
    replace hr := hr.below hb
    replace g := only_below g hb
    clear hb
    rw [show decide ((5 : Nat) ≠ 0) = true from rfl]
    go_wp2
    go_returns
    exact ⟨n1, ((n2 : Nat) : Int), j1 + 1, 5, rfl, hr, g, by rw [HX.out]; exact ⟨rfl, rfl, by omega⟩⟩
set_option maxRecDepth 100000 in
set_option maxHeartbeats 1000000 in
theorem bra_c2c {w : World} {b : Nat} {s : ByteArray} {i : Nat} {lv : Value} (h : Rdr w b s i 0 lv) (lo j : Nat) (h1 : numberM (bytesN s) i = .ok lo j) (h2 : (bytesN s)[j]? = some 44) (h3 : (bytesN s)[j + 1]? ≠ some 125) (hi k : Nat) (h4 : numberM (bytesN s) (j + 1) = .ok hi k) (h5 : ¬hi < lo) (h6 : (bytesN s)[k]? = some 125) :
    Calls Tryz.prog 228 #[.pointer (some ⟨b, 0, none⟩)] w fun v w' => ∃ lo hi j e, v = .returned (.tuple #[.int .i64 ((lo : Nat) : Int), .int .i64 hi]) ∧ Rdr w' b s j e lv ∧ w.grownBy w' (some b) ∧ BracesIs (bracesM (bytesN s) i) lo hi j e := by
  have hpk : (∃ c : Nat, peekV (bytesN s) (j + 1) = .tuple #[.int .u8 ((c : Nat) : Int), .bool true] ∧ ((c : Nat) : Int) ≠ 125) ∨ peekV (bytesN s) (j + 1) = .tuple #[.int .u8 0, .bool false] := by
    unfold peekV
    cases hc : (bytesN s)[j + 1]? with
    | none => exact .inr rfl
    | some c =>
      refine .inl ⟨c, rfl, fun e => ?_⟩
      apply h3
      rw [hc]
      congr 1
      omega
  have HPk := Lib.hid hpk
  clear hpk
  have HX := Lib.hid (show bracesM (bytesN s) i = .ok (lo, some hi) (k + 1) by unfold bracesM; rw [h1]; simp only []; rw [if_pos h2, if_neg h3, h4]; simp only []; rw [if_neg h5, if_pos h6])
  have H1 := Lib.hid h1
  have H2 := Lib.hid h2
  have H3 := Lib.hid h3
  have H4 := Lib.hid h4
  have H6 := Lib.hid h6
  clear h1 h2 h3 h4 h6
  have hsz := h.size
  have hr := h
  have g := only_refl w b
  go_enter Tryz.func228, Tryz.ntmps228
  go_wp2_with fail
  refine (number_at hr).mono ?_
  rintro v w0 ⟨n1, j1, e1, rfl, hr, hg, hn⟩
  rw [H1.out] at hn
  obtain ⟨rfl, rfl, rfl⟩ := hn
  replace g := only_trans g hg
  clear hg
  have hln1 := hr.le
  go_wp2_with fail
  refine (bad_at hr).mono ?_
  rintro v w0 ⟨rfl, hb⟩
  replace hr := hr.below hb
  replace g := only_below g hb
  clear hb
  rw [show decide ((0 : Nat) ≠ 0) = false from rfl]
  go_wp2_with fail
  refine (is_at 44 hr).mono ?_
  rintro v w0 ⟨rfl, hr, hg⟩
  rw [(isB_yes H2.out).2] at hr
  rw [(isB_yes H2.out).1]
  replace g := only_trans g hg
  clear hg
  go_wp2_with fail
  refine (peek_at hr).mono ?_
  rintro v w0 ⟨rfl, hb⟩
  replace hr := hr.below hb
  replace g := only_below g hb
  clear hb
  rcases HPk.out with ⟨c, hp, hne⟩ | hp
  · have HP := Lib.hid hp
    clear hp
    rw [HP.out]
    obtain ⟨_, c1, _, _, f1, _, _⟩ := hr.cells
    go_wp2_with fail
    clear c1 f1
    refine (number_at hr).mono ?_
    rintro v w0 ⟨n2, j2, e2, rfl, hr, hg, hn⟩
    rw [H4.out] at hn
    obtain ⟨rfl, rfl, rfl⟩ := hn
    replace g := only_trans g hg
    clear hg
    have hln2 := hr.le
    go_wp2_with fail
    refine (bad_at hr).mono ?_
    rintro v w0 ⟨rfl, hb⟩
    replace hr := hr.below hb
    replace g := only_below g hb
    clear hb
    rw [show decide ((0 : Nat) ≠ 0) = false from rfl]
    go_wp2_with fail
    refine (bad_at hr).mono ?_
    rintro v w0 ⟨rfl, hb⟩
    replace hr := hr.below hb
    replace g := only_below g hb
    clear hb
    rw [show decide ((0 : Nat) ≠ 0) = false from rfl]
    go_wp2_with fail
    refine (is_at 125 hr).mono ?_
    rintro v w0 ⟨rfl, hr, hg⟩
    rw [(isB_yes H6.out).2] at hr
    rw [(isB_yes H6.out).1]
    replace g := only_trans g hg
    clear hg
    go_wp2
    go_returns
    exact ⟨n1, ((n2 : Nat) : Int), j2 + 1, 0, rfl, hr, g, by rw [HX.out]; exact ⟨rfl, rfl, rfl, rfl⟩⟩
  · have HP := Lib.hid hp
    clear hp
    rw [HP.out]
    obtain ⟨_, c1, _, _, f1, _, _⟩ := hr.cells
    go_wp2_with fail
    clear c1 f1
    refine (number_at hr).mono ?_
    rintro v w0 ⟨n2, j2, e2, rfl, hr, hg, hn⟩
    rw [H4.out] at hn
    obtain ⟨rfl, rfl, rfl⟩ := hn
    replace g := only_trans g hg
    clear hg
    have hln2 := hr.le
    go_wp2_with fail
    refine (bad_at hr).mono ?_
    rintro v w0 ⟨rfl, hb⟩
    replace hr := hr.below hb
    replace g := only_below g hb
    clear hb
    rw [show decide ((0 : Nat) ≠ 0) = false from rfl]
    go_wp2_with fail
    refine (bad_at hr).mono ?_
    rintro v w0 ⟨rfl, hb⟩
    replace hr := hr.below hb
    replace g := only_below g hb
    clear hb
    rw [show decide ((0 : Nat) ≠ 0) = false from rfl]
    go_wp2_with fail
    refine (is_at 125 hr).mono ?_
    rintro v w0 ⟨rfl, hr, hg⟩
    rw [(isB_yes H6.out).2] at hr
    rw [(isB_yes H6.out).1]
    replace g := only_trans g hg
    clear hg
    go_wp2
    go_returns
    exact ⟨n1, ((n2 : Nat) : Int), j2 + 1, 0, rfl, hr, g, by rw [HX.out]; exact ⟨rfl, rfl, rfl, rfl⟩⟩
set_option maxRecDepth 100000 in
set_option maxHeartbeats 1000000 in
theorem bra_c2d {w : World} {b : Nat} {s : ByteArray} {i : Nat} {lv : Value} (h : Rdr w b s i 0 lv) (lo j : Nat) (h1 : numberM (bytesN s) i = .ok lo j) (h2 : (bytesN s)[j]? = some 44) (h3 : (bytesN s)[j + 1]? ≠ some 125) (hi k : Nat) (h4 : numberM (bytesN s) (j + 1) = .ok hi k) (h5 : ¬hi < lo) (h6 : (bytesN s)[k]? ≠ some 125) :
    Calls Tryz.prog 228 #[.pointer (some ⟨b, 0, none⟩)] w fun v w' => ∃ lo hi j e, v = .returned (.tuple #[.int .i64 ((lo : Nat) : Int), .int .i64 hi]) ∧ Rdr w' b s j e lv ∧ w.grownBy w' (some b) ∧ BracesIs (bracesM (bytesN s) i) lo hi j e := by
  have hpk : (∃ c : Nat, peekV (bytesN s) (j + 1) = .tuple #[.int .u8 ((c : Nat) : Int), .bool true] ∧ ((c : Nat) : Int) ≠ 125) ∨ peekV (bytesN s) (j + 1) = .tuple #[.int .u8 0, .bool false] := by
    unfold peekV
    cases hc : (bytesN s)[j + 1]? with
    | none => exact .inr rfl
    | some c =>
      refine .inl ⟨c, rfl, fun e => ?_⟩
      apply h3
      rw [hc]
      congr 1
      omega
  have HPk := Lib.hid hpk
  clear hpk
  have HX := Lib.hid (show bracesM (bytesN s) i = .err k 4 by unfold bracesM; rw [h1]; simp only []; rw [if_pos h2, if_neg h3, h4]; simp only []; rw [if_neg h5, if_neg h6])
  have H1 := Lib.hid h1
  have H2 := Lib.hid h2
  have H3 := Lib.hid h3
  have H4 := Lib.hid h4
  have H6 := Lib.hid h6
  clear h1 h2 h3 h4 h6
  have hsz := h.size
  have hr := h
  have g := only_refl w b
  go_enter Tryz.func228, Tryz.ntmps228
  go_wp2_with fail
  refine (number_at hr).mono ?_
  rintro v w0 ⟨n1, j1, e1, rfl, hr, hg, hn⟩
  rw [H1.out] at hn
  obtain ⟨rfl, rfl, rfl⟩ := hn
  replace g := only_trans g hg
  clear hg
  have hln1 := hr.le
  go_wp2_with fail
  refine (bad_at hr).mono ?_
  rintro v w0 ⟨rfl, hb⟩
  replace hr := hr.below hb
  replace g := only_below g hb
  clear hb
  rw [show decide ((0 : Nat) ≠ 0) = false from rfl]
  go_wp2_with fail
  refine (is_at 44 hr).mono ?_
  rintro v w0 ⟨rfl, hr, hg⟩
  rw [(isB_yes H2.out).2] at hr
  rw [(isB_yes H2.out).1]
  replace g := only_trans g hg
  clear hg
  go_wp2_with fail
  refine (peek_at hr).mono ?_
  rintro v w0 ⟨rfl, hb⟩
  replace hr := hr.below hb
  replace g := only_below g hb
  clear hb
  rcases HPk.out with ⟨c, hp, hne⟩ | hp
  · have HP := Lib.hid hp
    clear hp
    rw [HP.out]
    obtain ⟨_, c1, _, _, f1, _, _⟩ := hr.cells
    go_wp2_with fail
    clear c1 f1
    refine (number_at hr).mono ?_
    rintro v w0 ⟨n2, j2, e2, rfl, hr, hg, hn⟩
    rw [H4.out] at hn
    obtain ⟨rfl, rfl, rfl⟩ := hn
    replace g := only_trans g hg
    clear hg
    have hln2 := hr.le
    go_wp2_with fail
    refine (bad_at hr).mono ?_
    rintro v w0 ⟨rfl, hb⟩
    replace hr := hr.below hb
    replace g := only_below g hb
    clear hb
    rw [show decide ((0 : Nat) ≠ 0) = false from rfl]
    go_wp2_with fail
    refine (bad_at hr).mono ?_
    rintro v w0 ⟨rfl, hb⟩
    replace hr := hr.below hb
    replace g := only_below g hb
    clear hb
    rw [show decide ((0 : Nat) ≠ 0) = false from rfl]
    go_wp2_with fail
    refine (is_at 125 hr).mono ?_
    rintro v w0 ⟨rfl, hr, hg⟩
    rw [(isB_no H6.out).2] at hr
    rw [(isB_no H6.out).1]
    replace g := only_trans g hg
    clear hg
    obtain ⟨_, c1, _, _, f1, _, _⟩ := hr.cells
    go_wp2_with fail
    go_still_tail 8, (by kernel_rfl)
    change wpList _ _ _ _ _ w0.drew
    go_wp2_with fail
    refine (fail_at (k := 4) (hr.below (Below.refl _ _).drew) (by omega)).mono ?_
    rintro v w1 ⟨⟨u, rfl⟩, hr, hg⟩
    replace g := only_trans g (only_trans (only_of b (Below.refl w0.heap.size _).drew) hg)
    clear hg c1 f1
    go_wp2
    go_returns
    exact ⟨n1, ((n2 : Nat) : Int), j2, 4, rfl, hr, g, by rw [HX.out]; exact ⟨rfl, rfl, by omega⟩⟩
  · have HP := Lib.hid hp
    clear hp
    rw [HP.out]
    obtain ⟨_, c1, _, _, f1, _, _⟩ := hr.cells
    go_wp2_with fail
    clear c1 f1
    refine (number_at hr).mono ?_
    rintro v w0 ⟨n2, j2, e2, rfl, hr, hg, hn⟩
    rw [H4.out] at hn
    obtain ⟨rfl, rfl, rfl⟩ := hn
    replace g := only_trans g hg
    clear hg
    have hln2 := hr.le
    go_wp2_with fail
    refine (bad_at hr).mono ?_
    rintro v w0 ⟨rfl, hb⟩
    replace hr := hr.below hb
    replace g := only_below g hb
    clear hb
    rw [show decide ((0 : Nat) ≠ 0) = false from rfl]
    go_wp2_with fail
    refine (bad_at hr).mono ?_
    rintro v w0 ⟨rfl, hb⟩
    replace hr := hr.below hb
    replace g := only_below g hb
    clear hb
    rw [show decide ((0 : Nat) ≠ 0) = false from rfl]
    go_wp2_with fail
    refine (is_at 125 hr).mono ?_
    rintro v w0 ⟨rfl, hr, hg⟩
    rw [(isB_no H6.out).2] at hr
    rw [(isB_no H6.out).1]
    replace g := only_trans g hg
    clear hg
    obtain ⟨_, c1, _, _, f1, _, _⟩ := hr.cells
    go_wp2_with fail
    go_still_tail 8, (by kernel_rfl)
    change wpList _ _ _ _ _ w0.drew
    go_wp2_with fail
    refine (fail_at (k := 4) (hr.below (Below.refl _ _).drew) (by omega)).mono ?_
    rintro v w1 ⟨⟨u, rfl⟩, hr, hg⟩
    replace g := only_trans g (only_trans (only_of b (Below.refl w0.heap.size _).drew) hg)
    clear hg c1 f1
    go_wp2
    go_returns
    exact ⟨n1, ((n2 : Nat) : Int), j2, 4, rfl, hr, g, by rw [HX.out]; exact ⟨rfl, rfl, by omega⟩⟩
theorem braces_at {w : World} {b : Nat} {s : ByteArray} {i : Nat} {lv : Value} (h : Rdr w b s i 0 lv) :
    Calls Tryz.prog 228 #[.pointer (some ⟨b, 0, none⟩)] w fun v w' => ∃ lo hi j e, v = .returned (.tuple #[.int .i64 ((lo : Nat) : Int), .int .i64 hi]) ∧ Rdr w' b s j e lv ∧ w.grownBy w' (some b) ∧ BracesIs (bracesM (bytesN s) i) lo hi j e := by
  cases h1 : numberM (bytesN s) i with
  | err j e => exact bra_a h j e h1
  | ok lo j =>
    by_cases h2 : (bytesN s)[j]? = some 44
    · by_cases h3 : (bytesN s)[j + 1]? = some 125
      · exact bra_c1 h lo j h1 h2 h3
      · cases h4 : numberM (bytesN s) (j + 1) with
        | err k e => exact bra_c2a h lo j h1 h2 h3 k e h4
        | ok hi k =>
          by_cases h5 : hi < lo
          · exact bra_c2b h lo j h1 h2 h3 hi k h4 h5
          · by_cases h6 : (bytesN s)[k]? = some 125
            · exact bra_c2c h lo j h1 h2 h3 hi k h4 h5 h6
            · exact bra_c2d h lo j h1 h2 h3 hi k h4 h5 h6
    · by_cases h3 : (bytesN s)[j]? = some 125
      · exact bra_b1 h lo j h1 h2 h3
      · exact bra_b2 h lo j h1 h2 h3
end Go.Proofs.YtpiimcbbgalhfaaGreatDoor
/- Tokens, as they lie. -/
namespace Go.Proofs.YtpiimcbbgalhfaaGreatDoor
set_option maxRecDepth 100000
open Go.RowKit
/-- A token's cells. -/
abbrev tokL (x : Tok) (f t : Nat) : List Value := [.int .i64 ((x.kind : Nat) : Int), .int .i64 ((f : Nat) : Int), .int .i64 ((t : Nat) : Int), .int .u64 (word x.set 0), .int .u64 (word x.set 1), .int .u64 (word x.set 2), .int .u64 (word x.set 3), .int .i64 ((x.lo : Nat) : Int), .int .i64 x.hi, .bool x.lazy]
abbrev tokV (x : Tok) (f t : Nat) : Value := .agg (tokL x f t).toArray
def TokIs (r : Res Tok) (x : Tok) (j e : Nat) : Prop := match r with
  | .ok x' j' => x = x' ∧ j = j' ∧ e = 0
  | .err j' e' => j = j' ∧ e = e' ∧ e' ≠ 0
/-- Behind a count's first byte. -/
def countM (t : List Nat) (c i : Nat) : Res Tok :=
  if c = 42 then lazyM t 0 (-1) i else if c = 43 then lazyM t 1 (-1) i else if c = 63 then lazyM t 0 1 i
  else match bracesM t i with
    | .err j e => .err j e
    | .ok (lo, hi) j => lazyM t lo (hiZ hi) j
def zeroTok : Tok := ⟨0, noSet, 0, 0, false⟩
theorem info_tok : (Tryz.prog.info? 111).map (·.size) = some 10 := by kernel_rfl
theorem load_tok {w : World} {b t : Nat} {l : List Value} (h : Blk w b t l) (hl : l.length = 10) : (loadVar 111 ⟨b, 0, none⟩).run Tryz.prog w = .ok (.agg l.toArray) w :=
  run_loadVar_row w b t _ l.toArray (0, 0) _ h Tryz.underlying111 rfl (by rw [info_tok]; simp [hl])
theorem ret_tok {fn : Func} {R : Ending → World → Prop} {a : Act} {w : World} {b r : Nat} {l : List Value} (hres : fn.results = #[.cell r 111])
    (hr : a.tmps.getD r undef = .pointer (some ⟨b, 0, none⟩)) (h : Blk w b 111 l) (hl : l.length = 10) (hd : a.defers = []) (hR : R (.returned (.agg l.toArray)) w) : bodyPost Tryz.prog fn R .ret a w := by
  have hld := load_tok h hl
  refine bodyPost_ret (v := .agg l.toArray) ?_ hd hR
  have hr' : a.tmps[r]?.getD undef = .pointer (some ⟨b, 0, none⟩) := by simpa using hr
  simp [results, hres, hr', hld, asAddr]
/-- Cells laid one by one. -/
def putCells (w : World) (b : Nat) : Nat → List Value → World
  | _, [] => w
  | o, v :: vs => putCells (w.setCell ⟨b, o, none⟩ v) b (o + 1) vs
theorem Blk.puts {b t : Nat} : ∀ (vs : List Value) (o : Nat) (w : World) (l : List Value), Blk w b t l → o + vs.length ≤ l.length → Blk (putCells w b o vs) b t (l.take o ++ vs ++ l.drop (o + vs.length)) := by
  intro vs
  induction vs with
  | nil => intro o w l h _; simpa [putCells] using h
  | cons v vs ih =>
    intro o w l h hl
    simp only [List.length_cons] at hl
    have := ih (o + 1) _ _ (h.set o v) (by simp; omega)
    unfold putCells
    have e : (l.set o v).take (o + 1) ++ vs ++ (l.set o v).drop (o + 1 + vs.length) = l.take o ++ v :: vs ++ l.drop (o + (v :: vs).length) := by
      have ho : o < l.length := by omega
      have t1 : (l.set o v).take (o + 1) = l.take o ++ [v] := by
        rw [List.set_eq_take_append_cons_drop, if_pos ho, List.take_append]
        rw [List.take_of_length_le (by simp; omega), List.length_take, Nat.min_eq_left (Nat.le_of_lt ho), Nat.add_sub_cancel_left]
        simp
      have t2 : (l.set o v).drop (o + 1 + vs.length) = l.drop (o + (v :: vs).length) := by
        rw [List.drop_set_of_lt (by omega)]
        congr 1
        simp only [List.length_cons]
        omega
      rw [t1, t2]
      simp
    rw [e] at this
    exact this
theorem Blk.puts0 {w : World} {b t : Nat} {l : List Value} (h : Blk w b t l) (vs : List Value) (hl : vs.length = l.length) : Blk (putCells w b 0 vs) b t vs := by
  have := Blk.puts vs 0 w l h (by omega)
  simpa [hl] using this
theorem Blk.farPuts {b t g : Nat} (hne : b ≠ g) : ∀ (vs : List Value) (o : Nat) (w : World) (l : List Value), Blk w b t l → Blk (putCells w g o vs) b t l := by
  intro vs
  induction vs with
  | nil => intro o w l h; exact h
  | cons v vs ih => intro o w l h; exact ih (o + 1) _ l (h.far (p := ⟨g, o, none⟩) hne v)
theorem only_puts {a : World} {b g : Nat} (hg : a.heap.size ≤ g) : ∀ (vs : List Value) (o : Nat) (w : World), a.grownBy w (some b) → a.grownBy (putCells w g o vs) (some b) := by
  intro vs
  induction vs with
  | nil => intro o w h; exact h
  | cons v vs ih =>
    intro o w h
    exact ih (o + 1) _ ⟨h.os, h.tape, h.output, by simpa [World.setCell] using h.size, fun i hi hne => (Below.heap_setCell w ⟨g, o, none⟩ v i (fun e => by simp only at e; omega)).trans (h.block i hi hne)⟩
theorem only_puts_self {b : Nat} : ∀ (vs : List Value) (o : Nat) (a w : World), a.grownBy w (some b) → a.grownBy (putCells w b o vs) (some b) := by
  intro vs
  induction vs with
  | nil => intro o a w h; exact h
  | cons v vs ih => intro o a w h; exact ih (o + 1) a _ (only_setCell h o v)
theorem Rdr.farPuts {w : World} {b g : Nat} {s : ByteArray} {i e : Nat} {lv : Value} (h : Rdr w b s i e lv) (hne : b ≠ g) (hg : 0 < g) (vs : List Value) (o : Nat) : Rdr (putCells w g o vs) b s i e lv :=
  ⟨Blk.farPuts hne vs o w _ h.blk, h.tab.only (only_puts_self vs o w w (only_refl w g)) (by omega), h.ne, h.le, h.size⟩
/-- Ten cells, ten marks. -/
theorem Blk.ten {w : World} {b t : Nat} {u0 u1 u2 u3 u4 u5 u6 u7 u8 u9 : Value} (h : Blk w b t [u0, u1, u2, u3, u4, u5, u6, u7, u8, u9]) :
    (w.cell? ⟨b, 0, none⟩ = some u0 ∧ w.cell? ⟨b, 1, none⟩ = some u1 ∧ w.cell? ⟨b, 2, none⟩ = some u2 ∧ w.cell? ⟨b, 3, none⟩ = some u3 ∧ w.cell? ⟨b, 4, none⟩ = some u4 ∧ w.cell? ⟨b, 5, none⟩ = some u5 ∧ w.cell? ⟨b, 6, none⟩ = some u6 ∧ w.cell? ⟨b, 7, none⟩ = some u7 ∧ w.cell? ⟨b, 8, none⟩ = some u8 ∧ w.cell? ⟨b, 9, none⟩ = some u9) ∧
    w.frozen? ⟨b, 0, none⟩ = false ∧ w.frozen? ⟨b, 1, none⟩ = false ∧ w.frozen? ⟨b, 2, none⟩ = false ∧ w.frozen? ⟨b, 3, none⟩ = false ∧ w.frozen? ⟨b, 4, none⟩ = false ∧ w.frozen? ⟨b, 5, none⟩ = false ∧ w.frozen? ⟨b, 6, none⟩ = false ∧ w.frozen? ⟨b, 7, none⟩ = false ∧ w.frozen? ⟨b, 8, none⟩ = false ∧ w.frozen? ⟨b, 9, none⟩ = false :=
  ⟨⟨h.cell 0, h.cell 1, h.cell 2, h.cell 3, h.cell 4, h.cell 5, h.cell 6, h.cell 7, h.cell 8, h.cell 9⟩, h.frozen 0, h.frozen 1, h.frozen 2, h.frozen 3, h.frozen 4, h.frozen 5, h.frozen 6, h.frozen 7, h.frozen 8, h.frozen 9⟩
end Go.Proofs.YtpiimcbbgalhfaaGreatDoor
/- All cells of a block laid anew. -/
namespace Go.Proofs.YtpiimcbbgalhfaaGreatDoor
set_option maxRecDepth 100000
open Go.RowKit
theorem tokL_noset (k lo : Nat) (hi : Int) (z : Bool) (f t : Nat) : tokL ⟨k, noSet, lo, hi, z⟩ f t = [.int .i64 ((k : Nat) : Int), .int .i64 ((f : Nat) : Int), .int .i64 ((t : Nat) : Int), .int .u64 0, .int .u64 0, .int .u64 0, .int .u64 0, .int .i64 ((lo : Nat) : Int), .int .i64 hi, .bool z] := by
  show [_, _, _, Value.int .u64 (word (fun _ => false) 0), Value.int .u64 (word (fun _ => false) 1), Value.int .u64 (word (fun _ => false) 2), Value.int .u64 (word (fun _ => false) 3), _, _, _] = _
  simp only [word_none]
theorem below_puts {B b : Nat} {a : World} (hB : B ≤ b) : ∀ (vs : List Value) (o : Nat) (w : World), Below B a w → Below B a (putCells w b o vs) := by
  intro vs
  induction vs with
  | nil => intro o w h; exact h
  | cons v vs ih => intro o w h; exact ih (o + 1) _ (h.setCell (p := ⟨b, o, none⟩) hB v)
/-- All cells of a block laid anew. -/
theorem St.all {w0 w : World} {L : BlkL} (h : St w0 w L) (k : Nat) {b : Nat} {t : TypeId} {cs : List Value} (hk : L[k]? = some (b, t, cs)) (vs : List Value) (hl : vs.length = cs.length) : St w0 (putCells w b 0 vs) (L.set k (b, t, vs)) := by
  have hlt : k < L.length := (List.getElem?_eq_some_iff.1 hk).1
  have hLk : L[k] = (b, t, cs) := (List.getElem?_eq_some_iff.1 hk).2
  have hpw := List.pairwise_iff_getElem.1 h.apart
  have hne : ∀ j (hj : j < L.length), j ≠ k → (L[j]).1 ≠ b := by
    intro j hj hjk
    rcases Nat.lt_or_ge j k with hl | hl
    · have := hpw j k hj hlt hl
      rw [hLk] at this
      exact Nat.ne_of_gt this
    · have := hpw k j hlt hj (by omega)
      rw [hLk] at this
      exact Nat.ne_of_lt this
  refine ⟨below_puts (h.ge k hk) vs 0 w h.below, ?_, ?_, ?_⟩
  · intro e he
    obtain ⟨j, hj, rfl⟩ := List.mem_iff_getElem.1 he
    rw [List.length_set] at hj
    rw [List.getElem_set]
    split
    · exact Blk.puts0 (h.get k hk) vs hl
    · rename_i hjk
      exact Blk.farPuts (hne j hj (fun e => hjk e.symm)) vs 0 w _ (h.blk _ (List.getElem_mem hj))
  · intro e he
    obtain ⟨j, hj, rfl⟩ := List.mem_iff_getElem.1 he
    rw [List.length_set] at hj
    rw [List.getElem_set]
    split
    · exact h.ge k hk
    · exact h.base _ (List.getElem_mem hj)
  · rw [List.pairwise_iff_getElem]
    intro i j hi hj hij
    rw [List.length_set] at hi hj
    have e : ∀ x (hx : x < L.length), ((L.set k (b, t, vs))[x]'(by rw [List.length_set]; exact hx)).1 = (L[x]).1 := by
      intro x hx
      rw [List.getElem_set]
      split
      · rename_i hxk
        subst hxk
        rw [hLk]
      · rfl
    rw [e i hi, e j hj]
    exact hpw i j hi hj hij
end Go.Proofs.YtpiimcbbgalhfaaGreatDoor
/- What lies ready, where one block that was there may turn too. -/
namespace Go.Proofs.YtpiimcbbgalhfaaGreatDoor
set_option maxRecDepth 100000
open Go.RowKit
structure StG (w0 w : World) (g : Nat) (L : BlkL) : Prop where
  grown : w0.grownBy w (some g)
  blk : ∀ e ∈ L, Blk w e.1 e.2.1 e.2.2
  base : ∀ e ∈ L, w0.heap.size ≤ e.1
theorem StG.nil (w : World) (g : Nat) : StG w w g [] := ⟨World.grownBy.refl _ _, (fun _ h => by cases h), (fun _ h => by cases h)⟩
theorem StG.size {w0 w : World} {g : Nat} {L : BlkL} (h : StG w0 w g L) : w0.heap.size ≤ w.heap.size := h.grown.size
theorem StG.get {w0 w : World} {g : Nat} {L : BlkL} (h : StG w0 w g L) (k : Nat) {b : Nat} {t : TypeId} {cs : List Value} (hk : L[k]? = some (b, t, cs)) : Blk w b t cs := h.blk _ (List.mem_of_getElem? hk)
theorem StG.below {w0 w w' : World} {g : Nat} {L : BlkL} (h : StG w0 w g L) (hb : Below w.heap.size w w') : StG w0 w' g L :=
  ⟨only_below h.grown hb, fun e he => (h.blk e he).below hb (h.blk e he).lt, h.base⟩
theorem StG.alloc {w0 w : World} {g : Nat} {L : BlkL} (h : StG w0 w g L) {n : Nat} (hn : w.heap.size = n) (cs : List Value) (t : TypeId) : StG w0 (w.alloc (.cells cs.toArray t)) g ((n, t, cs) :: L) := by
  subst hn
  have h2 := h.below ((Below.refl _ w).alloc (Nat.le_refl _) (.cells cs.toArray t))
  refine ⟨h2.grown, ?_, ?_⟩
  · intro e he
    rcases List.mem_cons.1 he with rfl | he
    · exact Blk.new w cs t
    · exact h2.blk e he
  · intro e he
    rcases List.mem_cons.1 he with rfl | he
    · exact h.size
    · exact h.base e he
theorem StG.drewN {w0 w : World} {g : Nat} {L : BlkL} (h : StG w0 w g L) (n : Nat) : StG w0 (w.drewN n) g L := h.below ⟨rfl, rfl, rfl, Nat.le_refl _, fun _ _ => rfl⟩
theorem StG.drew {w0 w : World} {g : Nat} {L : BlkL} (h : StG w0 w g L) : StG w0 w.drew g L := h.below (Below.refl _ w).drew
theorem StG.turn {w0 w w' : World} {g : Nat} {L : BlkL} (h : StG w0 w g L) (hg : w.grownBy w' (some g)) (hlt : g < w0.heap.size) : StG w0 w' g L :=
  ⟨⟨hg.os.trans h.grown.os, hg.tape.trans h.grown.tape, hg.output.trans h.grown.output, Nat.le_trans h.grown.size hg.size, fun i hi hn => (hg.block i (Nat.lt_of_lt_of_le hi h.grown.size) hn).trans (h.grown.block i hi hn)⟩,
    fun e he => (hg.block e.1 (h.blk e he).lt (fun q => by injection q with q; have := h.base e he; omega)).trans (h.blk e he), h.base⟩
theorem StG.tail {w0 w : World} {g : Nat} {x : Nat × TypeId × List Value} {L : BlkL} (h : StG w0 w g (x :: L)) : StG w0 w g L :=
  ⟨h.grown, fun e he => h.blk e (List.mem_cons_of_mem _ he), fun e he => h.base e (List.mem_cons_of_mem _ he)⟩
theorem StG.ten {w0 w : World} {g : Nat} {L : BlkL} (h : StG w0 w g L) (k : Nat) {b : Nat} {t : TypeId} {u0 u1 u2 u3 u4 u5 u6 u7 u8 u9 : Value} (hk : L[k]? = some (b, t, [u0, u1, u2, u3, u4, u5, u6, u7, u8, u9])) :
    w.cell? ⟨b, 0, none⟩ = some u0 ∧ w.cell? ⟨b, 1, none⟩ = some u1 ∧ w.cell? ⟨b, 2, none⟩ = some u2 ∧ w.cell? ⟨b, 3, none⟩ = some u3 ∧ w.cell? ⟨b, 4, none⟩ = some u4 ∧ w.cell? ⟨b, 5, none⟩ = some u5 ∧ w.cell? ⟨b, 6, none⟩ = some u6 ∧ w.cell? ⟨b, 7, none⟩ = some u7 ∧ w.cell? ⟨b, 8, none⟩ = some u8 ∧ w.cell? ⟨b, 9, none⟩ = some u9 :=
  let g := h.get k hk
  ⟨g.cell 0, g.cell 1, g.cell 2, g.cell 3, g.cell 4, g.cell 5, g.cell 6, g.cell 7, g.cell 8, g.cell 9⟩
end Go.Proofs.YtpiimcbbgalhfaaGreatDoor
