/- class: the set of a class, at its bracket. -/
import Derived.Test.YtofhkgafgnldnaaDoorSpan
import Derived.Test.YtofhkgafgnldnaaDoorTokR
import Derived.Deep.RegionWith
namespace Go.Proofs.YtofhkgafgnldnaaDoor
open Go.RowKit
/-- Where the reader in block b stands; its error. -/
def posOf (w : World) (b : Nat) : Nat := match w.cell? ⟨b, 1, none⟩ with | some (.int _ n) => n.toNat | _ => 0
def errOf (w : World) (b : Nat) : Nat := match w.cell? ⟨b, 2, none⟩ with | some (.int _ n) => n.toNat | _ => 0
theorem Rdr.pos {w : World} {b : Nat} {s : ByteArray} {i e : Nat} {lv : Value} (h : Rdr w b s i e lv) : posOf w b = i ∧ errOf w b = e := by
  obtain ⟨_, c1, c2, _⟩ := h.cells
  unfold posOf errOf
  rw [c1, c2]
  simp
/-- What the rounds ahead leave: all well, and the rest is to come; or it has failed. -/
def ClassAt (t : List Nat) (i0 : Nat) (m : Nat → Bool) (j e : Nat) : Prop := (e = 0 ∧ classBody t i0 = classFrom t m j) ∨ (e ≠ 0 ∧ classBody t i0 = .err j e)
theorem classAt_first {t : List Nat} {i0 : Nat} {m : Nat → Bool} {j e : Nat} (h : SetIs (spanM t i0) m j e) : ClassAt t i0 m j e := by
  unfold ClassAt
  rw [classBody_from]
  cases hs : spanM t i0 with
  | err k k' =>
    rw [hs] at h
    obtain ⟨rfl, rfl, h3⟩ := h
    exact .inr ⟨h3, rfl⟩
  | ok m' k =>
    rw [hs] at h
    obtain ⟨rfl, rfl, rfl⟩ := h
    exact .inl ⟨rfl, rfl⟩
theorem classAt_next {t : List Nat} {i0 : Nat} {m m2 : Nat → Bool} {i j e : Nat} (h : classBody t i0 = classFrom t m i) (hi : i ≤ t.length) (hn : t[i]? ≠ some 93) (hs : SetIs (spanM t i) m2 j e) : ClassAt t i0 (anyM [m, m2]) j e := by
  unfold ClassAt
  rw [h, classFrom_next m hi hn]
  cases hsp : spanM t i with
  | err k k' =>
    rw [hsp] at hs
    obtain ⟨rfl, rfl, h3⟩ := hs
    exact .inr ⟨h3, rfl⟩
  | ok m' k =>
    rw [hsp] at hs
    obtain ⟨rfl, rfl, rfl⟩ := hs
    exact .inl ⟨rfl, rfl⟩
theorem classM_of {t : List Nat} {i i0 : Nat} {nt : Bool} (hI : isI t (i + 1) 94 = i0) (hN : isB t (i + 1) 94 = nt) :
    classM t i = match classBody t i0 with | .err j e => .err j e | .ok m j => .ok (if nt = true then notM m else m) j := by
  unfold classM
  by_cases h : t[i + 1]? = some 94
  · rw [if_pos h]
    obtain ⟨e1, e2⟩ := isB_yes h
    rw [e2] at hI
    rw [e1] at hN
    subst hI hN
    simp
    rfl
  · rw [if_neg h]
    obtain ⟨e1, e2⟩ := isB_no h
    rw [e2] at hI
    rw [e1] at hN
    subst hI hN
    cases classBody t (i + 1) <;> simp
set_option maxRecDepth 100000 in
set_option maxHeartbeats 4000000 in
theorem class_at {w : World} {b : Nat} {s : ByteArray} {i : Nat} {lv : Value} (h : Rdr w b s i 0 lv) (hi : i + 1 ≤ s.size) :
    Calls Tryd.prog 18 #[.pointer (some ⟨b, 0, none⟩)] w fun v w' => ∃ m j e, v = .returned (setV m) ∧ Rdr w' b s j e lv ∧ w.grownBy w' (some b) ∧ SetIs (classM (bytesN s) i) m j e := by
  have hblt := h.blk.lt
  have hsz := h.size
  obtain ⟨_, c1, _, _, f1, _, _⟩ := h.cells
  go_enter Tryd.func18, Tryd.ntmps18
  go_wp2_with fail
  obtain ⟨hr, g⟩ := h.inc hi
  have hR := Blk.new (w.setCell ⟨b, 1, none⟩ (.int .i64 (((i : Nat) : Int) + 1))) (setL noSet) 32
  rw [setL_none, show (w.setCell ⟨b, 1, none⟩ (.int .i64 (((i : Nat) : Int) + 1))).heap.size = w.heap.size by simp [World.setCell], ← setL_none] at hR
  replace hr := hr.below ((Below.refl _ _).alloc (Nat.le_refl _) (.cells (setL noSet).toArray 32))
  replace g := only_alloc g (.cells (setL noSet).toArray 32)
  rw [show (setL noSet).toArray = #[.int .u64 0, .int .u64 0, .int .u64 0, .int .u64 0] by rw [setL_none]] at hr g hR
  clear c1 f1
  generalize (w.setCell _ _).alloc _ = wa at *
  refine (is_at 94 hr).mono ?_
  rintro v w0 ⟨rfl, hr, hg⟩
  replace hR := Blk.turn hR hg (by omega)
  replace g := only_trans g hg
  clear hg
  generalize hi0 : isI (bytesN s) (i + 1) 94 = i0 at *
  generalize hnot : isB (bytesN s) (i + 1) 94 = nt at *
  have HI0 := Lib.hid hi0
  have HNT := Lib.hid hnot
  clear hi0 hnot
  go_wp2_with fail
  refine (span_at hr).mono ?_
  rintro v w0 ⟨m1, j1, e1, rfl, hr, hg, hs1⟩
  replace hR := Blk.turn hR hg (by omega)
  replace g := only_trans g hg
  clear hg
  have HC := Lib.hid (classAt_first hs1)
  clear hs1
  unfold setV
  go_wp2
  have h4 : Blk (w0.alloc (.cells #[.int .u64 (word m1 0), .int .u64 (word m1 1), .int .u64 (word m1 2), .int .u64 (word m1 3)] 32)) w0.heap.size 32 (setL m1) := Blk.new w0 (setL m1) 32
  have kh4 : w.heap.size < w0.heap.size := hR.lt
  have jh4 : b < w0.heap.size := hr.blk.lt
  replace g := only_alloc g (.cells #[.int .u64 (word m1 0), .int .u64 (word m1 1), .int .u64 (word m1 2), .int .u64 (word m1 3)] 32)
  replace hR := hR.alloc (.cells #[.int .u64 (word m1 0), .int .u64 (word m1 1), .int .u64 (word m1 2), .int .u64 (word m1 3)] 32)
  replace hr := hr.below ((Below.refl _ w0).alloc (Nat.le_refl _) (.cells #[.int .u64 (word m1 0), .int .u64 (word m1 1), .int .u64 (word m1 2), .int .u64 (word m1 3)] 32))
  generalize w0.alloc _ = wn at *
  generalize w0.heap.size = b4 at *
  go_loopw [] (fun wr => ∃ m j e, Rdr wr b s j e lv ∧ Blk wr b4 32 (setL m) ∧ Blk wr w.heap.size 32 (setL noSet) ∧ w.grownBy wr (some b) ∧ ClassAt (bytesN s) i0 m j e) (fun wr => if errOf wr b = 0 then s.size + 1 - posOf wr b else 0)
  case atStart => exact ⟨m1, j1, e1, hr, h4, hR, g, HC.out⟩
  case round =>
    obtain ⟨m, j, e, hr, h4, hR, g, hC⟩ := hrel
    have HP := Lib.hid hr.pos
    have hle := hr.le
    have hne4 : b4 ≠ w.heap.size := by omega
    rcases hC with ⟨rfl, hcf⟩ | ⟨he, hcf⟩
    · have HCF := Lib.hid hcf
      clear hcf
      by_cases h93 : (bytesN s)[j]? = some 93
      · have H93 := Lib.hid h93
        clear h93
        go_wp2_with fail
        refine (bad_at hr).mono ?_
        rintro v w0 ⟨rfl, hb⟩
        replace hR := hR.below hb hR.lt
        replace h4 := h4.below hb h4.lt
        replace g := only_below g hb
        replace hr := hr.below hb
        clear hb
        rw [show decide ((0 : Nat) ≠ 0) = false from rfl]
        go_wp2_with fail
        refine (is_at 93 hr).mono ?_
        rintro v w0 ⟨rfl, hr, hg⟩
        rw [(isB_yes H93.out).2] at hr
        rw [(isB_yes H93.out).1]
        replace hR := Blk.turn hR hg (by omega)
        replace h4 := Blk.turn h4 hg (by omega)
        replace g := only_trans g hg
        clear hg
        cases hnt : nt with
        | true =>
          have HQ := Lib.hid hnt
          clear hnt
          obtain ⟨x0, x1, x2, x3, _, _, _, _⟩ := h4.four
          go_wp2_with fail
          refine (not_any m _).mono ?_
          rintro v w0 ⟨rfl, hb⟩
          clear x0 x1 x2 x3
          replace hR := hR.below hb hR.lt
          replace h4 := h4.below hb h4.lt
          replace g := only_below g hb
          replace hr := hr.below hb
          clear hb
          unfold setV
          obtain ⟨x0, x1, x2, x3, p0, p1, p2, p3⟩ := h4.four
          go_upto_region 8 with fail
          have hRa := hR.far4 (g := b4) (by omega) (.int .u64 (word (fun x => !m x) 0)) (.int .u64 (word (fun x => !m x) 1)) (.int .u64 (word (fun x => !m x) 2)) (.int .u64 (word (fun x => !m x) 3))
          have hra := hr.far4 (g := b4) (by omega) (by have := tab_lt h.tab; omega) (.int .u64 (word (fun x => !m x) 0)) (.int .u64 (word (fun x => !m x) 1)) (.int .u64 (word (fun x => !m x) 2)) (.int .u64 (word (fun x => !m x) 3))
          have h4a := h4.set4 (.int .u64 (word (fun x => !m x) 0)) (.int .u64 (word (fun x => !m x) 1)) (.int .u64 (word (fun x => !m x) 2)) (.int .u64 (word (fun x => !m x) 3))
          have ga := only_set4' g (g := b4) (by omega) (.int .u64 (word (fun x => !m x) 0)) (.int .u64 (word (fun x => !m x) 1)) (.int .u64 (word (fun x => !m x) 2)) (.int .u64 (word (fun x => !m x) 3))
          clear x0 x1 x2 x3 p0 p1 p2 p3 hR hr h4 g
          generalize (((w0.setCell _ _).setCell _ _).setCell _ _).setCell _ _ = wz at *
          obtain ⟨x0, x1, x2, x3, _, _, _, _⟩ := h4a.four
          obtain ⟨y0, y1, y2, y3, k0, k1, k2, k3⟩ := hRa.four
          go_wp2
          refine ret_set (b := w.heap.size) rfl rfl (hRa.set4 _ _ _ _) rfl ?_
          exact ⟨fun x => !m x, j + 1, 0, rfl, hra.far4 (by omega) (by have := tab_lt h.tab; omega) _ _ _ _, only_set4' ga (Nat.le_refl _) _ _ _ _, by rw [classM_of HI0.out (HNT.out.trans HQ.out), HCF.out, classFrom_end m H93.out]; exact ⟨rfl, rfl, rfl⟩⟩
        | false =>
          have HQ := Lib.hid hnt
          clear hnt
          obtain ⟨x0, x1, x2, x3, _, _, _, _⟩ := h4.four
          obtain ⟨y0, y1, y2, y3, k0, k1, k2, k3⟩ := hR.four
          go_wp2
          refine ret_set (b := w.heap.size) rfl rfl (hR.set4 _ _ _ _) rfl ?_
          exact ⟨m, j + 1, 0, rfl, hr.far4 (by omega) (by have := tab_lt h.tab; omega) _ _ _ _, only_set4' g (Nat.le_refl _) _ _ _ _, by rw [classM_of HI0.out (HNT.out.trans HQ.out), HCF.out, classFrom_end m H93.out]; exact ⟨rfl, rfl, rfl⟩⟩
      · have H93 := Lib.hid h93
        clear h93
        go_wp2_with fail
        refine (bad_at hr).mono ?_
        rintro v w0 ⟨rfl, hb⟩
        replace hR := hR.below hb hR.lt
        replace h4 := h4.below hb h4.lt
        replace g := only_below g hb
        replace hr := hr.below hb
        clear hb
        rw [show decide ((0 : Nat) ≠ 0) = false from rfl]
        go_wp2_with fail
        refine (is_at 93 hr).mono ?_
        rintro v w0 ⟨rfl, hr, hg⟩
        rw [(isB_no H93.out).2] at hr
        rw [(isB_no H93.out).1]
        replace hR := Blk.turn hR hg (by omega)
        replace h4 := Blk.turn h4 hg (by omega)
        replace g := only_trans g hg
        clear hg
        go_wp2_with fail
        have hrd := hr.below (Below.refl _ _).drew
        have h4d := h4.drew
        obtain ⟨x0, x1, x2, x3, _, _, _, _⟩ := h4d.four
        go_region_with (first
          | (go_at_call 35; refine (span_at hrd).mono ?_; rintro v w5 ⟨m2, j2, e2, rfl, hr2, hg2, hs2⟩; have h42 := Blk.turn h4d hg2 (by omega); obtain ⟨z0, z1, z2, z3, _, _, _, _⟩ := h42.four; have hrn := run_build2 m m2 w5; have hrdS := rdS_new w5 [m, m2] 32 (by simp) _ rfl; unfold setV at hrn; unfold setV)
          | (go_at_call 36; refine (union_any [m, m2] _ _ hrdS).mono ?_; rintro v w6 ⟨rfl, hb6⟩; have hb56 := Below.trans ((Below.refl _ w5).alloc (Nat.le_refl _) _) (hb6.mono (by simp)); have h46 := h42.below hb56 h42.lt; obtain ⟨y0, y1, y2, y3, k0, k1, k2, k3⟩ := h46.four; unfold setV))
        all_goals
          have hr6 := hr2.below hb56
          have hR6 := (Blk.turn hR.drew hg2 (by omega)).below hb56 (Blk.turn hR.drew hg2 (by omega)).lt
          have g6 := only_below (only_trans (only_below g (Below.refl _ _).drew) hg2) hb56
          have hz := hr6.far4 (g := b4) (by omega) (by have := tab_lt h.tab; omega) (.int .u64 (word (anyM [m, m2]) 0)) (.int .u64 (word (anyM [m, m2]) 1)) (.int .u64 (word (anyM [m, m2]) 2)) (.int .u64 (word (anyM [m, m2]) 3))
          have HZ := Lib.hid hz
          have HZp := Lib.hid hz.pos
          have HCn := Lib.hid (classAt_next HCF.out (by rw [bytesN_length]; exact hle) H93.out hs2)
          have HS2 := Lib.hid hs2
          clear hz hs2
          go_wp2
          go_roundw
          case rel => exact ⟨anyM [m, m2], j2, e2, HZ.out, h46.set4 _ _ _ _, hR6.far4 (by omega) _ _ _ _, only_set4' g6 (by omega) _ _ _ _, HCn.out⟩
          case measure =>
            rw [HZp.out.1, HZp.out.2, HP.out.1, HP.out.2, if_pos rfl]
            split
            · rename_i he0
              subst he0
              have hs := HS2.out
              unfold SetIs at hs
              cases hsp : spanM (bytesN s) j with
              | err k k' =>
                rw [hsp] at hs
                obtain ⟨_, h2, h3⟩ := hs
                exact absurd h2.symm h3
              | ok m' k =>
                rw [hsp] at hs
                obtain ⟨_, rfl, _⟩ := hs
                have hl := spanM_le hsp
                rw [bytesN_length] at hl
                omega
            · omega
    · have HCF := Lib.hid hcf
      clear hcf
      go_wp2_with fail
      refine (bad_at hr).mono ?_
      rintro v w0 ⟨rfl, hb⟩
      replace hR := hR.below hb hR.lt
      replace h4 := h4.below hb h4.lt
      replace g := only_below g hb
      replace hr := hr.below hb
      clear hb
      rw [show decide (e ≠ 0) = true from decide_eq_true he]
      cases hnt : nt with
      | true =>
        have HQ := Lib.hid hnt
        clear hnt
        obtain ⟨x0, x1, x2, x3, _, _, _, _⟩ := h4.four
        go_wp2_with fail
        refine (not_any m _).mono ?_
        rintro v w0 ⟨rfl, hb⟩
        clear x0 x1 x2 x3
        replace hR := hR.below hb hR.lt
        replace h4 := h4.below hb h4.lt
        replace g := only_below g hb
        replace hr := hr.below hb
        clear hb
        unfold setV
        obtain ⟨x0, x1, x2, x3, p0, p1, p2, p3⟩ := h4.four
        go_upto_region 8 with fail
        have hRa := hR.far4 (g := b4) (by omega) (.int .u64 (word (fun x => !m x) 0)) (.int .u64 (word (fun x => !m x) 1)) (.int .u64 (word (fun x => !m x) 2)) (.int .u64 (word (fun x => !m x) 3))
        have hra := hr.far4 (g := b4) (by omega) (by have := tab_lt h.tab; omega) (.int .u64 (word (fun x => !m x) 0)) (.int .u64 (word (fun x => !m x) 1)) (.int .u64 (word (fun x => !m x) 2)) (.int .u64 (word (fun x => !m x) 3))
        have h4a := h4.set4 (.int .u64 (word (fun x => !m x) 0)) (.int .u64 (word (fun x => !m x) 1)) (.int .u64 (word (fun x => !m x) 2)) (.int .u64 (word (fun x => !m x) 3))
        have ga := only_set4' g (g := b4) (by omega) (.int .u64 (word (fun x => !m x) 0)) (.int .u64 (word (fun x => !m x) 1)) (.int .u64 (word (fun x => !m x) 2)) (.int .u64 (word (fun x => !m x) 3))
        clear x0 x1 x2 x3 p0 p1 p2 p3 hR hr h4 g
        generalize (((w0.setCell _ _).setCell _ _).setCell _ _).setCell _ _ = wz at *
        obtain ⟨x0, x1, x2, x3, _, _, _, _⟩ := h4a.four
        obtain ⟨y0, y1, y2, y3, k0, k1, k2, k3⟩ := hRa.four
        go_wp2
        refine ret_set (b := w.heap.size) rfl rfl (hRa.set4 _ _ _ _) rfl ?_
        exact ⟨fun x => !m x, j, e, rfl, hra.far4 (by omega) (by have := tab_lt h.tab; omega) _ _ _ _, only_set4' ga (Nat.le_refl _) _ _ _ _, by rw [classM_of HI0.out rfl, HCF.out]; exact ⟨rfl, rfl, he⟩⟩
      | false =>
        have HQ := Lib.hid hnt
        clear hnt
        obtain ⟨x0, x1, x2, x3, _, _, _, _⟩ := h4.four
        obtain ⟨y0, y1, y2, y3, k0, k1, k2, k3⟩ := hR.four
        go_wp2
        refine ret_set (b := w.heap.size) rfl rfl (hR.set4 _ _ _ _) rfl ?_
        exact ⟨m, j, e, rfl, hr.far4 (by omega) (by have := tab_lt h.tab; omega) _ _ _ _, only_set4' g (Nat.le_refl _) _ _ _ _, by rw [classM_of HI0.out rfl, HCF.out]; exact ⟨rfl, rfl, he⟩⟩
end Go.Proofs.YtofhkgafgnldnaaDoor
