/- braces: what stands in braces. -/
import Derived.Test.YtofhkgafgnldnaaDoorNum
namespace Go.Proofs.YtofhkgafgnldnaaDoor
open Go.RowKit
def BracesIs (r : Res (Nat × Option Nat)) (lo : Nat) (hi : Int) (j e : Nat) : Prop := match r with
  | .ok (l, o) j' => lo = l ∧ hi = hiZ o ∧ j = j' ∧ e = 0
  | .err j' e' => j = j' ∧ e = e' ∧ e' ≠ 0
set_option maxRecDepth 100000 in
set_option maxHeartbeats 1000000 in
theorem bra_a {w : World} {b : Nat} {s : ByteArray} {i : Nat} {lv : Value} (h : Rdr w b s i 0 lv) (j e : Nat) (h1 : numberM (bytesN s) i = .err j e)  :
    Calls Tryd.prog 42 #[.pointer (some ⟨b, 0, none⟩)] w fun v w' => ∃ lo hi j e, v = .returned (.tuple #[.int .i64 ((lo : Nat) : Int), .int .i64 hi]) ∧ Rdr w' b s j e lv ∧ w.grownBy w' (some b) ∧ BracesIs (bracesM (bytesN s) i) lo hi j e := by
  have HX := Lib.hid (show bracesM (bytesN s) i = .err j e by unfold bracesM; rw [h1])
  have H1 := Lib.hid h1
  clear h1
  have hsz := h.size
  have hr := h
  have g := only_refl w b
  go_enter Tryd.func42, Tryd.ntmps42
  go_wp2_with fail
  refine (number_at hr).mono ?_
  rintro v w0 ⟨n1, j1, e1, rfl, hr, hg, hn⟩
  rw [H1.out] at hn
  obtain ⟨rfl, rfl, he⟩ := hn
  replace g := only_trans g hg
  clear hg
  have hln1 := hr.le
  go_wp2_with fail
  refine (bad_at hr).mono ?_
  rintro v w0 ⟨rfl, hb⟩
  replace hr := hr.below hb
  replace g := only_below g hb
  clear hb
  rw [show decide (e1 ≠ 0) = true from decide_eq_true he]
  go_wp2_with fail
  refine (bad_at hr).mono ?_
  rintro v w0 ⟨rfl, hb⟩
  replace hr := hr.below hb
  replace g := only_below g hb
  clear hb
  rw [show decide (e1 ≠ 0) = true from decide_eq_true he]
  go_wp2
  go_returns
  exact ⟨n1, ((n1 : Nat) : Int), j1, e1, rfl, hr, g, by rw [HX.out]; exact ⟨rfl, rfl, he⟩⟩
set_option maxRecDepth 100000 in
set_option maxHeartbeats 1000000 in
theorem bra_b1 {w : World} {b : Nat} {s : ByteArray} {i : Nat} {lv : Value} (h : Rdr w b s i 0 lv) (lo j : Nat) (h1 : numberM (bytesN s) i = .ok lo j) (h2 : (bytesN s)[j]? ≠ some 44) (h3 : (bytesN s)[j]? = some 125) :
    Calls Tryd.prog 42 #[.pointer (some ⟨b, 0, none⟩)] w fun v w' => ∃ lo hi j e, v = .returned (.tuple #[.int .i64 ((lo : Nat) : Int), .int .i64 hi]) ∧ Rdr w' b s j e lv ∧ w.grownBy w' (some b) ∧ BracesIs (bracesM (bytesN s) i) lo hi j e := by
  have HX := Lib.hid (show bracesM (bytesN s) i = .ok (lo, some lo) (j + 1) by unfold bracesM; rw [h1]; simp only []; rw [if_neg h2, if_pos h3])
  have H1 := Lib.hid h1
  have H2 := Lib.hid h2
  have H3 := Lib.hid h3
  clear h1 h2 h3
  have hsz := h.size
  have hr := h
  have g := only_refl w b
  go_enter Tryd.func42, Tryd.ntmps42
  go_wp2_with fail
  refine (number_at hr).mono ?_
  rintro v w0 ⟨n1, j1, e1, rfl, hr, hg, hn⟩
  rw [H1.out] at hn
  obtain ⟨rfl, rfl, rfl⟩ := hn
  replace g := only_trans g hg
  clear hg
  have hln1 := hr.le
  go_wp2_with fail
  refine (bad_at hr).mono ?_
  rintro v w0 ⟨rfl, hb⟩
  replace hr := hr.below hb
  replace g := only_below g hb
  clear hb
  rw [show decide ((0 : Nat) ≠ 0) = false from rfl]
  go_wp2_with fail
  refine (is_at 44 hr).mono ?_
  rintro v w0 ⟨rfl, hr, hg⟩
  rw [(isB_no H2.out).2] at hr
  rw [(isB_no H2.out).1]
  replace g := only_trans g hg
  clear hg
  go_wp2_with fail
  refine (bad_at hr).mono ?_
  rintro v w0 ⟨rfl, hb⟩
  replace hr := hr.below hb
  replace g := only_below g hb
  clear hb
  rw [show decide ((0 : Nat) ≠ 0) = false from rfl]
  go_wp2_with fail
  refine (is_at 125 hr).mono ?_
  rintro v w0 ⟨rfl, hr, hg⟩
  rw [(isB_yes H3.out).2] at hr
  rw [(isB_yes H3.out).1]
  replace g := only_trans g hg
  clear hg
  go_wp2
  go_returns
  exact ⟨n1, ((n1 : Nat) : Int), j1 + 1, 0, rfl, hr, g, by rw [HX.out]; exact ⟨rfl, rfl, rfl, rfl⟩⟩
set_option maxRecDepth 100000 in
set_option maxHeartbeats 1000000 in
theorem bra_b2 {w : World} {b : Nat} {s : ByteArray} {i : Nat} {lv : Value} (h : Rdr w b s i 0 lv) (lo j : Nat) (h1 : numberM (bytesN s) i = .ok lo j) (h2 : (bytesN s)[j]? ≠ some 44) (h3 : (bytesN s)[j]? ≠ some 125) :
    Calls Tryd.prog 42 #[.pointer (some ⟨b, 0, none⟩)] w fun v w' => ∃ lo hi j e, v = .returned (.tuple #[.int .i64 ((lo : Nat) : Int), .int .i64 hi]) ∧ Rdr w' b s j e lv ∧ w.grownBy w' (some b) ∧ BracesIs (bracesM (bytesN s) i) lo hi j e := by
  have HX := Lib.hid (show bracesM (bytesN s) i = .err j 4 by unfold bracesM; rw [h1]; simp only []; rw [if_neg h2, if_neg h3])
  have H1 := Lib.hid h1
  have H2 := Lib.hid h2
  have H3 := Lib.hid h3
  clear h1 h2 h3
  have hsz := h.size
  have hr := h
  have g := only_refl w b
  go_enter Tryd.func42, Tryd.ntmps42
  go_wp2_with fail
  refine (number_at hr).mono ?_
  rintro v w0 ⟨n1, j1, e1, rfl, hr, hg, hn⟩
  rw [H1.out] at hn
  obtain ⟨rfl, rfl, rfl⟩ := hn
  replace g := only_trans g hg
  clear hg
  have hln1 := hr.le
  go_wp2_with fail
  refine (bad_at hr).mono ?_
  rintro v w0 ⟨rfl, hb⟩
  replace hr := hr.below hb
  replace g := only_below g hb
  clear hb
  rw [show decide ((0 : Nat) ≠ 0) = false from rfl]
  go_wp2_with fail
  refine (is_at 44 hr).mono ?_
  rintro v w0 ⟨rfl, hr, hg⟩
  rw [(isB_no H2.out).2] at hr
  rw [(isB_no H2.out).1]
  replace g := only_trans g hg
  clear hg
  go_wp2_with fail
  refine (bad_at hr).mono ?_
  rintro v w0 ⟨rfl, hb⟩
  replace hr := hr.below hb
  replace g := only_below g hb
  clear hb
  rw [show decide ((0 : Nat) ≠ 0) = false from rfl]
  go_wp2_with fail
  refine (is_at 125 hr).mono ?_
  rintro v w0 ⟨rfl, hr, hg⟩
  rw [(isB_no H3.out).2] at hr
  rw [(isB_no H3.out).1]
  replace g := only_trans g hg
  clear hg
  obtain ⟨_, c1, _, _, f1, _, _⟩ := hr.cells
  go_wp2_with fail
  go_still_tail 8, (by kernel_rfl)
  change wpList _ _ _ _ _ w0.drew
  go_wp2_with fail
  refine (fail_at (k := 4) (hr.below (Below.refl _ _).drew) (by omega)).mono ?_
  rintro v w1 ⟨⟨u, rfl⟩, hr, hg⟩
  replace g := only_trans g (only_trans (only_of b (Below.refl w0.heap.size _).drew) hg)
  clear hg c1 f1
  go_wp2
  go_returns
  exact ⟨n1, ((n1 : Nat) : Int), j1, 4, rfl, hr, g, by rw [HX.out]; exact ⟨rfl, rfl, by omega⟩⟩
set_option maxRecDepth 100000 in
set_option maxHeartbeats 1000000 in
theorem bra_c1 {w : World} {b : Nat} {s : ByteArray} {i : Nat} {lv : Value} (h : Rdr w b s i 0 lv) (lo j : Nat) (h1 : numberM (bytesN s) i = .ok lo j) (h2 : (bytesN s)[j]? = some 44) (h3 : (bytesN s)[j + 1]? = some 125) :
    Calls Tryd.prog 42 #[.pointer (some ⟨b, 0, none⟩)] w fun v w' => ∃ lo hi j e, v = .returned (.tuple #[.int .i64 ((lo : Nat) : Int), .int .i64 hi]) ∧ Rdr w' b s j e lv ∧ w.grownBy w' (some b) ∧ BracesIs (bracesM (bytesN s) i) lo hi j e := by
  have HX := Lib.hid (show bracesM (bytesN s) i = .ok (lo, none) (j + 2) by unfold bracesM; rw [h1]; simp only []; rw [if_pos h2, if_pos h3])
  have H1 := Lib.hid h1
  have H2 := Lib.hid h2
  have H3 := Lib.hid h3
  clear h1 h2 h3
  have HPk := Lib.hid (show peekV (bytesN s) (j + 1) = .tuple #[.int .u8 125, .bool true] by unfold peekV; rw [H3.out]; rfl)
  have hsz := h.size
  have hr := h
  have g := only_refl w b
  go_enter Tryd.func42, Tryd.ntmps42
  go_wp2_with fail
  refine (number_at hr).mono ?_
  rintro v w0 ⟨n1, j1, e1, rfl, hr, hg, hn⟩
  rw [H1.out] at hn
  obtain ⟨rfl, rfl, rfl⟩ := hn
  replace g := only_trans g hg
  clear hg
  have hln1 := hr.le
  go_wp2_with fail
  refine (bad_at hr).mono ?_
  rintro v w0 ⟨rfl, hb⟩
  replace hr := hr.below hb
  replace g := only_below g hb
  clear hb
  rw [show decide ((0 : Nat) ≠ 0) = false from rfl]
  go_wp2_with fail
  refine (is_at 44 hr).mono ?_
  rintro v w0 ⟨rfl, hr, hg⟩
  rw [(isB_yes H2.out).2] at hr
  rw [(isB_yes H2.out).1]
  replace g := only_trans g hg
  clear hg
  go_wp2_with fail
  refine (peek_at hr).mono ?_
  rintro v w0 ⟨rfl, hb⟩
  replace hr := hr.below hb
  replace g := only_below g hb
  clear hb
  rw [HPk.out]
  go_wp2_with fail
  refine (bad_at hr).mono ?_
  rintro v w0 ⟨rfl, hb⟩
  replace hr := hr.below hb
  replace g := only_below g hb
  clear hb
  rw [show decide ((0 : Nat) ≠ 0) = false from rfl]
  go_wp2_with fail
  refine (is_at 125 hr).mono ?_
  rintro v w0 ⟨rfl, hr, hg⟩
  rw [(isB_yes H3.out).2] at hr
  rw [(isB_yes H3.out).1]
  replace g := only_trans g hg
  clear hg
  go_wp2
  go_returns
  exact ⟨n1, -1, j1 + 1 + 1, 0, rfl, hr, g, by rw [HX.out]; exact ⟨rfl, rfl, rfl, rfl⟩⟩
set_option maxRecDepth 100000 in
set_option maxHeartbeats 1000000 in
theorem bra_c2a {w : World} {b : Nat} {s : ByteArray} {i : Nat} {lv : Value} (h : Rdr w b s i 0 lv) (lo j : Nat) (h1 : numberM (bytesN s) i = .ok lo j) (h2 : (bytesN s)[j]? = some 44) (h3 : (bytesN s)[j + 1]? ≠ some 125) (k e : Nat) (h4 : numberM (bytesN s) (j + 1) = .err k e) :
    Calls Tryd.prog 42 #[.pointer (some ⟨b, 0, none⟩)] w fun v w' => ∃ lo hi j e, v = .returned (.tuple #[.int .i64 ((lo : Nat) : Int), .int .i64 hi]) ∧ Rdr w' b s j e lv ∧ w.grownBy w' (some b) ∧ BracesIs (bracesM (bytesN s) i) lo hi j e := by
  have hpk : (∃ c : Nat, peekV (bytesN s) (j + 1) = .tuple #[.int .u8 ((c : Nat) : Int), .bool true] ∧ ((c : Nat) : Int) ≠ 125) ∨ peekV (bytesN s) (j + 1) = .tuple #[.int .u8 0, .bool false] := by
    unfold peekV
    cases hc : (bytesN s)[j + 1]? with
    | none => exact .inr rfl
    | some c =>
      refine .inl ⟨c, rfl, fun e => ?_⟩
      apply h3
      rw [hc]
      congr 1
      omega
  have HPk := Lib.hid hpk
  clear hpk
  have HX := Lib.hid (show bracesM (bytesN s) i = .err k e by unfold bracesM; rw [h1]; simp only []; rw [if_pos h2, if_neg h3, h4])
  have H1 := Lib.hid h1
  have H2 := Lib.hid h2
  have H3 := Lib.hid h3
  have H4 := Lib.hid h4
  clear h1 h2 h3 h4
  have hsz := h.size
  have hr := h
  have g := only_refl w b
  go_enter Tryd.func42, Tryd.ntmps42
  go_wp2_with fail
  refine (number_at hr).mono ?_
  rintro v w0 ⟨n1, j1, e1, rfl, hr, hg, hn⟩
  rw [H1.out] at hn
  obtain ⟨rfl, rfl, rfl⟩ := hn
  replace g := only_trans g hg
  clear hg
  have hln1 := hr.le
  go_wp2_with fail
  refine (bad_at hr).mono ?_
  rintro v w0 ⟨rfl, hb⟩
  replace hr := hr.below hb
  replace g := only_below g hb
  clear hb
  rw [show decide ((0 : Nat) ≠ 0) = false from rfl]
  go_wp2_with fail
  refine (is_at 44 hr).mono ?_
  rintro v w0 ⟨rfl, hr, hg⟩
  rw [(isB_yes H2.out).2] at hr
  rw [(isB_yes H2.out).1]
  replace g := only_trans g hg
  clear hg
  go_wp2_with fail
  refine (peek_at hr).mono ?_
  rintro v w0 ⟨rfl, hb⟩
  replace hr := hr.below hb
  replace g := only_below g hb
  clear hb
  rcases HPk.out with ⟨c, hp, hne⟩ | hp
  · have HP := Lib.hid hp
    clear hp
    rw [HP.out]
    obtain ⟨_, c1, _, _, f1, _, _⟩ := hr.cells
    go_wp2_with fail
    clear c1 f1
    refine (number_at hr).mono ?_
    rintro v w0 ⟨n2, j2, e2, rfl, hr, hg, hn⟩
    rw [H4.out] at hn
    obtain ⟨rfl, rfl, he⟩ := hn
    replace g := only_trans g hg
    clear hg
    have hln2 := hr.le
    go_wp2_with fail
    refine (bad_at hr).mono ?_
    rintro v w0 ⟨rfl, hb⟩
    replace hr := hr.below hb
    replace g := only_below g hb
    clear hb
    rw [show decide (e2 ≠ 0) = true from decide_eq_true he]
    go_wp2_with fail
    refine (bad_at hr).mono ?_
    rintro v w0 ⟨rfl, hb⟩
    replace hr := hr.below hb
    replace g := only_below g hb
    clear hb
    rw [show decide (e2 ≠ 0) = true from decide_eq_true he]
    go_wp2
    go_returns
    exact ⟨n1, ((n2 : Nat) : Int), j2, e2, rfl, hr, g, by rw [HX.out]; exact ⟨rfl, rfl, he⟩⟩
  · have HP := Lib.hid hp
    clear hp
    rw [HP.out]
    obtain ⟨_, c1, _, _, f1, _, _⟩ := hr.cells
    go_wp2_with fail
    clear c1 f1
    refine (number_at hr).mono ?_
    rintro v w0 ⟨n2, j2, e2, rfl, hr, hg, hn⟩
    rw [H4.out] at hn
    obtain ⟨rfl, rfl, he⟩ := hn
    replace g := only_trans g hg
    clear hg
    have hln2 := hr.le
    go_wp2_with fail
    refine (bad_at hr).mono ?_
    rintro v w0 ⟨rfl, hb⟩
    replace hr := hr.below hb
    replace g := only_below g hb
    clear hb
    rw [show decide (e2 ≠ 0) = true from decide_eq_true he]
    go_wp2_with fail
    refine (bad_at hr).mono ?_
    rintro v w0 ⟨rfl, hb⟩
    replace hr := hr.below hb
    replace g := only_below g hb
    clear hb
    rw [show decide (e2 ≠ 0) = true from decide_eq_true he]
    go_wp2
    go_returns
    exact ⟨n1, ((n2 : Nat) : Int), j2, e2, rfl, hr, g, by rw [HX.out]; exact ⟨rfl, rfl, he⟩⟩
set_option maxRecDepth 100000 in
set_option maxHeartbeats 1000000 in
theorem bra_c2b {w : World} {b : Nat} {s : ByteArray} {i : Nat} {lv : Value} (h : Rdr w b s i 0 lv) (lo j : Nat) (h1 : numberM (bytesN s) i = .ok lo j) (h2 : (bytesN s)[j]? = some 44) (h3 : (bytesN s)[j + 1]? ≠ some 125) (hi k : Nat) (h4 : numberM (bytesN s) (j + 1) = .ok hi k) (h5 : hi < lo) :
    Calls Tryd.prog 42 #[.pointer (some ⟨b, 0, none⟩)] w fun v w' => ∃ lo hi j e, v = .returned (.tuple #[.int .i64 ((lo : Nat) : Int), .int .i64 hi]) ∧ Rdr w' b s j e lv ∧ w.grownBy w' (some b) ∧ BracesIs (bracesM (bytesN s) i) lo hi j e := by
  have hpk : (∃ c : Nat, peekV (bytesN s) (j + 1) = .tuple #[.int .u8 ((c : Nat) : Int), .bool true] ∧ ((c : Nat) : Int) ≠ 125) ∨ peekV (bytesN s) (j + 1) = .tuple #[.int .u8 0, .bool false] := by
    unfold peekV
    cases hc : (bytesN s)[j + 1]? with
    | none => exact .inr rfl
    | some c =>
      refine .inl ⟨c, rfl, fun e => ?_⟩
      apply h3
      rw [hc]
      congr 1
      omega
  have HPk := Lib.hid hpk
  clear hpk
  have HX := Lib.hid (show bracesM (bytesN s) i = .err (j + 1) 5 by unfold bracesM; rw [h1]; simp only []; rw [if_pos h2, if_neg h3, h4]; simp only []; rw [if_pos h5])
  have H1 := Lib.hid h1
  have H2 := Lib.hid h2
  have H3 := Lib.hid h3
  have H4 := Lib.hid h4
  clear h1 h2 h3 h4
  have hsz := h.size
  have hr := h
  have g := only_refl w b
  go_enter Tryd.func42, Tryd.ntmps42
  go_wp2_with fail
  refine (number_at hr).mono ?_
  rintro v w0 ⟨n1, j1, e1, rfl, hr, hg, hn⟩
  rw [H1.out] at hn
  obtain ⟨rfl, rfl, rfl⟩ := hn
  replace g := only_trans g hg
  clear hg
  have hln1 := hr.le
  go_wp2_with fail
  refine (bad_at hr).mono ?_
  rintro v w0 ⟨rfl, hb⟩
  replace hr := hr.below hb
  replace g := only_below g hb
  clear hb
  rw [show decide ((0 : Nat) ≠ 0) = false from rfl]
  go_wp2_with fail
  refine (is_at 44 hr).mono ?_
  rintro v w0 ⟨rfl, hr, hg⟩
  rw [(isB_yes H2.out).2] at hr
  rw [(isB_yes H2.out).1]
  replace g := only_trans g hg
  clear hg
  go_wp2_with fail
  refine (peek_at hr).mono ?_
  rintro v w0 ⟨rfl, hb⟩
  replace hr := hr.below hb
  replace g := only_below g hb
  clear hb
  rcases HPk.out with ⟨c, hp, hne⟩ | hp
  · have HP := Lib.hid hp
    clear hp
    rw [HP.out]
    obtain ⟨_, c1, _, _, f1, _, _⟩ := hr.cells
    have hj1 := hr.le
    go_wp2_with fail
    clear c1 f1
    refine (number_at hr).mono ?_
    rintro v w0 ⟨n2, j2, e2, rfl, hr, hg, hn⟩
    rw [H4.out] at hn
    obtain ⟨rfl, rfl, rfl⟩ := hn
    replace g := only_trans g hg
    clear hg
    have hln2 := hr.le
    go_wp2_with fail
    refine (bad_at hr).mono ?_
    rintro v w0 ⟨rfl, hb⟩
    replace hr := hr.below hb
    replace g := only_below g hb
    clear hb
    rw [show decide ((0 : Nat) ≠ 0) = false from rfl]
    go_wp2_with fail
    refine (fail_at (k := 5) hr (by omega)).mono ?_
    rintro v w0 ⟨⟨u, rfl⟩, hr, hg⟩
    replace g := only_trans g hg
    clear hg
    go_wp2_with fail
    refine (bad_at hr).mono ?_
    rintro v w0 ⟨rfl, hb⟩
    replace hr := hr.below hb
    replace g := only_below g hb
    clear hb
    rw [show decide ((5 : Nat) ≠ 0) = true from rfl]
    go_wp2
    go_returns
    exact ⟨n1, ((n2 : Nat) : Int), j1 + 1, 5, rfl, hr, g, by rw [HX.out]; exact ⟨rfl, rfl, by omega⟩⟩
  · have HP := Lib.hid hp
    clear hp
    rw [HP.out]
    obtain ⟨_, c1, _, _, f1, _, _⟩ := hr.cells
    have hj1 := hr.le
    go_wp2_with fail
    clear c1 f1
    refine (number_at hr).mono ?_
    rintro v w0 ⟨n2, j2, e2, rfl, hr, hg, hn⟩
    rw [H4.out] at hn
    obtain ⟨rfl, rfl, rfl⟩ := hn
    replace g := only_trans g hg
    clear hg
    have hln2 := hr.le
    go_wp2_with fail
    refine (bad_at hr).mono ?_
    rintro v w0 ⟨rfl, hb⟩
    replace hr := hr.below hb
    replace g := only_below g hb
    clear hb
    rw [show decide ((0 : Nat) ≠ 0) = false from rfl]
    go_wp2_with fail
    refine (fail_at (k := 5) hr (by omega)).mono ?_
    rintro v w0 ⟨⟨u, rfl⟩, hr, hg⟩
    replace g := only_trans g hg
    clear hg
    go_wp2_with fail
    refine (bad_at hr).mono ?_
    rintro v w0 ⟨rfl, hb⟩
    replace hr := hr.below hb
    replace g := only_below g hb
    clear hb
    rw [show decide ((5 : Nat) ≠ 0) = true from rfl]
    go_wp2
    go_returns
    exact ⟨n1, ((n2 : Nat) : Int), j1 + 1, 5, rfl, hr, g, by rw [HX.out]; exact ⟨rfl, rfl, by omega⟩⟩
set_option maxRecDepth 100000 in
set_option maxHeartbeats 1000000 in
theorem bra_c2c {w : World} {b : Nat} {s : ByteArray} {i : Nat} {lv : Value} (h : Rdr w b s i 0 lv) (lo j : Nat) (h1 : numberM (bytesN s) i = .ok lo j) (h2 : (bytesN s)[j]? = some 44) (h3 : (bytesN s)[j + 1]? ≠ some 125) (hi k : Nat) (h4 : numberM (bytesN s) (j + 1) = .ok hi k) (h5 : ¬hi < lo) (h6 : (bytesN s)[k]? = some 125) :
    Calls Tryd.prog 42 #[.pointer (some ⟨b, 0, none⟩)] w fun v w' => ∃ lo hi j e, v = .returned (.tuple #[.int .i64 ((lo : Nat) : Int), .int .i64 hi]) ∧ Rdr w' b s j e lv ∧ w.grownBy w' (some b) ∧ BracesIs (bracesM (bytesN s) i) lo hi j e := by
  have hpk : (∃ c : Nat, peekV (bytesN s) (j + 1) = .tuple #[.int .u8 ((c : Nat) : Int), .bool true] ∧ ((c : Nat) : Int) ≠ 125) ∨ peekV (bytesN s) (j + 1) = .tuple #[.int .u8 0, .bool false] := by
    unfold peekV
    cases hc : (bytesN s)[j + 1]? with
    | none => exact .inr rfl
    | some c =>
      refine .inl ⟨c, rfl, fun e => ?_⟩
      apply h3
      rw [hc]
      congr 1
      omega
  have HPk := Lib.hid hpk
  clear hpk
  have HX := Lib.hid (show bracesM (bytesN s) i = .ok (lo, some hi) (k + 1) by unfold bracesM; rw [h1]; simp only []; rw [if_pos h2, if_neg h3, h4]; simp only []; rw [if_neg h5, if_pos h6])
  have H1 := Lib.hid h1
  have H2 := Lib.hid h2
  have H3 := Lib.hid h3
  have H4 := Lib.hid h4
  have H6 := Lib.hid h6
  clear h1 h2 h3 h4 h6
  have hsz := h.size
  have hr := h
  have g := only_refl w b
  go_enter Tryd.func42, Tryd.ntmps42
  go_wp2_with fail
  refine (number_at hr).mono ?_
  rintro v w0 ⟨n1, j1, e1, rfl, hr, hg, hn⟩
  rw [H1.out] at hn
  obtain ⟨rfl, rfl, rfl⟩ := hn
  replace g := only_trans g hg
  clear hg
  have hln1 := hr.le
  go_wp2_with fail
  refine (bad_at hr).mono ?_
  rintro v w0 ⟨rfl, hb⟩
  replace hr := hr.below hb
  replace g := only_below g hb
  clear hb
  rw [show decide ((0 : Nat) ≠ 0) = false from rfl]
  go_wp2_with fail
  refine (is_at 44 hr).mono ?_
  rintro v w0 ⟨rfl, hr, hg⟩
  rw [(isB_yes H2.out).2] at hr
  rw [(isB_yes H2.out).1]
  replace g := only_trans g hg
  clear hg
  go_wp2_with fail
  refine (peek_at hr).mono ?_
  rintro v w0 ⟨rfl, hb⟩
  replace hr := hr.below hb
  replace g := only_below g hb
  clear hb
  rcases HPk.out with ⟨c, hp, hne⟩ | hp
  · have HP := Lib.hid hp
    clear hp
    rw [HP.out]
    obtain ⟨_, c1, _, _, f1, _, _⟩ := hr.cells
    go_wp2_with fail
    clear c1 f1
    refine (number_at hr).mono ?_
    rintro v w0 ⟨n2, j2, e2, rfl, hr, hg, hn⟩
    rw [H4.out] at hn
    obtain ⟨rfl, rfl, rfl⟩ := hn
    replace g := only_trans g hg
    clear hg
    have hln2 := hr.le
    go_wp2_with fail
    refine (bad_at hr).mono ?_
    rintro v w0 ⟨rfl, hb⟩
    replace hr := hr.below hb
    replace g := only_below g hb
    clear hb
    rw [show decide ((0 : Nat) ≠ 0) = false from rfl]
    go_wp2_with fail
    refine (bad_at hr).mono ?_
    rintro v w0 ⟨rfl, hb⟩
    replace hr := hr.below hb
    replace g := only_below g hb
    clear hb
    rw [show decide ((0 : Nat) ≠ 0) = false from rfl]
    go_wp2_with fail
    refine (is_at 125 hr).mono ?_
    rintro v w0 ⟨rfl, hr, hg⟩
    rw [(isB_yes H6.out).2] at hr
    rw [(isB_yes H6.out).1]
    replace g := only_trans g hg
    clear hg
    go_wp2
    go_returns
    exact ⟨n1, ((n2 : Nat) : Int), j2 + 1, 0, rfl, hr, g, by rw [HX.out]; exact ⟨rfl, rfl, rfl, rfl⟩⟩
  · have HP := Lib.hid hp
    clear hp
    rw [HP.out]
    obtain ⟨_, c1, _, _, f1, _, _⟩ := hr.cells
    go_wp2_with fail
    clear c1 f1
    refine (number_at hr).mono ?_
    rintro v w0 ⟨n2, j2, e2, rfl, hr, hg, hn⟩
    rw [H4.out] at hn
    obtain ⟨rfl, rfl, rfl⟩ := hn
    replace g := only_trans g hg
    clear hg
    have hln2 := hr.le
    go_wp2_with fail
    refine (bad_at hr).mono ?_
    rintro v w0 ⟨rfl, hb⟩
    replace hr := hr.below hb
    replace g := only_below g hb
    clear hb
    rw [show decide ((0 : Nat) ≠ 0) = false from rfl]
    go_wp2_with fail
    refine (bad_at hr).mono ?_
    rintro v w0 ⟨rfl, hb⟩
    replace hr := hr.below hb
    replace g := only_below g hb
    clear hb
    rw [show decide ((0 : Nat) ≠ 0) = false from rfl]
    go_wp2_with fail
    refine (is_at 125 hr).mono ?_
    rintro v w0 ⟨rfl, hr, hg⟩
    rw [(isB_yes H6.out).2] at hr
    rw [(isB_yes H6.out).1]
    replace g := only_trans g hg
    clear hg
    go_wp2
    go_returns
    exact ⟨n1, ((n2 : Nat) : Int), j2 + 1, 0, rfl, hr, g, by rw [HX.out]; exact ⟨rfl, rfl, rfl, rfl⟩⟩
set_option maxRecDepth 100000 in
set_option maxHeartbeats 1000000 in
theorem bra_c2d {w : World} {b : Nat} {s : ByteArray} {i : Nat} {lv : Value} (h : Rdr w b s i 0 lv) (lo j : Nat) (h1 : numberM (bytesN s) i = .ok lo j) (h2 : (bytesN s)[j]? = some 44) (h3 : (bytesN s)[j + 1]? ≠ some 125) (hi k : Nat) (h4 : numberM (bytesN s) (j + 1) = .ok hi k) (h5 : ¬hi < lo) (h6 : (bytesN s)[k]? ≠ some 125) :
    Calls Tryd.prog 42 #[.pointer (some ⟨b, 0, none⟩)] w fun v w' => ∃ lo hi j e, v = .returned (.tuple #[.int .i64 ((lo : Nat) : Int), .int .i64 hi]) ∧ Rdr w' b s j e lv ∧ w.grownBy w' (some b) ∧ BracesIs (bracesM (bytesN s) i) lo hi j e := by
  have hpk : (∃ c : Nat, peekV (bytesN s) (j + 1) = .tuple #[.int .u8 ((c : Nat) : Int), .bool true] ∧ ((c : Nat) : Int) ≠ 125) ∨ peekV (bytesN s) (j + 1) = .tuple #[.int .u8 0, .bool false] := by
    unfold peekV
    cases hc : (bytesN s)[j + 1]? with
    | none => exact .inr rfl
    | some c =>
      refine .inl ⟨c, rfl, fun e => ?_⟩
      apply h3
      rw [hc]
      congr 1
      omega
  have HPk := Lib.hid hpk
  clear hpk
  have HX := Lib.hid (show bracesM (bytesN s) i = .err k 4 by unfold bracesM; rw [h1]; simp only []; rw [if_pos h2, if_neg h3, h4]; simp only []; rw [if_neg h5, if_neg h6])
  have H1 := Lib.hid h1
  have H2 := Lib.hid h2
  have H3 := Lib.hid h3
  have H4 := Lib.hid h4
  have H6 := Lib.hid h6
  clear h1 h2 h3 h4 h6
  have hsz := h.size
  have hr := h
  have g := only_refl w b
  go_enter Tryd.func42, Tryd.ntmps42
  go_wp2_with fail
  refine (number_at hr).mono ?_
  rintro v w0 ⟨n1, j1, e1, rfl, hr, hg, hn⟩
  rw [H1.out] at hn
  obtain ⟨rfl, rfl, rfl⟩ := hn
  replace g := only_trans g hg
  clear hg
  have hln1 := hr.le
  go_wp2_with fail
  refine (bad_at hr).mono ?_
  rintro v w0 ⟨rfl, hb⟩
  replace hr := hr.below hb
  replace g := only_below g hb
  clear hb
  rw [show decide ((0 : Nat) ≠ 0) = false from rfl]
  go_wp2_with fail
  refine (is_at 44 hr).mono ?_
  rintro v w0 ⟨rfl, hr, hg⟩
  rw [(isB_yes H2.out).2] at hr
  rw [(isB_yes H2.out).1]
  replace g := only_trans g hg
  clear hg
  go_wp2_with fail
  refine (peek_at hr).mono ?_
  rintro v w0 ⟨rfl, hb⟩
  replace hr := hr.below hb
  replace g := only_below g hb
  clear hb
  rcases HPk.out with ⟨c, hp, hne⟩ | hp
  · have HP := Lib.hid hp
    clear hp
    rw [HP.out]
    obtain ⟨_, c1, _, _, f1, _, _⟩ := hr.cells
    go_wp2_with fail
    clear c1 f1
    refine (number_at hr).mono ?_
    rintro v w0 ⟨n2, j2, e2, rfl, hr, hg, hn⟩
    rw [H4.out] at hn
    obtain ⟨rfl, rfl, rfl⟩ := hn
    replace g := only_trans g hg
    clear hg
    have hln2 := hr.le
    go_wp2_with fail
    refine (bad_at hr).mono ?_
    rintro v w0 ⟨rfl, hb⟩
    replace hr := hr.below hb
    replace g := only_below g hb
    clear hb
    rw [show decide ((0 : Nat) ≠ 0) = false from rfl]
    go_wp2_with fail
    refine (bad_at hr).mono ?_
    rintro v w0 ⟨rfl, hb⟩
    replace hr := hr.below hb
    replace g := only_below g hb
    clear hb
    rw [show decide ((0 : Nat) ≠ 0) = false from rfl]
    go_wp2_with fail
    refine (is_at 125 hr).mono ?_
    rintro v w0 ⟨rfl, hr, hg⟩
    rw [(isB_no H6.out).2] at hr
    rw [(isB_no H6.out).1]
    replace g := only_trans g hg
    clear hg
    obtain ⟨_, c1, _, _, f1, _, _⟩ := hr.cells
    go_wp2_with fail
    go_still_tail 8, (by kernel_rfl)
    change wpList _ _ _ _ _ w0.drew
    go_wp2_with fail
    refine (fail_at (k := 4) (hr.below (Below.refl _ _).drew) (by omega)).mono ?_
    rintro v w1 ⟨⟨u, rfl⟩, hr, hg⟩
    replace g := only_trans g (only_trans (only_of b (Below.refl w0.heap.size _).drew) hg)
    clear hg c1 f1
    go_wp2
    go_returns
    exact ⟨n1, ((n2 : Nat) : Int), j2, 4, rfl, hr, g, by rw [HX.out]; exact ⟨rfl, rfl, by omega⟩⟩
  · have HP := Lib.hid hp
    clear hp
    rw [HP.out]
    obtain ⟨_, c1, _, _, f1, _, _⟩ := hr.cells
    go_wp2_with fail
    clear c1 f1
    refine (number_at hr).mono ?_
    rintro v w0 ⟨n2, j2, e2, rfl, hr, hg, hn⟩
    rw [H4.out] at hn
    obtain ⟨rfl, rfl, rfl⟩ := hn
    replace g := only_trans g hg
    clear hg
    have hln2 := hr.le
    go_wp2_with fail
    refine (bad_at hr).mono ?_
    rintro v w0 ⟨rfl, hb⟩
    replace hr := hr.below hb
    replace g := only_below g hb
    clear hb
    rw [show decide ((0 : Nat) ≠ 0) = false from rfl]
    go_wp2_with fail
    refine (bad_at hr).mono ?_
    rintro v w0 ⟨rfl, hb⟩
    replace hr := hr.below hb
    replace g := only_below g hb
    clear hb
    rw [show decide ((0 : Nat) ≠ 0) = false from rfl]
    go_wp2_with fail
    refine (is_at 125 hr).mono ?_
    rintro v w0 ⟨rfl, hr, hg⟩
    rw [(isB_no H6.out).2] at hr
    rw [(isB_no H6.out).1]
    replace g := only_trans g hg
    clear hg
    obtain ⟨_, c1, _, _, f1, _, _⟩ := hr.cells
    go_wp2_with fail
    go_still_tail 8, (by kernel_rfl)
    change wpList _ _ _ _ _ w0.drew
    go_wp2_with fail
    refine (fail_at (k := 4) (hr.below (Below.refl _ _).drew) (by omega)).mono ?_
    rintro v w1 ⟨⟨u, rfl⟩, hr, hg⟩
    replace g := only_trans g (only_trans (only_of b (Below.refl w0.heap.size _).drew) hg)
    clear hg c1 f1
    go_wp2
    go_returns
    exact ⟨n1, ((n2 : Nat) : Int), j2, 4, rfl, hr, g, by rw [HX.out]; exact ⟨rfl, rfl, by omega⟩⟩
theorem braces_at {w : World} {b : Nat} {s : ByteArray} {i : Nat} {lv : Value} (h : Rdr w b s i 0 lv) :
    Calls Tryd.prog 42 #[.pointer (some ⟨b, 0, none⟩)] w fun v w' => ∃ lo hi j e, v = .returned (.tuple #[.int .i64 ((lo : Nat) : Int), .int .i64 hi]) ∧ Rdr w' b s j e lv ∧ w.grownBy w' (some b) ∧ BracesIs (bracesM (bytesN s) i) lo hi j e := by
  cases h1 : numberM (bytesN s) i with
  | err j e => exact bra_a h j e h1
  | ok lo j =>
    by_cases h2 : (bytesN s)[j]? = some 44
    · by_cases h3 : (bytesN s)[j + 1]? = some 125
      · exact bra_c1 h lo j h1 h2 h3
      · cases h4 : numberM (bytesN s) (j + 1) with
        | err k e => exact bra_c2a h lo j h1 h2 h3 k e h4
        | ok hi k =>
          by_cases h5 : hi < lo
          · exact bra_c2b h lo j h1 h2 h3 hi k h4 h5
          · by_cases h6 : (bytesN s)[k]? = some 125
            · exact bra_c2c h lo j h1 h2 h3 hi k h4 h5 h6
            · exact bra_c2d h lo j h1 h2 h3 hi k h4 h5 h6
    · by_cases h3 : (bytesN s)[j]? = some 125
      · exact bra_b1 h lo j h1 h2 h3
      · exact bra_b2 h lo j h1 h2 h3
end Go.Proofs.YtofhkgafgnldnaaDoor
