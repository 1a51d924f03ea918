/- item: a byte of a class, or an escape. -/
import Derived.Test.YtpiimcbbgalhfaaGreatDoorBc
import Derived.Test.YtpiimcbbgalhfaaGreatDoorBb
namespace Go.Proofs.YtpiimcbbgalhfaaGreatDoor
set_option maxRecDepth 100000
open Go.RowKit
set_option maxRecDepth 100000 in
set_option maxHeartbeats 2000000 in
theorem item_none {w : World} {b : Nat} {s : ByteArray} {i : Nat} {lv : Value} (h : Rdr w b s i 0 lv) (hc : (bytesN s)[i]? = none) :
    Calls Tryz.prog 258 #[.pointer (some ⟨b, 0, none⟩)] w fun v w' => ∃ m j e, v = .returned (setV m) ∧ Rdr w' b s j e lv ∧ w.grownBy w' (some b) ∧ SetIs (itemM (bytesN s) i) m j e := by
  have hp : peekV (bytesN s) i = .tuple #[.int .u8 ((0 : Nat) : Int), .bool false] := by unfold peekV; rw [hc]; rfl
  have HX := Lib.hid (show itemM (bytesN s) i = .err i 4 by unfold itemM; rw [hc])
  clear hc
  have hblt := h.blk.lt
  have hsz := h.size
  have hle0 := h.le
  go_enter Tryz.func258, Tryz.ntmps258
  go_wp2_with fail
  have hR1 := Blk.new w (setL noSet) 24
  have h1 := h.below ((Below.refl _ w).alloc (Nat.le_refl _) (.cells (setL noSet).toArray 24))
  have g1 := only_alloc (only_refl w b) (.cells (setL noSet).toArray 24)
  rw [show (setL noSet).toArray = #[.int .u64 0, .int .u64 0, .int .u64 0, .int .u64 0] by rw [setL_none]] at h1 g1 hR1
  generalize w.alloc _ = w1 at *
  refine (peek_at h1).mono ?_
  rintro v w2 ⟨rfl, hb⟩
  rw [hp]
  have h4 := h1.below hb
  have hR4 := hR1.below hb hR1.lt
  have g4 := only_below g1 hb
  clear h1 hR1 g1 hb
  rename World => w4
  go_wp2_with fail
  obtain ⟨_, c1, _, _, f1, _, _⟩ := h4.cells
  go_still_tail 8, (by kernel_rfl)
  change wpList _ _ _ _ _ w4.drew
  go_wp2_with fail
  refine (fail_at (k := 4) (h4.below (Below.refl _ _).drew) (by have := h4.le; omega)).mono ?_
  rintro v w7 ⟨⟨u, rfl⟩, h7, hg⟩
  have hg7 := only_trans (only_of b ((Below.refl w4.heap.size _).drew)) hg
  have g7 := only_trans g4 hg7
  have hR7 := hR4.turn hg7 (by omega)
  obtain ⟨y0, y1, y2, y3, k0, k1, k2, k3⟩ := hR7.four
  go_wp2
  refine ret_set (b := w.heap.size) rfl rfl (hR7.set4 _ _ _ _) rfl ?_
  refine ⟨noSet, i, 4, ?_, h7.far4 (by omega) (by have := tab_lt h.tab; omega) _ _ _ _, only_set4' g7 (Nat.le_refl _) _ _ _ _, by rw [HX.out]; exact ⟨rfl, rfl, by omega⟩⟩
  have := setL_none
  unfold setL at this
  unfold setV
  rw [show (#[Value.int .u64 (word noSet 0), .int .u64 (word noSet 1), .int .u64 (word noSet 2), .int .u64 (word noSet 3)] : Array Value) = #[.int .u64 0, .int .u64 0, .int .u64 0, .int .u64 0] from congrArg List.toArray this]
set_option maxRecDepth 100000 in
set_option maxHeartbeats 2000000 in
theorem item_inner {w : World} {b : Nat} {s : ByteArray} {i : Nat} {lv : Value} (h : Rdr w b s i 0 lv) (c : Nat) (hc : (bytesN s)[i]? = some c) (hs : innerL.contains c = true) :
    Calls Tryz.prog 258 #[.pointer (some ⟨b, 0, none⟩)] w fun v w' => ∃ m j e, v = .returned (setV m) ∧ Rdr w' b s j e lv ∧ w.grownBy w' (some b) ∧ SetIs (itemM (bytesN s) i) m j e := by
  have hp : peekV (bytesN s) i = .tuple #[.int .u8 ((c : Nat) : Int), .bool true] := by unfold peekV; rw [hc]
  have hc256 := bytesN_lt hc
  have hle : i + 1 ≤ s.size := (bytesN_some hc).1
  have HX := Lib.hid (show itemM (bytesN s) i = .err i 4 by unfold itemM; rw [hc]; simp only []; rw [if_pos hs])
  clear hc
  have hblt := h.blk.lt
  have hsz := h.size
  have hle0 := h.le
  go_enter Tryz.func258, Tryz.ntmps258
  go_wp2_with fail
  have hR1 := Blk.new w (setL noSet) 24
  have h1 := h.below ((Below.refl _ w).alloc (Nat.le_refl _) (.cells (setL noSet).toArray 24))
  have g1 := only_alloc (only_refl w b) (.cells (setL noSet).toArray 24)
  rw [show (setL noSet).toArray = #[.int .u64 0, .int .u64 0, .int .u64 0, .int .u64 0] by rw [setL_none]] at h1 g1 hR1
  generalize w.alloc _ = w1 at *
  refine (peek_at h1).mono ?_
  rintro v w2 ⟨rfl, hb⟩
  rw [hp]
  have h4 := h1.below hb
  have hR4 := hR1.below hb hR1.lt
  have g4 := only_below g1 hb
  clear h1 hR1 g1 hb
  rename World => w4
  go_wp2_with fail
  refine (index_in _ innerL inner_ix c hc256 _).mono ?_
  rintro v w5 ⟨⟨n, rfl, hn⟩, rfl⟩
  rename World => w4
  rw [if_pos hs] at hn
  go_wp2_with fail
  obtain ⟨_, c1, _, _, f1, _, _⟩ := h4.cells
  go_still_tail 8, (by kernel_rfl)
  change wpList _ _ _ _ _ w4.drew
  go_wp2_with fail
  refine (fail_at (k := 4) (h4.below (Below.refl _ _).drew) (by have := h4.le; omega)).mono ?_
  rintro v w7 ⟨⟨u, rfl⟩, h7, hg⟩
  have hg7 := only_trans (only_of b ((Below.refl w4.heap.size _).drew)) hg
  have g7 := only_trans g4 hg7
  have hR7 := hR4.turn hg7 (by omega)
  obtain ⟨y0, y1, y2, y3, k0, k1, k2, k3⟩ := hR7.four
  go_wp2
  refine ret_set (b := w.heap.size) rfl rfl (hR7.set4 _ _ _ _) rfl ?_
  refine ⟨noSet, i, 4, ?_, h7.far4 (by omega) (by have := tab_lt h.tab; omega) _ _ _ _, only_set4' g7 (Nat.le_refl _) _ _ _ _, by rw [HX.out]; exact ⟨rfl, rfl, by omega⟩⟩
  have := setL_none
  unfold setL at this
  unfold setV
  rw [show (#[Value.int .u64 (word noSet 0), .int .u64 (word noSet 1), .int .u64 (word noSet 2), .int .u64 (word noSet 3)] : Array Value) = #[.int .u64 0, .int .u64 0, .int .u64 0, .int .u64 0] from congrArg List.toArray this]
set_option maxRecDepth 100000 in
set_option maxHeartbeats 2000000 in
theorem item_esc {w : World} {b : Nat} {s : ByteArray} {i : Nat} {lv : Value} (h : Rdr w b s i 0 lv) (c : Nat) (hc : (bytesN s)[i]? = some c) (hs : innerL.contains c = false) (hx : c = 92) :
    Calls Tryz.prog 258 #[.pointer (some ⟨b, 0, none⟩)] w fun v w' => ∃ m j e, v = .returned (setV m) ∧ Rdr w' b s j e lv ∧ w.grownBy w' (some b) ∧ SetIs (itemM (bytesN s) i) m j e := by
  have hp : peekV (bytesN s) i = .tuple #[.int .u8 ((c : Nat) : Int), .bool true] := by unfold peekV; rw [hc]
  have hc256 := bytesN_lt hc
  have hle : i + 1 ≤ s.size := (bytesN_some hc).1
  have HX := Lib.hid (show itemM (bytesN s) i = escM (bytesN s) i by unfold itemM; rw [hc]; simp only []; rw [if_neg (by rw [hs]; simp), if_pos hx])
  clear hc
  have HXX := Lib.hid hx
  clear hx
  have hblt := h.blk.lt
  have hsz := h.size
  have hle0 := h.le
  go_enter Tryz.func258, Tryz.ntmps258
  go_wp2_with fail
  have hR1 := Blk.new w (setL noSet) 24
  have h1 := h.below ((Below.refl _ w).alloc (Nat.le_refl _) (.cells (setL noSet).toArray 24))
  have g1 := only_alloc (only_refl w b) (.cells (setL noSet).toArray 24)
  rw [show (setL noSet).toArray = #[.int .u64 0, .int .u64 0, .int .u64 0, .int .u64 0] by rw [setL_none]] at h1 g1 hR1
  generalize w.alloc _ = w1 at *
  refine (peek_at h1).mono ?_
  rintro v w2 ⟨rfl, hb⟩
  rw [hp]
  have h4 := h1.below hb
  have hR4 := hR1.below hb hR1.lt
  have g4 := only_below g1 hb
  clear h1 hR1 g1 hb
  rename World => w4
  go_wp2_with fail
  refine (index_in _ innerL inner_ix c hc256 _).mono ?_
  rintro v w5 ⟨⟨n, rfl, hn⟩, rfl⟩
  rename World => w4
  rw [if_neg (by rw [hs]; simp)] at hn
  have hx' : ((c : Nat) : Int) = 92 := by have := HXX.out; omega
  go_wp2_with fail
  refine (escape_at h4 hle).mono ?_
  rintro v w7 ⟨m, j, e, rfl, h7, hg, hr⟩
  have g7 := only_trans g4 hg
  have hR7 := hR4.turn hg (by omega)
  have HR := Lib.hid hr
  clear hr
  unfold setV
  obtain ⟨y0, y1, y2, y3, k0, k1, k2, k3⟩ := hR7.four
  go_wp2
  refine ret_set (b := w.heap.size) rfl rfl (hR7.set4 _ _ _ _) rfl ?_
  exact ⟨m, j, e, rfl, h7.far4 (by omega) (by have := tab_lt h.tab; omega) _ _ _ _, only_set4' g7 (Nat.le_refl _) _ _ _ _, by rw [HX.out]; exact HR.out⟩
set_option maxRecDepth 100000 in
set_option maxHeartbeats 2000000 in
theorem item_byte {w : World} {b : Nat} {s : ByteArray} {i : Nat} {lv : Value} (h : Rdr w b s i 0 lv) (c : Nat) (hc : (bytesN s)[i]? = some c) (hs : innerL.contains c = false) (hx : c ≠ 92) :
    Calls Tryz.prog 258 #[.pointer (some ⟨b, 0, none⟩)] w fun v w' => ∃ m j e, v = .returned (setV m) ∧ Rdr w' b s j e lv ∧ w.grownBy w' (some b) ∧ SetIs (itemM (bytesN s) i) m j e := by
  have hp : peekV (bytesN s) i = .tuple #[.int .u8 ((c : Nat) : Int), .bool true] := by unfold peekV; rw [hc]
  have hc256 := bytesN_lt hc
  have hle : i + 1 ≤ s.size := (bytesN_some hc).1
  have HX := Lib.hid (show itemM (bytesN s) i = .ok (oneM c) (i + 1) by unfold itemM; rw [hc]; simp only []; rw [if_neg (by rw [hs]; simp), if_neg hx])
  clear hc
  have hblt := h.blk.lt
  have hsz := h.size
  have hle0 := h.le
  go_enter Tryz.func258, Tryz.ntmps258
  go_wp2_with fail
  have hR1 := Blk.new w (setL noSet) 24
  have h1 := h.below ((Below.refl _ w).alloc (Nat.le_refl _) (.cells (setL noSet).toArray 24))
  have g1 := only_alloc (only_refl w b) (.cells (setL noSet).toArray 24)
  rw [show (setL noSet).toArray = #[.int .u64 0, .int .u64 0, .int .u64 0, .int .u64 0] by rw [setL_none]] at h1 g1 hR1
  generalize w.alloc _ = w1 at *
  refine (peek_at h1).mono ?_
  rintro v w2 ⟨rfl, hb⟩
  rw [hp]
  have h4 := h1.below hb
  have hR4 := hR1.below hb hR1.lt
  have g4 := only_below g1 hb
  clear h1 hR1 g1 hb
  rename World => w4
  go_wp2_with fail
  refine (index_in _ innerL inner_ix c hc256 _).mono ?_
  rintro v w5 ⟨⟨n, rfl, hn⟩, rfl⟩
  rename World => w4
  rw [if_neg (by rw [hs]; simp)] at hn
  obtain ⟨_, c1, _, _, f1, _, _⟩ := h4.cells
  go_upto_region 8 with fail
  obtain ⟨hB, gB⟩ := h4.incv (v := ((i : Nat) : Int) + 1) (by omega) hle
  have hRb := hR4.far (p := ⟨b, 1, none⟩) (by show w.heap.size ≠ b; omega) (.int .i64 (((i : Nat) : Int) + 1))
  replace gB := only_trans g4 gB
  clear h4 hR4 g4 c1 f1
  generalize w4.setCell _ _ = wb at *
  go_wp2_with fail
  refine (of_one hc256 _ rfl).mono ?_
  rintro v w6 ⟨rfl, hb⟩
  have hbb := below1 (Below.refl _ wb) (Nat.le_refl _) hb
  have h5 := hB.below hbb
  have hR5 := hRb.below hbb hRb.lt
  have g5 := only_below gB hbb
  unfold setV
  obtain ⟨y0, y1, y2, y3, k0, k1, k2, k3⟩ := hR5.four
  go_wp2
  refine ret_set (b := w.heap.size) rfl rfl (hR5.set4 _ _ _ _) rfl ?_
  exact ⟨oneM c, i + 1, 0, rfl, h5.far4 (by omega) (by have := tab_lt h.tab; omega) _ _ _ _, only_set4' g5 (Nat.le_refl _) _ _ _ _, by rw [HX.out]; exact ⟨rfl, rfl, rfl⟩⟩
theorem item_at {w : World} {b : Nat} {s : ByteArray} {i : Nat} {lv : Value} (h : Rdr w b s i 0 lv) :
    Calls Tryz.prog 258 #[.pointer (some ⟨b, 0, none⟩)] w fun v w' => ∃ m j e, v = .returned (setV m) ∧ Rdr w' b s j e lv ∧ w.grownBy w' (some b) ∧ SetIs (itemM (bytesN s) i) m j e := by
  cases hc : (bytesN s)[i]? with
  | none => exact item_none h hc
  | some c =>
    cases hs : innerL.contains c with
    | true => exact item_inner h c hc hs
    | false =>
      by_cases hx : c = 92
      · exact item_esc h c hc hs hx
      · exact item_byte h c hc hs hx
end Go.Proofs.YtpiimcbbgalhfaaGreatDoor
/- span: an item, or a range. -/
namespace Go.Proofs.YtpiimcbbgalhfaaGreatDoor
set_option maxRecDepth 100000
open Go.RowKit
theorem cnt_zero {m : Nat → Bool} (n : Nat) (h : ∀ x, x < n → m x = false) : cnt m n = 0 := by
  induction n with
  | zero => rfl
  | succ n ih => rw [cnt, ih fun x hx => h x (by omega), h n (by omega)]; rfl
theorem only_some {m : Nat → Bool} (h : cnt m 256 = 1) : ∃ a, onlyM m = some a ∧ firstM m = some a ∧ a < 256 := by
  cases hf : firstM m with
  | none =>
    have : cnt m 256 = 0 := cnt_zero 256 fun x hx => by
      unfold firstM at hf
      rw [List.find?_range_eq_none] at hf
      simpa using hf x hx
    omega
  | some a =>
    have ha : a < 256 := by
      unfold firstM at hf
      rw [List.find?_range_eq_some] at hf
      exact List.mem_range.1 hf.2.1
    exact ⟨a, by unfold onlyM; rw [if_pos h, hf], rfl, ha⟩
theorem only_none {m : Nat → Bool} (h : cnt m 256 ≠ 1) : onlyM m = none := by unfold onlyM; rw [if_neg h]
set_option maxRecDepth 100000 in
set_option maxHeartbeats 2000000 in
theorem span_a {w : World} {b : Nat} {s : ByteArray} {i : Nat} {lv : Value} (h : Rdr w b s i 0 lv) (j e : Nat) (h1 : itemM (bytesN s) i = .err j e)  :
    Calls Tryz.prog 225 #[.pointer (some ⟨b, 0, none⟩)] w fun v w' => ∃ m j e, v = .returned (setV m) ∧ Rdr w' b s j e lv ∧ w.grownBy w' (some b) ∧ SetIs (spanM (bytesN s) i) m j e := by
  have HX := Lib.hid (show spanM (bytesN s) i = .err j e by unfold spanM; rw [h1])
  have H1 := Lib.hid h1
  clear h1
  have hblt := h.blk.lt
  have hsz := h.size
  have hle0 := h.le
  obtain ⟨_, c1, _, _, f1, _, _⟩ := h.cells
  go_enter Tryz.func225, Tryz.ntmps225
  go_wp2_with fail
  clear c1 f1
  have hR := Blk.new w (setL noSet) 24
  have hr := h.below ((Below.refl _ w).alloc (Nat.le_refl _) (.cells (setL noSet).toArray 24))
  have g := only_alloc (only_refl w b) (.cells (setL noSet).toArray 24)
  rw [show (setL noSet).toArray = #[.int .u64 0, .int .u64 0, .int .u64 0, .int .u64 0] by rw [setL_none]] at hr g hR
  generalize w.alloc _ = wa at *
  refine (item_at hr).mono ?_
  rintro v w0 ⟨m1, j1, e1, rfl, hr, hg, hi1⟩
  replace hR := Blk.turn hR hg (by omega)
  replace g := only_trans g hg
  clear hg
  rw [H1.out] at hi1
  obtain ⟨rfl, rfl, he⟩ := hi1
  have hj := hr.le
  obtain ⟨_, c1, _, _, f1, _, _⟩ := hr.cells
  unfold setV
  go_upto_region 3 with fail
  clear c1 f1
  have h4 : Blk (w0.alloc (.cells #[.int .u64 (word m1 0), .int .u64 (word m1 1), .int .u64 (word m1 2), .int .u64 (word m1 3)] 24)) w0.heap.size 24 (setL m1) := Blk.new w0 (setL m1) 24
  have kh4 : w.heap.size < w0.heap.size := hR.lt
  have jh4 : b < w0.heap.size := hr.blk.lt
  replace g := only_alloc g (.cells #[.int .u64 (word m1 0), .int .u64 (word m1 1), .int .u64 (word m1 2), .int .u64 (word m1 3)] 24)
  replace hR := hR.alloc (.cells #[.int .u64 (word m1 0), .int .u64 (word m1 1), .int .u64 (word m1 2), .int .u64 (word m1 3)] 24)
  replace hr := hr.below ((Below.refl _ w0).alloc (Nat.le_refl _) (.cells #[.int .u64 (word m1 0), .int .u64 (word m1 1), .int .u64 (word m1 2), .int .u64 (word m1 3)] 24))
  generalize w0.alloc _ = wn at *
  generalize w0.heap.size = bh4 at *
  obtain ⟨_, c1, _, _, f1, _, _⟩ := hr.cells
  rename World => w0
  go_wp2_with fail
  refine (bad_at hr).mono ?_
  rintro v w0 ⟨rfl, hb⟩
  replace hR := hR.below hb hR.lt
  replace h4 := h4.below hb h4.lt
  replace g := only_below g hb
  replace hr := hr.below hb
  clear hb
  rw [show decide (e1 ≠ 0) = true from decide_eq_true he]
  obtain ⟨x0, x1, x2, x3, _, _, _, _⟩ := h4.four
  obtain ⟨y0, y1, y2, y3, k0, k1, k2, k3⟩ := hR.four
  go_wp2
  refine ret_set (b := w.heap.size) rfl rfl (hR.set4 _ _ _ _) rfl ?_
  exact ⟨m1, j1, e1, rfl, hr.far4 (by omega) (by have := tab_lt h.tab; omega) _ _ _ _, only_set4' g (Nat.le_refl _) _ _ _ _, by rw [HX.out]; exact ⟨rfl, rfl, he⟩⟩
set_option maxRecDepth 100000 in
set_option maxHeartbeats 2000000 in
theorem span_b {w : World} {b : Nat} {s : ByteArray} {i : Nat} {lv : Value} (h : Rdr w b s i 0 lv) (lo : Nat → Bool) (j : Nat) (h1 : itemM (bytesN s) i = .ok lo j) (h2 : (bytesN s)[j]? ≠ some 45) :
    Calls Tryz.prog 225 #[.pointer (some ⟨b, 0, none⟩)] w fun v w' => ∃ m j e, v = .returned (setV m) ∧ Rdr w' b s j e lv ∧ w.grownBy w' (some b) ∧ SetIs (spanM (bytesN s) i) m j e := by
  have HX := Lib.hid (show spanM (bytesN s) i = .ok lo j by unfold spanM; rw [h1]; simp only []; rw [if_neg h2])
  have H1 := Lib.hid h1
  have H2 := Lib.hid h2
  clear h1 h2
  have hblt := h.blk.lt
  have hsz := h.size
  have hle0 := h.le
  obtain ⟨_, c1, _, _, f1, _, _⟩ := h.cells
  go_enter Tryz.func225, Tryz.ntmps225
  go_wp2_with fail
  clear c1 f1
  have hR := Blk.new w (setL noSet) 24
  have hr := h.below ((Below.refl _ w).alloc (Nat.le_refl _) (.cells (setL noSet).toArray 24))
  have g := only_alloc (only_refl w b) (.cells (setL noSet).toArray 24)
  rw [show (setL noSet).toArray = #[.int .u64 0, .int .u64 0, .int .u64 0, .int .u64 0] by rw [setL_none]] at hr g hR
  generalize w.alloc _ = wa at *
  refine (item_at hr).mono ?_
  rintro v w0 ⟨m1, j1, e1, rfl, hr, hg, hi1⟩
  replace hR := Blk.turn hR hg (by omega)
  replace g := only_trans g hg
  clear hg
  rw [H1.out] at hi1
  obtain ⟨rfl, rfl, rfl⟩ := hi1
  have hj := hr.le
  obtain ⟨_, c1, _, _, f1, _, _⟩ := hr.cells
  unfold setV
  go_upto_region 3 with fail
  clear c1 f1
  have h4 : Blk (w0.alloc (.cells #[.int .u64 (word m1 0), .int .u64 (word m1 1), .int .u64 (word m1 2), .int .u64 (word m1 3)] 24)) w0.heap.size 24 (setL m1) := Blk.new w0 (setL m1) 24
  have kh4 : w.heap.size < w0.heap.size := hR.lt
  have jh4 : b < w0.heap.size := hr.blk.lt
  replace g := only_alloc g (.cells #[.int .u64 (word m1 0), .int .u64 (word m1 1), .int .u64 (word m1 2), .int .u64 (word m1 3)] 24)
  replace hR := hR.alloc (.cells #[.int .u64 (word m1 0), .int .u64 (word m1 1), .int .u64 (word m1 2), .int .u64 (word m1 3)] 24)
  replace hr := hr.below ((Below.refl _ w0).alloc (Nat.le_refl _) (.cells #[.int .u64 (word m1 0), .int .u64 (word m1 1), .int .u64 (word m1 2), .int .u64 (word m1 3)] 24))
  generalize w0.alloc _ = wn at *
  generalize w0.heap.size = bh4 at *
  obtain ⟨_, c1, _, _, f1, _, _⟩ := hr.cells
  rename World => w0
  go_wp2_with fail
  refine (bad_at hr).mono ?_
  rintro v w0 ⟨rfl, hb⟩
  replace hR := hR.below hb hR.lt
  replace h4 := h4.below hb h4.lt
  replace g := only_below g hb
  replace hr := hr.below hb
  clear hb
  rw [show decide ((0 : Nat) ≠ 0) = false from rfl]
  go_wp2_with fail
  refine (is_at 45 hr).mono ?_
  rintro v w0 ⟨rfl, hr, hg⟩
  rw [(isB_no H2.out).2] at hr
  rw [(isB_no H2.out).1]
  replace hR := Blk.turn hR hg (by omega)
  replace h4 := Blk.turn h4 hg (by omega)
  replace g := only_trans g hg
  clear hg
  obtain ⟨x0, x1, x2, x3, _, _, _, _⟩ := h4.four
  obtain ⟨y0, y1, y2, y3, k0, k1, k2, k3⟩ := hR.four
  go_wp2
  refine ret_set (b := w.heap.size) rfl rfl (hR.set4 _ _ _ _) rfl ?_
  exact ⟨m1, j1, 0, rfl, hr.far4 (by omega) (by have := tab_lt h.tab; omega) _ _ _ _, only_set4' g (Nat.le_refl _) _ _ _ _, by rw [HX.out]; exact ⟨rfl, rfl, rfl⟩⟩
def fstB (m : Nat → Bool) : Nat := (firstM m).getD 0
theorem fstB_lt (m : Nat → Bool) : fstB m < 256 := by
  unfold fstB
  cases hf : firstM m with
  | none => decide
  | some a =>
    unfold firstM at hf
    rw [List.find?_range_eq_some] at hf
    exact List.mem_range.1 hf.2.1
theorem firstV_eq (m : Nat → Bool) : firstV m = .tuple #[.int .u8 ((fstB m : Nat) : Int), .bool (firstM m).isSome] := rfl
theorem fstB_some {m : Nat → Bool} {a : Nat} (h : onlyM m = some a) : fstB m = a := by
  unfold onlyM at h
  split at h
  · unfold fstB; rw [h]; rfl
  · cases h
set_option maxRecDepth 100000 in
set_option maxHeartbeats 2000000 in
theorem span_c {w : World} {b : Nat} {s : ByteArray} {i : Nat} {lv : Value} (h : Rdr w b s i 0 lv) (lo : Nat → Bool) (j : Nat) (h1 : itemM (bytesN s) i = .ok lo j) (h2 : (bytesN s)[j]? = some 45) (hc0 : cnt lo 256 ≠ 1) :
    Calls Tryz.prog 225 #[.pointer (some ⟨b, 0, none⟩)] w fun v w' => ∃ m j e, v = .returned (setV m) ∧ Rdr w' b s j e lv ∧ w.grownBy w' (some b) ∧ SetIs (spanM (bytesN s) i) m j e := by
  have HX := Lib.hid (show spanM (bytesN s) i = .err j 4 by unfold spanM; rw [h1]; simp only []; rw [if_pos h2, only_none hc0])
  have H1 := Lib.hid h1
  have H2 := Lib.hid h2
  clear h1 h2
  have HC := Lib.hid hc0
  clear hc0
  have hblt := h.blk.lt
  have hsz := h.size
  have hle0 := h.le
  obtain ⟨_, c1, _, _, f1, _, _⟩ := h.cells
  go_enter Tryz.func225, Tryz.ntmps225
  go_wp2_with fail
  clear c1 f1
  have hR := Blk.new w (setL noSet) 24
  have hr := h.below ((Below.refl _ w).alloc (Nat.le_refl _) (.cells (setL noSet).toArray 24))
  have g := only_alloc (only_refl w b) (.cells (setL noSet).toArray 24)
  rw [show (setL noSet).toArray = #[.int .u64 0, .int .u64 0, .int .u64 0, .int .u64 0] by rw [setL_none]] at hr g hR
  generalize w.alloc _ = wa at *
  refine (item_at hr).mono ?_
  rintro v w0 ⟨m1, j1, e1, rfl, hr, hg, hi1⟩
  replace hR := Blk.turn hR hg (by omega)
  replace g := only_trans g hg
  clear hg
  rw [H1.out] at hi1
  obtain ⟨rfl, rfl, rfl⟩ := hi1
  have hj := hr.le
  obtain ⟨_, c1, _, _, f1, _, _⟩ := hr.cells
  unfold setV
  go_upto_region 3 with fail
  clear c1 f1
  have h4 : Blk (w0.alloc (.cells #[.int .u64 (word m1 0), .int .u64 (word m1 1), .int .u64 (word m1 2), .int .u64 (word m1 3)] 24)) w0.heap.size 24 (setL m1) := Blk.new w0 (setL m1) 24
  have kh4 : w.heap.size < w0.heap.size := hR.lt
  have jh4 : b < w0.heap.size := hr.blk.lt
  replace g := only_alloc g (.cells #[.int .u64 (word m1 0), .int .u64 (word m1 1), .int .u64 (word m1 2), .int .u64 (word m1 3)] 24)
  replace hR := hR.alloc (.cells #[.int .u64 (word m1 0), .int .u64 (word m1 1), .int .u64 (word m1 2), .int .u64 (word m1 3)] 24)
  replace hr := hr.below ((Below.refl _ w0).alloc (Nat.le_refl _) (.cells #[.int .u64 (word m1 0), .int .u64 (word m1 1), .int .u64 (word m1 2), .int .u64 (word m1 3)] 24))
  generalize w0.alloc _ = wn at *
  generalize w0.heap.size = bh4 at *
  obtain ⟨_, c1, _, _, f1, _, _⟩ := hr.cells
  rename World => w0
  go_wp2_with fail
  refine (bad_at hr).mono ?_
  rintro v w0 ⟨rfl, hb⟩
  replace hR := hR.below hb hR.lt
  replace h4 := h4.below hb h4.lt
  replace g := only_below g hb
  replace hr := hr.below hb
  clear hb
  rw [show decide ((0 : Nat) ≠ 0) = false from rfl]
  go_wp2_with fail
  refine (is_at 45 hr).mono ?_
  rintro v w0 ⟨rfl, hr, hg⟩
  rw [(isB_yes H2.out).2] at hr
  rw [(isB_yes H2.out).1]
  replace hR := Blk.turn hR hg (by omega)
  replace h4 := Blk.turn h4 hg (by omega)
  replace g := only_trans g hg
  clear hg
  have hj1 := hr.le
  obtain ⟨x0, x1, x2, x3, _, _, _, _⟩ := h4.four
  go_wp2_with fail
  refine (count_any m1 _).mono ?_
  rintro v w0 ⟨rfl, hb⟩
  clear x0 x1 x2 x3
  replace hR := hR.below hb hR.lt
  replace h4 := h4.below hb h4.lt
  replace g := only_below g hb
  replace hr := hr.below hb
  clear hb
  have hc : ((cnt m1 256 : Nat) : Int) ≠ 1 := by have := HC.out; omega
  go_wp2_with fail
  refine (fail_at (k := 4) hr (by omega)).mono ?_
  rintro v w0 ⟨⟨u, rfl⟩, hr, hg⟩
  replace hR := Blk.turn hR hg (by omega)
  replace h4 := Blk.turn h4 hg (by omega)
  replace g := only_trans g hg
  clear hg
  obtain ⟨x0, x1, x2, x3, _, _, _, _⟩ := h4.four
  obtain ⟨y0, y1, y2, y3, k0, k1, k2, k3⟩ := hR.four
  go_wp2
  refine ret_set (b := w.heap.size) rfl rfl (hR.set4 _ _ _ _) rfl ?_
  exact ⟨m1, j1, 4, rfl, hr.far4 (by omega) (by have := tab_lt h.tab; omega) _ _ _ _, only_set4' g (Nat.le_refl _) _ _ _ _, by rw [HX.out]; exact ⟨rfl, rfl, by omega⟩⟩
set_option maxRecDepth 100000 in
set_option maxHeartbeats 2000000 in
theorem span_d {w : World} {b : Nat} {s : ByteArray} {i : Nat} {lv : Value} (h : Rdr w b s i 0 lv) (lo : Nat → Bool) (j : Nat) (h1 : itemM (bytesN s) i = .ok lo j) (h2 : (bytesN s)[j]? = some 45) (a : Nat) (ha : onlyM lo = some a) (hc0 : cnt lo 256 = 1) (ha2 : a < 256) (k e : Nat) (h3 : itemM (bytesN s) (j + 1) = .err k e) :
    Calls Tryz.prog 225 #[.pointer (some ⟨b, 0, none⟩)] w fun v w' => ∃ m j e, v = .returned (setV m) ∧ Rdr w' b s j e lv ∧ w.grownBy w' (some b) ∧ SetIs (spanM (bytesN s) i) m j e := by
  have HX := Lib.hid (show spanM (bytesN s) i = .err k e by unfold spanM; rw [h1]; simp only []; rw [if_pos h2, ha]; simp only []; rw [h3])
  have H1 := Lib.hid h1
  have H2 := Lib.hid h2
  have H3 := Lib.hid h3
  clear h1 h2 h3
  have HC := Lib.hid hc0
  have HA := Lib.hid ha
  clear hc0 ha
  have hblt := h.blk.lt
  have hsz := h.size
  have hle0 := h.le
  obtain ⟨_, c1, _, _, f1, _, _⟩ := h.cells
  go_enter Tryz.func225, Tryz.ntmps225
  go_wp2_with fail
  clear c1 f1
  have hR := Blk.new w (setL noSet) 24
  have hr := h.below ((Below.refl _ w).alloc (Nat.le_refl _) (.cells (setL noSet).toArray 24))
  have g := only_alloc (only_refl w b) (.cells (setL noSet).toArray 24)
  rw [show (setL noSet).toArray = #[.int .u64 0, .int .u64 0, .int .u64 0, .int .u64 0] by rw [setL_none]] at hr g hR
  generalize w.alloc _ = wa at *
  refine (item_at hr).mono ?_
  rintro v w0 ⟨m1, j1, e1, rfl, hr, hg, hi1⟩
  replace hR := Blk.turn hR hg (by omega)
  replace g := only_trans g hg
  clear hg
  rw [H1.out] at hi1
  obtain ⟨rfl, rfl, rfl⟩ := hi1
  have hj := hr.le
  obtain ⟨_, c1, _, _, f1, _, _⟩ := hr.cells
  unfold setV
  go_upto_region 3 with fail
  clear c1 f1
  have h4 : Blk (w0.alloc (.cells #[.int .u64 (word m1 0), .int .u64 (word m1 1), .int .u64 (word m1 2), .int .u64 (word m1 3)] 24)) w0.heap.size 24 (setL m1) := Blk.new w0 (setL m1) 24
  have kh4 : w.heap.size < w0.heap.size := hR.lt
  have jh4 : b < w0.heap.size := hr.blk.lt
  replace g := only_alloc g (.cells #[.int .u64 (word m1 0), .int .u64 (word m1 1), .int .u64 (word m1 2), .int .u64 (word m1 3)] 24)
  replace hR := hR.alloc (.cells #[.int .u64 (word m1 0), .int .u64 (word m1 1), .int .u64 (word m1 2), .int .u64 (word m1 3)] 24)
  replace hr := hr.below ((Below.refl _ w0).alloc (Nat.le_refl _) (.cells #[.int .u64 (word m1 0), .int .u64 (word m1 1), .int .u64 (word m1 2), .int .u64 (word m1 3)] 24))
  generalize w0.alloc _ = wn at *
  generalize w0.heap.size = bh4 at *
  obtain ⟨_, c1, _, _, f1, _, _⟩ := hr.cells
  rename World => w0
  go_wp2_with fail
  refine (bad_at hr).mono ?_
  rintro v w0 ⟨rfl, hb⟩
  replace hR := hR.below hb hR.lt
  replace h4 := h4.below hb h4.lt
  replace g := only_below g hb
  replace hr := hr.below hb
  clear hb
  rw [show decide ((0 : Nat) ≠ 0) = false from rfl]
  go_wp2_with fail
  refine (is_at 45 hr).mono ?_
  rintro v w0 ⟨rfl, hr, hg⟩
  rw [(isB_yes H2.out).2] at hr
  rw [(isB_yes H2.out).1]
  replace hR := Blk.turn hR hg (by omega)
  replace h4 := Blk.turn h4 hg (by omega)
  replace g := only_trans g hg
  clear hg
  have hj1 := hr.le
  obtain ⟨x0, x1, x2, x3, _, _, _, _⟩ := h4.four
  go_wp2_with fail
  refine (count_any m1 _).mono ?_
  rintro v w0 ⟨rfl, hb⟩
  clear x0 x1 x2 x3
  replace hR := hR.below hb hR.lt
  replace h4 := h4.below hb h4.lt
  replace g := only_below g hb
  replace hr := hr.below hb
  clear hb
  have hc : ((cnt m1 256 : Nat) : Int) = 1 := by have := HC.out; omega
  clear c1 f1
  obtain ⟨_, c1, _, _, f1, _, _⟩ := hr.cells
  go_wp2_with fail
  refine (item_at hr).mono ?_
  rintro v w0 ⟨m2, j2, e2, rfl, hr, hg, hi2⟩
  replace hR := Blk.turn hR hg (by omega)
  replace h4 := Blk.turn h4 hg (by omega)
  replace g := only_trans g hg
  clear hg
  rw [H3.out] at hi2
  obtain ⟨rfl, rfl, he⟩ := hi2
  clear c1 f1
  obtain ⟨_, c1, _, _, f1, _, _⟩ := hr.cells
  unfold setV
  go_upto_region 11 with fail
  clear c1 f1
  have h7 : Blk (w0.alloc (.cells #[.int .u64 (word m2 0), .int .u64 (word m2 1), .int .u64 (word m2 2), .int .u64 (word m2 3)] 24)) w0.heap.size 24 (setL m2) := Blk.new w0 (setL m2) 24
  have kh7 : w.heap.size < w0.heap.size := hR.lt
  have jh7 : b < w0.heap.size := hr.blk.lt
  have lh7 : bh4 < w0.heap.size := h4.lt
  replace h4 := h4.alloc (.cells #[.int .u64 (word m2 0), .int .u64 (word m2 1), .int .u64 (word m2 2), .int .u64 (word m2 3)] 24)
  replace g := only_alloc g (.cells #[.int .u64 (word m2 0), .int .u64 (word m2 1), .int .u64 (word m2 2), .int .u64 (word m2 3)] 24)
  replace hR := hR.alloc (.cells #[.int .u64 (word m2 0), .int .u64 (word m2 1), .int .u64 (word m2 2), .int .u64 (word m2 3)] 24)
  replace hr := hr.below ((Below.refl _ w0).alloc (Nat.le_refl _) (.cells #[.int .u64 (word m2 0), .int .u64 (word m2 1), .int .u64 (word m2 2), .int .u64 (word m2 3)] 24))
  generalize w0.alloc _ = wn at *
  generalize w0.heap.size = bh7 at *
  obtain ⟨_, c1, _, _, f1, _, _⟩ := hr.cells
  rename World => w0
  go_wp2_with fail
  refine (bad_at hr).mono ?_
  rintro v w0 ⟨rfl, hb⟩
  replace hR := hR.below hb hR.lt
  replace h4 := h4.below hb h4.lt
  replace h7 := h7.below hb h7.lt
  replace g := only_below g hb
  replace hr := hr.below hb
  clear hb
  rw [show decide (e2 ≠ 0) = true from decide_eq_true he]
  obtain ⟨x0, x1, x2, x3, _, _, _, _⟩ := h4.four
  go_wp2_with fail
  refine (first_any m1 _ hr.tab).mono ?_
  rintro v w0 ⟨rfl, hb⟩
  clear x0 x1 x2 x3
  replace hR := hR.below hb hR.lt
  replace h4 := h4.below hb h4.lt
  replace h7 := h7.below hb h7.lt
  replace g := only_below g hb
  replace hr := hr.below hb
  clear hb
  rw [firstV_eq, fstB_some HA.out]
  obtain ⟨x0, x1, x2, x3, _, _, _, _⟩ := h7.four
  go_wp2_with fail
  refine (first_any m2 _ hr.tab).mono ?_
  rintro v w0 ⟨rfl, hb⟩
  clear x0 x1 x2 x3
  replace hR := hR.below hb hR.lt
  replace h4 := h4.below hb h4.lt
  replace h7 := h7.below hb h7.lt
  replace g := only_below g hb
  replace hr := hr.below hb
  clear hb
  rw [firstV_eq]
  have hb2 := fstB_lt m2
  go_wp2_with fail
  refine (bad_at hr).mono ?_
  rintro v w0 ⟨rfl, hb⟩
  replace hR := hR.below hb hR.lt
  replace h4 := h4.below hb h4.lt
  replace h7 := h7.below hb h7.lt
  replace g := only_below g hb
  replace hr := hr.below hb
  clear hb
  rw [show decide (e2 ≠ 0) = true from decide_eq_true he]
  go_wp2_with fail
  refine (range_any ((a : Nat) : Int) ((fstB m2 : Nat) : Int) (by omega) (by omega) _).mono ?_
  rintro v w0 ⟨rfl, hb⟩
  replace hR := hR.below hb hR.lt
  replace h4 := h4.below hb h4.lt
  replace h7 := h7.below hb h7.lt
  replace g := only_below g hb
  replace hr := hr.below hb
  clear hb
  generalize hrm : rangeM ((a : Nat) : Int) ((fstB m2 : Nat) : Int) = rm at *
  have HRM := Lib.hid hrm
  clear hrm
  unfold setV
  obtain ⟨y0, y1, y2, y3, k0, k1, k2, k3⟩ := hR.four
  go_wp2
  refine ret_set (b := w.heap.size) rfl rfl (hR.set4 _ _ _ _) rfl ?_
  exact ⟨rm, j2, e2, rfl, hr.far4 (by omega) (by have := tab_lt h.tab; omega) _ _ _ _, only_set4' g (Nat.le_refl _) _ _ _ _, by rw [HX.out]; exact ⟨rfl, rfl, he⟩⟩
set_option maxRecDepth 100000 in
set_option maxHeartbeats 2000000 in
theorem span_e {w : World} {b : Nat} {s : ByteArray} {i : Nat} {lv : Value} (h : Rdr w b s i 0 lv) (lo : Nat → Bool) (j : Nat) (h1 : itemM (bytesN s) i = .ok lo j) (h2 : (bytesN s)[j]? = some 45) (a : Nat) (ha : onlyM lo = some a) (hc0 : cnt lo 256 = 1) (ha2 : a < 256) (hi : Nat → Bool) (k : Nat) (h3 : itemM (bytesN s) (j + 1) = .ok hi k) (hc3 : cnt hi 256 ≠ 1) :
    Calls Tryz.prog 225 #[.pointer (some ⟨b, 0, none⟩)] w fun v w' => ∃ m j e, v = .returned (setV m) ∧ Rdr w' b s j e lv ∧ w.grownBy w' (some b) ∧ SetIs (spanM (bytesN s) i) m j e := by
  have HX := Lib.hid (show spanM (bytesN s) i = .err (j + 1) 4 by unfold spanM; rw [h1]; simp only []; rw [if_pos h2, ha]; simp only []; rw [h3]; simp only []; rw [only_none hc3])
  have H1 := Lib.hid h1
  have H2 := Lib.hid h2
  have H3 := Lib.hid h3
  clear h1 h2 h3
  have HC := Lib.hid hc0
  have HA := Lib.hid ha
  clear hc0 ha
  have HC2 := Lib.hid hc3
  clear hc3
  have hblt := h.blk.lt
  have hsz := h.size
  have hle0 := h.le
  obtain ⟨_, c1, _, _, f1, _, _⟩ := h.cells
  go_enter Tryz.func225, Tryz.ntmps225
  go_wp2_with fail
  clear c1 f1
  have hR := Blk.new w (setL noSet) 24
  have hr := h.below ((Below.refl _ w).alloc (Nat.le_refl _) (.cells (setL noSet).toArray 24))
  have g := only_alloc (only_refl w b) (.cells (setL noSet).toArray 24)
  rw [show (setL noSet).toArray = #[.int .u64 0, .int .u64 0, .int .u64 0, .int .u64 0] by rw [setL_none]] at hr g hR
  generalize w.alloc _ = wa at *
  refine (item_at hr).mono ?_
  rintro v w0 ⟨m1, j1, e1, rfl, hr, hg, hi1⟩
  replace hR := Blk.turn hR hg (by omega)
  replace g := only_trans g hg
  clear hg
  rw [H1.out] at hi1
  obtain ⟨rfl, rfl, rfl⟩ := hi1
  have hj := hr.le
  obtain ⟨_, c1, _, _, f1, _, _⟩ := hr.cells
  unfold setV
  go_upto_region 3 with fail
  clear c1 f1
  have h4 : Blk (w0.alloc (.cells #[.int .u64 (word m1 0), .int .u64 (word m1 1), .int .u64 (word m1 2), .int .u64 (word m1 3)] 24)) w0.heap.size 24 (setL m1) := Blk.new w0 (setL m1) 24
  have kh4 : w.heap.size < w0.heap.size := hR.lt
  have jh4 : b < w0.heap.size := hr.blk.lt
  replace g := only_alloc g (.cells #[.int .u64 (word m1 0), .int .u64 (word m1 1), .int .u64 (word m1 2), .int .u64 (word m1 3)] 24)
  replace hR := hR.alloc (.cells #[.int .u64 (word m1 0), .int .u64 (word m1 1), .int .u64 (word m1 2), .int .u64 (word m1 3)] 24)
  replace hr := hr.below ((Below.refl _ w0).alloc (Nat.le_refl _) (.cells #[.int .u64 (word m1 0), .int .u64 (word m1 1), .int .u64 (word m1 2), .int .u64 (word m1 3)] 24))
  generalize w0.alloc _ = wn at *
  generalize w0.heap.size = bh4 at *
  obtain ⟨_, c1, _, _, f1, _, _⟩ := hr.cells
  rename World => w0
  go_wp2_with fail
  refine (bad_at hr).mono ?_
  rintro v w0 ⟨rfl, hb⟩
  replace hR := hR.below hb hR.lt
  replace h4 := h4.below hb h4.lt
  replace g := only_below g hb
  replace hr := hr.below hb
  clear hb
  rw [show decide ((0 : Nat) ≠ 0) = false from rfl]
  go_wp2_with fail
  refine (is_at 45 hr).mono ?_
  rintro v w0 ⟨rfl, hr, hg⟩
  rw [(isB_yes H2.out).2] at hr
  rw [(isB_yes H2.out).1]
  replace hR := Blk.turn hR hg (by omega)
  replace h4 := Blk.turn h4 hg (by omega)
  replace g := only_trans g hg
  clear hg
  have hj1 := hr.le
  obtain ⟨x0, x1, x2, x3, _, _, _, _⟩ := h4.four
  go_wp2_with fail
  refine (count_any m1 _).mono ?_
  rintro v w0 ⟨rfl, hb⟩
  clear x0 x1 x2 x3
  replace hR := hR.below hb hR.lt
  replace h4 := h4.below hb h4.lt
  replace g := only_below g hb
  replace hr := hr.below hb
  clear hb
  have hc : ((cnt m1 256 : Nat) : Int) = 1 := by have := HC.out; omega
  clear c1 f1
  obtain ⟨_, c1, _, _, f1, _, _⟩ := hr.cells
  go_wp2_with fail
  refine (item_at hr).mono ?_
  rintro v w0 ⟨m2, j2, e2, rfl, hr, hg, hi2⟩
  replace hR := Blk.turn hR hg (by omega)
  replace h4 := Blk.turn h4 hg (by omega)
  replace g := only_trans g hg
  clear hg
  rw [H3.out] at hi2
  obtain ⟨rfl, rfl, rfl⟩ := hi2
  clear c1 f1
  obtain ⟨_, c1, _, _, f1, _, _⟩ := hr.cells
  unfold setV
  go_upto_region 11 with fail
  clear c1 f1
  have h7 : Blk (w0.alloc (.cells #[.int .u64 (word m2 0), .int .u64 (word m2 1), .int .u64 (word m2 2), .int .u64 (word m2 3)] 24)) w0.heap.size 24 (setL m2) := Blk.new w0 (setL m2) 24
  have kh7 : w.heap.size < w0.heap.size := hR.lt
  have jh7 : b < w0.heap.size := hr.blk.lt
  have lh7 : bh4 < w0.heap.size := h4.lt
  replace h4 := h4.alloc (.cells #[.int .u64 (word m2 0), .int .u64 (word m2 1), .int .u64 (word m2 2), .int .u64 (word m2 3)] 24)
  replace g := only_alloc g (.cells #[.int .u64 (word m2 0), .int .u64 (word m2 1), .int .u64 (word m2 2), .int .u64 (word m2 3)] 24)
  replace hR := hR.alloc (.cells #[.int .u64 (word m2 0), .int .u64 (word m2 1), .int .u64 (word m2 2), .int .u64 (word m2 3)] 24)
  replace hr := hr.below ((Below.refl _ w0).alloc (Nat.le_refl _) (.cells #[.int .u64 (word m2 0), .int .u64 (word m2 1), .int .u64 (word m2 2), .int .u64 (word m2 3)] 24))
  generalize w0.alloc _ = wn at *
  generalize w0.heap.size = bh7 at *
  obtain ⟨_, c1, _, _, f1, _, _⟩ := hr.cells
  rename World => w0
  go_wp2_with fail
  refine (bad_at hr).mono ?_
  rintro v w0 ⟨rfl, hb⟩
  replace hR := hR.below hb hR.lt
  replace h4 := h4.below hb h4.lt
  replace h7 := h7.below hb h7.lt
  replace g := only_below g hb
  replace hr := hr.below hb
  clear hb
  rw [show decide ((0 : Nat) ≠ 0) = false from rfl]
  obtain ⟨x0, x1, x2, x3, _, _, _, _⟩ := h7.four
  go_wp2_with fail
  refine (count_any m2 _).mono ?_
  rintro v w0 ⟨rfl, hb⟩
  clear x0 x1 x2 x3
  replace hR := hR.below hb hR.lt
  replace h4 := h4.below hb h4.lt
  replace h7 := h7.below hb h7.lt
  replace g := only_below g hb
  replace hr := hr.below hb
  clear hb
  have hc2 : ((cnt m2 256 : Nat) : Int) ≠ 1 := by have := HC2.out; omega
  go_wp2_with fail
  refine (fail_at (k := 4) hr (by omega)).mono ?_
  rintro v w0 ⟨⟨u, rfl⟩, hr, hg⟩
  replace hR := Blk.turn hR hg (by omega)
  replace h4 := Blk.turn h4 hg (by omega)
  replace h7 := Blk.turn h7 hg (by omega)
  replace g := only_trans g hg
  clear hg
  obtain ⟨x0, x1, x2, x3, _, _, _, _⟩ := h4.four
  go_wp2_with fail
  refine (first_any m1 _ hr.tab).mono ?_
  rintro v w0 ⟨rfl, hb⟩
  clear x0 x1 x2 x3
  replace hR := hR.below hb hR.lt
  replace h4 := h4.below hb h4.lt
  replace h7 := h7.below hb h7.lt
  replace g := only_below g hb
  replace hr := hr.below hb
  clear hb
  rw [firstV_eq, fstB_some HA.out]
  obtain ⟨x0, x1, x2, x3, _, _, _, _⟩ := h7.four
  go_wp2_with fail
  refine (first_any m2 _ hr.tab).mono ?_
  rintro v w0 ⟨rfl, hb⟩
  clear x0 x1 x2 x3
  replace hR := hR.below hb hR.lt
  replace h4 := h4.below hb h4.lt
  replace h7 := h7.below hb h7.lt
  replace g := only_below g hb
  replace hr := hr.below hb
  clear hb
  rw [firstV_eq]
  have hb2 := fstB_lt m2
  go_wp2_with fail
  refine (bad_at hr).mono ?_
  rintro v w0 ⟨rfl, hb⟩
  replace hR := hR.below hb hR.lt
  replace h4 := h4.below hb h4.lt
  replace h7 := h7.below hb h7.lt
  replace g := only_below g hb
  replace hr := hr.below hb
  clear hb
  rw [show decide ((4 : Nat) ≠ 0) = true from rfl]
  go_wp2_with fail
  refine (range_any ((a : Nat) : Int) ((fstB m2 : Nat) : Int) (by omega) (by omega) _).mono ?_
  rintro v w0 ⟨rfl, hb⟩
  replace hR := hR.below hb hR.lt
  replace h4 := h4.below hb h4.lt
  replace h7 := h7.below hb h7.lt
  replace g := only_below g hb
  replace hr := hr.below hb
  clear hb
  generalize hrm : rangeM ((a : Nat) : Int) ((fstB m2 : Nat) : Int) = rm at *
  have HRM := Lib.hid hrm
  clear hrm
  unfold setV
  obtain ⟨y0, y1, y2, y3, k0, k1, k2, k3⟩ := hR.four
  go_wp2
  refine ret_set (b := w.heap.size) rfl rfl (hR.set4 _ _ _ _) rfl ?_
  exact ⟨rm, j1 + 1, 4, rfl, hr.far4 (by omega) (by have := tab_lt h.tab; omega) _ _ _ _, only_set4' g (Nat.le_refl _) _ _ _ _, by rw [HX.out]; exact ⟨rfl, rfl, by omega⟩⟩
set_option maxRecDepth 100000 in
set_option maxHeartbeats 2000000 in
theorem span_f {w : World} {b : Nat} {s : ByteArray} {i : Nat} {lv : Value} (h : Rdr w b s i 0 lv) (lo : Nat → Bool) (j : Nat) (h1 : itemM (bytesN s) i = .ok lo j) (h2 : (bytesN s)[j]? = some 45) (a : Nat) (ha : onlyM lo = some a) (hc0 : cnt lo 256 = 1) (ha2 : a < 256) (hi : Nat → Bool) (k : Nat) (h3 : itemM (bytesN s) (j + 1) = .ok hi k) (b2 : Nat) (hb0 : onlyM hi = some b2) (hc3 : cnt hi 256 = 1) (hlt : b2 < a) :
    Calls Tryz.prog 225 #[.pointer (some ⟨b, 0, none⟩)] w fun v w' => ∃ m j e, v = .returned (setV m) ∧ Rdr w' b s j e lv ∧ w.grownBy w' (some b) ∧ SetIs (spanM (bytesN s) i) m j e := by
  have HX := Lib.hid (show spanM (bytesN s) i = .err i 5 by unfold spanM; rw [h1]; simp only []; rw [if_pos h2, ha]; simp only []; rw [h3]; simp only []; rw [hb0]; simp only []; rw [if_pos hlt])
  have H1 := Lib.hid h1
  have H2 := Lib.hid h2
  have H3 := Lib.hid h3
  clear h1 h2 h3
  have HC := Lib.hid hc0
  have HA := Lib.hid ha
  clear hc0 ha
  have HC2 := Lib.hid hc3
  have HB2 := Lib.hid (fstB_some hb0)
  clear hc3 hb0
  have hblt := h.blk.lt
  have hsz := h.size
  have hle0 := h.le
  obtain ⟨_, c1, _, _, f1, _, _⟩ := h.cells
  go_enter Tryz.func225, Tryz.ntmps225
  go_wp2_with fail
  clear c1 f1
  have hR := Blk.new w (setL noSet) 24
  have hr := h.below ((Below.refl _ w).alloc (Nat.le_refl _) (.cells (setL noSet).toArray 24))
  have g := only_alloc (only_refl w b) (.cells (setL noSet).toArray 24)
  rw [show (setL noSet).toArray = #[.int .u64 0, .int .u64 0, .int .u64 0, .int .u64 0] by rw [setL_none]] at hr g hR
  generalize w.alloc _ = wa at *
  refine (item_at hr).mono ?_
  rintro v w0 ⟨m1, j1, e1, rfl, hr, hg, hi1⟩
  replace hR := Blk.turn hR hg (by omega)
  replace g := only_trans g hg
  clear hg
  rw [H1.out] at hi1
  obtain ⟨rfl, rfl, rfl⟩ := hi1
  have hj := hr.le
  obtain ⟨_, c1, _, _, f1, _, _⟩ := hr.cells
  unfold setV
  go_upto_region 3 with fail
  clear c1 f1
  have h4 : Blk (w0.alloc (.cells #[.int .u64 (word m1 0), .int .u64 (word m1 1), .int .u64 (word m1 2), .int .u64 (word m1 3)] 24)) w0.heap.size 24 (setL m1) := Blk.new w0 (setL m1) 24
  have kh4 : w.heap.size < w0.heap.size := hR.lt
  have jh4 : b < w0.heap.size := hr.blk.lt
  replace g := only_alloc g (.cells #[.int .u64 (word m1 0), .int .u64 (word m1 1), .int .u64 (word m1 2), .int .u64 (word m1 3)] 24)
  replace hR := hR.alloc (.cells #[.int .u64 (word m1 0), .int .u64 (word m1 1), .int .u64 (word m1 2), .int .u64 (word m1 3)] 24)
  replace hr := hr.below ((Below.refl _ w0).alloc (Nat.le_refl _) (.cells #[.int .u64 (word m1 0), .int .u64 (word m1 1), .int .u64 (word m1 2), .int .u64 (word m1 3)] 24))
  generalize w0.alloc _ = wn at *
  generalize w0.heap.size = bh4 at *
  obtain ⟨_, c1, _, _, f1, _, _⟩ := hr.cells
  rename World => w0
  go_wp2_with fail
  refine (bad_at hr).mono ?_
  rintro v w0 ⟨rfl, hb⟩
  replace hR := hR.below hb hR.lt
  replace h4 := h4.below hb h4.lt
  replace g := only_below g hb
  replace hr := hr.below hb
  clear hb
  rw [show decide ((0 : Nat) ≠ 0) = false from rfl]
  go_wp2_with fail
  refine (is_at 45 hr).mono ?_
  rintro v w0 ⟨rfl, hr, hg⟩
  rw [(isB_yes H2.out).2] at hr
  rw [(isB_yes H2.out).1]
  replace hR := Blk.turn hR hg (by omega)
  replace h4 := Blk.turn h4 hg (by omega)
  replace g := only_trans g hg
  clear hg
  have hj1 := hr.le
  obtain ⟨x0, x1, x2, x3, _, _, _, _⟩ := h4.four
  go_wp2_with fail
  refine (count_any m1 _).mono ?_
  rintro v w0 ⟨rfl, hb⟩
  clear x0 x1 x2 x3
  replace hR := hR.below hb hR.lt
  replace h4 := h4.below hb h4.lt
  replace g := only_below g hb
  replace hr := hr.below hb
  clear hb
  have hc : ((cnt m1 256 : Nat) : Int) = 1 := by have := HC.out; omega
  clear c1 f1
  obtain ⟨_, c1, _, _, f1, _, _⟩ := hr.cells
  go_wp2_with fail
  refine (item_at hr).mono ?_
  rintro v w0 ⟨m2, j2, e2, rfl, hr, hg, hi2⟩
  replace hR := Blk.turn hR hg (by omega)
  replace h4 := Blk.turn h4 hg (by omega)
  replace g := only_trans g hg
  clear hg
  rw [H3.out] at hi2
  obtain ⟨rfl, rfl, rfl⟩ := hi2
  clear c1 f1
  obtain ⟨_, c1, _, _, f1, _, _⟩ := hr.cells
  unfold setV
  go_upto_region 11 with fail
  clear c1 f1
  have h7 : Blk (w0.alloc (.cells #[.int .u64 (word m2 0), .int .u64 (word m2 1), .int .u64 (word m2 2), .int .u64 (word m2 3)] 24)) w0.heap.size 24 (setL m2) := Blk.new w0 (setL m2) 24
  have kh7 : w.heap.size < w0.heap.size := hR.lt
  have jh7 : b < w0.heap.size := hr.blk.lt
  have lh7 : bh4 < w0.heap.size := h4.lt
  replace h4 := h4.alloc (.cells #[.int .u64 (word m2 0), .int .u64 (word m2 1), .int .u64 (word m2 2), .int .u64 (word m2 3)] 24)
  replace g := only_alloc g (.cells #[.int .u64 (word m2 0), .int .u64 (word m2 1), .int .u64 (word m2 2), .int .u64 (word m2 3)] 24)
  replace hR := hR.alloc (.cells #[.int .u64 (word m2 0), .int .u64 (word m2 1), .int .u64 (word m2 2), .int .u64 (word m2 3)] 24)
  replace hr := hr.below ((Below.refl _ w0).alloc (Nat.le_refl _) (.cells #[.int .u64 (word m2 0), .int .u64 (word m2 1), .int .u64 (word m2 2), .int .u64 (word m2 3)] 24))
  generalize w0.alloc _ = wn at *
  generalize w0.heap.size = bh7 at *
  obtain ⟨_, c1, _, _, f1, _, _⟩ := hr.cells
  rename World => w0
  go_wp2_with fail
  refine (bad_at hr).mono ?_
  rintro v w0 ⟨rfl, hb⟩
  replace hR := hR.below hb hR.lt
  replace h4 := h4.below hb h4.lt
  replace h7 := h7.below hb h7.lt
  replace g := only_below g hb
  replace hr := hr.below hb
  clear hb
  rw [show decide ((0 : Nat) ≠ 0) = false from rfl]
  obtain ⟨x0, x1, x2, x3, _, _, _, _⟩ := h7.four
  go_wp2_with fail
  refine (count_any m2 _).mono ?_
  rintro v w0 ⟨rfl, hb⟩
  clear x0 x1 x2 x3
  replace hR := hR.below hb hR.lt
  replace h4 := h4.below hb h4.lt
  replace h7 := h7.below hb h7.lt
  replace g := only_below g hb
  replace hr := hr.below hb
  clear hb
  have hc2 : ((cnt m2 256 : Nat) : Int) = 1 := by have := HC2.out; omega
  obtain ⟨x0, x1, x2, x3, _, _, _, _⟩ := h4.four
  go_wp2_with fail
  refine (first_any m1 _ hr.tab).mono ?_
  rintro v w0 ⟨rfl, hb⟩
  clear x0 x1 x2 x3
  replace hR := hR.below hb hR.lt
  replace h4 := h4.below hb h4.lt
  replace h7 := h7.below hb h7.lt
  replace g := only_below g hb
  replace hr := hr.below hb
  clear hb
  rw [firstV_eq, fstB_some HA.out]
  obtain ⟨x0, x1, x2, x3, _, _, _, _⟩ := h7.four
  go_wp2_with fail
  refine (first_any m2 _ hr.tab).mono ?_
  rintro v w0 ⟨rfl, hb⟩
  clear x0 x1 x2 x3
  replace hR := hR.below hb hR.lt
  replace h4 := h4.below hb h4.lt
  replace h7 := h7.below hb h7.lt
  replace g := only_below g hb
  replace hr := hr.below hb
  clear hb
  rw [firstV_eq]
  have hb2 := fstB_lt m2
  have hlt2 : fstB m2 < a := by rw [HB2.out]; exact hlt
  go_wp2_with fail
  refine (bad_at hr).mono ?_
  rintro v w0 ⟨rfl, hb⟩
  replace hR := hR.below hb hR.lt
  replace h4 := h4.below hb h4.lt
  replace h7 := h7.below hb h7.lt
  replace g := only_below g hb
  replace hr := hr.below hb
  clear hb
  rw [show decide ((0 : Nat) ≠ 0) = false from rfl]
  go_wp2_with fail
  refine (fail_at (k := 5) hr (by omega)).mono ?_
  rintro v w0 ⟨⟨u, rfl⟩, hr, hg⟩
  replace hR := Blk.turn hR hg (by omega)
  replace h4 := Blk.turn h4 hg (by omega)
  replace h7 := Blk.turn h7 hg (by omega)
  replace g := only_trans g hg
  clear hg
  go_wp2_with fail
  refine (range_any ((a : Nat) : Int) ((fstB m2 : Nat) : Int) (by omega) (by omega) _).mono ?_
  rintro v w0 ⟨rfl, hb⟩
  replace hR := hR.below hb hR.lt
  replace h4 := h4.below hb h4.lt
  replace h7 := h7.below hb h7.lt
  replace g := only_below g hb
  replace hr := hr.below hb
  clear hb
  generalize hrm : rangeM ((a : Nat) : Int) ((fstB m2 : Nat) : Int) = rm at *
  have HRM := Lib.hid hrm
  clear hrm
  unfold setV
  obtain ⟨y0, y1, y2, y3, k0, k1, k2, k3⟩ := hR.four
  go_wp2
  refine ret_set (b := w.heap.size) rfl rfl (hR.set4 _ _ _ _) rfl ?_
  exact ⟨rm, i, 5, rfl, hr.far4 (by omega) (by have := tab_lt h.tab; omega) _ _ _ _, only_set4' g (Nat.le_refl _) _ _ _ _, by rw [HX.out]; exact ⟨rfl, rfl, by omega⟩⟩
set_option maxRecDepth 100000 in
set_option maxHeartbeats 2000000 in
theorem span_g {w : World} {b : Nat} {s : ByteArray} {i : Nat} {lv : Value} (h : Rdr w b s i 0 lv) (lo : Nat → Bool) (j : Nat) (h1 : itemM (bytesN s) i = .ok lo j) (h2 : (bytesN s)[j]? = some 45) (a : Nat) (ha : onlyM lo = some a) (hc0 : cnt lo 256 = 1) (ha2 : a < 256) (hi : Nat → Bool) (k : Nat) (h3 : itemM (bytesN s) (j + 1) = .ok hi k) (b2 : Nat) (hb0 : onlyM hi = some b2) (hc3 : cnt hi 256 = 1) (hlt : ¬b2 < a) :
    Calls Tryz.prog 225 #[.pointer (some ⟨b, 0, none⟩)] w fun v w' => ∃ m j e, v = .returned (setV m) ∧ Rdr w' b s j e lv ∧ w.grownBy w' (some b) ∧ SetIs (spanM (bytesN s) i) m j e := by
  have HX := Lib.hid (show spanM (bytesN s) i = .ok (rangeM ((a : Nat) : Int) ((b2 : Nat) : Int)) k by unfold spanM; rw [h1]; simp only []; rw [if_pos h2, ha]; simp only []; rw [h3]; simp only []; rw [hb0]; simp only []; rw [if_neg hlt])
  have H1 := Lib.hid h1
  have H2 := Lib.hid h2
  have H3 := Lib.hid h3
  clear h1 h2 h3
  have HC := Lib.hid hc0
  have HA := Lib.hid ha
  clear hc0 ha
  have HC2 := Lib.hid hc3
  have HB2 := Lib.hid (fstB_some hb0)
  clear hc3 hb0
  have hblt := h.blk.lt
  have hsz := h.size
  have hle0 := h.le
  obtain ⟨_, c1, _, _, f1, _, _⟩ := h.cells
  go_enter Tryz.func225, Tryz.ntmps225
  go_wp2_with fail
  clear c1 f1
  have hR := Blk.new w (setL noSet) 24
  have hr := h.below ((Below.refl _ w).alloc (Nat.le_refl _) (.cells (setL noSet).toArray 24))
  have g := only_alloc (only_refl w b) (.cells (setL noSet).toArray 24)
  rw [show (setL noSet).toArray = #[.int .u64 0, .int .u64 0, .int .u64 0, .int .u64 0] by rw [setL_none]] at hr g hR
  generalize w.alloc _ = wa at *
  refine (item_at hr).mono ?_
  rintro v w0 ⟨m1, j1, e1, rfl, hr, hg, hi1⟩
  replace hR := Blk.turn hR hg (by omega)
  replace g := only_trans g hg
  clear hg
  rw [H1.out] at hi1
  obtain ⟨rfl, rfl, rfl⟩ := hi1
  have hj := hr.le
  obtain ⟨_, c1, _, _, f1, _, _⟩ := hr.cells
  unfold setV
  go_upto_region 3 with fail
  clear c1 f1
  have h4 : Blk (w0.alloc (.cells #[.int .u64 (word m1 0), .int .u64 (word m1 1), .int .u64 (word m1 2), .int .u64 (word m1 3)] 24)) w0.heap.size 24 (setL m1) := Blk.new w0 (setL m1) 24
  have kh4 : w.heap.size < w0.heap.size := hR.lt
  have jh4 : b < w0.heap.size := hr.blk.lt
  replace g := only_alloc g (.cells #[.int .u64 (word m1 0), .int .u64 (word m1 1), .int .u64 (word m1 2), .int .u64 (word m1 3)] 24)
  replace hR := hR.alloc (.cells #[.int .u64 (word m1 0), .int .u64 (word m1 1), .int .u64 (word m1 2), .int .u64 (word m1 3)] 24)
  replace hr := hr.below ((Below.refl _ w0).alloc (Nat.le_refl _) (.cells #[.int .u64 (word m1 0), .int .u64 (word m1 1), .int .u64 (word m1 2), .int .u64 (word m1 3)] 24))
  generalize w0.alloc _ = wn at *
  generalize w0.heap.size = bh4 at *
  obtain ⟨_, c1, _, _, f1, _, _⟩ := hr.cells
  rename World => w0
  go_wp2_with fail
  refine (bad_at hr).mono ?_
  rintro v w0 ⟨rfl, hb⟩
  replace hR := hR.below hb hR.lt
  replace h4 := h4.below hb h4.lt
  replace g := only_below g hb
  replace hr := hr.below hb
  clear hb
  rw [show decide ((0 : Nat) ≠ 0) = false from rfl]
  go_wp2_with fail
  refine (is_at 45 hr).mono ?_
  rintro v w0 ⟨rfl, hr, hg⟩
  rw [(isB_yes H2.out).2] at hr
  rw [(isB_yes H2.out).1]
  replace hR := Blk.turn hR hg (by omega)
  replace h4 := Blk.turn h4 hg (by omega)
  replace g := only_trans g hg
  clear hg
  have hj1 := hr.le
  obtain ⟨x0, x1, x2, x3, _, _, _, _⟩ := h4.four
  go_wp2_with fail
  refine (count_any m1 _).mono ?_
  rintro v w0 ⟨rfl, hb⟩
  clear x0 x1 x2 x3
  replace hR := hR.below hb hR.lt
  replace h4 := h4.below hb h4.lt
  replace g := only_below g hb
  replace hr := hr.below hb
  clear hb
  have hc : ((cnt m1 256 : Nat) : Int) = 1 := by have := HC.out; omega
  clear c1 f1
  obtain ⟨_, c1, _, _, f1, _, _⟩ := hr.cells
  go_wp2_with fail
  refine (item_at hr).mono ?_
  rintro v w0 ⟨m2, j2, e2, rfl, hr, hg, hi2⟩
  replace hR := Blk.turn hR hg (by omega)
  replace h4 := Blk.turn h4 hg (by omega)
  replace g := only_trans g hg
  clear hg
  rw [H3.out] at hi2
  obtain ⟨rfl, rfl, rfl⟩ := hi2
  clear c1 f1
  obtain ⟨_, c1, _, _, f1, _, _⟩ := hr.cells
  unfold setV
  go_upto_region 11 with fail
  clear c1 f1
  have h7 : Blk (w0.alloc (.cells #[.int .u64 (word m2 0), .int .u64 (word m2 1), .int .u64 (word m2 2), .int .u64 (word m2 3)] 24)) w0.heap.size 24 (setL m2) := Blk.new w0 (setL m2) 24
  have kh7 : w.heap.size < w0.heap.size := hR.lt
  have jh7 : b < w0.heap.size := hr.blk.lt
  have lh7 : bh4 < w0.heap.size := h4.lt
  replace h4 := h4.alloc (.cells #[.int .u64 (word m2 0), .int .u64 (word m2 1), .int .u64 (word m2 2), .int .u64 (word m2 3)] 24)
  replace g := only_alloc g (.cells #[.int .u64 (word m2 0), .int .u64 (word m2 1), .int .u64 (word m2 2), .int .u64 (word m2 3)] 24)
  replace hR := hR.alloc (.cells #[.int .u64 (word m2 0), .int .u64 (word m2 1), .int .u64 (word m2 2), .int .u64 (word m2 3)] 24)
  replace hr := hr.below ((Below.refl _ w0).alloc (Nat.le_refl _) (.cells #[.int .u64 (word m2 0), .int .u64 (word m2 1), .int .u64 (word m2 2), .int .u64 (word m2 3)] 24))
  generalize w0.alloc _ = wn at *
  generalize w0.heap.size = bh7 at *
  obtain ⟨_, c1, _, _, f1, _, _⟩ := hr.cells
  rename World => w0
  go_wp2_with fail
  refine (bad_at hr).mono ?_
  rintro v w0 ⟨rfl, hb⟩
  replace hR := hR.below hb hR.lt
  replace h4 := h4.below hb h4.lt
  replace h7 := h7.below hb h7.lt
  replace g := only_below g hb
  replace hr := hr.below hb
  clear hb
  rw [show decide ((0 : Nat) ≠ 0) = false from rfl]
  obtain ⟨x0, x1, x2, x3, _, _, _, _⟩ := h7.four
  go_wp2_with fail
  refine (count_any m2 _).mono ?_
  rintro v w0 ⟨rfl, hb⟩
  clear x0 x1 x2 x3
  replace hR := hR.below hb hR.lt
  replace h4 := h4.below hb h4.lt
  replace h7 := h7.below hb h7.lt
  replace g := only_below g hb
  replace hr := hr.below hb
  clear hb
  have hc2 : ((cnt m2 256 : Nat) : Int) = 1 := by have := HC2.out; omega
  obtain ⟨x0, x1, x2, x3, _, _, _, _⟩ := h4.four
  go_wp2_with fail
  refine (first_any m1 _ hr.tab).mono ?_
  rintro v w0 ⟨rfl, hb⟩
  clear x0 x1 x2 x3
  replace hR := hR.below hb hR.lt
  replace h4 := h4.below hb h4.lt
  replace h7 := h7.below hb h7.lt
  replace g := only_below g hb
  replace hr := hr.below hb
  clear hb
  rw [firstV_eq, fstB_some HA.out]
  obtain ⟨x0, x1, x2, x3, _, _, _, _⟩ := h7.four
  go_wp2_with fail
  refine (first_any m2 _ hr.tab).mono ?_
  rintro v w0 ⟨rfl, hb⟩
  clear x0 x1 x2 x3
  replace hR := hR.below hb hR.lt
  replace h4 := h4.below hb h4.lt
  replace h7 := h7.below hb h7.lt
  replace g := only_below g hb
  replace hr := hr.below hb
  clear hb
  rw [firstV_eq]
  have hb2 := fstB_lt m2
  have hlt2 : ¬fstB m2 < a := by rw [HB2.out]; exact hlt
  go_wp2_with fail
  refine (bad_at hr).mono ?_
  rintro v w0 ⟨rfl, hb⟩
  replace hR := hR.below hb hR.lt
  replace h4 := h4.below hb h4.lt
  replace h7 := h7.below hb h7.lt
  replace g := only_below g hb
  replace hr := hr.below hb
  clear hb
  rw [show decide ((0 : Nat) ≠ 0) = false from rfl]
  go_wp2_with fail
  refine (range_any ((a : Nat) : Int) ((fstB m2 : Nat) : Int) (by omega) (by omega) _).mono ?_
  rintro v w0 ⟨rfl, hb⟩
  replace hR := hR.below hb hR.lt
  replace h4 := h4.below hb h4.lt
  replace h7 := h7.below hb h7.lt
  replace g := only_below g hb
  replace hr := hr.below hb
  clear hb
  generalize hrm : rangeM ((a : Nat) : Int) ((fstB m2 : Nat) : Int) = rm at *
  have HRM := Lib.hid hrm
  clear hrm
  unfold setV
  obtain ⟨y0, y1, y2, y3, k0, k1, k2, k3⟩ := hR.four
  go_wp2
  refine ret_set (b := w.heap.size) rfl rfl (hR.set4 _ _ _ _) rfl ?_
  exact ⟨rm, j2, 0, rfl, hr.far4 (by omega) (by have := tab_lt h.tab; omega) _ _ _ _, only_set4' g (Nat.le_refl _) _ _ _ _, by rw [HX.out, ← HB2.out, HRM.out]; exact ⟨rfl, rfl, rfl⟩⟩
theorem span_at {w : World} {b : Nat} {s : ByteArray} {i : Nat} {lv : Value} (h : Rdr w b s i 0 lv) :
    Calls Tryz.prog 225 #[.pointer (some ⟨b, 0, none⟩)] w fun v w' => ∃ m j e, v = .returned (setV m) ∧ Rdr w' b s j e lv ∧ w.grownBy w' (some b) ∧ SetIs (spanM (bytesN s) i) m j e := by
  cases h1 : itemM (bytesN s) i with
  | err j e => exact span_a h j e h1
  | ok lo j =>
    by_cases h2 : (bytesN s)[j]? = some 45
    · by_cases hc : cnt lo 256 = 1
      · obtain ⟨a, ha, _, ha2⟩ := only_some hc
        cases h3 : itemM (bytesN s) (j + 1) with
        | err k e => exact span_d h lo j h1 h2 a ha hc ha2 k e h3
        | ok hi k =>
          by_cases hc2 : cnt hi 256 = 1
          · obtain ⟨b2, hb, _, _⟩ := only_some hc2
            by_cases hlt : b2 < a
            · exact span_f h lo j h1 h2 a ha hc ha2 hi k h3 b2 hb hc2 hlt
            · exact span_g h lo j h1 h2 a ha hc ha2 hi k h3 b2 hb hc2 hlt
          · exact span_e h lo j h1 h2 a ha hc ha2 hi k h3 hc2
      · exact span_c h lo j h1 h2 hc
    · exact span_b h lo j h1 h2
end Go.Proofs.YtpiimcbbgalhfaaGreatDoor
