/- item: a byte of a class, or an escape. -/
import Derived.Test.YtofhkgafgnldnaaDoorEscapeX
import Derived.Test.YtofhkgafgnldnaaDoorOps2
namespace Go.Proofs.YtofhkgafgnldnaaDoor
open Go.RowKit
set_option maxRecDepth 100000 in
set_option maxHeartbeats 2000000 in
theorem item_none {w : World} {b : Nat} {s : ByteArray} {i : Nat} {lv : Value} (h : Rdr w b s i 0 lv) (hc : (bytesN s)[i]? = none) :
    Calls Tryd.prog 45 #[.pointer (some ⟨b, 0, none⟩)] w fun v w' => ∃ m j e, v = .returned (setV m) ∧ Rdr w' b s j e lv ∧ w.grownBy w' (some b) ∧ SetIs (itemM (bytesN s) i) m j e := by
  have hp : peekV (bytesN s) i = .tuple #[.int .u8 ((0 : Nat) : Int), .bool false] := by unfold peekV; rw [hc]; rfl
  have HX := Lib.hid (show itemM (bytesN s) i = .err i 4 by unfold itemM; rw [hc])
  clear hc
  have hblt := h.blk.lt
  have hsz := h.size
  have hle0 := h.le
  go_enter Tryd.func45, Tryd.ntmps45
  go_wp2_with fail
  have hR1 := Blk.new w (setL noSet) 32
  have h1 := h.below ((Below.refl _ w).alloc (Nat.le_refl _) (.cells (setL noSet).toArray 32))
  have g1 := only_alloc (only_refl w b) (.cells (setL noSet).toArray 32)
  rw [show (setL noSet).toArray = #[.int .u64 0, .int .u64 0, .int .u64 0, .int .u64 0] by rw [setL_none]] at h1 g1 hR1
  generalize w.alloc _ = w1 at *
  refine (peek_at h1).mono ?_
  rintro v w2 ⟨rfl, hb⟩
  rw [hp]
  have h4 := h1.below hb
  have hR4 := hR1.below hb hR1.lt
  have g4 := only_below g1 hb
  clear h1 hR1 g1 hb
  rename World => w4
  go_wp2_with fail
  obtain ⟨_, c1, _, _, f1, _, _⟩ := h4.cells
  go_still_tail 8, (by kernel_rfl)
  change wpList _ _ _ _ _ w4.drew
  go_wp2_with fail
  refine (fail_at (k := 4) (h4.below (Below.refl _ _).drew) (by have := h4.le; omega)).mono ?_
  rintro v w7 ⟨⟨u, rfl⟩, h7, hg⟩
  have hg7 := only_trans (only_of b ((Below.refl w4.heap.size _).drew)) hg
  have g7 := only_trans g4 hg7
  have hR7 := hR4.turn hg7 (by omega)
  obtain ⟨y0, y1, y2, y3, k0, k1, k2, k3⟩ := hR7.four
  go_wp2
  refine ret_set (b := w.heap.size) rfl rfl (hR7.set4 _ _ _ _) rfl ?_
  refine ⟨noSet, i, 4, ?_, h7.far4 (by omega) (by have := tab_lt h.tab; omega) _ _ _ _, only_set4' g7 (Nat.le_refl _) _ _ _ _, by rw [HX.out]; exact ⟨rfl, rfl, by omega⟩⟩
  have := setL_none
  unfold setL at this
  unfold setV
  rw [show (#[Value.int .u64 (word noSet 0), .int .u64 (word noSet 1), .int .u64 (word noSet 2), .int .u64 (word noSet 3)] : Array Value) = #[.int .u64 0, .int .u64 0, .int .u64 0, .int .u64 0] from congrArg List.toArray this]
set_option maxRecDepth 100000 in
set_option maxHeartbeats 2000000 in
theorem item_inner {w : World} {b : Nat} {s : ByteArray} {i : Nat} {lv : Value} (h : Rdr w b s i 0 lv) (c : Nat) (hc : (bytesN s)[i]? = some c) (hs : innerL.contains c = true) :
    Calls Tryd.prog 45 #[.pointer (some ⟨b, 0, none⟩)] w fun v w' => ∃ m j e, v = .returned (setV m) ∧ Rdr w' b s j e lv ∧ w.grownBy w' (some b) ∧ SetIs (itemM (bytesN s) i) m j e := by
  have hp : peekV (bytesN s) i = .tuple #[.int .u8 ((c : Nat) : Int), .bool true] := by unfold peekV; rw [hc]
  have hc256 := bytesN_lt hc
  have hle : i + 1 ≤ s.size := (bytesN_some hc).1
  have HX := Lib.hid (show itemM (bytesN s) i = .err i 4 by unfold itemM; rw [hc]; simp only []; rw [if_pos hs])
  clear hc
  have hblt := h.blk.lt
  have hsz := h.size
  have hle0 := h.le
  go_enter Tryd.func45, Tryd.ntmps45
  go_wp2_with fail
  have hR1 := Blk.new w (setL noSet) 32
  have h1 := h.below ((Below.refl _ w).alloc (Nat.le_refl _) (.cells (setL noSet).toArray 32))
  have g1 := only_alloc (only_refl w b) (.cells (setL noSet).toArray 32)
  rw [show (setL noSet).toArray = #[.int .u64 0, .int .u64 0, .int .u64 0, .int .u64 0] by rw [setL_none]] at h1 g1 hR1
  generalize w.alloc _ = w1 at *
  refine (peek_at h1).mono ?_
  rintro v w2 ⟨rfl, hb⟩
  rw [hp]
  have h4 := h1.below hb
  have hR4 := hR1.below hb hR1.lt
  have g4 := only_below g1 hb
  clear h1 hR1 g1 hb
  rename World => w4
  go_wp2_with fail
  refine (index_in _ innerL inner_ix c hc256 _).mono ?_
  rintro v w5 ⟨⟨n, rfl, hn⟩, rfl⟩
  rename World => w4
  rw [if_pos hs] at hn
  go_wp2_with fail
  obtain ⟨_, c1, _, _, f1, _, _⟩ := h4.cells
  go_still_tail 8, (by kernel_rfl)
  change wpList _ _ _ _ _ w4.drew
  go_wp2_with fail
  refine (fail_at (k := 4) (h4.below (Below.refl _ _).drew) (by have := h4.le; omega)).mono ?_
  rintro v w7 ⟨⟨u, rfl⟩, h7, hg⟩
  have hg7 := only_trans (only_of b ((Below.refl w4.heap.size _).drew)) hg
  have g7 := only_trans g4 hg7
  have hR7 := hR4.turn hg7 (by omega)
  obtain ⟨y0, y1, y2, y3, k0, k1, k2, k3⟩ := hR7.four
  go_wp2
  refine ret_set (b := w.heap.size) rfl rfl (hR7.set4 _ _ _ _) rfl ?_
  refine ⟨noSet, i, 4, ?_, h7.far4 (by omega) (by have := tab_lt h.tab; omega) _ _ _ _, only_set4' g7 (Nat.le_refl _) _ _ _ _, by rw [HX.out]; exact ⟨rfl, rfl, by omega⟩⟩
  have := setL_none
  unfold setL at this
  unfold setV
  rw [show (#[Value.int .u64 (word noSet 0), .int .u64 (word noSet 1), .int .u64 (word noSet 2), .int .u64 (word noSet 3)] : Array Value) = #[.int .u64 0, .int .u64 0, .int .u64 0, .int .u64 0] from congrArg List.toArray this]
set_option maxRecDepth 100000 in
set_option maxHeartbeats 2000000 in
theorem item_esc {w : World} {b : Nat} {s : ByteArray} {i : Nat} {lv : Value} (h : Rdr w b s i 0 lv) (c : Nat) (hc : (bytesN s)[i]? = some c) (hs : innerL.contains c = false) (hx : c = 92) :
    Calls Tryd.prog 45 #[.pointer (some ⟨b, 0, none⟩)] w fun v w' => ∃ m j e, v = .returned (setV m) ∧ Rdr w' b s j e lv ∧ w.grownBy w' (some b) ∧ SetIs (itemM (bytesN s) i) m j e := by
  have hp : peekV (bytesN s) i = .tuple #[.int .u8 ((c : Nat) : Int), .bool true] := by unfold peekV; rw [hc]
  have hc256 := bytesN_lt hc
  have hle : i + 1 ≤ s.size := (bytesN_some hc).1
  have HX := Lib.hid (show itemM (bytesN s) i = escM (bytesN s) i by unfold itemM; rw [hc]; simp only []; rw [if_neg (by rw [hs]; simp), if_pos hx])
  clear hc
  have HXX := Lib.hid hx
  clear hx
  have hblt := h.blk.lt
  have hsz := h.size
  have hle0 := h.le
  go_enter Tryd.func45, Tryd.ntmps45
  go_wp2_with fail
  have hR1 := Blk.new w (setL noSet) 32
  have h1 := h.below ((Below.refl _ w).alloc (Nat.le_refl _) (.cells (setL noSet).toArray 32))
  have g1 := only_alloc (only_refl w b) (.cells (setL noSet).toArray 32)
  rw [show (setL noSet).toArray = #[.int .u64 0, .int .u64 0, .int .u64 0, .int .u64 0] by rw [setL_none]] at h1 g1 hR1
  generalize w.alloc _ = w1 at *
  refine (peek_at h1).mono ?_
  rintro v w2 ⟨rfl, hb⟩
  rw [hp]
  have h4 := h1.below hb
  have hR4 := hR1.below hb hR1.lt
  have g4 := only_below g1 hb
  clear h1 hR1 g1 hb
  rename World => w4
  go_wp2_with fail
  refine (index_in _ innerL inner_ix c hc256 _).mono ?_
  rintro v w5 ⟨⟨n, rfl, hn⟩, rfl⟩
  rename World => w4
  rw [if_neg (by rw [hs]; simp)] at hn
  have hx' : ((c : Nat) : Int) = 92 := by have := HXX.out; omega
  go_wp2_with fail
  refine (escape_at h4 hle).mono ?_
  rintro v w7 ⟨m, j, e, rfl, h7, hg, hr⟩
  have g7 := only_trans g4 hg
  have hR7 := hR4.turn hg (by omega)
  have HR := Lib.hid hr
  clear hr
  unfold setV
  obtain ⟨y0, y1, y2, y3, k0, k1, k2, k3⟩ := hR7.four
  go_wp2
  refine ret_set (b := w.heap.size) rfl rfl (hR7.set4 _ _ _ _) rfl ?_
  exact ⟨m, j, e, rfl, h7.far4 (by omega) (by have := tab_lt h.tab; omega) _ _ _ _, only_set4' g7 (Nat.le_refl _) _ _ _ _, by rw [HX.out]; exact HR.out⟩
set_option maxRecDepth 100000 in
set_option maxHeartbeats 2000000 in
theorem item_byte {w : World} {b : Nat} {s : ByteArray} {i : Nat} {lv : Value} (h : Rdr w b s i 0 lv) (c : Nat) (hc : (bytesN s)[i]? = some c) (hs : innerL.contains c = false) (hx : c ≠ 92) :
    Calls Tryd.prog 45 #[.pointer (some ⟨b, 0, none⟩)] w fun v w' => ∃ m j e, v = .returned (setV m) ∧ Rdr w' b s j e lv ∧ w.grownBy w' (some b) ∧ SetIs (itemM (bytesN s) i) m j e := by
  have hp : peekV (bytesN s) i = .tuple #[.int .u8 ((c : Nat) : Int), .bool true] := by unfold peekV; rw [hc]
  have hc256 := bytesN_lt hc
  have hle : i + 1 ≤ s.size := (bytesN_some hc).1
  have HX := Lib.hid (show itemM (bytesN s) i = .ok (oneM c) (i + 1) by unfold itemM; rw [hc]; simp only []; rw [if_neg (by rw [hs]; simp), if_neg hx])
  clear hc
  have hblt := h.blk.lt
  have hsz := h.size
  have hle0 := h.le
  go_enter Tryd.func45, Tryd.ntmps45
  go_wp2_with fail
  have hR1 := Blk.new w (setL noSet) 32
  have h1 := h.below ((Below.refl _ w).alloc (Nat.le_refl _) (.cells (setL noSet).toArray 32))
  have g1 := only_alloc (only_refl w b) (.cells (setL noSet).toArray 32)
  rw [show (setL noSet).toArray = #[.int .u64 0, .int .u64 0, .int .u64 0, .int .u64 0] by rw [setL_none]] at h1 g1 hR1
  generalize w.alloc _ = w1 at *
  refine (peek_at h1).mono ?_
  rintro v w2 ⟨rfl, hb⟩
  rw [hp]
  have h4 := h1.below hb
  have hR4 := hR1.below hb hR1.lt
  have g4 := only_below g1 hb
  clear h1 hR1 g1 hb
  rename World => w4
  go_wp2_with fail
  refine (index_in _ innerL inner_ix c hc256 _).mono ?_
  rintro v w5 ⟨⟨n, rfl, hn⟩, rfl⟩
  rename World => w4
  rw [if_neg (by rw [hs]; simp)] at hn
  obtain ⟨_, c1, _, _, f1, _, _⟩ := h4.cells
  go_upto_region 8 with fail
  obtain ⟨hB, gB⟩ := h4.incv (v := ((i : Nat) : Int) + 1) (by omega) hle
  have hRb := hR4.far (p := ⟨b, 1, none⟩) (by show w.heap.size ≠ b; omega) (.int .i64 (((i : Nat) : Int) + 1))
  replace gB := only_trans g4 gB
  clear h4 hR4 g4 c1 f1
  generalize w4.setCell _ _ = wb at *
  go_wp2_with fail
  refine (of_one hc256 _ rfl).mono ?_
  rintro v w6 ⟨rfl, hb⟩
  have hbb := below1 (Below.refl _ wb) (Nat.le_refl _) hb
  have h5 := hB.below hbb
  have hR5 := hRb.below hbb hRb.lt
  have g5 := only_below gB hbb
  unfold setV
  obtain ⟨y0, y1, y2, y3, k0, k1, k2, k3⟩ := hR5.four
  go_wp2
  refine ret_set (b := w.heap.size) rfl rfl (hR5.set4 _ _ _ _) rfl ?_
  exact ⟨oneM c, i + 1, 0, rfl, h5.far4 (by omega) (by have := tab_lt h.tab; omega) _ _ _ _, only_set4' g5 (Nat.le_refl _) _ _ _ _, by rw [HX.out]; exact ⟨rfl, rfl, rfl⟩⟩
theorem item_at {w : World} {b : Nat} {s : ByteArray} {i : Nat} {lv : Value} (h : Rdr w b s i 0 lv) :
    Calls Tryd.prog 45 #[.pointer (some ⟨b, 0, none⟩)] w fun v w' => ∃ m j e, v = .returned (setV m) ∧ Rdr w' b s j e lv ∧ w.grownBy w' (some b) ∧ SetIs (itemM (bytesN s) i) m j e := by
  cases hc : (bytesN s)[i]? with
  | none => exact item_none h hc
  | some c =>
    cases hs : innerL.contains c with
    | true => exact item_inner h c hc hs
    | false =>
      by_cases hx : c = 92
      · exact item_esc h c hc hs hx
      · exact item_byte h c hc hs hx
end Go.Proofs.YtofhkgafgnldnaaDoor
