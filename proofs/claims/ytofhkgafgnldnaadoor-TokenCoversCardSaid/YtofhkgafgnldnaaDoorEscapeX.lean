/- escape, at an x; and the whole. -/
import Derived.Test.YtofhkgafgnldnaaDoorEscape
namespace Go.Proofs.YtofhkgafgnldnaaDoor
open Go.RowKit
theorem Rdr.incv {w : World} {b : Nat} {s : ByteArray} {i e : Nat} {lv : Value} (h : Rdr w b s i e lv) {v : Int} (hv : v = ((i + 1 : Nat) : Int)) (hi : i + 1 ≤ s.size) :
    Rdr (w.setCell ⟨b, 1, none⟩ (.int .i64 v)) b s (i + 1) e lv ∧ w.grownBy (w.setCell ⟨b, 1, none⟩ (.int .i64 v)) (some b) := by
  subst hv
  have hg := only_setCell (only_refl w b) 1 (.int .i64 ((i + 1 : Nat) : Int))
  exact ⟨h.turn hg hi (h.blk.set 1 _), hg⟩
set_option maxRecDepth 100000 in
set_option maxHeartbeats 2000000 in
theorem esc_x1 {w : World} {b : Nat} {s : ByteArray} {i : Nat} {lv : Value} (h : Rdr w b s i 0 lv) (hi : i + 1 ≤ s.size) (c : Nat) (hc : (bytesN s)[i + 1]? = some c) (hs : specialL.contains c = false) (hm : namedM c = none) (hx : c = 120) (h1x : hexAt (bytesN s) (i + 1 + 1) = none) :
    Calls Tryd.prog 19 #[.pointer (some ⟨b, 0, none⟩)] w fun v w' => ∃ m j e, v = .returned (setV m) ∧ Rdr w' b s j e lv ∧ w.grownBy w' (some b) ∧ SetIs (escM (bytesN s) i) m j e := by
  have hp : peekV (bytesN s) (i + 1) = .tuple #[.int .u8 ((c : Nat) : Int), .bool true] := by unfold peekV; rw [hc]
  have hc256 := bytesN_lt hc
  have hle : i + 1 + 1 ≤ s.size := (bytesN_some hc).1
  have HX := Lib.hid (show escM (bytesN s) i = .err (i + 2) 4 by unfold escM; rw [hc]; simp only []; rw [if_neg (by rw [hs]; simp), hm]; simp only []; rw [if_pos hx, h1x])
  clear hc
  have HXX := Lib.hid hx
  clear hx
  obtain ⟨_, c1, _, _, f1, _, _⟩ := h.cells
  have hblt := h.blk.lt
  have hsz := h.size
  go_enter Tryd.func19, Tryd.ntmps19
  go_wp2_with fail
  obtain ⟨h0, g0⟩ := h.inc hi
  have hR1 := Blk.new (w.setCell ⟨b, 1, none⟩ (.int .i64 (((i : Nat) : Int) + 1))) (setL noSet) 32
  rw [setL_none, show (w.setCell ⟨b, 1, none⟩ (.int .i64 (((i : Nat) : Int) + 1))).heap.size = w.heap.size by simp [World.setCell], ← setL_none] at hR1
  have h1 := h0.below ((Below.refl _ _).alloc (Nat.le_refl _) (.cells (setL noSet).toArray 32))
  have g1 := only_alloc g0 (.cells (setL noSet).toArray 32)
  rw [show (setL noSet).toArray = #[.int .u64 0, .int .u64 0, .int .u64 0, .int .u64 0] by rw [setL_none]] at h1 g1 hR1
  clear h0 g0
  generalize (w.setCell _ _).alloc _ = w1 at *
  refine (peek_at h1).mono ?_
  rintro v w2 ⟨rfl, hb⟩
  rw [hp]
  have h2 := h1.below hb
  have hR2 := hR1.below hb hR1.lt
  have g2 := only_below g1 hb
  clear h1 hR1 g1 hb
  go_wp2_with fail
  refine (named_at c hc256 _).mono ?_
  rintro v w3 ⟨rfl, hb⟩
  have h3 := h2.below hb
  have hR3 := hR2.below hb hR2.lt
  have g3 := only_below g2 hb
  clear h2 hR2 g2 hb
  rw [show namedV c = noSet by unfold namedV; rw [hm]; rfl, show (namedM c).isSome = false by rw [hm]; rfl]
  unfold setV
  have h6 : Blk (w3.alloc (.cells #[.int .u64 (word noSet 0), .int .u64 (word noSet 1), .int .u64 (word noSet 2), .int .u64 (word noSet 3)] 32)) w3.heap.size 32 (setL noSet) := Blk.new w3 (setL noSet) 32
  have h4 := h3.below ((Below.refl _ w3).alloc (Nat.le_refl _) (.cells #[.int .u64 (word noSet 0), .int .u64 (word noSet 1), .int .u64 (word noSet 2), .int .u64 (word noSet 3)] 32))
  have hR4 := hR3.alloc (.cells #[.int .u64 (word noSet 0), .int .u64 (word noSet 1), .int .u64 (word noSet 2), .int .u64 (word noSet 3)] 32)
  have g4 := only_alloc g3 (.cells #[.int .u64 (word noSet 0), .int .u64 (word noSet 1), .int .u64 (word noSet 2), .int .u64 (word noSet 3)] 32)
  have hne6 : w3.heap.size ≠ w.heap.size := by have := hR3.lt; omega
  have hneb : w3.heap.size ≠ b := by have := h3.blk.lt; omega
  have hle6 : w.heap.size < w3.heap.size := hR3.lt
  go_wp2_with fail
  generalize w3.alloc _ = w4 at *
  generalize w3.heap.size = b6 at *
  obtain ⟨_, c1, _, _, f1, _, _⟩ := h4.cells
  refine (index_in _ specialL special_ix c hc256 _).mono ?_
  rintro v w5 ⟨⟨n, rfl, hn⟩, rfl⟩
  rename World => w4
  rw [if_neg (by rw [hs]; simp)] at hn
  have hx' : ((c : Nat) : Int) = 120 := by have := HXX.out; omega
  go_wp2_with fail
  obtain ⟨hB, gB⟩ := h4.incv (v := ((i : Nat) : Int) + 1 + 1) (by omega) hle
  have hRb := hR4.far (p := ⟨b, 1, none⟩) (by show w.heap.size ≠ b; omega) (.int .i64 (((i : Nat) : Int) + 1 + 1))
  have h6b := h6.far (p := ⟨b, 1, none⟩) (by show b6 ≠ b; omega) (.int .i64 (((i : Nat) : Int) + 1 + 1))
  generalize w4.setCell _ _ = wb at *
  refine (hex_at hB).mono ?_
  rintro v w7 ⟨n1, j1, e1, rfl, h7, g7, hn1, hh1⟩
  rw [h1x] at hh1
  obtain ⟨rfl, rfl⟩ := hh1
  have hR7 := Blk.turn hRb g7 (by omega)
  have h67 := Blk.turn h6b g7 (by omega)
  replace g7 := only_trans (only_trans g4 gB) g7
  clear hRb h6b hB gB h4 hR4 h6 g4 c1 f1
  go_wp2_with fail
  refine (bad_at h7).mono ?_
  rintro v w8 ⟨rfl, hb8⟩
  have h8 := h7.below hb8
  have hR8 := hR7.below hb8 hR7.lt
  have h68 := h67.below hb8 h67.lt
  have g8 := only_below g7 hb8
  clear h7 hR7 h67 g7 hb8
  rw [show decide ((4 : Nat) ≠ 0) = true from rfl]
  obtain ⟨x0, x1, x2, x3, _, _, _, _⟩ := h68.four
  obtain ⟨y0, y1, y2, y3, k0, k1, k2, k3⟩ := hR8.four
  go_wp2
  refine ret_set (b := w.heap.size) rfl rfl (hR8.set4 _ _ _ _) rfl ?_
  refine ⟨noSet, i + 1 + 1, 4, rfl, ⟨h8.blk.far4 (g := w.heap.size) (by omega) _ _ _ _, ?_, h8.ne, h8.le, h8.size⟩, only_set4' g8 (Nat.le_refl _) _ _ _ _, by rw [HX.out]; exact ⟨rfl, rfl, by omega⟩⟩
  exact h8.tab.only (only_set4 (only_refl _ w.heap.size) _ _ _ _) (by have := tab_lt h.tab; omega)
set_option maxRecDepth 100000 in
set_option maxHeartbeats 2000000 in
theorem esc_x2 {w : World} {b : Nat} {s : ByteArray} {i : Nat} {lv : Value} (h : Rdr w b s i 0 lv) (hi : i + 1 ≤ s.size) (c : Nat) (hc : (bytesN s)[i + 1]? = some c) (hs : specialL.contains c = false) (hm : namedM c = none) (hx : c = 120) (d : Nat) (h1x : hexAt (bytesN s) (i + 1 + 1) = some d) (h2x : hexAt (bytesN s) (i + 1 + 1 + 1) = none) :
    Calls Tryd.prog 19 #[.pointer (some ⟨b, 0, none⟩)] w fun v w' => ∃ m j e, v = .returned (setV m) ∧ Rdr w' b s j e lv ∧ w.grownBy w' (some b) ∧ SetIs (escM (bytesN s) i) m j e := by
  have hp : peekV (bytesN s) (i + 1) = .tuple #[.int .u8 ((c : Nat) : Int), .bool true] := by unfold peekV; rw [hc]
  have hc256 := bytesN_lt hc
  have hle : i + 1 + 1 ≤ s.size := (bytesN_some hc).1
  have HX := Lib.hid (show escM (bytesN s) i = .err (i + 3) 4 by unfold escM; rw [hc]; simp only []; rw [if_neg (by rw [hs]; simp), hm]; simp only []; rw [if_pos hx, h1x]; simp only []; rw [h2x])
  clear hc
  have HXX := Lib.hid hx
  clear hx
  obtain ⟨_, c1, _, _, f1, _, _⟩ := h.cells
  have hblt := h.blk.lt
  have hsz := h.size
  go_enter Tryd.func19, Tryd.ntmps19
  go_wp2_with fail
  obtain ⟨h0, g0⟩ := h.inc hi
  have hR1 := Blk.new (w.setCell ⟨b, 1, none⟩ (.int .i64 (((i : Nat) : Int) + 1))) (setL noSet) 32
  rw [setL_none, show (w.setCell ⟨b, 1, none⟩ (.int .i64 (((i : Nat) : Int) + 1))).heap.size = w.heap.size by simp [World.setCell], ← setL_none] at hR1
  have h1 := h0.below ((Below.refl _ _).alloc (Nat.le_refl _) (.cells (setL noSet).toArray 32))
  have g1 := only_alloc g0 (.cells (setL noSet).toArray 32)
  rw [show (setL noSet).toArray = #[.int .u64 0, .int .u64 0, .int .u64 0, .int .u64 0] by rw [setL_none]] at h1 g1 hR1
  clear h0 g0
  generalize (w.setCell _ _).alloc _ = w1 at *
  refine (peek_at h1).mono ?_
  rintro v w2 ⟨rfl, hb⟩
  rw [hp]
  have h2 := h1.below hb
  have hR2 := hR1.below hb hR1.lt
  have g2 := only_below g1 hb
  clear h1 hR1 g1 hb
  go_wp2_with fail
  refine (named_at c hc256 _).mono ?_
  rintro v w3 ⟨rfl, hb⟩
  have h3 := h2.below hb
  have hR3 := hR2.below hb hR2.lt
  have g3 := only_below g2 hb
  clear h2 hR2 g2 hb
  rw [show namedV c = noSet by unfold namedV; rw [hm]; rfl, show (namedM c).isSome = false by rw [hm]; rfl]
  unfold setV
  have h6 : Blk (w3.alloc (.cells #[.int .u64 (word noSet 0), .int .u64 (word noSet 1), .int .u64 (word noSet 2), .int .u64 (word noSet 3)] 32)) w3.heap.size 32 (setL noSet) := Blk.new w3 (setL noSet) 32
  have h4 := h3.below ((Below.refl _ w3).alloc (Nat.le_refl _) (.cells #[.int .u64 (word noSet 0), .int .u64 (word noSet 1), .int .u64 (word noSet 2), .int .u64 (word noSet 3)] 32))
  have hR4 := hR3.alloc (.cells #[.int .u64 (word noSet 0), .int .u64 (word noSet 1), .int .u64 (word noSet 2), .int .u64 (word noSet 3)] 32)
  have g4 := only_alloc g3 (.cells #[.int .u64 (word noSet 0), .int .u64 (word noSet 1), .int .u64 (word noSet 2), .int .u64 (word noSet 3)] 32)
  have hne6 : w3.heap.size ≠ w.heap.size := by have := hR3.lt; omega
  have hneb : w3.heap.size ≠ b := by have := h3.blk.lt; omega
  have hle6 : w.heap.size < w3.heap.size := hR3.lt
  go_wp2_with fail
  generalize w3.alloc _ = w4 at *
  generalize w3.heap.size = b6 at *
  obtain ⟨_, c1, _, _, f1, _, _⟩ := h4.cells
  refine (index_in _ specialL special_ix c hc256 _).mono ?_
  rintro v w5 ⟨⟨n, rfl, hn⟩, rfl⟩
  rename World => w4
  rw [if_neg (by rw [hs]; simp)] at hn
  have hx' : ((c : Nat) : Int) = 120 := by have := HXX.out; omega
  go_wp2_with fail
  obtain ⟨hB, gB⟩ := h4.incv (v := ((i : Nat) : Int) + 1 + 1) (by omega) hle
  have hRb := hR4.far (p := ⟨b, 1, none⟩) (by show w.heap.size ≠ b; omega) (.int .i64 (((i : Nat) : Int) + 1 + 1))
  have h6b := h6.far (p := ⟨b, 1, none⟩) (by show b6 ≠ b; omega) (.int .i64 (((i : Nat) : Int) + 1 + 1))
  generalize w4.setCell _ _ = wb at *
  refine (hex_at hB).mono ?_
  rintro v w7 ⟨n1, j1, e1, rfl, h7, g7, hn1, hh1⟩
  rw [h1x] at hh1
  obtain ⟨rfl, rfl, rfl⟩ := hh1
  have hR7 := Blk.turn hRb g7 (by omega)
  have h67 := Blk.turn h6b g7 (by omega)
  replace g7 := only_trans (only_trans g4 gB) g7
  clear hRb h6b hB gB h4 hR4 h6 g4 c1 f1
  go_wp2_with fail
  refine (bad_at h7).mono ?_
  rintro v w8 ⟨rfl, hb8⟩
  have h8 := h7.below hb8
  have hR8 := hR7.below hb8 hR7.lt
  have h68 := h67.below hb8 h67.lt
  have g8 := only_below g7 hb8
  clear h7 hR7 h67 g7 hb8
  rw [show decide ((0 : Nat) ≠ 0) = false from rfl]
  go_wp2_with fail
  refine (hex_at h8).mono ?_
  rintro v w9 ⟨n2, j2, e2, rfl, h9, g9, hn2, hh2⟩
  rw [h2x] at hh2
  obtain ⟨rfl, rfl⟩ := hh2
  have hR9 := Blk.turn hR8 g9 (by omega)
  have h69 := Blk.turn h68 g9 (by omega)
  replace g9 := only_trans g8 g9
  clear h8 hR8 h68 g8
  go_wp2_with fail
  rw [show (16 * ((n1 : Nat) : Int) + ((n2 : Nat) : Int)) = ((16 * n1 + n2 : Nat) : Int) by omega]
  refine (of_one (c := 16 * n1 + n2) (by omega) _ rfl).mono ?_
  rintro v w6 ⟨rfl, hb⟩
  have hbb := below1 (Below.refl _ w9) (Nat.le_refl _) hb
  have h5 := h9.below hbb
  have hR5 := hR9.below hbb hR9.lt
  have h65 := h69.below hbb h69.lt
  have g5 := only_below g9 hbb
  clear hb h9 hR9 h69 g9 hbb
  generalize hmo : oneM (16 * n1 + n2) = mo at *
  have HMO := Lib.hid hmo
  clear hmo
  unfold setV
  obtain ⟨x0, x1, x2, x3, p0, p1, p2, p3⟩ := h65.four
  go_upto_region 20 with fail
  have hA := h5.far4 (g := b6) (by omega) (by have := tab_lt h.tab; omega) (.int .u64 (word mo 0)) (.int .u64 (word mo 1)) (.int .u64 (word mo 2)) (.int .u64 (word mo 3))
  have hRa := hR5.far4 (g := b6) (by omega) (.int .u64 (word mo 0)) (.int .u64 (word mo 1)) (.int .u64 (word mo 2)) (.int .u64 (word mo 3))
  have h6a := h65.set4 (.int .u64 (word mo 0)) (.int .u64 (word mo 1)) (.int .u64 (word mo 2)) (.int .u64 (word mo 3))
  have gA := only_set4' g5 (g := b6) (by omega) (.int .u64 (word mo 0)) (.int .u64 (word mo 1)) (.int .u64 (word mo 2)) (.int .u64 (word mo 3))
  clear x0 x1 x2 x3 p0 p1 p2 p3 h5 hR5 h65 g5
  generalize (((w6.setCell _ _).setCell _ _).setCell _ _).setCell _ _ = wa at *
  obtain ⟨x0, x1, x2, x3, _, _, _, _⟩ := h6a.four
  obtain ⟨y0, y1, y2, y3, k0, k1, k2, k3⟩ := hRa.four
  go_wp2
  refine ret_set (b := w.heap.size) rfl rfl (hRa.set4 _ _ _ _) rfl ?_
  refine ⟨mo, i + 1 + 1 + 1, 4, rfl, ⟨hA.blk.far4 (g := w.heap.size) (by omega) _ _ _ _, ?_, hA.ne, hA.le, hA.size⟩, only_set4' gA (Nat.le_refl _) _ _ _ _, by rw [HX.out]; exact ⟨rfl, rfl, by omega⟩⟩
  exact hA.tab.only (only_set4 (only_refl _ w.heap.size) _ _ _ _) (by have := tab_lt h.tab; omega)
set_option maxRecDepth 100000 in
set_option maxHeartbeats 2000000 in
theorem esc_x3 {w : World} {b : Nat} {s : ByteArray} {i : Nat} {lv : Value} (h : Rdr w b s i 0 lv) (hi : i + 1 ≤ s.size) (c : Nat) (hc : (bytesN s)[i + 1]? = some c) (hs : specialL.contains c = false) (hm : namedM c = none) (hx : c = 120) (d d2 : Nat) (h1x : hexAt (bytesN s) (i + 1 + 1) = some d) (h2x : hexAt (bytesN s) (i + 1 + 1 + 1) = some d2) :
    Calls Tryd.prog 19 #[.pointer (some ⟨b, 0, none⟩)] w fun v w' => ∃ m j e, v = .returned (setV m) ∧ Rdr w' b s j e lv ∧ w.grownBy w' (some b) ∧ SetIs (escM (bytesN s) i) m j e := by
  have hp : peekV (bytesN s) (i + 1) = .tuple #[.int .u8 ((c : Nat) : Int), .bool true] := by unfold peekV; rw [hc]
  have hc256 := bytesN_lt hc
  have hle : i + 1 + 1 ≤ s.size := (bytesN_some hc).1
  have HX := Lib.hid (show escM (bytesN s) i = .ok (oneM (16 * d + d2)) (i + 4) by unfold escM; rw [hc]; simp only []; rw [if_neg (by rw [hs]; simp), hm]; simp only []; rw [if_pos hx, h1x]; simp only []; rw [h2x])
  clear hc
  have HXX := Lib.hid hx
  clear hx
  obtain ⟨_, c1, _, _, f1, _, _⟩ := h.cells
  have hblt := h.blk.lt
  have hsz := h.size
  go_enter Tryd.func19, Tryd.ntmps19
  go_wp2_with fail
  obtain ⟨h0, g0⟩ := h.inc hi
  have hR1 := Blk.new (w.setCell ⟨b, 1, none⟩ (.int .i64 (((i : Nat) : Int) + 1))) (setL noSet) 32
  rw [setL_none, show (w.setCell ⟨b, 1, none⟩ (.int .i64 (((i : Nat) : Int) + 1))).heap.size = w.heap.size by simp [World.setCell], ← setL_none] at hR1
  have h1 := h0.below ((Below.refl _ _).alloc (Nat.le_refl _) (.cells (setL noSet).toArray 32))
  have g1 := only_alloc g0 (.cells (setL noSet).toArray 32)
  rw [show (setL noSet).toArray = #[.int .u64 0, .int .u64 0, .int .u64 0, .int .u64 0] by rw [setL_none]] at h1 g1 hR1
  clear h0 g0
  generalize (w.setCell _ _).alloc _ = w1 at *
  refine (peek_at h1).mono ?_
  rintro v w2 ⟨rfl, hb⟩
  rw [hp]
  have h2 := h1.below hb
  have hR2 := hR1.below hb hR1.lt
  have g2 := only_below g1 hb
  clear h1 hR1 g1 hb
  go_wp2_with fail
  refine (named_at c hc256 _).mono ?_
  rintro v w3 ⟨rfl, hb⟩
  have h3 := h2.below hb
  have hR3 := hR2.below hb hR2.lt
  have g3 := only_below g2 hb
  clear h2 hR2 g2 hb
  rw [show namedV c = noSet by unfold namedV; rw [hm]; rfl, show (namedM c).isSome = false by rw [hm]; rfl]
  unfold setV
  have h6 : Blk (w3.alloc (.cells #[.int .u64 (word noSet 0), .int .u64 (word noSet 1), .int .u64 (word noSet 2), .int .u64 (word noSet 3)] 32)) w3.heap.size 32 (setL noSet) := Blk.new w3 (setL noSet) 32
  have h4 := h3.below ((Below.refl _ w3).alloc (Nat.le_refl _) (.cells #[.int .u64 (word noSet 0), .int .u64 (word noSet 1), .int .u64 (word noSet 2), .int .u64 (word noSet 3)] 32))
  have hR4 := hR3.alloc (.cells #[.int .u64 (word noSet 0), .int .u64 (word noSet 1), .int .u64 (word noSet 2), .int .u64 (word noSet 3)] 32)
  have g4 := only_alloc g3 (.cells #[.int .u64 (word noSet 0), .int .u64 (word noSet 1), .int .u64 (word noSet 2), .int .u64 (word noSet 3)] 32)
  have hne6 : w3.heap.size ≠ w.heap.size := by have := hR3.lt; omega
  have hneb : w3.heap.size ≠ b := by have := h3.blk.lt; omega
  have hle6 : w.heap.size < w3.heap.size := hR3.lt
  go_wp2_with fail
  generalize w3.alloc _ = w4 at *
  generalize w3.heap.size = b6 at *
  obtain ⟨_, c1, _, _, f1, _, _⟩ := h4.cells
  refine (index_in _ specialL special_ix c hc256 _).mono ?_
  rintro v w5 ⟨⟨n, rfl, hn⟩, rfl⟩
  rename World => w4
  rw [if_neg (by rw [hs]; simp)] at hn
  have hx' : ((c : Nat) : Int) = 120 := by have := HXX.out; omega
  go_wp2_with fail
  obtain ⟨hB, gB⟩ := h4.incv (v := ((i : Nat) : Int) + 1 + 1) (by omega) hle
  have hRb := hR4.far (p := ⟨b, 1, none⟩) (by show w.heap.size ≠ b; omega) (.int .i64 (((i : Nat) : Int) + 1 + 1))
  have h6b := h6.far (p := ⟨b, 1, none⟩) (by show b6 ≠ b; omega) (.int .i64 (((i : Nat) : Int) + 1 + 1))
  generalize w4.setCell _ _ = wb at *
  refine (hex_at hB).mono ?_
  rintro v w7 ⟨n1, j1, e1, rfl, h7, g7, hn1, hh1⟩
  rw [h1x] at hh1
  obtain ⟨rfl, rfl, rfl⟩ := hh1
  have hR7 := Blk.turn hRb g7 (by omega)
  have h67 := Blk.turn h6b g7 (by omega)
  replace g7 := only_trans (only_trans g4 gB) g7
  clear hRb h6b hB gB h4 hR4 h6 g4 c1 f1
  go_wp2_with fail
  refine (bad_at h7).mono ?_
  rintro v w8 ⟨rfl, hb8⟩
  have h8 := h7.below hb8
  have hR8 := hR7.below hb8 hR7.lt
  have h68 := h67.below hb8 h67.lt
  have g8 := only_below g7 hb8
  clear h7 hR7 h67 g7 hb8
  rw [show decide ((0 : Nat) ≠ 0) = false from rfl]
  go_wp2_with fail
  refine (hex_at h8).mono ?_
  rintro v w9 ⟨n2, j2, e2, rfl, h9, g9, hn2, hh2⟩
  rw [h2x] at hh2
  obtain ⟨rfl, rfl, rfl⟩ := hh2
  have hR9 := Blk.turn hR8 g9 (by omega)
  have h69 := Blk.turn h68 g9 (by omega)
  replace g9 := only_trans g8 g9
  clear h8 hR8 h68 g8
  go_wp2_with fail
  rw [show (16 * ((n1 : Nat) : Int) + ((n2 : Nat) : Int)) = ((16 * n1 + n2 : Nat) : Int) by omega]
  refine (of_one (c := 16 * n1 + n2) (by omega) _ rfl).mono ?_
  rintro v w6 ⟨rfl, hb⟩
  have hbb := below1 (Below.refl _ w9) (Nat.le_refl _) hb
  have h5 := h9.below hbb
  have hR5 := hR9.below hbb hR9.lt
  have h65 := h69.below hbb h69.lt
  have g5 := only_below g9 hbb
  clear hb h9 hR9 h69 g9 hbb
  generalize hmo : oneM (16 * n1 + n2) = mo at *
  have HMO := Lib.hid hmo
  clear hmo
  unfold setV
  obtain ⟨x0, x1, x2, x3, p0, p1, p2, p3⟩ := h65.four
  go_upto_region 20 with fail
  have hA := h5.far4 (g := b6) (by omega) (by have := tab_lt h.tab; omega) (.int .u64 (word mo 0)) (.int .u64 (word mo 1)) (.int .u64 (word mo 2)) (.int .u64 (word mo 3))
  have hRa := hR5.far4 (g := b6) (by omega) (.int .u64 (word mo 0)) (.int .u64 (word mo 1)) (.int .u64 (word mo 2)) (.int .u64 (word mo 3))
  have h6a := h65.set4 (.int .u64 (word mo 0)) (.int .u64 (word mo 1)) (.int .u64 (word mo 2)) (.int .u64 (word mo 3))
  have gA := only_set4' g5 (g := b6) (by omega) (.int .u64 (word mo 0)) (.int .u64 (word mo 1)) (.int .u64 (word mo 2)) (.int .u64 (word mo 3))
  clear x0 x1 x2 x3 p0 p1 p2 p3 h5 hR5 h65 g5
  generalize (((w6.setCell _ _).setCell _ _).setCell _ _).setCell _ _ = wa at *
  obtain ⟨x0, x1, x2, x3, _, _, _, _⟩ := h6a.four
  obtain ⟨y0, y1, y2, y3, k0, k1, k2, k3⟩ := hRa.four
  go_wp2
  refine ret_set (b := w.heap.size) rfl rfl (hRa.set4 _ _ _ _) rfl ?_
  refine ⟨mo, i + 1 + 1 + 1 + 1, 0, rfl, ⟨hA.blk.far4 (g := w.heap.size) (by omega) _ _ _ _, ?_, hA.ne, hA.le, hA.size⟩, only_set4' gA (Nat.le_refl _) _ _ _ _, by rw [HX.out]; exact ⟨rfl, rfl, rfl⟩⟩
  exact hA.tab.only (only_set4 (only_refl _ w.heap.size) _ _ _ _) (by have := tab_lt h.tab; omega)
theorem escape_at {w : World} {b : Nat} {s : ByteArray} {i : Nat} {lv : Value} (h : Rdr w b s i 0 lv) (hi : i + 1 ≤ s.size) :
    Calls Tryd.prog 19 #[.pointer (some ⟨b, 0, none⟩)] w fun v w' => ∃ m j e, v = .returned (setV m) ∧ Rdr w' b s j e lv ∧ w.grownBy w' (some b) ∧ SetIs (escM (bytesN s) i) m j e := by
  cases hc : (bytesN s)[i + 1]? with
  | none => exact esc_none h hi hc
  | some c =>
    cases hs : specialL.contains c with
    | true => exact esc_special h hi c hc hs
    | false =>
      cases hm : namedM c with
      | some m => exact esc_known h hi c hc m hs hm
      | none =>
        by_cases hx : c = 120
        · cases h1 : hexAt (bytesN s) (i + 1 + 1) with
          | none => exact esc_x1 h hi c hc hs hm hx h1
          | some d =>
            cases h2 : hexAt (bytesN s) (i + 1 + 1 + 1) with
            | none => exact esc_x2 h hi c hc hs hm hx d h1 h2
            | some d2 => exact esc_x3 h hi c hc hs hm hx d d2 h1 h2
        · cases ho : otherL.contains c with
          | true => exact esc_other h hi c hc hs hm hx ho
          | false => exact esc_else h hi c hc hs hm hx ho
end Go.Proofs.YtofhkgafgnldnaaDoor
