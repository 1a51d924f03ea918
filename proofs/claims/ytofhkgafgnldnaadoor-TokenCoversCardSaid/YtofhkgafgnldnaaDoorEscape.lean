/- escape: the set of an escape, at a backslash. -/
import Derived.Test.YtofhkgafgnldnaaDoorHex
import Derived.Test.YtofhkgafgnldnaaDoorNamed
import Derived.Deep.Cut
namespace Go.Proofs.YtofhkgafgnldnaaDoor
open Go.RowKit
/-- What a reading of a set leaves: its set, where it stands, its error. -/
def SetIs (r : Res (Nat → Bool)) (m : Nat → Bool) (j e : Nat) : Prop := match r with
  | .ok m' j' => m = m' ∧ j = j' ∧ e = 0
  | .err j' e' => j = j' ∧ e = e' ∧ e' ≠ 0
theorem Rdr.inc {w : World} {b : Nat} {s : ByteArray} {i e : Nat} {lv : Value} (h : Rdr w b s i e lv) (hi : i + 1 ≤ s.size) :
    Rdr (w.setCell ⟨b, 1, none⟩ (.int .i64 (((i : Nat) : Int) + 1))) b s (i + 1) e lv ∧ w.grownBy (w.setCell ⟨b, 1, none⟩ (.int .i64 (((i : Nat) : Int) + 1))) (some b) := by
  have hg := only_setCell (only_refl w b) 1 (.int .i64 (((i : Nat) : Int) + 1))
  exact ⟨h.turn hg hi (h.blk.set 1 _), hg⟩
theorem Blk.turn {w w' : World} {b g t : Nat} {l : List Value} (h : Blk w b t l) (hg : w.grownBy w' (some g)) (hne : b ≠ g) : Blk w' b t l := (hg.block b h.lt (by simpa using hne)).trans h
/-- Only block b has turned, besides what is new. -/
theorem only_set4' {a w : World} {b g : Nat} (h : a.grownBy w (some b)) (hg : a.heap.size ≤ g) (v0 v1 v2 v3 : Value) :
    a.grownBy ((((w.setCell ⟨g, 0, none⟩ v0).setCell ⟨g, 1, none⟩ v1).setCell ⟨g, 2, none⟩ v2).setCell ⟨g, 3, none⟩ v3) (some b) := by
  have hk : ∀ (w : World) (o : Nat) (v : Value), a.grownBy w (some b) → a.grownBy (w.setCell ⟨g, o, none⟩ v) (some b) := fun w o v h =>
    ⟨h.os, h.tape, h.output, by simpa [World.setCell] using h.size, fun i hi hne => (Below.heap_setCell w ⟨g, o, none⟩ v i (fun e => by simp only at e; omega)).trans (h.block i hi hne)⟩
  exact hk _ _ _ (hk _ _ _ (hk _ _ _ (hk _ _ _ h)))
theorem only_alloc {a w : World} {b : Nat} (h : a.grownBy w (some b)) (o : Obj) : a.grownBy (w.alloc o) (some b) := only_below h ((Below.refl _ w).alloc (Nat.le_refl _) o)
theorem Rdr.far4 {w : World} {b g : Nat} {s : ByteArray} {i e : Nat} {lv : Value} (h : Rdr w b s i e lv) (hne : b ≠ g) (hg : 1 < g) (v0 v1 v2 v3 : Value) :
    Rdr ((((w.setCell ⟨g, 0, none⟩ v0).setCell ⟨g, 1, none⟩ v1).setCell ⟨g, 2, none⟩ v2).setCell ⟨g, 3, none⟩ v3) b s i e lv :=
  ⟨h.blk.far4 hne _ _ _ _, h.tab.only (only_set4 (only_refl _ g) _ _ _ _) (by omega), h.ne, h.le, h.size⟩
theorem tab_lt {w : World} (h : TabOk w) : 1 < w.heap.size := by
  have hc := h 0 (by omega)
  unfold World.cell? at hc
  rcases Nat.lt_or_ge 1 w.heap.size with hl | hl
  · exact hl
  · simp only [] at hc
    rw [Array.getElem?_eq_none hl] at hc
    cases hc
set_option maxRecDepth 100000 in
set_option maxHeartbeats 2000000 in
theorem esc_none {w : World} {b : Nat} {s : ByteArray} {i : Nat} {lv : Value} (h : Rdr w b s i 0 lv) (hi : i + 1 ≤ s.size) (hc : (bytesN s)[i + 1]? = none) :
    Calls Tryd.prog 19 #[.pointer (some ⟨b, 0, none⟩)] w fun v w' => ∃ m j e, v = .returned (setV m) ∧ Rdr w' b s j e lv ∧ w.grownBy w' (some b) ∧ SetIs (escM (bytesN s) i) m j e := by
  have hp : peekV (bytesN s) (i + 1) = .tuple #[.int .u8 ((0 : Nat) : Int), .bool false] := by unfold peekV; rw [hc]; rfl
  have HX := Lib.hid (show escM (bytesN s) i = .err (i + 1) 4 by unfold escM; rw [hc])
  clear hc
  obtain ⟨_, c1, _, _, f1, _, _⟩ := h.cells
  have hblt := h.blk.lt
  have hsz := h.size
  go_enter Tryd.func19, Tryd.ntmps19
  go_wp2_with fail
  obtain ⟨h0, g0⟩ := h.inc hi
  have hR1 := Blk.new (w.setCell ⟨b, 1, none⟩ (.int .i64 (((i : Nat) : Int) + 1))) (setL noSet) 32
  rw [setL_none, show (w.setCell ⟨b, 1, none⟩ (.int .i64 (((i : Nat) : Int) + 1))).heap.size = w.heap.size by simp [World.setCell], ← setL_none] at hR1
  have h1 := h0.below ((Below.refl _ _).alloc (Nat.le_refl _) (.cells (setL noSet).toArray 32))
  have g1 := only_alloc g0 (.cells (setL noSet).toArray 32)
  rw [show (setL noSet).toArray = #[.int .u64 0, .int .u64 0, .int .u64 0, .int .u64 0] by rw [setL_none]] at h1 g1 hR1
  clear h0 g0
  generalize (w.setCell _ _).alloc _ = w1 at *
  refine (peek_at h1).mono ?_
  rintro v w2 ⟨rfl, hb⟩
  rw [hp]
  have h2 := h1.below hb
  have hR2 := hR1.below hb hR1.lt
  have g2 := only_below g1 hb
  clear h1 hR1 g1 hb
  go_wp2_with fail
  refine (named_at 0 (by omega) _).mono ?_
  rintro v w3 ⟨rfl, hb⟩
  have h3 := h2.below hb
  have hR3 := hR2.below hb hR2.lt
  have g3 := only_below g2 hb
  clear h2 hR2 g2 hb
  rw [show namedV 0 = noSet from rfl, show (namedM 0).isSome = false from rfl]
  unfold setV
  have h6 : Blk (w3.alloc (.cells #[.int .u64 (word noSet 0), .int .u64 (word noSet 1), .int .u64 (word noSet 2), .int .u64 (word noSet 3)] 32)) w3.heap.size 32 (setL noSet) := Blk.new w3 (setL noSet) 32
  have h4 := h3.below ((Below.refl _ w3).alloc (Nat.le_refl _) (.cells #[.int .u64 (word noSet 0), .int .u64 (word noSet 1), .int .u64 (word noSet 2), .int .u64 (word noSet 3)] 32))
  have hR4 := hR3.alloc (.cells #[.int .u64 (word noSet 0), .int .u64 (word noSet 1), .int .u64 (word noSet 2), .int .u64 (word noSet 3)] 32)
  have g4 := only_alloc g3 (.cells #[.int .u64 (word noSet 0), .int .u64 (word noSet 1), .int .u64 (word noSet 2), .int .u64 (word noSet 3)] 32)
  have hne6 : w3.heap.size ≠ w.heap.size := by have := hR3.lt; omega
  have hneb : w3.heap.size ≠ b := by have := h3.blk.lt; omega
  have hle6 : w.heap.size < w3.heap.size := hR3.lt
  go_wp2_with fail
  generalize w3.alloc _ = w4 at *
  generalize w3.heap.size = b6 at *
  obtain ⟨_, c1, _, _, f1, _, _⟩ := h4.cells
  go_still_tail 8, (by kernel_rfl)
  change wpList _ _ _ _ _ w4.drew
  go_wp2_with fail
  refine (fail_at (k := 4) (h4.below (Below.refl _ _).drew) (by have := h4.le; omega)).mono ?_
  rintro v w7 ⟨⟨u, rfl⟩, h7, hg⟩
  have hg7 := only_trans (only_of b ((Below.refl w4.heap.size _).drew)) hg
  have g7 := only_trans g4 hg7
  have hR7 := hR4.turn hg7 (by omega)
  have h67 := h6.turn hg7 (by omega)
  obtain ⟨x0, x1, x2, x3, _, _, _, _⟩ := h67.four
  obtain ⟨y0, y1, y2, y3, k0, k1, k2, k3⟩ := hR7.four
  go_wp2
  refine ret_set (b := w.heap.size) rfl rfl (hR7.set4 _ _ _ _) rfl ?_
  refine ⟨noSet, i + 1, 4, rfl, ⟨h7.blk.far4 (g := w.heap.size) (by omega) _ _ _ _, ?_, h7.ne, h7.le, h7.size⟩, only_set4' g7 (Nat.le_refl _) _ _ _ _, by rw [HX.out]; exact ⟨rfl, rfl, by omega⟩⟩
  exact h7.tab.only (only_set4 (only_refl _ w.heap.size) _ _ _ _) (by have := tab_lt h.tab; omega)
set_option maxRecDepth 100000 in
set_option maxHeartbeats 2000000 in
theorem esc_special {w : World} {b : Nat} {s : ByteArray} {i : Nat} {lv : Value} (h : Rdr w b s i 0 lv) (hi : i + 1 ≤ s.size) (c : Nat) (hc : (bytesN s)[i + 1]? = some c) (hs : specialL.contains c = true) :
    Calls Tryd.prog 19 #[.pointer (some ⟨b, 0, none⟩)] w fun v w' => ∃ m j e, v = .returned (setV m) ∧ Rdr w' b s j e lv ∧ w.grownBy w' (some b) ∧ SetIs (escM (bytesN s) i) m j e := by
  have hp : peekV (bytesN s) (i + 1) = .tuple #[.int .u8 ((c : Nat) : Int), .bool true] := by unfold peekV; rw [hc]
  have hc256 := bytesN_lt hc
  have hle : i + 1 + 1 ≤ s.size := (bytesN_some hc).1
  have HX := Lib.hid (show escM (bytesN s) i = .ok (oneM c) (i + 2) by unfold escM; rw [hc]; simp only []; rw [if_pos hs])
  clear hc
  obtain ⟨_, c1, _, _, f1, _, _⟩ := h.cells
  have hblt := h.blk.lt
  have hsz := h.size
  go_enter Tryd.func19, Tryd.ntmps19
  go_wp2_with fail
  obtain ⟨h0, g0⟩ := h.inc hi
  have hR1 := Blk.new (w.setCell ⟨b, 1, none⟩ (.int .i64 (((i : Nat) : Int) + 1))) (setL noSet) 32
  rw [setL_none, show (w.setCell ⟨b, 1, none⟩ (.int .i64 (((i : Nat) : Int) + 1))).heap.size = w.heap.size by simp [World.setCell], ← setL_none] at hR1
  have h1 := h0.below ((Below.refl _ _).alloc (Nat.le_refl _) (.cells (setL noSet).toArray 32))
  have g1 := only_alloc g0 (.cells (setL noSet).toArray 32)
  rw [show (setL noSet).toArray = #[.int .u64 0, .int .u64 0, .int .u64 0, .int .u64 0] by rw [setL_none]] at h1 g1 hR1
  clear h0 g0
  generalize (w.setCell _ _).alloc _ = w1 at *
  refine (peek_at h1).mono ?_
  rintro v w2 ⟨rfl, hb⟩
  rw [hp]
  have h2 := h1.below hb
  have hR2 := hR1.below hb hR1.lt
  have g2 := only_below g1 hb
  clear h1 hR1 g1 hb
  go_wp2_with fail
  refine (named_at c hc256 _).mono ?_
  rintro v w3 ⟨rfl, hb⟩
  have h3 := h2.below hb
  have hR3 := hR2.below hb hR2.lt
  have g3 := only_below g2 hb
  clear h2 hR2 g2 hb
  generalize namedV c = mm
  generalize (namedM c).isSome = kk
  unfold setV
  have h6 : Blk (w3.alloc (.cells #[.int .u64 (word mm 0), .int .u64 (word mm 1), .int .u64 (word mm 2), .int .u64 (word mm 3)] 32)) w3.heap.size 32 (setL mm) := Blk.new w3 (setL mm) 32
  have h4 := h3.below ((Below.refl _ w3).alloc (Nat.le_refl _) (.cells #[.int .u64 (word mm 0), .int .u64 (word mm 1), .int .u64 (word mm 2), .int .u64 (word mm 3)] 32))
  have hR4 := hR3.alloc (.cells #[.int .u64 (word mm 0), .int .u64 (word mm 1), .int .u64 (word mm 2), .int .u64 (word mm 3)] 32)
  have g4 := only_alloc g3 (.cells #[.int .u64 (word mm 0), .int .u64 (word mm 1), .int .u64 (word mm 2), .int .u64 (word mm 3)] 32)
  have hne6 : w3.heap.size ≠ w.heap.size := by have := hR3.lt; omega
  have hneb : w3.heap.size ≠ b := by have := h3.blk.lt; omega
  have hle6 : w.heap.size < w3.heap.size := hR3.lt
  go_wp2_with fail
  generalize w3.alloc _ = w4 at *
  generalize w3.heap.size = b6 at *
  obtain ⟨_, c1, _, _, f1, _, _⟩ := h4.cells
  refine (index_in _ specialL special_ix c hc256 _).mono ?_
  rintro v w5 ⟨⟨n, rfl, hn⟩, rfl⟩
  rename World => w4
  rw [if_pos hs] at hn
  go_wp2_with fail
  refine (of_one hc256 _ rfl).mono ?_
  rintro v w6 ⟨rfl, hb⟩
  have hbb := below1 (Below.refl _ w4) (Nat.le_refl _) hb
  have h5 := h4.below hbb
  have hR5 := hR4.below hbb hR4.lt
  have h65 := h6.below hbb h6.lt
  have g5 := only_below g4 hbb
  clear c1 f1 hb h4 hR4 h6 g4
  obtain ⟨_, c1, _, _, f1, _, _⟩ := h5.cells
  unfold setV
  obtain ⟨x0, x1, x2, x3, p0, p1, p2, p3⟩ := h65.four
  obtain ⟨y0, y1, y2, y3, k0, k1, k2, k3⟩ := hR5.four
  go_upto_region 10 with fail
  have hA := h5.far4 (g := b6) (by omega) (by have := tab_lt h.tab; omega) (.int .u64 (word (oneM c) 0)) (.int .u64 (word (oneM c) 1)) (.int .u64 (word (oneM c) 2)) (.int .u64 (word (oneM c) 3))
  have hRa := hR5.far4 (g := b6) (by omega) (.int .u64 (word (oneM c) 0)) (.int .u64 (word (oneM c) 1)) (.int .u64 (word (oneM c) 2)) (.int .u64 (word (oneM c) 3))
  have h6a := h65.set4 (.int .u64 (word (oneM c) 0)) (.int .u64 (word (oneM c) 1)) (.int .u64 (word (oneM c) 2)) (.int .u64 (word (oneM c) 3))
  have gA := only_set4' g5 (g := b6) (by omega) (.int .u64 (word (oneM c) 0)) (.int .u64 (word (oneM c) 1)) (.int .u64 (word (oneM c) 2)) (.int .u64 (word (oneM c) 3))
  clear x0 x1 x2 x3 p0 p1 p2 p3 y0 y1 y2 y3 k0 k1 k2 k3 c1 f1 h5 hR5 h65 g5
  generalize (((w6.setCell _ _).setCell _ _).setCell _ _).setCell _ _ = wa at *
  obtain ⟨_, c1, _, _, f1, _, _⟩ := hA.cells
  obtain ⟨x0, x1, x2, x3, p0, p1, p2, p3⟩ := h6a.four
  obtain ⟨y0, y1, y2, y3, k0, k1, k2, k3⟩ := hRa.four
  go_wp2
  obtain ⟨hB, gB⟩ := hA.inc hle
  refine ret_set (b := w.heap.size) rfl rfl ((hRa.far (p := ⟨b, 1, none⟩) (by show w.heap.size ≠ b; omega) _).set4 _ _ _ _) rfl ?_
  exact ⟨oneM c, i + 1 + 1, 0, rfl, (hB).far4 (by omega) (by have := tab_lt h.tab; omega) _ _ _ _, only_set4' (only_trans gA gB) (Nat.le_refl _) _ _ _ _, by rw [HX.out]; exact ⟨rfl, rfl, rfl⟩⟩
set_option maxRecDepth 100000 in
set_option maxHeartbeats 2000000 in
theorem esc_known {w : World} {b : Nat} {s : ByteArray} {i : Nat} {lv : Value} (h : Rdr w b s i 0 lv) (hi : i + 1 ≤ s.size) (c : Nat) (hc : (bytesN s)[i + 1]? = some c) (m : Nat → Bool) (hs : specialL.contains c = false) (hm : namedM c = some m) :
    Calls Tryd.prog 19 #[.pointer (some ⟨b, 0, none⟩)] w fun v w' => ∃ m j e, v = .returned (setV m) ∧ Rdr w' b s j e lv ∧ w.grownBy w' (some b) ∧ SetIs (escM (bytesN s) i) m j e := by
  have hp : peekV (bytesN s) (i + 1) = .tuple #[.int .u8 ((c : Nat) : Int), .bool true] := by unfold peekV; rw [hc]
  have hc256 := bytesN_lt hc
  have hle : i + 1 + 1 ≤ s.size := (bytesN_some hc).1
  have HX := Lib.hid (show escM (bytesN s) i = .ok m (i + 2) by unfold escM; rw [hc]; simp only []; rw [if_neg (by rw [hs]; simp), hm])
  clear hc
  obtain ⟨_, c1, _, _, f1, _, _⟩ := h.cells
  have hblt := h.blk.lt
  have hsz := h.size
  go_enter Tryd.func19, Tryd.ntmps19
  go_wp2_with fail
  obtain ⟨h0, g0⟩ := h.inc hi
  have hR1 := Blk.new (w.setCell ⟨b, 1, none⟩ (.int .i64 (((i : Nat) : Int) + 1))) (setL noSet) 32
  rw [setL_none, show (w.setCell ⟨b, 1, none⟩ (.int .i64 (((i : Nat) : Int) + 1))).heap.size = w.heap.size by simp [World.setCell], ← setL_none] at hR1
  have h1 := h0.below ((Below.refl _ _).alloc (Nat.le_refl _) (.cells (setL noSet).toArray 32))
  have g1 := only_alloc g0 (.cells (setL noSet).toArray 32)
  rw [show (setL noSet).toArray = #[.int .u64 0, .int .u64 0, .int .u64 0, .int .u64 0] by rw [setL_none]] at h1 g1 hR1
  clear h0 g0
  generalize (w.setCell _ _).alloc _ = w1 at *
  refine (peek_at h1).mono ?_
  rintro v w2 ⟨rfl, hb⟩
  rw [hp]
  have h2 := h1.below hb
  have hR2 := hR1.below hb hR1.lt
  have g2 := only_below g1 hb
  clear h1 hR1 g1 hb
  go_wp2_with fail
  refine (named_at c hc256 _).mono ?_
  rintro v w3 ⟨rfl, hb⟩
  have h3 := h2.below hb
  have hR3 := hR2.below hb hR2.lt
  have g3 := only_below g2 hb
  clear h2 hR2 g2 hb
  rw [show namedV c = m by unfold namedV; rw [hm]; rfl, show (namedM c).isSome = true by rw [hm]; rfl]
  unfold setV
  have h6 : Blk (w3.alloc (.cells #[.int .u64 (word m 0), .int .u64 (word m 1), .int .u64 (word m 2), .int .u64 (word m 3)] 32)) w3.heap.size 32 (setL m) := Blk.new w3 (setL m) 32
  have h4 := h3.below ((Below.refl _ w3).alloc (Nat.le_refl _) (.cells #[.int .u64 (word m 0), .int .u64 (word m 1), .int .u64 (word m 2), .int .u64 (word m 3)] 32))
  have hR4 := hR3.alloc (.cells #[.int .u64 (word m 0), .int .u64 (word m 1), .int .u64 (word m 2), .int .u64 (word m 3)] 32)
  have g4 := only_alloc g3 (.cells #[.int .u64 (word m 0), .int .u64 (word m 1), .int .u64 (word m 2), .int .u64 (word m 3)] 32)
  have hne6 : w3.heap.size ≠ w.heap.size := by have := hR3.lt; omega
  have hneb : w3.heap.size ≠ b := by have := h3.blk.lt; omega
  have hle6 : w.heap.size < w3.heap.size := hR3.lt
  go_wp2_with fail
  generalize w3.alloc _ = w4 at *
  generalize w3.heap.size = b6 at *
  obtain ⟨_, c1, _, _, f1, _, _⟩ := h4.cells
  refine (index_in _ specialL special_ix c hc256 _).mono ?_
  rintro v w5 ⟨⟨n, rfl, hn⟩, rfl⟩
  rename World => w4
  rw [if_neg (by rw [hs]; simp)] at hn
  obtain ⟨x0, x1, x2, x3, p0, p1, p2, p3⟩ := h6.four
  obtain ⟨y0, y1, y2, y3, k0, k1, k2, k3⟩ := hR4.four
  go_wp2
  obtain ⟨hB, gB⟩ := h4.inc hle
  refine ret_set (b := w.heap.size) rfl rfl ((hR4.far (p := ⟨b, 1, none⟩) (by show w.heap.size ≠ b; omega) _).set4 _ _ _ _) rfl ?_
  exact ⟨m, i + 1 + 1, 0, rfl, (hB).far4 (by omega) (by have := tab_lt h.tab; omega) _ _ _ _, only_set4' (only_trans g4 gB) (Nat.le_refl _) _ _ _ _, by rw [HX.out]; exact ⟨rfl, rfl, rfl⟩⟩
set_option maxRecDepth 100000 in
set_option maxHeartbeats 2000000 in
theorem esc_other {w : World} {b : Nat} {s : ByteArray} {i : Nat} {lv : Value} (h : Rdr w b s i 0 lv) (hi : i + 1 ≤ s.size) (c : Nat) (hc : (bytesN s)[i + 1]? = some c) (hs : specialL.contains c = false) (hm : namedM c = none) (hx : c ≠ 120) (ho : otherL.contains c = true) :
    Calls Tryd.prog 19 #[.pointer (some ⟨b, 0, none⟩)] w fun v w' => ∃ m j e, v = .returned (setV m) ∧ Rdr w' b s j e lv ∧ w.grownBy w' (some b) ∧ SetIs (escM (bytesN s) i) m j e := by
  have hp : peekV (bytesN s) (i + 1) = .tuple #[.int .u8 ((c : Nat) : Int), .bool true] := by unfold peekV; rw [hc]
  have hc256 := bytesN_lt hc
  have hle : i + 1 + 1 ≤ s.size := (bytesN_some hc).1
  have HX := Lib.hid (show escM (bytesN s) i = .err i 6 by unfold escM; rw [hc]; simp only []; rw [if_neg (by rw [hs]; simp), hm]; simp only []; rw [if_neg hx, if_pos ho])
  clear hc
  obtain ⟨_, c1, _, _, f1, _, _⟩ := h.cells
  have hblt := h.blk.lt
  have hsz := h.size
  go_enter Tryd.func19, Tryd.ntmps19
  go_wp2_with fail
  obtain ⟨h0, g0⟩ := h.inc hi
  have hR1 := Blk.new (w.setCell ⟨b, 1, none⟩ (.int .i64 (((i : Nat) : Int) + 1))) (setL noSet) 32
  rw [setL_none, show (w.setCell ⟨b, 1, none⟩ (.int .i64 (((i : Nat) : Int) + 1))).heap.size = w.heap.size by simp [World.setCell], ← setL_none] at hR1
  have h1 := h0.below ((Below.refl _ _).alloc (Nat.le_refl _) (.cells (setL noSet).toArray 32))
  have g1 := only_alloc g0 (.cells (setL noSet).toArray 32)
  rw [show (setL noSet).toArray = #[.int .u64 0, .int .u64 0, .int .u64 0, .int .u64 0] by rw [setL_none]] at h1 g1 hR1
  clear h0 g0
  generalize (w.setCell _ _).alloc _ = w1 at *
  refine (peek_at h1).mono ?_
  rintro v w2 ⟨rfl, hb⟩
  rw [hp]
  have h2 := h1.below hb
  have hR2 := hR1.below hb hR1.lt
  have g2 := only_below g1 hb
  clear h1 hR1 g1 hb
  go_wp2_with fail
  refine (named_at c hc256 _).mono ?_
  rintro v w3 ⟨rfl, hb⟩
  have h3 := h2.below hb
  have hR3 := hR2.below hb hR2.lt
  have g3 := only_below g2 hb
  clear h2 hR2 g2 hb
  rw [show namedV c = noSet by unfold namedV; rw [hm]; rfl, show (namedM c).isSome = false by rw [hm]; rfl]
  unfold setV
  have h6 : Blk (w3.alloc (.cells #[.int .u64 (word noSet 0), .int .u64 (word noSet 1), .int .u64 (word noSet 2), .int .u64 (word noSet 3)] 32)) w3.heap.size 32 (setL noSet) := Blk.new w3 (setL noSet) 32
  have h4 := h3.below ((Below.refl _ w3).alloc (Nat.le_refl _) (.cells #[.int .u64 (word noSet 0), .int .u64 (word noSet 1), .int .u64 (word noSet 2), .int .u64 (word noSet 3)] 32))
  have hR4 := hR3.alloc (.cells #[.int .u64 (word noSet 0), .int .u64 (word noSet 1), .int .u64 (word noSet 2), .int .u64 (word noSet 3)] 32)
  have g4 := only_alloc g3 (.cells #[.int .u64 (word noSet 0), .int .u64 (word noSet 1), .int .u64 (word noSet 2), .int .u64 (word noSet 3)] 32)
  have hne6 : w3.heap.size ≠ w.heap.size := by have := hR3.lt; omega
  have hneb : w3.heap.size ≠ b := by have := h3.blk.lt; omega
  have hle6 : w.heap.size < w3.heap.size := hR3.lt
  go_wp2_with fail
  generalize w3.alloc _ = w4 at *
  generalize w3.heap.size = b6 at *
  obtain ⟨_, c1, _, _, f1, _, _⟩ := h4.cells
  refine (index_in _ specialL special_ix c hc256 _).mono ?_
  rintro v w5 ⟨⟨n, rfl, hn⟩, rfl⟩
  rename World => w4
  rw [if_neg (by rw [hs]; simp)] at hn
  go_wp2_with fail
  refine (index_in _ otherL other_ix c hc256 _).mono ?_
  rintro v w5 ⟨⟨n2, rfl, hn2⟩, rfl⟩
  rename World => w4
  rw [if_pos ho] at hn2
  go_wp2_with fail
  refine (fail_at (k := 6) h4 (by omega)).mono ?_
  rintro v w7 ⟨⟨u, rfl⟩, h7, hg⟩
  have g7 := only_trans g4 hg
  have hR7 := hR4.turn hg (by omega)
  have h67 := h6.turn hg (by omega)
  obtain ⟨x0, x1, x2, x3, _, _, _, _⟩ := h67.four
  obtain ⟨y0, y1, y2, y3, k0, k1, k2, k3⟩ := hR7.four
  go_wp2
  refine ret_set (b := w.heap.size) rfl rfl (hR7.set4 _ _ _ _) rfl ?_
  refine ⟨noSet, i, 6, rfl, ⟨h7.blk.far4 (g := w.heap.size) (by omega) _ _ _ _, ?_, h7.ne, h7.le, h7.size⟩, only_set4' g7 (Nat.le_refl _) _ _ _ _, by rw [HX.out]; exact ⟨rfl, rfl, by omega⟩⟩
  exact h7.tab.only (only_set4 (only_refl _ w.heap.size) _ _ _ _) (by have := tab_lt h.tab; omega)
set_option maxRecDepth 100000 in
set_option maxHeartbeats 2000000 in
theorem esc_else {w : World} {b : Nat} {s : ByteArray} {i : Nat} {lv : Value} (h : Rdr w b s i 0 lv) (hi : i + 1 ≤ s.size) (c : Nat) (hc : (bytesN s)[i + 1]? = some c) (hs : specialL.contains c = false) (hm : namedM c = none) (hx : c ≠ 120) (ho : otherL.contains c = false) :
    Calls Tryd.prog 19 #[.pointer (some ⟨b, 0, none⟩)] w fun v w' => ∃ m j e, v = .returned (setV m) ∧ Rdr w' b s j e lv ∧ w.grownBy w' (some b) ∧ SetIs (escM (bytesN s) i) m j e := by
  have hp : peekV (bytesN s) (i + 1) = .tuple #[.int .u8 ((c : Nat) : Int), .bool true] := by unfold peekV; rw [hc]
  have hc256 := bytesN_lt hc
  have hle : i + 1 + 1 ≤ s.size := (bytesN_some hc).1
  have HX := Lib.hid (show escM (bytesN s) i = .err (i + 1) 4 by unfold escM; rw [hc]; simp only []; rw [if_neg (by rw [hs]; simp), hm]; simp only []; rw [if_neg hx, if_neg (by rw [ho]; simp)])
  clear hc
  obtain ⟨_, c1, _, _, f1, _, _⟩ := h.cells
  have hblt := h.blk.lt
  have hsz := h.size
  go_enter Tryd.func19, Tryd.ntmps19
  go_wp2_with fail
  obtain ⟨h0, g0⟩ := h.inc hi
  have hR1 := Blk.new (w.setCell ⟨b, 1, none⟩ (.int .i64 (((i : Nat) : Int) + 1))) (setL noSet) 32
  rw [setL_none, show (w.setCell ⟨b, 1, none⟩ (.int .i64 (((i : Nat) : Int) + 1))).heap.size = w.heap.size by simp [World.setCell], ← setL_none] at hR1
  have h1 := h0.below ((Below.refl _ _).alloc (Nat.le_refl _) (.cells (setL noSet).toArray 32))
  have g1 := only_alloc g0 (.cells (setL noSet).toArray 32)
  rw [show (setL noSet).toArray = #[.int .u64 0, .int .u64 0, .int .u64 0, .int .u64 0] by rw [setL_none]] at h1 g1 hR1
  clear h0 g0
  generalize (w.setCell _ _).alloc _ = w1 at *
  refine (peek_at h1).mono ?_
  rintro v w2 ⟨rfl, hb⟩
  rw [hp]
  have h2 := h1.below hb
  have hR2 := hR1.below hb hR1.lt
  have g2 := only_below g1 hb
  clear h1 hR1 g1 hb
  go_wp2_with fail
  refine (named_at c hc256 _).mono ?_
  rintro v w3 ⟨rfl, hb⟩
  have h3 := h2.below hb
  have hR3 := hR2.below hb hR2.lt
  have g3 := only_below g2 hb
  clear h2 hR2 g2 hb
  rw [show namedV c = noSet by unfold namedV; rw [hm]; rfl, show (namedM c).isSome = false by rw [hm]; rfl]
  unfold setV
  have h6 : Blk (w3.alloc (.cells #[.int .u64 (word noSet 0), .int .u64 (word noSet 1), .int .u64 (word noSet 2), .int .u64 (word noSet 3)] 32)) w3.heap.size 32 (setL noSet) := Blk.new w3 (setL noSet) 32
  have h4 := h3.below ((Below.refl _ w3).alloc (Nat.le_refl _) (.cells #[.int .u64 (word noSet 0), .int .u64 (word noSet 1), .int .u64 (word noSet 2), .int .u64 (word noSet 3)] 32))
  have hR4 := hR3.alloc (.cells #[.int .u64 (word noSet 0), .int .u64 (word noSet 1), .int .u64 (word noSet 2), .int .u64 (word noSet 3)] 32)
  have g4 := only_alloc g3 (.cells #[.int .u64 (word noSet 0), .int .u64 (word noSet 1), .int .u64 (word noSet 2), .int .u64 (word noSet 3)] 32)
  have hne6 : w3.heap.size ≠ w.heap.size := by have := hR3.lt; omega
  have hneb : w3.heap.size ≠ b := by have := h3.blk.lt; omega
  have hle6 : w.heap.size < w3.heap.size := hR3.lt
  go_wp2_with fail
  generalize w3.alloc _ = w4 at *
  generalize w3.heap.size = b6 at *
  obtain ⟨_, c1, _, _, f1, _, _⟩ := h4.cells
  refine (index_in _ specialL special_ix c hc256 _).mono ?_
  rintro v w5 ⟨⟨n, rfl, hn⟩, rfl⟩
  rename World => w4
  rw [if_neg (by rw [hs]; simp)] at hn
  go_wp2_with fail
  refine (index_in _ otherL other_ix c hc256 _).mono ?_
  rintro v w5 ⟨⟨n2, rfl, hn2⟩, rfl⟩
  rename World => w4
  rw [if_neg (by rw [ho]; simp)] at hn2
  go_wp2_with fail
  go_still_tail 8, (by kernel_rfl)
  change wpList _ _ _ _ _ w4.drew
  go_wp2_with fail
  refine (fail_at (k := 4) (h4.below (Below.refl _ _).drew) (by have := h4.le; omega)).mono ?_
  rintro v w7 ⟨⟨u, rfl⟩, h7, hg⟩
  have hg7 := only_trans (only_of b ((Below.refl w4.heap.size _).drew)) hg
  have g7 := only_trans g4 hg7
  have hR7 := hR4.turn hg7 (by omega)
  have h67 := h6.turn hg7 (by omega)
  obtain ⟨x0, x1, x2, x3, _, _, _, _⟩ := h67.four
  obtain ⟨y0, y1, y2, y3, k0, k1, k2, k3⟩ := hR7.four
  go_wp2
  refine ret_set (b := w.heap.size) rfl rfl (hR7.set4 _ _ _ _) rfl ?_
  refine ⟨noSet, i + 1, 4, rfl, ⟨h7.blk.far4 (g := w.heap.size) (by omega) _ _ _ _, ?_, h7.ne, h7.le, h7.size⟩, only_set4' g7 (Nat.le_refl _) _ _ _ _, by rw [HX.out]; exact ⟨rfl, rfl, by omega⟩⟩
  exact h7.tab.only (only_set4 (only_refl _ w.heap.size) _ _ _ _) (by have := tab_lt h.tab; omega)
end Go.Proofs.YtofhkgafgnldnaaDoor
