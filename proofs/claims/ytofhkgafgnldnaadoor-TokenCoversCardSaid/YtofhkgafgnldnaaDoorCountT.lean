/- count: a count, whose first byte was read. -/
import Derived.Test.YtofhkgafgnldnaaDoorTok
namespace Go.Proofs.YtofhkgafgnldnaaDoor
open Go.RowKit
theorem lazyM_eq (t : List Nat) (lo : Nat) (hi : Int) (i : Nat) : lazyM t lo hi i = if t[isI t i 63]? = some 43 then .err (isI t i 63) 6 else .ok ⟨5, noSet, lo, hi, isB t i 63⟩ (isI t i 63) := rfl
theorem tokL_none (k lo : Nat) (hi : Int) (z : Bool) (f t : Nat) : tokL ⟨k, noSet, lo, hi, z⟩ f t = [.int .i64 ((k : Nat) : Int), .int .i64 ((f : Nat) : Int), .int .i64 ((t : Nat) : Int), .int .u64 0, .int .u64 0, .int .u64 0, .int .u64 0, .int .i64 ((lo : Nat) : Int), .int .i64 hi, .bool z] := by
  unfold noSet
  simp only [tokL, word_none]
set_option maxRecDepth 100000 in
set_option maxHeartbeats 2000000 in
theorem cnt_star {w : World} {b : Nat} {s : ByteArray} {i : Nat} {lv : Value} (h : Rdr w b s i 0 lv)  :
    Calls Tryd.prog 30 #[.pointer (some ⟨b, 0, none⟩), .int .u8 42] w fun v w' => ∃ x j e, v = .returned (tokV x 0 0) ∧ Rdr w' b s j e lv ∧ w.grownBy w' (some b) ∧ TokIs (countM (bytesN s) 42 i) x j e := by
  have HX := Lib.hid (show countM (bytesN s) 42 i = lazyM (bytesN s) 0 (-1) i by unfold countM; rw [if_pos rfl])
  have hblt := h.blk.lt
  have hsz := h.size
  go_enter Tryd.func30, Tryd.ntmps30
  go_upto_region 9 with fail
  have hR := Blk.new w [.int .i64 0, .int .i64 0, .int .i64 0, .int .u64 0, .int .u64 0, .int .u64 0, .int .u64 0, .int .i64 0, .int .i64 0, .bool false] 35
  have hr := h.below ((Below.refl _ w).alloc (Nat.le_refl _) (.cells #[.int .i64 0, .int .i64 0, .int .i64 0, .int .u64 0, .int .u64 0, .int .u64 0, .int .u64 0, .int .i64 0, .int .i64 0, .bool false] 35))
  have g := only_alloc (only_refl w b) (.cells #[.int .i64 0, .int .i64 0, .int .i64 0, .int .u64 0, .int .u64 0, .int .u64 0, .int .u64 0, .int .i64 0, .int .i64 0, .bool false] 35)
  have hs1 : (w.alloc (.cells #[.int .i64 0, .int .i64 0, .int .i64 0, .int .u64 0, .int .u64 0, .int .u64 0, .int .u64 0, .int .i64 0, .int .i64 0, .bool false] 35)).heap.size = w.heap.size + 1 := by simp
  generalize w.alloc _ = wa at *
  have h5 := Blk.new wa [.int .i64 5, .int .i64 0, .int .i64 0, .int .u64 0, .int .u64 0, .int .u64 0, .int .u64 0, .int .i64 0, .int .i64 (-1), .bool false] 35
  replace hR := hR.alloc (.cells #[.int .i64 5, .int .i64 0, .int .i64 0, .int .u64 0, .int .u64 0, .int .u64 0, .int .u64 0, .int .i64 0, .int .i64 (-1), .bool false] 35)
  replace hr := hr.below ((Below.refl _ wa).alloc (Nat.le_refl _) (.cells #[.int .i64 5, .int .i64 0, .int .i64 0, .int .u64 0, .int .u64 0, .int .u64 0, .int .u64 0, .int .i64 0, .int .i64 (-1), .bool false] 35))
  replace g := only_alloc g (.cells #[.int .i64 5, .int .i64 0, .int .i64 0, .int .u64 0, .int .u64 0, .int .u64 0, .int .u64 0, .int .i64 0, .int .i64 (-1), .bool false] 35)
  rw [hs1] at h5
  generalize hb5 : w.heap.size + 1 = b5 at *
  generalize wa.alloc _ = wb at *
  clear hs1
  go_wp2_with fail
  refine (bad_at hr).mono ?_
  rintro v w0 ⟨rfl, hb⟩
  replace hR := hR.below hb hR.lt
  replace h5 := h5.below hb h5.lt
  replace hr := hr.below hb
  replace g := only_below g hb
  clear hb
  rw [show decide ((0 : Nat) ≠ 0) = false from rfl]
  go_wp2_with fail
  refine (is_at 63 hr).mono ?_
  rintro v w0 ⟨rfl, hr, hg⟩
  replace hR := Blk.turn hR hg (by omega)
  replace h5 := Blk.turn h5 hg (by omega)
  replace g := only_trans g hg
  clear hg
  have HL := Lib.hid (lazyM_eq (bytesN s) 0 (-1) i)
  generalize isI (bytesN s) i 63 = j at *
  generalize isB (bytesN s) i 63 = z at *
  have hjle := hr.le
  have x9 := h5.cell 9
  have p9 := h5.frozen 9
  simp only [List.getElem?_cons_succ, List.getElem?_cons_zero] at x9
  go_upto_region 12 with fail
  have h5z := h5.set 9 (.bool z)
  simp only [List.set_cons_succ, List.set_cons_zero] at h5z
  have hRz := hR.far (p := ⟨b5, 9, none⟩) (by show w.heap.size ≠ b5; omega) (.bool z)
  have hrz := hr.farPuts (g := b5) (by omega) (by have := tab_lt h.tab; omega) [.bool z] 9
  have gz := only_puts (g := b5) (by omega) [.bool z] 9 _ g
  simp only [putCells] at hrz gz
  clear h5 hR hr g x9 p9
  have h5 := h5z
  have hR := hRz
  have hr := hrz
  have g := gz
  clear h5z hRz hrz gz
  generalize w0.setCell _ _ = wz at *
  have hpk : (peekV (bytesN s) j = .tuple #[.int .u8 43, .bool true] ∧ (bytesN s)[j]? = some 43) ∨ (bytesN s)[j]? ≠ some 43 ∧ ((∃ c : Nat, peekV (bytesN s) j = .tuple #[.int .u8 ((c : Nat) : Int), .bool true] ∧ ((c : Nat) : Int) ≠ 43) ∨ peekV (bytesN s) j = .tuple #[.int .u8 0, .bool false]) := by
    unfold peekV
    cases hc : (bytesN s)[j]? with
    | none => exact .inr ⟨by simp, .inr rfl⟩
    | some c =>
      by_cases h43 : c = 43
      · subst h43
        exact .inl ⟨rfl, rfl⟩
      · exact .inr ⟨by simpa using h43, .inl ⟨c, rfl, by omega⟩⟩
  have HPk := Lib.hid hpk
  clear hpk
  go_wp2_with fail
  refine (peek_at hr).mono ?_
  rintro v w0 ⟨rfl, hb⟩
  replace hR := hR.below hb hR.lt
  replace h5 := h5.below hb h5.lt
  replace hr := hr.below hb
  replace g := only_below g hb
  clear hb
  rcases HPk.out with ⟨hp, h43⟩ | ⟨h43, ⟨c, hp, hne⟩ | hp⟩
  · skip
    rw [hp]
    have H43 := Lib.hid h43
    clear hp h43
    obtain ⟨_, c1, _, _, f1, _, _⟩ := hr.cells
    go_wp2_with fail
    go_still_tail 8, (by kernel_rfl)
    change wpList _ _ _ _ _ w0.drew
    go_wp2_with fail
    refine (fail_at (k := 6) (hr.below (Below.refl _ _).drew) hjle).mono ?_
    rintro v w1 ⟨⟨u, rfl⟩, hr, hg1⟩
    have hg := only_trans (only_of b (Below.refl w0.heap.size _).drew) hg1
    clear hg1 c1 f1
    replace hR := Blk.turn hR hg (by omega)
    replace h5 := Blk.turn h5 hg (by omega)
    replace g := only_trans g hg
    clear hg
    obtain ⟨⟨x0, x1, x2, x3, x4, x5, x6, x7, x8, x9⟩, _⟩ := h5.ten
    obtain ⟨⟨y0, y1, y2, y3, y4, y5, y6, y7, y8, y9⟩, k0, k1, k2, k3, k4, k5, k6, k7, k8, k9⟩ := hR.ten
    go_wp2
    have hRz := Blk.puts0 hR [.int .i64 5, .int .i64 0, .int .i64 0, .int .u64 0, .int .u64 0, .int .u64 0, .int .u64 0, .int .i64 0, .int .i64 (-1), .bool z] rfl
    have hrz := hr.farPuts (g := w.heap.size) (by omega) (by have := tab_lt h.tab; omega) [.int .i64 5, .int .i64 0, .int .i64 0, .int .u64 0, .int .u64 0, .int .u64 0, .int .u64 0, .int .i64 0, .int .i64 (-1), .bool z] 0
    have gz := only_puts (g := w.heap.size) (Nat.le_refl _) [.int .i64 5, .int .i64 0, .int .i64 0, .int .u64 0, .int .u64 0, .int .u64 0, .int .u64 0, .int .i64 0, .int .i64 (-1), .bool z] 0 _ g
    simp only [putCells] at hRz hrz gz
    clear hR hr g h5 x0 x1 x2 x3 x4 x5 x6 x7 x8 x9 y0 y1 y2 y3 y4 y5 y6 y7 y8 y9 k0 k1 k2 k3 k4 k5 k6 k7 k8 k9
    generalize World.setCell _ _ _ = wq at *
    refine ret_tok (b := w.heap.size) rfl rfl hRz rfl rfl ?_
    refine ⟨⟨5, noSet, 0, (-1), z⟩, j, 6, ?_, hrz, gz, by rw [HX.out, HL.out, if_pos H43.out]; exact ⟨rfl, rfl, by omega⟩⟩
    exact ret_congr (congrArg (fun l => Value.agg (List.toArray l)) (tokL_none 5 0 (-1) z 0 0).symm)
  · skip
    rw [hp]
    have H43 := Lib.hid h43
    clear hp h43
    obtain ⟨⟨x0, x1, x2, x3, x4, x5, x6, x7, x8, x9⟩, _⟩ := h5.ten
    obtain ⟨⟨y0, y1, y2, y3, y4, y5, y6, y7, y8, y9⟩, k0, k1, k2, k3, k4, k5, k6, k7, k8, k9⟩ := hR.ten
    go_wp2
    have hRz := Blk.puts0 hR [.int .i64 5, .int .i64 0, .int .i64 0, .int .u64 0, .int .u64 0, .int .u64 0, .int .u64 0, .int .i64 0, .int .i64 (-1), .bool z] rfl
    have hrz := hr.farPuts (g := w.heap.size) (by omega) (by have := tab_lt h.tab; omega) [.int .i64 5, .int .i64 0, .int .i64 0, .int .u64 0, .int .u64 0, .int .u64 0, .int .u64 0, .int .i64 0, .int .i64 (-1), .bool z] 0
    have gz := only_puts (g := w.heap.size) (Nat.le_refl _) [.int .i64 5, .int .i64 0, .int .i64 0, .int .u64 0, .int .u64 0, .int .u64 0, .int .u64 0, .int .i64 0, .int .i64 (-1), .bool z] 0 _ g
    simp only [putCells] at hRz hrz gz
    clear hR hr g h5 x0 x1 x2 x3 x4 x5 x6 x7 x8 x9 y0 y1 y2 y3 y4 y5 y6 y7 y8 y9 k0 k1 k2 k3 k4 k5 k6 k7 k8 k9
    generalize World.setCell _ _ _ = wq at *
    refine ret_tok (b := w.heap.size) rfl rfl hRz rfl rfl ?_
    refine ⟨⟨5, noSet, 0, (-1), z⟩, j, 0, ?_, hrz, gz, by rw [HX.out, HL.out, if_neg H43.out]; exact ⟨rfl, rfl, rfl⟩⟩
    exact ret_congr (congrArg (fun l => Value.agg (List.toArray l)) (tokL_none 5 0 (-1) z 0 0).symm)
  · skip
    rw [hp]
    have H43 := Lib.hid h43
    clear hp h43
    obtain ⟨⟨x0, x1, x2, x3, x4, x5, x6, x7, x8, x9⟩, _⟩ := h5.ten
    obtain ⟨⟨y0, y1, y2, y3, y4, y5, y6, y7, y8, y9⟩, k0, k1, k2, k3, k4, k5, k6, k7, k8, k9⟩ := hR.ten
    go_wp2
    have hRz := Blk.puts0 hR [.int .i64 5, .int .i64 0, .int .i64 0, .int .u64 0, .int .u64 0, .int .u64 0, .int .u64 0, .int .i64 0, .int .i64 (-1), .bool z] rfl
    have hrz := hr.farPuts (g := w.heap.size) (by omega) (by have := tab_lt h.tab; omega) [.int .i64 5, .int .i64 0, .int .i64 0, .int .u64 0, .int .u64 0, .int .u64 0, .int .u64 0, .int .i64 0, .int .i64 (-1), .bool z] 0
    have gz := only_puts (g := w.heap.size) (Nat.le_refl _) [.int .i64 5, .int .i64 0, .int .i64 0, .int .u64 0, .int .u64 0, .int .u64 0, .int .u64 0, .int .i64 0, .int .i64 (-1), .bool z] 0 _ g
    simp only [putCells] at hRz hrz gz
    clear hR hr g h5 x0 x1 x2 x3 x4 x5 x6 x7 x8 x9 y0 y1 y2 y3 y4 y5 y6 y7 y8 y9 k0 k1 k2 k3 k4 k5 k6 k7 k8 k9
    generalize World.setCell _ _ _ = wq at *
    refine ret_tok (b := w.heap.size) rfl rfl hRz rfl rfl ?_
    refine ⟨⟨5, noSet, 0, (-1), z⟩, j, 0, ?_, hrz, gz, by rw [HX.out, HL.out, if_neg H43.out]; exact ⟨rfl, rfl, rfl⟩⟩
    exact ret_congr (congrArg (fun l => Value.agg (List.toArray l)) (tokL_none 5 0 (-1) z 0 0).symm)
set_option maxRecDepth 100000 in
set_option maxHeartbeats 2000000 in
theorem cnt_plus {w : World} {b : Nat} {s : ByteArray} {i : Nat} {lv : Value} (h : Rdr w b s i 0 lv)  :
    Calls Tryd.prog 30 #[.pointer (some ⟨b, 0, none⟩), .int .u8 43] w fun v w' => ∃ x j e, v = .returned (tokV x 0 0) ∧ Rdr w' b s j e lv ∧ w.grownBy w' (some b) ∧ TokIs (countM (bytesN s) 43 i) x j e := by
  have HX := Lib.hid (show countM (bytesN s) 43 i = lazyM (bytesN s) 1 (-1) i by unfold countM; rw [if_neg (by omega), if_pos rfl])
  have hblt := h.blk.lt
  have hsz := h.size
  go_enter Tryd.func30, Tryd.ntmps30
  go_upto_region 9 with fail
  have hR := Blk.new w [.int .i64 0, .int .i64 0, .int .i64 0, .int .u64 0, .int .u64 0, .int .u64 0, .int .u64 0, .int .i64 0, .int .i64 0, .bool false] 35
  have hr := h.below ((Below.refl _ w).alloc (Nat.le_refl _) (.cells #[.int .i64 0, .int .i64 0, .int .i64 0, .int .u64 0, .int .u64 0, .int .u64 0, .int .u64 0, .int .i64 0, .int .i64 0, .bool false] 35))
  have g := only_alloc (only_refl w b) (.cells #[.int .i64 0, .int .i64 0, .int .i64 0, .int .u64 0, .int .u64 0, .int .u64 0, .int .u64 0, .int .i64 0, .int .i64 0, .bool false] 35)
  have hs1 : (w.alloc (.cells #[.int .i64 0, .int .i64 0, .int .i64 0, .int .u64 0, .int .u64 0, .int .u64 0, .int .u64 0, .int .i64 0, .int .i64 0, .bool false] 35)).heap.size = w.heap.size + 1 := by simp
  generalize w.alloc _ = wa at *
  have h5 := Blk.new wa [.int .i64 5, .int .i64 0, .int .i64 0, .int .u64 0, .int .u64 0, .int .u64 0, .int .u64 0, .int .i64 1, .int .i64 (-1), .bool false] 35
  replace hR := hR.alloc (.cells #[.int .i64 5, .int .i64 0, .int .i64 0, .int .u64 0, .int .u64 0, .int .u64 0, .int .u64 0, .int .i64 1, .int .i64 (-1), .bool false] 35)
  replace hr := hr.below ((Below.refl _ wa).alloc (Nat.le_refl _) (.cells #[.int .i64 5, .int .i64 0, .int .i64 0, .int .u64 0, .int .u64 0, .int .u64 0, .int .u64 0, .int .i64 1, .int .i64 (-1), .bool false] 35))
  replace g := only_alloc g (.cells #[.int .i64 5, .int .i64 0, .int .i64 0, .int .u64 0, .int .u64 0, .int .u64 0, .int .u64 0, .int .i64 1, .int .i64 (-1), .bool false] 35)
  rw [hs1] at h5
  generalize hb5 : w.heap.size + 1 = b5 at *
  generalize wa.alloc _ = wb at *
  clear hs1
  go_wp2_with fail
  refine (bad_at hr).mono ?_
  rintro v w0 ⟨rfl, hb⟩
  replace hR := hR.below hb hR.lt
  replace h5 := h5.below hb h5.lt
  replace hr := hr.below hb
  replace g := only_below g hb
  clear hb
  rw [show decide ((0 : Nat) ≠ 0) = false from rfl]
  go_wp2_with fail
  refine (is_at 63 hr).mono ?_
  rintro v w0 ⟨rfl, hr, hg⟩
  replace hR := Blk.turn hR hg (by omega)
  replace h5 := Blk.turn h5 hg (by omega)
  replace g := only_trans g hg
  clear hg
  have HL := Lib.hid (lazyM_eq (bytesN s) 1 (-1) i)
  generalize isI (bytesN s) i 63 = j at *
  generalize isB (bytesN s) i 63 = z at *
  have hjle := hr.le
  have x9 := h5.cell 9
  have p9 := h5.frozen 9
  simp only [List.getElem?_cons_succ, List.getElem?_cons_zero] at x9
  go_upto_region 12 with fail
  have h5z := h5.set 9 (.bool z)
  simp only [List.set_cons_succ, List.set_cons_zero] at h5z
  have hRz := hR.far (p := ⟨b5, 9, none⟩) (by show w.heap.size ≠ b5; omega) (.bool z)
  have hrz := hr.farPuts (g := b5) (by omega) (by have := tab_lt h.tab; omega) [.bool z] 9
  have gz := only_puts (g := b5) (by omega) [.bool z] 9 _ g
  simp only [putCells] at hrz gz
  clear h5 hR hr g x9 p9
  have h5 := h5z
  have hR := hRz
  have hr := hrz
  have g := gz
  clear h5z hRz hrz gz
  generalize w0.setCell _ _ = wz at *
  have hpk : (peekV (bytesN s) j = .tuple #[.int .u8 43, .bool true] ∧ (bytesN s)[j]? = some 43) ∨ (bytesN s)[j]? ≠ some 43 ∧ ((∃ c : Nat, peekV (bytesN s) j = .tuple #[.int .u8 ((c : Nat) : Int), .bool true] ∧ ((c : Nat) : Int) ≠ 43) ∨ peekV (bytesN s) j = .tuple #[.int .u8 0, .bool false]) := by
    unfold peekV
    cases hc : (bytesN s)[j]? with
    | none => exact .inr ⟨by simp, .inr rfl⟩
    | some c =>
      by_cases h43 : c = 43
      · subst h43
        exact .inl ⟨rfl, rfl⟩
      · exact .inr ⟨by simpa using h43, .inl ⟨c, rfl, by omega⟩⟩
  have HPk := Lib.hid hpk
  clear hpk
  go_wp2_with fail
  refine (peek_at hr).mono ?_
  rintro v w0 ⟨rfl, hb⟩
  replace hR := hR.below hb hR.lt
  replace h5 := h5.below hb h5.lt
  replace hr := hr.below hb
  replace g := only_below g hb
  clear hb
  rcases HPk.out with ⟨hp, h43⟩ | ⟨h43, ⟨c, hp, hne⟩ | hp⟩
  · skip
    rw [hp]
    have H43 := Lib.hid h43
    clear hp h43
    obtain ⟨_, c1, _, _, f1, _, _⟩ := hr.cells
    go_wp2_with fail
    go_still_tail 8, (by kernel_rfl)
    change wpList _ _ _ _ _ w0.drew
    go_wp2_with fail
    refine (fail_at (k := 6) (hr.below (Below.refl _ _).drew) hjle).mono ?_
    rintro v w1 ⟨⟨u, rfl⟩, hr, hg1⟩
    have hg := only_trans (only_of b (Below.refl w0.heap.size _).drew) hg1
    clear hg1 c1 f1
    replace hR := Blk.turn hR hg (by omega)
    replace h5 := Blk.turn h5 hg (by omega)
    replace g := only_trans g hg
    clear hg
    obtain ⟨⟨x0, x1, x2, x3, x4, x5, x6, x7, x8, x9⟩, _⟩ := h5.ten
    obtain ⟨⟨y0, y1, y2, y3, y4, y5, y6, y7, y8, y9⟩, k0, k1, k2, k3, k4, k5, k6, k7, k8, k9⟩ := hR.ten
    go_wp2
    have hRz := Blk.puts0 hR [.int .i64 5, .int .i64 0, .int .i64 0, .int .u64 0, .int .u64 0, .int .u64 0, .int .u64 0, .int .i64 1, .int .i64 (-1), .bool z] rfl
    have hrz := hr.farPuts (g := w.heap.size) (by omega) (by have := tab_lt h.tab; omega) [.int .i64 5, .int .i64 0, .int .i64 0, .int .u64 0, .int .u64 0, .int .u64 0, .int .u64 0, .int .i64 1, .int .i64 (-1), .bool z] 0
    have gz := only_puts (g := w.heap.size) (Nat.le_refl _) [.int .i64 5, .int .i64 0, .int .i64 0, .int .u64 0, .int .u64 0, .int .u64 0, .int .u64 0, .int .i64 1, .int .i64 (-1), .bool z] 0 _ g
    simp only [putCells] at hRz hrz gz
    clear hR hr g h5 x0 x1 x2 x3 x4 x5 x6 x7 x8 x9 y0 y1 y2 y3 y4 y5 y6 y7 y8 y9 k0 k1 k2 k3 k4 k5 k6 k7 k8 k9
    generalize World.setCell _ _ _ = wq at *
    refine ret_tok (b := w.heap.size) rfl rfl hRz rfl rfl ?_
    refine ⟨⟨5, noSet, 1, (-1), z⟩, j, 6, ?_, hrz, gz, by rw [HX.out, HL.out, if_pos H43.out]; exact ⟨rfl, rfl, by omega⟩⟩
    exact ret_congr (congrArg (fun l => Value.agg (List.toArray l)) (tokL_none 5 1 (-1) z 0 0).symm)
  · skip
    rw [hp]
    have H43 := Lib.hid h43
    clear hp h43
    obtain ⟨⟨x0, x1, x2, x3, x4, x5, x6, x7, x8, x9⟩, _⟩ := h5.ten
    obtain ⟨⟨y0, y1, y2, y3, y4, y5, y6, y7, y8, y9⟩, k0, k1, k2, k3, k4, k5, k6, k7, k8, k9⟩ := hR.ten
    go_wp2
    have hRz := Blk.puts0 hR [.int .i64 5, .int .i64 0, .int .i64 0, .int .u64 0, .int .u64 0, .int .u64 0, .int .u64 0, .int .i64 1, .int .i64 (-1), .bool z] rfl
    have hrz := hr.farPuts (g := w.heap.size) (by omega) (by have := tab_lt h.tab; omega) [.int .i64 5, .int .i64 0, .int .i64 0, .int .u64 0, .int .u64 0, .int .u64 0, .int .u64 0, .int .i64 1, .int .i64 (-1), .bool z] 0
    have gz := only_puts (g := w.heap.size) (Nat.le_refl _) [.int .i64 5, .int .i64 0, .int .i64 0, .int .u64 0, .int .u64 0, .int .u64 0, .int .u64 0, .int .i64 1, .int .i64 (-1), .bool z] 0 _ g
    simp only [putCells] at hRz hrz gz
    clear hR hr g h5 x0 x1 x2 x3 x4 x5 x6 x7 x8 x9 y0 y1 y2 y3 y4 y5 y6 y7 y8 y9 k0 k1 k2 k3 k4 k5 k6 k7 k8 k9
    generalize World.setCell _ _ _ = wq at *
    refine ret_tok (b := w.heap.size) rfl rfl hRz rfl rfl ?_
    refine ⟨⟨5, noSet, 1, (-1), z⟩, j, 0, ?_, hrz, gz, by rw [HX.out, HL.out, if_neg H43.out]; exact ⟨rfl, rfl, rfl⟩⟩
    exact ret_congr (congrArg (fun l => Value.agg (List.toArray l)) (tokL_none 5 1 (-1) z 0 0).symm)
  · skip
    rw [hp]
    have H43 := Lib.hid h43
    clear hp h43
    obtain ⟨⟨x0, x1, x2, x3, x4, x5, x6, x7, x8, x9⟩, _⟩ := h5.ten
    obtain ⟨⟨y0, y1, y2, y3, y4, y5, y6, y7, y8, y9⟩, k0, k1, k2, k3, k4, k5, k6, k7, k8, k9⟩ := hR.ten
    go_wp2
    have hRz := Blk.puts0 hR [.int .i64 5, .int .i64 0, .int .i64 0, .int .u64 0, .int .u64 0, .int .u64 0, .int .u64 0, .int .i64 1, .int .i64 (-1), .bool z] rfl
    have hrz := hr.farPuts (g := w.heap.size) (by omega) (by have := tab_lt h.tab; omega) [.int .i64 5, .int .i64 0, .int .i64 0, .int .u64 0, .int .u64 0, .int .u64 0, .int .u64 0, .int .i64 1, .int .i64 (-1), .bool z] 0
    have gz := only_puts (g := w.heap.size) (Nat.le_refl _) [.int .i64 5, .int .i64 0, .int .i64 0, .int .u64 0, .int .u64 0, .int .u64 0, .int .u64 0, .int .i64 1, .int .i64 (-1), .bool z] 0 _ g
    simp only [putCells] at hRz hrz gz
    clear hR hr g h5 x0 x1 x2 x3 x4 x5 x6 x7 x8 x9 y0 y1 y2 y3 y4 y5 y6 y7 y8 y9 k0 k1 k2 k3 k4 k5 k6 k7 k8 k9
    generalize World.setCell _ _ _ = wq at *
    refine ret_tok (b := w.heap.size) rfl rfl hRz rfl rfl ?_
    refine ⟨⟨5, noSet, 1, (-1), z⟩, j, 0, ?_, hrz, gz, by rw [HX.out, HL.out, if_neg H43.out]; exact ⟨rfl, rfl, rfl⟩⟩
    exact ret_congr (congrArg (fun l => Value.agg (List.toArray l)) (tokL_none 5 1 (-1) z 0 0).symm)
set_option maxRecDepth 100000 in
set_option maxHeartbeats 2000000 in
theorem cnt_ask {w : World} {b : Nat} {s : ByteArray} {i : Nat} {lv : Value} (h : Rdr w b s i 0 lv)  :
    Calls Tryd.prog 30 #[.pointer (some ⟨b, 0, none⟩), .int .u8 63] w fun v w' => ∃ x j e, v = .returned (tokV x 0 0) ∧ Rdr w' b s j e lv ∧ w.grownBy w' (some b) ∧ TokIs (countM (bytesN s) 63 i) x j e := by
  have HX := Lib.hid (show countM (bytesN s) 63 i = lazyM (bytesN s) 0 1 i by unfold countM; rw [if_neg (by omega), if_neg (by omega), if_pos rfl])
  have hblt := h.blk.lt
  have hsz := h.size
  go_enter Tryd.func30, Tryd.ntmps30
  go_upto_region 9 with fail
  have hR := Blk.new w [.int .i64 0, .int .i64 0, .int .i64 0, .int .u64 0, .int .u64 0, .int .u64 0, .int .u64 0, .int .i64 0, .int .i64 0, .bool false] 35
  have hr := h.below ((Below.refl _ w).alloc (Nat.le_refl _) (.cells #[.int .i64 0, .int .i64 0, .int .i64 0, .int .u64 0, .int .u64 0, .int .u64 0, .int .u64 0, .int .i64 0, .int .i64 0, .bool false] 35))
  have g := only_alloc (only_refl w b) (.cells #[.int .i64 0, .int .i64 0, .int .i64 0, .int .u64 0, .int .u64 0, .int .u64 0, .int .u64 0, .int .i64 0, .int .i64 0, .bool false] 35)
  have hs1 : (w.alloc (.cells #[.int .i64 0, .int .i64 0, .int .i64 0, .int .u64 0, .int .u64 0, .int .u64 0, .int .u64 0, .int .i64 0, .int .i64 0, .bool false] 35)).heap.size = w.heap.size + 1 := by simp
  generalize w.alloc _ = wa at *
  have h5 := Blk.new wa [.int .i64 5, .int .i64 0, .int .i64 0, .int .u64 0, .int .u64 0, .int .u64 0, .int .u64 0, .int .i64 0, .int .i64 1, .bool false] 35
  replace hR := hR.alloc (.cells #[.int .i64 5, .int .i64 0, .int .i64 0, .int .u64 0, .int .u64 0, .int .u64 0, .int .u64 0, .int .i64 0, .int .i64 1, .bool false] 35)
  replace hr := hr.below ((Below.refl _ wa).alloc (Nat.le_refl _) (.cells #[.int .i64 5, .int .i64 0, .int .i64 0, .int .u64 0, .int .u64 0, .int .u64 0, .int .u64 0, .int .i64 0, .int .i64 1, .bool false] 35))
  replace g := only_alloc g (.cells #[.int .i64 5, .int .i64 0, .int .i64 0, .int .u64 0, .int .u64 0, .int .u64 0, .int .u64 0, .int .i64 0, .int .i64 1, .bool false] 35)
  rw [hs1] at h5
  generalize hb5 : w.heap.size + 1 = b5 at *
  generalize wa.alloc _ = wb at *
  clear hs1
  go_wp2_with fail
  refine (bad_at hr).mono ?_
  rintro v w0 ⟨rfl, hb⟩
  replace hR := hR.below hb hR.lt
  replace h5 := h5.below hb h5.lt
  replace hr := hr.below hb
  replace g := only_below g hb
  clear hb
  rw [show decide ((0 : Nat) ≠ 0) = false from rfl]
  go_wp2_with fail
  refine (is_at 63 hr).mono ?_
  rintro v w0 ⟨rfl, hr, hg⟩
  replace hR := Blk.turn hR hg (by omega)
  replace h5 := Blk.turn h5 hg (by omega)
  replace g := only_trans g hg
  clear hg
  have HL := Lib.hid (lazyM_eq (bytesN s) 0 1 i)
  generalize isI (bytesN s) i 63 = j at *
  generalize isB (bytesN s) i 63 = z at *
  have hjle := hr.le
  have x9 := h5.cell 9
  have p9 := h5.frozen 9
  simp only [List.getElem?_cons_succ, List.getElem?_cons_zero] at x9
  go_upto_region 12 with fail
  have h5z := h5.set 9 (.bool z)
  simp only [List.set_cons_succ, List.set_cons_zero] at h5z
  have hRz := hR.far (p := ⟨b5, 9, none⟩) (by show w.heap.size ≠ b5; omega) (.bool z)
  have hrz := hr.farPuts (g := b5) (by omega) (by have := tab_lt h.tab; omega) [.bool z] 9
  have gz := only_puts (g := b5) (by omega) [.bool z] 9 _ g
  simp only [putCells] at hrz gz
  clear h5 hR hr g x9 p9
  have h5 := h5z
  have hR := hRz
  have hr := hrz
  have g := gz
  clear h5z hRz hrz gz
  generalize w0.setCell _ _ = wz at *
  have hpk : (peekV (bytesN s) j = .tuple #[.int .u8 43, .bool true] ∧ (bytesN s)[j]? = some 43) ∨ (bytesN s)[j]? ≠ some 43 ∧ ((∃ c : Nat, peekV (bytesN s) j = .tuple #[.int .u8 ((c : Nat) : Int), .bool true] ∧ ((c : Nat) : Int) ≠ 43) ∨ peekV (bytesN s) j = .tuple #[.int .u8 0, .bool false]) := by
    unfold peekV
    cases hc : (bytesN s)[j]? with
    | none => exact .inr ⟨by simp, .inr rfl⟩
    | some c =>
      by_cases h43 : c = 43
      · subst h43
        exact .inl ⟨rfl, rfl⟩
      · exact .inr ⟨by simpa using h43, .inl ⟨c, rfl, by omega⟩⟩
  have HPk := Lib.hid hpk
  clear hpk
  go_wp2_with fail
  refine (peek_at hr).mono ?_
  rintro v w0 ⟨rfl, hb⟩
  replace hR := hR.below hb hR.lt
  replace h5 := h5.below hb h5.lt
  replace hr := hr.below hb
  replace g := only_below g hb
  clear hb
  rcases HPk.out with ⟨hp, h43⟩ | ⟨h43, ⟨c, hp, hne⟩ | hp⟩
  · skip
    rw [hp]
    have H43 := Lib.hid h43
    clear hp h43
    obtain ⟨_, c1, _, _, f1, _, _⟩ := hr.cells
    go_wp2_with fail
    go_still_tail 8, (by kernel_rfl)
    change wpList _ _ _ _ _ w0.drew
    go_wp2_with fail
    refine (fail_at (k := 6) (hr.below (Below.refl _ _).drew) hjle).mono ?_
    rintro v w1 ⟨⟨u, rfl⟩, hr, hg1⟩
    have hg := only_trans (only_of b (Below.refl w0.heap.size _).drew) hg1
    clear hg1 c1 f1
    replace hR := Blk.turn hR hg (by omega)
    replace h5 := Blk.turn h5 hg (by omega)
    replace g := only_trans g hg
    clear hg
    obtain ⟨⟨x0, x1, x2, x3, x4, x5, x6, x7, x8, x9⟩, _⟩ := h5.ten
    obtain ⟨⟨y0, y1, y2, y3, y4, y5, y6, y7, y8, y9⟩, k0, k1, k2, k3, k4, k5, k6, k7, k8, k9⟩ := hR.ten
    go_wp2
    have hRz := Blk.puts0 hR [.int .i64 5, .int .i64 0, .int .i64 0, .int .u64 0, .int .u64 0, .int .u64 0, .int .u64 0, .int .i64 0, .int .i64 1, .bool z] rfl
    have hrz := hr.farPuts (g := w.heap.size) (by omega) (by have := tab_lt h.tab; omega) [.int .i64 5, .int .i64 0, .int .i64 0, .int .u64 0, .int .u64 0, .int .u64 0, .int .u64 0, .int .i64 0, .int .i64 1, .bool z] 0
    have gz := only_puts (g := w.heap.size) (Nat.le_refl _) [.int .i64 5, .int .i64 0, .int .i64 0, .int .u64 0, .int .u64 0, .int .u64 0, .int .u64 0, .int .i64 0, .int .i64 1, .bool z] 0 _ g
    simp only [putCells] at hRz hrz gz
    clear hR hr g h5 x0 x1 x2 x3 x4 x5 x6 x7 x8 x9 y0 y1 y2 y3 y4 y5 y6 y7 y8 y9 k0 k1 k2 k3 k4 k5 k6 k7 k8 k9
    generalize World.setCell _ _ _ = wq at *
    refine ret_tok (b := w.heap.size) rfl rfl hRz rfl rfl ?_
    refine ⟨⟨5, noSet, 0, 1, z⟩, j, 6, ?_, hrz, gz, by rw [HX.out, HL.out, if_pos H43.out]; exact ⟨rfl, rfl, by omega⟩⟩
    exact ret_congr (congrArg (fun l => Value.agg (List.toArray l)) (tokL_none 5 0 1 z 0 0).symm)
  · skip
    rw [hp]
    have H43 := Lib.hid h43
    clear hp h43
    obtain ⟨⟨x0, x1, x2, x3, x4, x5, x6, x7, x8, x9⟩, _⟩ := h5.ten
    obtain ⟨⟨y0, y1, y2, y3, y4, y5, y6, y7, y8, y9⟩, k0, k1, k2, k3, k4, k5, k6, k7, k8, k9⟩ := hR.ten
    go_wp2
    have hRz := Blk.puts0 hR [.int .i64 5, .int .i64 0, .int .i64 0, .int .u64 0, .int .u64 0, .int .u64 0, .int .u64 0, .int .i64 0, .int .i64 1, .bool z] rfl
    have hrz := hr.farPuts (g := w.heap.size) (by omega) (by have := tab_lt h.tab; omega) [.int .i64 5, .int .i64 0, .int .i64 0, .int .u64 0, .int .u64 0, .int .u64 0, .int .u64 0, .int .i64 0, .int .i64 1, .bool z] 0
    have gz := only_puts (g := w.heap.size) (Nat.le_refl _) [.int .i64 5, .int .i64 0, .int .i64 0, .int .u64 0, .int .u64 0, .int .u64 0, .int .u64 0, .int .i64 0, .int .i64 1, .bool z] 0 _ g
    simp only [putCells] at hRz hrz gz
    clear hR hr g h5 x0 x1 x2 x3 x4 x5 x6 x7 x8 x9 y0 y1 y2 y3 y4 y5 y6 y7 y8 y9 k0 k1 k2 k3 k4 k5 k6 k7 k8 k9
    generalize World.setCell _ _ _ = wq at *
    refine ret_tok (b := w.heap.size) rfl rfl hRz rfl rfl ?_
    refine ⟨⟨5, noSet, 0, 1, z⟩, j, 0, ?_, hrz, gz, by rw [HX.out, HL.out, if_neg H43.out]; exact ⟨rfl, rfl, rfl⟩⟩
    exact ret_congr (congrArg (fun l => Value.agg (List.toArray l)) (tokL_none 5 0 1 z 0 0).symm)
  · skip
    rw [hp]
    have H43 := Lib.hid h43
    clear hp h43
    obtain ⟨⟨x0, x1, x2, x3, x4, x5, x6, x7, x8, x9⟩, _⟩ := h5.ten
    obtain ⟨⟨y0, y1, y2, y3, y4, y5, y6, y7, y8, y9⟩, k0, k1, k2, k3, k4, k5, k6, k7, k8, k9⟩ := hR.ten
    go_wp2
    have hRz := Blk.puts0 hR [.int .i64 5, .int .i64 0, .int .i64 0, .int .u64 0, .int .u64 0, .int .u64 0, .int .u64 0, .int .i64 0, .int .i64 1, .bool z] rfl
    have hrz := hr.farPuts (g := w.heap.size) (by omega) (by have := tab_lt h.tab; omega) [.int .i64 5, .int .i64 0, .int .i64 0, .int .u64 0, .int .u64 0, .int .u64 0, .int .u64 0, .int .i64 0, .int .i64 1, .bool z] 0
    have gz := only_puts (g := w.heap.size) (Nat.le_refl _) [.int .i64 5, .int .i64 0, .int .i64 0, .int .u64 0, .int .u64 0, .int .u64 0, .int .u64 0, .int .i64 0, .int .i64 1, .bool z] 0 _ g
    simp only [putCells] at hRz hrz gz
    clear hR hr g h5 x0 x1 x2 x3 x4 x5 x6 x7 x8 x9 y0 y1 y2 y3 y4 y5 y6 y7 y8 y9 k0 k1 k2 k3 k4 k5 k6 k7 k8 k9
    generalize World.setCell _ _ _ = wq at *
    refine ret_tok (b := w.heap.size) rfl rfl hRz rfl rfl ?_
    refine ⟨⟨5, noSet, 0, 1, z⟩, j, 0, ?_, hrz, gz, by rw [HX.out, HL.out, if_neg H43.out]; exact ⟨rfl, rfl, rfl⟩⟩
    exact ret_congr (congrArg (fun l => Value.agg (List.toArray l)) (tokL_none 5 0 1 z 0 0).symm)
set_option maxRecDepth 100000 in
set_option maxHeartbeats 2000000 in
theorem cnt_bra_err {w : World} {b : Nat} {s : ByteArray} {i : Nat} {lv : Value} (h : Rdr w b s i 0 lv) (j e : Nat) (h1 : bracesM (bytesN s) i = .err j e) :
    Calls Tryd.prog 30 #[.pointer (some ⟨b, 0, none⟩), .int .u8 123] w fun v w' => ∃ x j e, v = .returned (tokV x 0 0) ∧ Rdr w' b s j e lv ∧ w.grownBy w' (some b) ∧ TokIs (countM (bytesN s) 123 i) x j e := by
  have HX := Lib.hid (show countM (bytesN s) 123 i = .err j e by unfold countM; rw [if_neg (by omega), if_neg (by omega), if_neg (by omega), h1])
  have H1 := Lib.hid h1
  clear h1
  have hblt := h.blk.lt
  have hsz := h.size
  go_enter Tryd.func30, Tryd.ntmps30
  go_upto_region 8 with fail
  have hR := Blk.new w [.int .i64 0, .int .i64 0, .int .i64 0, .int .u64 0, .int .u64 0, .int .u64 0, .int .u64 0, .int .i64 0, .int .i64 0, .bool false] 35
  have hr := h.below ((Below.refl _ w).alloc (Nat.le_refl _) (.cells #[.int .i64 0, .int .i64 0, .int .i64 0, .int .u64 0, .int .u64 0, .int .u64 0, .int .u64 0, .int .i64 0, .int .i64 0, .bool false] 35))
  have g := only_alloc (only_refl w b) (.cells #[.int .i64 0, .int .i64 0, .int .i64 0, .int .u64 0, .int .u64 0, .int .u64 0, .int .u64 0, .int .i64 0, .int .i64 0, .bool false] 35)
  have hs1 : (w.alloc (.cells #[.int .i64 0, .int .i64 0, .int .i64 0, .int .u64 0, .int .u64 0, .int .u64 0, .int .u64 0, .int .i64 0, .int .i64 0, .bool false] 35)).heap.size = w.heap.size + 1 := by simp
  generalize w.alloc _ = wa at *
  have h5 := Blk.new wa [.int .i64 5, .int .i64 0, .int .i64 0, .int .u64 0, .int .u64 0, .int .u64 0, .int .u64 0, .int .i64 0, .int .i64 (-1), .bool false] 35
  replace hR := hR.alloc (.cells #[.int .i64 5, .int .i64 0, .int .i64 0, .int .u64 0, .int .u64 0, .int .u64 0, .int .u64 0, .int .i64 0, .int .i64 (-1), .bool false] 35)
  replace hr := hr.below ((Below.refl _ wa).alloc (Nat.le_refl _) (.cells #[.int .i64 5, .int .i64 0, .int .i64 0, .int .u64 0, .int .u64 0, .int .u64 0, .int .u64 0, .int .i64 0, .int .i64 (-1), .bool false] 35))
  replace g := only_alloc g (.cells #[.int .i64 5, .int .i64 0, .int .i64 0, .int .u64 0, .int .u64 0, .int .u64 0, .int .u64 0, .int .i64 0, .int .i64 (-1), .bool false] 35)
  rw [hs1] at h5
  generalize hb5 : w.heap.size + 1 = b5 at *
  generalize wa.alloc _ = wb at *
  clear hs1
  go_wp2_with fail
  refine (braces_at hr).mono ?_
  rintro v w0 ⟨lo1, hi1, j1, e1, rfl, hr, hg, hbr⟩
  replace hR := Blk.turn hR hg (by omega)
  replace h5 := Blk.turn h5 hg (by omega)
  replace g := only_trans g hg
  clear hg
  rw [H1.out] at hbr
  obtain ⟨rfl, rfl, he⟩ := hbr
  have x7 := h5.cell 7
  have x8 := h5.cell 8
  have p7 := h5.frozen 7
  have p8 := h5.frozen 8
  simp only [List.getElem?_cons_succ, List.getElem?_cons_zero] at x7 x8
  go_upto_region 9 with fail
  have h5z := (h5.set 7 (.int .i64 ((lo1 : Nat) : Int))).set 8 (.int .i64 hi1)
  simp only [List.set_cons_succ, List.set_cons_zero] at h5z
  have hRz := (hR.far (p := ⟨b5, 7, none⟩) (by show w.heap.size ≠ b5; omega) (.int .i64 ((lo1 : Nat) : Int))).far (p := ⟨b5, 8, none⟩) (by show w.heap.size ≠ b5; omega) (.int .i64 hi1)
  have hrz := hr.farPuts (g := b5) (by omega) (by have := tab_lt h.tab; omega) [.int .i64 ((lo1 : Nat) : Int), .int .i64 hi1] 7
  have gz := only_puts (g := b5) (by omega) [.int .i64 ((lo1 : Nat) : Int), .int .i64 hi1] 7 _ g
  simp only [putCells] at hrz gz
  clear h5 hR hr g x7 x8 p7 p8
  have h5 := h5z
  have hR := hRz
  have hr := hrz
  have g := gz
  clear h5z hRz hrz gz
  generalize (w0.setCell _ _).setCell _ _ = wy at *
  go_wp2_with fail
  refine (bad_at hr).mono ?_
  rintro v w0 ⟨rfl, hb⟩
  replace hR := hR.below hb hR.lt
  replace h5 := h5.below hb h5.lt
  replace hr := hr.below hb
  replace g := only_below g hb
  clear hb
  rw [show decide (e1 ≠ 0) = true from decide_eq_true he]
  obtain ⟨⟨x0, x1, x2, x3, x4, x5, x6, x7, x8, x9⟩, _⟩ := h5.ten
  obtain ⟨⟨y0, y1, y2, y3, y4, y5, y6, y7, y8, y9⟩, k0, k1, k2, k3, k4, k5, k6, k7, k8, k9⟩ := hR.ten
  go_wp2
  have hRz := Blk.puts0 hR [.int .i64 5, .int .i64 0, .int .i64 0, .int .u64 0, .int .u64 0, .int .u64 0, .int .u64 0, .int .i64 ((lo1 : Nat) : Int), .int .i64 hi1, .bool false] rfl
  have hrz := hr.farPuts (g := w.heap.size) (by omega) (by have := tab_lt h.tab; omega) [.int .i64 5, .int .i64 0, .int .i64 0, .int .u64 0, .int .u64 0, .int .u64 0, .int .u64 0, .int .i64 ((lo1 : Nat) : Int), .int .i64 hi1, .bool false] 0
  have gz := only_puts (g := w.heap.size) (Nat.le_refl _) [.int .i64 5, .int .i64 0, .int .i64 0, .int .u64 0, .int .u64 0, .int .u64 0, .int .u64 0, .int .i64 ((lo1 : Nat) : Int), .int .i64 hi1, .bool false] 0 _ g
  simp only [putCells] at hRz hrz gz
  clear hR hr g h5 x0 x1 x2 x3 x4 x5 x6 x7 x8 x9 y0 y1 y2 y3 y4 y5 y6 y7 y8 y9 k0 k1 k2 k3 k4 k5 k6 k7 k8 k9
  generalize World.setCell _ _ _ = wq at *
  refine ret_tok (b := w.heap.size) rfl rfl hRz rfl rfl ?_
  refine ⟨⟨5, noSet, lo1, hi1, false⟩, j1, e1, ?_, hrz, gz, by rw [HX.out]; exact ⟨rfl, rfl, he⟩⟩
  exact ret_congr (congrArg (fun l => Value.agg (List.toArray l)) (tokL_none 5 lo1 hi1 false 0 0).symm)
set_option maxRecDepth 100000 in
set_option maxHeartbeats 2000000 in
theorem cnt_bra_ok {w : World} {b : Nat} {s : ByteArray} {i : Nat} {lv : Value} (h : Rdr w b s i 0 lv) (lo : Nat) (o : Option Nat) (j : Nat) (h1 : bracesM (bytesN s) i = .ok (lo, o) j) :
    Calls Tryd.prog 30 #[.pointer (some ⟨b, 0, none⟩), .int .u8 123] w fun v w' => ∃ x j e, v = .returned (tokV x 0 0) ∧ Rdr w' b s j e lv ∧ w.grownBy w' (some b) ∧ TokIs (countM (bytesN s) 123 i) x j e := by
  have HX := Lib.hid (show countM (bytesN s) 123 i = lazyM (bytesN s) lo (hiZ o) j by unfold countM; rw [if_neg (by omega), if_neg (by omega), if_neg (by omega), h1])
  have H1 := Lib.hid h1
  clear h1
  have hblt := h.blk.lt
  have hsz := h.size
  go_enter Tryd.func30, Tryd.ntmps30
  go_upto_region 8 with fail
  have hR := Blk.new w [.int .i64 0, .int .i64 0, .int .i64 0, .int .u64 0, .int .u64 0, .int .u64 0, .int .u64 0, .int .i64 0, .int .i64 0, .bool false] 35
  have hr := h.below ((Below.refl _ w).alloc (Nat.le_refl _) (.cells #[.int .i64 0, .int .i64 0, .int .i64 0, .int .u64 0, .int .u64 0, .int .u64 0, .int .u64 0, .int .i64 0, .int .i64 0, .bool false] 35))
  have g := only_alloc (only_refl w b) (.cells #[.int .i64 0, .int .i64 0, .int .i64 0, .int .u64 0, .int .u64 0, .int .u64 0, .int .u64 0, .int .i64 0, .int .i64 0, .bool false] 35)
  have hs1 : (w.alloc (.cells #[.int .i64 0, .int .i64 0, .int .i64 0, .int .u64 0, .int .u64 0, .int .u64 0, .int .u64 0, .int .i64 0, .int .i64 0, .bool false] 35)).heap.size = w.heap.size + 1 := by simp
  generalize w.alloc _ = wa at *
  have h5 := Blk.new wa [.int .i64 5, .int .i64 0, .int .i64 0, .int .u64 0, .int .u64 0, .int .u64 0, .int .u64 0, .int .i64 0, .int .i64 (-1), .bool false] 35
  replace hR := hR.alloc (.cells #[.int .i64 5, .int .i64 0, .int .i64 0, .int .u64 0, .int .u64 0, .int .u64 0, .int .u64 0, .int .i64 0, .int .i64 (-1), .bool false] 35)
  replace hr := hr.below ((Below.refl _ wa).alloc (Nat.le_refl _) (.cells #[.int .i64 5, .int .i64 0, .int .i64 0, .int .u64 0, .int .u64 0, .int .u64 0, .int .u64 0, .int .i64 0, .int .i64 (-1), .bool false] 35))
  replace g := only_alloc g (.cells #[.int .i64 5, .int .i64 0, .int .i64 0, .int .u64 0, .int .u64 0, .int .u64 0, .int .u64 0, .int .i64 0, .int .i64 (-1), .bool false] 35)
  rw [hs1] at h5
  generalize hb5 : w.heap.size + 1 = b5 at *
  generalize wa.alloc _ = wb at *
  clear hs1
  go_wp2_with fail
  refine (braces_at hr).mono ?_
  rintro v w0 ⟨lo1, hi1, j1, e1, rfl, hr, hg, hbr⟩
  replace hR := Blk.turn hR hg (by omega)
  replace h5 := Blk.turn h5 hg (by omega)
  replace g := only_trans g hg
  clear hg
  rw [H1.out] at hbr
  obtain ⟨rfl, rfl, rfl, rfl⟩ := hbr
  have x7 := h5.cell 7
  have x8 := h5.cell 8
  have p7 := h5.frozen 7
  have p8 := h5.frozen 8
  simp only [List.getElem?_cons_succ, List.getElem?_cons_zero] at x7 x8
  go_upto_region 9 with fail
  have h5z := (h5.set 7 (.int .i64 ((lo1 : Nat) : Int))).set 8 (.int .i64 (hiZ o))
  simp only [List.set_cons_succ, List.set_cons_zero] at h5z
  have hRz := (hR.far (p := ⟨b5, 7, none⟩) (by show w.heap.size ≠ b5; omega) (.int .i64 ((lo1 : Nat) : Int))).far (p := ⟨b5, 8, none⟩) (by show w.heap.size ≠ b5; omega) (.int .i64 (hiZ o))
  have hrz := hr.farPuts (g := b5) (by omega) (by have := tab_lt h.tab; omega) [.int .i64 ((lo1 : Nat) : Int), .int .i64 (hiZ o)] 7
  have gz := only_puts (g := b5) (by omega) [.int .i64 ((lo1 : Nat) : Int), .int .i64 (hiZ o)] 7 _ g
  simp only [putCells] at hrz gz
  clear h5 hR hr g x7 x8 p7 p8
  have h5 := h5z
  have hR := hRz
  have hr := hrz
  have g := gz
  clear h5z hRz hrz gz
  generalize (w0.setCell _ _).setCell _ _ = wy at *
  generalize hzz : hiZ o = hz at *
  go_wp2_with fail
  refine (bad_at hr).mono ?_
  rintro v w0 ⟨rfl, hb⟩
  replace hR := hR.below hb hR.lt
  replace h5 := h5.below hb h5.lt
  replace hr := hr.below hb
  replace g := only_below g hb
  clear hb
  rw [show decide ((0 : Nat) ≠ 0) = false from rfl]
  go_wp2_with fail
  refine (is_at 63 hr).mono ?_
  rintro v w0 ⟨rfl, hr, hg⟩
  replace hR := Blk.turn hR hg (by omega)
  replace h5 := Blk.turn h5 hg (by omega)
  replace g := only_trans g hg
  clear hg
  have HL := Lib.hid (lazyM_eq (bytesN s) lo1 hz j1)
  generalize isI (bytesN s) j1 63 = j at *
  generalize isB (bytesN s) j1 63 = z at *
  have hjle := hr.le
  have x9 := h5.cell 9
  have p9 := h5.frozen 9
  simp only [List.getElem?_cons_succ, List.getElem?_cons_zero] at x9
  go_upto_region 12 with fail
  have h5z := h5.set 9 (.bool z)
  simp only [List.set_cons_succ, List.set_cons_zero] at h5z
  have hRz := hR.far (p := ⟨b5, 9, none⟩) (by show w.heap.size ≠ b5; omega) (.bool z)
  have hrz := hr.farPuts (g := b5) (by omega) (by have := tab_lt h.tab; omega) [.bool z] 9
  have gz := only_puts (g := b5) (by omega) [.bool z] 9 _ g
  simp only [putCells] at hrz gz
  clear h5 hR hr g x9 p9
  have h5 := h5z
  have hR := hRz
  have hr := hrz
  have g := gz
  clear h5z hRz hrz gz
  generalize w0.setCell _ _ = wz at *
  have hpk : (peekV (bytesN s) j = .tuple #[.int .u8 43, .bool true] ∧ (bytesN s)[j]? = some 43) ∨ (bytesN s)[j]? ≠ some 43 ∧ ((∃ c : Nat, peekV (bytesN s) j = .tuple #[.int .u8 ((c : Nat) : Int), .bool true] ∧ ((c : Nat) : Int) ≠ 43) ∨ peekV (bytesN s) j = .tuple #[.int .u8 0, .bool false]) := by
    unfold peekV
    cases hc : (bytesN s)[j]? with
    | none => exact .inr ⟨by simp, .inr rfl⟩
    | some c =>
      by_cases h43 : c = 43
      · subst h43
        exact .inl ⟨rfl, rfl⟩
      · exact .inr ⟨by simpa using h43, .inl ⟨c, rfl, by omega⟩⟩
  have HPk := Lib.hid hpk
  clear hpk
  go_wp2_with fail
  refine (peek_at hr).mono ?_
  rintro v w0 ⟨rfl, hb⟩
  replace hR := hR.below hb hR.lt
  replace h5 := h5.below hb h5.lt
  replace hr := hr.below hb
  replace g := only_below g hb
  clear hb
  rcases HPk.out with ⟨hp, h43⟩ | ⟨h43, ⟨c, hp, hne⟩ | hp⟩
  · skip
    rw [hp]
    have H43 := Lib.hid h43
    clear hp h43
    obtain ⟨_, c1, _, _, f1, _, _⟩ := hr.cells
    go_wp2_with fail
    go_still_tail 8, (by kernel_rfl)
    change wpList _ _ _ _ _ w0.drew
    go_wp2_with fail
    refine (fail_at (k := 6) (hr.below (Below.refl _ _).drew) hjle).mono ?_
    rintro v w1 ⟨⟨u, rfl⟩, hr, hg1⟩
    have hg := only_trans (only_of b (Below.refl w0.heap.size _).drew) hg1
    clear hg1 c1 f1
    replace hR := Blk.turn hR hg (by omega)
    replace h5 := Blk.turn h5 hg (by omega)
    replace g := only_trans g hg
    clear hg
    obtain ⟨⟨x0, x1, x2, x3, x4, x5, x6, x7, x8, x9⟩, _⟩ := h5.ten
    obtain ⟨⟨y0, y1, y2, y3, y4, y5, y6, y7, y8, y9⟩, k0, k1, k2, k3, k4, k5, k6, k7, k8, k9⟩ := hR.ten
    go_wp2
    have hRz := Blk.puts0 hR [.int .i64 5, .int .i64 0, .int .i64 0, .int .u64 0, .int .u64 0, .int .u64 0, .int .u64 0, .int .i64 ((lo1 : Nat) : Int), .int .i64 hz, .bool z] rfl
    have hrz := hr.farPuts (g := w.heap.size) (by omega) (by have := tab_lt h.tab; omega) [.int .i64 5, .int .i64 0, .int .i64 0, .int .u64 0, .int .u64 0, .int .u64 0, .int .u64 0, .int .i64 ((lo1 : Nat) : Int), .int .i64 hz, .bool z] 0
    have gz := only_puts (g := w.heap.size) (Nat.le_refl _) [.int .i64 5, .int .i64 0, .int .i64 0, .int .u64 0, .int .u64 0, .int .u64 0, .int .u64 0, .int .i64 ((lo1 : Nat) : Int), .int .i64 hz, .bool z] 0 _ g
    simp only [putCells] at hRz hrz gz
    clear hR hr g h5 x0 x1 x2 x3 x4 x5 x6 x7 x8 x9 y0 y1 y2 y3 y4 y5 y6 y7 y8 y9 k0 k1 k2 k3 k4 k5 k6 k7 k8 k9
    generalize World.setCell _ _ _ = wq at *
    refine ret_tok (b := w.heap.size) rfl rfl hRz rfl rfl ?_
    refine ⟨⟨5, noSet, lo1, hz, z⟩, j, 6, ?_, hrz, gz, by rw [HX.out, HL.out, if_pos H43.out]; exact ⟨rfl, rfl, by omega⟩⟩
    exact ret_congr (congrArg (fun l => Value.agg (List.toArray l)) (tokL_none 5 lo1 hz z 0 0).symm)
  · skip
    rw [hp]
    have H43 := Lib.hid h43
    clear hp h43
    obtain ⟨⟨x0, x1, x2, x3, x4, x5, x6, x7, x8, x9⟩, _⟩ := h5.ten
    obtain ⟨⟨y0, y1, y2, y3, y4, y5, y6, y7, y8, y9⟩, k0, k1, k2, k3, k4, k5, k6, k7, k8, k9⟩ := hR.ten
    go_wp2
    have hRz := Blk.puts0 hR [.int .i64 5, .int .i64 0, .int .i64 0, .int .u64 0, .int .u64 0, .int .u64 0, .int .u64 0, .int .i64 ((lo1 : Nat) : Int), .int .i64 hz, .bool z] rfl
    have hrz := hr.farPuts (g := w.heap.size) (by omega) (by have := tab_lt h.tab; omega) [.int .i64 5, .int .i64 0, .int .i64 0, .int .u64 0, .int .u64 0, .int .u64 0, .int .u64 0, .int .i64 ((lo1 : Nat) : Int), .int .i64 hz, .bool z] 0
    have gz := only_puts (g := w.heap.size) (Nat.le_refl _) [.int .i64 5, .int .i64 0, .int .i64 0, .int .u64 0, .int .u64 0, .int .u64 0, .int .u64 0, .int .i64 ((lo1 : Nat) : Int), .int .i64 hz, .bool z] 0 _ g
    simp only [putCells] at hRz hrz gz
    clear hR hr g h5 x0 x1 x2 x3 x4 x5 x6 x7 x8 x9 y0 y1 y2 y3 y4 y5 y6 y7 y8 y9 k0 k1 k2 k3 k4 k5 k6 k7 k8 k9
    generalize World.setCell _ _ _ = wq at *
    refine ret_tok (b := w.heap.size) rfl rfl hRz rfl rfl ?_
    refine ⟨⟨5, noSet, lo1, hz, z⟩, j, 0, ?_, hrz, gz, by rw [HX.out, HL.out, if_neg H43.out]; exact ⟨rfl, rfl, rfl⟩⟩
    exact ret_congr (congrArg (fun l => Value.agg (List.toArray l)) (tokL_none 5 lo1 hz z 0 0).symm)
  · skip
    rw [hp]
    have H43 := Lib.hid h43
    clear hp h43
    obtain ⟨⟨x0, x1, x2, x3, x4, x5, x6, x7, x8, x9⟩, _⟩ := h5.ten
    obtain ⟨⟨y0, y1, y2, y3, y4, y5, y6, y7, y8, y9⟩, k0, k1, k2, k3, k4, k5, k6, k7, k8, k9⟩ := hR.ten
    go_wp2
    have hRz := Blk.puts0 hR [.int .i64 5, .int .i64 0, .int .i64 0, .int .u64 0, .int .u64 0, .int .u64 0, .int .u64 0, .int .i64 ((lo1 : Nat) : Int), .int .i64 hz, .bool z] rfl
    have hrz := hr.farPuts (g := w.heap.size) (by omega) (by have := tab_lt h.tab; omega) [.int .i64 5, .int .i64 0, .int .i64 0, .int .u64 0, .int .u64 0, .int .u64 0, .int .u64 0, .int .i64 ((lo1 : Nat) : Int), .int .i64 hz, .bool z] 0
    have gz := only_puts (g := w.heap.size) (Nat.le_refl _) [.int .i64 5, .int .i64 0, .int .i64 0, .int .u64 0, .int .u64 0, .int .u64 0, .int .u64 0, .int .i64 ((lo1 : Nat) : Int), .int .i64 hz, .bool z] 0 _ g
    simp only [putCells] at hRz hrz gz
    clear hR hr g h5 x0 x1 x2 x3 x4 x5 x6 x7 x8 x9 y0 y1 y2 y3 y4 y5 y6 y7 y8 y9 k0 k1 k2 k3 k4 k5 k6 k7 k8 k9
    generalize World.setCell _ _ _ = wq at *
    refine ret_tok (b := w.heap.size) rfl rfl hRz rfl rfl ?_
    refine ⟨⟨5, noSet, lo1, hz, z⟩, j, 0, ?_, hrz, gz, by rw [HX.out, HL.out, if_neg H43.out]; exact ⟨rfl, rfl, rfl⟩⟩
    exact ret_congr (congrArg (fun l => Value.agg (List.toArray l)) (tokL_none 5 lo1 hz z 0 0).symm)
theorem count_at {w : World} {b : Nat} {s : ByteArray} {i : Nat} {lv : Value} (c : Nat) (hc : c = 42 ∨ c = 43 ∨ c = 63 ∨ c = 123) (h : Rdr w b s i 0 lv) :
    Calls Tryd.prog 30 #[.pointer (some ⟨b, 0, none⟩), .int .u8 ((c : Nat) : Int)] w fun v w' => ∃ x j e, v = .returned (tokV x 0 0) ∧ Rdr w' b s j e lv ∧ w.grownBy w' (some b) ∧ TokIs (countM (bytesN s) c i) x j e := by
  rcases hc with rfl | rfl | rfl | rfl
  · exact cnt_star h
  · exact cnt_plus h
  · exact cnt_ask h
  · cases h1 : bracesM (bytesN s) i with
    | err j e => exact cnt_bra_err h j e h1
    | ok v j => exact cnt_bra_ok h v.1 v.2 j h1
end Go.Proofs.YtofhkgafgnldnaaDoor
