/- count: a count, whose first byte was read. -/
import Derived.Test.YtpiimcbbgalhfaaGreatDoorBe
namespace Go.Proofs.YtpiimcbbgalhfaaGreatDoor
set_option maxRecDepth 100000
open Go.RowKit
theorem lazyM_eq (t : List Nat) (lo : Nat) (hi : Int) (i : Nat) : lazyM t lo hi i = if t[isI t i 63]? = some 43 then .err (isI t i 63) 6 else .ok ⟨5, noSet, lo, hi, isB t i 63⟩ (isI t i 63) := rfl
theorem tokL_none (k lo : Nat) (hi : Int) (z : Bool) (f t : Nat) : tokL ⟨k, noSet, lo, hi, z⟩ f t = [.int .i64 ((k : Nat) : Int), .int .i64 ((f : Nat) : Int), .int .i64 ((t : Nat) : Int), .int .u64 0, .int .u64 0, .int .u64 0, .int .u64 0, .int .i64 ((lo : Nat) : Int), .int .i64 hi, .bool z] := by
  unfold noSet
  simp only [tokL, word_none]
set_option maxRecDepth 100000 in
set_option maxHeartbeats 2000000 in
theorem cnt_star {w : World} {b : Nat} {s : ByteArray} {i : Nat} {lv : Value} (h : Rdr w b s i 0 lv)  :
    Calls Tryz.prog 174 #[.pointer (some ⟨b, 0, none⟩), .int .u8 42] w fun v w' => ∃ x j e, v = .returned (tokV x 0 0) ∧ Rdr w' b s j e lv ∧ w.grownBy w' (some b) ∧ TokIs (countM (bytesN s) 42 i) x j e := by
  have HX := Lib.hid (show countM (bytesN s) 42 i = lazyM (bytesN s) 0 (-1) i by unfold countM; rw [if_pos rfl])
  have hblt := h.blk.lt
  have hsz := h.size
  go_enter Tryz.func174, Tryz.ntmps174
  go_upto_region 9 with fail
  have hR := Blk.new w [.int .i64 0, .int .i64 0, .int .i64 0, .int .u64 0, .int .u64 0, .int .u64 0, .int .u64 0, .int .i64 0, .int .i64 0, .bool false] 111
  have hr := h.below ((Below.refl _ w).alloc (Nat.le_refl _) (.cells #[.int .i64 0, .int .i64 0, .int .i64 0, .int .u64 0, .int .u64 0, .int .u64 0, .int .u64 0, .int .i64 0, .int .i64 0, .bool false] 111))
  have g := only_alloc (only_refl w b) (.cells #[.int .i64 0, .int .i64 0, .int .i64 0, .int .u64 0, .int .u64 0, .int .u64 0, .int .u64 0, .int .i64 0, .int .i64 0, .bool false] 111)
  have hs1 : (w.alloc (.cells #[.int .i64 0, .int .i64 0, .int .i64 0, .int .u64 0, .int .u64 0, .int .u64 0, .int .u64 0, .int .i64 0, .int .i64 0, .bool false] 111)).heap.size = w.heap.size + 1 := by simp
  generalize w.alloc _ = wa at *
  have h5 := Blk.new wa [.int .i64 5, .int .i64 0, .int .i64 0, .int .u64 0, .int .u64 0, .int .u64 0, .int .u64 0, .int .i64 0, .int .i64 (-1), .bool false] 111
  replace hR := hR.alloc (.cells #[.int .i64 5, .int .i64 0, .int .i64 0, .int .u64 0, .int .u64 0, .int .u64 0, .int .u64 0, .int .i64 0, .int .i64 (-1), .bool false] 111)
  replace hr := hr.below ((Below.refl _ wa).alloc (Nat.le_refl _) (.cells #[.int .i64 5, .int .i64 0, .int .i64 0, .int .u64 0, .int .u64 0, .int .u64 0, .int .u64 0, .int .i64 0, .int .i64 (-1), .bool false] 111))
  replace g := only_alloc g (.cells #[.int .i64 5, .int .i64 0, .int .i64 0, .int .u64 0, .int .u64 0, .int .u64 0, .int .u64 0, .int .i64 0, .int .i64 (-1), .bool false] 111)
  rw [hs1] at h5
  generalize hb5 : w.heap.size + 1 = b5 at *
  generalize wa.alloc _ = wb at *
  clear hs1
  go_wp2_with fail
  refine (bad_at hr).mono ?_
  rintro v w0 ⟨rfl, hb⟩
  replace hR := hR.below hb hR.lt
  replace h5 := h5.below hb h5.lt
  replace hr := hr.below hb
  replace g := only_below g hb
  clear hb
  rw [show decide ((0 : Nat) ≠ 0) = false from rfl]
  go_wp2_with fail
  refine (is_at 63 hr).mono ?_
  rintro v w0 ⟨rfl, hr, hg⟩
  replace hR := Blk.turn hR hg (by omega)
  replace h5 := Blk.turn h5 hg (by omega)
  replace g := only_trans g hg
  clear hg
  have HL := Lib.hid (lazyM_eq (bytesN s) 0 (-1) i)
  generalize isI (bytesN s) i 63 = j at *
  generalize isB (bytesN s) i 63 = z at *
  have hjle := hr.le
  have x9 := h5.cell 9
  have p9 := h5.frozen 9
  simp only [List.getElem?_cons_succ, List.getElem?_cons_zero] at x9
  go_upto_region 12 with fail
  have h5z := h5.set 9 (.bool z)
  simp only [List.set_cons_succ, List.set_cons_zero] at h5z
  have hRz := hR.far (p := ⟨b5, 9, none⟩) (by show w.heap.size ≠ b5; omega) (.bool z)
  have hrz := hr.farPuts (g := b5) (by omega) (by have := tab_lt h.tab; omega) [.bool z] 9
  have gz := only_puts (g := b5) (by omega) [.bool z] 9 _ g
  simp only [putCells] at hrz gz
  clear h5 hR hr g x9 p9
  have h5 := h5z
  have hR := hRz
  have hr := hrz
  have g := gz
  clear h5z hRz hrz gz
  generalize w0.setCell _ _ = wz at *
  have hpk : (peekV (bytesN s) j = .tuple #[.int .u8 43, .bool true] ∧ (bytesN s)[j]? = some 43) ∨ (bytesN s)[j]? ≠ some 43 ∧ ((∃ c : Nat, peekV (bytesN s) j = .tuple #[.int .u8 ((c : Nat) : Int), .bool true] ∧ ((c : Nat) : Int) ≠ 43) ∨ peekV (bytesN s) j = .tuple #[.int .u8 0, .bool false]) := by
    unfold peekV
    cases hc : (bytesN s)[j]? with
    | none => exact .inr ⟨by simp, .inr rfl⟩
    | some c =>
      by_cases h43 : c = 43
      · subst h43
        exact .inl ⟨rfl, rfl⟩
      · exact .inr ⟨by simpa using h43, .inl ⟨c, rfl, by omega⟩⟩
  have HPk := Lib.hid hpk
  clear hpk
  go_wp2_with fail
  refine (peek_at hr).mono ?_
  rintro v w0 ⟨rfl, hb⟩
  replace hR := hR.below hb hR.lt
  replace h5 := h5.below hb h5.lt
  replace hr := hr.below hb
  replace g := only_below g hb
  clear hb
  rcases HPk.out with ⟨hp, h43⟩ | ⟨h43, ⟨c, hp, hne⟩ | hp⟩
  · skip
    rw [hp]
    have H43 := Lib.hid h43
    clear hp h43
    obtain ⟨_, c1, _, _, f1, _, _⟩ := hr.cells
    go_wp2_with fail
    go_still_tail 8, (by kernel_rfl)
    change wpList _ _ _ _ _ w0.drew
    go_wp2_with fail
    refine (fail_at (k := 6) (hr.below (Below.refl _ _).drew) hjle).mono ?_
    rintro v w1 ⟨⟨u, rfl⟩, hr, hg1⟩
    have hg := only_trans (only_of b (Below.refl w0.heap.size _).drew) hg1
    clear hg1 c1 f1
    replace hR := Blk.turn hR hg (by omega)
    replace h5 := Blk.turn h5 hg (by omega)
    replace g := only_trans g hg
    clear hg
    obtain ⟨⟨x0, x1, x2, x3, x4, x5, x6, x7, x8, x9⟩, _⟩ := h5.ten
    obtain ⟨⟨y0, y1, y2, y3, y4, y5, y6, y7, y8, y9⟩, k0, k1, k2, k3, k4, k5, k6, k7, k8, k9⟩ := hR.ten
    go_wp2
    have hRz := Blk.puts0 hR [.int .i64 5, .int .i64 0, .int .i64 0, .int .u64 0, .int .u64 0, .int .u64 0, .int .u64 0, .int .i64 0, .int .i64 (-1), .bool z] rfl
    have hrz := hr.farPuts (g := w.heap.size) (by omega) (by have := tab_lt h.tab; omega) [.int .i64 5, .int .i64 0, .int .i64 0, .int .u64 0, .int .u64 0, .int .u64 0, .int .u64 0, .int .i64 0, .int .i64 (-1), .bool z] 0
    have gz := only_puts (g := w.heap.size) (Nat.le_refl _) [.int .i64 5, .int .i64 0, .int .i64 0, .int .u64 0, .int .u64 0, .int .u64 0, .int .u64 0, .int .i64 0, .int .i64 (-1), .bool z] 0 _ g
    simp only [putCells] at hRz hrz gz
    clear hR hr g h5 x0 x1 x2 x3 x4 x5 x6 x7 x8 x9 y0 y1 y2 y3 y4 y5 y6 y7 y8 y9 k0 k1 k2 k3 k4 k5 k6 k7 k8 k9
    generalize World.setCell _ _ _ = wq at *
    refine ret_tok (b := w.heap.size) rfl rfl hRz rfl rfl ?_
    refine ⟨⟨5, noSet, 0, (-1), z⟩, j, 6, ?_, hrz, gz, by rw [HX.out, HL.out, if_pos H43.out]; exact ⟨rfl, rfl, by omega⟩⟩
    exact ret_congr (congrArg (fun l => Value.agg (List.toArray l)) (tokL_none 5 0 (-1) z 0 0).symm)
  · skip
    rw [hp]
    have H43 := Lib.hid h43
    clear hp h43
    obtain ⟨⟨x0, x1, x2, x3, x4, x5, x6, x7, x8, x9⟩, _⟩ := h5.ten
    obtain ⟨⟨y0, y1, y2, y3, y4, y5, y6, y7, y8, y9⟩, k0, k1, k2, k3, k4, k5, k6, k7, k8, k9⟩ := hR.ten
    go_wp2
    have hRz := Blk.puts0 hR [.int .i64 5, .int .i64 0, .int .i64 0, .int .u64 0, .int .u64 0, .int .u64 0, .int .u64 0, .int .i64 0, .int .i64 (-1), .bool z] rfl
    have hrz := hr.farPuts (g := w.heap.size) (by omega) (by have := tab_lt h.tab; omega) [.int .i64 5, .int .i64 0, .int .i64 0, .int .u64 0, .int .u64 0, .int .u64 0, .int .u64 0, .int .i64 0, .int .i64 (-1), .bool z] 0
    have gz := only_puts (g := w.heap.size) (Nat.le_refl _) [.int .i64 5, .int .i64 0, .int .i64 0, .int .u64 0, .int .u64 0, .int .u64 0, .int .u64 0, .int .i64 0, .int .i64 (-1), .bool z] 0 _ g
    simp only [putCells] at hRz hrz gz
    clear hR hr g h5 x0 x1 x2 x3 x4 x5 x6 x7 x8 x9 y0 y1 y2 y3 y4 y5 y6 y7 y8 y9 k0 k1 k2 k3 k4 k5 k6 k7 k8 k9
    generalize World.setCell _ _ _ = wq at *
    refine ret_tok (b := w.heap.size) rfl rfl hRz rfl rfl ?_
    refine ⟨⟨5, noSet, 0, (-1), z⟩, j, 0, ?_, hrz, gz, by rw [HX.out, HL.out, if_neg H43.out]; exact ⟨rfl, rfl, rfl⟩⟩
    exact ret_congr (congrArg (fun l => Value.agg (List.toArray l)) (tokL_none 5 0 (-1) z 0 0).symm)
  · skip
    rw [hp]
    have H43 := Lib.hid h43
    clear hp h43
    obtain ⟨⟨x0, x1, x2, x3, x4, x5, x6, x7, x8, x9⟩, _⟩ := h5.ten
    obtain ⟨⟨y0, y1, y2, y3, y4, y5, y6, y7, y8, y9⟩, k0, k1, k2, k3, k4, k5, k6, k7, k8, k9⟩ := hR.ten
    go_wp2
    have hRz := Blk.puts0 hR [.int .i64 5, .int .i64 0, .int .i64 0, .int .u64 0, .int .u64 0, .int .u64 0, .int .u64 0, .int .i64 0, .int .i64 (-1), .bool z] rfl
    have hrz := hr.farPuts (g := w.heap.size) (by omega) (by have := tab_lt h.tab; omega) [.int .i64 5, .int .i64 0, .int .i64 0, .int .u64 0, .int .u64 0, .int .u64 0, .int .u64 0, .int .i64 0, .int .i64 (-1), .bool z] 0
    have gz := only_puts (g := w.heap.size) (Nat.le_refl _) [.int .i64 5, .int .i64 0, .int .i64 0, .int .u64 0, .int .u64 0, .int .u64 0, .int .u64 0, .int .i64 0, .int .i64 (-1), .bool z] 0 _ g
    simp only [putCells] at hRz hrz gz
    clear hR hr g h5 x0 x1 x2 x3 x4 x5 x6 x7 x8 x9 y0 y1 y2 y3 y4 y5 y6 y7 y8 y9 k0 k1 k2 k3 k4 k5 k6 k7 k8 k9
    generalize World.setCell _ _ _ = wq at *
    refine ret_tok (b := w.heap.size) rfl rfl hRz rfl rfl ?_
    refine ⟨⟨5, noSet, 0, (-1), z⟩, j, 0, ?_, hrz, gz, by rw [HX.out, HL.out, if_neg H43.out]; exact ⟨rfl, rfl, rfl⟩⟩
    exact ret_congr (congrArg (fun l => Value.agg (List.toArray l)) (tokL_none 5 0 (-1) z 0 0).symm)
set_option maxRecDepth 100000 in
set_option maxHeartbeats 2000000 in
theorem cnt_plus {w : World} {b : Nat} {s : ByteArray} {i : Nat} {lv : Value} (h : Rdr w b s i 0 lv)  :
    Calls Tryz.prog 174 #[.pointer (some ⟨b, 0, none⟩), .int .u8 43] w fun v w' => ∃ x j e, v = .returned (tokV x 0 0) ∧ Rdr w' b s j e lv ∧ w.grownBy w' (some b) ∧ TokIs (countM (bytesN s) 43 i) x j e := by
  have HX := Lib.hid (show countM (bytesN s) 43 i = lazyM (bytesN s) 1 (-1) i by unfold countM; rw [if_neg (by omega), if_pos rfl])
  have hblt := h.blk.lt
  have hsz := h.size
  go_enter Tryz.func174, Tryz.ntmps174
  go_upto_region 9 with fail
  have hR := Blk.new w [.int .i64 0, .int .i64 0, .int .i64 0, .int .u64 0, .int .u64 0, .int .u64 0, .int .u64 0, .int .i64 0, .int .i64 0, .bool false] 111
  have hr := h.below ((Below.refl _ w).alloc (Nat.le_refl _) (.cells #[.int .i64 0, .int .i64 0, .int .i64 0, .int .u64 0, .int .u64 0, .int .u64 0, .int .u64 0, .int .i64 0, .int .i64 0, .bool false] 111))
  have g := only_alloc (only_refl w b) (.cells #[.int .i64 0, .int .i64 0, .int .i64 0, .int .u64 0, .int .u64 0, .int .u64 0, .int .u64 0, .int .i64 0, .int .i64 0, .bool false] 111)
  have hs1 : (w.alloc (.cells #[.int .i64 0, .int .i64 0, .int .i64 0, .int .u64 0, .int .u64 0, .int .u64 0, .int .u64 0, .int .i64 0, .int .i64 0, .bool false] 111)).heap.size = w.heap.size + 1 := by simp
  generalize w.alloc _ = wa at *
  have h5 := Blk.new wa [.int .i64 5, .int .i64 0, .int .i64 0, .int .u64 0, .int .u64 0, .int .u64 0, .int .u64 0, .int .i64 1, .int .i64 (-1), .bool false] 111
  replace hR := hR.alloc (.cells #[.int .i64 5, .int .i64 0, .int .i64 0, .int .u64 0, .int .u64 0, .int .u64 0, .int .u64 0, .int .i64 1, .int .i64 (-1), .bool false] 111)
  replace hr := hr.below ((Below.refl _ wa).alloc (Nat.le_refl _) (.cells #[.int .i64 5, .int .i64 0, .int .i64 0, .int .u64 0, .int .u64 0, .int .u64 0, .int .u64 0, .int .i64 1, .int .i64 (-1), .bool false] 111))
  replace g := only_alloc g (.cells #[.int .i64 5, .int .i64 0, .int .i64 0, .int .u64 0, .int .u64 0, .int .u64 0, .int .u64 0, .int .i64 1, .int .i64 (-1), .bool false] 111)
  rw [hs1] at h5
  generalize hb5 : w.heap.size + 1 = b5 at *
  generalize wa.alloc _ = wb at *
  clear hs1
  go_wp2_with fail
  refine (bad_at hr).mono ?_
  rintro v w0 ⟨rfl, hb⟩
  replace hR := hR.below hb hR.lt
  replace h5 := h5.below hb h5.lt
  replace hr := hr.below hb
  replace g := only_below g hb
  clear hb
  rw [show decide ((0 : Nat) ≠ 0) = false from rfl]
  go_wp2_with fail
  refine (is_at 63 hr).mono ?_
  rintro v w0 ⟨rfl, hr, hg⟩
  replace hR := Blk.turn hR hg (by omega)
  replace h5 := Blk.turn h5 hg (by omega)
  replace g := only_trans g hg
  clear hg
  have HL := Lib.hid (lazyM_eq (bytesN s) 1 (-1) i)
  generalize isI (bytesN s) i 63 = j at *
  generalize isB (bytesN s) i 63 = z at *
  have hjle := hr.le
  have x9 := h5.cell 9
  have p9 := h5.frozen 9
  simp only [List.getElem?_cons_succ, List.getElem?_cons_zero] at x9
  go_upto_region 12 with fail
  have h5z := h5.set 9 (.bool z)
  simp only [List.set_cons_succ, List.set_cons_zero] at h5z
  have hRz := hR.far (p := ⟨b5, 9, none⟩) (by show w.heap.size ≠ b5; omega) (.bool z)
  have hrz := hr.farPuts (g := b5) (by omega) (by have := tab_lt h.tab; omega) [.bool z] 9
  have gz := only_puts (g := b5) (by omega) [.bool z] 9 _ g
  simp only [putCells] at hrz gz
  clear h5 hR hr g x9 p9
  have h5 := h5z
  have hR := hRz
  have hr := hrz
  have g := gz
  clear h5z hRz hrz gz
  generalize w0.setCell _ _ = wz at *
  have hpk : (peekV (bytesN s) j = .tuple #[.int .u8 43, .bool true] ∧ (bytesN s)[j]? = some 43) ∨ (bytesN s)[j]? ≠ some 43 ∧ ((∃ c : Nat, peekV (bytesN s) j = .tuple #[.int .u8 ((c : Nat) : Int), .bool true] ∧ ((c : Nat) : Int) ≠ 43) ∨ peekV (bytesN s) j = .tuple #[.int .u8 0, .bool false]) := by
    unfold peekV
    cases hc : (bytesN s)[j]? with
    | none => exact .inr ⟨by simp, .inr rfl⟩
    | some c =>
      by_cases h43 : c = 43
      · subst h43
        exact .inl ⟨rfl, rfl⟩
      · exact .inr ⟨by simpa using h43, .inl ⟨c, rfl, by omega⟩⟩
  have HPk := Lib.hid hpk
  clear hpk
  go_wp2_with fail
  refine (peek_at hr).mono ?_
  rintro v w0 ⟨rfl, hb⟩
  replace hR := hR.below hb hR.lt
  replace h5 := h5.below hb h5.lt
  replace hr := hr.below hb
  replace g := only_below g hb
  clear hb
  rcases HPk.out with ⟨hp, h43⟩ | ⟨h43, ⟨c, hp, hne⟩ | hp⟩
  · skip
    rw [hp]
    have H43 := Lib.hid h43
    clear hp h43
    obtain ⟨_, c1, _, _, f1, _, _⟩ := hr.cells
    go_wp2_with fail
    go_still_tail 8, (by kernel_rfl)
    change wpList _ _ _ _ _ w0.drew
    go_wp2_with fail
    refine (fail_at (k := 6) (hr.below (Below.refl _ _).drew) hjle).mono ?_
    rintro v w1 ⟨⟨u, rfl⟩, hr, hg1⟩
    have hg := only_trans (only_of b (Below.refl w0.heap.size _).drew) hg1
    clear hg1 c1 f1
    replace hR := Blk.turn hR hg (by omega)
    replace h5 := Blk.turn h5 hg (by omega)
    replace g := only_trans g hg
    clear hg
    obtain ⟨⟨x0, x1, x2, x3, x4, x5, x6, x7, x8, x9⟩, _⟩ := h5.ten
    obtain ⟨⟨y0, y1, y2, y3, y4, y5, y6, y7, y8, y9⟩, k0, k1, k2, k3, k4, k5, k6, k7, k8, k9⟩ := hR.ten
    go_wp2
    have hRz := Blk.puts0 hR [.int .i64 5, .int .i64 0, .int .i64 0, .int .u64 0, .int .u64 0, .int .u64 0, .int .u64 0, .int .i64 1, .int .i64 (-1), .bool z] rfl
    have hrz := hr.farPuts (g := w.heap.size) (by omega) (by have := tab_lt h.tab; omega) [.int .i64 5, .int .i64 0, .int .i64 0, .int .u64 0, .int .u64 0, .int .u64 0, .int .u64 0, .int .i64 1, .int .i64 (-1), .bool z] 0
    have gz := only_puts (g := w.heap.size) (Nat.le_refl _) [.int .i64 5, .int .i64 0, .int .i64 0, .int .u64 0, .int .u64 0, .int .u64 0, .int .u64 0, .int .i64 1, .int .i64 (-1), .bool z] 0 _ g
    simp only [putCells] at hRz hrz gz
    clear hR hr g h5 x0 x1 x2 x3 x4 x5 x6 x7 x8 x9 y0 y1 y2 y3 y4 y5 y6 y7 y8 y9 k0 k1 k2 k3 k4 k5 k6 k7 k8 k9
    generalize World.setCell _ _ _ = wq at *
    refine ret_tok (b := w.heap.size) rfl rfl hRz rfl rfl ?_
    refine ⟨⟨5, noSet, 1, (-1), z⟩, j, 6, ?_, hrz, gz, by rw [HX.out, HL.out, if_pos H43.out]; exact ⟨rfl, rfl, by omega⟩⟩
    exact ret_congr (congrArg (fun l => Value.agg (List.toArray l)) (tokL_none 5 1 (-1) z 0 0).symm)
  · skip
    rw [hp]
    have H43 := Lib.hid h43
    clear hp h43
    obtain ⟨⟨x0, x1, x2, x3, x4, x5, x6, x7, x8, x9⟩, _⟩ := h5.ten
    obtain ⟨⟨y0, y1, y2, y3, y4, y5, y6, y7, y8, y9⟩, k0, k1, k2, k3, k4, k5, k6, k7, k8, k9⟩ := hR.ten
    go_wp2
    have hRz := Blk.puts0 hR [.int .i64 5, .int .i64 0, .int .i64 0, .int .u64 0, .int .u64 0, .int .u64 0, .int .u64 0, .int .i64 1, .int .i64 (-1), .bool z] rfl
    have hrz := hr.farPuts (g := w.heap.size) (by omega) (by have := tab_lt h.tab; omega) [.int .i64 5, .int .i64 0, .int .i64 0, .int .u64 0, .int .u64 0, .int .u64 0, .int .u64 0, .int .i64 1, .int .i64 (-1), .bool z] 0
    have gz := only_puts (g := w.heap.size) (Nat.le_refl _) [.int .i64 5, .int .i64 0, .int .i64 0, .int .u64 0, .int .u64 0, .int .u64 0, .int .u64 0, .int .i64 1, .int .i64 (-1), .bool z] 0 _ g
    simp only [putCells] at hRz hrz gz
    clear hR hr g h5 x0 x1 x2 x3 x4 x5 x6 x7 x8 x9 y0 y1 y2 y3 y4 y5 y6 y7 y8 y9 k0 k1 k2 k3 k4 k5 k6 k7 k8 k9
    generalize World.setCell _ _ _ = wq at *
    refine ret_tok (b := w.heap.size) rfl rfl hRz rfl rfl ?_
    refine ⟨⟨5, noSet, 1, (-1), z⟩, j, 0, ?_, hrz, gz, by rw [HX.out, HL.out, if_neg H43.out]; exact ⟨rfl, rfl, rfl⟩⟩
    exact ret_congr (congrArg (fun l => Value.agg (List.toArray l)) (tokL_none 5 1 (-1) z 0 0).symm)
  · skip
    rw [hp]
    have H43 := Lib.hid h43
    clear hp h43
    obtain ⟨⟨x0, x1, x2, x3, x4, x5, x6, x7, x8, x9⟩, _⟩ := h5.ten
    obtain ⟨⟨y0, y1, y2, y3, y4, y5, y6, y7, y8, y9⟩, k0, k1, k2, k3, k4, k5, k6, k7, k8, k9⟩ := hR.ten
    go_wp2
    have hRz := Blk.puts0 hR [.int .i64 5, .int .i64 0, .int .i64 0, .int .u64 0, .int .u64 0, .int .u64 0, .int .u64 0, .int .i64 1, .int .i64 (-1), .bool z] rfl
    have hrz := hr.farPuts (g := w.heap.size) (by omega) (by have := tab_lt h.tab; omega) [.int .i64 5, .int .i64 0, .int .i64 0, .int .u64 0, .int .u64 0, .int .u64 0, .int .u64 0, .int .i64 1, .int .i64 (-1), .bool z] 0
    have gz := only_puts (g := w.heap.size) (Nat.le_refl _) [.int .i64 5, .int .i64 0, .int .i64 0, .int .u64 0, .int .u64 0, .int .u64 0, .int .u64 0, .int .i64 1, .int .i64 (-1), .bool z] 0 _ g
    simp only [putCells] at hRz hrz gz
    clear hR hr g h5 x0 x1 x2 x3 x4 x5 x6 x7 x8 x9 y0 y1 y2 y3 y4 y5 y6 y7 y8 y9 k0 k1 k2 k3 k4 k5 k6 k7 k8 k9
    generalize World.setCell _ _ _ = wq at *
    refine ret_tok (b := w.heap.size) rfl rfl hRz rfl rfl ?_
    refine ⟨⟨5, noSet, 1, (-1), z⟩, j, 0, ?_, hrz, gz, by rw [HX.out, HL.out, if_neg H43.out]; exact ⟨rfl, rfl, rfl⟩⟩
    exact ret_congr (congrArg (fun l => Value.agg (List.toArray l)) (tokL_none 5 1 (-1) z 0 0).symm)
set_option maxRecDepth 100000 in
set_option maxHeartbeats 2000000 in
theorem cnt_ask {w : World} {b : Nat} {s : ByteArray} {i : Nat} {lv : Value} (h : Rdr w b s i 0 lv)  :
    Calls Tryz.prog 174 #[.pointer (some ⟨b, 0, none⟩), .int .u8 63] w fun v w' => ∃ x j e, v = .returned (tokV x 0 0) ∧ Rdr w' b s j e lv ∧ w.grownBy w' (some b) ∧ TokIs (countM (bytesN s) 63 i) x j e := by
  have HX := Lib.hid (show countM (bytesN s) 63 i = lazyM (bytesN s) 0 1 i by unfold countM; rw [if_neg (by omega), if_neg (by omega), if_pos rfl])
  have hblt := h.blk.lt
  have hsz := h.size
  go_enter Tryz.func174, Tryz.ntmps174
  go_upto_region 9 with fail
  have hR := Blk.new w [.int .i64 0, .int .i64 0, .int .i64 0, .int .u64 0, .int .u64 0, .int .u64 0, .int .u64 0, .int .i64 0, .int .i64 0, .bool false] 111
  have hr := h.below ((Below.refl _ w).alloc (Nat.le_refl _) (.cells #[.int .i64 0, .int .i64 0, .int .i64 0, .int .u64 0, .int .u64 0, .int .u64 0, .int .u64 0, .int .i64 0, .int .i64 0, .bool false] 111))
  have g := only_alloc (only_refl w b) (.cells #[.int .i64 0, .int .i64 0, .int .i64 0, .int .u64 0, .int .u64 0, .int .u64 0, .int .u64 0, .int .i64 0, .int .i64 0, .bool false] 111)
  have hs1 : (w.alloc (.cells #[.int .i64 0, .int .i64 0, .int .i64 0, .int .u64 0, .int .u64 0, .int .u64 0, .int .u64 0, .int .i64 0, .int .i64 0, .bool false] 111)).heap.size = w.heap.size + 1 := by simp
  generalize w.alloc _ = wa at *
  have h5 := Blk.new wa [.int .i64 5, .int .i64 0, .int .i64 0, .int .u64 0, .int .u64 0, .int .u64 0, .int .u64 0, .int .i64 0, .int .i64 1, .bool false] 111
  replace hR := hR.alloc (.cells #[.int .i64 5, .int .i64 0, .int .i64 0, .int .u64 0, .int .u64 0, .int .u64 0, .int .u64 0, .int .i64 0, .int .i64 1, .bool false] 111)
  replace hr := hr.below ((Below.refl _ wa).alloc (Nat.le_refl _) (.cells #[.int .i64 5, .int .i64 0, .int .i64 0, .int .u64 0, .int .u64 0, .int .u64 0, .int .u64 0, .int .i64 0, .int .i64 1, .bool false] 111))
  replace g := only_alloc g (.cells #[.int .i64 5, .int .i64 0, .int .i64 0, .int .u64 0, .int .u64 0, .int .u64 0, .int .u64 0, .int .i64 0, .int .i64 1, .bool false] 111)
  rw [hs1] at h5
  generalize hb5 : w.heap.size + 1 = b5 at *
  generalize wa.alloc _ = wb at *
  clear hs1
  go_wp2_with fail
  refine (bad_at hr).mono ?_
  rintro v w0 ⟨rfl, hb⟩
  replace hR := hR.below hb hR.lt
  replace h5 := h5.below hb h5.lt
  replace hr := hr.below hb
  replace g := only_below g hb
  clear hb
  rw [show decide ((0 : Nat) ≠ 0) = false from rfl]
  go_wp2_with fail
  refine (is_at 63 hr).mono ?_
  rintro v w0 ⟨rfl, hr, hg⟩
  replace hR := Blk.turn hR hg (by omega)
  replace h5 := Blk.turn h5 hg (by omega)
  replace g := only_trans g hg
  clear hg
  have HL := Lib.hid (lazyM_eq (bytesN s) 0 1 i)
  generalize isI (bytesN s) i 63 = j at *
  generalize isB (bytesN s) i 63 = z at *
  have hjle := hr.le
  have x9 := h5.cell 9
  have p9 := h5.frozen 9
  simp only [List.getElem?_cons_succ, List.getElem?_cons_zero] at x9
  go_upto_region 12 with fail
  have h5z := h5.set 9 (.bool z)
  simp only [List.set_cons_succ, List.set_cons_zero] at h5z
  have hRz := hR.far (p := ⟨b5, 9, none⟩) (by show w.heap.size ≠ b5; omega) (.bool z)
  have hrz := hr.farPuts (g := b5) (by omega) (by have := tab_lt h.tab; omega) [.bool z] 9
  have gz := only_puts (g := b5) (by omega) [.bool z] 9 _ g
  simp only [putCells] at hrz gz
  clear h5 hR hr g x9 p9
  have h5 := h5z
  have hR := hRz
  have hr := hrz
  have g := gz
  clear h5z hRz hrz gz
  generalize w0.setCell _ _ = wz at *
  have hpk : (peekV (bytesN s) j = .tuple #[.int .u8 43, .bool true] ∧ (bytesN s)[j]? = some 43) ∨ (bytesN s)[j]? ≠ some 43 ∧ ((∃ c : Nat, peekV (bytesN s) j = .tuple #[.int .u8 ((c : Nat) : Int), .bool true] ∧ ((c : Nat) : Int) ≠ 43) ∨ peekV (bytesN s) j = .tuple #[.int .u8 0, .bool false]) := by
    unfold peekV
    cases hc : (bytesN s)[j]? with
    | none => exact .inr ⟨by simp, .inr rfl⟩
    | some c =>
      by_cases h43 : c = 43
      · subst h43
        exact .inl ⟨rfl, rfl⟩
      · exact .inr ⟨by simpa using h43, .inl ⟨c, rfl, by omega⟩⟩
  have HPk := Lib.hid hpk
  clear hpk
  go_wp2_with fail
  refine (peek_at hr).mono ?_
  rintro v w0 ⟨rfl, hb⟩
  replace hR := hR.below hb hR.lt
  replace h5 := h5.below hb h5.lt
  replace hr := hr.below hb
  replace g := only_below g hb
  clear hb
  rcases HPk.out with ⟨hp, h43⟩ | ⟨h43, ⟨c, hp, hne⟩ | hp⟩
  · skip
    rw [hp]
    have H43 := Lib.hid h43
    clear hp h43
    obtain ⟨_, c1, _, _, f1, _, _⟩ := hr.cells
    go_wp2_with fail
    go_still_tail 8, (by kernel_rfl)
    change wpList _ _ _ _ _ w0.drew
    go_wp2_with fail
    refine (fail_at (k := 6) (hr.below (Below.refl _ _).drew) hjle).mono ?_
    rintro v w1 ⟨⟨u, rfl⟩, hr, hg1⟩
    have hg := only_trans (only_of b (Below.refl w0.heap.size _).drew) hg1
    clear hg1 c1 f1
    replace hR := Blk.turn hR hg (by omega)
    replace h5 := Blk.turn h5 hg (by omega)
    replace g := only_trans g hg
    clear hg
    obtain ⟨⟨x0, x1, x2, x3, x4, x5, x6, x7, x8, x9⟩, _⟩ := h5.ten
    obtain ⟨⟨y0, y1, y2, y3, y4, y5, y6, y7, y8, y9⟩, k0, k1, k2, k3, k4, k5, k6, k7, k8, k9⟩ := hR.ten
    go_wp2
    have hRz := Blk.puts0 hR [.int .i64 5, .int .i64 0, .int .i64 0, .int .u64 0, .int .u64 0, .int .u64 0, .int .u64 0, .int .i64 0, .int .i64 1, .bool z] rfl
    have hrz := hr.farPuts (g := w.heap.size) (by omega) (by have := tab_lt h.tab; omega) [.int .i64 5, .int .i64 0, .int .i64 0, .int .u64 0, .int .u64 0, .int .u64 0, .int .u64 0, .int .i64 0, .int .i64 1, .bool z] 0
    have gz := only_puts (g := w.heap.size) (Nat.le_refl _) [.int .i64 5, .int .i64 0, .int .i64 0, .int .u64 0, .int .u64 0, .int .u64 0, .int .u64 0, .int .i64 0, .int .i64 1, .bool z] 0 _ g
    simp only [putCells] at hRz hrz gz
    clear hR hr g h5 x0 x1 x2 x3 x4 x5 x6 x7 x8 x9 y0 y1 y2 y3 y4 y5 y6 y7 y8 y9 k0 k1 k2 k3 k4 k5 k6 k7 k8 k9
    generalize World.setCell _ _ _ = wq at *
    refine ret_tok (b := w.heap.size) rfl rfl hRz rfl rfl ?_
    refine ⟨⟨5, noSet, 0, 1, z⟩, j, 6, ?_, hrz, gz, by rw [HX.out, HL.out, if_pos H43.out]; exact ⟨rfl, rfl, by omega⟩⟩
    exact ret_congr (congrArg (fun l => Value.agg (List.toArray l)) (tokL_none 5 0 1 z 0 0).symm)
  · skip
    rw [hp]
    have H43 := Lib.hid h43
    clear hp h43
    obtain ⟨⟨x0, x1, x2, x3, x4, x5, x6, x7, x8, x9⟩, _⟩ := h5.ten
    obtain ⟨⟨y0, y1, y2, y3, y4, y5, y6, y7, y8, y9⟩, k0, k1, k2, k3, k4, k5, k6, k7, k8, k9⟩ := hR.ten
    go_wp2
    have hRz := Blk.puts0 hR [.int .i64 5, .int .i64 0, .int .i64 0, .int .u64 0, .int .u64 0, .int .u64 0, .int .u64 0, .int .i64 0, .int .i64 1, .bool z] rfl
    have hrz := hr.farPuts (g := w.heap.size) (by omega) (by have := tab_lt h.tab; omega) [.int .i64 5, .int .i64 0, .int .i64 0, .int .u64 0, .int .u64 0, .int .u64 0, .int .u64 0, .int .i64 0, .int .i64 1, .bool z] 0
    have gz := only_puts (g := w.heap.size) (Nat.le_refl _) [.int .i64 5, .int .i64 0, .int .i64 0, .int .u64 0, .int .u64 0, .int .u64 0, .int .u64 0, .int .i64 0, .int .i64 1, .bool z] 0 _ g
    simp only [putCells] at hRz hrz gz
    clear hR hr g h5 x0 x1 x2 x3 x4 x5 x6 x7 x8 x9 y0 y1 y2 y3 y4 y5 y6 y7 y8 y9 k0 k1 k2 k3 k4 k5 k6 k7 k8 k9
    generalize World.setCell _ _ _ = wq at *
    refine ret_tok (b := w.heap.size) rfl rfl hRz rfl rfl ?_
    refine ⟨⟨5, noSet, 0, 1, z⟩, j, 0, ?_, hrz, gz, by rw [HX.out, HL.out, if_neg H43.out]; exact ⟨rfl, rfl, rfl⟩⟩
    exact ret_congr (congrArg (fun l => Value.agg (List.toArray l)) (tokL_none 5 0 1 z 0 0).symm)
  · skip
    rw [hp]
    have H43 := Lib.hid h43
    clear hp h43
    obtain ⟨⟨x0, x1, x2, x3, x4, x5, x6, x7, x8, x9⟩, _⟩ := h5.ten
    obtain ⟨⟨y0, y1, y2, y3, y4, y5, y6, y7, y8, y9⟩, k0, k1, k2, k3, k4, k5, k6, k7, k8, k9⟩ := hR.ten
    go_wp2
    have hRz := Blk.puts0 hR [.int .i64 5, .int .i64 0, .int .i64 0, .int .u64 0, .int .u64 0, .int .u64 0, .int .u64 0, .int .i64 0, .int .i64 1, .bool z] rfl
    have hrz := hr.farPuts (g := w.heap.size) (by omega) (by have := tab_lt h.tab; omega) [.int .i64 5, .int .i64 0, .int .i64 0, .int .u64 0, .int .u64 0, .int .u64 0, .int .u64 0, .int .i64 0, .int .i64 1, .bool z] 0
    have gz := only_puts (g := w.heap.size) (Nat.le_refl _) [.int .i64 5, .int .i64 0, .int .i64 0, .int .u64 0, .int .u64 0, .int .u64 0, .int .u64 0, .int .i64 0, .int .i64 1, .bool z] 0 _ g
    simp only [putCells] at hRz hrz gz
    clear hR hr g h5 x0 x1 x2 x3 x4 x5 x6 x7 x8 x9 y0 y1 y2 y3 y4 y5 y6 y7 y8 y9 k0 k1 k2 k3 k4 k5 k6 k7 k8 k9
    generalize World.setCell _ _ _ = wq at *
    refine ret_tok (b := w.heap.size) rfl rfl hRz rfl rfl ?_
    refine ⟨⟨5, noSet, 0, 1, z⟩, j, 0, ?_, hrz, gz, by rw [HX.out, HL.out, if_neg H43.out]; exact ⟨rfl, rfl, rfl⟩⟩
    exact ret_congr (congrArg (fun l => Value.agg (List.toArray l)) (tokL_none 5 0 1 z 0 0).symm)
set_option maxRecDepth 100000 in
set_option maxHeartbeats 2000000 in
theorem cnt_bra_err {w : World} {b : Nat} {s : ByteArray} {i : Nat} {lv : Value} (h : Rdr w b s i 0 lv) (j e : Nat) (h1 : bracesM (bytesN s) i = .err j e) :
    Calls Tryz.prog 174 #[.pointer (some ⟨b, 0, none⟩), .int .u8 123] w fun v w' => ∃ x j e, v = .returned (tokV x 0 0) ∧ Rdr w' b s j e lv ∧ w.grownBy w' (some b) ∧ TokIs (countM (bytesN s) 123 i) x j e := by
  have HX := Lib.hid (show countM (bytesN s) 123 i = .err j e by unfold countM; rw [if_neg (by omega), if_neg (by omega), if_neg (by omega), h1])
  have H1 := Lib.hid h1
  clear h1
  have hblt := h.blk.lt
  have hsz := h.size
  go_enter Tryz.func174, Tryz.ntmps174
  go_upto_region 8 with fail
  have hR := Blk.new w [.int .i64 0, .int .i64 0, .int .i64 0, .int .u64 0, .int .u64 0, .int .u64 0, .int .u64 0, .int .i64 0, .int .i64 0, .bool false] 111
  have hr := h.below ((Below.refl _ w).alloc (Nat.le_refl _) (.cells #[.int .i64 0, .int .i64 0, .int .i64 0, .int .u64 0, .int .u64 0, .int .u64 0, .int .u64 0, .int .i64 0, .int .i64 0, .bool false] 111))
  have g := only_alloc (only_refl w b) (.cells #[.int .i64 0, .int .i64 0, .int .i64 0, .int .u64 0, .int .u64 0, .int .u64 0, .int .u64 0, .int .i64 0, .int .i64 0, .bool false] 111)
  have hs1 : (w.alloc (.cells #[.int .i64 0, .int .i64 0, .int .i64 0, .int .u64 0, .int .u64 0, .int .u64 0, .int .u64 0, .int .i64 0, .int .i64 0, .bool false] 111)).heap.size = w.heap.size + 1 := by simp
  generalize w.alloc _ = wa at *
  have h5 := Blk.new wa [.int .i64 5, .int .i64 0, .int .i64 0, .int .u64 0, .int .u64 0, .int .u64 0, .int .u64 0, .int .i64 0, .int .i64 (-1), .bool false] 111
  replace hR := hR.alloc (.cells #[.int .i64 5, .int .i64 0, .int .i64 0, .int .u64 0, .int .u64 0, .int .u64 0, .int .u64 0, .int .i64 0, .int .i64 (-1), .bool false] 111)
  replace hr := hr.below ((Below.refl _ wa).alloc (Nat.le_refl _) (.cells #[.int .i64 5, .int .i64 0, .int .i64 0, .int .u64 0, .int .u64 0, .int .u64 0, .int .u64 0, .int .i64 0, .int .i64 (-1), .bool false] 111))
  replace g := only_alloc g (.cells #[.int .i64 5, .int .i64 0, .int .i64 0, .int .u64 0, .int .u64 0, .int .u64 0, .int .u64 0, .int .i64 0, .int .i64 (-1), .bool false] 111)
  rw [hs1] at h5
  generalize hb5 : w.heap.size + 1 = b5 at *
  generalize wa.alloc _ = wb at *
  clear hs1
  go_wp2_with fail
  refine (braces_at hr).mono ?_
  rintro v w0 ⟨lo1, hi1, j1, e1, rfl, hr, hg, hbr⟩
  replace hR := Blk.turn hR hg (by omega)
  replace h5 := Blk.turn h5 hg (by omega)
  replace g := only_trans g hg
  clear hg
  rw [H1.out] at hbr
  obtain ⟨rfl, rfl, he⟩ := hbr
  have x7 := h5.cell 7
  have x8 := h5.cell 8
  have p7 := h5.frozen 7
  have p8 := h5.frozen 8
  simp only [List.getElem?_cons_succ, List.getElem?_cons_zero] at x7 x8
  go_upto_region 9 with fail
  have h5z := (h5.set 7 (.int .i64 ((lo1 : Nat) : Int))).set 8 (.int .i64 hi1)
  simp only [List.set_cons_succ, List.set_cons_zero] at h5z
  have hRz := (hR.far (p := ⟨b5, 7, none⟩) (by show w.heap.size ≠ b5; omega) (.int .i64 ((lo1 : Nat) : Int))).far (p := ⟨b5, 8, none⟩) (by show w.heap.size ≠ b5; omega) (.int .i64 hi1)
  have hrz := hr.farPuts (g := b5) (by omega) (by have := tab_lt h.tab; omega) [.int .i64 ((lo1 : Nat) : Int), .int .i64 hi1] 7
  have gz := only_puts (g := b5) (by omega) [.int .i64 ((lo1 : Nat) : Int), .int .i64 hi1] 7 _ g
  simp only [putCells] at hrz gz
  clear h5 hR hr g x7 x8 p7 p8
  have h5 := h5z
  have hR := hRz
  have hr := hrz
  have g := gz
  clear h5z hRz hrz gz
  generalize (w0.setCell _ _).setCell _ _ = wy at *
  go_wp2_with fail
  refine (bad_at hr).mono ?_
  rintro v w0 ⟨rfl, hb⟩
  replace hR := hR.below hb hR.lt
  replace h5 := h5.below hb h5.lt
  replace hr := hr.below hb
  replace g := only_below g hb
  clear hb
  rw [show decide (e1 ≠ 0) = true from decide_eq_true he]
  obtain ⟨⟨x0, x1, x2, x3, x4, x5, x6, x7, x8, x9⟩, _⟩ := h5.ten
  obtain ⟨⟨y0, y1, y2, y3, y4, y5, y6, y7, y8, y9⟩, k0, k1, k2, k3, k4, k5, k6, k7, k8, k9⟩ := hR.ten
  go_wp2
  have hRz := Blk.puts0 hR [.int .i64 5, .int .i64 0, .int .i64 0, .int .u64 0, .int .u64 0, .int .u64 0, .int .u64 0, .int .i64 ((lo1 : Nat) : Int), .int .i64 hi1, .bool false] rfl
  have hrz := hr.farPuts (g := w.heap.size) (by omega) (by have := tab_lt h.tab; omega) [.int .i64 5, .int .i64 0, .int .i64 0, .int .u64 0, .int .u64 0, .int .u64 0, .int .u64 0, .int .i64 ((lo1 : Nat) : Int), .int .i64 hi1, .bool false] 0
  have gz := only_puts (g := w.heap.size) (Nat.le_refl _) [.int .i64 5, .int .i64 0, .int .i64 0, .int .u64 0, .int .u64 0, .int .u64 0, .int .u64 0, .int .i64 ((lo1 : Nat) : Int), .int .i64 hi1, .bool false] 0 _ g
  simp only [putCells] at hRz hrz gz
  clear hR hr g h5 x0 x1 x2 x3 x4 x5 x6 x7 x8 x9 y0 y1 y2 y3 y4 y5 y6 y7 y8 y9 k0 k1 k2 k3 k4 k5 k6 k7 k8 k9
  generalize World.setCell _ _ _ = wq at *
  refine ret_tok (b := w.heap.size) rfl rfl hRz rfl rfl ?_
  refine ⟨⟨5, noSet, lo1, hi1, false⟩, j1, e1, ?_, hrz, gz, by rw [HX.out]; exact ⟨rfl, rfl, he⟩⟩
  exact ret_congr (congrArg (fun l => Value.agg (List.toArray l)) (tokL_none 5 lo1 hi1 false 0 0).symm)
set_option maxRecDepth 100000 in
set_option maxHeartbeats 2000000 in
theorem cnt_bra_ok {w : World} {b : Nat} {s : ByteArray} {i : Nat} {lv : Value} (h : Rdr w b s i 0 lv) (lo : Nat) (o : Option Nat) (j : Nat) (h1 : bracesM (bytesN s) i = .ok (lo, o) j) :
    Calls Tryz.prog 174 #[.pointer (some ⟨b, 0, none⟩), .int .u8 123] w fun v w' => ∃ x j e, v = .returned (tokV x 0 0) ∧ Rdr w' b s j e lv ∧ w.grownBy w' (some b) ∧ TokIs (countM (bytesN s) 123 i) x j e := by
  have HX := Lib.hid (show countM (bytesN s) 123 i = lazyM (bytesN s) lo (hiZ o) j by unfold countM; rw [if_neg (by omega), if_neg (by omega), if_neg (by omega), h1])
  have H1 := Lib.hid h1
  clear h1
  have hblt := h.blk.lt
  have hsz := h.size
  go_enter Tryz.func174, Tryz.ntmps174
  go_upto_region 8 with fail
  have hR := Blk.new w [.int .i64 0, .int .i64 0, .int .i64 0, .int .u64 0, .int .u64 0, .int .u64 0, .int .u64 0, .int .i64 0, .int .i64 0, .bool false] 111
  have hr := h.below ((Below.refl _ w).alloc (Nat.le_refl _) (.cells #[.int .i64 0, .int .i64 0, .int .i64 0, .int .u64 0, .int .u64 0, .int .u64 0, .int .u64 0, .int .i64 0, .int .i64 0, .bool false] 111))
  have g := only_alloc (only_refl w b) (.cells #[.int .i64 0, .int .i64 0, .int .i64 0, .int .u64 0, .int .u64 0, .int .u64 0, .int .u64 0, .int .i64 0, .int .i64 0, .bool false] 111)
  have hs1 : (w.alloc (.cells #[.int .i64 0, .int .i64 0, .int .i64 0, .int .u64 0, .int .u64 0, .int .u64 0, .int .u64 0, .int .i64 0, .int .i64 0, .bool false] 111)).heap.size = w.heap.size + 1 := by simp
  generalize w.alloc _ = wa at *
  have h5 := Blk.new wa [.int .i64 5, .int .i64 0, .int .i64 0, .int .u64 0, .int .u64 0, .int .u64 0, .int .u64 0, .int .i64 0, .int .i64 (-1), .bool false] 111
  replace hR := hR.alloc (.cells #[.int .i64 5, .int .i64 0, .int .i64 0, .int .u64 0, .int .u64 0, .int .u64 0, .int .u64 0, .int .i64 0, .int .i64 (-1), .bool false] 111)
  replace hr := hr.below ((Below.refl _ wa).alloc (Nat.le_refl _) (.cells #[.int .i64 5, .int .i64 0, .int .i64 0, .int .u64 0, .int .u64 0, .int .u64 0, .int .u64 0, .int .i64 0, .int .i64 (-1), .bool false] 111))
  replace g := only_alloc g (.cells #[.int .i64 5, .int .i64 0, .int .i64 0, .int .u64 0, .int .u64 0, .int .u64 0, .int .u64 0, .int .i64 0, .int .i64 (-1), .bool false] 111)
  rw [hs1] at h5
  generalize hb5 : w.heap.size + 1 = b5 at *
  generalize wa.alloc _ = wb at *
  clear hs1
  go_wp2_with fail
  refine (braces_at hr).mono ?_
  rintro v w0 ⟨lo1, hi1, j1, e1, rfl, hr, hg, hbr⟩
  replace hR := Blk.turn hR hg (by omega)
  replace h5 := Blk.turn h5 hg (by omega)
  replace g := only_trans g hg
  clear hg
  rw [H1.out] at hbr
  obtain ⟨rfl, rfl, rfl, rfl⟩ := hbr
  have x7 := h5.cell 7
  have x8 := h5.cell 8
  have p7 := h5.frozen 7
  have p8 := h5.frozen 8
  simp only [List.getElem?_cons_succ, List.getElem?_cons_zero] at x7 x8
  go_upto_region 9 with fail
  have h5z := (h5.set 7 (.int .i64 ((lo1 : Nat) : Int))).set 8 (.int .i64 (hiZ o))
  simp only [List.set_cons_succ, List.set_cons_zero] at h5z
  have hRz := (hR.far (p := ⟨b5, 7, none⟩) (by show w.heap.size ≠ b5; omega) (.int .i64 ((lo1 : Nat) : Int))).far (p := ⟨b5, 8, none⟩) (by show w.heap.size ≠ b5; omega) (.int .i64 (hiZ o))
  have hrz := hr.farPuts (g := b5) (by omega) (by have := tab_lt h.tab; omega) [.int .i64 ((lo1 : Nat) : Int), .int .i64 (hiZ o)] 7
  have gz := only_puts (g := b5) (by omega) [.int .i64 ((lo1 : Nat) : Int), .int .i64 (hiZ o)] 7 _ g
  simp only [putCells] at hrz gz
  clear h5 hR hr g x7 x8 p7 p8
  have h5 := h5z
  have hR := hRz
  have hr := hrz
  have g := gz
  clear h5z hRz hrz gz
  generalize (w0.setCell _ _).setCell _ _ = wy at *
  generalize hzz : hiZ o = hz at *
  go_wp2_with fail
  refine (bad_at hr).mono ?_
  rintro v w0 ⟨rfl, hb⟩
  replace hR := hR.below hb hR.lt
  replace h5 := h5.below hb h5.lt
  replace hr := hr.below hb
  replace g := only_below g hb
  clear hb
  rw [show decide ((0 : Nat) ≠ 0) = false from rfl]
  go_wp2_with fail
  refine (is_at 63 hr).mono ?_
  rintro v w0 ⟨rfl, hr, hg⟩
  replace hR := Blk.turn hR hg (by omega)
  replace h5 := Blk.turn h5 hg (by omega)
  replace g := only_trans g hg
  clear hg
  have HL := Lib.hid (lazyM_eq (bytesN s) lo1 hz j1)
  generalize isI (bytesN s) j1 63 = j at *
  generalize isB (bytesN s) j1 63 = z at *
  have hjle := hr.le
  have x9 := h5.cell 9
  have p9 := h5.frozen 9
  simp only [List.getElem?_cons_succ, List.getElem?_cons_zero] at x9
  go_upto_region 12 with fail
  have h5z := h5.set 9 (.bool z)
  simp only [List.set_cons_succ, List.set_cons_zero] at h5z
  have hRz := hR.far (p := ⟨b5, 9, none⟩) (by show w.heap.size ≠ b5; omega) (.bool z)
  have hrz := hr.farPuts (g := b5) (by omega) (by have := tab_lt h.tab; omega) [.bool z] 9
  have gz := only_puts (g := b5) (by omega) [.bool z] 9 _ g
  simp only [putCells] at hrz gz
  clear h5 hR hr g x9 p9
  have h5 := h5z
  have hR := hRz
  have hr := hrz
  have g := gz
  clear h5z hRz hrz gz
  generalize w0.setCell _ _ = wz at *
  have hpk : (peekV (bytesN s) j = .tuple #[.int .u8 43, .bool true] ∧ (bytesN s)[j]? = some 43) ∨ (bytesN s)[j]? ≠ some 43 ∧ ((∃ c : Nat, peekV (bytesN s) j = .tuple #[.int .u8 ((c : Nat) : Int), .bool true] ∧ ((c : Nat) : Int) ≠ 43) ∨ peekV (bytesN s) j = .tuple #[.int .u8 0, .bool false]) := by
    unfold peekV
    cases hc : (bytesN s)[j]? with
    | none => exact .inr ⟨by simp, .inr rfl⟩
    | some c =>
      by_cases h43 : c = 43
      · subst h43
        exact .inl ⟨rfl, rfl⟩
      · exact .inr ⟨by simpa using h43, .inl ⟨c, rfl, by omega⟩⟩
  have HPk := Lib.hid hpk
  clear hpk
  go_wp2_with fail
  refine (peek_at hr).mono ?_
  rintro v w0 ⟨rfl, hb⟩
  replace hR := hR.below hb hR.lt
  replace h5 := h5.below hb h5.lt
  replace hr := hr.below hb
  replace g := only_below g hb
  clear hb
  rcases HPk.out with ⟨hp, h43⟩ | ⟨h43, ⟨c, hp, hne⟩ | hp⟩
  · skip
    rw [hp]
    have H43 := Lib.hid h43
    clear hp h43
    obtain ⟨_, c1, _, _, f1, _, _⟩ := hr.cells
    go_wp2_with fail
    go_still_tail 8, (by kernel_rfl)
    change wpList _ _ _ _ _ w0.drew
    go_wp2_with fail
    refine (fail_at (k := 6) (hr.below (Below.refl _ _).drew) hjle).mono ?_
    rintro v w1 ⟨⟨u, rfl⟩, hr, hg1⟩
    have hg := only_trans (only_of b (Below.refl w0.heap.size _).drew) hg1
    clear hg1 c1 f1
    replace hR := Blk.turn hR hg (by omega)
    replace h5 := Blk.turn h5 hg (by omega)
    replace g := only_trans g hg
    clear hg
    obtain ⟨⟨x0, x1, x2, x3, x4, x5, x6, x7, x8, x9⟩, _⟩ := h5.ten
    obtain ⟨⟨y0, y1, y2, y3, y4, y5, y6, y7, y8, y9⟩, k0, k1, k2, k3, k4, k5, k6, k7, k8, k9⟩ := hR.ten
    go_wp2
    have hRz := Blk.puts0 hR [.int .i64 5, .int .i64 0, .int .i64 0, .int .u64 0, .int .u64 0, .int .u64 0, .int .u64 0, .int .i64 ((lo1 : Nat) : Int), .int .i64 hz, .bool z] rfl
    have hrz := hr.farPuts (g := w.heap.size) (by omega) (by have := tab_lt h.tab; omega) [.int .i64 5, .int .i64 0, .int .i64 0, .int .u64 0, .int .u64 0, .int .u64 0, .int .u64 0, .int .i64 ((lo1 : Nat) : Int), .int .i64 hz, .bool z] 0
    have gz := only_puts (g := w.heap.size) (Nat.le_refl _) [.int .i64 5, .int .i64 0, .int .i64 0, .int .u64 0, .int .u64 0, .int .u64 0, .int .u64 0, .int .i64 ((lo1 : Nat) : Int), .int .i64 hz, .bool z] 0 _ g
    simp only [putCells] at hRz hrz gz
    clear hR hr g h5 x0 x1 x2 x3 x4 x5 x6 x7 x8 x9 y0 y1 y2 y3 y4 y5 y6 y7 y8 y9 k0 k1 k2 k3 k4 k5 k6 k7 k8 k9
    generalize World.setCell _ _ _ = wq at *
    refine ret_tok (b := w.heap.size) rfl rfl hRz rfl rfl ?_
    refine ⟨⟨5, noSet, lo1, hz, z⟩, j, 6, ?_, hrz, gz, by rw [HX.out, HL.out, if_pos H43.out]; exact ⟨rfl, rfl, by omega⟩⟩
    exact ret_congr (congrArg (fun l => Value.agg (List.toArray l)) (tokL_none 5 lo1 hz z 0 0).symm)
  · skip
    rw [hp]
    have H43 := Lib.hid h43
    clear hp h43
    obtain ⟨⟨x0, x1, x2, x3, x4, x5, x6, x7, x8, x9⟩, _⟩ := h5.ten
    obtain ⟨⟨y0, y1, y2, y3, y4, y5, y6, y7, y8, y9⟩, k0, k1, k2, k3, k4, k5, k6, k7, k8, k9⟩ := hR.ten
    go_wp2
    have hRz := Blk.puts0 hR [.int .i64 5, .int .i64 0, .int .i64 0, .int .u64 0, .int .u64 0, .int .u64 0, .int .u64 0, .int .i64 ((lo1 : Nat) : Int), .int .i64 hz, .bool z] rfl
    have hrz := hr.farPuts (g := w.heap.size) (by omega) (by have := tab_lt h.tab; omega) [.int .i64 5, .int .i64 0, .int .i64 0, .int .u64 0, .int .u64 0, .int .u64 0, .int .u64 0, .int .i64 ((lo1 : Nat) : Int), .int .i64 hz, .bool z] 0
    have gz := only_puts (g := w.heap.size) (Nat.le_refl _) [.int .i64 5, .int .i64 0, .int .i64 0, .int .u64 0, .int .u64 0, .int .u64 0, .int .u64 0, .int .i64 ((lo1 : Nat) : Int), .int .i64 hz, .bool z] 0 _ g
    simp only [putCells] at hRz hrz gz
    clear hR hr g h5 x0 x1 x2 x3 x4 x5 x6 x7 x8 x9 y0 y1 y2 y3 y4 y5 y6 y7 y8 y9 k0 k1 k2 k3 k4 k5 k6 k7 k8 k9
    generalize World.setCell _ _ _ = wq at *
    refine ret_tok (b := w.heap.size) rfl rfl hRz rfl rfl ?_
    refine ⟨⟨5, noSet, lo1, hz, z⟩, j, 0, ?_, hrz, gz, by rw [HX.out, HL.out, if_neg H43.out]; exact ⟨rfl, rfl, rfl⟩⟩
    exact ret_congr (congrArg (fun l => Value.agg (List.toArray l)) (tokL_none 5 lo1 hz z 0 0).symm)
  · skip
    rw [hp]
    have H43 := Lib.hid h43
    clear hp h43
    obtain ⟨⟨x0, x1, x2, x3, x4, x5, x6, x7, x8, x9⟩, _⟩ := h5.ten
    obtain ⟨⟨y0, y1, y2, y3, y4, y5, y6, y7, y8, y9⟩, k0, k1, k2, k3, k4, k5, k6, k7, k8, k9⟩ := hR.ten
    go_wp2
    have hRz := Blk.puts0 hR [.int .i64 5, .int .i64 0, .int .i64 0, .int .u64 0, .int .u64 0, .int .u64 0, .int .u64 0, .int .i64 ((lo1 : Nat) : Int), .int .i64 hz, .bool z] rfl
    have hrz := hr.farPuts (g := w.heap.size) (by omega) (by have := tab_lt h.tab; omega) [.int .i64 5, .int .i64 0, .int .i64 0, .int .u64 0, .int .u64 0, .int .u64 0, .int .u64 0, .int .i64 ((lo1 : Nat) : Int), .int .i64 hz, .bool z] 0
    have gz := only_puts (g := w.heap.size) (Nat.le_refl _) [.int .i64 5, .int .i64 0, .int .i64 0, .int .u64 0, .int .u64 0, .int .u64 0, .int .u64 0, .int .i64 ((lo1 : Nat) : Int), .int .i64 hz, .bool z] 0 _ g
    simp only [putCells] at hRz hrz gz
    clear hR hr g h5 x0 x1 x2 x3 x4 x5 x6 x7 x8 x9 y0 y1 y2 y3 y4 y5 y6 y7 y8 y9 k0 k1 k2 k3 k4 k5 k6 k7 k8 k9
    generalize World.setCell _ _ _ = wq at *
    refine ret_tok (b := w.heap.size) rfl rfl hRz rfl rfl ?_
    refine ⟨⟨5, noSet, lo1, hz, z⟩, j, 0, ?_, hrz, gz, by rw [HX.out, HL.out, if_neg H43.out]; exact ⟨rfl, rfl, rfl⟩⟩
    exact ret_congr (congrArg (fun l => Value.agg (List.toArray l)) (tokL_none 5 lo1 hz z 0 0).symm)
theorem count_at {w : World} {b : Nat} {s : ByteArray} {i : Nat} {lv : Value} (c : Nat) (hc : c = 42 ∨ c = 43 ∨ c = 63 ∨ c = 123) (h : Rdr w b s i 0 lv) :
    Calls Tryz.prog 174 #[.pointer (some ⟨b, 0, none⟩), .int .u8 ((c : Nat) : Int)] w fun v w' => ∃ x j e, v = .returned (tokV x 0 0) ∧ Rdr w' b s j e lv ∧ w.grownBy w' (some b) ∧ TokIs (countM (bytesN s) c i) x j e := by
  rcases hc with rfl | rfl | rfl | rfl
  · exact cnt_star h
  · exact cnt_plus h
  · exact cnt_ask h
  · cases h1 : bracesM (bytesN s) i with
    | err j e => exact cnt_bra_err h j e h1
    | ok v j => exact cnt_bra_ok h v.1 v.2 j h1
end Go.Proofs.YtpiimcbbgalhfaaGreatDoor
/- group: an open group, whose bracket was read. -/
namespace Go.Proofs.YtpiimcbbgalhfaaGreatDoor
set_option maxRecDepth 100000
open Go.RowKit
theorem rest_list (s : ByteArray) (i : Nat) : (s.extract i s.size).data.toList = s.data.toList.drop i := by
  rw [ByteArray.data_extract, Array.toList_extract, List.extract_eq_take_drop]
  exact List.take_of_length_le (by rw [List.length_drop, Array.length_toList]; exact Nat.le_refl _)
theorem rest_at (s : ByteArray) (i k : Nat) : (bytesN s)[i + k]? = ((s.data.toList.drop i)[k]?).map (·.toNat) := by
  unfold bytesN
  rw [List.getElem?_map, List.getElem?_drop]
theorem u8_eq {x : UInt8} {n : Nat} (hn : n < 256) : x.toNat = n ↔ UInt8.ofNat n = x := by
  constructor
  · intro h
    apply UInt8.toNat_inj.1
    rw [UInt8.toNat_ofNat', h]
    omega
  · intro h
    rw [← h, UInt8.toNat_ofNat']
    omega
theorem prefix_ask (s : ByteArray) (i : Nat) : Lib.hasPrefix (s.extract i s.size).data.toList (⟨#[63]⟩ : ByteArray).data.toList = decide ((bytesN s)[i]? = some 63) := by
  rw [rest_list]
  have h0 := rest_at s i 0
  rw [Nat.add_zero] at h0
  rw [h0]
  unfold Lib.hasPrefix
  cases s.data.toList.drop i with
  | nil => rfl
  | cons x r =>
    simp only [List.getElem?_cons_zero, Option.map_some, Option.some.injEq]
    rw [Bool.eq_iff_iff]
    simp only [decide_eq_true_eq, u8_eq (show 63 < 256 by omega)]
    simp [List.isPrefixOf]
theorem prefix_free (s : ByteArray) (i : Nat) : Lib.hasPrefix (s.extract i s.size).data.toList (⟨#[63, 58]⟩ : ByteArray).data.toList = decide ((bytesN s)[i]? = some 63 ∧ (bytesN s)[i + 1]? = some 58) := by
  rw [rest_list]
  have h0 := rest_at s i 0
  rw [Nat.add_zero] at h0
  rw [h0, rest_at s i 1]
  unfold Lib.hasPrefix
  cases s.data.toList.drop i with
  | nil => rfl
  | cons x r =>
    simp only [List.getElem?_cons_zero, List.getElem?_cons_succ, Option.map_some, Option.some.injEq]
    rw [Bool.eq_iff_iff]
    simp only [decide_eq_true_eq, u8_eq (show 63 < 256 by omega)]
    cases r with
    | nil => simp [List.isPrefixOf]
    | cons y r =>
      simp only [List.getElem?_cons_zero, Option.map_some, Option.some.injEq, u8_eq (show 58 < 256 by omega)]
      simp [List.isPrefixOf]
theorem Rdr.jump {w : World} {b : Nat} {s : ByteArray} {i j e : Nat} {lv : Value} {v : Int} (h : Rdr w b s i e lv) (hv : v = ((j : Nat) : Int)) (hj : j ≤ s.size) :
    Rdr (w.setCell ⟨b, 1, none⟩ (.int .i64 v)) b s j e lv ∧ w.grownBy (w.setCell ⟨b, 1, none⟩ (.int .i64 v)) (some b) := by
  subst hv
  have hg := only_setCell (only_refl w b) 1 (.int .i64 ((j : Nat) : Int))
  exact ⟨h.turn hg hj (h.blk.set 1 _), hg⟩
def groupR (t : List Nat) (k j : Nat) : Res Tok := if t[j]? = some 63 then (if t[j + 1]? = some 58 then .ok (kindTok 2) (j + 2) else .err k 6) else .ok (kindTok 1) j
theorem groupM_R (t : List Nat) (i : Nat) : groupM t i = groupR t i (i + 1) := rfl
set_option maxRecDepth 100000 in
set_option maxHeartbeats 2000000 in
theorem grp_free {w : World} {b : Nat} {s : ByteArray} {j k : Nat} {lv : Value} (h : Rdr w b s j 0 lv) (_hk : k ≤ s.size) (h1 : (bytesN s)[j]? = some 63) (h2 : (bytesN s)[j + 1]? = some 58) :
    Calls Tryz.prog 173 #[.pointer (some ⟨b, 0, none⟩), .int .i64 ((k : Nat) : Int)] w fun v w' => ∃ x j' e, v = .returned (tokV x 0 0) ∧ Rdr w' b s j' e lv ∧ w.grownBy w' (some b) ∧ TokIs (groupR (bytesN s) k j) x j' e := by
  have HX := Lib.hid (show groupR (bytesN s) k j = .ok (kindTok 2) (j + 2) by unfold groupR; rw [if_pos h1, if_pos h2])
  have H1 := Lib.hid h1
  have H2 := Lib.hid h2
  have hj2 : j + 1 + 1 ≤ s.size := (bytesN_some h2).1
  clear h1 h2
  have hjle := h.le
  have hsz := h.size
  have hblt := h.blk.lt
  go_enter Tryz.func173, Tryz.ntmps173
  go_upto_region 1 with fail
  have hR := Blk.new w [.int .i64 0, .int .i64 0, .int .i64 0, .int .u64 0, .int .u64 0, .int .u64 0, .int .u64 0, .int .i64 0, .int .i64 0, .bool false] 111
  have hr := h.below ((Below.refl _ w).alloc (Nat.le_refl _) (.cells #[.int .i64 0, .int .i64 0, .int .i64 0, .int .u64 0, .int .u64 0, .int .u64 0, .int .u64 0, .int .i64 0, .int .i64 0, .bool false] 111))
  have g := only_alloc (only_refl w b) (.cells #[.int .i64 0, .int .i64 0, .int .i64 0, .int .u64 0, .int .u64 0, .int .u64 0, .int .u64 0, .int .i64 0, .int .i64 0, .bool false] 111)
  generalize w.alloc _ = wa at *
  obtain ⟨c0, c1, _, _, f1, _, _⟩ := hr.cells
  go_quiet (first | (go_at_call 227; refine Calls.quiet_of_same (prefix_of _ _ _)))
  rw [prefix_free, decide_eq_true (And.intro H1.out H2.out)]
  have hbq := below_drewN (Below.refl wa.heap.size wa) nq
  replace hR := hR.below hbq hR.lt
  replace hr := hr.below hbq
  replace g := only_below g hbq
  clear hbq c0 c1 f1
  generalize wa.drewN nq = w0 at *
  obtain ⟨c0, c1, _, _, f1, _, _⟩ := hr.cells
  go_upto_region 3 with fail
  obtain ⟨hri, gi⟩ := Rdr.jump (v := ((j : Nat) : Int) + 2) (j := j + 2) hr (by omega) hj2
  have hRi := hR.far (p := ⟨b, 1, none⟩) (by show w.heap.size ≠ b; omega) (.int .i64 (((j : Nat) : Int) + 2))
  have g2 := only_trans g gi
  clear hR hr g gi c0 c1 f1
  have hR := hRi
  have hr := hri
  have g := g2
  clear hRi hri g2
  generalize World.setCell _ _ _ = w1 at *
  obtain ⟨⟨y0, y1, y2, y3, y4, y5, y6, y7, y8, y9⟩, k0, k1, k2, k3, k4, k5, k6, k7, k8, k9⟩ := hR.ten
  go_wp2
  have hRz := Blk.puts0 hR [.int .i64 2, .int .i64 0, .int .i64 0, .int .u64 0, .int .u64 0, .int .u64 0, .int .u64 0, .int .i64 0, .int .i64 0, .bool false] rfl
  have hrz := hr.farPuts (g := w.heap.size) (by omega) (by have := tab_lt h.tab; omega) [.int .i64 2, .int .i64 0, .int .i64 0, .int .u64 0, .int .u64 0, .int .u64 0, .int .u64 0, .int .i64 0, .int .i64 0, .bool false] 0
  have gz := only_puts (g := w.heap.size) (Nat.le_refl _) [.int .i64 2, .int .i64 0, .int .i64 0, .int .u64 0, .int .u64 0, .int .u64 0, .int .u64 0, .int .i64 0, .int .i64 0, .bool false] 0 _ g
  simp only [putCells] at hRz hrz gz
  clear hR hr g y0 y1 y2 y3 y4 y5 y6 y7 y8 y9 k0 k1 k2 k3 k4 k5 k6 k7 k8 k9
  generalize World.setCell _ _ _ = wq at *
  refine ret_tok (b := w.heap.size) rfl rfl hRz rfl rfl ?_
  refine ⟨kindTok 2, j + 2, 0, ?_, hrz, gz, by rw [HX.out]; exact ⟨rfl, rfl, rfl⟩⟩
  exact ret_congr (congrArg (fun l => Value.agg (List.toArray l)) (tokL_none 2 0 0 false 0 0).symm)
set_option maxRecDepth 100000 in
set_option maxHeartbeats 2000000 in
theorem grp_other {w : World} {b : Nat} {s : ByteArray} {j k : Nat} {lv : Value} (h : Rdr w b s j 0 lv) (hk : k ≤ s.size) (h1 : (bytesN s)[j]? = some 63) (h2 : (bytesN s)[j + 1]? ≠ some 58) :
    Calls Tryz.prog 173 #[.pointer (some ⟨b, 0, none⟩), .int .i64 ((k : Nat) : Int)] w fun v w' => ∃ x j' e, v = .returned (tokV x 0 0) ∧ Rdr w' b s j' e lv ∧ w.grownBy w' (some b) ∧ TokIs (groupR (bytesN s) k j) x j' e := by
  have HX := Lib.hid (show groupR (bytesN s) k j = .err k 6 by unfold groupR; rw [if_pos h1, if_neg h2])
  have H1 := Lib.hid h1
  have H2 := Lib.hid h2
  clear h1 h2
  have hjle := h.le
  have hsz := h.size
  have hblt := h.blk.lt
  go_enter Tryz.func173, Tryz.ntmps173
  go_upto_region 1 with fail
  have hR := Blk.new w [.int .i64 0, .int .i64 0, .int .i64 0, .int .u64 0, .int .u64 0, .int .u64 0, .int .u64 0, .int .i64 0, .int .i64 0, .bool false] 111
  have hr := h.below ((Below.refl _ w).alloc (Nat.le_refl _) (.cells #[.int .i64 0, .int .i64 0, .int .i64 0, .int .u64 0, .int .u64 0, .int .u64 0, .int .u64 0, .int .i64 0, .int .i64 0, .bool false] 111))
  have g := only_alloc (only_refl w b) (.cells #[.int .i64 0, .int .i64 0, .int .i64 0, .int .u64 0, .int .u64 0, .int .u64 0, .int .u64 0, .int .i64 0, .int .i64 0, .bool false] 111)
  generalize w.alloc _ = wa at *
  obtain ⟨c0, c1, _, _, f1, _, _⟩ := hr.cells
  go_quiet (first | (go_at_call 227; refine Calls.quiet_of_same (prefix_of _ _ _)))
  rw [prefix_free, decide_eq_false (fun g : (bytesN s)[j]? = some 63 ∧ (bytesN s)[j + 1]? = some 58 => H2.out g.2)]
  have hbq := below_drewN (Below.refl wa.heap.size wa) nq
  replace hR := hR.below hbq hR.lt
  replace hr := hr.below hbq
  replace g := only_below g hbq
  clear hbq c0 c1 f1
  generalize wa.drewN nq = w0 at *
  obtain ⟨c0, c1, _, _, f1, _, _⟩ := hr.cells
  go_upto_region 4 with fail
  go_quiet (first | (go_at_call 227; refine Calls.quiet_of_same (prefix_of _ _ _)))
  rw [prefix_ask, decide_eq_true H1.out]
  have hbq := below_drewN (Below.refl w0.heap.size w0) nq
  replace hR := hR.below hbq hR.lt
  replace hr := hr.below hbq
  replace g := only_below g hbq
  clear hbq c0 c1 f1
  generalize w0.drewN nq = w3 at *
  rename World => w0
  go_wp2_with fail
  refine (fail_at (k := 6) hr hk).mono ?_
  rintro v w1 ⟨⟨u, rfl⟩, hr, hg⟩
  replace hR := Blk.turn hR hg (by omega)
  replace g := only_trans g hg
  clear hg
  obtain ⟨⟨y0, y1, y2, y3, y4, y5, y6, y7, y8, y9⟩, k0, k1, k2, k3, k4, k5, k6, k7, k8, k9⟩ := hR.ten
  go_wp2
  have hRz := Blk.puts0 hR [.int .i64 1, .int .i64 0, .int .i64 0, .int .u64 0, .int .u64 0, .int .u64 0, .int .u64 0, .int .i64 0, .int .i64 0, .bool false] rfl
  have hrz := hr.farPuts (g := w.heap.size) (by omega) (by have := tab_lt h.tab; omega) [.int .i64 1, .int .i64 0, .int .i64 0, .int .u64 0, .int .u64 0, .int .u64 0, .int .u64 0, .int .i64 0, .int .i64 0, .bool false] 0
  have gz := only_puts (g := w.heap.size) (Nat.le_refl _) [.int .i64 1, .int .i64 0, .int .i64 0, .int .u64 0, .int .u64 0, .int .u64 0, .int .u64 0, .int .i64 0, .int .i64 0, .bool false] 0 _ g
  simp only [putCells] at hRz hrz gz
  clear hR hr g y0 y1 y2 y3 y4 y5 y6 y7 y8 y9 k0 k1 k2 k3 k4 k5 k6 k7 k8 k9
  generalize World.setCell _ _ _ = wq at *
  refine ret_tok (b := w.heap.size) rfl rfl hRz rfl rfl ?_
  refine ⟨kindTok 1, k, 6, ?_, hrz, gz, by rw [HX.out]; exact ⟨rfl, rfl, by omega⟩⟩
  exact ret_congr (congrArg (fun l => Value.agg (List.toArray l)) (tokL_none 1 0 0 false 0 0).symm)
set_option maxRecDepth 100000 in
set_option maxHeartbeats 2000000 in
theorem grp_open {w : World} {b : Nat} {s : ByteArray} {j k : Nat} {lv : Value} (h : Rdr w b s j 0 lv) (_hk : k ≤ s.size) (h1 : (bytesN s)[j]? ≠ some 63) :
    Calls Tryz.prog 173 #[.pointer (some ⟨b, 0, none⟩), .int .i64 ((k : Nat) : Int)] w fun v w' => ∃ x j' e, v = .returned (tokV x 0 0) ∧ Rdr w' b s j' e lv ∧ w.grownBy w' (some b) ∧ TokIs (groupR (bytesN s) k j) x j' e := by
  have HX := Lib.hid (show groupR (bytesN s) k j = .ok (kindTok 1) j by unfold groupR; rw [if_neg h1])
  have H1 := Lib.hid h1
  clear h1
  have hjle := h.le
  have hsz := h.size
  have hblt := h.blk.lt
  go_enter Tryz.func173, Tryz.ntmps173
  go_upto_region 1 with fail
  have hR := Blk.new w [.int .i64 0, .int .i64 0, .int .i64 0, .int .u64 0, .int .u64 0, .int .u64 0, .int .u64 0, .int .i64 0, .int .i64 0, .bool false] 111
  have hr := h.below ((Below.refl _ w).alloc (Nat.le_refl _) (.cells #[.int .i64 0, .int .i64 0, .int .i64 0, .int .u64 0, .int .u64 0, .int .u64 0, .int .u64 0, .int .i64 0, .int .i64 0, .bool false] 111))
  have g := only_alloc (only_refl w b) (.cells #[.int .i64 0, .int .i64 0, .int .i64 0, .int .u64 0, .int .u64 0, .int .u64 0, .int .u64 0, .int .i64 0, .int .i64 0, .bool false] 111)
  generalize w.alloc _ = wa at *
  obtain ⟨c0, c1, _, _, f1, _, _⟩ := hr.cells
  go_quiet (first | (go_at_call 227; refine Calls.quiet_of_same (prefix_of _ _ _)))
  rw [prefix_free, decide_eq_false (fun g : (bytesN s)[j]? = some 63 ∧ (bytesN s)[j + 1]? = some 58 => H1.out g.1)]
  have hbq := below_drewN (Below.refl wa.heap.size wa) nq
  replace hR := hR.below hbq hR.lt
  replace hr := hr.below hbq
  replace g := only_below g hbq
  clear hbq c0 c1 f1
  generalize wa.drewN nq = w0 at *
  obtain ⟨c0, c1, _, _, f1, _, _⟩ := hr.cells
  go_upto_region 4 with fail
  go_quiet (first | (go_at_call 227; refine Calls.quiet_of_same (prefix_of _ _ _)))
  rw [prefix_ask, decide_eq_false H1.out]
  have hbq := below_drewN (Below.refl w0.heap.size w0) nq
  replace hR := hR.below hbq hR.lt
  replace hr := hr.below hbq
  replace g := only_below g hbq
  clear hbq c0 c1 f1
  generalize w0.drewN nq = w3 at *
  rename World => w0
  obtain ⟨⟨y0, y1, y2, y3, y4, y5, y6, y7, y8, y9⟩, k0, k1, k2, k3, k4, k5, k6, k7, k8, k9⟩ := hR.ten
  go_wp2
  have hRz := Blk.puts0 hR [.int .i64 1, .int .i64 0, .int .i64 0, .int .u64 0, .int .u64 0, .int .u64 0, .int .u64 0, .int .i64 0, .int .i64 0, .bool false] rfl
  have hrz := hr.farPuts (g := w.heap.size) (by omega) (by have := tab_lt h.tab; omega) [.int .i64 1, .int .i64 0, .int .i64 0, .int .u64 0, .int .u64 0, .int .u64 0, .int .u64 0, .int .i64 0, .int .i64 0, .bool false] 0
  have gz := only_puts (g := w.heap.size) (Nat.le_refl _) [.int .i64 1, .int .i64 0, .int .i64 0, .int .u64 0, .int .u64 0, .int .u64 0, .int .u64 0, .int .i64 0, .int .i64 0, .bool false] 0 _ g
  simp only [putCells] at hRz hrz gz
  clear hR hr g y0 y1 y2 y3 y4 y5 y6 y7 y8 y9 k0 k1 k2 k3 k4 k5 k6 k7 k8 k9
  generalize World.setCell _ _ _ = wq at *
  refine ret_tok (b := w.heap.size) rfl rfl hRz rfl rfl ?_
  refine ⟨kindTok 1, j, 0, ?_, hrz, gz, by rw [HX.out]; exact ⟨rfl, rfl, rfl⟩⟩
  exact ret_congr (congrArg (fun l => Value.agg (List.toArray l)) (tokL_none 1 0 0 false 0 0).symm)
theorem group_at {w : World} {b : Nat} {s : ByteArray} {j k : Nat} {lv : Value} (h : Rdr w b s j 0 lv) (hk : k ≤ s.size) :
    Calls Tryz.prog 173 #[.pointer (some ⟨b, 0, none⟩), .int .i64 ((k : Nat) : Int)] w fun v w' => ∃ x j' e, v = .returned (tokV x 0 0) ∧ Rdr w' b s j' e lv ∧ w.grownBy w' (some b) ∧ TokIs (groupR (bytesN s) k j) x j' e := by
  by_cases h1 : (bytesN s)[j]? = some 63
  · by_cases h2 : (bytesN s)[j + 1]? = some 58
    · exact grp_free h hk h1 h2
    · exact grp_other h hk h1 h2
  · exact grp_open h hk h1
end Go.Proofs.YtpiimcbbgalhfaaGreatDoor
