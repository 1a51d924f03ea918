/- group: an open group, whose bracket was read. -/
import Derived.Test.YtofhkgafgnldnaaDoorCountT
namespace Go.Proofs.YtofhkgafgnldnaaDoor
open Go.RowKit
theorem rest_list (s : ByteArray) (i : Nat) : (s.extract i s.size).data.toList = s.data.toList.drop i := by
  rw [ByteArray.data_extract, Array.toList_extract, List.extract_eq_take_drop]
  exact List.take_of_length_le (by rw [List.length_drop, Array.length_toList]; exact Nat.le_refl _)
theorem rest_at (s : ByteArray) (i k : Nat) : (bytesN s)[i + k]? = ((s.data.toList.drop i)[k]?).map (·.toNat) := by
  unfold bytesN
  rw [List.getElem?_map, List.getElem?_drop]
theorem u8_eq {x : UInt8} {n : Nat} (hn : n < 256) : x.toNat = n ↔ UInt8.ofNat n = x := by
  constructor
  · intro h
    apply UInt8.toNat_inj.1
    rw [UInt8.toNat_ofNat', h]
    omega
  · intro h
    rw [← h, UInt8.toNat_ofNat']
    omega
theorem prefix_ask (s : ByteArray) (i : Nat) : Lib.hasPrefix (s.extract i s.size).data.toList (⟨#[63]⟩ : ByteArray).data.toList = decide ((bytesN s)[i]? = some 63) := by
  rw [rest_list]
  have h0 := rest_at s i 0
  rw [Nat.add_zero] at h0
  rw [h0]
  unfold Lib.hasPrefix
  cases s.data.toList.drop i with
  | nil => rfl
  | cons x r =>
    simp only [List.getElem?_cons_zero, Option.map_some, Option.some.injEq]
    rw [Bool.eq_iff_iff]
    simp only [decide_eq_true_eq, u8_eq (show 63 < 256 by omega)]
    simp [List.isPrefixOf]
theorem prefix_free (s : ByteArray) (i : Nat) : Lib.hasPrefix (s.extract i s.size).data.toList (⟨#[63, 58]⟩ : ByteArray).data.toList = decide ((bytesN s)[i]? = some 63 ∧ (bytesN s)[i + 1]? = some 58) := by
  rw [rest_list]
  have h0 := rest_at s i 0
  rw [Nat.add_zero] at h0
  rw [h0, rest_at s i 1]
  unfold Lib.hasPrefix
  cases s.data.toList.drop i with
  | nil => rfl
  | cons x r =>
    simp only [List.getElem?_cons_zero, List.getElem?_cons_succ, Option.map_some, Option.some.injEq]
    rw [Bool.eq_iff_iff]
    simp only [decide_eq_true_eq, u8_eq (show 63 < 256 by omega)]
    cases r with
    | nil => simp [List.isPrefixOf]
    | cons y r =>
      simp only [List.getElem?_cons_zero, Option.map_some, Option.some.injEq, u8_eq (show 58 < 256 by omega)]
      simp [List.isPrefixOf]
theorem Rdr.jump {w : World} {b : Nat} {s : ByteArray} {i j e : Nat} {lv : Value} {v : Int} (h : Rdr w b s i e lv) (hv : v = ((j : Nat) : Int)) (hj : j ≤ s.size) :
    Rdr (w.setCell ⟨b, 1, none⟩ (.int .i64 v)) b s j e lv ∧ w.grownBy (w.setCell ⟨b, 1, none⟩ (.int .i64 v)) (some b) := by
  subst hv
  have hg := only_setCell (only_refl w b) 1 (.int .i64 ((j : Nat) : Int))
  exact ⟨h.turn hg hj (h.blk.set 1 _), hg⟩
def groupR (t : List Nat) (k j : Nat) : Res Tok := if t[j]? = some 63 then (if t[j + 1]? = some 58 then .ok (kindTok 2) (j + 2) else .err k 6) else .ok (kindTok 1) j
theorem groupM_R (t : List Nat) (i : Nat) : groupM t i = groupR t i (i + 1) := rfl
set_option maxRecDepth 100000 in
set_option maxHeartbeats 2000000 in
theorem grp_free {w : World} {b : Nat} {s : ByteArray} {j k : Nat} {lv : Value} (h : Rdr w b s j 0 lv) (hk : k ≤ s.size) (h1 : (bytesN s)[j]? = some 63) (h2 : (bytesN s)[j + 1]? = some 58) :
    Calls Tryd.prog 27 #[.pointer (some ⟨b, 0, none⟩), .int .i64 ((k : Nat) : Int)] w fun v w' => ∃ x j' e, v = .returned (tokV x 0 0) ∧ Rdr w' b s j' e lv ∧ w.grownBy w' (some b) ∧ TokIs (groupR (bytesN s) k j) x j' e := by
  have HX := Lib.hid (show groupR (bytesN s) k j = .ok (kindTok 2) (j + 2) by unfold groupR; rw [if_pos h1, if_pos h2])
  have H1 := Lib.hid h1
  have H2 := Lib.hid h2
  have hj2 : j + 1 + 1 ≤ s.size := (bytesN_some h2).1
  clear h1 h2
  have hjle := h.le
  have hsz := h.size
  have hblt := h.blk.lt
  go_enter Tryd.func27, Tryd.ntmps27
  go_upto_region 1 with fail
  have hR := Blk.new w [.int .i64 0, .int .i64 0, .int .i64 0, .int .u64 0, .int .u64 0, .int .u64 0, .int .u64 0, .int .i64 0, .int .i64 0, .bool false] 35
  have hr := h.below ((Below.refl _ w).alloc (Nat.le_refl _) (.cells #[.int .i64 0, .int .i64 0, .int .i64 0, .int .u64 0, .int .u64 0, .int .u64 0, .int .u64 0, .int .i64 0, .int .i64 0, .bool false] 35))
  have g := only_alloc (only_refl w b) (.cells #[.int .i64 0, .int .i64 0, .int .i64 0, .int .u64 0, .int .u64 0, .int .u64 0, .int .u64 0, .int .i64 0, .int .i64 0, .bool false] 35)
  generalize w.alloc _ = wa at *
  obtain ⟨c0, c1, _, _, f1, _, _⟩ := hr.cells
  go_quiet (first | (go_at_call 40; refine Calls.quiet_of_same (prefix_of _ _ _)))
  rw [prefix_free, decide_eq_true (And.intro H1.out H2.out)]
  have hbq := below_drewN (Below.refl wa.heap.size wa) nq
  replace hR := hR.below hbq hR.lt
  replace hr := hr.below hbq
  replace g := only_below g hbq
  clear hbq c0 c1 f1
  generalize wa.drewN nq = w0 at *
  obtain ⟨c0, c1, _, _, f1, _, _⟩ := hr.cells
  go_upto_region 3 with fail
  obtain ⟨hri, gi⟩ := Rdr.jump (v := ((j : Nat) : Int) + 2) (j := j + 2) hr (by omega) hj2
  have hRi := hR.far (p := ⟨b, 1, none⟩) (by show w.heap.size ≠ b; omega) (.int .i64 (((j : Nat) : Int) + 2))
  have g2 := only_trans g gi
  clear hR hr g gi c0 c1 f1
  have hR := hRi
  have hr := hri
  have g := g2
  clear hRi hri g2
  generalize World.setCell _ _ _ = w1 at *
  obtain ⟨⟨y0, y1, y2, y3, y4, y5, y6, y7, y8, y9⟩, k0, k1, k2, k3, k4, k5, k6, k7, k8, k9⟩ := hR.ten
  go_wp2
  have hRz := Blk.puts0 hR [.int .i64 2, .int .i64 0, .int .i64 0, .int .u64 0, .int .u64 0, .int .u64 0, .int .u64 0, .int .i64 0, .int .i64 0, .bool false] rfl
  have hrz := hr.farPuts (g := w.heap.size) (by omega) (by have := tab_lt h.tab; omega) [.int .i64 2, .int .i64 0, .int .i64 0, .int .u64 0, .int .u64 0, .int .u64 0, .int .u64 0, .int .i64 0, .int .i64 0, .bool false] 0
  have gz := only_puts (g := w.heap.size) (Nat.le_refl _) [.int .i64 2, .int .i64 0, .int .i64 0, .int .u64 0, .int .u64 0, .int .u64 0, .int .u64 0, .int .i64 0, .int .i64 0, .bool false] 0 _ g
  simp only [putCells] at hRz hrz gz
  clear hR hr g y0 y1 y2 y3 y4 y5 y6 y7 y8 y9 k0 k1 k2 k3 k4 k5 k6 k7 k8 k9
  generalize World.setCell _ _ _ = wq at *
  refine ret_tok (b := w.heap.size) rfl rfl hRz rfl rfl ?_
  refine ⟨kindTok 2, j + 2, 0, ?_, hrz, gz, by rw [HX.out]; exact ⟨rfl, rfl, rfl⟩⟩
  exact ret_congr (congrArg (fun l => Value.agg (List.toArray l)) (tokL_none 2 0 0 false 0 0).symm)
set_option maxRecDepth 100000 in
set_option maxHeartbeats 2000000 in
theorem grp_other {w : World} {b : Nat} {s : ByteArray} {j k : Nat} {lv : Value} (h : Rdr w b s j 0 lv) (hk : k ≤ s.size) (h1 : (bytesN s)[j]? = some 63) (h2 : (bytesN s)[j + 1]? ≠ some 58) :
    Calls Tryd.prog 27 #[.pointer (some ⟨b, 0, none⟩), .int .i64 ((k : Nat) : Int)] w fun v w' => ∃ x j' e, v = .returned (tokV x 0 0) ∧ Rdr w' b s j' e lv ∧ w.grownBy w' (some b) ∧ TokIs (groupR (bytesN s) k j) x j' e := by
  have HX := Lib.hid (show groupR (bytesN s) k j = .err k 6 by unfold groupR; rw [if_pos h1, if_neg h2])
  have H1 := Lib.hid h1
  have H2 := Lib.hid h2
  clear h1 h2
  have hjle := h.le
  have hsz := h.size
  have hblt := h.blk.lt
  go_enter Tryd.func27, Tryd.ntmps27
  go_upto_region 1 with fail
  have hR := Blk.new w [.int .i64 0, .int .i64 0, .int .i64 0, .int .u64 0, .int .u64 0, .int .u64 0, .int .u64 0, .int .i64 0, .int .i64 0, .bool false] 35
  have hr := h.below ((Below.refl _ w).alloc (Nat.le_refl _) (.cells #[.int .i64 0, .int .i64 0, .int .i64 0, .int .u64 0, .int .u64 0, .int .u64 0, .int .u64 0, .int .i64 0, .int .i64 0, .bool false] 35))
  have g := only_alloc (only_refl w b) (.cells #[.int .i64 0, .int .i64 0, .int .i64 0, .int .u64 0, .int .u64 0, .int .u64 0, .int .u64 0, .int .i64 0, .int .i64 0, .bool false] 35)
  generalize w.alloc _ = wa at *
  obtain ⟨c0, c1, _, _, f1, _, _⟩ := hr.cells
  go_quiet (first | (go_at_call 40; refine Calls.quiet_of_same (prefix_of _ _ _)))
  rw [prefix_free, decide_eq_false (fun g : (bytesN s)[j]? = some 63 ∧ (bytesN s)[j + 1]? = some 58 => H2.out g.2)]
  have hbq := below_drewN (Below.refl wa.heap.size wa) nq
  replace hR := hR.below hbq hR.lt
  replace hr := hr.below hbq
  replace g := only_below g hbq
  clear hbq c0 c1 f1
  generalize wa.drewN nq = w0 at *
  obtain ⟨c0, c1, _, _, f1, _, _⟩ := hr.cells
  go_upto_region 4 with fail
  go_quiet (first | (go_at_call 40; refine Calls.quiet_of_same (prefix_of _ _ _)))
  rw [prefix_ask, decide_eq_true H1.out]
  have hbq := below_drewN (Below.refl w0.heap.size w0) nq
  replace hR := hR.below hbq hR.lt
  replace hr := hr.below hbq
  replace g := only_below g hbq
  clear hbq c0 c1 f1
  generalize w0.drewN nq = w3 at *
  rename World => w0
  go_wp2_with fail
  refine (fail_at (k := 6) hr hk).mono ?_
  rintro v w1 ⟨⟨u, rfl⟩, hr, hg⟩
  replace hR := Blk.turn hR hg (by omega)
  replace g := only_trans g hg
  clear hg
  obtain ⟨⟨y0, y1, y2, y3, y4, y5, y6, y7, y8, y9⟩, k0, k1, k2, k3, k4, k5, k6, k7, k8, k9⟩ := hR.ten
  go_wp2
  have hRz := Blk.puts0 hR [.int .i64 1, .int .i64 0, .int .i64 0, .int .u64 0, .int .u64 0, .int .u64 0, .int .u64 0, .int .i64 0, .int .i64 0, .bool false] rfl
  have hrz := hr.farPuts (g := w.heap.size) (by omega) (by have := tab_lt h.tab; omega) [.int .i64 1, .int .i64 0, .int .i64 0, .int .u64 0, .int .u64 0, .int .u64 0, .int .u64 0, .int .i64 0, .int .i64 0, .bool false] 0
  have gz := only_puts (g := w.heap.size) (Nat.le_refl _) [.int .i64 1, .int .i64 0, .int .i64 0, .int .u64 0, .int .u64 0, .int .u64 0, .int .u64 0, .int .i64 0, .int .i64 0, .bool false] 0 _ g
  simp only [putCells] at hRz hrz gz
  clear hR hr g y0 y1 y2 y3 y4 y5 y6 y7 y8 y9 k0 k1 k2 k3 k4 k5 k6 k7 k8 k9
  generalize World.setCell _ _ _ = wq at *
  refine ret_tok (b := w.heap.size) rfl rfl hRz rfl rfl ?_
  refine ⟨kindTok 1, k, 6, ?_, hrz, gz, by rw [HX.out]; exact ⟨rfl, rfl, by omega⟩⟩
  exact ret_congr (congrArg (fun l => Value.agg (List.toArray l)) (tokL_none 1 0 0 false 0 0).symm)
set_option maxRecDepth 100000 in
set_option maxHeartbeats 2000000 in
theorem grp_open {w : World} {b : Nat} {s : ByteArray} {j k : Nat} {lv : Value} (h : Rdr w b s j 0 lv) (hk : k ≤ s.size) (h1 : (bytesN s)[j]? ≠ some 63) :
    Calls Tryd.prog 27 #[.pointer (some ⟨b, 0, none⟩), .int .i64 ((k : Nat) : Int)] w fun v w' => ∃ x j' e, v = .returned (tokV x 0 0) ∧ Rdr w' b s j' e lv ∧ w.grownBy w' (some b) ∧ TokIs (groupR (bytesN s) k j) x j' e := by
  have HX := Lib.hid (show groupR (bytesN s) k j = .ok (kindTok 1) j by unfold groupR; rw [if_neg h1])
  have H1 := Lib.hid h1
  clear h1
  have hjle := h.le
  have hsz := h.size
  have hblt := h.blk.lt
  go_enter Tryd.func27, Tryd.ntmps27
  go_upto_region 1 with fail
  have hR := Blk.new w [.int .i64 0, .int .i64 0, .int .i64 0, .int .u64 0, .int .u64 0, .int .u64 0, .int .u64 0, .int .i64 0, .int .i64 0, .bool false] 35
  have hr := h.below ((Below.refl _ w).alloc (Nat.le_refl _) (.cells #[.int .i64 0, .int .i64 0, .int .i64 0, .int .u64 0, .int .u64 0, .int .u64 0, .int .u64 0, .int .i64 0, .int .i64 0, .bool false] 35))
  have g := only_alloc (only_refl w b) (.cells #[.int .i64 0, .int .i64 0, .int .i64 0, .int .u64 0, .int .u64 0, .int .u64 0, .int .u64 0, .int .i64 0, .int .i64 0, .bool false] 35)
  generalize w.alloc _ = wa at *
  obtain ⟨c0, c1, _, _, f1, _, _⟩ := hr.cells
  go_quiet (first | (go_at_call 40; refine Calls.quiet_of_same (prefix_of _ _ _)))
  rw [prefix_free, decide_eq_false (fun g : (bytesN s)[j]? = some 63 ∧ (bytesN s)[j + 1]? = some 58 => H1.out g.1)]
  have hbq := below_drewN (Below.refl wa.heap.size wa) nq
  replace hR := hR.below hbq hR.lt
  replace hr := hr.below hbq
  replace g := only_below g hbq
  clear hbq c0 c1 f1
  generalize wa.drewN nq = w0 at *
  obtain ⟨c0, c1, _, _, f1, _, _⟩ := hr.cells
  go_upto_region 4 with fail
  go_quiet (first | (go_at_call 40; refine Calls.quiet_of_same (prefix_of _ _ _)))
  rw [prefix_ask, decide_eq_false H1.out]
  have hbq := below_drewN (Below.refl w0.heap.size w0) nq
  replace hR := hR.below hbq hR.lt
  replace hr := hr.below hbq
  replace g := only_below g hbq
  clear hbq c0 c1 f1
  generalize w0.drewN nq = w3 at *
  rename World => w0
  obtain ⟨⟨y0, y1, y2, y3, y4, y5, y6, y7, y8, y9⟩, k0, k1, k2, k3, k4, k5, k6, k7, k8, k9⟩ := hR.ten
  go_wp2
  have hRz := Blk.puts0 hR [.int .i64 1, .int .i64 0, .int .i64 0, .int .u64 0, .int .u64 0, .int .u64 0, .int .u64 0, .int .i64 0, .int .i64 0, .bool false] rfl
  have hrz := hr.farPuts (g := w.heap.size) (by omega) (by have := tab_lt h.tab; omega) [.int .i64 1, .int .i64 0, .int .i64 0, .int .u64 0, .int .u64 0, .int .u64 0, .int .u64 0, .int .i64 0, .int .i64 0, .bool false] 0
  have gz := only_puts (g := w.heap.size) (Nat.le_refl _) [.int .i64 1, .int .i64 0, .int .i64 0, .int .u64 0, .int .u64 0, .int .u64 0, .int .u64 0, .int .i64 0, .int .i64 0, .bool false] 0 _ g
  simp only [putCells] at hRz hrz gz
  clear hR hr g y0 y1 y2 y3 y4 y5 y6 y7 y8 y9 k0 k1 k2 k3 k4 k5 k6 k7 k8 k9
  generalize World.setCell _ _ _ = wq at *
  refine ret_tok (b := w.heap.size) rfl rfl hRz rfl rfl ?_
  refine ⟨kindTok 1, j, 0, ?_, hrz, gz, by rw [HX.out]; exact ⟨rfl, rfl, rfl⟩⟩
  exact ret_congr (congrArg (fun l => Value.agg (List.toArray l)) (tokL_none 1 0 0 false 0 0).symm)
theorem group_at {w : World} {b : Nat} {s : ByteArray} {j k : Nat} {lv : Value} (h : Rdr w b s j 0 lv) (hk : k ≤ s.size) :
    Calls Tryd.prog 27 #[.pointer (some ⟨b, 0, none⟩), .int .i64 ((k : Nat) : Int)] w fun v w' => ∃ x j' e, v = .returned (tokV x 0 0) ∧ Rdr w' b s j' e lv ∧ w.grownBy w' (some b) ∧ TokIs (groupR (bytesN s) k j) x j' e := by
  by_cases h1 : (bytesN s)[j]? = some 63
  · by_cases h2 : (bytesN s)[j + 1]? = some 58
    · exact grp_free h hk h1 h2
    · exact grp_other h hk h1 h2
  · exact grp_open h hk h1
end Go.Proofs.YtofhkgafgnldnaaDoor
