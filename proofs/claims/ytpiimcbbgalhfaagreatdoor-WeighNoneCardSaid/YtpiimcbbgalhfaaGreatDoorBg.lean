/- one: a token. -/
import Derived.Test.YtpiimcbbgalhfaaGreatDoorBf
namespace Go.Proofs.YtpiimcbbgalhfaaGreatDoor
set_option maxRecDepth 100000
open Go.RowKit
theorem setRes_is {r : Res (Nat → Bool)} {m : Nat → Bool} {j e : Nat} (h : SetIs r m j e) : TokIs (setRes r) (setTok m) j e := by
  cases r with
  | ok m' j' => obtain ⟨rfl, rfl, rfl⟩ := h; exact ⟨rfl, rfl, rfl⟩
  | err j' e' => obtain ⟨rfl, rfl, h3⟩ := h; exact ⟨rfl, rfl, h3⟩
set_option maxRecDepth 100000 in
set_option maxHeartbeats 2000000 in
theorem one_esc {w : World} {b : Nat} {s : ByteArray} {i : Nat} {lv : Value} (h : Rdr w b s i 0 lv) (hi : i < s.size) (c : Nat) (hc : (bytesN s)[i]? = some c)  (hx : c = 92) :
    Calls Tryz.prog 129 #[.pointer (some ⟨b, 0, none⟩)] w fun v w' => ∃ x j e, v = .returned (tokV x 0 0) ∧ Rdr w' b s j e lv ∧ w.grownBy w' (some b) ∧ TokIs (tokM (bytesN s) i) x j e := by
  have hc256 := bytesN_lt hc
  have hby : (s[i]'hi).toNat = c := by obtain ⟨_, e⟩ := bytesN_some hc; exact e
  have HX := Lib.hid (show tokM (bytesN s) i = setRes (escM (bytesN s) i) by unfold tokM; rw [hc]; dsimp only; rw [if_pos hx])
  clear hc
  have Hhx := Lib.hid hx
  clear hx
  have hsz := h.size
  have hblt := h.blk.lt
  obtain ⟨c0, c1, _, _, f1, _, _⟩ := h.cells
  go_enter Tryz.func129, Tryz.ntmps129
  go_upto_region 1 with fail
  have hR := Blk.new w [.int .i64 0, .int .i64 0, .int .i64 0, .int .u64 0, .int .u64 0, .int .u64 0, .int .u64 0, .int .i64 0, .int .i64 0, .bool false] 111
  have hr := h.below ((Below.refl _ w).alloc (Nat.le_refl _) (.cells #[.int .i64 0, .int .i64 0, .int .i64 0, .int .u64 0, .int .u64 0, .int .u64 0, .int .u64 0, .int .i64 0, .int .i64 0, .bool false] 111))
  have g := only_alloc (only_refl w b) (.cells #[.int .i64 0, .int .i64 0, .int .i64 0, .int .u64 0, .int .u64 0, .int .u64 0, .int .u64 0, .int .i64 0, .int .i64 0, .bool false] 111)
  clear c0 c1 f1
  generalize w.alloc _ = w0 at *
  obtain ⟨c0, c1, _, _, f1, _, _⟩ := hr.cells
  go_upto_region 3 with fail
  have hx' : ((c : Nat) : Int) = 92 := by have := Hhx.out; omega
  go_wp2_with fail
  refine (escape_at hr hi).mono ?_
  rintro v w0 ⟨m, j, e, rfl, hr, hg, hres⟩
  replace hR := Blk.turn hR hg (by omega)
  replace g := only_trans g hg
  clear hg
  have HRs := Lib.hid hres
  clear hres
  unfold setV
  obtain ⟨⟨y0, y1, y2, y3, y4, y5, y6, y7, y8, y9⟩, k0, k1, k2, k3, k4, k5, k6, k7, k8, k9⟩ := hR.ten
  go_wp2
  have hRz := Blk.puts0 hR [.int .i64 0, .int .i64 0, .int .i64 0, .int .u64 (word (m) 0), .int .u64 (word (m) 1), .int .u64 (word (m) 2), .int .u64 (word (m) 3), .int .i64 0, .int .i64 0, .bool false] rfl
  have hrz := hr.farPuts (g := w.heap.size) (by omega) (by have := tab_lt h.tab; omega) [.int .i64 0, .int .i64 0, .int .i64 0, .int .u64 (word (m) 0), .int .u64 (word (m) 1), .int .u64 (word (m) 2), .int .u64 (word (m) 3), .int .i64 0, .int .i64 0, .bool false] 0
  have gz := only_puts (g := w.heap.size) (Nat.le_refl _) [.int .i64 0, .int .i64 0, .int .i64 0, .int .u64 (word (m) 0), .int .u64 (word (m) 1), .int .u64 (word (m) 2), .int .u64 (word (m) 3), .int .i64 0, .int .i64 0, .bool false] 0 _ g
  simp only [putCells] at hRz hrz gz
  clear hR hr g y0 y1 y2 y3 y4 y5 y6 y7 y8 y9 k0 k1 k2 k3 k4 k5 k6 k7 k8 k9
  generalize World.setCell _ _ _ = wq at *
  refine ret_tok (b := w.heap.size) rfl rfl hRz rfl rfl ?_
  refine ⟨setTok (m), j, e, ?_, hrz, gz, by rw [HX.out]; exact setRes_is HRs.out⟩
  exact ret_congr (congrArg (fun l => Value.agg (List.toArray l)) (show [.int .i64 0, .int .i64 0, .int .i64 0, .int .u64 (word (m) 0), .int .u64 (word (m) 1), .int .u64 (word (m) 2), .int .u64 (word (m) 3), .int .i64 0, .int .i64 0, .bool false] = tokL (setTok (m)) 0 0 from rfl))
set_option maxRecDepth 100000 in
set_option maxHeartbeats 2000000 in
theorem one_cls {w : World} {b : Nat} {s : ByteArray} {i : Nat} {lv : Value} (h : Rdr w b s i 0 lv) (hi : i < s.size) (c : Nat) (hc : (bytesN s)[i]? = some c) (n92 : c ≠ 92) (hx : c = 91) :
    Calls Tryz.prog 129 #[.pointer (some ⟨b, 0, none⟩)] w fun v w' => ∃ x j e, v = .returned (tokV x 0 0) ∧ Rdr w' b s j e lv ∧ w.grownBy w' (some b) ∧ TokIs (tokM (bytesN s) i) x j e := by
  have hc256 := bytesN_lt hc
  have hby : (s[i]'hi).toNat = c := by obtain ⟨_, e⟩ := bytesN_some hc; exact e
  have HX := Lib.hid (show tokM (bytesN s) i = setRes (classM (bytesN s) i) by unfold tokM; rw [hc]; dsimp only; rw [if_neg n92, if_pos hx])
  clear hc
  have Hhx := Lib.hid hx
  clear hx
  have hsz := h.size
  have hblt := h.blk.lt
  obtain ⟨c0, c1, _, _, f1, _, _⟩ := h.cells
  go_enter Tryz.func129, Tryz.ntmps129
  go_upto_region 1 with fail
  have hR := Blk.new w [.int .i64 0, .int .i64 0, .int .i64 0, .int .u64 0, .int .u64 0, .int .u64 0, .int .u64 0, .int .i64 0, .int .i64 0, .bool false] 111
  have hr := h.below ((Below.refl _ w).alloc (Nat.le_refl _) (.cells #[.int .i64 0, .int .i64 0, .int .i64 0, .int .u64 0, .int .u64 0, .int .u64 0, .int .u64 0, .int .i64 0, .int .i64 0, .bool false] 111))
  have g := only_alloc (only_refl w b) (.cells #[.int .i64 0, .int .i64 0, .int .i64 0, .int .u64 0, .int .u64 0, .int .u64 0, .int .u64 0, .int .i64 0, .int .i64 0, .bool false] 111)
  clear c0 c1 f1
  generalize w.alloc _ = w0 at *
  obtain ⟨c0, c1, _, _, f1, _, _⟩ := hr.cells
  go_upto_region 3 with fail
  have hx' : ((c : Nat) : Int) = 91 := by have := Hhx.out; omega
  go_wp2_with fail
  refine (class_at hr hi).mono ?_
  rintro v w0 ⟨m, j, e, rfl, hr, hg, hres⟩
  replace hR := Blk.turn hR hg (by omega)
  replace g := only_trans g hg
  clear hg
  have HRs := Lib.hid hres
  clear hres
  unfold setV
  obtain ⟨⟨y0, y1, y2, y3, y4, y5, y6, y7, y8, y9⟩, k0, k1, k2, k3, k4, k5, k6, k7, k8, k9⟩ := hR.ten
  go_wp2
  have hRz := Blk.puts0 hR [.int .i64 0, .int .i64 0, .int .i64 0, .int .u64 (word (m) 0), .int .u64 (word (m) 1), .int .u64 (word (m) 2), .int .u64 (word (m) 3), .int .i64 0, .int .i64 0, .bool false] rfl
  have hrz := hr.farPuts (g := w.heap.size) (by omega) (by have := tab_lt h.tab; omega) [.int .i64 0, .int .i64 0, .int .i64 0, .int .u64 (word (m) 0), .int .u64 (word (m) 1), .int .u64 (word (m) 2), .int .u64 (word (m) 3), .int .i64 0, .int .i64 0, .bool false] 0
  have gz := only_puts (g := w.heap.size) (Nat.le_refl _) [.int .i64 0, .int .i64 0, .int .i64 0, .int .u64 (word (m) 0), .int .u64 (word (m) 1), .int .u64 (word (m) 2), .int .u64 (word (m) 3), .int .i64 0, .int .i64 0, .bool false] 0 _ g
  simp only [putCells] at hRz hrz gz
  clear hR hr g y0 y1 y2 y3 y4 y5 y6 y7 y8 y9 k0 k1 k2 k3 k4 k5 k6 k7 k8 k9
  generalize World.setCell _ _ _ = wq at *
  refine ret_tok (b := w.heap.size) rfl rfl hRz rfl rfl ?_
  refine ⟨setTok (m), j, e, ?_, hrz, gz, by rw [HX.out]; exact setRes_is HRs.out⟩
  exact ret_congr (congrArg (fun l => Value.agg (List.toArray l)) (show [.int .i64 0, .int .i64 0, .int .i64 0, .int .u64 (word (m) 0), .int .u64 (word (m) 1), .int .u64 (word (m) 2), .int .u64 (word (m) 3), .int .i64 0, .int .i64 0, .bool false] = tokL (setTok (m)) 0 0 from rfl))
set_option maxRecDepth 100000 in
set_option maxHeartbeats 2000000 in
theorem one_group {w : World} {b : Nat} {s : ByteArray} {i : Nat} {lv : Value} (h : Rdr w b s i 0 lv) (hi : i < s.size) (c : Nat) (hc : (bytesN s)[i]? = some c) (n92 : c ≠ 92) (n91 : c ≠ 91) (hx : c = 40) :
    Calls Tryz.prog 129 #[.pointer (some ⟨b, 0, none⟩)] w fun v w' => ∃ x j e, v = .returned (tokV x 0 0) ∧ Rdr w' b s j e lv ∧ w.grownBy w' (some b) ∧ TokIs (tokM (bytesN s) i) x j e := by
  have hc256 := bytesN_lt hc
  have hby : (s[i]'hi).toNat = c := by obtain ⟨_, e⟩ := bytesN_some hc; exact e
  have HX := Lib.hid (show tokM (bytesN s) i = groupR (bytesN s) i (i + 1) by unfold tokM; rw [hc]; dsimp only; rw [if_neg n92, if_neg n91, if_pos hx]; exact groupM_R _ _)
  clear hc
  have Hhx := Lib.hid hx
  clear hx
  have hsz := h.size
  have hblt := h.blk.lt
  obtain ⟨c0, c1, _, _, f1, _, _⟩ := h.cells
  go_enter Tryz.func129, Tryz.ntmps129
  go_upto_region 1 with fail
  have hR := Blk.new w [.int .i64 0, .int .i64 0, .int .i64 0, .int .u64 0, .int .u64 0, .int .u64 0, .int .u64 0, .int .i64 0, .int .i64 0, .bool false] 111
  have hr := h.below ((Below.refl _ w).alloc (Nat.le_refl _) (.cells #[.int .i64 0, .int .i64 0, .int .i64 0, .int .u64 0, .int .u64 0, .int .u64 0, .int .u64 0, .int .i64 0, .int .i64 0, .bool false] 111))
  have g := only_alloc (only_refl w b) (.cells #[.int .i64 0, .int .i64 0, .int .i64 0, .int .u64 0, .int .u64 0, .int .u64 0, .int .u64 0, .int .i64 0, .int .i64 0, .bool false] 111)
  clear c0 c1 f1
  generalize w.alloc _ = w0 at *
  obtain ⟨c0, c1, _, _, f1, _, _⟩ := hr.cells
  go_upto_region 3 with fail
  go_upto_region 9 with fail
  obtain ⟨hri, gi⟩ := hr.incv (v := ((i : Nat) : Int) + 1) (by omega) hi
  have hRi := hR.far (p := ⟨b, 1, none⟩) (by show w.heap.size ≠ b; omega) (.int .i64 (((i : Nat) : Int) + 1))
  have g2 := only_trans g gi
  clear hR hr g gi c0 c1 f1
  have hR := hRi
  have hr := hri
  have g := g2
  clear hRi hri g2
  generalize World.setCell _ _ _ = w1 at *
  rename World => w0
  have hx' : ((c : Nat) : Int) = 40 := by have := Hhx.out; omega
  go_wp2_with fail
  refine (group_at hr (k := i) (by omega)).mono ?_
  rintro v w0 ⟨x, j, e, rfl, hr, hg, hres⟩
  replace hR := Blk.turn hR hg (by omega)
  replace g := only_trans g hg
  clear hg
  have HRs := Lib.hid hres
  clear hres
  unfold tokV
  obtain ⟨⟨y0, y1, y2, y3, y4, y5, y6, y7, y8, y9⟩, k0, k1, k2, k3, k4, k5, k6, k7, k8, k9⟩ := hR.ten
  go_wp2
  have hRz := Blk.puts0 hR (tokL x 0 0) rfl
  have hrz := hr.farPuts (g := w.heap.size) (by omega) (by have := tab_lt h.tab; omega) (tokL x 0 0) 0
  have gz := only_puts (g := w.heap.size) (Nat.le_refl _) (tokL x 0 0) 0 _ g
  simp only [putCells] at hRz hrz gz
  clear hR hr g y0 y1 y2 y3 y4 y5 y6 y7 y8 y9 k0 k1 k2 k3 k4 k5 k6 k7 k8 k9
  generalize World.setCell _ _ _ = wq at *
  refine ret_tok (b := w.heap.size) rfl rfl hRz rfl rfl ?_
  exact ⟨x, j, e, rfl, hrz, gz, by rw [HX.out]; exact HRs.out⟩
set_option maxRecDepth 100000 in
set_option maxHeartbeats 2000000 in
theorem one_k3 {w : World} {b : Nat} {s : ByteArray} {i : Nat} {lv : Value} (h : Rdr w b s i 0 lv) (hi : i < s.size) (c : Nat) (hc : (bytesN s)[i]? = some c) (n92 : c ≠ 92) (n91 : c ≠ 91) (n40 : c ≠ 40) (hx : c = 41) :
    Calls Tryz.prog 129 #[.pointer (some ⟨b, 0, none⟩)] w fun v w' => ∃ x j e, v = .returned (tokV x 0 0) ∧ Rdr w' b s j e lv ∧ w.grownBy w' (some b) ∧ TokIs (tokM (bytesN s) i) x j e := by
  have hc256 := bytesN_lt hc
  have hby : (s[i]'hi).toNat = c := by obtain ⟨_, e⟩ := bytesN_some hc; exact e
  have HX := Lib.hid (show tokM (bytesN s) i = .ok (kindTok 3) (i + 1) by unfold tokM; rw [hc]; dsimp only; rw [if_neg n92, if_neg n91, if_neg n40, if_pos hx])
  clear hc
  have Hhx := Lib.hid hx
  clear hx
  have hsz := h.size
  have hblt := h.blk.lt
  obtain ⟨c0, c1, _, _, f1, _, _⟩ := h.cells
  go_enter Tryz.func129, Tryz.ntmps129
  go_upto_region 1 with fail
  have hR := Blk.new w [.int .i64 0, .int .i64 0, .int .i64 0, .int .u64 0, .int .u64 0, .int .u64 0, .int .u64 0, .int .i64 0, .int .i64 0, .bool false] 111
  have hr := h.below ((Below.refl _ w).alloc (Nat.le_refl _) (.cells #[.int .i64 0, .int .i64 0, .int .i64 0, .int .u64 0, .int .u64 0, .int .u64 0, .int .u64 0, .int .i64 0, .int .i64 0, .bool false] 111))
  have g := only_alloc (only_refl w b) (.cells #[.int .i64 0, .int .i64 0, .int .i64 0, .int .u64 0, .int .u64 0, .int .u64 0, .int .u64 0, .int .i64 0, .int .i64 0, .bool false] 111)
  clear c0 c1 f1
  generalize w.alloc _ = w0 at *
  obtain ⟨c0, c1, _, _, f1, _, _⟩ := hr.cells
  go_upto_region 3 with fail
  go_upto_region 9 with fail
  obtain ⟨hri, gi⟩ := hr.incv (v := ((i : Nat) : Int) + 1) (by omega) hi
  have hRi := hR.far (p := ⟨b, 1, none⟩) (by show w.heap.size ≠ b; omega) (.int .i64 (((i : Nat) : Int) + 1))
  have g2 := only_trans g gi
  clear hR hr g gi c0 c1 f1
  have hR := hRi
  have hr := hri
  have g := g2
  clear hRi hri g2
  generalize World.setCell _ _ _ = w1 at *
  rename World => w0
  have hx' : ((c : Nat) : Int) = 41 := by have := Hhx.out; omega
  obtain ⟨⟨y0, y1, y2, y3, y4, y5, y6, y7, y8, y9⟩, k0, k1, k2, k3, k4, k5, k6, k7, k8, k9⟩ := hR.ten
  go_wp2
  have hRz := Blk.puts0 hR [.int .i64 3, .int .i64 0, .int .i64 0, .int .u64 0, .int .u64 0, .int .u64 0, .int .u64 0, .int .i64 0, .int .i64 0, .bool false] rfl
  have hrz := hr.farPuts (g := w.heap.size) (by omega) (by have := tab_lt h.tab; omega) [.int .i64 3, .int .i64 0, .int .i64 0, .int .u64 0, .int .u64 0, .int .u64 0, .int .u64 0, .int .i64 0, .int .i64 0, .bool false] 0
  have gz := only_puts (g := w.heap.size) (Nat.le_refl _) [.int .i64 3, .int .i64 0, .int .i64 0, .int .u64 0, .int .u64 0, .int .u64 0, .int .u64 0, .int .i64 0, .int .i64 0, .bool false] 0 _ g
  simp only [putCells] at hRz hrz gz
  clear hR hr g y0 y1 y2 y3 y4 y5 y6 y7 y8 y9 k0 k1 k2 k3 k4 k5 k6 k7 k8 k9
  generalize World.setCell _ _ _ = wq at *
  refine ret_tok (b := w.heap.size) rfl rfl hRz rfl rfl ?_
  refine ⟨kindTok 3, i + 1, 0, ?_, hrz, gz, by rw [HX.out]; exact ⟨rfl, rfl, rfl⟩⟩
  exact ret_congr (congrArg (fun l => Value.agg (List.toArray l)) (tokL_none 3 0 0 false 0 0).symm)
set_option maxRecDepth 100000 in
set_option maxHeartbeats 2000000 in
theorem one_k4 {w : World} {b : Nat} {s : ByteArray} {i : Nat} {lv : Value} (h : Rdr w b s i 0 lv) (hi : i < s.size) (c : Nat) (hc : (bytesN s)[i]? = some c) (n92 : c ≠ 92) (n91 : c ≠ 91) (n40 : c ≠ 40) (n41 : c ≠ 41) (hx : c = 124) :
    Calls Tryz.prog 129 #[.pointer (some ⟨b, 0, none⟩)] w fun v w' => ∃ x j e, v = .returned (tokV x 0 0) ∧ Rdr w' b s j e lv ∧ w.grownBy w' (some b) ∧ TokIs (tokM (bytesN s) i) x j e := by
  have hc256 := bytesN_lt hc
  have hby : (s[i]'hi).toNat = c := by obtain ⟨_, e⟩ := bytesN_some hc; exact e
  have HX := Lib.hid (show tokM (bytesN s) i = .ok (kindTok 4) (i + 1) by unfold tokM; rw [hc]; dsimp only; rw [if_neg n92, if_neg n91, if_neg n40, if_neg n41, if_pos hx])
  clear hc
  have Hhx := Lib.hid hx
  clear hx
  have hsz := h.size
  have hblt := h.blk.lt
  obtain ⟨c0, c1, _, _, f1, _, _⟩ := h.cells
  go_enter Tryz.func129, Tryz.ntmps129
  go_upto_region 1 with fail
  have hR := Blk.new w [.int .i64 0, .int .i64 0, .int .i64 0, .int .u64 0, .int .u64 0, .int .u64 0, .int .u64 0, .int .i64 0, .int .i64 0, .bool false] 111
  have hr := h.below ((Below.refl _ w).alloc (Nat.le_refl _) (.cells #[.int .i64 0, .int .i64 0, .int .i64 0, .int .u64 0, .int .u64 0, .int .u64 0, .int .u64 0, .int .i64 0, .int .i64 0, .bool false] 111))
  have g := only_alloc (only_refl w b) (.cells #[.int .i64 0, .int .i64 0, .int .i64 0, .int .u64 0, .int .u64 0, .int .u64 0, .int .u64 0, .int .i64 0, .int .i64 0, .bool false] 111)
  clear c0 c1 f1
  generalize w.alloc _ = w0 at *
  obtain ⟨c0, c1, _, _, f1, _, _⟩ := hr.cells
  go_upto_region 3 with fail
  go_upto_region 9 with fail
  obtain ⟨hri, gi⟩ := hr.incv (v := ((i : Nat) : Int) + 1) (by omega) hi
  have hRi := hR.far (p := ⟨b, 1, none⟩) (by show w.heap.size ≠ b; omega) (.int .i64 (((i : Nat) : Int) + 1))
  have g2 := only_trans g gi
  clear hR hr g gi c0 c1 f1
  have hR := hRi
  have hr := hri
  have g := g2
  clear hRi hri g2
  generalize World.setCell _ _ _ = w1 at *
  rename World => w0
  have hx' : ((c : Nat) : Int) = 124 := by have := Hhx.out; omega
  obtain ⟨⟨y0, y1, y2, y3, y4, y5, y6, y7, y8, y9⟩, k0, k1, k2, k3, k4, k5, k6, k7, k8, k9⟩ := hR.ten
  go_wp2
  have hRz := Blk.puts0 hR [.int .i64 4, .int .i64 0, .int .i64 0, .int .u64 0, .int .u64 0, .int .u64 0, .int .u64 0, .int .i64 0, .int .i64 0, .bool false] rfl
  have hrz := hr.farPuts (g := w.heap.size) (by omega) (by have := tab_lt h.tab; omega) [.int .i64 4, .int .i64 0, .int .i64 0, .int .u64 0, .int .u64 0, .int .u64 0, .int .u64 0, .int .i64 0, .int .i64 0, .bool false] 0
  have gz := only_puts (g := w.heap.size) (Nat.le_refl _) [.int .i64 4, .int .i64 0, .int .i64 0, .int .u64 0, .int .u64 0, .int .u64 0, .int .u64 0, .int .i64 0, .int .i64 0, .bool false] 0 _ g
  simp only [putCells] at hRz hrz gz
  clear hR hr g y0 y1 y2 y3 y4 y5 y6 y7 y8 y9 k0 k1 k2 k3 k4 k5 k6 k7 k8 k9
  generalize World.setCell _ _ _ = wq at *
  refine ret_tok (b := w.heap.size) rfl rfl hRz rfl rfl ?_
  refine ⟨kindTok 4, i + 1, 0, ?_, hrz, gz, by rw [HX.out]; exact ⟨rfl, rfl, rfl⟩⟩
  exact ret_congr (congrArg (fun l => Value.agg (List.toArray l)) (tokL_none 4 0 0 false 0 0).symm)
set_option maxRecDepth 100000 in
set_option maxHeartbeats 2000000 in
theorem one_dot {w : World} {b : Nat} {s : ByteArray} {i : Nat} {lv : Value} (h : Rdr w b s i 0 lv) (hi : i < s.size) (c : Nat) (hc : (bytesN s)[i]? = some c) (n92 : c ≠ 92) (n91 : c ≠ 91) (n40 : c ≠ 40) (n41 : c ≠ 41) (n124 : c ≠ 124) (hx : c = 46) :
    Calls Tryz.prog 129 #[.pointer (some ⟨b, 0, none⟩)] w fun v w' => ∃ x j e, v = .returned (tokV x 0 0) ∧ Rdr w' b s j e lv ∧ w.grownBy w' (some b) ∧ TokIs (tokM (bytesN s) i) x j e := by
  have hc256 := bytesN_lt hc
  have hby : (s[i]'hi).toNat = c := by obtain ⟨_, e⟩ := bytesN_some hc; exact e
  have HX := Lib.hid (show tokM (bytesN s) i = .ok (setTok (notM (oneM 10))) (i + 1) by unfold tokM; rw [hc]; dsimp only; rw [if_neg n92, if_neg n91, if_neg n40, if_neg n41, if_neg n124, if_pos hx])
  clear hc
  have Hhx := Lib.hid hx
  clear hx
  have hsz := h.size
  have hblt := h.blk.lt
  obtain ⟨c0, c1, _, _, f1, _, _⟩ := h.cells
  go_enter Tryz.func129, Tryz.ntmps129
  go_upto_region 1 with fail
  have hR := Blk.new w [.int .i64 0, .int .i64 0, .int .i64 0, .int .u64 0, .int .u64 0, .int .u64 0, .int .u64 0, .int .i64 0, .int .i64 0, .bool false] 111
  have hr := h.below ((Below.refl _ w).alloc (Nat.le_refl _) (.cells #[.int .i64 0, .int .i64 0, .int .i64 0, .int .u64 0, .int .u64 0, .int .u64 0, .int .u64 0, .int .i64 0, .int .i64 0, .bool false] 111))
  have g := only_alloc (only_refl w b) (.cells #[.int .i64 0, .int .i64 0, .int .i64 0, .int .u64 0, .int .u64 0, .int .u64 0, .int .u64 0, .int .i64 0, .int .i64 0, .bool false] 111)
  clear c0 c1 f1
  generalize w.alloc _ = w0 at *
  obtain ⟨c0, c1, _, _, f1, _, _⟩ := hr.cells
  go_upto_region 3 with fail
  go_upto_region 9 with fail
  obtain ⟨hri, gi⟩ := hr.incv (v := ((i : Nat) : Int) + 1) (by omega) hi
  have hRi := hR.far (p := ⟨b, 1, none⟩) (by show w.heap.size ≠ b; omega) (.int .i64 (((i : Nat) : Int) + 1))
  have g2 := only_trans g gi
  clear hR hr g gi c0 c1 f1
  have hR := hRi
  have hr := hri
  have g := g2
  clear hRi hri g2
  generalize World.setCell _ _ _ = w1 at *
  rename World => w0
  have hx' : ((c : Nat) : Int) = 46 := by have := Hhx.out; omega
  go_wp2_with fail
  refine (of_one (c := 10) (by omega) _ rfl).mono ?_
  rintro v w6 ⟨rfl, hb⟩
  have hb := below1 (Below.refl _ w0) (Nat.le_refl _) hb
  replace hR := hR.below hb hR.lt
  replace hr := hr.below hb
  replace g := only_below g hb
  clear hb
  go_wp2_with fail
  refine (not_any (oneM 10) _).mono ?_
  rintro v w7 ⟨rfl, hb⟩
  replace hR := hR.below hb hR.lt
  replace hr := hr.below hb
  replace g := only_below g hb
  clear hb
  rw [show (setV fun x => !oneM 10 x) = setV (notM (oneM 10)) from rfl]
  generalize hmm : notM (oneM 10) = mm at *
  unfold setV
  obtain ⟨⟨y0, y1, y2, y3, y4, y5, y6, y7, y8, y9⟩, k0, k1, k2, k3, k4, k5, k6, k7, k8, k9⟩ := hR.ten
  go_wp2
  have hRz := Blk.puts0 hR [.int .i64 0, .int .i64 0, .int .i64 0, .int .u64 (word (mm) 0), .int .u64 (word (mm) 1), .int .u64 (word (mm) 2), .int .u64 (word (mm) 3), .int .i64 0, .int .i64 0, .bool false] rfl
  have hrz := hr.farPuts (g := w.heap.size) (by omega) (by have := tab_lt h.tab; omega) [.int .i64 0, .int .i64 0, .int .i64 0, .int .u64 (word (mm) 0), .int .u64 (word (mm) 1), .int .u64 (word (mm) 2), .int .u64 (word (mm) 3), .int .i64 0, .int .i64 0, .bool false] 0
  have gz := only_puts (g := w.heap.size) (Nat.le_refl _) [.int .i64 0, .int .i64 0, .int .i64 0, .int .u64 (word (mm) 0), .int .u64 (word (mm) 1), .int .u64 (word (mm) 2), .int .u64 (word (mm) 3), .int .i64 0, .int .i64 0, .bool false] 0 _ g
  simp only [putCells] at hRz hrz gz
  clear hR hr g y0 y1 y2 y3 y4 y5 y6 y7 y8 y9 k0 k1 k2 k3 k4 k5 k6 k7 k8 k9
  generalize World.setCell _ _ _ = wq at *
  refine ret_tok (b := w.heap.size) rfl rfl hRz rfl rfl ?_
  refine ⟨setTok (mm), i + 1, 0, ?_, hrz, gz, by rw [HX.out]; exact ⟨rfl, rfl, rfl⟩⟩
  exact ret_congr (congrArg (fun l => Value.agg (List.toArray l)) (show [.int .i64 0, .int .i64 0, .int .i64 0, .int .u64 (word (mm) 0), .int .u64 (word (mm) 1), .int .u64 (word (mm) 2), .int .u64 (word (mm) 3), .int .i64 0, .int .i64 0, .bool false] = tokL (setTok (mm)) 0 0 from rfl))
end Go.Proofs.YtpiimcbbgalhfaaGreatDoor
/- one: a token. -/
namespace Go.Proofs.YtpiimcbbgalhfaaGreatDoor
set_option maxRecDepth 100000
open Go.RowKit
set_option maxRecDepth 100000 in
set_option maxHeartbeats 2000000 in
theorem one_c42 {w : World} {b : Nat} {s : ByteArray} {i : Nat} {lv : Value} (h : Rdr w b s i 0 lv) (hi : i < s.size) (c : Nat) (hc : (bytesN s)[i]? = some c) (n92 : c ≠ 92) (n91 : c ≠ 91) (n40 : c ≠ 40) (n41 : c ≠ 41) (n124 : c ≠ 124) (n46 : c ≠ 46) (hx : c = 42) :
    Calls Tryz.prog 129 #[.pointer (some ⟨b, 0, none⟩)] w fun v w' => ∃ x j e, v = .returned (tokV x 0 0) ∧ Rdr w' b s j e lv ∧ w.grownBy w' (some b) ∧ TokIs (tokM (bytesN s) i) x j e := by
  have hc256 := bytesN_lt hc
  have hby : (s[i]'hi).toNat = c := by obtain ⟨_, e⟩ := bytesN_some hc; exact e
  have HX := Lib.hid (show tokM (bytesN s) i = countM (bytesN s) 42 (i + 1) by unfold tokM; rw [hc]; dsimp only; rw [if_neg n92, if_neg n91, if_neg n40, if_neg n41, if_neg n124, if_neg n46, if_pos hx]; unfold countM; simp)
  clear hc
  have Hhx := Lib.hid hx
  clear hx
  have hsz := h.size
  have hblt := h.blk.lt
  obtain ⟨c0, c1, _, _, f1, _, _⟩ := h.cells
  go_enter Tryz.func129, Tryz.ntmps129
  go_upto_region 1 with fail
  have hR := Blk.new w [.int .i64 0, .int .i64 0, .int .i64 0, .int .u64 0, .int .u64 0, .int .u64 0, .int .u64 0, .int .i64 0, .int .i64 0, .bool false] 111
  have hr := h.below ((Below.refl _ w).alloc (Nat.le_refl _) (.cells #[.int .i64 0, .int .i64 0, .int .i64 0, .int .u64 0, .int .u64 0, .int .u64 0, .int .u64 0, .int .i64 0, .int .i64 0, .bool false] 111))
  have g := only_alloc (only_refl w b) (.cells #[.int .i64 0, .int .i64 0, .int .i64 0, .int .u64 0, .int .u64 0, .int .u64 0, .int .u64 0, .int .i64 0, .int .i64 0, .bool false] 111)
  clear c0 c1 f1
  generalize w.alloc _ = w0 at *
  obtain ⟨c0, c1, _, _, f1, _, _⟩ := hr.cells
  go_upto_region 3 with fail
  go_upto_region 9 with fail
  obtain ⟨hri, gi⟩ := hr.incv (v := ((i : Nat) : Int) + 1) (by omega) hi
  have hRi := hR.far (p := ⟨b, 1, none⟩) (by show w.heap.size ≠ b; omega) (.int .i64 (((i : Nat) : Int) + 1))
  have g2 := only_trans g gi
  clear hR hr g gi c0 c1 f1
  have hR := hRi
  have hr := hri
  have g := g2
  clear hRi hri g2
  generalize World.setCell _ _ _ = w1 at *
  rename World => w0
  have hx' : ((c : Nat) : Int) = 42 := by have := Hhx.out; omega
  go_wp2_with fail
  refine (count_at 42 (by omega) hr).mono ?_
  rintro v w0 ⟨x, j, e, rfl, hr, hg, hres⟩
  replace hR := Blk.turn hR hg (by omega)
  replace g := only_trans g hg
  clear hg
  have HRs := Lib.hid hres
  clear hres
  unfold tokV
  obtain ⟨⟨y0, y1, y2, y3, y4, y5, y6, y7, y8, y9⟩, k0, k1, k2, k3, k4, k5, k6, k7, k8, k9⟩ := hR.ten
  go_wp2
  have hRz := Blk.puts0 hR (tokL x 0 0) rfl
  have hrz := hr.farPuts (g := w.heap.size) (by omega) (by have := tab_lt h.tab; omega) (tokL x 0 0) 0
  have gz := only_puts (g := w.heap.size) (Nat.le_refl _) (tokL x 0 0) 0 _ g
  simp only [putCells] at hRz hrz gz
  clear hR hr g y0 y1 y2 y3 y4 y5 y6 y7 y8 y9 k0 k1 k2 k3 k4 k5 k6 k7 k8 k9
  generalize World.setCell _ _ _ = wq at *
  refine ret_tok (b := w.heap.size) rfl rfl hRz rfl rfl ?_
  exact ⟨x, j, e, rfl, hrz, gz, by rw [HX.out]; exact HRs.out⟩
set_option maxRecDepth 100000 in
set_option maxHeartbeats 2000000 in
theorem one_c43 {w : World} {b : Nat} {s : ByteArray} {i : Nat} {lv : Value} (h : Rdr w b s i 0 lv) (hi : i < s.size) (c : Nat) (hc : (bytesN s)[i]? = some c) (n92 : c ≠ 92) (n91 : c ≠ 91) (n40 : c ≠ 40) (n41 : c ≠ 41) (n124 : c ≠ 124) (n46 : c ≠ 46) (n42 : c ≠ 42) (hx : c = 43) :
    Calls Tryz.prog 129 #[.pointer (some ⟨b, 0, none⟩)] w fun v w' => ∃ x j e, v = .returned (tokV x 0 0) ∧ Rdr w' b s j e lv ∧ w.grownBy w' (some b) ∧ TokIs (tokM (bytesN s) i) x j e := by
  have hc256 := bytesN_lt hc
  have hby : (s[i]'hi).toNat = c := by obtain ⟨_, e⟩ := bytesN_some hc; exact e
  have HX := Lib.hid (show tokM (bytesN s) i = countM (bytesN s) 43 (i + 1) by unfold tokM; rw [hc]; dsimp only; rw [if_neg n92, if_neg n91, if_neg n40, if_neg n41, if_neg n124, if_neg n46, if_neg n42, if_pos hx]; unfold countM; simp)
  clear hc
  have Hhx := Lib.hid hx
  clear hx
  have hsz := h.size
  have hblt := h.blk.lt
  obtain ⟨c0, c1, _, _, f1, _, _⟩ := h.cells
  go_enter Tryz.func129, Tryz.ntmps129
  go_upto_region 1 with fail
  have hR := Blk.new w [.int .i64 0, .int .i64 0, .int .i64 0, .int .u64 0, .int .u64 0, .int .u64 0, .int .u64 0, .int .i64 0, .int .i64 0, .bool false] 111
  have hr := h.below ((Below.refl _ w).alloc (Nat.le_refl _) (.cells #[.int .i64 0, .int .i64 0, .int .i64 0, .int .u64 0, .int .u64 0, .int .u64 0, .int .u64 0, .int .i64 0, .int .i64 0, .bool false] 111))
  have g := only_alloc (only_refl w b) (.cells #[.int .i64 0, .int .i64 0, .int .i64 0, .int .u64 0, .int .u64 0, .int .u64 0, .int .u64 0, .int .i64 0, .int .i64 0, .bool false] 111)
  clear c0 c1 f1
  generalize w.alloc _ = w0 at *
  obtain ⟨c0, c1, _, _, f1, _, _⟩ := hr.cells
  go_upto_region 3 with fail
  go_upto_region 9 with fail
  obtain ⟨hri, gi⟩ := hr.incv (v := ((i : Nat) : Int) + 1) (by omega) hi
  have hRi := hR.far (p := ⟨b, 1, none⟩) (by show w.heap.size ≠ b; omega) (.int .i64 (((i : Nat) : Int) + 1))
  have g2 := only_trans g gi
  clear hR hr g gi c0 c1 f1
  have hR := hRi
  have hr := hri
  have g := g2
  clear hRi hri g2
  generalize World.setCell _ _ _ = w1 at *
  rename World => w0
  have hx' : ((c : Nat) : Int) = 43 := by have := Hhx.out; omega
  go_wp2_with fail
  refine (count_at 43 (by omega) hr).mono ?_
  rintro v w0 ⟨x, j, e, rfl, hr, hg, hres⟩
  replace hR := Blk.turn hR hg (by omega)
  replace g := only_trans g hg
  clear hg
  have HRs := Lib.hid hres
  clear hres
  unfold tokV
  obtain ⟨⟨y0, y1, y2, y3, y4, y5, y6, y7, y8, y9⟩, k0, k1, k2, k3, k4, k5, k6, k7, k8, k9⟩ := hR.ten
  go_wp2
  have hRz := Blk.puts0 hR (tokL x 0 0) rfl
  have hrz := hr.farPuts (g := w.heap.size) (by omega) (by have := tab_lt h.tab; omega) (tokL x 0 0) 0
  have gz := only_puts (g := w.heap.size) (Nat.le_refl _) (tokL x 0 0) 0 _ g
  simp only [putCells] at hRz hrz gz
  clear hR hr g y0 y1 y2 y3 y4 y5 y6 y7 y8 y9 k0 k1 k2 k3 k4 k5 k6 k7 k8 k9
  generalize World.setCell _ _ _ = wq at *
  refine ret_tok (b := w.heap.size) rfl rfl hRz rfl rfl ?_
  exact ⟨x, j, e, rfl, hrz, gz, by rw [HX.out]; exact HRs.out⟩
set_option maxRecDepth 100000 in
set_option maxHeartbeats 2000000 in
theorem one_c63 {w : World} {b : Nat} {s : ByteArray} {i : Nat} {lv : Value} (h : Rdr w b s i 0 lv) (hi : i < s.size) (c : Nat) (hc : (bytesN s)[i]? = some c) (n92 : c ≠ 92) (n91 : c ≠ 91) (n40 : c ≠ 40) (n41 : c ≠ 41) (n124 : c ≠ 124) (n46 : c ≠ 46) (n42 : c ≠ 42) (n43 : c ≠ 43) (hx : c = 63) :
    Calls Tryz.prog 129 #[.pointer (some ⟨b, 0, none⟩)] w fun v w' => ∃ x j e, v = .returned (tokV x 0 0) ∧ Rdr w' b s j e lv ∧ w.grownBy w' (some b) ∧ TokIs (tokM (bytesN s) i) x j e := by
  have hc256 := bytesN_lt hc
  have hby : (s[i]'hi).toNat = c := by obtain ⟨_, e⟩ := bytesN_some hc; exact e
  have HX := Lib.hid (show tokM (bytesN s) i = countM (bytesN s) 63 (i + 1) by unfold tokM; rw [hc]; dsimp only; rw [if_neg n92, if_neg n91, if_neg n40, if_neg n41, if_neg n124, if_neg n46, if_neg n42, if_neg n43, if_pos hx]; unfold countM; simp)
  clear hc
  have Hhx := Lib.hid hx
  clear hx
  have hsz := h.size
  have hblt := h.blk.lt
  obtain ⟨c0, c1, _, _, f1, _, _⟩ := h.cells
  go_enter Tryz.func129, Tryz.ntmps129
  go_upto_region 1 with fail
  have hR := Blk.new w [.int .i64 0, .int .i64 0, .int .i64 0, .int .u64 0, .int .u64 0, .int .u64 0, .int .u64 0, .int .i64 0, .int .i64 0, .bool false] 111
  have hr := h.below ((Below.refl _ w).alloc (Nat.le_refl _) (.cells #[.int .i64 0, .int .i64 0, .int .i64 0, .int .u64 0, .int .u64 0, .int .u64 0, .int .u64 0, .int .i64 0, .int .i64 0, .bool false] 111))
  have g := only_alloc (only_refl w b) (.cells #[.int .i64 0, .int .i64 0, .int .i64 0, .int .u64 0, .int .u64 0, .int .u64 0, .int .u64 0, .int .i64 0, .int .i64 0, .bool false] 111)
  clear c0 c1 f1
  generalize w.alloc _ = w0 at *
  obtain ⟨c0, c1, _, _, f1, _, _⟩ := hr.cells
  go_upto_region 3 with fail
  go_upto_region 9 with fail
  obtain ⟨hri, gi⟩ := hr.incv (v := ((i : Nat) : Int) + 1) (by omega) hi
  have hRi := hR.far (p := ⟨b, 1, none⟩) (by show w.heap.size ≠ b; omega) (.int .i64 (((i : Nat) : Int) + 1))
  have g2 := only_trans g gi
  clear hR hr g gi c0 c1 f1
  have hR := hRi
  have hr := hri
  have g := g2
  clear hRi hri g2
  generalize World.setCell _ _ _ = w1 at *
  rename World => w0
  have hx' : ((c : Nat) : Int) = 63 := by have := Hhx.out; omega
  go_wp2_with fail
  refine (count_at 63 (by omega) hr).mono ?_
  rintro v w0 ⟨x, j, e, rfl, hr, hg, hres⟩
  replace hR := Blk.turn hR hg (by omega)
  replace g := only_trans g hg
  clear hg
  have HRs := Lib.hid hres
  clear hres
  unfold tokV
  obtain ⟨⟨y0, y1, y2, y3, y4, y5, y6, y7, y8, y9⟩, k0, k1, k2, k3, k4, k5, k6, k7, k8, k9⟩ := hR.ten
  go_wp2
  have hRz := Blk.puts0 hR (tokL x 0 0) rfl
  have hrz := hr.farPuts (g := w.heap.size) (by omega) (by have := tab_lt h.tab; omega) (tokL x 0 0) 0
  have gz := only_puts (g := w.heap.size) (Nat.le_refl _) (tokL x 0 0) 0 _ g
  simp only [putCells] at hRz hrz gz
  clear hR hr g y0 y1 y2 y3 y4 y5 y6 y7 y8 y9 k0 k1 k2 k3 k4 k5 k6 k7 k8 k9
  generalize World.setCell _ _ _ = wq at *
  refine ret_tok (b := w.heap.size) rfl rfl hRz rfl rfl ?_
  exact ⟨x, j, e, rfl, hrz, gz, by rw [HX.out]; exact HRs.out⟩
set_option maxRecDepth 100000 in
set_option maxHeartbeats 2000000 in
theorem one_c123 {w : World} {b : Nat} {s : ByteArray} {i : Nat} {lv : Value} (h : Rdr w b s i 0 lv) (hi : i < s.size) (c : Nat) (hc : (bytesN s)[i]? = some c) (n92 : c ≠ 92) (n91 : c ≠ 91) (n40 : c ≠ 40) (n41 : c ≠ 41) (n124 : c ≠ 124) (n46 : c ≠ 46) (n42 : c ≠ 42) (n43 : c ≠ 43) (n63 : c ≠ 63) (hx : c = 123) :
    Calls Tryz.prog 129 #[.pointer (some ⟨b, 0, none⟩)] w fun v w' => ∃ x j e, v = .returned (tokV x 0 0) ∧ Rdr w' b s j e lv ∧ w.grownBy w' (some b) ∧ TokIs (tokM (bytesN s) i) x j e := by
  have hc256 := bytesN_lt hc
  have hby : (s[i]'hi).toNat = c := by obtain ⟨_, e⟩ := bytesN_some hc; exact e
  have HX := Lib.hid (show tokM (bytesN s) i = countM (bytesN s) 123 (i + 1) by unfold tokM; rw [hc]; dsimp only; rw [if_neg n92, if_neg n91, if_neg n40, if_neg n41, if_neg n124, if_neg n46, if_neg n42, if_neg n43, if_neg n63, if_pos hx]; unfold countM; rw [if_neg (by omega), if_neg (by omega), if_neg (by omega)]; rfl)
  clear hc
  have Hhx := Lib.hid hx
  clear hx
  have hsz := h.size
  have hblt := h.blk.lt
  obtain ⟨c0, c1, _, _, f1, _, _⟩ := h.cells
  go_enter Tryz.func129, Tryz.ntmps129
  go_upto_region 1 with fail
  have hR := Blk.new w [.int .i64 0, .int .i64 0, .int .i64 0, .int .u64 0, .int .u64 0, .int .u64 0, .int .u64 0, .int .i64 0, .int .i64 0, .bool false] 111
  have hr := h.below ((Below.refl _ w).alloc (Nat.le_refl _) (.cells #[.int .i64 0, .int .i64 0, .int .i64 0, .int .u64 0, .int .u64 0, .int .u64 0, .int .u64 0, .int .i64 0, .int .i64 0, .bool false] 111))
  have g := only_alloc (only_refl w b) (.cells #[.int .i64 0, .int .i64 0, .int .i64 0, .int .u64 0, .int .u64 0, .int .u64 0, .int .u64 0, .int .i64 0, .int .i64 0, .bool false] 111)
  clear c0 c1 f1
  generalize w.alloc _ = w0 at *
  obtain ⟨c0, c1, _, _, f1, _, _⟩ := hr.cells
  go_upto_region 3 with fail
  go_upto_region 9 with fail
  obtain ⟨hri, gi⟩ := hr.incv (v := ((i : Nat) : Int) + 1) (by omega) hi
  have hRi := hR.far (p := ⟨b, 1, none⟩) (by show w.heap.size ≠ b; omega) (.int .i64 (((i : Nat) : Int) + 1))
  have g2 := only_trans g gi
  clear hR hr g gi c0 c1 f1
  have hR := hRi
  have hr := hri
  have g := g2
  clear hRi hri g2
  generalize World.setCell _ _ _ = w1 at *
  rename World => w0
  have hx' : ((c : Nat) : Int) = 123 := by have := Hhx.out; omega
  go_wp2_with fail
  refine (count_at 123 (by omega) hr).mono ?_
  rintro v w0 ⟨x, j, e, rfl, hr, hg, hres⟩
  replace hR := Blk.turn hR hg (by omega)
  replace g := only_trans g hg
  clear hg
  have HRs := Lib.hid hres
  clear hres
  unfold tokV
  obtain ⟨⟨y0, y1, y2, y3, y4, y5, y6, y7, y8, y9⟩, k0, k1, k2, k3, k4, k5, k6, k7, k8, k9⟩ := hR.ten
  go_wp2
  have hRz := Blk.puts0 hR (tokL x 0 0) rfl
  have hrz := hr.farPuts (g := w.heap.size) (by omega) (by have := tab_lt h.tab; omega) (tokL x 0 0) 0
  have gz := only_puts (g := w.heap.size) (Nat.le_refl _) (tokL x 0 0) 0 _ g
  simp only [putCells] at hRz hrz gz
  clear hR hr g y0 y1 y2 y3 y4 y5 y6 y7 y8 y9 k0 k1 k2 k3 k4 k5 k6 k7 k8 k9
  generalize World.setCell _ _ _ = wq at *
  refine ret_tok (b := w.heap.size) rfl rfl hRz rfl rfl ?_
  exact ⟨x, j, e, rfl, hrz, gz, by rw [HX.out]; exact HRs.out⟩
set_option maxRecDepth 100000 in
set_option maxHeartbeats 2000000 in
theorem one_anchor {w : World} {b : Nat} {s : ByteArray} {i : Nat} {lv : Value} (h : Rdr w b s i 0 lv) (hi : i < s.size) (c : Nat) (hc : (bytesN s)[i]? = some c) (n92 : c ≠ 92) (n91 : c ≠ 91) (n40 : c ≠ 40) (n41 : c ≠ 41) (n124 : c ≠ 124) (n46 : c ≠ 46) (n42 : c ≠ 42) (n43 : c ≠ 43) (n63 : c ≠ 63) (n123 : c ≠ 123) (hx : c = 94 ∨ c = 36) :
    Calls Tryz.prog 129 #[.pointer (some ⟨b, 0, none⟩)] w fun v w' => ∃ x j e, v = .returned (tokV x 0 0) ∧ Rdr w' b s j e lv ∧ w.grownBy w' (some b) ∧ TokIs (tokM (bytesN s) i) x j e := by
  have hc256 := bytesN_lt hc
  have hby : (s[i]'hi).toNat = c := by obtain ⟨_, e⟩ := bytesN_some hc; exact e
  have HX := Lib.hid (show tokM (bytesN s) i = .err i 6 by unfold tokM; rw [hc]; dsimp only; rw [if_neg n92, if_neg n91, if_neg n40, if_neg n41, if_neg n124, if_neg n46, if_neg n42, if_neg n43, if_neg n63, if_neg n123, if_pos hx])
  clear hc
  have hsz := h.size
  have hblt := h.blk.lt
  obtain ⟨c0, c1, _, _, f1, _, _⟩ := h.cells
  go_enter Tryz.func129, Tryz.ntmps129
  go_upto_region 1 with fail
  have hR := Blk.new w [.int .i64 0, .int .i64 0, .int .i64 0, .int .u64 0, .int .u64 0, .int .u64 0, .int .u64 0, .int .i64 0, .int .i64 0, .bool false] 111
  have hr := h.below ((Below.refl _ w).alloc (Nat.le_refl _) (.cells #[.int .i64 0, .int .i64 0, .int .i64 0, .int .u64 0, .int .u64 0, .int .u64 0, .int .u64 0, .int .i64 0, .int .i64 0, .bool false] 111))
  have g := only_alloc (only_refl w b) (.cells #[.int .i64 0, .int .i64 0, .int .i64 0, .int .u64 0, .int .u64 0, .int .u64 0, .int .u64 0, .int .i64 0, .int .i64 0, .bool false] 111)
  clear c0 c1 f1
  generalize w.alloc _ = w0 at *
  obtain ⟨c0, c1, _, _, f1, _, _⟩ := hr.cells
  go_upto_region 3 with fail
  go_upto_region 9 with fail
  obtain ⟨hri, gi⟩ := hr.incv (v := ((i : Nat) : Int) + 1) (by omega) hi
  have hRi := hR.far (p := ⟨b, 1, none⟩) (by show w.heap.size ≠ b; omega) (.int .i64 (((i : Nat) : Int) + 1))
  have g2 := only_trans g gi
  clear hR hr g gi c0 c1 f1
  have hR := hRi
  have hr := hri
  have g := g2
  clear hRi hri g2
  generalize World.setCell _ _ _ = w1 at *
  rename World => w0
  rcases hx with hx | hx
  · have Hhx := Lib.hid hx
    clear hx
    have hx' : ((c : Nat) : Int) = 94 := by have := Hhx.out; omega
    go_wp2_with fail
    refine (fail_at (k := 6) hr (by omega)).mono ?_
    rintro v w1 ⟨⟨u, rfl⟩, hr, hg⟩
    rename World => w0
    replace hR := Blk.turn hR hg (by omega)
    replace g := only_trans g hg
    clear hg
    have hcc := hc256
    go_wp2_with fail
    refine (of_one (c := 94) (by omega) _ rfl).mono ?_
    rintro v w6 ⟨rfl, hb⟩
    have hb := below1 (Below.refl _ w0) (Nat.le_refl _) hb
    replace hR := hR.below hb hR.lt
    replace hr := hr.below hb
    replace g := only_below g hb
    clear hb
    generalize oneM 94 = mm at *
    unfold setV
    obtain ⟨⟨y0, y1, y2, y3, y4, y5, y6, y7, y8, y9⟩, k0, k1, k2, k3, k4, k5, k6, k7, k8, k9⟩ := hR.ten
    go_wp2
    have hRz := Blk.puts0 hR [.int .i64 0, .int .i64 0, .int .i64 0, .int .u64 (word (mm) 0), .int .u64 (word (mm) 1), .int .u64 (word (mm) 2), .int .u64 (word (mm) 3), .int .i64 0, .int .i64 0, .bool false] rfl
    have hrz := hr.farPuts (g := w.heap.size) (by omega) (by have := tab_lt h.tab; omega) [.int .i64 0, .int .i64 0, .int .i64 0, .int .u64 (word (mm) 0), .int .u64 (word (mm) 1), .int .u64 (word (mm) 2), .int .u64 (word (mm) 3), .int .i64 0, .int .i64 0, .bool false] 0
    have gz := only_puts (g := w.heap.size) (Nat.le_refl _) [.int .i64 0, .int .i64 0, .int .i64 0, .int .u64 (word (mm) 0), .int .u64 (word (mm) 1), .int .u64 (word (mm) 2), .int .u64 (word (mm) 3), .int .i64 0, .int .i64 0, .bool false] 0 _ g
    simp only [putCells] at hRz hrz gz
    clear hR hr g y0 y1 y2 y3 y4 y5 y6 y7 y8 y9 k0 k1 k2 k3 k4 k5 k6 k7 k8 k9
    generalize World.setCell _ _ _ = wq at *
    refine ret_tok (b := w.heap.size) rfl rfl hRz rfl rfl ?_
    refine ⟨setTok (mm), i, 6, ?_, hrz, gz, by rw [HX.out]; exact ⟨rfl, rfl, by omega⟩⟩
    exact ret_congr (congrArg (fun l => Value.agg (List.toArray l)) (show [.int .i64 0, .int .i64 0, .int .i64 0, .int .u64 (word (mm) 0), .int .u64 (word (mm) 1), .int .u64 (word (mm) 2), .int .u64 (word (mm) 3), .int .i64 0, .int .i64 0, .bool false] = tokL (setTok (mm)) 0 0 from rfl))
  · have Hhx := Lib.hid hx
    clear hx
    have hx' : ((c : Nat) : Int) = 36 := by have := Hhx.out; omega
    go_wp2_with fail
    refine (fail_at (k := 6) hr (by omega)).mono ?_
    rintro v w1 ⟨⟨u, rfl⟩, hr, hg⟩
    rename World => w0
    replace hR := Blk.turn hR hg (by omega)
    replace g := only_trans g hg
    clear hg
    have hcc := hc256
    go_wp2_with fail
    refine (of_one (c := 36) (by omega) _ rfl).mono ?_
    rintro v w6 ⟨rfl, hb⟩
    have hb := below1 (Below.refl _ w0) (Nat.le_refl _) hb
    replace hR := hR.below hb hR.lt
    replace hr := hr.below hb
    replace g := only_below g hb
    clear hb
    generalize oneM 36 = mm at *
    unfold setV
    obtain ⟨⟨y0, y1, y2, y3, y4, y5, y6, y7, y8, y9⟩, k0, k1, k2, k3, k4, k5, k6, k7, k8, k9⟩ := hR.ten
    go_wp2
    have hRz := Blk.puts0 hR [.int .i64 0, .int .i64 0, .int .i64 0, .int .u64 (word (mm) 0), .int .u64 (word (mm) 1), .int .u64 (word (mm) 2), .int .u64 (word (mm) 3), .int .i64 0, .int .i64 0, .bool false] rfl
    have hrz := hr.farPuts (g := w.heap.size) (by omega) (by have := tab_lt h.tab; omega) [.int .i64 0, .int .i64 0, .int .i64 0, .int .u64 (word (mm) 0), .int .u64 (word (mm) 1), .int .u64 (word (mm) 2), .int .u64 (word (mm) 3), .int .i64 0, .int .i64 0, .bool false] 0
    have gz := only_puts (g := w.heap.size) (Nat.le_refl _) [.int .i64 0, .int .i64 0, .int .i64 0, .int .u64 (word (mm) 0), .int .u64 (word (mm) 1), .int .u64 (word (mm) 2), .int .u64 (word (mm) 3), .int .i64 0, .int .i64 0, .bool false] 0 _ g
    simp only [putCells] at hRz hrz gz
    clear hR hr g y0 y1 y2 y3 y4 y5 y6 y7 y8 y9 k0 k1 k2 k3 k4 k5 k6 k7 k8 k9
    generalize World.setCell _ _ _ = wq at *
    refine ret_tok (b := w.heap.size) rfl rfl hRz rfl rfl ?_
    refine ⟨setTok (mm), i, 6, ?_, hrz, gz, by rw [HX.out]; exact ⟨rfl, rfl, by omega⟩⟩
    exact ret_congr (congrArg (fun l => Value.agg (List.toArray l)) (show [.int .i64 0, .int .i64 0, .int .i64 0, .int .u64 (word (mm) 0), .int .u64 (word (mm) 1), .int .u64 (word (mm) 2), .int .u64 (word (mm) 3), .int .i64 0, .int .i64 0, .bool false] = tokL (setTok (mm)) 0 0 from rfl))
set_option maxRecDepth 100000 in
set_option maxHeartbeats 2000000 in
theorem one_lone {w : World} {b : Nat} {s : ByteArray} {i : Nat} {lv : Value} (h : Rdr w b s i 0 lv) (hi : i < s.size) (c : Nat) (hc : (bytesN s)[i]? = some c) (n92 : c ≠ 92) (n91 : c ≠ 91) (n40 : c ≠ 40) (n41 : c ≠ 41) (n124 : c ≠ 124) (n46 : c ≠ 46) (n42 : c ≠ 42) (n43 : c ≠ 43) (n63 : c ≠ 63) (n123 : c ≠ 123) (na : ¬(c = 94 ∨ c = 36)) (hl : loneL.contains c = true) :
    Calls Tryz.prog 129 #[.pointer (some ⟨b, 0, none⟩)] w fun v w' => ∃ x j e, v = .returned (tokV x 0 0) ∧ Rdr w' b s j e lv ∧ w.grownBy w' (some b) ∧ TokIs (tokM (bytesN s) i) x j e := by
  have hc256 := bytesN_lt hc
  have hby : (s[i]'hi).toNat = c := by obtain ⟨_, e⟩ := bytesN_some hc; exact e
  have HX := Lib.hid (show tokM (bytesN s) i = .err i 4 by unfold tokM; rw [hc]; dsimp only; rw [if_neg n92, if_neg n91, if_neg n40, if_neg n41, if_neg n124, if_neg n46, if_neg n42, if_neg n43, if_neg n63, if_neg n123, if_neg na, if_pos hl])
  clear hc
  have q42 : (((c : Nat) : Int) == 42) = false := by rw [beq_eq_false_iff_ne]; omega
  have q43 : (((c : Nat) : Int) == 43) = false := by rw [beq_eq_false_iff_ne]; omega
  have q63 : (((c : Nat) : Int) == 63) = false := by rw [beq_eq_false_iff_ne]; omega
  have q123 : (((c : Nat) : Int) == 123) = false := by rw [beq_eq_false_iff_ne]; omega
  have na1 : c ≠ 94 := fun e => na (.inl e)
  have na2 : c ≠ 36 := fun e => na (.inr e)
  have q94 : (((c : Nat) : Int) == 94) = false := by rw [beq_eq_false_iff_ne]; omega
  have q36 : (((c : Nat) : Int) == 36) = false := by rw [beq_eq_false_iff_ne]; omega
  have hsz := h.size
  have hblt := h.blk.lt
  obtain ⟨c0, c1, _, _, f1, _, _⟩ := h.cells
  go_enter Tryz.func129, Tryz.ntmps129
  go_upto_region 1 with fail
  have hR := Blk.new w [.int .i64 0, .int .i64 0, .int .i64 0, .int .u64 0, .int .u64 0, .int .u64 0, .int .u64 0, .int .i64 0, .int .i64 0, .bool false] 111
  have hr := h.below ((Below.refl _ w).alloc (Nat.le_refl _) (.cells #[.int .i64 0, .int .i64 0, .int .i64 0, .int .u64 0, .int .u64 0, .int .u64 0, .int .u64 0, .int .i64 0, .int .i64 0, .bool false] 111))
  have g := only_alloc (only_refl w b) (.cells #[.int .i64 0, .int .i64 0, .int .i64 0, .int .u64 0, .int .u64 0, .int .u64 0, .int .u64 0, .int .i64 0, .int .i64 0, .bool false] 111)
  clear c0 c1 f1
  generalize w.alloc _ = w0 at *
  obtain ⟨c0, c1, _, _, f1, _, _⟩ := hr.cells
  go_upto_region 3 with fail
  go_upto_region 9 with fail
  obtain ⟨hri, gi⟩ := hr.incv (v := ((i : Nat) : Int) + 1) (by omega) hi
  have hRi := hR.far (p := ⟨b, 1, none⟩) (by show w.heap.size ≠ b; omega) (.int .i64 (((i : Nat) : Int) + 1))
  have g2 := only_trans g gi
  clear hR hr g gi c0 c1 f1
  have hR := hRi
  have hr := hri
  have g := g2
  clear hRi hri g2
  generalize World.setCell _ _ _ = w1 at *
  rename World => w0
  go_wp2_with fail
  refine (index_in _ loneL lone_ix c hc256 _).mono ?_
  rintro v w5 ⟨⟨n, rfl, hn⟩, rfl⟩
  rename World => w0
  rw [if_pos hl] at hn
  go_wp2_with fail
  refine (fail_at (k := 4) hr (by omega)).mono ?_
  rintro v w1 ⟨⟨u, rfl⟩, hr, hg⟩
  rename World => w0
  replace hR := Blk.turn hR hg (by omega)
  replace g := only_trans g hg
  clear hg
  go_wp2_with fail
  refine (of_one (c := c) hc256 _ rfl).mono ?_
  rintro v w6 ⟨rfl, hb⟩
  have hb := below1 (Below.refl _ w0) (Nat.le_refl _) hb
  replace hR := hR.below hb hR.lt
  replace hr := hr.below hb
  replace g := only_below g hb
  clear hb
  generalize oneM c = mm at *
  unfold setV
  obtain ⟨⟨y0, y1, y2, y3, y4, y5, y6, y7, y8, y9⟩, k0, k1, k2, k3, k4, k5, k6, k7, k8, k9⟩ := hR.ten
  go_wp2
  have hRz := Blk.puts0 hR [.int .i64 0, .int .i64 0, .int .i64 0, .int .u64 (word (mm) 0), .int .u64 (word (mm) 1), .int .u64 (word (mm) 2), .int .u64 (word (mm) 3), .int .i64 0, .int .i64 0, .bool false] rfl
  have hrz := hr.farPuts (g := w.heap.size) (by omega) (by have := tab_lt h.tab; omega) [.int .i64 0, .int .i64 0, .int .i64 0, .int .u64 (word (mm) 0), .int .u64 (word (mm) 1), .int .u64 (word (mm) 2), .int .u64 (word (mm) 3), .int .i64 0, .int .i64 0, .bool false] 0
  have gz := only_puts (g := w.heap.size) (Nat.le_refl _) [.int .i64 0, .int .i64 0, .int .i64 0, .int .u64 (word (mm) 0), .int .u64 (word (mm) 1), .int .u64 (word (mm) 2), .int .u64 (word (mm) 3), .int .i64 0, .int .i64 0, .bool false] 0 _ g
  simp only [putCells] at hRz hrz gz
  clear hR hr g y0 y1 y2 y3 y4 y5 y6 y7 y8 y9 k0 k1 k2 k3 k4 k5 k6 k7 k8 k9
  generalize World.setCell _ _ _ = wq at *
  refine ret_tok (b := w.heap.size) rfl rfl hRz rfl rfl ?_
  refine ⟨setTok (mm), i, 4, ?_, hrz, gz, by rw [HX.out]; exact ⟨rfl, rfl, by omega⟩⟩
  exact ret_congr (congrArg (fun l => Value.agg (List.toArray l)) (show [.int .i64 0, .int .i64 0, .int .i64 0, .int .u64 (word (mm) 0), .int .u64 (word (mm) 1), .int .u64 (word (mm) 2), .int .u64 (word (mm) 3), .int .i64 0, .int .i64 0, .bool false] = tokL (setTok (mm)) 0 0 from rfl))
set_option maxRecDepth 100000 in
set_option maxHeartbeats 2000000 in
theorem one_byte {w : World} {b : Nat} {s : ByteArray} {i : Nat} {lv : Value} (h : Rdr w b s i 0 lv) (hi : i < s.size) (c : Nat) (hc : (bytesN s)[i]? = some c) (n92 : c ≠ 92) (n91 : c ≠ 91) (n40 : c ≠ 40) (n41 : c ≠ 41) (n124 : c ≠ 124) (n46 : c ≠ 46) (n42 : c ≠ 42) (n43 : c ≠ 43) (n63 : c ≠ 63) (n123 : c ≠ 123) (na : ¬(c = 94 ∨ c = 36)) (hl : loneL.contains c = false) :
    Calls Tryz.prog 129 #[.pointer (some ⟨b, 0, none⟩)] w fun v w' => ∃ x j e, v = .returned (tokV x 0 0) ∧ Rdr w' b s j e lv ∧ w.grownBy w' (some b) ∧ TokIs (tokM (bytesN s) i) x j e := by
  have hc256 := bytesN_lt hc
  have hby : (s[i]'hi).toNat = c := by obtain ⟨_, e⟩ := bytesN_some hc; exact e
  have HX := Lib.hid (show tokM (bytesN s) i = .ok (setTok (oneM c)) (i + 1) by unfold tokM; rw [hc]; dsimp only; rw [if_neg n92, if_neg n91, if_neg n40, if_neg n41, if_neg n124, if_neg n46, if_neg n42, if_neg n43, if_neg n63, if_neg n123, if_neg na, if_neg (by rw [hl]; simp)])
  clear hc
  have q42 : (((c : Nat) : Int) == 42) = false := by rw [beq_eq_false_iff_ne]; omega
  have q43 : (((c : Nat) : Int) == 43) = false := by rw [beq_eq_false_iff_ne]; omega
  have q63 : (((c : Nat) : Int) == 63) = false := by rw [beq_eq_false_iff_ne]; omega
  have q123 : (((c : Nat) : Int) == 123) = false := by rw [beq_eq_false_iff_ne]; omega
  have na1 : c ≠ 94 := fun e => na (.inl e)
  have na2 : c ≠ 36 := fun e => na (.inr e)
  have q94 : (((c : Nat) : Int) == 94) = false := by rw [beq_eq_false_iff_ne]; omega
  have q36 : (((c : Nat) : Int) == 36) = false := by rw [beq_eq_false_iff_ne]; omega
  have hsz := h.size
  have hblt := h.blk.lt
  obtain ⟨c0, c1, _, _, f1, _, _⟩ := h.cells
  go_enter Tryz.func129, Tryz.ntmps129
  go_upto_region 1 with fail
  have hR := Blk.new w [.int .i64 0, .int .i64 0, .int .i64 0, .int .u64 0, .int .u64 0, .int .u64 0, .int .u64 0, .int .i64 0, .int .i64 0, .bool false] 111
  have hr := h.below ((Below.refl _ w).alloc (Nat.le_refl _) (.cells #[.int .i64 0, .int .i64 0, .int .i64 0, .int .u64 0, .int .u64 0, .int .u64 0, .int .u64 0, .int .i64 0, .int .i64 0, .bool false] 111))
  have g := only_alloc (only_refl w b) (.cells #[.int .i64 0, .int .i64 0, .int .i64 0, .int .u64 0, .int .u64 0, .int .u64 0, .int .u64 0, .int .i64 0, .int .i64 0, .bool false] 111)
  clear c0 c1 f1
  generalize w.alloc _ = w0 at *
  obtain ⟨c0, c1, _, _, f1, _, _⟩ := hr.cells
  go_upto_region 3 with fail
  go_upto_region 9 with fail
  obtain ⟨hri, gi⟩ := hr.incv (v := ((i : Nat) : Int) + 1) (by omega) hi
  have hRi := hR.far (p := ⟨b, 1, none⟩) (by show w.heap.size ≠ b; omega) (.int .i64 (((i : Nat) : Int) + 1))
  have g2 := only_trans g gi
  clear hR hr g gi c0 c1 f1
  have hR := hRi
  have hr := hri
  have g := g2
  clear hRi hri g2
  generalize World.setCell _ _ _ = w1 at *
  rename World => w0
  go_wp2_with fail
  refine (index_in _ loneL lone_ix c hc256 _).mono ?_
  rintro v w5 ⟨⟨n, rfl, hn⟩, rfl⟩
  rename World => w0
  rw [if_neg (by rw [hl]; simp)] at hn
  go_wp2_with fail
  refine (of_one (c := c) hc256 _ rfl).mono ?_
  rintro v w6 ⟨rfl, hb⟩
  have hb := below1 (Below.refl _ w0) (Nat.le_refl _) hb
  replace hR := hR.below hb hR.lt
  replace hr := hr.below hb
  replace g := only_below g hb
  clear hb
  generalize oneM c = mm at *
  unfold setV
  obtain ⟨⟨y0, y1, y2, y3, y4, y5, y6, y7, y8, y9⟩, k0, k1, k2, k3, k4, k5, k6, k7, k8, k9⟩ := hR.ten
  go_wp2
  have hRz := Blk.puts0 hR [.int .i64 0, .int .i64 0, .int .i64 0, .int .u64 (word (mm) 0), .int .u64 (word (mm) 1), .int .u64 (word (mm) 2), .int .u64 (word (mm) 3), .int .i64 0, .int .i64 0, .bool false] rfl
  have hrz := hr.farPuts (g := w.heap.size) (by omega) (by have := tab_lt h.tab; omega) [.int .i64 0, .int .i64 0, .int .i64 0, .int .u64 (word (mm) 0), .int .u64 (word (mm) 1), .int .u64 (word (mm) 2), .int .u64 (word (mm) 3), .int .i64 0, .int .i64 0, .bool false] 0
  have gz := only_puts (g := w.heap.size) (Nat.le_refl _) [.int .i64 0, .int .i64 0, .int .i64 0, .int .u64 (word (mm) 0), .int .u64 (word (mm) 1), .int .u64 (word (mm) 2), .int .u64 (word (mm) 3), .int .i64 0, .int .i64 0, .bool false] 0 _ g
  simp only [putCells] at hRz hrz gz
  clear hR hr g y0 y1 y2 y3 y4 y5 y6 y7 y8 y9 k0 k1 k2 k3 k4 k5 k6 k7 k8 k9
  generalize World.setCell _ _ _ = wq at *
  refine ret_tok (b := w.heap.size) rfl rfl hRz rfl rfl ?_
  refine ⟨setTok (mm), i + 1, 0, ?_, hrz, gz, by rw [HX.out]; exact ⟨rfl, rfl, rfl⟩⟩
  exact ret_congr (congrArg (fun l => Value.agg (List.toArray l)) (show [.int .i64 0, .int .i64 0, .int .i64 0, .int .u64 (word (mm) 0), .int .u64 (word (mm) 1), .int .u64 (word (mm) 2), .int .u64 (word (mm) 3), .int .i64 0, .int .i64 0, .bool false] = tokL (setTok (mm)) 0 0 from rfl))
theorem one_at {w : World} {b : Nat} {s : ByteArray} {i : Nat} {lv : Value} (h : Rdr w b s i 0 lv) (hi : i < s.size) :
    Calls Tryz.prog 129 #[.pointer (some ⟨b, 0, none⟩)] w fun v w' => ∃ x j e, v = .returned (tokV x 0 0) ∧ Rdr w' b s j e lv ∧ w.grownBy w' (some b) ∧ TokIs (tokM (bytesN s) i) x j e := by
  obtain ⟨c, hc⟩ : ∃ c, (bytesN s)[i]? = some c := ⟨_, List.getElem?_eq_getElem (by rw [bytesN_length]; exact hi)⟩
  by_cases n92 : c = 92
  · exact one_esc h hi c hc  n92
  by_cases n91 : c = 91
  · exact one_cls h hi c hc n92 n91
  by_cases n40 : c = 40
  · exact one_group h hi c hc n92 n91 n40
  by_cases n41 : c = 41
  · exact one_k3 h hi c hc n92 n91 n40 n41
  by_cases n124 : c = 124
  · exact one_k4 h hi c hc n92 n91 n40 n41 n124
  by_cases n46 : c = 46
  · exact one_dot h hi c hc n92 n91 n40 n41 n124 n46
  by_cases n42 : c = 42
  · exact one_c42 h hi c hc n92 n91 n40 n41 n124 n46 n42
  by_cases n43 : c = 43
  · exact one_c43 h hi c hc n92 n91 n40 n41 n124 n46 n42 n43
  by_cases n63 : c = 63
  · exact one_c63 h hi c hc n92 n91 n40 n41 n124 n46 n42 n43 n63
  by_cases n123 : c = 123
  · exact one_c123 h hi c hc n92 n91 n40 n41 n124 n46 n42 n43 n63 n123
  by_cases na : c = 94 ∨ c = 36
  · exact one_anchor h hi c hc n92 n91 n40 n41 n124 n46 n42 n43 n63 n123 na
  cases hl : loneL.contains c with
  | true => exact one_lone h hi c hc n92 n91 n40 n41 n124 n46 n42 n43 n63 n123 na hl
  | false => exact one_byte h hi c hc n92 n91 n40 n41 n124 n46 n42 n43 n63 n123 na hl
end Go.Proofs.YtpiimcbbgalhfaaGreatDoor
