/- Traces: do, a case a kind of node. -/
import Derived.Test.YtpiimcbbgalhfaaGreatDoorCm
import Derived.Test.YtpiimcbbgalhfaaGreatDoorCh
namespace Go.Proofs.YtpiimcbbgalhfaaGreatDoor
open Go.RowKit
set_option maxRecDepth 100000 in
set_option maxHeartbeats 8000000 in
theorem tdo_cat {w0 w : World} {fb : Nat} {s : ByteArray} {limit : Nat} {T : Td} {lv bv : Value} {cs : List Value} (h : TraAt w0 w fb s limit T lv bv cs) {x y : CT} {f pos d g : Nat} {rest : List It} {v : Value}
    (hSd : SX fb lv bv d) (hbd : Blk w d 181 [cptr g, .int .i64 ((f : Nat) : Int), .bool false, .int .i64 ((0 : Nat) : Int), v]) (hc : CoreAt w (SX fb lv bv) (CT.cat x y) g) (hv : TodoAt 181 w (SX fb lv bv) rest v)
    (hlen : T.back.length + 1 ≤ 1000000000) (hll : T.l.length + 1 ≤ 1000000000) (hs : s.size ≤ 1000000000) (hl : limit ≤ 1000000000) (hp : pos ≤ s.size) (hsm : f + placesC (CT.cat x y) ≤ 1000000000) :
    Calls Tryz.prog 106 #[.pointer (some ⟨fb, 0, none⟩), .int .i64 ((pos : Nat) : Int), cptr d] w fun e w' => (∃ r, e = .returned r) ∧ TraIs w0 w w' fb s limit (T.later [⟨pos, .fresh x f :: .fresh y (f + placesC x) :: rest⟩]) lv bv := by
  obtain ⟨vo, rfl, -⟩ := hv.form
  have d2 : w.cell? ⟨d, 2, none⟩ = some (.bool false) := hbd.cell 2
  have dl := hbd.lt
  have H := Lib.hid h
  have HV := Lib.hid hv
  have HD := Lib.hid (And.intro hSd hbd)
  have HN := Lib.hid hlen
  have HSZ := Lib.hid (And.intro hll (And.intro hs (And.intro hl hp)))
  obtain ⟨hSg, pa, pb, hbg, hx, hy⟩ := hc
  simp only [placesC] at hsm
  have HG := Lib.hid (And.intro hSg hbg)
  have HX := Lib.hid hx
  have HY := Lib.hid hy
  have HW := Lib.hid (fun W (hW : Below w.heap.size w W) => width_at x (hx.under hW) (by omega))
  clear hSg hbg hx hy
  clear h hv hSd hbd hlen hll hs hl hp
  go_enter Tryz.func106, Tryz.ntmps106
  go_upto_region 5 with fail
  refine region_named (ops' := tdo_ops) (by kernel_rfl) (tdo_S d g f (placesC x) (some ⟨pa, 0, none⟩) (some ⟨pb, 0, none⟩)) 150 rfl (by kernel_rfl) (by kernel_rfl) (tdo_all d g f (placesC x) (some ⟨pa, 0, none⟩) (some ⟨pb, 0, none⟩) _ _ _ rfl ⟨HD.out.2.cell 0, dl⟩ ⟨HD.out.2.cell 1, dl⟩ ⟨HG.out.2.cell 6, HG.out.2.lt⟩ ⟨HG.out.2.cell 7, HG.out.2.lt⟩ (fun W hW => HW.out W ((Below.refl _ w).drew.trans hW))) ?_
  rename_i hKK
  intro a w4 N H1 hF
  obtain ⟨na, q6, hna, hba⟩ : ∃ b, a.tmps.getD 6 undef = .pointer (some ⟨b, 0, none⟩) ∧ ¬N b ∧ Blk w4 b 179 [cptr pa, .int .i64 ((f : Nat) : Int)] := fact_put' (hF 40 (by kernel_rfl)) rfl rfl (by kernel_rfl)
  obtain ⟨nb, q7, hnb, hbb⟩ : ∃ b, a.tmps.getD 7 undef = .pointer (some ⟨b, 0, none⟩) ∧ ¬N b ∧ Blk w4 b 179 [cptr pb, .int .i64 (wrap64 (((f : Nat) : Int) + (((placesC x) : Nat) : Int)))] := fact_put' (hF 41 (by kernel_rfl)) rfl rfl (by kernel_rfl)
  have hna1 : w.heap.size ≤ na := Nat.le_of_not_lt fun e => hna (H1.old na e)
  have hnb1 : w.heap.size ≤ nb := Nat.le_of_not_lt fun e => hnb (H1.old nb e)
  rw [show wrap64 (((f : Nat) : Int) + (((placesC x) : Nat) : Int)) = ((f : Nat) : Int) + (((placesC x) : Nat) : Int) from by unfold wrap64; omega] at hbb
  have HB4 := Lib.hid (show Below w.heap.size w w4 from (Below.refl _ w).drew.trans H1.below)
  refine hKK _ _ ?_
  rw [held_frame H1 [6, 7, 34, 35, 36, 37, 38, 39, 40, 41, 42, 43, 44, 45, 46, 47, 48, 49, 50, 51, 52, 53, 54, 55, 56, 57, 58, 59, 60, 61, 62, 63, 64, 65, 66, 67, 68, 69, 70, 71] (by kernel_rfl)]
  simp only [putAll, List.map_cons, List.map_nil, List.foldl_cons, List.foldl_nil, List.setIfInBounds_toArray, List.set_cons_zero, List.set_cons_succ, q6, q7]
  generalize a.tmps.getD 34 undef = z34
  generalize a.tmps.getD 35 undef = z35
  generalize a.tmps.getD 36 undef = z36
  generalize a.tmps.getD 37 undef = z37
  generalize a.tmps.getD 38 undef = z38
  generalize a.tmps.getD 39 undef = z39
  generalize a.tmps.getD 40 undef = z40
  generalize a.tmps.getD 41 undef = z41
  generalize a.tmps.getD 42 undef = z42
  generalize a.tmps.getD 43 undef = z43
  generalize a.tmps.getD 44 undef = z44
  generalize a.tmps.getD 45 undef = z45
  generalize a.tmps.getD 46 undef = z46
  generalize a.tmps.getD 47 undef = z47
  generalize a.tmps.getD 48 undef = z48
  generalize a.tmps.getD 49 undef = z49
  generalize a.tmps.getD 50 undef = z50
  generalize a.tmps.getD 51 undef = z51
  generalize a.tmps.getD 52 undef = z52
  generalize a.tmps.getD 53 undef = z53
  generalize a.tmps.getD 54 undef = z54
  generalize a.tmps.getD 55 undef = z55
  generalize a.tmps.getD 56 undef = z56
  generalize a.tmps.getD 57 undef = z57
  generalize a.tmps.getD 58 undef = z58
  generalize a.tmps.getD 59 undef = z59
  generalize a.tmps.getD 60 undef = z60
  generalize a.tmps.getD 61 undef = z61
  generalize a.tmps.getD 62 undef = z62
  generalize a.tmps.getD 63 undef = z63
  generalize a.tmps.getD 64 undef = z64
  generalize a.tmps.getD 65 undef = z65
  generalize a.tmps.getD 66 undef = z66
  generalize a.tmps.getD 67 undef = z67
  generalize a.tmps.getD 68 undef = z68
  generalize a.tmps.getD 69 undef = z69
  generalize a.tmps.getD 70 undef = z70
  generalize a.tmps.getD 71 undef = z71
  clear hF H1 q6 q7 hna hnb hKK
  have HSA := Lib.hid (H.out.new hna1)
  have HSB := Lib.hid (H.out.new hnb1)
  have HSD := Lib.hid HD.out.1
  have a0 := hba.cell 0
  have a1 := hba.cell 1
  have al := hba.lt
  have b0 := hbb.cell 0
  have b1 := hbb.cell 1
  have bl := hbb.lt
  simp only [List.getElem?_cons_zero, List.getElem?_cons_succ] at a0 a1 b0 b1
  have hbd4 := HD.out.2.below HB4.out HD.out.2.lt
  have d0 : w4.cell? ⟨d, 0, none⟩ = some (cptr g) := hbd4.cell 0
  have d1 : w4.cell? ⟨d, 1, none⟩ = some (.int .i64 ((f : Nat) : Int)) := hbd4.cell 1
  have d4 : w4.cell? ⟨d, 4, none⟩ = some (.pointer vo) := hbd4.cell 4
  clear dl d2
  have dl := hbd4.lt
  have hbg4 := HG.out.2.below HB4.out HG.out.2.lt
  have k0 : w4.cell? ⟨g, 0, none⟩ = some (.int .i64 2) := hbg4.cell 0
  have hgl := hbg4.lt
  have HK4 := Lib.hid (Keep.below (S := SX fb lv bv) HB4.out)
  have HF4 := Lib.hid (H.out.under HB4.out)
  have HV4 := Lib.hid (HV.out.keep HK4.out)
  clear hba hbb hna1 hnb1 hbd4 hbg4 HW
  go_wp2_with fail
  have hb11 : Below w4.heap.size w4 ((w4.drew.alloc (.cells #[cptr pb, .int .i64 (((f : Nat) : Int) + ((placesC x : Nat) : Int)), .bool false, .int .i64 0, .pointer vo] 181)).alloc (.cells #[cptr pa, .int .i64 ((f : Nat) : Int), .bool false, .int .i64 0, .pointer (some ⟨w4.heap.size, 0, none⟩)] 181)) := (((Below.refl _ w4).drew.alloc (Nat.le_refl _) _).alloc (by simp) _)
  have HB11 := Lib.hid hb11
  have HK11 := Lib.hid (HK4.out.trans (Keep.below (S := SX fb lv bv) hb11))
  have hF11 := HF4.out.under hb11
  clear hb11
  have hK11 := Keep.below (S := SX fb lv bv) HB11.out
  have hn1 : SX fb lv bv w4.heap.size := HF4.out.new (Nat.le_refl _)
  have hn2 : SX fb lv bv (w4.heap.size + 1) := HF4.out.new (Nat.le_succ _)
  have hbi : Blk ((w4.drew.alloc (.cells #[cptr pb, .int .i64 (((f : Nat) : Int) + ((placesC x : Nat) : Int)), .bool false, .int .i64 0, .pointer vo] 181)).alloc (.cells #[cptr pa, .int .i64 ((f : Nat) : Int), .bool false, .int .i64 0, .pointer (some ⟨w4.heap.size, 0, none⟩)] 181)) w4.heap.size 181 [cptr pb, .int .i64 (((f : Nat) : Int) + ((placesC x : Nat) : Int)), .bool false, .int .i64 0, .pointer vo] := (Blk.new w4.drew [cptr pb, .int .i64 (((f : Nat) : Int) + ((placesC x : Nat) : Int)), .bool false, .int .i64 0, .pointer vo] 181).alloc _
  have hbo : Blk ((w4.drew.alloc (.cells #[cptr pb, .int .i64 (((f : Nat) : Int) + ((placesC x : Nat) : Int)), .bool false, .int .i64 0, .pointer vo] 181)).alloc (.cells #[cptr pa, .int .i64 ((f : Nat) : Int), .bool false, .int .i64 0, .pointer (some ⟨w4.heap.size, 0, none⟩)] 181)) (w4.heap.size + 1) 181 [cptr pa, .int .i64 ((f : Nat) : Int), .bool false, .int .i64 0, .pointer (some ⟨w4.heap.size, 0, none⟩)] := blk_new2 w4.drew [cptr pa, .int .i64 ((f : Nat) : Int), .bool false, .int .i64 0, .pointer (some ⟨w4.heap.size, 0, none⟩)] 181 _
  have hown : TodoAt 181 ((w4.drew.alloc (.cells #[cptr pb, .int .i64 (((f : Nat) : Int) + ((placesC x : Nat) : Int)), .bool false, .int .i64 0, .pointer vo] 181)).alloc (.cells #[cptr pa, .int .i64 ((f : Nat) : Int), .bool false, .int .i64 0, .pointer (some ⟨w4.heap.size, 0, none⟩)] 181)) (SX fb lv bv) (.fresh x f :: .fresh y (f + placesC x) :: rest) (.pointer (some ⟨w4.heap.size + 1, 0, none⟩)) :=
    ⟨_, pa, _, rfl, hn2, hbo, (HX.out.keep HK4.out).keep hK11, _, pb, _, rfl, hn1, hbi, (HY.out.keep HK4.out).keep hK11, HV4.out.keep hK11⟩
  have HPU := Lib.hid (later_at (p := ⟨pos, .fresh x f :: .fresh y (f + placesC x) :: rest⟩) hF11 hown (by have := HN.out; omega))
  clear hF11 hsm hK11 hn1 hn2 hbi hbo hown
  go_region_held3 (fun xw => xw.cell? ⟨na, 0, none⟩ = some (cptr pa) ∧ xw.cell? ⟨na, 1, none⟩ = some (.int .i64 ((f : Nat) : Int)) ∧ xw.cell? ⟨nb, 0, none⟩ = some (cptr pb) ∧ xw.cell? ⟨nb, 1, none⟩ = some (.int .i64 (((f : Nat) : Int) + (((placesC x) : Nat) : Int))) ∧ xw.cell? ⟨d, 4, none⟩ = some (.pointer vo)) (go_keep)
    (first | (go_at_call 105; refine HPU.out.mono ?_; rintro e w12 ⟨⟨r12, rfl⟩, lv12, bv12, cs12, hF12, hK12⟩; have HF12 := Lib.hid hF12; have HK12 := Lib.hid hK12; have z_a0 := hK12.cell HSA.out (Nat.lt_of_lt_of_le al HB11.out.size) ((HB11.out.cell (p := ⟨na, 0, none⟩) al).trans a0); have z_a1 := hK12.cell HSA.out (Nat.lt_of_lt_of_le al HB11.out.size) ((HB11.out.cell (p := ⟨na, 1, none⟩) al).trans a1); have z_b0 := hK12.cell HSB.out (Nat.lt_of_lt_of_le bl HB11.out.size) ((HB11.out.cell (p := ⟨nb, 0, none⟩) bl).trans b0); have z_b1 := hK12.cell HSB.out (Nat.lt_of_lt_of_le bl HB11.out.size) ((HB11.out.cell (p := ⟨nb, 1, none⟩) bl).trans b1); have z_d4 := hK12.cell HSD.out (Nat.lt_of_lt_of_le dl HB11.out.size) ((HB11.out.cell (p := ⟨d, 4, none⟩) dl).trans d4); clear hF12 hK12))
  all_goals
    go_wp2
    go_returns
    exact ⟨⟨_, rfl⟩, _, _, _, HF12.out, HK11.out.trans HK12.out⟩
set_option maxRecDepth 100000 in
set_option maxHeartbeats 8000000 in
theorem tdo_alt {w0 w : World} {fb : Nat} {s : ByteArray} {limit : Nat} {T : Td} {lv bv : Value} {cs : List Value} (h : TraAt w0 w fb s limit T lv bv cs) {x y : CT} {f pos d g : Nat} {rest : List It} {v : Value}
    (hSd : SX fb lv bv d) (hbd : Blk w d 181 [cptr g, .int .i64 ((f : Nat) : Int), .bool false, .int .i64 ((0 : Nat) : Int), v]) (hc : CoreAt w (SX fb lv bv) (CT.alt x y) g) (hv : TodoAt 181 w (SX fb lv bv) rest v)
    (hlen : T.back.length + 1 ≤ 1000000000) (hll : T.l.length + 1 ≤ 1000000000) (hs : s.size ≤ 1000000000) (hl : limit ≤ 1000000000) (hp : pos ≤ s.size) (hsm : f + placesC (CT.alt x y) ≤ 1000000000) :
    Calls Tryz.prog 106 #[.pointer (some ⟨fb, 0, none⟩), .int .i64 ((pos : Nat) : Int), cptr d] w fun e w' => (∃ r, e = .returned r) ∧ TraIs w0 w w' fb s limit (T.later [⟨pos, .fresh y (f + placesC x) :: rest⟩, ⟨pos, .fresh x f :: rest⟩]) lv bv := by
  obtain ⟨vo, rfl, -⟩ := hv.form
  have d2 : w.cell? ⟨d, 2, none⟩ = some (.bool false) := hbd.cell 2
  have dl := hbd.lt
  have H := Lib.hid h
  have HV := Lib.hid hv
  have HD := Lib.hid (And.intro hSd hbd)
  have HN := Lib.hid hlen
  have HSZ := Lib.hid (And.intro hll (And.intro hs (And.intro hl hp)))
  obtain ⟨hSg, pa, pb, hbg, hx, hy⟩ := hc
  simp only [placesC] at hsm
  have HG := Lib.hid (And.intro hSg hbg)
  have HX := Lib.hid hx
  have HY := Lib.hid hy
  have HW := Lib.hid (fun W (hW : Below w.heap.size w W) => width_at x (hx.under hW) (by omega))
  clear hSg hbg hx hy
  clear h hv hSd hbd hlen hll hs hl hp
  go_enter Tryz.func106, Tryz.ntmps106
  go_upto_region 5 with fail
  refine region_named (ops' := tdo_ops) (by kernel_rfl) (tdo_S d g f (placesC x) (some ⟨pa, 0, none⟩) (some ⟨pb, 0, none⟩)) 150 rfl (by kernel_rfl) (by kernel_rfl) (tdo_all d g f (placesC x) (some ⟨pa, 0, none⟩) (some ⟨pb, 0, none⟩) _ _ _ rfl ⟨HD.out.2.cell 0, dl⟩ ⟨HD.out.2.cell 1, dl⟩ ⟨HG.out.2.cell 6, HG.out.2.lt⟩ ⟨HG.out.2.cell 7, HG.out.2.lt⟩ (fun W hW => HW.out W ((Below.refl _ w).drew.trans hW))) ?_
  rename_i hKK
  intro a w4 N H1 hF
  obtain ⟨na, q6, hna, hba⟩ : ∃ b, a.tmps.getD 6 undef = .pointer (some ⟨b, 0, none⟩) ∧ ¬N b ∧ Blk w4 b 179 [cptr pa, .int .i64 ((f : Nat) : Int)] := fact_put' (hF 40 (by kernel_rfl)) rfl rfl (by kernel_rfl)
  obtain ⟨nb, q7, hnb, hbb⟩ : ∃ b, a.tmps.getD 7 undef = .pointer (some ⟨b, 0, none⟩) ∧ ¬N b ∧ Blk w4 b 179 [cptr pb, .int .i64 (wrap64 (((f : Nat) : Int) + (((placesC x) : Nat) : Int)))] := fact_put' (hF 41 (by kernel_rfl)) rfl rfl (by kernel_rfl)
  have hna1 : w.heap.size ≤ na := Nat.le_of_not_lt fun e => hna (H1.old na e)
  have hnb1 : w.heap.size ≤ nb := Nat.le_of_not_lt fun e => hnb (H1.old nb e)
  rw [show wrap64 (((f : Nat) : Int) + (((placesC x) : Nat) : Int)) = ((f : Nat) : Int) + (((placesC x) : Nat) : Int) from by unfold wrap64; omega] at hbb
  have HB4 := Lib.hid (show Below w.heap.size w w4 from (Below.refl _ w).drew.trans H1.below)
  refine hKK _ _ ?_
  rw [held_frame H1 [6, 7, 34, 35, 36, 37, 38, 39, 40, 41, 42, 43, 44, 45, 46, 47, 48, 49, 50, 51, 52, 53, 54, 55, 56, 57, 58, 59, 60, 61, 62, 63, 64, 65, 66, 67, 68, 69, 70, 71] (by kernel_rfl)]
  simp only [putAll, List.map_cons, List.map_nil, List.foldl_cons, List.foldl_nil, List.setIfInBounds_toArray, List.set_cons_zero, List.set_cons_succ, q6, q7]
  generalize a.tmps.getD 34 undef = z34
  generalize a.tmps.getD 35 undef = z35
  generalize a.tmps.getD 36 undef = z36
  generalize a.tmps.getD 37 undef = z37
  generalize a.tmps.getD 38 undef = z38
  generalize a.tmps.getD 39 undef = z39
  generalize a.tmps.getD 40 undef = z40
  generalize a.tmps.getD 41 undef = z41
  generalize a.tmps.getD 42 undef = z42
  generalize a.tmps.getD 43 undef = z43
  generalize a.tmps.getD 44 undef = z44
  generalize a.tmps.getD 45 undef = z45
  generalize a.tmps.getD 46 undef = z46
  generalize a.tmps.getD 47 undef = z47
  generalize a.tmps.getD 48 undef = z48
  generalize a.tmps.getD 49 undef = z49
  generalize a.tmps.getD 50 undef = z50
  generalize a.tmps.getD 51 undef = z51
  generalize a.tmps.getD 52 undef = z52
  generalize a.tmps.getD 53 undef = z53
  generalize a.tmps.getD 54 undef = z54
  generalize a.tmps.getD 55 undef = z55
  generalize a.tmps.getD 56 undef = z56
  generalize a.tmps.getD 57 undef = z57
  generalize a.tmps.getD 58 undef = z58
  generalize a.tmps.getD 59 undef = z59
  generalize a.tmps.getD 60 undef = z60
  generalize a.tmps.getD 61 undef = z61
  generalize a.tmps.getD 62 undef = z62
  generalize a.tmps.getD 63 undef = z63
  generalize a.tmps.getD 64 undef = z64
  generalize a.tmps.getD 65 undef = z65
  generalize a.tmps.getD 66 undef = z66
  generalize a.tmps.getD 67 undef = z67
  generalize a.tmps.getD 68 undef = z68
  generalize a.tmps.getD 69 undef = z69
  generalize a.tmps.getD 70 undef = z70
  generalize a.tmps.getD 71 undef = z71
  clear hF H1 q6 q7 hna hnb hKK
  have HSA := Lib.hid (H.out.new hna1)
  have HSB := Lib.hid (H.out.new hnb1)
  have HSD := Lib.hid HD.out.1
  have a0 := hba.cell 0
  have a1 := hba.cell 1
  have al := hba.lt
  have b0 := hbb.cell 0
  have b1 := hbb.cell 1
  have bl := hbb.lt
  simp only [List.getElem?_cons_zero, List.getElem?_cons_succ] at a0 a1 b0 b1
  have hbd4 := HD.out.2.below HB4.out HD.out.2.lt
  have d0 : w4.cell? ⟨d, 0, none⟩ = some (cptr g) := hbd4.cell 0
  have d1 : w4.cell? ⟨d, 1, none⟩ = some (.int .i64 ((f : Nat) : Int)) := hbd4.cell 1
  have d4 : w4.cell? ⟨d, 4, none⟩ = some (.pointer vo) := hbd4.cell 4
  clear dl d2
  have dl := hbd4.lt
  have hbg4 := HG.out.2.below HB4.out HG.out.2.lt
  have k0 : w4.cell? ⟨g, 0, none⟩ = some (.int .i64 3) := hbg4.cell 0
  have hgl := hbg4.lt
  have HK4 := Lib.hid (Keep.below (S := SX fb lv bv) HB4.out)
  have HF4 := Lib.hid (H.out.under HB4.out)
  have HV4 := Lib.hid (HV.out.keep HK4.out)
  clear hba hbb hna1 hnb1 hbd4 hbg4 HW
  go_wp2_with fail
  have hb11 : Below w4.heap.size w4 (w4.drew.alloc (.cells #[cptr pb, .int .i64 (((f : Nat) : Int) + ((placesC x : Nat) : Int)), .bool false, .int .i64 0, .pointer vo] 181)) := ((Below.refl _ w4).drew.alloc (Nat.le_refl _) _)
  have HB11 := Lib.hid hb11
  have HK11 := Lib.hid (HK4.out.trans (Keep.below (S := SX fb lv bv) hb11))
  have hF11 := HF4.out.under hb11
  clear hb11
  have hK11 := Keep.below (S := SX fb lv bv) HB11.out
  have hn1 : SX fb lv bv w4.heap.size := HF4.out.new (Nat.le_refl _)
  have hbi : Blk (w4.drew.alloc (.cells #[cptr pb, .int .i64 (((f : Nat) : Int) + ((placesC x : Nat) : Int)), .bool false, .int .i64 0, .pointer vo] 181)) w4.heap.size 181 [cptr pb, .int .i64 (((f : Nat) : Int) + ((placesC x : Nat) : Int)), .bool false, .int .i64 0, .pointer vo] := Blk.new w4.drew [cptr pb, .int .i64 (((f : Nat) : Int) + ((placesC x : Nat) : Int)), .bool false, .int .i64 0, .pointer vo] 181
  have hown : TodoAt 181 (w4.drew.alloc (.cells #[cptr pb, .int .i64 (((f : Nat) : Int) + ((placesC x : Nat) : Int)), .bool false, .int .i64 0, .pointer vo] 181)) (SX fb lv bv) (.fresh y (f + placesC x) :: rest) (.pointer (some ⟨w4.heap.size, 0, none⟩)) :=
    ⟨_, pb, _, rfl, hn1, hbi, (HY.out.keep HK4.out).keep hK11, HV4.out.keep hK11⟩
  have HPU := Lib.hid (later_at (p := ⟨pos, .fresh y (f + placesC x) :: rest⟩) hF11 hown (by have := HN.out; omega))
  clear hF11 hK11 hn1 hbi hown
  go_region_held3 (fun xw => xw.cell? ⟨na, 0, none⟩ = some (cptr pa) ∧ xw.cell? ⟨na, 1, none⟩ = some (.int .i64 ((f : Nat) : Int)) ∧ xw.cell? ⟨nb, 0, none⟩ = some (cptr pb) ∧ xw.cell? ⟨nb, 1, none⟩ = some (.int .i64 (((f : Nat) : Int) + (((placesC x) : Nat) : Int))) ∧ xw.cell? ⟨d, 4, none⟩ = some (.pointer vo)) (go_keep)
    (first | (go_at_call 105; refine HPU.out.mono ?_; rintro e w12 ⟨⟨r12, rfl⟩, lv12, bv12, cs12, hF12, hK12⟩; have HF12 := Lib.hid hF12; have HK12 := Lib.hid hK12; have z_a0 := hK12.cell HSA.out (Nat.lt_of_lt_of_le al HB11.out.size) ((HB11.out.cell (p := ⟨na, 0, none⟩) al).trans a0); have z_a1 := hK12.cell HSA.out (Nat.lt_of_lt_of_le al HB11.out.size) ((HB11.out.cell (p := ⟨na, 1, none⟩) al).trans a1); have z_b0 := hK12.cell HSB.out (Nat.lt_of_lt_of_le bl HB11.out.size) ((HB11.out.cell (p := ⟨nb, 0, none⟩) bl).trans b0); have z_b1 := hK12.cell HSB.out (Nat.lt_of_lt_of_le bl HB11.out.size) ((HB11.out.cell (p := ⟨nb, 1, none⟩) bl).trans b1); have z_d4 := hK12.cell HSD.out (Nat.lt_of_lt_of_le dl HB11.out.size) ((HB11.out.cell (p := ⟨d, 4, none⟩) dl).trans d4); clear hF12 hK12))
  all_goals
    have HKA := Lib.hid (HK11.out.trans HK12.out)
    have HSA2 := Lib.hid ((HK12.out.2 na HSA.out (Nat.lt_of_lt_of_le al HB11.out.size)).2)
    have HSD2 := Lib.hid ((HK12.out.2 d HSD.out (Nat.lt_of_lt_of_le dl HB11.out.size)).2)
    have HV12 := Lib.hid ((HV4.out.keep (Keep.below (S := SX fb lv bv) HB11.out)).keep HK12.out)
    have HX12 := Lib.hid (HX.out.keep HKA.out)
    have HLN := Lib.hid (show (T.later [⟨pos, .fresh y (f + placesC x) :: rest⟩]).back.length ≤ 1000000000 by have := HN.out; simp [Td.later]; omega)
    have HFA := Lib.hid HF12.out
    have al2 := Nat.lt_of_lt_of_le (Nat.lt_of_lt_of_le al HB11.out.size) HK12.out.1
    have dl2 := Nat.lt_of_lt_of_le (Nat.lt_of_lt_of_le dl HB11.out.size) HK12.out.1
    clear a0 a1 al b0 b1 bl d0 d1 d4 dl k0 hgl HB11 HK11 HF12 HK12 HPU z_b0 z_b1 HSA HSB HSD HK4 HF4 HV4 HX HB4 hsm
    have a0 := z_a0
    have a1 := z_a1
    have d4 := z_d4
    have al := al2
    have dl := dl2
    have HSA := HSA2
    have HSD := HSD2
    clear z_a0 z_a1 z_d4 al2 dl2 HSA2 HSD2
    go_wp2_with fail
    have hb11 : Below w12.heap.size w12 (w12.drew.alloc (.cells #[cptr pa, .int .i64 ((f : Nat) : Int), .bool false, .int .i64 0, .pointer vo] 181)) := ((Below.refl _ w12).drew.alloc (Nat.le_refl _) _)
    have HB11 := Lib.hid hb11
    have HK11 := Lib.hid (HKA.out.trans (Keep.below (S := SX fb lv12 bv12) hb11))
    have hF11 := HFA.out.under hb11
    clear hb11
    have hK11 := Keep.below (S := SX fb lv12 bv12) HB11.out
    have hn1 : SX fb lv12 bv12 w12.heap.size := HFA.out.new (Nat.le_refl _)
    have hbi : Blk (w12.drew.alloc (.cells #[cptr pa, .int .i64 ((f : Nat) : Int), .bool false, .int .i64 0, .pointer vo] 181)) w12.heap.size 181 [cptr pa, .int .i64 ((f : Nat) : Int), .bool false, .int .i64 0, .pointer vo] := Blk.new w12.drew [cptr pa, .int .i64 ((f : Nat) : Int), .bool false, .int .i64 0, .pointer vo] 181
    have hown : TodoAt 181 (w12.drew.alloc (.cells #[cptr pa, .int .i64 ((f : Nat) : Int), .bool false, .int .i64 0, .pointer vo] 181)) (SX fb lv12 bv12) (.fresh x f :: rest) (.pointer (some ⟨w12.heap.size, 0, none⟩)) :=
      ⟨_, pa, _, rfl, hn1, hbi, (HX12.out).keep hK11, HV12.out.keep hK11⟩
    have HPU := Lib.hid (later_at (p := ⟨pos, .fresh x f :: rest⟩) hF11 hown HLN.out)
    clear hF11 hK11 hn1 hbi hown
    go_region_held3 (fun xw => xw.cell? ⟨na, 0, none⟩ = some (cptr pa) ∧ xw.cell? ⟨na, 1, none⟩ = some (.int .i64 ((f : Nat) : Int)) ∧ xw.cell? ⟨d, 4, none⟩ = some (.pointer vo)) (go_keep)
      (first | (go_at_call 105; refine HPU.out.mono ?_; rintro e w13 ⟨⟨r13, rfl⟩, lv13, bv13, cs13, hF13, hK13⟩; have HF13 := Lib.hid hF13; have HK13 := Lib.hid hK13; have z_a0 := hK13.cell HSA.out (Nat.lt_of_lt_of_le al HB11.out.size) ((HB11.out.cell (p := ⟨na, 0, none⟩) al).trans a0); have z_a1 := hK13.cell HSA.out (Nat.lt_of_lt_of_le al HB11.out.size) ((HB11.out.cell (p := ⟨na, 1, none⟩) al).trans a1); have z_d4 := hK13.cell HSD.out (Nat.lt_of_lt_of_le dl HB11.out.size) ((HB11.out.cell (p := ⟨d, 4, none⟩) dl).trans d4); clear hF13 hK13))
    all_goals
      go_wp2
      go_returns
      refine ⟨⟨_, rfl⟩, lv13, bv13, cs13, ?_, HK11.out.trans HK13.out⟩
      have := HF13.out
      simp only [Td.later, List.append_assoc, List.cons_append, List.nil_append] at this
      exact this
end Go.Proofs.YtpiimcbbgalhfaaGreatDoor
/- Traces: do, from any branch. -/
namespace Go.Proofs.YtpiimcbbgalhfaaGreatDoor
set_option maxRecDepth 100000
open Go.RowKit
set_option maxHeartbeats 8000000 in
theorem tdo_nil {w0 w : World} {fb : Nat} {s : ByteArray} {limit : Nat} {T : Td} {lv bv : Value} {cs : List Value} (h : TraAt w0 w fb s limit T lv bv cs) {pos : Nat} (hll : T.l.length ≤ 1000000000) :
    Calls Tryz.prog 106 #[.pointer (some ⟨fb, 0, none⟩), .int .i64 ((pos : Nat) : Int), .pointer none] w fun e w' => (∃ r, e = .returned r) ∧ TraIs w0 w w' fb s limit (endT s.size pos T) lv bv := by
  have HE := Lib.hid (tend_at h pos hll)
  clear h
  go_enter Tryz.func106, Tryz.ntmps106
  go_wp2_with fail
  refine HE.out.mono ?_
  rintro e w2 ⟨⟨r2, rfl⟩, h2⟩
  have H2 := Lib.hid h2
  clear h2
  go_wp2
  go_returns
  exact ⟨⟨_, rfl⟩, H2.out⟩
set_option maxHeartbeats 8000000 in
theorem tdo_loop {w0 w : World} {fb : Nat} {s : ByteArray} {limit : Nat} {T : Td} {lv bv : Value} {cs : List Value} (h : TraAt w0 w fb s limit T lv bv cs) {z : Bool} {x : CT} {f pos since d g : Nat} {rest : List It} {v : Value}
    (hSd : SX fb lv bv d) (hbd : Blk w d 181 [cptr g, .int .i64 ((f : Nat) : Int), .bool true, .int .i64 ((since : Nat) : Int), v]) (hc : CoreAt w (SX fb lv bv) (CT.star z x) g) (hv : TodoAt 181 w (SX fb lv bv) rest v)
    (hlen : T.back.length + 1 ≤ 1000000000) :
    Calls Tryz.prog 106 #[.pointer (some ⟨fb, 0, none⟩), .int .i64 ((pos : Nat) : Int), cptr d] w fun e w' => (∃ r, e = .returned r) ∧ TraIs w0 w w' fb s limit (if since < pos then T.later (starB z x f pos rest) else T) lv bv := by
  obtain ⟨R, hR⟩ : ∃ R, (if since < pos then T.later (starB z x f pos rest) else T) = R := ⟨_, rfl⟩
  rw [hR]
  have HR := Lib.hid hR
  clear hR
  obtain ⟨vo, rfl, -⟩ := hv.form
  have H := Lib.hid h
  have HSD := Lib.hid hSd
  have d0 : w.cell? ⟨d, 0, none⟩ = some (cptr g) := hbd.cell 0
  have d1 : w.cell? ⟨d, 1, none⟩ = some (.int .i64 ((f : Nat) : Int)) := hbd.cell 1
  have d2 : w.cell? ⟨d, 2, none⟩ = some (.bool true) := hbd.cell 2
  have d3 : w.cell? ⟨d, 3, none⟩ = some (.int .i64 ((since : Nat) : Int)) := hbd.cell 3
  have d4 : w.cell? ⟨d, 4, none⟩ = some (.pointer vo) := hbd.cell 4
  have dl := hbd.lt
  have hb11 : Below w.heap.size w w.drew := (Below.refl _ w).drew
  have HB11 := Lib.hid hb11
  have HK11 := Lib.hid (Keep.below (S := SX fb lv bv) hb11)
  have HPU := Lib.hid (tstar_at (pos := pos) (f := f) (h.under hb11) (hc.keep (Keep.below (S := SX fb lv bv) hb11)) (hv.keep (Keep.below (S := SX fb lv bv) hb11)) hlen)
  clear h hv hSd hbd hlen hc hb11
  by_cases hp : since < pos
  · have HP := Lib.hid hp
    have hq : decide (since < pos) = true := decide_eq_true hp
    clear hp
    go_enter Tryz.func106, Tryz.ntmps106
    go_wp2_with fail
    go_region_held3 (fun xw => xw.cell? ⟨d, 0, none⟩ = some (cptr g) ∧ xw.cell? ⟨d, 1, none⟩ = some (.int .i64 ((f : Nat) : Int)) ∧ xw.cell? ⟨d, 4, none⟩ = some (.pointer vo)) (go_keep)
      (first | (go_at_call 154; refine HPU.out.mono ?_; rintro e w12 ⟨⟨r12, rfl⟩, lv12, bv12, cs12, hF12, hK12⟩; have HF12 := Lib.hid hF12; have HK12 := Lib.hid hK12; have z_d0 := hK12.cell HSD.out (Nat.lt_of_lt_of_le dl HB11.out.size) ((HB11.out.cell (p := ⟨d, 0, none⟩) dl).trans d0); have z_d1 := hK12.cell HSD.out (Nat.lt_of_lt_of_le dl HB11.out.size) ((HB11.out.cell (p := ⟨d, 1, none⟩) dl).trans d1); have z_d4 := hK12.cell HSD.out (Nat.lt_of_lt_of_le dl HB11.out.size) ((HB11.out.cell (p := ⟨d, 4, none⟩) dl).trans d4); clear hF12 hK12))
    all_goals
      go_wp2
      go_returns
      rw [← HR.out, if_pos HP.out]
      exact ⟨⟨_, rfl⟩, _, _, _, HF12.out, HK11.out.trans HK12.out⟩
  · have HP := Lib.hid hp
    have hq : decide (since < pos) = false := decide_eq_false hp
    clear hp
    go_enter Tryz.func106, Tryz.ntmps106
    go_wp2
    go_returns
    rw [← HR.out, if_neg HP.out]
    exact ⟨⟨_, rfl⟩, lv, bv, cs, H.out, Keep.below (Below.refl _ w)⟩
theorem tdo_at {w0 w : World} {fb : Nat} {s : ByteArray} {limit : Nat} {T : Td} {lv bv : Value} {cs : List Value} (h : TraAt w0 w fb s limit T lv bv cs) (p : Br) {v : Value}
    (hv : TodoAt 181 w (SX fb lv bv) p.todo v) (hlen : T.back.length + 1 ≤ 1000000000) (hll : T.l.length + 1 ≤ 1000000000) (hs : s.size ≤ 1000000000) (hl : limit ≤ 1000000000) (hsm : p.small 1000000000 s.size) :
    Calls Tryz.prog 106 #[.pointer (some ⟨fb, 0, none⟩), .int .i64 ((p.pos : Nat) : Int), v] w fun e w' => (∃ r, e = .returned r) ∧ TraIs w0 w w' fb s limit (doT s.data.toList limit p T) lv bv := by
  obtain ⟨pos, todo⟩ := p
  obtain ⟨h1, h2⟩ := hsm
  simp only [] at hv h1 h2 ⊢
  have hszl : s.data.toList.length = s.size := by rw [Array.length_toList]; rfl
  cases todo with
  | nil =>
    rw [show v = .pointer none from hv]
    have := tdo_nil (pos := pos) h (by omega)
    simpa only [doT, hszl] using this
  | cons x rest =>
    obtain ⟨d, g, v', rfl, hSd, hbd, hc, hr⟩ := hv
    have hx := (h2 x (by simp)).1
    cases x with
    | loop z a f since => exact tdo_loop h hSd hbd hc hr hlen
    | fresh c f =>
      simp only [It.small, It.first, It.c] at hx
      cases c with
      | empty => exact tdo_empty h hSd hbd hc hr hlen hll hs hl h1 hx
      | set m => exact tdo_set h hSd hbd hc hr hlen hll hs hl h1 hx
      | cat a b => exact tdo_cat h hSd hbd hc hr hlen hll hs hl h1 hx
      | alt a b => exact tdo_alt h hSd hbd hc hr hlen hll hs hl h1 hx
      | star z a => exact tdo_star h hSd hbd hc hr hlen hll hs hl h1 hx
end Go.Proofs.YtpiimcbbgalhfaaGreatDoor
