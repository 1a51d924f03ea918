/- Ways: step, a case a kind of node. -/
import Derived.Test.YtpiimcbbgalhfaaGreatDoorCi
namespace Go.Proofs.YtpiimcbbgalhfaaGreatDoor
open Go.RowKit
set_option maxHeartbeats 8000000 in
theorem wstep_cat {w0 w : World} {fb : Nat} {s : ByteArray} {most limit : Nat} {F : Fd} {lv bv : Value} {vs cs : List Value} (h : FinAt w0 w fb s most limit F lv bv vs cs) {x y : CT} {f pos d g : Nat} {read : List Nat} {rest : List It} {u v : Value}
    (hSd : SX fb lv bv d) (hbd : Blk w d 164 [cptr g, .int .i64 ((f : Nat) : Int), .bool false, .int .i64 ((0 : Nat) : Int), v]) (hc : CoreAt w (SX fb lv bv) (CT.cat x y) g) (hu : ReadAt 284 w (SX fb lv bv) read u) (hv : TodoAt 164 w (SX fb lv bv) rest v)
    (hlen : F.back.length + 1 ≤ 1000000000) (hs : s.size ≤ 1000000000) (hl : limit ≤ 1000000000) (hp : pos ≤ s.size) (hsm : f + placesC (CT.cat x y) ≤ 1000000000) :
    Calls Tryz.prog 101 #[.pointer (some ⟨fb, 0, none⟩), .agg #[.int .i64 ((pos : Nat) : Int), u, cptr d]] w fun e w' => (∃ r, e = .returned r) ∧ FinIs w0 w w' fb s most limit (F.push [⟨pos, read, .fresh x f :: .fresh y (f + placesC x) :: rest⟩]) lv bv := by
  obtain ⟨uo, rfl, -⟩ := hu.form
  obtain ⟨vo, rfl, -⟩ := hv.form
  have hB1 : Below w.heap.size w (w.alloc (.cells #[.int .i64 ((pos : Nat) : Int), .pointer uo, cptr d] 160)) := (Below.refl _ w).alloc (Nat.le_refl _) _
  have HST := Lib.hid ((St.nil w).alloc rfl [.int .i64 ((pos : Nat) : Int), .pointer uo, cptr d] 160)
  have HB1 := Lib.hid hB1
  have H := Lib.hid h
  have HU := Lib.hid hu
  have HV := Lib.hid hv
  have HD := Lib.hid (And.intro hSd hbd)
  have HN := Lib.hid hlen
  have HSZ := Lib.hid (And.intro hs (And.intro hl hp))
  obtain ⟨hSg, pa, pb, hbg, hx, hy⟩ := hc
  simp only [placesC] at hsm
  have HG := Lib.hid (And.intro hSg hbg)
  have HX := Lib.hid hx
  have HY := Lib.hid hy
  have HPT := Lib.hid (parts_node (A := placesC x) (f := f) (hbg.below hB1 hbg.lt) (by omega) (fun W hW => places_at x ((hx.under hB1).under hW) (by omega)))
  clear hSg hbg hx hy
  clear h hu hv hSd hbd hB1 hlen hs hl hp
  go_enter Tryz.func101, Tryz.ntmps101
  go_upto_region 1 with fail
  generalize hw1 : w.alloc _ = w1 at *
  clear hw1
  have q0 := (HST.out.get 0 rfl).cell 0
  have q1 := (HST.out.get 0 rfl).cell 1
  have q2 := (HST.out.get 0 rfl).cell 2
  have ql := (HST.out.get 0 rfl).lt
  simp only [List.getElem?_cons_zero, List.getElem?_cons_succ] at q0 q1 q2
  have hbd1 := HD.out.2.below HB1.out HD.out.2.lt
  have d0 : w1.cell? ⟨d, 0, none⟩ = some (cptr g) := hbd1.cell 0
  have d1 : w1.cell? ⟨d, 1, none⟩ = some (.int .i64 ((f : Nat) : Int)) := hbd1.cell 1
  have d2 : w1.cell? ⟨d, 2, none⟩ = some (.bool false) := hbd1.cell 2
  have dl := hbd1.lt
  clear hbd1
  go_wp2_with fail
  refine HPT.out.mono ?_
  rintro v w3 ⟨rfl, hb3⟩
  have st3 := HST.out.below' hb3
  have st4 := (st3.alloc rfl [cptr pa, .int .i64 ((f : Nat) : Int)] 162).alloc (n := w3.heap.size + 1) (by simp) [cptr pb, .int .i64 (((f : Nat) : Int) + ((placesC x : Nat) : Int))] 162
  have HS3 := Lib.hid st3.size
  clear st3 hb3 q0 q1 q2 ql d0 d1 d2 dl
  go_upto_region 9 with fail
  generalize (w3.alloc _).alloc _ = w4 at *
  have q0 := (st4.get 2 rfl).cell 0
  have q1 := (st4.get 2 rfl).cell 1
  have q2 := (st4.get 2 rfl).cell 2
  have ql := (st4.get 2 rfl).lt
  have a0 := (st4.get 1 rfl).cell 0
  have a1 := (st4.get 1 rfl).cell 1
  have al := (st4.get 1 rfl).lt
  have b0 := (st4.get 0 rfl).cell 0
  have b1 := (st4.get 0 rfl).cell 1
  have bl := (st4.get 0 rfl).lt
  simp only [List.getElem?_cons_zero, List.getElem?_cons_succ] at q0 q1 q2 a0 a1 b0 b1
  have hs3 := HS3.out
  have HB4 := Lib.hid st4.below
  have HSQ := Lib.hid (H.out.new (Nat.le_refl w.heap.size))
  have HSA := Lib.hid (H.out.new hs3)
  have HSB := Lib.hid (H.out.new (Nat.le_succ_of_le hs3))
  have HSD := Lib.hid HD.out.1
  have hbd4 := HD.out.2.below HB4.out HD.out.2.lt
  have d0 : w4.cell? ⟨d, 0, none⟩ = some (cptr g) := hbd4.cell 0
  have d1 : w4.cell? ⟨d, 1, none⟩ = some (.int .i64 ((f : Nat) : Int)) := hbd4.cell 1
  have d4 : w4.cell? ⟨d, 4, none⟩ = some (.pointer vo) := hbd4.cell 4
  have dl := hbd4.lt
  have HD4 := Lib.hid hbd4
  have hbg4 := HG.out.2.below HB4.out HG.out.2.lt
  have k0 : w4.cell? ⟨g, 0, none⟩ = some (.int .i64 2) := hbg4.cell 0
  have hgl := hbg4.lt
  have HK4 := Lib.hid (Keep.below (S := SX fb lv bv) HB4.out)
  have HF4 := Lib.hid (H.out.under HB4.out)
  have HU4 := Lib.hid (HU.out.keep HK4.out)
  have HV4 := Lib.hid (HV.out.keep HK4.out)
  clear st4 hbd4 hbg4 HPT HST
  go_wp2_with fail
  have hb11 : Below w4.heap.size w4 ((w4.drew.alloc (.cells #[cptr pb, .int .i64 (((f : Nat) : Int) + ((placesC x : Nat) : Int)), .bool false, .int .i64 0, .pointer vo] 164)).alloc (.cells #[cptr pa, .int .i64 ((f : Nat) : Int), .bool false, .int .i64 0, .pointer (some ⟨w4.heap.size, 0, none⟩)] 164)) := (((Below.refl _ w4).drew.alloc (Nat.le_refl _) _).alloc (by simp) _)
  have HB11 := Lib.hid hb11
  have HK11 := Lib.hid (HK4.out.trans (Keep.below (S := SX fb lv bv) hb11))
  have hF11 := HF4.out.under hb11
  clear hb11
  have hK11 := Keep.below (S := SX fb lv bv) HB11.out
  have hn1 : SX fb lv bv w4.heap.size := HF4.out.new (Nat.le_refl _)
  have hn2 : SX fb lv bv (w4.heap.size + 1) := HF4.out.new (Nat.le_succ _)
  have hbi : Blk ((w4.drew.alloc (.cells #[cptr pb, .int .i64 (((f : Nat) : Int) + ((placesC x : Nat) : Int)), .bool false, .int .i64 0, .pointer vo] 164)).alloc (.cells #[cptr pa, .int .i64 ((f : Nat) : Int), .bool false, .int .i64 0, .pointer (some ⟨w4.heap.size, 0, none⟩)] 164)) w4.heap.size 164 [cptr pb, .int .i64 (((f : Nat) : Int) + ((placesC x : Nat) : Int)), .bool false, .int .i64 0, .pointer vo] := (Blk.new w4.drew [cptr pb, .int .i64 (((f : Nat) : Int) + ((placesC x : Nat) : Int)), .bool false, .int .i64 0, .pointer vo] 164).alloc _
  have hbo : Blk ((w4.drew.alloc (.cells #[cptr pb, .int .i64 (((f : Nat) : Int) + ((placesC x : Nat) : Int)), .bool false, .int .i64 0, .pointer vo] 164)).alloc (.cells #[cptr pa, .int .i64 ((f : Nat) : Int), .bool false, .int .i64 0, .pointer (some ⟨w4.heap.size, 0, none⟩)] 164)) (w4.heap.size + 1) 164 [cptr pa, .int .i64 ((f : Nat) : Int), .bool false, .int .i64 0, .pointer (some ⟨w4.heap.size, 0, none⟩)] := blk_new2 w4.drew [cptr pa, .int .i64 ((f : Nat) : Int), .bool false, .int .i64 0, .pointer (some ⟨w4.heap.size, 0, none⟩)] 164 _
  have hown : TodoAt 164 ((w4.drew.alloc (.cells #[cptr pb, .int .i64 (((f : Nat) : Int) + ((placesC x : Nat) : Int)), .bool false, .int .i64 0, .pointer vo] 164)).alloc (.cells #[cptr pa, .int .i64 ((f : Nat) : Int), .bool false, .int .i64 0, .pointer (some ⟨w4.heap.size, 0, none⟩)] 164)) (SX fb lv bv) (.fresh x f :: .fresh y (f + placesC x) :: rest) (.pointer (some ⟨w4.heap.size + 1, 0, none⟩)) :=
    ⟨_, pa, _, rfl, hn2, hbo, (HX.out.keep HK4.out).keep hK11, _, pb, _, rfl, hn1, hbi, (HY.out.keep HK4.out).keep hK11, HV4.out.keep hK11⟩
  have HPU := Lib.hid (push_at (p := ⟨pos, read, .fresh x f :: .fresh y (f + placesC x) :: rest⟩) (x := cptr d) hF11 (HU4.out.keep hK11) hown (by have := HN.out; omega))
  clear hF11 hsm hK11 hn1 hn2 hbi hbo hown
  go_region_held3 (fun xw => xw.cell? ⟨w.heap.size, 0, none⟩ = some (.int .i64 ((pos : Nat) : Int)) ∧ xw.cell? ⟨w.heap.size, 1, none⟩ = some (.pointer uo) ∧ xw.cell? ⟨w.heap.size, 2, none⟩ = some (cptr d) ∧ xw.cell? ⟨w3.heap.size, 0, none⟩ = some (cptr pa) ∧ xw.cell? ⟨w3.heap.size, 1, none⟩ = some (.int .i64 ((f : Nat) : Int)) ∧ xw.cell? ⟨(w3.heap.size + 1), 0, none⟩ = some (cptr pb) ∧ xw.cell? ⟨(w3.heap.size + 1), 1, none⟩ = some (.int .i64 (((f : Nat) : Int) + ((placesC x : Nat) : Int))) ∧ xw.cell? ⟨d, 4, none⟩ = some (.pointer vo)) (go_keep)
    (first | (go_at_call 100; refine HPU.out.mono ?_; rintro e w12 ⟨⟨r12, rfl⟩, bv12, cs12, hF12, hK12⟩; have HF12 := Lib.hid hF12; have HK12 := Lib.hid hK12; have z_q0 := hK12.cell HSQ.out (Nat.lt_of_lt_of_le ql HB11.out.size) ((HB11.out.cell (p := ⟨w.heap.size, 0, none⟩) ql).trans q0); have z_q1 := hK12.cell HSQ.out (Nat.lt_of_lt_of_le ql HB11.out.size) ((HB11.out.cell (p := ⟨w.heap.size, 1, none⟩) ql).trans q1); have z_q2 := hK12.cell HSQ.out (Nat.lt_of_lt_of_le ql HB11.out.size) ((HB11.out.cell (p := ⟨w.heap.size, 2, none⟩) ql).trans q2); have z_a0 := hK12.cell HSA.out (Nat.lt_of_lt_of_le al HB11.out.size) ((HB11.out.cell (p := ⟨w3.heap.size, 0, none⟩) al).trans a0); have z_a1 := hK12.cell HSA.out (Nat.lt_of_lt_of_le al HB11.out.size) ((HB11.out.cell (p := ⟨w3.heap.size, 1, none⟩) al).trans a1); have z_b0 := hK12.cell HSB.out (Nat.lt_of_lt_of_le bl HB11.out.size) ((HB11.out.cell (p := ⟨(w3.heap.size + 1), 0, none⟩) bl).trans b0); have z_b1 := hK12.cell HSB.out (Nat.lt_of_lt_of_le bl HB11.out.size) ((HB11.out.cell (p := ⟨(w3.heap.size + 1), 1, none⟩) bl).trans b1); have z_d4 := hK12.cell HSD.out (Nat.lt_of_lt_of_le dl HB11.out.size) ((HB11.out.cell (p := ⟨d, 4, none⟩) dl).trans d4); clear hF12 hK12))
  all_goals
    go_wp2
    go_returns
    exact ⟨⟨_, rfl⟩, _, _, _, _, HF12.out, HK11.out.trans HK12.out⟩
set_option maxHeartbeats 8000000 in
theorem wstep_alt {w0 w : World} {fb : Nat} {s : ByteArray} {most limit : Nat} {F : Fd} {lv bv : Value} {vs cs : List Value} (h : FinAt w0 w fb s most limit F lv bv vs cs) {x y : CT} {f pos d g : Nat} {read : List Nat} {rest : List It} {u v : Value}
    (hSd : SX fb lv bv d) (hbd : Blk w d 164 [cptr g, .int .i64 ((f : Nat) : Int), .bool false, .int .i64 ((0 : Nat) : Int), v]) (hc : CoreAt w (SX fb lv bv) (CT.alt x y) g) (hu : ReadAt 284 w (SX fb lv bv) read u) (hv : TodoAt 164 w (SX fb lv bv) rest v)
    (hlen : F.back.length + 1 ≤ 1000000000) (hs : s.size ≤ 1000000000) (hl : limit ≤ 1000000000) (hp : pos ≤ s.size) (hsm : f + placesC (CT.alt x y) ≤ 1000000000) :
    Calls Tryz.prog 101 #[.pointer (some ⟨fb, 0, none⟩), .agg #[.int .i64 ((pos : Nat) : Int), u, cptr d]] w fun e w' => (∃ r, e = .returned r) ∧ FinIs w0 w w' fb s most limit (F.push [⟨pos, read, .fresh y (f + placesC x) :: rest⟩, ⟨pos, read, .fresh x f :: rest⟩]) lv bv := by
  obtain ⟨uo, rfl, -⟩ := hu.form
  obtain ⟨vo, rfl, -⟩ := hv.form
  have hB1 : Below w.heap.size w (w.alloc (.cells #[.int .i64 ((pos : Nat) : Int), .pointer uo, cptr d] 160)) := (Below.refl _ w).alloc (Nat.le_refl _) _
  have HST := Lib.hid ((St.nil w).alloc rfl [.int .i64 ((pos : Nat) : Int), .pointer uo, cptr d] 160)
  have HB1 := Lib.hid hB1
  have H := Lib.hid h
  have HU := Lib.hid hu
  have HV := Lib.hid hv
  have HD := Lib.hid (And.intro hSd hbd)
  have HN := Lib.hid hlen
  have HSZ := Lib.hid (And.intro hs (And.intro hl hp))
  obtain ⟨hSg, pa, pb, hbg, hx, hy⟩ := hc
  simp only [placesC] at hsm
  have HG := Lib.hid (And.intro hSg hbg)
  have HX := Lib.hid hx
  have HY := Lib.hid hy
  have HPT := Lib.hid (parts_node (A := placesC x) (f := f) (hbg.below hB1 hbg.lt) (by omega) (fun W hW => places_at x ((hx.under hB1).under hW) (by omega)))
  clear hSg hbg hx hy
  clear h hu hv hSd hbd hB1 hlen hs hl hp
  go_enter Tryz.func101, Tryz.ntmps101
  go_upto_region 1 with fail
  generalize hw1 : w.alloc _ = w1 at *
  clear hw1
  have q0 := (HST.out.get 0 rfl).cell 0
  have q1 := (HST.out.get 0 rfl).cell 1
  have q2 := (HST.out.get 0 rfl).cell 2
  have ql := (HST.out.get 0 rfl).lt
  simp only [List.getElem?_cons_zero, List.getElem?_cons_succ] at q0 q1 q2
  have hbd1 := HD.out.2.below HB1.out HD.out.2.lt
  have d0 : w1.cell? ⟨d, 0, none⟩ = some (cptr g) := hbd1.cell 0
  have d1 : w1.cell? ⟨d, 1, none⟩ = some (.int .i64 ((f : Nat) : Int)) := hbd1.cell 1
  have d2 : w1.cell? ⟨d, 2, none⟩ = some (.bool false) := hbd1.cell 2
  have dl := hbd1.lt
  clear hbd1
  go_wp2_with fail
  refine HPT.out.mono ?_
  rintro v w3 ⟨rfl, hb3⟩
  have st3 := HST.out.below' hb3
  have st4 := (st3.alloc rfl [cptr pa, .int .i64 ((f : Nat) : Int)] 162).alloc (n := w3.heap.size + 1) (by simp) [cptr pb, .int .i64 (((f : Nat) : Int) + ((placesC x : Nat) : Int))] 162
  have HS3 := Lib.hid st3.size
  clear st3 hb3 q0 q1 q2 ql d0 d1 d2 dl
  go_upto_region 9 with fail
  generalize (w3.alloc _).alloc _ = w4 at *
  have q0 := (st4.get 2 rfl).cell 0
  have q1 := (st4.get 2 rfl).cell 1
  have q2 := (st4.get 2 rfl).cell 2
  have ql := (st4.get 2 rfl).lt
  have a0 := (st4.get 1 rfl).cell 0
  have a1 := (st4.get 1 rfl).cell 1
  have al := (st4.get 1 rfl).lt
  have b0 := (st4.get 0 rfl).cell 0
  have b1 := (st4.get 0 rfl).cell 1
  have bl := (st4.get 0 rfl).lt
  simp only [List.getElem?_cons_zero, List.getElem?_cons_succ] at q0 q1 q2 a0 a1 b0 b1
  have hs3 := HS3.out
  have HB4 := Lib.hid st4.below
  have HSQ := Lib.hid (H.out.new (Nat.le_refl w.heap.size))
  have HSA := Lib.hid (H.out.new hs3)
  have HSB := Lib.hid (H.out.new (Nat.le_succ_of_le hs3))
  have HSD := Lib.hid HD.out.1
  have hbd4 := HD.out.2.below HB4.out HD.out.2.lt
  have d0 : w4.cell? ⟨d, 0, none⟩ = some (cptr g) := hbd4.cell 0
  have d1 : w4.cell? ⟨d, 1, none⟩ = some (.int .i64 ((f : Nat) : Int)) := hbd4.cell 1
  have d4 : w4.cell? ⟨d, 4, none⟩ = some (.pointer vo) := hbd4.cell 4
  have dl := hbd4.lt
  have HD4 := Lib.hid hbd4
  have hbg4 := HG.out.2.below HB4.out HG.out.2.lt
  have k0 : w4.cell? ⟨g, 0, none⟩ = some (.int .i64 3) := hbg4.cell 0
  have hgl := hbg4.lt
  have HK4 := Lib.hid (Keep.below (S := SX fb lv bv) HB4.out)
  have HF4 := Lib.hid (H.out.under HB4.out)
  have HU4 := Lib.hid (HU.out.keep HK4.out)
  have HV4 := Lib.hid (HV.out.keep HK4.out)
  clear st4 hbd4 hbg4 HPT HST
  go_wp2_with fail
  have hb11 : Below w4.heap.size w4 (w4.drew.alloc (.cells #[cptr pb, .int .i64 (((f : Nat) : Int) + ((placesC x : Nat) : Int)), .bool false, .int .i64 0, .pointer vo] 164)) := ((Below.refl _ w4).drew.alloc (Nat.le_refl _) _)
  have HB11 := Lib.hid hb11
  have HK11 := Lib.hid (HK4.out.trans (Keep.below (S := SX fb lv bv) hb11))
  have hF11 := HF4.out.under hb11
  clear hb11
  have hK11 := Keep.below (S := SX fb lv bv) HB11.out
  have hn1 : SX fb lv bv w4.heap.size := HF4.out.new (Nat.le_refl _)
  have hbi : Blk (w4.drew.alloc (.cells #[cptr pb, .int .i64 (((f : Nat) : Int) + ((placesC x : Nat) : Int)), .bool false, .int .i64 0, .pointer vo] 164)) w4.heap.size 164 [cptr pb, .int .i64 (((f : Nat) : Int) + ((placesC x : Nat) : Int)), .bool false, .int .i64 0, .pointer vo] := Blk.new w4.drew [cptr pb, .int .i64 (((f : Nat) : Int) + ((placesC x : Nat) : Int)), .bool false, .int .i64 0, .pointer vo] 164
  have hown : TodoAt 164 (w4.drew.alloc (.cells #[cptr pb, .int .i64 (((f : Nat) : Int) + ((placesC x : Nat) : Int)), .bool false, .int .i64 0, .pointer vo] 164)) (SX fb lv bv) (.fresh y (f + placesC x) :: rest) (.pointer (some ⟨w4.heap.size, 0, none⟩)) :=
    ⟨_, pb, _, rfl, hn1, hbi, (HY.out.keep HK4.out).keep hK11, HV4.out.keep hK11⟩
  have HPU := Lib.hid (push_at (p := ⟨pos, read, .fresh y (f + placesC x) :: rest⟩) (x := cptr d) hF11 (HU4.out.keep hK11) hown (by have := HN.out; omega))
  clear hF11 hK11 hn1 hbi hown
  go_region_held3 (fun xw => xw.cell? ⟨w.heap.size, 0, none⟩ = some (.int .i64 ((pos : Nat) : Int)) ∧ xw.cell? ⟨w.heap.size, 1, none⟩ = some (.pointer uo) ∧ xw.cell? ⟨w.heap.size, 2, none⟩ = some (cptr d) ∧ xw.cell? ⟨w3.heap.size, 0, none⟩ = some (cptr pa) ∧ xw.cell? ⟨w3.heap.size, 1, none⟩ = some (.int .i64 ((f : Nat) : Int)) ∧ xw.cell? ⟨(w3.heap.size + 1), 0, none⟩ = some (cptr pb) ∧ xw.cell? ⟨(w3.heap.size + 1), 1, none⟩ = some (.int .i64 (((f : Nat) : Int) + ((placesC x : Nat) : Int))) ∧ xw.cell? ⟨d, 4, none⟩ = some (.pointer vo)) (go_keep)
    (first | (go_at_call 100; refine HPU.out.mono ?_; rintro e w12 ⟨⟨r12, rfl⟩, bv12, cs12, hF12, hK12⟩; have HF12 := Lib.hid hF12; have HK12 := Lib.hid hK12; have z_q0 := hK12.cell HSQ.out (Nat.lt_of_lt_of_le ql HB11.out.size) ((HB11.out.cell (p := ⟨w.heap.size, 0, none⟩) ql).trans q0); have z_q1 := hK12.cell HSQ.out (Nat.lt_of_lt_of_le ql HB11.out.size) ((HB11.out.cell (p := ⟨w.heap.size, 1, none⟩) ql).trans q1); have z_q2 := hK12.cell HSQ.out (Nat.lt_of_lt_of_le ql HB11.out.size) ((HB11.out.cell (p := ⟨w.heap.size, 2, none⟩) ql).trans q2); have z_a0 := hK12.cell HSA.out (Nat.lt_of_lt_of_le al HB11.out.size) ((HB11.out.cell (p := ⟨w3.heap.size, 0, none⟩) al).trans a0); have z_a1 := hK12.cell HSA.out (Nat.lt_of_lt_of_le al HB11.out.size) ((HB11.out.cell (p := ⟨w3.heap.size, 1, none⟩) al).trans a1); have z_b0 := hK12.cell HSB.out (Nat.lt_of_lt_of_le bl HB11.out.size) ((HB11.out.cell (p := ⟨(w3.heap.size + 1), 0, none⟩) bl).trans b0); have z_b1 := hK12.cell HSB.out (Nat.lt_of_lt_of_le bl HB11.out.size) ((HB11.out.cell (p := ⟨(w3.heap.size + 1), 1, none⟩) bl).trans b1); have z_d4 := hK12.cell HSD.out (Nat.lt_of_lt_of_le dl HB11.out.size) ((HB11.out.cell (p := ⟨d, 4, none⟩) dl).trans d4); clear hF12 hK12))
  all_goals
    have HKA := Lib.hid (HK11.out.trans HK12.out)
    have HSQ2 := Lib.hid ((HK12.out.2 w.heap.size HSQ.out (Nat.lt_of_lt_of_le ql HB11.out.size)).2)
    have HSA2 := Lib.hid ((HK12.out.2 w3.heap.size HSA.out (Nat.lt_of_lt_of_le al HB11.out.size)).2)
    have HSD2 := Lib.hid ((HK12.out.2 d HSD.out (Nat.lt_of_lt_of_le dl HB11.out.size)).2)
    have HU12 := Lib.hid ((HU4.out.keep (Keep.below (S := SX fb lv bv) HB11.out)).keep HK12.out)
    have HV12 := Lib.hid ((HV4.out.keep (Keep.below (S := SX fb lv bv) HB11.out)).keep HK12.out)
    have HX12 := Lib.hid (HX.out.keep HKA.out)
    have HLN := Lib.hid (show (F.push [⟨pos, read, .fresh y (f + placesC x) :: rest⟩]).back.length ≤ 1000000000 by have := HN.out; simp [Fd.push]; omega)
    have HFA := Lib.hid HF12.out
    have ql2 := Nat.lt_of_lt_of_le (Nat.lt_of_lt_of_le ql HB11.out.size) HK12.out.1
    have al2 := Nat.lt_of_lt_of_le (Nat.lt_of_lt_of_le al HB11.out.size) HK12.out.1
    have dl2 := Nat.lt_of_lt_of_le (Nat.lt_of_lt_of_le dl HB11.out.size) HK12.out.1
    clear q0 q1 q2 ql a0 a1 al b0 b1 bl d0 d1 d4 dl k0 hgl HB11 HK11 HF12 HK12 HPU z_b0 z_b1 HSQ HSA HSB HSD HK4 HF4 HU4 HV4 HX HB4 HD4 hsm
    have q0 := z_q0
    have q1 := z_q1
    have q2 := z_q2
    have a0 := z_a0
    have a1 := z_a1
    have d4 := z_d4
    have ql := ql2
    have al := al2
    have dl := dl2
    have HSQ := HSQ2
    have HSA := HSA2
    have HSD := HSD2
    clear z_q0 z_q1 z_q2 z_a0 z_a1 z_d4 ql2 al2 dl2 HSQ2 HSA2 HSD2
    go_wp2_with fail
    have hb11 : Below w12.heap.size w12 (w12.drew.alloc (.cells #[cptr pa, .int .i64 ((f : Nat) : Int), .bool false, .int .i64 0, .pointer vo] 164)) := ((Below.refl _ w12).drew.alloc (Nat.le_refl _) _)
    have HB11 := Lib.hid hb11
    have HK11 := Lib.hid (HKA.out.trans (Keep.below (S := SX fb lv bv12) hb11))
    have hF11 := HFA.out.under hb11
    clear hb11
    have hK11 := Keep.below (S := SX fb lv bv12) HB11.out
    have hn1 : SX fb lv bv12 w12.heap.size := HFA.out.new (Nat.le_refl _)
    have hbi : Blk (w12.drew.alloc (.cells #[cptr pa, .int .i64 ((f : Nat) : Int), .bool false, .int .i64 0, .pointer vo] 164)) w12.heap.size 164 [cptr pa, .int .i64 ((f : Nat) : Int), .bool false, .int .i64 0, .pointer vo] := Blk.new w12.drew [cptr pa, .int .i64 ((f : Nat) : Int), .bool false, .int .i64 0, .pointer vo] 164
    have hown : TodoAt 164 (w12.drew.alloc (.cells #[cptr pa, .int .i64 ((f : Nat) : Int), .bool false, .int .i64 0, .pointer vo] 164)) (SX fb lv bv12) (.fresh x f :: rest) (.pointer (some ⟨w12.heap.size, 0, none⟩)) :=
      ⟨_, pa, _, rfl, hn1, hbi, (HX12.out).keep hK11, HV12.out.keep hK11⟩
    have HPU := Lib.hid (push_at (p := ⟨pos, read, .fresh x f :: rest⟩) (x := cptr d) hF11 (HU12.out.keep hK11) hown HLN.out)
    clear hF11 hK11 hn1 hbi hown
    go_region_held3 (fun xw => xw.cell? ⟨w.heap.size, 0, none⟩ = some (.int .i64 ((pos : Nat) : Int)) ∧ xw.cell? ⟨w.heap.size, 1, none⟩ = some (.pointer uo) ∧ xw.cell? ⟨w.heap.size, 2, none⟩ = some (cptr d) ∧ xw.cell? ⟨w3.heap.size, 0, none⟩ = some (cptr pa) ∧ xw.cell? ⟨w3.heap.size, 1, none⟩ = some (.int .i64 ((f : Nat) : Int)) ∧ xw.cell? ⟨d, 4, none⟩ = some (.pointer vo)) (go_keep)
      (first | (go_at_call 100; refine HPU.out.mono ?_; rintro e w13 ⟨⟨r13, rfl⟩, bv13, cs13, hF13, hK13⟩; have HF13 := Lib.hid hF13; have HK13 := Lib.hid hK13; have z_q0 := hK13.cell HSQ.out (Nat.lt_of_lt_of_le ql HB11.out.size) ((HB11.out.cell (p := ⟨w.heap.size, 0, none⟩) ql).trans q0); have z_q1 := hK13.cell HSQ.out (Nat.lt_of_lt_of_le ql HB11.out.size) ((HB11.out.cell (p := ⟨w.heap.size, 1, none⟩) ql).trans q1); have z_q2 := hK13.cell HSQ.out (Nat.lt_of_lt_of_le ql HB11.out.size) ((HB11.out.cell (p := ⟨w.heap.size, 2, none⟩) ql).trans q2); have z_a0 := hK13.cell HSA.out (Nat.lt_of_lt_of_le al HB11.out.size) ((HB11.out.cell (p := ⟨w3.heap.size, 0, none⟩) al).trans a0); have z_a1 := hK13.cell HSA.out (Nat.lt_of_lt_of_le al HB11.out.size) ((HB11.out.cell (p := ⟨w3.heap.size, 1, none⟩) al).trans a1); have z_d4 := hK13.cell HSD.out (Nat.lt_of_lt_of_le dl HB11.out.size) ((HB11.out.cell (p := ⟨d, 4, none⟩) dl).trans d4); clear hF13 hK13))
    all_goals
      go_wp2
      go_returns
      refine ⟨⟨_, rfl⟩, lv, bv13, vs, cs13, ?_, HK11.out.trans HK13.out⟩
      have := HF13.out
      simp only [Fd.push, List.append_assoc, List.cons_append, List.nil_append] at this
      exact this
end Go.Proofs.YtpiimcbbgalhfaaGreatDoor
/- Ways: step, from any point. -/
namespace Go.Proofs.YtpiimcbbgalhfaaGreatDoor
open Go.RowKit
set_option maxHeartbeats 8000000 in
theorem wstep_nil {w0 w : World} {fb : Nat} {s : ByteArray} {most limit : Nat} {F : Fd} {lv bv : Value} {vs cs : List Value} (h : FinAt w0 w fb s most limit F lv bv vs cs) {pos : Nat} {read : List Nat} {u : Value}
    (hu : ReadAt 284 w (SX fb lv bv) read u) (hrl : read.length ≤ 1000000000) (hll : F.l.length ≤ 1000000000) :
    Calls Tryz.prog 101 #[.pointer (some ⟨fb, 0, none⟩), .agg #[.int .i64 ((pos : Nat) : Int), u, .pointer none]] w fun e w' => (∃ r, e = .returned r) ∧ FinIs w0 w w' fb s most limit (if pos = s.size then foundF most read F else F) lv bv := by
  obtain ⟨R, hR⟩ : ∃ R, (if pos = s.size then foundF most read F else F) = R := ⟨_, rfl⟩
  rw [hR]
  have HR := Lib.hid hR
  clear hR
  obtain ⟨uo, rfl, -⟩ := hu.form
  have hB1 : Below w.heap.size w (w.alloc (.cells #[.int .i64 ((pos : Nat) : Int), .pointer uo, .pointer none] 160)) := (Below.refl _ w).alloc (Nat.le_refl _) _
  have HST := Lib.hid ((St.nil w).alloc rfl [.int .i64 ((pos : Nat) : Int), .pointer uo, .pointer none] 160)
  have HB1 := Lib.hid hB1
  have HF1 := Lib.hid (h.under hB1)
  have HU1 := Lib.hid (hu.keep (Keep.below hB1))
  clear h hu hB1
  go_enter Tryz.func101, Tryz.ntmps101
  go_upto_region 1 with fail
  generalize hw1 : w.alloc _ = w1 at *
  clear hw1
  have q0 := (HST.out.get 0 rfl).cell 0
  have q1 := (HST.out.get 0 rfl).cell 1
  have q2 := (HST.out.get 0 rfl).cell 2
  have ql := (HST.out.get 0 rfl).lt
  simp only [List.getElem?_cons_zero, List.getElem?_cons_succ] at q0 q1 q2
  obtain ⟨⟨-, -, c2, -, -, -, -, -⟩, -, -, -, -, -⟩ := HF1.out.cells
  have hfl := HF1.out.blk.lt
  by_cases hp : pos = s.size
  · have HP := Lib.hid hp
    have hq : (((pos : Nat) : Int) == ((s.size : Nat) : Int)) = true := by rw [hp]; exact beq_self_eq_true _
    clear hp
    go_wp2_with fail
    go_quiet (fail)
    rename_i nq _
    have hb := below_drewN (Below.refl w1.heap.size w1) nq
    have HF2 := Lib.hid (HF1.out.under hb)
    have HU2 := Lib.hid (HU1.out.keep (Keep.below hb))
    have HB2 := Lib.hid (HB1.out.trans (hb.mono HB1.out.size))
    have hst2 := HST.out.below' hb
    clear hb q0 q1 q2 ql c2 hfl hq
    generalize w1.drewN nq = w2 at *
    have q1 := (hst2.get 0 rfl).cell 1
    have ql := (hst2.get 0 rfl).lt
    simp only [List.getElem?_cons_zero, List.getElem?_cons_succ] at q1
    clear hst2
    go_wp2_with fail
    refine (found_at HF2.out HU2.out hrl hll).mono ?_
    rintro e w3 ⟨⟨r3, rfl⟩, lv3, bv3, vs3, cs3, hF3, hK3⟩
    have HF3 := Lib.hid hF3
    have HK3 := Lib.hid hK3
    clear hF3 hK3 q1 ql
    go_wp2
    go_returns
    rw [← HR.out, if_pos HP.out]
    exact ⟨⟨_, rfl⟩, lv3, bv3, vs3, cs3, HF3.out, (Keep.below HB2.out).trans HK3.out⟩
  · have HP := Lib.hid hp
    have hq : (((pos : Nat) : Int) == ((s.size : Nat) : Int)) = false := by rw [beq_eq_false_iff_ne]; omega
    clear hp
    go_wp2_with fail
    go_quiet (fail)
    rename_i nq _
    have hb := below_drewN (Below.refl w1.heap.size w1) nq
    have HF2 := Lib.hid (HF1.out.under hb)
    have HB2 := Lib.hid (HB1.out.trans (hb.mono HB1.out.size))
    clear hb q0 q1 q2 ql c2 hfl hq
    generalize w1.drewN nq = w2 at *
    go_wp2
    go_returns
    rw [← HR.out, if_neg HP.out]
    exact ⟨⟨_, rfl⟩, lv, bv, vs, cs, HF2.out, Keep.below HB2.out⟩
set_option maxHeartbeats 8000000 in
theorem wstep_loop {w0 w : World} {fb : Nat} {s : ByteArray} {most limit : Nat} {F : Fd} {lv bv : Value} {vs cs : List Value} (h : FinAt w0 w fb s most limit F lv bv vs cs) {z : Bool} {x : CT} {f pos since d g : Nat} {read : List Nat} {rest : List It} {u v : Value}
    (hSd : SX fb lv bv d) (hbd : Blk w d 164 [cptr g, .int .i64 ((f : Nat) : Int), .bool true, .int .i64 ((since : Nat) : Int), v]) (hc : CoreAt w (SX fb lv bv) (CT.star z x) g) (hu : ReadAt 284 w (SX fb lv bv) read u) (hv : TodoAt 164 w (SX fb lv bv) rest v)
    (hlen : F.back.length + 1 ≤ 1000000000) (hsm : f + placesC x ≤ 1000000000) :
    Calls Tryz.prog 101 #[.pointer (some ⟨fb, 0, none⟩), .agg #[.int .i64 ((pos : Nat) : Int), u, cptr d]] w fun e w' => (∃ r, e = .returned r) ∧ FinIs w0 w w' fb s most limit (if since < pos then F.push (starP z x f pos read rest) else F) lv bv := by
  obtain ⟨R, hR⟩ : ∃ R, (if since < pos then F.push (starP z x f pos read rest) else F) = R := ⟨_, rfl⟩
  rw [hR]
  have HR := Lib.hid hR
  clear hR
  obtain ⟨uo, rfl, -⟩ := hu.form
  obtain ⟨vo, rfl, -⟩ := hv.form
  have hB1 : Below w.heap.size w (w.alloc (.cells #[.int .i64 ((pos : Nat) : Int), .pointer uo, cptr d] 160)) := (Below.refl _ w).alloc (Nat.le_refl _) _
  have HST := Lib.hid ((St.nil w).alloc rfl [.int .i64 ((pos : Nat) : Int), .pointer uo, cptr d] 160)
  have HB1 := Lib.hid hB1
  have H := Lib.hid h
  have HU := Lib.hid hu
  have HV := Lib.hid hv
  have HD := Lib.hid (And.intro hSd hbd)
  have HN := Lib.hid hlen
  have HCR := Lib.hid hc
  clear h hu hv hSd hbd hB1 hlen hc
  go_enter Tryz.func101, Tryz.ntmps101
  go_upto_region 1 with fail
  generalize hw1 : w.alloc _ = w1 at *
  clear hw1
  have q0 := (HST.out.get 0 rfl).cell 0
  have q1 := (HST.out.get 0 rfl).cell 1
  have q2 := (HST.out.get 0 rfl).cell 2
  have ql := (HST.out.get 0 rfl).lt
  simp only [List.getElem?_cons_zero, List.getElem?_cons_succ] at q0 q1 q2
  have hbd1 := HD.out.2.below HB1.out HD.out.2.lt
  have d2 : w1.cell? ⟨d, 2, none⟩ = some (.bool true) := hbd1.cell 2
  have d3 : w1.cell? ⟨d, 3, none⟩ = some (.int .i64 ((since : Nat) : Int)) := hbd1.cell 3
  have dl := hbd1.lt
  clear hbd1
  by_cases hp : since < pos
  · have HP := Lib.hid hp
    have hq : decide (since < pos) = true := decide_eq_true hp
    clear hp
    go_wp2_with fail
    go_quiet (fail)
    rename_i nq _
    have hb := below_drewN (Below.refl w1.heap.size w1) nq
    have HB4 := Lib.hid (HB1.out.trans (hb.mono HB1.out.size))
    have st4 := HST.out.below' hb
    clear hb q0 q1 q2 ql d2 d3 dl hq
    generalize w1.drewN nq = w4 at *
    have q0 := (st4.get 0 rfl).cell 0
    have q1 := (st4.get 0 rfl).cell 1
    have q2 := (st4.get 0 rfl).cell 2
    have ql := (st4.get 0 rfl).lt
    simp only [List.getElem?_cons_zero, List.getElem?_cons_succ] at q0 q1 q2
    have HSQ := Lib.hid (H.out.new (Nat.le_refl w.heap.size))
    have HSD := Lib.hid HD.out.1
    have hbd4 := HD.out.2.below HB4.out HD.out.2.lt
    have d0 : w4.cell? ⟨d, 0, none⟩ = some (cptr g) := hbd4.cell 0
    have d1 : w4.cell? ⟨d, 1, none⟩ = some (.int .i64 ((f : Nat) : Int)) := hbd4.cell 1
    have d4 : w4.cell? ⟨d, 4, none⟩ = some (.pointer vo) := hbd4.cell 4
    have dl := hbd4.lt
    have HK4 := Lib.hid (Keep.below (S := SX fb lv bv) HB4.out)
    have HF4 := Lib.hid (H.out.under HB4.out)
    have HU4 := Lib.hid (HU.out.keep HK4.out)
    have HV4 := Lib.hid (HV.out.keep HK4.out)
    clear st4 hbd4
    go_wp2_with fail
    have hb11 : Below w4.heap.size w4 w4.drew := (Below.refl _ w4).drew
    have HB11 := Lib.hid hb11
    have HK11 := Lib.hid (HK4.out.trans (Keep.below (S := SX fb lv bv) hb11))
    have hF11 := HF4.out.under hb11
    clear hb11
    have HPU := Lib.hid (wstar_at (pos := pos) (x := cptr d) hF11 ((HCR.out.keep HK4.out).keep (Keep.below (S := SX fb lv bv) HB11.out)) (HU4.out.keep (Keep.below (S := SX fb lv bv) HB11.out)) (HV4.out.keep (Keep.below (S := SX fb lv bv) HB11.out)) HN.out hsm)
    clear hF11 hsm
    go_region_held3 (fun xw => xw.cell? ⟨w.heap.size, 0, none⟩ = some (.int .i64 ((pos : Nat) : Int)) ∧ xw.cell? ⟨w.heap.size, 1, none⟩ = some (.pointer uo) ∧ xw.cell? ⟨w.heap.size, 2, none⟩ = some (cptr d) ∧ xw.cell? ⟨d, 0, none⟩ = some (cptr g) ∧ xw.cell? ⟨d, 1, none⟩ = some (.int .i64 ((f : Nat) : Int)) ∧ xw.cell? ⟨d, 4, none⟩ = some (.pointer vo)) (go_keep)
      (first | (go_at_call 150; refine HPU.out.mono ?_; rintro e w12 ⟨⟨r12, rfl⟩, bv12, cs12, hF12, hK12⟩; have HF12 := Lib.hid hF12; have HK12 := Lib.hid hK12; have z_q0 := hK12.cell HSQ.out (Nat.lt_of_lt_of_le ql HB11.out.size) ((HB11.out.cell (p := ⟨w.heap.size, 0, none⟩) ql).trans q0); have z_q1 := hK12.cell HSQ.out (Nat.lt_of_lt_of_le ql HB11.out.size) ((HB11.out.cell (p := ⟨w.heap.size, 1, none⟩) ql).trans q1); have z_q2 := hK12.cell HSQ.out (Nat.lt_of_lt_of_le ql HB11.out.size) ((HB11.out.cell (p := ⟨w.heap.size, 2, none⟩) ql).trans q2); have z_d0 := hK12.cell HSD.out (Nat.lt_of_lt_of_le dl HB11.out.size) ((HB11.out.cell (p := ⟨d, 0, none⟩) dl).trans d0); have z_d1 := hK12.cell HSD.out (Nat.lt_of_lt_of_le dl HB11.out.size) ((HB11.out.cell (p := ⟨d, 1, none⟩) dl).trans d1); have z_d4 := hK12.cell HSD.out (Nat.lt_of_lt_of_le dl HB11.out.size) ((HB11.out.cell (p := ⟨d, 4, none⟩) dl).trans d4); clear hF12 hK12))
    all_goals
      go_wp2
      go_returns
      rw [← HR.out, if_pos HP.out]
      exact ⟨⟨_, rfl⟩, _, _, _, _, HF12.out, HK11.out.trans HK12.out⟩
  · have HP := Lib.hid hp
    have hq : decide (since < pos) = false := decide_eq_false hp
    clear hp
    go_wp2_with fail
    go_quiet (fail)
    rename_i nq _
    have hb := below_drewN (Below.refl w1.heap.size w1) nq
    have HB2 := Lib.hid (HB1.out.trans (hb.mono HB1.out.size))
    clear hb q0 q1 q2 ql d2 d3 dl hq
    generalize w1.drewN nq = w2 at *
    go_wp2
    go_returns
    rw [← HR.out, if_neg HP.out]
    exact ⟨⟨_, rfl⟩, lv, bv, vs, cs, H.out.under HB2.out, Keep.below HB2.out⟩
/-- A step, from any point. -/
theorem step_at {w0 w : World} {fb : Nat} {s : ByteArray} {most limit : Nat} {F : Fd} {lv bv : Value} {vs cs : List Value} (h : FinAt w0 w fb s most limit F lv bv vs cs) (p : Pt) {u v : Value}
    (hu : ReadAt 284 w (SX fb lv bv) p.read u) (hv : TodoAt 164 w (SX fb lv bv) p.todo v) (hlen : F.back.length + 1 ≤ 1000000000) (hll : F.l.length ≤ 1000000000) (hs : s.size ≤ 1000000000) (hl : limit ≤ 1000000000) (hsm : p.small 1000000000 s.size) :
    Calls Tryz.prog 101 #[.pointer (some ⟨fb, 0, none⟩), .agg #[.int .i64 ((p.pos : Nat) : Int), u, v]] w fun e w' => (∃ r, e = .returned r) ∧ FinIs w0 w w' fb s most limit (stepF s.data.toList most limit p F) lv bv := by
  obtain ⟨pos, read, todo⟩ := p
  obtain ⟨h1, h2, h3, h4⟩ := hsm
  simp only [] at hu hv h1 h2 h3 ⊢
  have hszl : s.data.toList.length = s.size := by rw [Array.length_toList]; rfl
  cases todo with
  | nil =>
    rw [show v = .pointer none from hv]
    have := wstep_nil (pos := pos) h hu (by omega) hll
    simpa only [stepF, hszl] using this
  | cons x rest =>
    obtain ⟨d, g, v', rfl, hSd, hbd, hc, hr⟩ := hv
    have hx := (h2 x (by simp)).1
    cases x with
    | loop z a f since =>
      simp only [It.small, It.first, It.c, placesC] at hx
      exact wstep_loop h hSd hbd hc hu hr hlen hx
    | fresh c f =>
      simp only [It.small, It.first, It.c] at hx
      cases c with
      | empty => exact wstep_empty h hSd hbd hc hu hr hlen hs hl h1 hx
      | set m => exact wstep_set h hSd hbd hc hu hr hlen hs hl h1 hx
      | cat a b => exact wstep_cat h hSd hbd hc hu hr hlen hs hl h1 hx
      | alt a b => exact wstep_alt h hSd hbd hc hu hr hlen hs hl h1 hx
      | star z a => exact wstep_star h hSd hbd hc hu hr hlen hs hl h1 hx
end Go.Proofs.YtpiimcbbgalhfaaGreatDoor
