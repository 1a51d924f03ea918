/- Ways: found. -/
import Derived.Test.YtpiimcbbgalhfaaGreatDoorCh
import Derived.Test.YtpiimcbbgalhfaaGreatDoorBv
import Derived.Lib.OwnBridge
namespace Go.Proofs.YtpiimcbbgalhfaaGreatDoor
set_option maxRecDepth 100000
open Go.RowKit Go.Lib Go.Sort
def FinIs (w0 w w' : World) (fb : Nat) (s : ByteArray) (most limit : Nat) (F : Fd) (lv bv : Value) : Prop := ∃ lv' bv' vs' cs', FinAt w0 w' fb s most limit F lv' bv' vs' cs' ∧ Keep w (SX fb lv bv) w' (SX fb lv' bv')
abbrev natsV (l : List Nat) : List Value := l.map fun p => .int .i64 ((p : Nat) : Int)
theorem natsV_int (l : List Nat) : natsV l = (l.map fun p => ((p : Nat) : Int)).map (Value.int .i64) := by simp [natsV]
theorem own_len {w : World} {base size n : Nat} {e : TypeId} {v : Value} {xs : List Value} (h : w.ownsRow base e size v n xs) : ∃ A c, v = .slice A n c := by
  rcases h.2 with ⟨rfl, rfl⟩ | ⟨g, cap, cur, rfl, _⟩
  · exact ⟨_, _, rfl⟩
  · exact ⟨_, _, rfl⟩
theorem rev_at {B : Nat} {w : World} {v : Value} {l : List Nat} (h : w.ownsRow B 3 1 v l.length (natsV l)) (hl : l.length ≤ 1000000000) :
    Calls Tryz.prog 198 #[v] w fun e w' => (∃ r, e = .returned r) ∧ w'.ownsRow B 3 1 v l.length (natsV l.reverse) ∧ Below B w w' := by
  by_cases h0 : l = []
  · subst h0
    obtain ⟨A, c, rfl⟩ := own_len h
    refine (Tryz.slices_Reverse_int_empty A c w).mono ?_
    rintro e w' ⟨he, rfl⟩
    exact ⟨⟨_, he⟩, h, Below.refl _ _⟩
  · have hne : v ≠ .slice none 0 0 := by
      intro e
      obtain ⟨A, c, e2⟩ := own_len h
      rw [e] at e2
      injection e2 with _ e2
      exact h0 (List.eq_nil_of_length_eq_zero e2.symm)
    rw [natsV_int] at h
    obtain ⟨g, cap, rfl, hB, hg, hn, hm, hz, hH⟩ := holds_of_ownsRow h hne
    have hlen : (l.map fun p => ((p : Nat) : Int)).length = l.length := by simp
    have hcall := Tryz.slices_Reverse_int g 0 cap (l.map fun p => ((p : Nat) : Int)) w hH (by rw [hlen]; omega)
    rw [hlen] at hcall
    refine hcall.mono ?_
    rintro e w' ⟨he, n, rfl⟩
    refine ⟨⟨_, he⟩, ?_, below_putRow (Below.refl _ _) hB⟩
    have := ownsRow_putRow (q := n) (ys := (l.map fun p => ((p : Nat) : Int)).reverse) h (by simp) (Nat.le_refl _)
    rw [natsV_int, List.map_reverse]
    rwa [List.take_of_length_le (by simp)] at this
def lenV : Value → Nat
  | .slice _ n _ => n
  | _ => 0
theorem elem_ints : Elem Tryz.prog 150 52 1 24 := by
  obtain ⟨i, hi, h0, h1, h2⟩ := info_parts (by kernel_rfl : (Tryz.prog.info? 52).map (fun i => (i.zero, i.size, i.bytes)) = some (some (.slice none 0 0), 1, 24))
  exact ⟨i, _, Tryz.underlying150, hi, h0, h1, h2, rfl, by omega⟩
theorem elem_num : Elem Tryz.prog 52 3 1 8 := by
  obtain ⟨i, hi, h0, h1, h2⟩ := info_parts (by kernel_rfl : (Tryz.prog.info? 3).map (fun i => (i.zero, i.size, i.bytes)) = some (some (.int .i64 0), 1, 8))
  exact ⟨i, _, Tryz.underlying52, hi, h0, h1, h2, rfl, by omega⟩
theorem one_slice (a : Option Addr) (n c : Nat) : ∀ u ∈ [Value.slice a n c], u.oneCell' = true := by
  intro u hu
  obtain rfl := List.mem_singleton.1 hu
  rfl
theorem found_stop {most : Nat} {read : List Nat} {F : Fd} (h : F.l.length = most) : foundF most read F = { F with stopped := true } := by unfold foundF; rw [if_pos h]
theorem found_go {most : Nat} {read : List Nat} {F : Fd} (h : ¬F.l.length = most) : foundF most read F = { F with l := F.l ++ [read.reverse] } := by unfold foundF; rw [if_neg h]
set_option maxHeartbeats 8000000 in
theorem found_at {w0 w : World} {fb : Nat} {s : ByteArray} {most limit : Nat} {F : Fd} {lv bv : Value} {vs cs : List Value} (h : FinAt w0 w fb s most limit F lv bv vs cs) {read : List Nat} {u : Value}
    (hu : ReadAt 284 w (SX fb lv bv) read u) (hrl : read.length ≤ 1000000000) (hll : F.l.length ≤ 1000000000) :
    Calls Tryz.prog 149 #[.pointer (some ⟨fb, 0, none⟩), u] w fun e w' => (∃ r, e = .returned r) ∧ FinIs w0 w w' fb s most limit (foundF most read F) lv bv := by
  obtain ⟨uo, rfl, -⟩ := hu.form
  obtain ⟨A, c, rfl⟩ := own_len h.ways
  obtain ⟨⟨c0, -, -, c3, -, -, -, -⟩, -, -, -, -, -⟩ := h.cells
  have hfl := h.blk.lt
  have H := Lib.hid h
  have HU := Lib.hid hu
  clear h hu
  by_cases hm : F.l.length = most
  · have HM := Lib.hid hm
    have hq : (((F.l.length : Nat) : Int) == ((most : Nat) : Int)) = true := by rw [hm]; exact beq_self_eq_true _
    clear hm
    go_enter Tryz.func149, Tryz.ntmps149
    go_wp2_with fail
    go_quiet (fail)
    rename_i nq _
    clear c0 c3 hfl hq
    have hb := below_drewN (Below.refl w.heap.size w) nq
    have hF2 := H.out.under hb
    generalize w.drewN nq = w2 at *
    obtain ⟨⟨-, -, -, -, -, -, c6, -⟩, -, -, -, f6, -⟩ := hF2.cells
    have hfl := hF2.blk.lt
    have HF2 := Lib.hid hF2
    have HB := Lib.hid hb
    clear hF2 hb
    go_wp2
    go_returns
    obtain ⟨hF, hK⟩ := HF2.out.put 6 (.bool true) (F' := { F with stopped := true }) rfl rfl rfl
    rw [found_stop HM.out]
    exact ⟨⟨_, rfl⟩, _, _, _, _, hF, (Keep.below HB.out).trans hK⟩
  · have HM := Lib.hid hm
    have hq : (((F.l.length : Nat) : Int) == ((most : Nat) : Int)) = false := by rw [beq_eq_false_iff_ne]; omega
    clear hm
    go_enter Tryz.func149, Tryz.ntmps149
    go_wp2_with fail
    go_quiet (fail)
    rename_i nq _
    clear c0 c3 hfl hq
    have hb := below_drewN (Below.refl w.heap.size w) nq
    have HF2 := Lib.hid (H.out.under hb)
    have HU2 := Lib.hid (HU.out.keep (Keep.below hb))
    have HB := Lib.hid hb
    clear hb
    generalize w.drewN nq = w2 at *
    go_wp2_with fail
    go_loopw [1, 4] (fun sv yv wr => ∃ l1 l2 : List Nat, Hid (read = l1 ++ l2) ∧ ReadAt 284 w2 (SX fb (.slice A F.l.length c) bv) l2 sv ∧ wr.ownsRow w2.heap.size 3 1 yv l1.length (natsV l1) ∧ Below w2.heap.size w2 wr) (fun _ yv _ => read.length - lenV yv)
    case atStart => exact ⟨[], read, Lib.hid rfl, HU2.out, World.ownsRow_nil _ _ _ _, Below.refl _ _⟩
    case round =>
      obtain ⟨l1, l2, HE, hrd, hown, hbr⟩ := hrel
      have hll1 : l1.length + l2.length = read.length := by rw [HE.out, List.length_append]
      obtain ⟨A1, c1, rfl⟩ := own_len hown
      cases l2 with
      | nil =>
        simp only [ReadAt] at hrd
        subst hrd
        have HL1 := Lib.hid (show l1 = read by rw [HE.out, List.append_nil])
        have HRV := Lib.hid (rev_at hown (by omega))
        have HBR := Lib.hid hbr
        have hsz := hbr.size
        clear hown hbr
        go_wp2_with fail
        refine HRV.out.mono ?_
        rintro e w6 ⟨⟨r6, rfl⟩, hown6, hb6⟩
        have HO6 := Lib.hid hown6
        have HB6 := Lib.hid (HBR.out.trans hb6)
        have hsz6 := hb6.size
        have HOW6 := Lib.hid (own_below HF2.out.ways HB6.out)
        have HF6 := Lib.hid (HF2.out.under HB6.out)
        obtain ⟨⟨c0, -, -, -, -, -, -, -⟩, f0, -, -, -, -⟩ := HF6.out.cells
        have hfl := HF6.out.blk.lt
        clear hown6 hb6
        go_wp2_with (at_builtin; refine append_far rfl (.tmp 39) (.tmp 41) 150 rfl (fb + 1) 52 1 24 elem_ints _ _ _ rfl HOW6.out [.slice A1 l1.length c1] rfl rfl (one_slice _ _ _) ?g1 ?g2 ?g3 ?g4; (case g1 => omega); (case g2 => omega); (case g3 => omega); intro g5 cap5 w5 hown5 hmv; have hk5 := hmv.blk HF6.out.blk HOW6.out (Nat.lt_succ_self fb); have f05 := hk5.frozen 0; have c05 : w5.cell? ⟨fb, 0, none⟩ = some (.slice A F.l.length c) := hk5.cell 0; have hl5 := hk5.lt; have HM5 := Lib.hid hmv; have HO5 := Lib.hid hown5; clear hmv hown5 hk5)
        go_returns
        have hway : WayAt w6 (SX fb (.slice A F.l.length c) bv) (.slice A1 l1.length c1) read.reverse := by
          refine ⟨?_, fun g hg => HF2.out.new (HO6.out.lt g hg).1⟩
          have := own_base HO6.out (Nat.zero_le _)
          rw [HL1.out] at this ⊢
          simpa using this
        obtain ⟨hF, hK⟩ := HF2.out.kept HB6.out hway HO5.out HM5.out
        rw [found_go HM.out]
        exact ⟨⟨_, rfl⟩, _, _, _, _, hF, (Keep.below HB.out).trans hK⟩
      | cons p l2 =>
        obtain ⟨b, u', rfl, hSb, hbb, hrd'⟩ := hrd
        obtain ⟨uo', rfl, -⟩ := hrd'.form
        have hbl2 := hbb.lt
        have hb2 := hbb.below hbr hbb.lt
        have b0 := hb2.cell 0
        have b1 := hb2.cell 1
        have hbl := hb2.lt
        simp only [List.getElem?_cons_zero, List.getElem?_cons_succ] at b0 b1
        have HOW := Lib.hid hown
        have HBR := Lib.hid hbr
        have HRD := Lib.hid hrd'
        have hsz := hbr.size
        simp only [List.length_cons] at hll1
        clear hown hbr hrd' hbb hb2
        go_wp2_with (at_builtin; refine append_one rfl (.tmp 25) (.tmp 30) 52 rfl w2.heap.size 3 1 8 elem_num _ _ _ rfl HOW.out [.int .i64 ((p : Nat) : Int)] rfl rfl (one_int _ _) ?h1 ?h2 ?h3 ?h4; (case h1 => omega); (case h2 => omega); (case h3 => omega); intro v5 w5 hown5 hb5; have b15 := (hb5.cell (p := ⟨b, 1, none⟩) hbl2).trans b1; have hbl5 := Nat.lt_of_lt_of_le hbl hb5.size; obtain ⟨A5, c5, rfl⟩ := own_len hown5; have HO5 := Lib.hid hown5; have HB5 := Lib.hid (HBR.out.trans hb5); clear hown5 hb5)
        go_roundw
        case rel => exact ⟨l1 ++ [p], l2, Lib.hid (by rw [HE.out, List.append_assoc]; rfl), HRD.out, by have := HO5.out; simpa [natsV] using this, HB5.out⟩
        case measure => simp [lenV]; omega
end Go.Proofs.YtpiimcbbgalhfaaGreatDoor
/- Ways: step, a case a kind of node. -/
namespace Go.Proofs.YtpiimcbbgalhfaaGreatDoor
open Go.RowKit
set_option maxHeartbeats 8000000 in
theorem wstep_empty {w0 w : World} {fb : Nat} {s : ByteArray} {most limit : Nat} {F : Fd} {lv bv : Value} {vs cs : List Value} (h : FinAt w0 w fb s most limit F lv bv vs cs) {f pos d g : Nat} {read : List Nat} {rest : List It} {u v : Value}
    (hSd : SX fb lv bv d) (hbd : Blk w d 164 [cptr g, .int .i64 ((f : Nat) : Int), .bool false, .int .i64 ((0 : Nat) : Int), v]) (hc : CoreAt w (SX fb lv bv) (CT.empty) g) (hu : ReadAt 284 w (SX fb lv bv) read u) (hv : TodoAt 164 w (SX fb lv bv) rest v)
    (hlen : F.back.length + 1 ≤ 1000000000) (hs : s.size ≤ 1000000000) (hl : limit ≤ 1000000000) (hp : pos ≤ s.size) (hsm : f + placesC (CT.empty) ≤ 1000000000) :
    Calls Tryz.prog 101 #[.pointer (some ⟨fb, 0, none⟩), .agg #[.int .i64 ((pos : Nat) : Int), u, cptr d]] w fun e w' => (∃ r, e = .returned r) ∧ FinIs w0 w w' fb s most limit (F.push [⟨pos, read, rest⟩]) lv bv := by
  obtain ⟨uo, rfl, -⟩ := hu.form
  obtain ⟨vo, rfl, -⟩ := hv.form
  have hB1 : Below w.heap.size w (w.alloc (.cells #[.int .i64 ((pos : Nat) : Int), .pointer uo, cptr d] 160)) := (Below.refl _ w).alloc (Nat.le_refl _) _
  have HST := Lib.hid ((St.nil w).alloc rfl [.int .i64 ((pos : Nat) : Int), .pointer uo, cptr d] 160)
  have HB1 := Lib.hid hB1
  have H := Lib.hid h
  have HU := Lib.hid hu
  have HV := Lib.hid hv
  have HD := Lib.hid (And.intro hSd hbd)
  have HN := Lib.hid hlen
  have HSZ := Lib.hid (And.intro hs (And.intro hl hp))
  obtain ⟨hSg, hbg⟩ := hc
  have HG := Lib.hid (And.intro hSg hbg)
  have HPT := Lib.hid (parts_node (A := 0) (f := f) (hbg.below hB1 hbg.lt) (by omega) (fun W _ => places_nil W))
  clear hSg hbg
  clear h hu hv hSd hbd hB1 hlen hs hl hp
  go_enter Tryz.func101, Tryz.ntmps101
  go_upto_region 1 with fail
  generalize hw1 : w.alloc _ = w1 at *
  clear hw1
  have q0 := (HST.out.get 0 rfl).cell 0
  have q1 := (HST.out.get 0 rfl).cell 1
  have q2 := (HST.out.get 0 rfl).cell 2
  have ql := (HST.out.get 0 rfl).lt
  simp only [List.getElem?_cons_zero, List.getElem?_cons_succ] at q0 q1 q2
  have hbd1 := HD.out.2.below HB1.out HD.out.2.lt
  have d0 : w1.cell? ⟨d, 0, none⟩ = some (cptr g) := hbd1.cell 0
  have d1 : w1.cell? ⟨d, 1, none⟩ = some (.int .i64 ((f : Nat) : Int)) := hbd1.cell 1
  have d2 : w1.cell? ⟨d, 2, none⟩ = some (.bool false) := hbd1.cell 2
  have dl := hbd1.lt
  clear hbd1
  go_wp2_with fail
  refine HPT.out.mono ?_
  rintro v w3 ⟨rfl, hb3⟩
  have st3 := HST.out.below' hb3
  have st4 := (st3.alloc rfl [.pointer none, .int .i64 ((f : Nat) : Int)] 162).alloc (n := w3.heap.size + 1) (by simp) [.pointer none, .int .i64 ((f : Nat) : Int)] 162
  have HS3 := Lib.hid st3.size
  clear st3 hb3 q0 q1 q2 ql d0 d1 d2 dl
  go_upto_region 9 with fail
  generalize (w3.alloc _).alloc _ = w4 at *
  have q0 := (st4.get 2 rfl).cell 0
  have q1 := (st4.get 2 rfl).cell 1
  have q2 := (st4.get 2 rfl).cell 2
  have ql := (st4.get 2 rfl).lt
  have a0 := (st4.get 1 rfl).cell 0
  have a1 := (st4.get 1 rfl).cell 1
  have al := (st4.get 1 rfl).lt
  have b0 := (st4.get 0 rfl).cell 0
  have b1 := (st4.get 0 rfl).cell 1
  have bl := (st4.get 0 rfl).lt
  simp only [List.getElem?_cons_zero, List.getElem?_cons_succ] at q0 q1 q2 a0 a1 b0 b1
  have hs3 := HS3.out
  have HB4 := Lib.hid st4.below
  have HSQ := Lib.hid (H.out.new (Nat.le_refl w.heap.size))
  have HSA := Lib.hid (H.out.new hs3)
  have HSB := Lib.hid (H.out.new (Nat.le_succ_of_le hs3))
  have HSD := Lib.hid HD.out.1
  have hbd4 := HD.out.2.below HB4.out HD.out.2.lt
  have d0 : w4.cell? ⟨d, 0, none⟩ = some (cptr g) := hbd4.cell 0
  have d1 : w4.cell? ⟨d, 1, none⟩ = some (.int .i64 ((f : Nat) : Int)) := hbd4.cell 1
  have d4 : w4.cell? ⟨d, 4, none⟩ = some (.pointer vo) := hbd4.cell 4
  have dl := hbd4.lt
  have HD4 := Lib.hid hbd4
  have hbg4 := HG.out.2.below HB4.out HG.out.2.lt
  have k0 : w4.cell? ⟨g, 0, none⟩ = some (.int .i64 0) := hbg4.cell 0
  have hgl := hbg4.lt
  have HK4 := Lib.hid (Keep.below (S := SX fb lv bv) HB4.out)
  have HF4 := Lib.hid (H.out.under HB4.out)
  have HU4 := Lib.hid (HU.out.keep HK4.out)
  have HV4 := Lib.hid (HV.out.keep HK4.out)
  clear st4 hbd4 hbg4 HPT HST
  go_wp2_with fail
  have hb11 : Below w4.heap.size w4 w4.drew := (Below.refl _ w4).drew
  have HB11 := Lib.hid hb11
  have HK11 := Lib.hid (HK4.out.trans (Keep.below (S := SX fb lv bv) hb11))
  have hF11 := HF4.out.under hb11
  clear hb11
  have HPU := Lib.hid (push_at (p := ⟨pos, read, rest⟩) (x := cptr d) hF11 (HU4.out.keep (Keep.below (S := SX fb lv bv) HB11.out)) (HV4.out.keep (Keep.below (S := SX fb lv bv) HB11.out)) (by have := HN.out; omega))
  clear hF11 hsm
  go_region_held3 (fun xw => xw.cell? ⟨w.heap.size, 0, none⟩ = some (.int .i64 ((pos : Nat) : Int)) ∧ xw.cell? ⟨w.heap.size, 1, none⟩ = some (.pointer uo) ∧ xw.cell? ⟨w.heap.size, 2, none⟩ = some (cptr d) ∧ xw.cell? ⟨d, 4, none⟩ = some (.pointer vo)) (go_keep)
    (first | (go_at_call 100; refine HPU.out.mono ?_; rintro e w12 ⟨⟨r12, rfl⟩, bv12, cs12, hF12, hK12⟩; have HF12 := Lib.hid hF12; have HK12 := Lib.hid hK12; have z_q0 := hK12.cell HSQ.out (Nat.lt_of_lt_of_le ql HB11.out.size) ((HB11.out.cell (p := ⟨w.heap.size, 0, none⟩) ql).trans q0); have z_q1 := hK12.cell HSQ.out (Nat.lt_of_lt_of_le ql HB11.out.size) ((HB11.out.cell (p := ⟨w.heap.size, 1, none⟩) ql).trans q1); have z_q2 := hK12.cell HSQ.out (Nat.lt_of_lt_of_le ql HB11.out.size) ((HB11.out.cell (p := ⟨w.heap.size, 2, none⟩) ql).trans q2); have z_d4 := hK12.cell HSD.out (Nat.lt_of_lt_of_le dl HB11.out.size) ((HB11.out.cell (p := ⟨d, 4, none⟩) dl).trans d4); clear hF12 hK12))
  all_goals
    go_wp2
    go_returns
    exact ⟨⟨_, rfl⟩, _, _, _, _, HF12.out, HK11.out.trans HK12.out⟩
set_option maxHeartbeats 8000000 in
theorem wstep_set {w0 w : World} {fb : Nat} {s : ByteArray} {most limit : Nat} {F : Fd} {lv bv : Value} {vs cs : List Value} (h : FinAt w0 w fb s most limit F lv bv vs cs) {m : Nat → Bool} {f pos d g : Nat} {read : List Nat} {rest : List It} {u v : Value}
    (hSd : SX fb lv bv d) (hbd : Blk w d 164 [cptr g, .int .i64 ((f : Nat) : Int), .bool false, .int .i64 ((0 : Nat) : Int), v]) (hc : CoreAt w (SX fb lv bv) (CT.set m) g) (hu : ReadAt 284 w (SX fb lv bv) read u) (hv : TodoAt 164 w (SX fb lv bv) rest v)
    (hlen : F.back.length + 1 ≤ 1000000000) (hs : s.size ≤ 1000000000) (hl : limit ≤ 1000000000) (hp : pos ≤ s.size) (hsm : f + placesC (CT.set m) ≤ 1000000000) :
    Calls Tryz.prog 101 #[.pointer (some ⟨fb, 0, none⟩), .agg #[.int .i64 ((pos : Nat) : Int), u, cptr d]] w fun e w' => (∃ r, e = .returned r) ∧ FinIs w0 w w' fb s most limit (hitF s.data.toList limit m f pos read rest F) lv bv := by
  obtain ⟨uo, rfl, -⟩ := hu.form
  obtain ⟨vo, rfl, -⟩ := hv.form
  have hB1 : Below w.heap.size w (w.alloc (.cells #[.int .i64 ((pos : Nat) : Int), .pointer uo, cptr d] 160)) := (Below.refl _ w).alloc (Nat.le_refl _) _
  have HST := Lib.hid ((St.nil w).alloc rfl [.int .i64 ((pos : Nat) : Int), .pointer uo, cptr d] 160)
  have HB1 := Lib.hid hB1
  have H := Lib.hid h
  have HU := Lib.hid hu
  have HV := Lib.hid hv
  have HD := Lib.hid (And.intro hSd hbd)
  have HN := Lib.hid hlen
  have HSZ := Lib.hid (And.intro hs (And.intro hl hp))
  have HCR := Lib.hid hc
  obtain ⟨hSg, hbg⟩ := hc
  have HG := Lib.hid (And.intro hSg hbg)
  have HPT := Lib.hid (parts_node (A := 0) (f := f) (hbg.below hB1 hbg.lt) (by omega) (fun W _ => places_nil W))
  clear hSg hbg
  clear h hu hv hSd hbd hB1 hlen hs hl hp
  go_enter Tryz.func101, Tryz.ntmps101
  go_upto_region 1 with fail
  generalize hw1 : w.alloc _ = w1 at *
  clear hw1
  have q0 := (HST.out.get 0 rfl).cell 0
  have q1 := (HST.out.get 0 rfl).cell 1
  have q2 := (HST.out.get 0 rfl).cell 2
  have ql := (HST.out.get 0 rfl).lt
  simp only [List.getElem?_cons_zero, List.getElem?_cons_succ] at q0 q1 q2
  have hbd1 := HD.out.2.below HB1.out HD.out.2.lt
  have d0 : w1.cell? ⟨d, 0, none⟩ = some (cptr g) := hbd1.cell 0
  have d1 : w1.cell? ⟨d, 1, none⟩ = some (.int .i64 ((f : Nat) : Int)) := hbd1.cell 1
  have d2 : w1.cell? ⟨d, 2, none⟩ = some (.bool false) := hbd1.cell 2
  have dl := hbd1.lt
  clear hbd1
  go_wp2_with fail
  refine HPT.out.mono ?_
  rintro v w3 ⟨rfl, hb3⟩
  have st3 := HST.out.below' hb3
  have st4 := (st3.alloc rfl [.pointer none, .int .i64 ((f : Nat) : Int)] 162).alloc (n := w3.heap.size + 1) (by simp) [.pointer none, .int .i64 ((f : Nat) : Int)] 162
  have HS3 := Lib.hid st3.size
  clear st3 hb3 q0 q1 q2 ql d0 d1 d2 dl
  go_upto_region 9 with fail
  generalize (w3.alloc _).alloc _ = w4 at *
  have q0 := (st4.get 2 rfl).cell 0
  have q1 := (st4.get 2 rfl).cell 1
  have q2 := (st4.get 2 rfl).cell 2
  have ql := (st4.get 2 rfl).lt
  have a0 := (st4.get 1 rfl).cell 0
  have a1 := (st4.get 1 rfl).cell 1
  have al := (st4.get 1 rfl).lt
  have b0 := (st4.get 0 rfl).cell 0
  have b1 := (st4.get 0 rfl).cell 1
  have bl := (st4.get 0 rfl).lt
  simp only [List.getElem?_cons_zero, List.getElem?_cons_succ] at q0 q1 q2 a0 a1 b0 b1
  have hs3 := HS3.out
  have HB4 := Lib.hid st4.below
  have HSQ := Lib.hid (H.out.new (Nat.le_refl w.heap.size))
  have HSA := Lib.hid (H.out.new hs3)
  have HSB := Lib.hid (H.out.new (Nat.le_succ_of_le hs3))
  have HSD := Lib.hid HD.out.1
  have hbd4 := HD.out.2.below HB4.out HD.out.2.lt
  have d0 : w4.cell? ⟨d, 0, none⟩ = some (cptr g) := hbd4.cell 0
  have d1 : w4.cell? ⟨d, 1, none⟩ = some (.int .i64 ((f : Nat) : Int)) := hbd4.cell 1
  have d4 : w4.cell? ⟨d, 4, none⟩ = some (.pointer vo) := hbd4.cell 4
  have dl := hbd4.lt
  have HD4 := Lib.hid hbd4
  have hbg4 := HG.out.2.below HB4.out HG.out.2.lt
  have k0 : w4.cell? ⟨g, 0, none⟩ = some (.int .i64 1) := hbg4.cell 0
  have hgl := hbg4.lt
  have HK4 := Lib.hid (Keep.below (S := SX fb lv bv) HB4.out)
  have HF4 := Lib.hid (H.out.under HB4.out)
  have HU4 := Lib.hid (HU.out.keep HK4.out)
  have HV4 := Lib.hid (HV.out.keep HK4.out)
  clear st4 hbd4 hbg4 HPT HST
  go_wp2_with fail
  refine (whit_at HF4.out HSD.out HD4.out (HCR.out.keep HK4.out) HU4.out HV4.out (by have := HN.out; omega) HSZ.out.1 HSZ.out.2.1 HSZ.out.2.2).mono ?_
  rintro e w12 ⟨⟨r12, rfl⟩, bv12, cs12, hF12, hK12⟩
  have HF12 := Lib.hid hF12
  have HK12 := Lib.hid hK12
  clear hF12 hK12 q0 q1 q2 ql a0 a1 al b0 b1 bl d0 d1 d4 dl k0 hgl hsm hs3
  go_wp2
  go_returns
  exact ⟨⟨_, rfl⟩, _, _, _, _, HF12.out, HK4.out.trans HK12.out⟩
set_option maxHeartbeats 8000000 in
theorem wstep_star {w0 w : World} {fb : Nat} {s : ByteArray} {most limit : Nat} {F : Fd} {lv bv : Value} {vs cs : List Value} (h : FinAt w0 w fb s most limit F lv bv vs cs) {z : Bool} {x : CT} {f pos d g : Nat} {read : List Nat} {rest : List It} {u v : Value}
    (hSd : SX fb lv bv d) (hbd : Blk w d 164 [cptr g, .int .i64 ((f : Nat) : Int), .bool false, .int .i64 ((0 : Nat) : Int), v]) (hc : CoreAt w (SX fb lv bv) (CT.star z x) g) (hu : ReadAt 284 w (SX fb lv bv) read u) (hv : TodoAt 164 w (SX fb lv bv) rest v)
    (hlen : F.back.length + 1 ≤ 1000000000) (hs : s.size ≤ 1000000000) (hl : limit ≤ 1000000000) (hp : pos ≤ s.size) (hsm : f + placesC (CT.star z x) ≤ 1000000000) :
    Calls Tryz.prog 101 #[.pointer (some ⟨fb, 0, none⟩), .agg #[.int .i64 ((pos : Nat) : Int), u, cptr d]] w fun e w' => (∃ r, e = .returned r) ∧ FinIs w0 w w' fb s most limit (F.push (starP z x f pos read rest)) lv bv := by
  obtain ⟨uo, rfl, -⟩ := hu.form
  obtain ⟨vo, rfl, -⟩ := hv.form
  have hB1 : Below w.heap.size w (w.alloc (.cells #[.int .i64 ((pos : Nat) : Int), .pointer uo, cptr d] 160)) := (Below.refl _ w).alloc (Nat.le_refl _) _
  have HST := Lib.hid ((St.nil w).alloc rfl [.int .i64 ((pos : Nat) : Int), .pointer uo, cptr d] 160)
  have HB1 := Lib.hid hB1
  have H := Lib.hid h
  have HU := Lib.hid hu
  have HV := Lib.hid hv
  have HD := Lib.hid (And.intro hSd hbd)
  have HN := Lib.hid hlen
  have HSZ := Lib.hid (And.intro hs (And.intro hl hp))
  obtain ⟨hSg, pa, hbg, hx⟩ := hc
  have HCR := Lib.hid (show CoreAt w (SX fb lv bv) (.star z x) g from ⟨hSg, pa, hbg, hx⟩)
  simp only [placesC] at hsm
  have HG := Lib.hid (And.intro hSg hbg)
  have HPT := Lib.hid (parts_node (A := placesC x) (f := f) (hbg.below hB1 hbg.lt) (by omega) (fun W hW => places_at x ((hx.under hB1).under hW) (by omega)))
  clear hSg hbg hx
  clear h hu hv hSd hbd hB1 hlen hs hl hp
  go_enter Tryz.func101, Tryz.ntmps101
  go_upto_region 1 with fail
  generalize hw1 : w.alloc _ = w1 at *
  clear hw1
  have q0 := (HST.out.get 0 rfl).cell 0
  have q1 := (HST.out.get 0 rfl).cell 1
  have q2 := (HST.out.get 0 rfl).cell 2
  have ql := (HST.out.get 0 rfl).lt
  simp only [List.getElem?_cons_zero, List.getElem?_cons_succ] at q0 q1 q2
  have hbd1 := HD.out.2.below HB1.out HD.out.2.lt
  have d0 : w1.cell? ⟨d, 0, none⟩ = some (cptr g) := hbd1.cell 0
  have d1 : w1.cell? ⟨d, 1, none⟩ = some (.int .i64 ((f : Nat) : Int)) := hbd1.cell 1
  have d2 : w1.cell? ⟨d, 2, none⟩ = some (.bool false) := hbd1.cell 2
  have dl := hbd1.lt
  clear hbd1
  go_wp2_with fail
  refine HPT.out.mono ?_
  rintro v w3 ⟨rfl, hb3⟩
  have st3 := HST.out.below' hb3
  have st4 := (st3.alloc rfl [cptr pa, .int .i64 ((f : Nat) : Int)] 162).alloc (n := w3.heap.size + 1) (by simp) [.pointer none, .int .i64 (((f : Nat) : Int) + ((placesC x : Nat) : Int))] 162
  have HS3 := Lib.hid st3.size
  clear st3 hb3 q0 q1 q2 ql d0 d1 d2 dl
  go_upto_region 9 with fail
  generalize (w3.alloc _).alloc _ = w4 at *
  have q0 := (st4.get 2 rfl).cell 0
  have q1 := (st4.get 2 rfl).cell 1
  have q2 := (st4.get 2 rfl).cell 2
  have ql := (st4.get 2 rfl).lt
  have a0 := (st4.get 1 rfl).cell 0
  have a1 := (st4.get 1 rfl).cell 1
  have al := (st4.get 1 rfl).lt
  have b0 := (st4.get 0 rfl).cell 0
  have b1 := (st4.get 0 rfl).cell 1
  have bl := (st4.get 0 rfl).lt
  simp only [List.getElem?_cons_zero, List.getElem?_cons_succ] at q0 q1 q2 a0 a1 b0 b1
  have hs3 := HS3.out
  have HB4 := Lib.hid st4.below
  have HSQ := Lib.hid (H.out.new (Nat.le_refl w.heap.size))
  have HSA := Lib.hid (H.out.new hs3)
  have HSB := Lib.hid (H.out.new (Nat.le_succ_of_le hs3))
  have HSD := Lib.hid HD.out.1
  have hbd4 := HD.out.2.below HB4.out HD.out.2.lt
  have d0 : w4.cell? ⟨d, 0, none⟩ = some (cptr g) := hbd4.cell 0
  have d1 : w4.cell? ⟨d, 1, none⟩ = some (.int .i64 ((f : Nat) : Int)) := hbd4.cell 1
  have d4 : w4.cell? ⟨d, 4, none⟩ = some (.pointer vo) := hbd4.cell 4
  have dl := hbd4.lt
  have HD4 := Lib.hid hbd4
  have hbg4 := HG.out.2.below HB4.out HG.out.2.lt
  have k0 : w4.cell? ⟨g, 0, none⟩ = some (.int .i64 4) := hbg4.cell 0
  have hgl := hbg4.lt
  have HK4 := Lib.hid (Keep.below (S := SX fb lv bv) HB4.out)
  have HF4 := Lib.hid (H.out.under HB4.out)
  have HU4 := Lib.hid (HU.out.keep HK4.out)
  have HV4 := Lib.hid (HV.out.keep HK4.out)
  clear st4 hbd4 hbg4 HPT HST
  go_wp2_with fail
  have hb11 : Below w4.heap.size w4 w4.drew := (Below.refl _ w4).drew
  have HB11 := Lib.hid hb11
  have HK11 := Lib.hid (HK4.out.trans (Keep.below (S := SX fb lv bv) hb11))
  have hF11 := HF4.out.under hb11
  clear hb11
  have HPU := Lib.hid (wstar_at (pos := pos) (x := cptr d) hF11 ((HCR.out.keep HK4.out).keep (Keep.below (S := SX fb lv bv) HB11.out)) (HU4.out.keep (Keep.below (S := SX fb lv bv) HB11.out)) (HV4.out.keep (Keep.below (S := SX fb lv bv) HB11.out)) HN.out hsm)
  clear hF11 hsm
  go_region_held3 (fun xw => xw.cell? ⟨w.heap.size, 0, none⟩ = some (.int .i64 ((pos : Nat) : Int)) ∧ xw.cell? ⟨w.heap.size, 1, none⟩ = some (.pointer uo) ∧ xw.cell? ⟨w.heap.size, 2, none⟩ = some (cptr d) ∧ xw.cell? ⟨d, 0, none⟩ = some (cptr g) ∧ xw.cell? ⟨d, 1, none⟩ = some (.int .i64 ((f : Nat) : Int)) ∧ xw.cell? ⟨d, 4, none⟩ = some (.pointer vo)) (go_keep)
    (first | (go_at_call 150; refine HPU.out.mono ?_; rintro e w12 ⟨⟨r12, rfl⟩, bv12, cs12, hF12, hK12⟩; have HF12 := Lib.hid hF12; have HK12 := Lib.hid hK12; have z_q0 := hK12.cell HSQ.out (Nat.lt_of_lt_of_le ql HB11.out.size) ((HB11.out.cell (p := ⟨w.heap.size, 0, none⟩) ql).trans q0); have z_q1 := hK12.cell HSQ.out (Nat.lt_of_lt_of_le ql HB11.out.size) ((HB11.out.cell (p := ⟨w.heap.size, 1, none⟩) ql).trans q1); have z_q2 := hK12.cell HSQ.out (Nat.lt_of_lt_of_le ql HB11.out.size) ((HB11.out.cell (p := ⟨w.heap.size, 2, none⟩) ql).trans q2); have z_d0 := hK12.cell HSD.out (Nat.lt_of_lt_of_le dl HB11.out.size) ((HB11.out.cell (p := ⟨d, 0, none⟩) dl).trans d0); have z_d1 := hK12.cell HSD.out (Nat.lt_of_lt_of_le dl HB11.out.size) ((HB11.out.cell (p := ⟨d, 1, none⟩) dl).trans d1); have z_d4 := hK12.cell HSD.out (Nat.lt_of_lt_of_le dl HB11.out.size) ((HB11.out.cell (p := ⟨d, 4, none⟩) dl).trans d4); clear hF12 hK12))
  all_goals
    go_wp2
    go_returns
    exact ⟨⟨_, rfl⟩, _, _, _, _, HF12.out, HK11.out.trans HK12.out⟩
end Go.Proofs.YtpiimcbbgalhfaaGreatDoor
