/- BlocksOf: of any sets each byte's block, numbered by least bytes; each block's bytes. -/
import Derived.Test.YtanimknpnniabaaDoorTogether
import Derived.Test.YtanimknpnniabaaDoorAwake04
import Derived.Test.YtanimknpnniabaaDoorFirsts
import Derived.Test.YtanimknpnniabaaDoorOps2
namespace Go.Proofs.YtanimknpnniabaaDoor
open Go.RowKit
attribute [local go_sem] eq_words eqB_words eqB_zero
theorem make_full (m : Nat → Bool) (x : Nat) (h : x < 256) : makeM (((List.range 256).map fun x => decide (x < 256) && m x).take 256) x = m x := by
  rw [make_up _ x h]
  simp [h]
set_option maxRecDepth 100000 in
set_option maxHeartbeats 2000000 in
theorem of_law (l : List (Nat → Bool)) (i : Int) (v : Value) (w : World) (hv : RdSw w v l) (hT : TabOk w) :
    Calls Tryd.prog 3 #[v, .int .i64 i] w fun e w' => e = .returned (.bool true) ∧ Below w.heap.size w w' := by
  have HT := Lib.hid hT
  have HV := Lib.hid hv
  clear hT
  obtain ⟨A, c, rfl, h1, h2, h3⟩ := hv
  clear h3
  go_enter Tryd.func3, Tryd.ntmps3
  by_cases hlen : 20 < l.length
  · go_wp2_with fail
    refine (awake04_any _ HT.out).mono ?_
    rintro e w1 ⟨rfl, hb⟩
    go_wp2
    go_returns
    exact ⟨rfl, hb⟩
  · have HV := Lib.hid (HV.out.rdS (by omega))
    go_wp2_with fail
    refine (new_any l _ _ HV.out).mono ?_
    rintro e w1 ⟨x, g, rfl, hx, _, _, hb⟩
    have HV1 := Lib.hid (HV.out.below hb)
    have HT1 := Lib.hid (HT.out.below hb)
    have HX := Lib.hid hx
    have hb1 := hb
    clear HV HT hx hb
    go_wp2
    go_loopw [6, 7] (fun s i wr => ∃ b : Nat, b ≤ 256 ∧ i = .int .i64 ((b : Nat) : Int) ∧ wr.ownsRow w1.heap.size 3 1 s (cntOf (keyL l) b) ((fsZ l b).map (.int .i64)) ∧ Below w1.heap.size w1 wr) (fun _ i _ => 256 - (intOf i).toNat)
    case atStart => exact ⟨0, by omega, rfl, World.ownsRow_nil _ _ _ _, Below.refl _ _⟩
    case round =>
      obtain ⟨b, hb256, rfl, hown, hbl⟩ := hrel
      have hsz := hbl.size
      obtain ⟨A', c', rfl⟩ := own_shape hown
      by_cases hlt : b < 256
      · have Hown := Lib.hid hown
        have hle : cntOf (keyL l) b ≤ 256 := Nat.le_trans (cntOf_le _ _) hb256
        clear hown
        generalize hq : cntOf (keyL l) b = n at *
        have HQ := Lib.hid hq
        clear hq
        go_wp2
        rw [show decide (((b : Nat) : Int) < 256) = true from decide_eq_true (by omega)]
        rename World => wo
        go_loopw [8, 9] (fun wv kv wp => ∃ k : Nat, k ≤ n ∧ kv = .int .i64 ((k : Nat) : Int) ∧ wv = .int .i64 (wantAt (numL l b) k) ∧ Below wo.heap.size wo wp) (fun _ kv _ => n - (intOf kv).toNat)
        case atStart => exact ⟨0, Nat.zero_le _, rfl, rfl, Below.refl _ _⟩
        case round =>
          obtain ⟨k, hk, rfl, rfl, hbp⟩ := hrel
          by_cases hlk : k < n
          · obtain ⟨c, hc, hcb, hnum, _⟩ := firsts_get (key := keyL l) b k (by rw [HQ.out]; exact hlk)
            obtain ⟨ad, rfl, had0, had, hcell⟩ := own_at Hown.out k c (fsZ_get l b k c hc)
            replace hcell : wr.cell? (ad.add k) = some (.int .i64 ((c : Nat) : Int)) := (hbp.cell (by rw [add_block]; exact had)).trans hcell
            have hr := (HV1.out.below hbl).below hbp
            have HR := Lib.hid hr
            have HNum := Lib.hid hnum
            clear hc hnum hr
            go_wp2_with fail
            refine (together_any l _ c b (by omega) hlt _ HR.out).mono ?_
            rintro e w3 ⟨rfl, hb3⟩
            have hbp3 := hbp.trans (hb3.mono hbp.size)
            clear hcell hb3
            by_cases hkey : keyL l c = keyL l b
            · rw [decide_eq_true hkey]
              have HW := Lib.hid (want_hit (q := numL l b) (k := k) (by rw [← HNum.out]; exact (num_congr hkey).symm))
              have HK := Lib.hid hkey
              clear hkey
              go_wp2
              go_roundw
              case rel => exact ⟨k + 1, by omega, by go_num, by rw [HW.out], hbp3⟩
              case measure => simp [intOf]; omega
            · rw [decide_eq_false hkey]
              have HW := Lib.hid (want_miss (q := numL l b) (k := k) (fun e => hkey (num_inj (by rw [HNum.out]; exact e.symm))))
              clear hkey
              go_wp2
              go_roundw
              case rel => exact ⟨k + 1, by omega, by go_num, by rw [HW.out], hbp3⟩
              case measure => simp [intOf]; omega
          · obtain rfl : k = n := by omega
            have hown2 := own_below Hown.out hbp
            have hbl2 : Below w1.heap.size w1 wr := hbl.trans (hbp.mono hbl.size)
            have hsz2 := hbl2.size
            by_cases hmet : numL l b < k
            · rw [want_lt hmet]
              have hm : numOf (keyL l) b < cntOf (keyL l) b := by rw [HQ.out]; exact hmet
              have HM := Lib.hid (show fsZ l (b + 1) = fsZ l b by unfold fsZ; rw [met_old hm])
              have HC := Lib.hid (show cntOf (keyL l) (b + 1) = k by rw [← HQ.out]; unfold cntOf; rw [met_old hm])
              have Hown2 := Lib.hid hown2
              clear hm hown2
              go_wp2_with fail
              refine (ofm_any b hlt _ (HX.out.below hbl2)).mono ?_
              rintro e w4 ⟨rfl, hb4⟩
              go_wp2
              go_roundw
              case rel =>
                refine ⟨b + 1, by omega, by go_num, ?_, hbl2.trans (hb4.mono hbl2.size)⟩
                rw [HM.out, HC.out]
                exact own_below Hown2.out hb4
              case measure => simp [intOf]; omega
            · rw [want_ge hmet]
              have hm : ¬numOf (keyL l) b < cntOf (keyL l) b := by rw [HQ.out]; exact hmet
              have HM := Lib.hid (show fsZ l (b + 1) = fsZ l b ++ [((b : Nat) : Int)] by unfold fsZ; rw [(met_new hm).2, List.map_append]; rfl)
              have HC := Lib.hid (show cntOf (keyL l) (b + 1) = k + 1 by rw [← HQ.out]; unfold cntOf; rw [(met_new hm).2, List.length_append]; rfl)
              have HE := Lib.hid (show numL l b = k by rw [← HQ.out]; exact (met_new hm).1)
              clear hm hmet
              go_wp2_with (at_builtin; refine append_one rfl (.tmp 43) (.tmp 45) 26 rfl w1.heap.size 3 1 8 elem_int _ _ _ rfl hown2 [.int .i64 ((b : Nat) : Int)] rfl rfl (one_int _ _) ?h1 ?h2 ?h3 ?h4; (case h1 => omega); (case h2 => omega); (case h3 => omega); intro v2 w2 hown3 hb3)
              have hbl3 := hbl2.trans hb3
              refine (ofm_any b hlt _ (HX.out.below hbl3)).mono ?_
              rintro e w4 ⟨rfl, hb4⟩
              rw [HE.out]
              have Hown3 := Lib.hid hown3
              clear hown3 hown2
              go_wp2
              go_roundw
              case rel =>
                refine ⟨b + 1, by omega, by go_num, ?_, hbl3.trans (hb4.mono hbl3.size)⟩
                rw [HM.out, HC.out, List.map_append]
                exact own_below Hown3.out hb4
              case measure => simp [intOf]; omega
      · obtain rfl : b = 256 := by omega
        rw [show cntOf (keyL l) 256 = cntL l from rfl] at hown ⊢
        have hx2 := HX.out.below hbl
        have hT2 := HT1.out.below hbl
        have hn256 := cntL_le l
        have hmk := make_bools
        by_cases hin : 0 ≤ i ∧ i < cntL l
        · obtain ⟨k, rfl⟩ : ∃ k : Nat, i = k := ⟨i.toNat, by omega⟩
          obtain ⟨c, hc, hc256, _, _⟩ := firsts_get (key := keyL l) 256 k (by show k < cntL l; omega)
          have hF : firstV (clsZ (numL l) k) = .tuple #[.int .u8 c, .bool true] := by unfold firstV; rw [first_class l k c hc]; rfl
          obtain ⟨ad, rfl, had0, had, hcell⟩ := own_at hown k c (fsZ_get l 256 k c hc)
          have hadl : (ad.add k).block < wr.heap.size := by rw [add_block]; exact had
          have HC := Lib.hid hc
          have HT2 := Lib.hid hT2
          have HX2 := Lib.hid hx2
          have HF := Lib.hid hF
          clear hown hc hF hT2 hx2
          go_wp2_with fail
          refine (least_at k _ HX2.out (numL_lt l) HT2.out).mono ?_
          rintro e w5 ⟨rfl, hb5⟩
          rw [HF.out]
          have HX5 := Lib.hid (HX2.out.below hb5)
          go_wp2_with fail
          refine (count_at _ HX5.out).mono ?_
          rintro e w6 ⟨rfl, hb6⟩
          have hb56 := hb5.trans (hb6.mono hb5.size)
          have hcell6 := (hb56.cell hadl).trans hcell
          clear hcell hb6
          have hw6 : Below w.heap.size w w6 := (hb1.trans (hbl.mono hb1.size)).trans (hb56.mono (by have := hb1.size; omega))
          have HX6 := Lib.hid (HX2.out.below hb56)
          have HT6 := Lib.hid (HT2.out.below hb56)
          clear hb5 hb56 HX2 HT2 HX5 HF HX HT1
          go_wp2
          clear hmk hcell6
          go_loopw [14] (fun i wr => ∃ b : Nat, b ≤ 256 ∧ i = .int .i64 ((b : Nat) : Int) ∧ Blk wr w6.heap.size 4 (boolsL (clsZ (numL l) ((k : Nat) : Int)) b) ∧ Below w6.heap.size w6 wr) (fun i _ => 256 - (intOf i).toNat)
          case atStart =>
            refine ⟨0, by omega, rfl, ?_, (Below.refl _ _).alloc (Nat.le_refl _) _⟩
            rw [boolsL_zero]
            exact Blk.new w6 _ _
          case round =>
            obtain ⟨b, hb256, rfl, hg, hbw⟩ := hrel
            by_cases hlt : b < 256
            · go_wp2_with fail
              refine (ofm_any b hlt _ (HX6.out.below hbw)).mono ?_
              rintro e w7 ⟨rfl, hb7⟩
              have hg7 := hg.below hb7 hg.lt
              have hbw7 := hbw.trans (hb7.mono hbw.size)
              obtain ⟨u, hu⟩ : ∃ u, (boolsL (clsZ (numL l) ((k : Nat) : Int)) b)[b]? = some u := ⟨_, List.getElem?_eq_getElem (by simpa [boolsL] using hlt)⟩
              have hcu : w7.cell? ⟨w6.heap.size, b, none⟩ = some u := (hg7.cell b).trans hu
              have hfu := hg7.frozen b
              clear hu hb7 hg hbw
              go_wp2
              go_roundw
              case rel =>
                refine ⟨b + 1, by omega, by go_num, ?_, hbw7.setCell (p := ⟨w6.heap.size, b, none⟩) (Nat.le_refl _) _⟩
                rw [boolsL_succ, show clsZ (numL l) ((k : Nat) : Int) b = decide (((numL l b : Nat) : Int) = ((k : Nat) : Int)) by simp [clsZ, hlt]]
                exact hg7.set b _
              case measure => simp [intOf]; omega
            · obtain rfl : b = 256 := by omega
              have hr := blk_rdV hg (by simp [boolsL])
              simp only [show (boolsL (clsZ (numL l) ((k : Nat) : Int)) 256).length = 256 by simp [boolsL]] at hr
              rw [show boolsL (clsZ (numL l) ((k : Nat) : Int)) 256 = ((List.range 256).map fun x => decide (x < 256) && clsZ (numL l) ((k : Nat) : Int) x).map .bool by simp [boolsL]] at hr
              go_wp2_with fail
              refine (set_at _ _ (HX6.out.below hbw) (numL_lt l)).mono ?_
              rintro e w8 ⟨rfl, hb8⟩
              have hb68 := hbw.trans (hb8.mono hbw.size)
              have HR := Lib.hid (hr.below hb8)
              clear hr
              generalize clsZ (numL l) ((k : Nat) : Int) = cz at *
              unfold setV
              go_wp2_with fail
              have hmk2 := make_any _ _ _ HR.out
              have hE : eqB cz (makeM (((List.range 256).map fun x => decide (x < 256) && cz x).take 256)) = true := eqB_true fun x hx => (make_full cz x hx).symm
              generalize makeM (((List.range 256).map fun x => decide (x < 256) && cz x).take 256) = mm at hmk2 hE
              have HE := Lib.hid hE
              clear hE
              unfold setV at hmk2
              refine hmk2.mono ?_
              clear hmk2
              rintro e w9 ⟨rfl, hb9⟩
              have hb69 := hb68.trans (hb9.mono hb68.size)
              have hE := HE.out
              go_wp2_with fail
              refine (awake04_any _ (HT6.out.below hb69)).mono ?_
              rintro e w10 ⟨rfl, hb10⟩
              go_wp2
              go_returns
              exact ⟨rfl, hw6.trans (hb69.trans (hb10.mono hb69.size) |>.mono hw6.size)⟩
        · have hz : clsZ (numL l) i = fun _ => false := clsZ_out (numL_lt l) (by omega)
          have hF : firstV (clsZ (numL l) i) = .tuple #[.int .u8 0, .bool false] := by
            unfold firstV
            rw [hz, firstM_none (fun _ _ => rfl)]
            rfl
          have HT2 := Lib.hid hT2
          have HX2 := Lib.hid hx2
          have HF := Lib.hid hF
          have HZ := Lib.hid hz
          clear hown hF hT2 hx2 hz
          by_cases h0 : i < 0
          · have hcase : i < 0 ∨ ((cntL l : Nat) : Int) ≤ i := by omega
            go_wp2_with fail
            refine (least_at i _ HX2.out (numL_lt l) HT2.out).mono ?_
            rintro e w5 ⟨rfl, hb5⟩
            rw [HF.out]
            have HX5 := Lib.hid (HX2.out.below hb5)
            go_wp2_with fail
            refine (count_at _ HX5.out).mono ?_
            rintro e w6 ⟨rfl, hb6⟩
            have hb56 := hb5.trans (hb6.mono hb5.size)
            have hw6 : Below w.heap.size w w6 := (hb1.trans (hbl.mono hb1.size)).trans (hb56.mono (by have := hb1.size; omega))
            have HX6 := Lib.hid (HX2.out.below hb56)
            have HT6 := Lib.hid (HT2.out.below hb56)
            clear hb5 hb56 HX2 HT2 HX5 HF HX HT1
            go_wp2
            clear hmk
            go_loopw [14] (fun i wr => i = .int .i64 0 ∧ Blk wr w6.heap.size 4 (boolsL (fun _ => false) 0) ∧ Below w6.heap.size w6 wr) (fun _ _ => 0)
            case atStart =>
              refine ⟨rfl, ?_, (Below.refl _ _).alloc (Nat.le_refl _) _⟩
              rw [boolsL_zero]
              exact Blk.new w6 _ _
            case round =>
              obtain ⟨rfl, hg, hbw⟩ := hrel
              rw [show boolsL (fun _ => false) 0 = boolsL (clsZ (numL l) i) 256 by rw [HZ.out]; simp [boolsL]] at hg
              have hr := blk_rdV hg (by simp [boolsL])
              simp only [show (boolsL (clsZ (numL l) i) 256).length = 256 by simp [boolsL]] at hr
              rw [show boolsL (clsZ (numL l) i) 256 = ((List.range 256).map fun x => decide (x < 256) && clsZ (numL l) i x).map .bool by simp [boolsL]] at hr
              go_wp2_with fail
              refine (set_at _ _ (HX6.out.below hbw) (numL_lt l)).mono ?_
              rintro e w8 ⟨rfl, hb8⟩
              have hb68 := hbw.trans (hb8.mono hbw.size)
              have HR := Lib.hid (hr.below hb8)
              clear hr
              generalize clsZ (numL l) i = cz at *
              unfold setV
              go_wp2_with fail
              have hmk2 := make_any _ _ _ HR.out
              have hE : eqB cz (makeM (((List.range 256).map fun x => decide (x < 256) && cz x).take 256)) = true := eqB_true fun x hx => (make_full cz x hx).symm
              generalize makeM (((List.range 256).map fun x => decide (x < 256) && cz x).take 256) = mm at hmk2 hE
              have HE := Lib.hid hE
              clear hE
              unfold setV at hmk2
              refine hmk2.mono ?_
              clear hmk2
              rintro e w9 ⟨rfl, hb9⟩
              have hb69 := hb68.trans (hb9.mono hb68.size)
              have hE := HE.out
              go_wp2_with fail
              refine (awake04_any _ (HT6.out.below hb69)).mono ?_
              rintro e w10 ⟨rfl, hb10⟩
              go_wp2
              go_returns
              exact ⟨rfl, hw6.trans (hb69.trans (hb10.mono hb69.size) |>.mono hw6.size)⟩
          · have hcase : i < 0 ∨ ((cntL l : Nat) : Int) ≤ i := by omega
            go_wp2_with fail
            refine (least_at i _ HX2.out (numL_lt l) HT2.out).mono ?_
            rintro e w5 ⟨rfl, hb5⟩
            rw [HF.out]
            have HX5 := Lib.hid (HX2.out.below hb5)
            go_wp2_with fail
            refine (count_at _ HX5.out).mono ?_
            rintro e w6 ⟨rfl, hb6⟩
            have hb56 := hb5.trans (hb6.mono hb5.size)
            have hw6 : Below w.heap.size w w6 := (hb1.trans (hbl.mono hb1.size)).trans (hb56.mono (by have := hb1.size; omega))
            have HX6 := Lib.hid (HX2.out.below hb56)
            have HT6 := Lib.hid (HT2.out.below hb56)
            clear hb5 hb56 HX2 HT2 HX5 HF HX HT1
            go_wp2
            clear hmk
            go_loopw [14] (fun i wr => i = .int .i64 0 ∧ Blk wr w6.heap.size 4 (boolsL (fun _ => false) 0) ∧ Below w6.heap.size w6 wr) (fun _ _ => 0)
            case atStart =>
              refine ⟨rfl, ?_, (Below.refl _ _).alloc (Nat.le_refl _) _⟩
              rw [boolsL_zero]
              exact Blk.new w6 _ _
            case round =>
              obtain ⟨rfl, hg, hbw⟩ := hrel
              rw [show boolsL (fun _ => false) 0 = boolsL (clsZ (numL l) i) 256 by rw [HZ.out]; simp [boolsL]] at hg
              have hr := blk_rdV hg (by simp [boolsL])
              simp only [show (boolsL (clsZ (numL l) i) 256).length = 256 by simp [boolsL]] at hr
              rw [show boolsL (clsZ (numL l) i) 256 = ((List.range 256).map fun x => decide (x < 256) && clsZ (numL l) i x).map .bool by simp [boolsL]] at hr
              go_wp2_with fail
              refine (set_at _ _ (HX6.out.below hbw) (numL_lt l)).mono ?_
              rintro e w8 ⟨rfl, hb8⟩
              have hb68 := hbw.trans (hb8.mono hbw.size)
              have HR := Lib.hid (hr.below hb8)
              clear hr
              generalize clsZ (numL l) i = cz at *
              unfold setV
              go_wp2_with fail
              have hmk2 := make_any _ _ _ HR.out
              have hE : eqB cz (makeM (((List.range 256).map fun x => decide (x < 256) && cz x).take 256)) = true := eqB_true fun x hx => (make_full cz x hx).symm
              generalize makeM (((List.range 256).map fun x => decide (x < 256) && cz x).take 256) = mm at hmk2 hE
              have HE := Lib.hid hE
              clear hE
              unfold setV at hmk2
              refine hmk2.mono ?_
              clear hmk2
              rintro e w9 ⟨rfl, hb9⟩
              have hb69 := hb68.trans (hb9.mono hb68.size)
              have hE := HE.out
              go_wp2_with fail
              refine (awake04_any _ (HT6.out.below hb69)).mono ?_
              rintro e w10 ⟨rfl, hb10⟩
              go_wp2
              go_returns
              exact ⟨rfl, hw6.trans (hb69.trans (hb10.mono hb69.size) |>.mono hw6.size)⟩
end Go.Proofs.YtanimknpnniabaaDoor
