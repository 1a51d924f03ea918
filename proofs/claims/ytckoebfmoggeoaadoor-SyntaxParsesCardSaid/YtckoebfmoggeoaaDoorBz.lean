/- The reference of layer 5: Class (what is not of it). -/
import Derived.Test.YtckoebfmoggeoaaDoorBy
namespace Go.Proofs.YtckoebfmoggeoaaDoor
set_option maxRecDepth 100000
open Go.RowKit
set_option maxRecDepth 100000 in
set_option maxHeartbeats 8000000 in
theorem refclass_not (s : ByteArray) (i : Nat) (hi : i + 1 < s.size) (hc : (s[i + 1]'hi).toNat = 94) (hs : s.size ≤ 1048576) (w : World) :
    Calls Tryd.prog 57 #[.string s, .int .i64 ((i : Nat) : Int)] w fun v w' => v = .returned (refV (classM (bytesN s) i)) ∧ Below w.heap.size w w' := by
  have HST := Lib.hid (show classM (bytesN s) i = ntRes true (bodyFrom (bytesN s) true noSet (i + 2)) by rw [class_start, decide_eq_true (by rw [get_at s hi, hc]), if_pos (by rw [get_at s hi, hc])])
  have hk0 : i + 2 ≤ s.size := hi
  have hq : ((((s[i + 1]'hi).toNat : Nat) : Int) == 94) = true := by rw [beq_iff_eq]; omega
  clear hc
  obtain ⟨cs, HC, hrun⟩ := noneRow
  go_enter Tryd.func57, Tryd.ntmps57
  go_wp2_with fail
  have st := (((St.nil w).alloc rfl [.int .u64 0, .int .u64 0, .int .u64 0, .int .u64 0] 29).alloc (n := w.heap.size + 1) (by simp) [.int .i64 0, .int .i64 0] 88).alloc (n := w.heap.size + 2) (by simp) cs 4
  generalize ((w.alloc _).alloc _).alloc _ = wa at *
  rw [HC.out] at st
  clear HC hrun hq
  go_loopw [6, 9] (fun kv fv wr => ∃ (k : Nat) (fb : Bool) (m : Nat → Bool), kv = .int .i64 ((k : Nat) : Int) ∧ fv = .bool fb ∧ k ≤ s.size ∧ St w wr [(w.heap.size + 2, 4, bl m), (w.heap.size + 1, 88, [.int .i64 0, .int .i64 0]), (w.heap.size, 29, [.int .u64 0, .int .u64 0, .int .u64 0, .int .u64 0])] ∧ Hid (classM (bytesN s) i = ntRes true (bodyFrom (bytesN s) fb m k)) ∧ Hid (fb = true → m = noSet)) (fun kv _ _ => s.size - (intOf kv).toNat)
  case atStart => exact ⟨(i + 2), true, noSet, by go_num, rfl, hk0, st, HST, Lib.hid (fun _ => rfl)⟩
  case round =>
    clear st HST hk0
    obtain ⟨k, fb, m, rfl, rfl, hk, st, HMod, HF⟩ := hrel
    rename World => wo
    have hH : (∃ h : k < s.size, fb = false ∧ (s[k]'h).toNat = 93) ∨ (fb = true) ∨ (fb = false ∧ s.size ≤ k) ∨ (∃ h : k < s.size, fb = false ∧ (s[k]'h).toNat ≠ 93) := by
      cases fb with
      | true => exact .inr (.inl rfl)
      | false =>
        rcases Nat.lt_or_ge k s.size with h | h
        · by_cases h2 : (s[k]'h).toNat = 93
          · exact .inl ⟨h, rfl, h2⟩
          · exact .inr (.inr (.inr ⟨h, rfl, h2⟩))
        · exact .inr (.inr (.inl ⟨rfl, h⟩))
    rcases hH with ⟨hin, rfl, h93⟩ | rfl | ⟨rfl, hout⟩ | ⟨hin, rfl, h93⟩
    · have H93 := Lib.hid (show (bytesN s)[k]? = some 93 by rw [get_at s hin, h93])
      have hno : ¬((s.size : Nat) : Int) ≤ ((k : Nat) : Int) := by omega
      have hq : ((((s[k]'hin).toNat : Nat) : Int) != 93) = false := by rw [bne_eq_false_iff_eq]; omega
      have hq2 : ((((s[k]'hin).toNat : Nat) : Int) == 93) = true := by rw [beq_iff_eq]; omega
      clear h93
      have HE := Lib.hid (HMod.out.trans (congrArg (ntRes true) (body_end H93.out)))
      clear HMod HF H93
      go_wp2_with fail
      go_loopw [19] (fun bv wi => ∃ b : Nat, b ≤ 256 ∧ bv = .int .i64 ((b : Nat) : Int) ∧ St w wi [(w.heap.size + 2, 4, bl (negM m b)), (w.heap.size + 1, 88, [.int .i64 0, .int .i64 0]), (w.heap.size, 29, [.int .u64 0, .int .u64 0, .int .u64 0, .int .u64 0])]) (fun bv _ => 256 - (intOf bv).toNat)
      case atStart => exact ⟨0, by omega, rfl, by rw [neg_zero]; exact st⟩
      case round =>
        clear st
        obtain ⟨b, hb256, rfl, st⟩ := hrel
        by_cases hlt : b < 256
        · have co := ((st.get 0 rfl).cell b).trans (bl_get _ hlt)
          rw [neg_at] at co
          have fo := (st.get 0 rfl).frozen b
          have HS := Lib.hid (neg_step m b)
          generalize m b = x at *
          go_wp2
          go_roundw
          case rel =>
            have := st.set 0 rfl b (.bool (!x))
            rw [show (bl (negM m b)).set b (.bool (!x)) = bl (negM m (b + 1)) from HS.out] at this
            exact ⟨b + 1, by omega, by go_num, this⟩
          case measure => simp [intOf]; omega
        · obtain rfl : b = 256 := by omega
          rw [neg_end] at st
          have HR := Lib.hid (show RdV _ (.slice (some ⟨w.heap.size + 2, 0, none⟩) 256 256) (((List.range 256).map (notM m)).map .bool) from by
            rw [bl_map]
            have := blk_rdV (st.get 0 rfl) (by rw [bl_length]; omega)
            rwa [bl_length] at this)
          go_wp2_with fail
          refine (make_any _ _ _ HR.out).mono ?_
          rintro u w2 ⟨rfl, hb⟩
          replace st := st.below' hb
          clear hb HR
          rw [make_bl]
          obtain ⟨⟨x0, x1, x2, x3⟩, x4, x5, x6, x7⟩ := st.four 2 rfl
          obtain ⟨⟨y0, y1⟩, y2, y3⟩ := st.two 1 rfl
          have HE2 := Lib.hid (show refV (classM (bytesN s) i) = .tuple #[setV (notM m), endV (k + 1) 0] by rw [HE.out]; rfl)
          clear HE
          generalize (notM m) = mz at *
          unfold setV
          go_wp2
          have stz := (((((st.set 2 rfl 0 (.int .u64 (word mz 0))).set 2 rfl 1 (.int .u64 (word mz 1))).set 2 rfl 2 (.int .u64 (word mz 2))).set 2 rfl 3 (.int .u64 (word mz 3))).set 1 rfl 0 (.int .i64 (((k : Nat) : Int) + 1))).set 1 rfl 1 (.int .i64 0)
          refine ret_two (b := w.heap.size) (b' := w.heap.size + 1) (m := mz) (j := k + 1) (e := 0) rfl rfl rfl (stz.get 2 rfl) (stz.get 1 rfl) rfl ⟨?_, stz.below⟩
          exact congrArg Ending.returned HE2.out.symm
    · have HX := Lib.hid (show true = false → (bytesN s)[k]? ≠ some 93 from fun h => by cases h)
      have HB := Lib.hid (HMod.out.trans (congrArg (ntRes true) (body_next (by rw [bytesN_length]; exact hk) HF.out HX.out)))
      clear HX HF HMod
      go_wp2_with fail
      refine (refitem_at s k hk hs _).mono ?_
      rintro u w1 ⟨rfl, hb⟩
      replace st := st.below' hb
      clear hb
      obtain ⟨lo, j1, e1, hr, hr'⟩ := refV_form (itemM (bytesN s) k)
      rw [hr]
      clear hr
      have stL := (st.alloc (n := w1.heap.size) rfl (setL lo) 29).alloc (n := w1.heap.size + 1) (by simp) (endL j1 e1) 88
      have hbl : w.heap.size < w1.heap.size := (st.get 2 rfl).lt
      have hbl1 : w.heap.size + 1 < w1.heap.size := (st.get 1 rfl).lt
      have hbl2 : w.heap.size + 2 < w1.heap.size := (st.get 0 rfl).lt
      clear st
      rcases hr' with ⟨lo', j', hi1, rfl, rfl, rfl⟩ | ⟨j', e', hi1, rfl, rfl, rfl⟩
      rotate_left
      · have HI := Lib.hid hi1
        have he := itemM_ne hi1
        have he1 : (((e1 : Nat) : Int) != 0) = true := by rw [bne_iff_ne]; omega
        have he2 : (((e1 : Nat) : Int) == 0) = false := by rw [beq_eq_false_iff_ne]; omega
        clear hi1 he
        have HE2 := Lib.hid he1
        unfold setV
        go_upto_region 11 with fail
        generalize (w1.alloc _).alloc _ = w2 at *
        obtain ⟨⟨x0, x1, x2, x3⟩, x4, x5, x6, x7⟩ := stL.four 4 rfl
        obtain ⟨⟨y0, y1⟩, y2, y3⟩ := stL.two 3 rfl
        obtain ⟨⟨z0, z1⟩, z2, z3⟩ := stL.two 0 rfl
        go_wp2_with fail
        go_region
        all_goals
          have stz := ((((((stL.set 4 rfl 0 (.int .u64 0)).set 4 rfl 1 (.int .u64 0)).set 4 rfl 2 (.int .u64 0)).set 4 rfl 3 (.int .u64 0)).set 3 rfl 0 (.int .i64 ((j1 : Nat) : Int))).set 3 rfl 1 (.int .i64 ((e1 : Nat) : Int))).drew
          generalize World.drew _ = wz at *
          clear x0 x1 x2 x3 x4 x5 x6 x7 y0 y1 y2 y3 z0 z1 z2 z3
          go_wp2
          refine ret_two (b := w.heap.size) (b' := w.heap.size + 1) (m := noSet) (j := j1) (e := e1) rfl rfl rfl (by rw [setL_none]; exact stz.get 4 rfl) (stz.get 3 rfl) rfl ⟨?_, stz.below⟩
          exact congrArg Ending.returned (show _ = refV (classM (bytesN s) i) from by rw [HB.out, span_e1 HI.out]; rfl)
      · have HI := Lib.hid hi1
        have hjl := itemM_le hi1
        rw [bytesN_length] at hjl
        clear hi1
        unfold setV
        go_upto_region 11 with fail
        generalize (w1.alloc _).alloc _ = w2 at *
        obtain ⟨⟨z0, z1⟩, -, -⟩ := stL.two 0 rfl
        go_wp2_with fail
        clear z0 z1
        go_loopw [13] (fun bv wi => ∃ b : Nat, b ≤ 256 ∧ bv = .int .i64 ((b : Nat) : Int) ∧ St w wi [(w1.heap.size + 1, 88, endL j1 0), (w1.heap.size, 29, setL lo), (w.heap.size + 2, 4, bl (mixM m lo b)), (w.heap.size + 1, 88, [.int .i64 0, .int .i64 0]), (w.heap.size, 29, [.int .u64 0, .int .u64 0, .int .u64 0, .int .u64 0])]) (fun bv _ => 256 - (intOf bv).toNat)
        case atStart => exact ⟨0, by omega, rfl, by rw [mix_zero]; exact stL⟩
        case round =>
          clear stL
          obtain ⟨b, hb256, rfl, stL⟩ := hrel
          by_cases hlt : b < 256
          · have co := ((stL.get 2 rfl).cell b).trans (bl_get _ hlt)
            rw [mix_at] at co
            have fo := (stL.get 2 rfl).frozen b
            obtain ⟨⟨x0, x1, x2, x3⟩, -⟩ := stL.four 1 rfl
            have HS := Lib.hid (mix_step m lo b)
            generalize m b = x at *
            cases x with
            | true =>
              go_wp2
              go_roundw
              case rel =>
                have := stL.set 2 rfl b (.bool true)
                rw [show (bl (mixM m lo b)).set b (.bool true) = bl (mixM m lo (b + 1)) from HS.out] at this
                exact ⟨b + 1, by omega, by go_num, this⟩
              case measure => simp [intOf]; omega
            | false =>
              go_wp2_with fail
              refine (refhas_any lo _ (by omega) (by omega) _).mono ?_
              rintro u w3 ⟨rfl, hb⟩
              rw [Int.toNat_natCast]
              replace stL := stL.below' hb
              clear hb co fo x0 x1 x2 x3
              have co := ((stL.get 2 rfl).cell b).trans (bl_get _ hlt)
              have fo := (stL.get 2 rfl).frozen b
              generalize lo b = y at *
              go_wp2
              go_roundw
              case rel =>
                have := stL.set 2 rfl b (.bool y)
                rw [show (bl (mixM m lo b)).set b (.bool y) = bl (mixM m lo (b + 1)) from HS.out] at this
                exact ⟨b + 1, by omega, by go_num, this⟩
              case measure => simp [intOf]; omega
          · obtain rfl : b = 256 := by omega
            rw [mix_end] at stL
            have hge : j1 ≤ s.size := hjl.2
            rcases (show s.size ≤ j1 ∨ (∃ h : j1 < s.size, (s[j1]'h).toNat ≠ 45) ∨ ∃ h : j1 < s.size, (s[j1]'h).toNat = 45 from by
              rcases Nat.lt_or_ge j1 s.size with h | h
              · by_cases h2 : (s[j1]'h).toNat = 45
                · exact .inr (.inr ⟨h, h2⟩)
                · exact .inr (.inl ⟨h, h2⟩)
              · exact .inl h) with hout | ⟨hin, hne⟩ | ⟨hin, heq⟩
            · have HN := Lib.hid (show classM (bytesN s) i = ntRes true (bodyFrom (bytesN s) false (anyM [m, lo]) j1) by rw [HB.out, span_lone HI.out (get_out hout)])
              have ho' : ((s.size : Nat) : Int) ≤ ((j1 : Nat) : Int) := by omega
              clear HB
              go_wp2
              go_roundw
              case rel => exact ⟨j1, false, anyM [m, lo], rfl, rfl, hge, stL.tail.tail, HN, Lib.hid (fun h => by cases h)⟩
              case measure => simp [intOf]; omega
            · have HN := Lib.hid (show classM (bytesN s) i = ntRes true (bodyFrom (bytesN s) false (anyM [m, lo]) j1) by rw [HB.out, span_lone HI.out (get_ne hin hne)])
              have ho' : ¬((s.size : Nat) : Int) ≤ ((j1 : Nat) : Int) := by omega
              have hq : ((((s[j1]'hin).toNat : Nat) : Int) != 45) = true := by rw [bne_iff_ne]; omega
              have hq2 : ((((s[j1]'hin).toNat : Nat) : Int) == 45) = false := by rw [beq_eq_false_iff_ne]; omega
              clear HB hne
              go_wp2
              go_roundw
              case rel => exact ⟨j1, false, anyM [m, lo], rfl, rfl, hge, stL.tail.tail, HN, Lib.hid (fun h => by cases h)⟩
              case measure => simp [intOf]; omega
            · have HD := Lib.hid (show (bytesN s)[j1]? = some 45 by rw [get_at s hin, heq])
              have ho' : ¬((s.size : Nat) : Int) ≤ ((j1 : Nat) : Int) := by omega
              have hq : ((((s[j1]'hin).toNat : Nat) : Int) != 45) = false := by rw [bne_eq_false_iff_eq]; omega
              have hq2 : ((((s[j1]'hin).toNat : Nat) : Int) == 45) = true := by rw [beq_iff_eq]; omega
              clear heq
              obtain ⟨⟨x0, x1, x2, x3⟩, -⟩ := stL.four 1 rfl
              go_wp2_with fail
              refine (refonly_at lo _).mono ?_
              rintro u w4 ⟨rfl, hb⟩
              replace stL := stL.below' hb
              clear hb x0 x1 x2 x3 hq hq2
              rcases onlyZ_of (m := lo) with ⟨ha, hz⟩ | ⟨a, ha, hz, ha256⟩
              · rw [hz]
                have HA := Lib.hid ha
                clear ha hz
                obtain ⟨⟨x0, x1, x2, x3⟩, x4, x5, x6, x7⟩ := stL.four 4 rfl
                obtain ⟨⟨y0, y1⟩, y2, y3⟩ := stL.two 3 rfl
                go_wp2
                have stz := (((((stL.set 4 rfl 0 (.int .u64 0)).set 4 rfl 1 (.int .u64 0)).set 4 rfl 2 (.int .u64 0)).set 4 rfl 3 (.int .u64 0)).set 3 rfl 0 (.int .i64 (((j1 : Nat) : Int)))).set 3 rfl 1 (.int .i64 4)
                refine ret_two (b := w.heap.size) (b' := w.heap.size + 1) (m := noSet) (j := j1) (e := 4) rfl rfl rfl (by rw [setL_none]; exact stz.get 4 rfl) (stz.get 3 rfl) rfl ⟨?_, stz.below⟩
                exact congrArg Ending.returned (show _ = refV (classM (bytesN s) i) from by rw [HB.out, span_noa HI.out HD.out HA.out]; rfl)
              · rw [hz]
                have HA := Lib.hid ha
                clear ha hz
                go_wp2_with fail
                refine (refitem_at s (j1 + 1) hin hs _).mono ?_
                rintro u w5 ⟨rfl, hb⟩
                replace stL := stL.below' hb
                clear hb
                obtain ⟨hi, j2, e2, hr, hr'⟩ := refV_form (itemM (bytesN s) (j1 + 1))
                rw [hr]
                clear hr
                have stM := (stL.alloc (n := w5.heap.size) rfl (setL hi) 29).alloc (n := w5.heap.size + 1) (by simp) (endL j2 e2) 88
                have hcl : w.heap.size < w5.heap.size := (stL.get 4 rfl).lt
                have hcl1 : w.heap.size + 1 < w5.heap.size := (stL.get 3 rfl).lt
                have hcl2 : w.heap.size + 2 < w5.heap.size := (stL.get 2 rfl).lt
                have hcl3 : w1.heap.size < w5.heap.size := (stL.get 1 rfl).lt
                have hcl4 : w1.heap.size + 1 < w5.heap.size := (stL.get 0 rfl).lt
                clear stL
                rcases hr' with ⟨hi', j', hi2, rfl, rfl, rfl⟩ | ⟨j', e', hi2, rfl, rfl, rfl⟩
                rotate_left
                · have HI2 := Lib.hid hi2
                  have he := itemM_ne hi2
                  have he1 : (((e2 : Nat) : Int) != 0) = true := by rw [bne_iff_ne]; omega
                  have he2 : (((e2 : Nat) : Int) == 0) = false := by rw [beq_eq_false_iff_ne]; omega
                  clear hi2 he
                  unfold setV
                  go_upto_region 23 with fail
                  generalize (w5.alloc _).alloc _ = w6 at *
                  obtain ⟨⟨x0, x1, x2, x3⟩, x4, x5, x6, x7⟩ := stM.four 6 rfl
                  obtain ⟨⟨y0, y1⟩, y2, y3⟩ := stM.two 5 rfl
                  obtain ⟨⟨z0, z1⟩, z2, z3⟩ := stM.two 0 rfl
                  go_wp2_with fail
                  go_region
                  all_goals
                    have stz := ((((((stM.set 6 rfl 0 (.int .u64 0)).set 6 rfl 1 (.int .u64 0)).set 6 rfl 2 (.int .u64 0)).set 6 rfl 3 (.int .u64 0)).set 5 rfl 0 (.int .i64 ((j2 : Nat) : Int))).set 5 rfl 1 (.int .i64 ((e2 : Nat) : Int))).drew
                    generalize World.drew _ = wz at *
                    clear x0 x1 x2 x3 x4 x5 x6 x7 y0 y1 y2 y3 z0 z1 z2 z3
                    go_wp2
                    refine ret_two (b := w.heap.size) (b' := w.heap.size + 1) (m := noSet) (j := j2) (e := e2) rfl rfl rfl (by rw [setL_none]; exact stz.get 6 rfl) (stz.get 5 rfl) rfl ⟨?_, stz.below⟩
                    exact congrArg Ending.returned (show _ = refV (classM (bytesN s) i) from by rw [HB.out, span_e2 HI.out HD.out HA.out HI2.out]; rfl)
                · have HI2 := Lib.hid hi2
                  have hjl2 := itemM_le hi2
                  rw [bytesN_length] at hjl2
                  clear hi2
                  unfold setV
                  go_upto_region 23 with fail
                  generalize (w5.alloc _).alloc _ = w6 at *
                  obtain ⟨⟨x0, x1, x2, x3⟩, -⟩ := stM.four 1 rfl
                  obtain ⟨⟨z0, z1⟩, -, -⟩ := stM.two 0 rfl
                  go_wp2_with fail
                  refine (refonly_at hi _).mono ?_
                  rintro u w7 ⟨rfl, hb⟩
                  replace stM := stM.below' hb
                  clear hb x0 x1 x2 x3 z0 z1
                  rcases onlyZ_of (m := hi) with ⟨hbn, hz⟩ | ⟨b, hbn, hz, hb256'⟩
                  · rw [hz]
                    have HBn := Lib.hid hbn
                    clear hbn hz
                    obtain ⟨⟨x0, x1, x2, x3⟩, x4, x5, x6, x7⟩ := stM.four 6 rfl
                    obtain ⟨⟨y0, y1⟩, y2, y3⟩ := stM.two 5 rfl
                    go_wp2
                    have stz := (((((stM.set 6 rfl 0 (.int .u64 0)).set 6 rfl 1 (.int .u64 0)).set 6 rfl 2 (.int .u64 0)).set 6 rfl 3 (.int .u64 0)).set 5 rfl 0 (.int .i64 (((j1 : Nat) : Int) + 1))).set 5 rfl 1 (.int .i64 4)
                    refine ret_two (b := w.heap.size) (b' := w.heap.size + 1) (m := noSet) (j := (j1 + 1)) (e := 4) rfl rfl rfl (by rw [setL_none]; exact stz.get 6 rfl) (stz.get 5 rfl) rfl ⟨?_, stz.below⟩
                    exact congrArg Ending.returned (show _ = refV (classM (bytesN s) i) from by rw [HB.out, span_nob HI.out HD.out HA.out HI2.out HBn.out]; rfl)
                  · rw [hz]
                    have HBn := Lib.hid hbn
                    clear hbn hz
                    by_cases hba : b < a
                    · have HL := Lib.hid hba
                      obtain ⟨⟨x0, x1, x2, x3⟩, x4, x5, x6, x7⟩ := stM.four 6 rfl
                      obtain ⟨⟨y0, y1⟩, y2, y3⟩ := stM.two 5 rfl
                      go_wp2
                      have stz := (((((stM.set 6 rfl 0 (.int .u64 0)).set 6 rfl 1 (.int .u64 0)).set 6 rfl 2 (.int .u64 0)).set 6 rfl 3 (.int .u64 0)).set 5 rfl 0 (.int .i64 (((k : Nat) : Int)))).set 5 rfl 1 (.int .i64 5)
                      refine ret_two (b := w.heap.size) (b' := w.heap.size + 1) (m := noSet) (j := k) (e := 5) rfl rfl rfl (by rw [setL_none]; exact stz.get 6 rfl) (stz.get 5 rfl) rfl ⟨?_, stz.below⟩
                      exact congrArg Ending.returned (show _ = refV (classM (bytesN s) i) from by rw [HB.out, span_low HI.out HD.out HA.out HI2.out HBn.out HL.out]; rfl)
                    · have HN := Lib.hid (show classM (bytesN s) i = ntRes true (bodyFrom (bytesN s) false (anyM [m, rangeM ((a : Nat) : Int) ((b : Nat) : Int)]) j2) by rw [HB.out, span_rng HI.out HD.out HA.out HI2.out HBn.out hba])
                      have HO := Lib.hid (over_end m lo a b HA.out (by omega))
                      have hab : a ≤ b := by omega
                      clear HB hba
                      go_wp2_with fail
                      go_loopw [18] (fun cv wi => ∃ c : Nat, a ≤ c ∧ c ≤ b + 1 ∧ cv = .int .i64 ((c : Nat) : Int) ∧ St w wi [(w5.heap.size + 1, 88, endL j2 0), (w5.heap.size, 29, setL hi), (w1.heap.size + 1, 88, endL j1 0), (w1.heap.size, 29, setL lo), (w.heap.size + 2, 4, bl (overM (anyM [m, lo]) a c)), (w.heap.size + 1, 88, [.int .i64 0, .int .i64 0]), (w.heap.size, 29, [.int .u64 0, .int .u64 0, .int .u64 0, .int .u64 0])]) (fun cv _ => 257 - (intOf cv).toNat)
                      case atStart => exact ⟨a, Nat.le_refl _, by omega, rfl, by rw [over_zero]; exact stM⟩
                      case round =>
                        clear stM
                        obtain ⟨c, hac, hcb, rfl, stM⟩ := hrel
                        by_cases hlt : c ≤ b
                        · have co := ((stM.get 4 rfl).cell c).trans (bl_get _ (by omega))
                          have fo := (stM.get 4 rfl).frozen c
                          have HS := Lib.hid (over_step (anyM [m, lo]) a c hac)
                          go_wp2
                          go_roundw
                          case rel =>
                            have := stM.set 4 rfl c (.bool true)
                            rw [show (bl (overM (anyM [m, lo]) a c)).set c (.bool true) = bl (overM (anyM [m, lo]) a (c + 1)) from HS.out] at this
                            exact ⟨c + 1, by omega, by omega, by go_num, this⟩
                          case measure => simp [intOf]; omega
                        · obtain rfl : c = b + 1 := by omega
                          rw [HO.out] at stM
                          obtain ⟨⟨z0, z1⟩, -, -⟩ := stM.two 0 rfl
                          go_wp2
                          go_roundw
                          case rel => exact ⟨j2, false, anyM [m, rangeM ((a : Nat) : Int) ((b : Nat) : Int)], rfl, rfl, hjl2.2, stM.tail.tail.tail.tail, HN, Lib.hid (fun h => by cases h)⟩
                          case measure => simp [intOf]; omega
    · have HX := Lib.hid (show false = false → (bytesN s)[k]? ≠ some 93 from fun _ => get_out hout)
      have hno : ((s.size : Nat) : Int) ≤ ((k : Nat) : Int) := by omega
      have HB := Lib.hid (HMod.out.trans (congrArg (ntRes true) (body_next (by rw [bytesN_length]; exact hk) HF.out HX.out)))
      clear HX HF HMod
      go_wp2_with fail
      refine (refitem_at s k hk hs _).mono ?_
      rintro u w1 ⟨rfl, hb⟩
      replace st := st.below' hb
      clear hb
      obtain ⟨lo, j1, e1, hr, hr'⟩ := refV_form (itemM (bytesN s) k)
      rw [hr]
      clear hr
      have stL := (st.alloc (n := w1.heap.size) rfl (setL lo) 29).alloc (n := w1.heap.size + 1) (by simp) (endL j1 e1) 88
      have hbl : w.heap.size < w1.heap.size := (st.get 2 rfl).lt
      have hbl1 : w.heap.size + 1 < w1.heap.size := (st.get 1 rfl).lt
      have hbl2 : w.heap.size + 2 < w1.heap.size := (st.get 0 rfl).lt
      clear st
      rcases hr' with ⟨lo', j', hi1, rfl, rfl, rfl⟩ | ⟨j', e', hi1, rfl, rfl, rfl⟩
      rotate_left
      · have HI := Lib.hid hi1
        have he := itemM_ne hi1
        have he1 : (((e1 : Nat) : Int) != 0) = true := by rw [bne_iff_ne]; omega
        have he2 : (((e1 : Nat) : Int) == 0) = false := by rw [beq_eq_false_iff_ne]; omega
        clear hi1 he
        have HE2 := Lib.hid he1
        unfold setV
        go_upto_region 11 with fail
        generalize (w1.alloc _).alloc _ = w2 at *
        obtain ⟨⟨x0, x1, x2, x3⟩, x4, x5, x6, x7⟩ := stL.four 4 rfl
        obtain ⟨⟨y0, y1⟩, y2, y3⟩ := stL.two 3 rfl
        obtain ⟨⟨z0, z1⟩, z2, z3⟩ := stL.two 0 rfl
        go_wp2_with fail
        go_region
        all_goals
          have stz := ((((((stL.set 4 rfl 0 (.int .u64 0)).set 4 rfl 1 (.int .u64 0)).set 4 rfl 2 (.int .u64 0)).set 4 rfl 3 (.int .u64 0)).set 3 rfl 0 (.int .i64 ((j1 : Nat) : Int))).set 3 rfl 1 (.int .i64 ((e1 : Nat) : Int))).drew
          generalize World.drew _ = wz at *
          clear x0 x1 x2 x3 x4 x5 x6 x7 y0 y1 y2 y3 z0 z1 z2 z3
          go_wp2
          refine ret_two (b := w.heap.size) (b' := w.heap.size + 1) (m := noSet) (j := j1) (e := e1) rfl rfl rfl (by rw [setL_none]; exact stz.get 4 rfl) (stz.get 3 rfl) rfl ⟨?_, stz.below⟩
          exact congrArg Ending.returned (show _ = refV (classM (bytesN s) i) from by rw [HB.out, span_e1 HI.out]; rfl)
      · have hjl := itemM_le hi1
        rw [bytesN_length] at hjl
        omega
    · have HX := Lib.hid (show false = false → (bytesN s)[k]? ≠ some 93 from fun _ => get_ne hin h93)
      have hno : ¬((s.size : Nat) : Int) ≤ ((k : Nat) : Int) := by omega
      have hq : ((((s[k]'hin).toNat : Nat) : Int) != 93) = true := by rw [bne_iff_ne]; omega
      have hq2 : ((((s[k]'hin).toNat : Nat) : Int) == 93) = false := by rw [beq_eq_false_iff_ne]; omega
      clear h93
      have HB := Lib.hid (HMod.out.trans (congrArg (ntRes true) (body_next (by rw [bytesN_length]; exact hk) HF.out HX.out)))
      clear HX HF HMod
      go_wp2_with fail
      refine (refitem_at s k hk hs _).mono ?_
      rintro u w1 ⟨rfl, hb⟩
      replace st := st.below' hb
      clear hb
      obtain ⟨lo, j1, e1, hr, hr'⟩ := refV_form (itemM (bytesN s) k)
      rw [hr]
      clear hr
      have stL := (st.alloc (n := w1.heap.size) rfl (setL lo) 29).alloc (n := w1.heap.size + 1) (by simp) (endL j1 e1) 88
      have hbl : w.heap.size < w1.heap.size := (st.get 2 rfl).lt
      have hbl1 : w.heap.size + 1 < w1.heap.size := (st.get 1 rfl).lt
      have hbl2 : w.heap.size + 2 < w1.heap.size := (st.get 0 rfl).lt
      clear st
      rcases hr' with ⟨lo', j', hi1, rfl, rfl, rfl⟩ | ⟨j', e', hi1, rfl, rfl, rfl⟩
      rotate_left
      · have HI := Lib.hid hi1
        have he := itemM_ne hi1
        have he1 : (((e1 : Nat) : Int) != 0) = true := by rw [bne_iff_ne]; omega
        have he2 : (((e1 : Nat) : Int) == 0) = false := by rw [beq_eq_false_iff_ne]; omega
        clear hi1 he
        have HE2 := Lib.hid he1
        unfold setV
        go_upto_region 11 with fail
        generalize (w1.alloc _).alloc _ = w2 at *
        obtain ⟨⟨x0, x1, x2, x3⟩, x4, x5, x6, x7⟩ := stL.four 4 rfl
        obtain ⟨⟨y0, y1⟩, y2, y3⟩ := stL.two 3 rfl
        obtain ⟨⟨z0, z1⟩, z2, z3⟩ := stL.two 0 rfl
        go_wp2_with fail
        go_region
        all_goals
          have stz := ((((((stL.set 4 rfl 0 (.int .u64 0)).set 4 rfl 1 (.int .u64 0)).set 4 rfl 2 (.int .u64 0)).set 4 rfl 3 (.int .u64 0)).set 3 rfl 0 (.int .i64 ((j1 : Nat) : Int))).set 3 rfl 1 (.int .i64 ((e1 : Nat) : Int))).drew
          generalize World.drew _ = wz at *
          clear x0 x1 x2 x3 x4 x5 x6 x7 y0 y1 y2 y3 z0 z1 z2 z3
          go_wp2
          refine ret_two (b := w.heap.size) (b' := w.heap.size + 1) (m := noSet) (j := j1) (e := e1) rfl rfl rfl (by rw [setL_none]; exact stz.get 4 rfl) (stz.get 3 rfl) rfl ⟨?_, stz.below⟩
          exact congrArg Ending.returned (show _ = refV (classM (bytesN s) i) from by rw [HB.out, span_e1 HI.out]; rfl)
      · have HI := Lib.hid hi1
        have hjl := itemM_le hi1
        rw [bytesN_length] at hjl
        clear hi1
        unfold setV
        go_upto_region 11 with fail
        generalize (w1.alloc _).alloc _ = w2 at *
        obtain ⟨⟨z0, z1⟩, -, -⟩ := stL.two 0 rfl
        go_wp2_with fail
        clear z0 z1
        go_loopw [13] (fun bv wi => ∃ b : Nat, b ≤ 256 ∧ bv = .int .i64 ((b : Nat) : Int) ∧ St w wi [(w1.heap.size + 1, 88, endL j1 0), (w1.heap.size, 29, setL lo), (w.heap.size + 2, 4, bl (mixM m lo b)), (w.heap.size + 1, 88, [.int .i64 0, .int .i64 0]), (w.heap.size, 29, [.int .u64 0, .int .u64 0, .int .u64 0, .int .u64 0])]) (fun bv _ => 256 - (intOf bv).toNat)
        case atStart => exact ⟨0, by omega, rfl, by rw [mix_zero]; exact stL⟩
        case round =>
          clear stL
          obtain ⟨b, hb256, rfl, stL⟩ := hrel
          by_cases hlt : b < 256
          · have co := ((stL.get 2 rfl).cell b).trans (bl_get _ hlt)
            rw [mix_at] at co
            have fo := (stL.get 2 rfl).frozen b
            obtain ⟨⟨x0, x1, x2, x3⟩, -⟩ := stL.four 1 rfl
            have HS := Lib.hid (mix_step m lo b)
            generalize m b = x at *
            cases x with
            | true =>
              go_wp2
              go_roundw
              case rel =>
                have := stL.set 2 rfl b (.bool true)
                rw [show (bl (mixM m lo b)).set b (.bool true) = bl (mixM m lo (b + 1)) from HS.out] at this
                exact ⟨b + 1, by omega, by go_num, this⟩
              case measure => simp [intOf]; omega
            | false =>
              go_wp2_with fail
              refine (refhas_any lo _ (by omega) (by omega) _).mono ?_
              rintro u w3 ⟨rfl, hb⟩
              rw [Int.toNat_natCast]
              replace stL := stL.below' hb
              clear hb co fo x0 x1 x2 x3
              have co := ((stL.get 2 rfl).cell b).trans (bl_get _ hlt)
              have fo := (stL.get 2 rfl).frozen b
              generalize lo b = y at *
              go_wp2
              go_roundw
              case rel =>
                have := stL.set 2 rfl b (.bool y)
                rw [show (bl (mixM m lo b)).set b (.bool y) = bl (mixM m lo (b + 1)) from HS.out] at this
                exact ⟨b + 1, by omega, by go_num, this⟩
              case measure => simp [intOf]; omega
          · obtain rfl : b = 256 := by omega
            rw [mix_end] at stL
            have hge : j1 ≤ s.size := hjl.2
            rcases (show s.size ≤ j1 ∨ (∃ h : j1 < s.size, (s[j1]'h).toNat ≠ 45) ∨ ∃ h : j1 < s.size, (s[j1]'h).toNat = 45 from by
              rcases Nat.lt_or_ge j1 s.size with h | h
              · by_cases h2 : (s[j1]'h).toNat = 45
                · exact .inr (.inr ⟨h, h2⟩)
                · exact .inr (.inl ⟨h, h2⟩)
              · exact .inl h) with hout | ⟨hin, hne⟩ | ⟨hin, heq⟩
            · have HN := Lib.hid (show classM (bytesN s) i = ntRes true (bodyFrom (bytesN s) false (anyM [m, lo]) j1) by rw [HB.out, span_lone HI.out (get_out hout)])
              have ho' : ((s.size : Nat) : Int) ≤ ((j1 : Nat) : Int) := by omega
              clear HB
              go_wp2
              go_roundw
              case rel => exact ⟨j1, false, anyM [m, lo], rfl, rfl, hge, stL.tail.tail, HN, Lib.hid (fun h => by cases h)⟩
              case measure => simp [intOf]; omega
            · have HN := Lib.hid (show classM (bytesN s) i = ntRes true (bodyFrom (bytesN s) false (anyM [m, lo]) j1) by rw [HB.out, span_lone HI.out (get_ne hin hne)])
              have ho' : ¬((s.size : Nat) : Int) ≤ ((j1 : Nat) : Int) := by omega
              have hq : ((((s[j1]'hin).toNat : Nat) : Int) != 45) = true := by rw [bne_iff_ne]; omega
              have hq2 : ((((s[j1]'hin).toNat : Nat) : Int) == 45) = false := by rw [beq_eq_false_iff_ne]; omega
              clear HB hne
              go_wp2
              go_roundw
              case rel => exact ⟨j1, false, anyM [m, lo], rfl, rfl, hge, stL.tail.tail, HN, Lib.hid (fun h => by cases h)⟩
              case measure => simp [intOf]; omega
            · have HD := Lib.hid (show (bytesN s)[j1]? = some 45 by rw [get_at s hin, heq])
              have ho' : ¬((s.size : Nat) : Int) ≤ ((j1 : Nat) : Int) := by omega
              have hq : ((((s[j1]'hin).toNat : Nat) : Int) != 45) = false := by rw [bne_eq_false_iff_eq]; omega
              have hq2 : ((((s[j1]'hin).toNat : Nat) : Int) == 45) = true := by rw [beq_iff_eq]; omega
              clear heq
              obtain ⟨⟨x0, x1, x2, x3⟩, -⟩ := stL.four 1 rfl
              go_wp2_with fail
              refine (refonly_at lo _).mono ?_
              rintro u w4 ⟨rfl, hb⟩
              replace stL := stL.below' hb
              clear hb x0 x1 x2 x3 hq hq2
              rcases onlyZ_of (m := lo) with ⟨ha, hz⟩ | ⟨a, ha, hz, ha256⟩
              · rw [hz]
                have HA := Lib.hid ha
                clear ha hz
                obtain ⟨⟨x0, x1, x2, x3⟩, x4, x5, x6, x7⟩ := stL.four 4 rfl
                obtain ⟨⟨y0, y1⟩, y2, y3⟩ := stL.two 3 rfl
                go_wp2
                have stz := (((((stL.set 4 rfl 0 (.int .u64 0)).set 4 rfl 1 (.int .u64 0)).set 4 rfl 2 (.int .u64 0)).set 4 rfl 3 (.int .u64 0)).set 3 rfl 0 (.int .i64 (((j1 : Nat) : Int)))).set 3 rfl 1 (.int .i64 4)
                refine ret_two (b := w.heap.size) (b' := w.heap.size + 1) (m := noSet) (j := j1) (e := 4) rfl rfl rfl (by rw [setL_none]; exact stz.get 4 rfl) (stz.get 3 rfl) rfl ⟨?_, stz.below⟩
                exact congrArg Ending.returned (show _ = refV (classM (bytesN s) i) from by rw [HB.out, span_noa HI.out HD.out HA.out]; rfl)
              · rw [hz]
                have HA := Lib.hid ha
                clear ha hz
                go_wp2_with fail
                refine (refitem_at s (j1 + 1) hin hs _).mono ?_
                rintro u w5 ⟨rfl, hb⟩
                replace stL := stL.below' hb
                clear hb
                obtain ⟨hi, j2, e2, hr, hr'⟩ := refV_form (itemM (bytesN s) (j1 + 1))
                rw [hr]
                clear hr
                have stM := (stL.alloc (n := w5.heap.size) rfl (setL hi) 29).alloc (n := w5.heap.size + 1) (by simp) (endL j2 e2) 88
                have hcl : w.heap.size < w5.heap.size := (stL.get 4 rfl).lt
                have hcl1 : w.heap.size + 1 < w5.heap.size := (stL.get 3 rfl).lt
                have hcl2 : w.heap.size + 2 < w5.heap.size := (stL.get 2 rfl).lt
                have hcl3 : w1.heap.size < w5.heap.size := (stL.get 1 rfl).lt
                have hcl4 : w1.heap.size + 1 < w5.heap.size := (stL.get 0 rfl).lt
                clear stL
                rcases hr' with ⟨hi', j', hi2, rfl, rfl, rfl⟩ | ⟨j', e', hi2, rfl, rfl, rfl⟩
                rotate_left
                · have HI2 := Lib.hid hi2
                  have he := itemM_ne hi2
                  have he1 : (((e2 : Nat) : Int) != 0) = true := by rw [bne_iff_ne]; omega
                  have he2 : (((e2 : Nat) : Int) == 0) = false := by rw [beq_eq_false_iff_ne]; omega
                  clear hi2 he
                  unfold setV
                  go_upto_region 23 with fail
                  generalize (w5.alloc _).alloc _ = w6 at *
                  obtain ⟨⟨x0, x1, x2, x3⟩, x4, x5, x6, x7⟩ := stM.four 6 rfl
                  obtain ⟨⟨y0, y1⟩, y2, y3⟩ := stM.two 5 rfl
                  obtain ⟨⟨z0, z1⟩, z2, z3⟩ := stM.two 0 rfl
                  go_wp2_with fail
                  go_region
                  all_goals
                    have stz := ((((((stM.set 6 rfl 0 (.int .u64 0)).set 6 rfl 1 (.int .u64 0)).set 6 rfl 2 (.int .u64 0)).set 6 rfl 3 (.int .u64 0)).set 5 rfl 0 (.int .i64 ((j2 : Nat) : Int))).set 5 rfl 1 (.int .i64 ((e2 : Nat) : Int))).drew
                    generalize World.drew _ = wz at *
                    clear x0 x1 x2 x3 x4 x5 x6 x7 y0 y1 y2 y3 z0 z1 z2 z3
                    go_wp2
                    refine ret_two (b := w.heap.size) (b' := w.heap.size + 1) (m := noSet) (j := j2) (e := e2) rfl rfl rfl (by rw [setL_none]; exact stz.get 6 rfl) (stz.get 5 rfl) rfl ⟨?_, stz.below⟩
                    exact congrArg Ending.returned (show _ = refV (classM (bytesN s) i) from by rw [HB.out, span_e2 HI.out HD.out HA.out HI2.out]; rfl)
                · have HI2 := Lib.hid hi2
                  have hjl2 := itemM_le hi2
                  rw [bytesN_length] at hjl2
                  clear hi2
                  unfold setV
                  go_upto_region 23 with fail
                  generalize (w5.alloc _).alloc _ = w6 at *
                  obtain ⟨⟨x0, x1, x2, x3⟩, -⟩ := stM.four 1 rfl
                  obtain ⟨⟨z0, z1⟩, -, -⟩ := stM.two 0 rfl
                  go_wp2_with fail
                  refine (refonly_at hi _).mono ?_
                  rintro u w7 ⟨rfl, hb⟩
                  replace stM := stM.below' hb
                  clear hb x0 x1 x2 x3 z0 z1
                  rcases onlyZ_of (m := hi) with ⟨hbn, hz⟩ | ⟨b, hbn, hz, hb256'⟩
                  · rw [hz]
                    have HBn := Lib.hid hbn
                    clear hbn hz
                    obtain ⟨⟨x0, x1, x2, x3⟩, x4, x5, x6, x7⟩ := stM.four 6 rfl
                    obtain ⟨⟨y0, y1⟩, y2, y3⟩ := stM.two 5 rfl
                    go_wp2
                    have stz := (((((stM.set 6 rfl 0 (.int .u64 0)).set 6 rfl 1 (.int .u64 0)).set 6 rfl 2 (.int .u64 0)).set 6 rfl 3 (.int .u64 0)).set 5 rfl 0 (.int .i64 (((j1 : Nat) : Int) + 1))).set 5 rfl 1 (.int .i64 4)
                    refine ret_two (b := w.heap.size) (b' := w.heap.size + 1) (m := noSet) (j := (j1 + 1)) (e := 4) rfl rfl rfl (by rw [setL_none]; exact stz.get 6 rfl) (stz.get 5 rfl) rfl ⟨?_, stz.below⟩
                    exact congrArg Ending.returned (show _ = refV (classM (bytesN s) i) from by rw [HB.out, span_nob HI.out HD.out HA.out HI2.out HBn.out]; rfl)
                  · rw [hz]
                    have HBn := Lib.hid hbn
                    clear hbn hz
                    by_cases hba : b < a
                    · have HL := Lib.hid hba
                      obtain ⟨⟨x0, x1, x2, x3⟩, x4, x5, x6, x7⟩ := stM.four 6 rfl
                      obtain ⟨⟨y0, y1⟩, y2, y3⟩ := stM.two 5 rfl
                      go_wp2
                      have stz := (((((stM.set 6 rfl 0 (.int .u64 0)).set 6 rfl 1 (.int .u64 0)).set 6 rfl 2 (.int .u64 0)).set 6 rfl 3 (.int .u64 0)).set 5 rfl 0 (.int .i64 (((k : Nat) : Int)))).set 5 rfl 1 (.int .i64 5)
                      refine ret_two (b := w.heap.size) (b' := w.heap.size + 1) (m := noSet) (j := k) (e := 5) rfl rfl rfl (by rw [setL_none]; exact stz.get 6 rfl) (stz.get 5 rfl) rfl ⟨?_, stz.below⟩
                      exact congrArg Ending.returned (show _ = refV (classM (bytesN s) i) from by rw [HB.out, span_low HI.out HD.out HA.out HI2.out HBn.out HL.out]; rfl)
                    · have HN := Lib.hid (show classM (bytesN s) i = ntRes true (bodyFrom (bytesN s) false (anyM [m, rangeM ((a : Nat) : Int) ((b : Nat) : Int)]) j2) by rw [HB.out, span_rng HI.out HD.out HA.out HI2.out HBn.out hba])
                      have HO := Lib.hid (over_end m lo a b HA.out (by omega))
                      have hab : a ≤ b := by omega
                      clear HB hba
                      go_wp2_with fail
                      go_loopw [18] (fun cv wi => ∃ c : Nat, a ≤ c ∧ c ≤ b + 1 ∧ cv = .int .i64 ((c : Nat) : Int) ∧ St w wi [(w5.heap.size + 1, 88, endL j2 0), (w5.heap.size, 29, setL hi), (w1.heap.size + 1, 88, endL j1 0), (w1.heap.size, 29, setL lo), (w.heap.size + 2, 4, bl (overM (anyM [m, lo]) a c)), (w.heap.size + 1, 88, [.int .i64 0, .int .i64 0]), (w.heap.size, 29, [.int .u64 0, .int .u64 0, .int .u64 0, .int .u64 0])]) (fun cv _ => 257 - (intOf cv).toNat)
                      case atStart => exact ⟨a, Nat.le_refl _, by omega, rfl, by rw [over_zero]; exact stM⟩
                      case round =>
                        clear stM
                        obtain ⟨c, hac, hcb, rfl, stM⟩ := hrel
                        by_cases hlt : c ≤ b
                        · have co := ((stM.get 4 rfl).cell c).trans (bl_get _ (by omega))
                          have fo := (stM.get 4 rfl).frozen c
                          have HS := Lib.hid (over_step (anyM [m, lo]) a c hac)
                          go_wp2
                          go_roundw
                          case rel =>
                            have := stM.set 4 rfl c (.bool true)
                            rw [show (bl (overM (anyM [m, lo]) a c)).set c (.bool true) = bl (overM (anyM [m, lo]) a (c + 1)) from HS.out] at this
                            exact ⟨c + 1, by omega, by omega, by go_num, this⟩
                          case measure => simp [intOf]; omega
                        · obtain rfl : c = b + 1 := by omega
                          rw [HO.out] at stM
                          obtain ⟨⟨z0, z1⟩, -, -⟩ := stM.two 0 rfl
                          go_wp2
                          go_roundw
                          case rel => exact ⟨j2, false, anyM [m, rangeM ((a : Nat) : Int) ((b : Nat) : Int)], rfl, rfl, hjl2.2, stM.tail.tail.tail.tail, HN, Lib.hid (fun h => by cases h)⟩
                          case measure => simp [intOf]; omega
end Go.Proofs.YtckoebfmoggeoaaDoor
