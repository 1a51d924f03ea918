/- The reference of layer 7: Set: the walk. -/
import Derived.Test.YtpiimcbbgalhfaaGreatDoorCy
namespace Go.Proofs.YtpiimcbbgalhfaaGreatDoor
set_option maxRecDepth 100000
open Go.RowKit
attribute [local go_sem] eq_words eqB_words eqB_zero
abbrev clsB (R : List (Int × Int)) : ByteArray := ⟨(classA R).toArray⟩
theorem cls_size (m : Nat → Bool) (b : Nat) : (clsB (lowR (runs8 m) b)).size ≤ 2305 := by
  have h1 := classA_len (lowR (runs8 m) b)
  have h2 := low_len m b
  show (classA (lowR (runs8 m) b)).toArray.size ≤ 2305
  rw [List.size_toArray]
  omega
theorem cls_one (R : List (Int × Int)) (b : Nat) : clsB (R ++ [((b : Int), (b : Int))]) = clsB R ++ byteS b := by
  apply ByteArray.ext
  rw [ByteArray.data_append]
  show (classA (R ++ [((b : Int), (b : Int))])).toArray = (classA R).toArray ++ (byteS b).data
  rw [classA_snoc, if_pos rfl]
  simp [toL]
theorem cls_two (R : List (Int × Int)) (b e : Nat) (h : b ≠ e) : clsB (R ++ [((b : Int), (e : Int))]) = clsB R ++ byteS b ++ { data := #[45] } ++ byteS e := by
  apply ByteArray.ext
  simp only [ByteArray.data_append]
  show (classA (R ++ [((b : Int), (e : Int))])).toArray = (classA R).toArray ++ (byteS b).data ++ #[45] ++ (byteS e).data
  rw [classA_snoc, if_neg (by simp only []; omega)]
  simp [toL, ByteArray.data_append, dashB]
theorem cls_end (m : Nat → Bool) : clsB (lowR (runs8 m) 256) ++ { data := #[93] } = classS m := by
  apply ByteArray.ext
  rw [ByteArray.data_append, low_all]
  show (classA (runs8 m)).toArray ++ #[93] = (classL m).toArray
  rw [show classL m = classA (runs8 m) ++ [93] from rfl]
  simp
theorem cls_zero (m : Nat → Bool) : clsB (lowR (runs8 m) 0) = { data := #[91] } := by
  rw [low_zero]
  rfl
theorem cnt_next (m : Nat → Bool) (n : Nat) : cnt m (n + 1) = cnt m n + (if m n then 1 else 0) := rfl
theorem but_next (m : Nat → Bool) (n : Nat) : cnt (butM m) (n + 1) = cnt (butM m) n + (if (m n && decide (n ≠ 10)) then 1 else 0) := rfl
theorem last_next (m : Nat → Bool) (n : Nat) : lastM m (n + 1) = if m n then n else lastM m n := rfl
set_option maxHeartbeats 8000000 in
theorem refset_at (m : Nat → Bool) (w : World) : Calls Tryz.prog 14 #[setV m] w fun v w' => v = .returned (.string (setS m)) ∧ Below w.heap.size w w' := by
  have HST := Lib.hid (setS_tell m)
  have HBK := Lib.hid (Blk.new w (setL m) 24)
  have HBX := Lib.hid ((Below.refl w.heap.size w).alloc (Nat.le_refl _) (.cells (setL m).toArray 24))
  have HHAS := Lib.hid (fun (i : Nat) (hi : i < 256) (W : World) => refhas_any m ((i : Nat) : Int) (by omega) (by omega) W)
  unfold setV
  go_enter Tryz.func14, Tryz.ntmps14
  go_wp2_with fail
  go_loopw [3, 4, 5, 6] (fun nv bv lv iv wr => ∃ i : Nat, i ≤ 256 ∧ iv = .int .i64 ((i : Nat) : Int) ∧ nv = .int .i64 ((cnt m i : Nat) : Int) ∧ bv = .int .i64 ((cnt (butM m) i : Nat) : Int) ∧ lv = .int .i64 ((lastM m i : Nat) : Int) ∧ Blk wr w.heap.size 24 (setL m) ∧ Below w.heap.size w wr) (fun _ _ _ iv _ => 256 - (intOf iv).toNat)
  case atStart => exact ⟨0, by omega, rfl, rfl, rfl, rfl, HBK.out, HBX.out⟩
  case round =>
    obtain ⟨i, hi, rfl, rfl, rfl, rfl, hbk, hbw⟩ := hrel
    have HB := Lib.hid hbw
    have HK := Lib.hid hbk
    have hbl := hbk.lt
    by_cases hlt : i < 256
    · obtain ⟨k0, k1, k2, k3, -, -, -, -⟩ := hbk.four
      have h1 := cnt_next m i
      have h2 := but_next m i
      have h3 := last_next m i
      have l1 := cnt_le8 m i
      have l2 := cnt_le8 (butM m) i
      have l3 := last_lt m i
      have HN := Lib.hid (And.intro h1 (And.intro h2 h3))
      have HHI := Lib.hid (HHAS.out i hlt)
      clear h1 h2 h3 hbk hbw
      rw [Int.toNat_natCast] at HHI
      generalize hcm : cnt m i = a at *
      generalize hcb : cnt (butM m) i = b at *
      generalize hla : lastM m i = l at *
      generalize hmi : m i = q at *
      clear hcm hcb hla hmi
      go_wp2_with fail
      refine (HHI.out _).mono ?_
      rintro e w1 ⟨rfl, hb1⟩
      have HB1 := Lib.hid (HB.out.trans (hb1.mono HB.out.size))
      have HK1 := Lib.hid (HK.out.below hb1 hbl)
      clear hb1 k0 k1 k2 k3
      cases q with
      | false =>
        go_wp2
        go_roundw
        case rel =>
          obtain ⟨n1, n2, n3⟩ := HN.out
          refine ⟨i + 1, by omega, by go_num, by rw [n1]; simp, by rw [n2]; simp, by rw [n3]; simp, HK1.out, HB1.out⟩
        case measure => simp [intOf]; omega
      | true =>
        by_cases h10 : i = 10
        · have hq : (((i : Nat) : Int) != 10) = false := by rw [bne_eq_false_iff_eq]; omega
          have HI10 := Lib.hid h10
          clear h10
          go_wp2
          go_roundw
          case rel =>
            obtain ⟨n1, n2, n3⟩ := HN.out
            refine ⟨i + 1, by omega, by go_num, by rw [n1]; go_num, by rw [n2, HI10.out]; simp, by rw [n3]; simp, HK1.out, HB1.out⟩
          case measure => simp [intOf]; omega
        · have hq : (((i : Nat) : Int) != 10) = true := by rw [bne_iff_ne]; omega
          have HI10 := Lib.hid h10
          clear h10
          go_wp2
          go_roundw
          case rel =>
            obtain ⟨n1, n2, n3⟩ := HN.out
            refine ⟨i + 1, by omega, by go_num, by rw [n1]; go_num, by rw [n2, decide_eq_true HI10.out]; go_num, by rw [n3]; simp, HK1.out, HB1.out⟩
          case measure => simp [intOf]; omega
    · obtain rfl : i = 256 := by omega
      rw [show ((256 : Nat) : Int) = 256 from rfl]
      have ha := cnt_le8 m 256
      have hb' := cnt_le8 (butM m) 256
      have HLL := Lib.hid (fun h => cnt_last (m := m) (n := 256) h)
      clear hbk hbw hlt hi
      generalize cnt m 256 = a at *
      generalize cnt (butM m) 256 = b at *
      generalize lastM m 256 = l at *
      by_cases a0 : a = 0
      · have HV := Lib.hid (HST.out.trans (if_pos a0))
        clear HST
        subst a0
        go_wp2
        go_returns
        exact ⟨by rw [HV.out]; rfl, HB.out⟩
      have q0 : (((a : Nat) : Int) == 0) = false := by rw [beq_eq_false_iff_ne]; omega
      by_cases a255 : a = 255 ∧ b = 255
      · have HV := Lib.hid (HST.out.trans ((if_neg a0).trans (if_pos a255)))
        clear HST
        obtain ⟨rfl, rfl⟩ := a255
        go_wp2
        go_returns
        exact ⟨by rw [HV.out]; rfl, HB.out⟩
      by_cases a1 : a = 1
      · have HV := Lib.hid (HST.out.trans ((if_neg a0).trans ((if_neg a255).trans (if_pos a1))))
        clear HST
        subst a1
        have hlb := (HLL.out (by omega)).2
        go_wp2_with fail
        refine (refbyte_at l hlb _).mono ?_
        rintro v w1 ⟨rfl, hb1⟩
        go_wp2
        go_returns
        exact ⟨by rw [HV.out]; rfl, HB.out.trans (hb1.mono HB.out.size)⟩
      have HV := Lib.hid (HST.out.trans (by rw [if_neg a0, if_neg a255, if_neg a1] : _ = classS m))
      have q1 : (((a : Nat) : Int) == 1) = false := by rw [beq_eq_false_iff_ne]; omega
      have hor : (((a : Nat) : Int) == 255) = false ∨ ((((a : Nat) : Int) == 255) = true ∧ (((b : Nat) : Int) == 255) = false) := by
        by_cases e1 : a = 255
        · right
          exact ⟨by rw [beq_iff_eq]; omega, by rw [beq_eq_false_iff_ne]; intro e2; exact a255 ⟨e1, by omega⟩⟩
        · left
          rw [beq_eq_false_iff_ne]
          omega
      clear a0 a255 a1 ha hb' HLL HST
      rename World => wo
      have HCZ := Lib.hid (cls_zero m)
      rcases hor with hx | ⟨hx, hy⟩ <;> (
      go_wp2_with fail
      go_loopw [7, 8] (fun sv bv wr => ∃ b : Nat, b ≤ 256 ∧ bv = .int .i64 ((b : Nat) : Int) ∧ sv = .string (clsB (lowR (runs8 m) b)) ∧ Blk wr w.heap.size 24 (setL m) ∧ Below w.heap.size w wr) (fun _ bv _ => 256 - (intOf bv).toNat)
      case atStart => exact ⟨0, by omega, rfl, by rw [HCZ.out], HK.out, HB.out⟩
      case round =>
        obtain ⟨b, hb, rfl, rfl, hbk, hbw⟩ := hrel
        have HB2 := Lib.hid hbw
        have HK2 := Lib.hid hbk
        have hbl2 := hbk.lt
        have hsz := cls_size m b
        by_cases hlt : b < 256
        · obtain ⟨k0, k1, k2, k3, -, -, -, -⟩ := hbk.four
          have HHB := Lib.hid (HHAS.out b hlt)
          rw [Int.toNat_natCast] at HHB
          clear hbk hbw
          obtain ⟨S, hS⟩ : ∃ S, clsB (lowR (runs8 m) b) = S := ⟨_, rfl⟩
          have HS := Lib.hid hS
          rw [hS] at hsz ⊢
          clear hS
          by_cases hnone : m b = false ∨ (0 < b ∧ m (b - 1) = true)
          · have HRN := Lib.hid (run_none hlt hnone)
            have HHP := Lib.hid (HHAS.out (b - 1) (by omega))
            rw [Int.toNat_natCast] at HHP
            have hw1 : 0 < b → IntKind.i64.wrap (((b : Nat) : Int) - 1) = ((b - 1 : Nat) : Int) := fun h => by
              rw [IntWalk.i64_in _ (by omega)]
              omega
            obtain ⟨q, hq⟩ : ∃ q, m b = q := ⟨_, rfl⟩
            rw [hq] at HHB hnone
            clear hq
            cases q with
            | false =>
              clear hw1 hnone HHP
              go_wp2_with fail
              refine (HHB.out _).mono ?_
              rintro e w1 ⟨rfl, hb1⟩
              have HB3 := Lib.hid (HB2.out.trans (hb1.mono HB2.out.size))
              have HK3 := Lib.hid (HK2.out.below hb1 hbl2)
              clear hb1 k0 k1 k2 k3
              go_wp2
              go_roundw
              case rel =>
                exact ⟨b + 1, by omega, by go_num, by rw [HRN.out, HS.out], HK3.out, HB3.out⟩
              case measure => simp [intOf]; omega
            | true =>
              obtain ⟨hpos, hprev⟩ : 0 < b ∧ m (b - 1) = true := by
                rcases hnone with h | h
                · cases h
                · exact h
              rw [hprev] at HHP
              have hw := hw1 hpos
              have hdp : decide ((0 : Int) < ((b : Nat) : Int)) = true := decide_eq_true (by omega)
              clear hw1 hnone hprev
              obtain ⟨b1, hb1e⟩ : ∃ b1, b - 1 = b1 := ⟨_, rfl⟩
              rw [hb1e] at HHP hw
              clear hb1e
              go_wp2_with fail
              refine (HHB.out _).mono ?_
              rintro e w1 ⟨rfl, hb1⟩
              have HB3 := Lib.hid (HB2.out.trans (hb1.mono HB2.out.size))
              have HK3 := Lib.hid (HK2.out.below hb1 hbl2)
              have hbl3 := HK3.out.lt
              clear hb1 k0 k1 k2 k3
              obtain ⟨k0, k1, k2, k3, -, -, -, -⟩ := HK3.out.four
              go_wp2_with fail
              refine (HHP.out _).mono ?_
              rintro e w2 ⟨rfl, hb2⟩
              have HB4 := Lib.hid (HB3.out.trans (hb2.mono HB3.out.size))
              have HK4 := Lib.hid (HK3.out.below hb2 hbl3)
              clear hb2 k0 k1 k2 k3
              go_wp2
              go_roundw
              case rel => exact ⟨b + 1, by omega, by go_num, by rw [HRN.out, HS.out], HK4.out, HB4.out⟩
              case measure => simp [intOf]; omega
          · have hmb : m b = true := by
              cases h : m b with
              | true => rfl
              | false => exact absurd (.inl h) hnone
            have h0 : b = 0 ∨ (0 < b ∧ m (b - 1) = false) := by
              rcases Nat.eq_zero_or_pos b with h | h
              · exact .inl h
              · right
                refine ⟨h, ?_⟩
                cases h' : m (b - 1) with
                | false => rfl
                | true => exact absurd (.inr ⟨h, h'⟩) hnone
            obtain ⟨e, he1, he2, he3, he4, he5⟩ := run_some hlt hmb (h0.imp id (·.2))
            have HE3 := Lib.hid he3
            have HE4 := Lib.hid he4
            have HE5 := Lib.hid he5
            have HHP := Lib.hid (HHAS.out (b - 1) (by omega))
            rw [Int.toNat_natCast] at HHP
            rw [hmb] at HHB
            have hw1 : 0 < b → IntKind.i64.wrap (((b : Nat) : Int) - 1) = ((b - 1 : Nat) : Int) := fun h => by
              rw [IntWalk.i64_in _ (by omega)]
              omega
            clear hnone hmb he3 he4 he5
            have hpos : decide ((0 : Int) < ((b : Nat) : Int)) = decide (0 < b) := decide_eq_decide.2 (by omega)
            rcases h0 with h0 | ⟨h0, hprev⟩ <;> (
            first
              | (have hdp : decide ((0 : Int) < ((b : Nat) : Int)) = true := decide_eq_true (by omega)
                 have hw := hw1 h0
                 rw [hprev] at HHP
                 clear hw1 hpos
                 obtain ⟨b1, hb1e⟩ : ∃ b1, b - 1 = b1 := ⟨_, rfl⟩
                 rw [hb1e] at HHP hw
                 clear hb1e hprev
                 go_wp2_with fail
                 refine (HHB.out _).mono ?_
                 rintro e8 w1 ⟨rfl, hb1⟩
                 have HB3 := Lib.hid (HB2.out.trans (hb1.mono HB2.out.size))
                 have HK3 := Lib.hid (HK2.out.below hb1 hbl2)
                 have hbl3 := HK3.out.lt
                 clear hb1 k0 k1 k2 k3
                 obtain ⟨k0, k1, k2, k3, -, -, -, -⟩ := HK3.out.four
                 go_wp2_with fail
                 refine (HHP.out _).mono ?_
                 rintro e9 w2 ⟨rfl, hb2⟩
                 have HB4 := Lib.hid (HB3.out.trans (hb2.mono HB3.out.size))
                 have HK4 := Lib.hid (HK3.out.below hb2 hbl3)
                 clear hb2 k0 k1 k2 k3)
              | (have hnb : ¬0 < b := by omega
                 clear hw1 hpos HHP h0
                 go_wp2_with fail
                 refine (HHB.out _).mono ?_
                 rintro e8 w2 ⟨rfl, hb1⟩
                 have HB4 := Lib.hid (HB2.out.trans (hb1.mono HB2.out.size))
                 have HK4 := Lib.hid (HK2.out.below hb1 hbl2)
                 clear hb1 k0 k1 k2 k3)
            have HHX := Lib.hid (fun (x : Nat) (hx : x < 255) (W : World) => refhas_any m (((x : Nat) : Int) + 1) (by omega) (by omega) W)
            obtain ⟨k0, k1, k2, k3, -, -, -, -⟩ := HK4.out.four
            go_wp2_with fail
            clear k0 k1 k2 k3
            go_loopw [9] (fun ev wr => ∃ x : Nat, b ≤ x ∧ x ≤ e ∧ ev = .int .i64 ((x : Nat) : Int) ∧ Blk wr w.heap.size 24 (setL m) ∧ Below w.heap.size w wr) (fun ev _ => 256 - (intOf ev).toNat)
            case atStart => exact ⟨b, Nat.le_refl _, he1, rfl, HK4.out, HB4.out⟩
            case round =>
              obtain ⟨x, hx1, hx2, rfl, hbk, hbw⟩ := hrel
              have HB5 := Lib.hid hbw
              have HK5 := Lib.hid hbk
              have hbl5 := hbk.lt
              obtain ⟨k0, k1, k2, k3, -, -, -, -⟩ := hbk.four
              clear hbk hbw
              obtain ⟨y, hy5⟩ : ∃ y, decide (x < e) = y := ⟨_, rfl⟩
              cases y with
              | true =>
                have hxe := of_decide_eq_true hy5
                clear hy5
                have HHX1 := Lib.hid (HHX.out x (by omega))
                rw [show (((x : Nat) : Int) + 1).toNat = x + 1 by omega, HE4.out (x + 1) (by omega) (by omega)] at HHX1
                have hx255 : ((x : Nat) : Int) < 255 := by omega
                go_wp2_with fail
                refine (HHX1.out _).mono ?_
                rintro e9 w3 ⟨rfl, hb3⟩
                have HB6 := Lib.hid (HB5.out.trans (hb3.mono HB5.out.size))
                have HK6 := Lib.hid (HK5.out.below hb3 hbl5)
                clear hb3 k0 k1 k2 k3
                go_wp2
                go_roundw
                case rel => exact ⟨x + 1, by omega, by omega, by go_num, HK6.out, HB6.out⟩
                case measure => simp [intOf]; omega
              | false =>
                have hxe := of_decide_eq_false hy5
                clear hy5
                have HXE := Lib.hid (show x = e by omega)
                have hX := byteS_size b
                have hY := byteS_size x
                have HBB := Lib.hid (refbyte_at b hlt)
                have HBE := Lib.hid (refbyte_at x (by omega))
                have HT1 := Lib.hid (show b = x → clsB (lowR (runs8 m) (b + 1)) = S ++ byteS b from fun h => by rw [HE3.out, ← HXE.out, ← h, cls_one, HS.out])
                have HT2 := Lib.hid (show b ≠ x → clsB (lowR (runs8 m) (b + 1)) = S ++ byteS b ++ { data := #[45] } ++ byteS x from fun h => by rw [HE3.out, ← HXE.out, cls_two _ _ _ h, HS.out])
                generalize byteS b = X at *
                generalize byteS x = Y at *
                have n1 : ¬9223372036854775807 < S.size + X.size := by omega
                have n2 : ¬9223372036854775807 < S.size + X.size + 1 := by omega
                have n3 : ¬9223372036854775807 < S.size + X.size + 1 + Y.size := by omega
                have hd5 : x = 255 ∨ (x < 255 ∧ m (x + 1) = false) := by
                  rcases HE5.out with h | h
                  · exact .inl (HXE.out.trans h)
                  · rcases Nat.lt_or_ge x 255 with h' | h'
                    · exact .inr ⟨h', by rw [HXE.out]; exact h⟩
                    · exact .inl (by omega)
                have HTAIL := Lib.hid hd5
                clear hd5 hxe hx2
                rcases HTAIL.out with h5 | ⟨h5, h6⟩ <;> (
                first
                  | (have HHX1 := Lib.hid (HHX.out x h5)
                     rw [show (((x : Nat) : Int) + 1).toNat = x + 1 by omega, h6] at HHX1
                     have hx255 : ((x : Nat) : Int) < 255 := by omega
                     clear h6 h5
                     go_wp2_with fail
                     refine (HHX1.out _).mono ?_
                     rintro e9 w3 ⟨rfl, hb3⟩
                     have HB6 := Lib.hid (HB5.out.trans (hb3.mono HB5.out.size))
                     have HK6 := Lib.hid (HK5.out.below hb3 hbl5)
                     clear hb3 k0 k1 k2 k3)
                  | (have hx255 : ¬((x : Nat) : Int) < 255 := by omega
                     clear h5
                     go_upto_region 24 with fail
                     have HB6 := Lib.hid HB5.out
                     have HK6 := Lib.hid HK5.out
                     clear k0 k1 k2 k3
                     rename World => w3)
                go_wp2_with fail
                refine (HBB.out _).mono ?_
                rintro v8 w4 ⟨rfl, hb4⟩
                have HB7 := Lib.hid (HB6.out.trans (hb4.mono HB6.out.size))
                have HK7 := Lib.hid (HK6.out.below hb4 HK6.out.lt)
                clear hb4
                by_cases hbe : b < x
                · have HNE := Lib.hid (HT2.out (by omega))
                  have hgt : ((b : Nat) : Int) < ((x : Nat) : Int) := by omega
                  clear HT1 HT2
                  go_wp2_with fail
                  refine (HBE.out _).mono ?_
                  rintro v9 w5 ⟨rfl, hb5⟩
                  have HB8 := Lib.hid (HB7.out.trans (hb5.mono HB7.out.size))
                  have HK8 := Lib.hid (HK7.out.below hb5 HK7.out.lt)
                  clear hb5
                  go_wp2
                  go_roundw
                  case rel => exact ⟨b + 1, by omega, by go_num, by rw [HNE.out], HK8.out, HB8.out⟩
                  case measure => simp [intOf]; omega
                · have HNE := Lib.hid (HT1.out (by omega))
                  have hgt : ¬((b : Nat) : Int) < ((x : Nat) : Int) := by omega
                  clear HT1 HT2
                  go_wp2
                  go_roundw
                  case rel => exact ⟨b + 1, by omega, by go_num, by rw [HNE.out], HK7.out, HB7.out⟩
                  case measure => simp [intOf]; omega))
        · obtain rfl : b = 256 := by omega
          have HCE := Lib.hid (cls_end m)
          clear hbk hbw
          generalize clsB (lowR (runs8 m) 256) = S at *
          have n1 : ¬9223372036854775807 < S.size + 1 := by omega
          have n2 : ¬9223372036854775807 < 1 + S.size := by omega
          go_wp2
          go_returns
          exact ⟨by rw [HV.out, ← HCE.out]; rfl, HB2.out⟩)
end Go.Proofs.YtpiimcbbgalhfaaGreatDoor
