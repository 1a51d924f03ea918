/- The reference of layer 5: One: braces. -/
import Derived.Test.YtckoebfmoggeoaaDoorCc
import Derived.Test.YtckoebfmoggeoaaDoorCk
import Derived.Test.YtckoebfmoggeoaaDoorBh
import Derived.Test.YtckoebfmoggeoaaDoorBb
import Derived.BigQuiet
import Derived.Deep.QuietTactic
namespace Go.Proofs.YtckoebfmoggeoaaDoor
set_option maxRecDepth 100000
open Go.RowKit
set_option maxRecDepth 100000 in
set_option maxHeartbeats 8000000 in
theorem refone_123 (s : ByteArray) (i : Nat) (hi : i < s.size) (hs : s.size ≤ 1048576) (hc : (s[i]'hi).toNat = 123) (w : World) :
    Calls Tryd.prog 41 #[.string s, .int .i64 ((i : Nat) : Int)] w fun v w' => ∃ (x : Tok) (j e : Nat), v = .returned (.tuple #[tokV x i 0, endV j e]) ∧ TokIs (tokM (bytesN s) i) x j e ∧ Below w.heap.size w w' := by
  have HC := Lib.hid (show (bytesN s)[i]? = some 123 by rw [get_at s hi, hc])
  go_enter Tryd.func41, Tryd.ntmps41
  go_upto_region 5 with fail
  have st := ((((St.nil w).alloc rfl [.int .i64 0, .int .i64 0, .int .i64 0, .int .u64 0, .int .u64 0, .int .u64 0, .int .u64 0, .int .i64 0, .int .i64 0, .bool false] 87).alloc (n := w.heap.size + 1) (by simp) [.int .i64 0, .int .i64 0] 88).alloc (n := w.heap.size + 2) (by simp) [.int .i64 (((i : Nat) : Int) + 1), .int .i64 0] 88).alloc (n := w.heap.size + 3) (by simp) [.int .i64 0, .int .i64 ((i : Nat) : Int), .int .i64 0, .int .u64 0, .int .u64 0, .int .u64 0, .int .u64 0, .int .i64 0, .int .i64 0, .bool false] 87
  generalize (((w.alloc _).alloc _).alloc _).alloc _ = wa at *
  go_wp2_with fail
  refine (refin_at _ 123 _ (by decide)).mono ?_
  rintro v w5 ⟨rfl, rfl⟩
  rename World => w0
  rw [show (bytesN { data := #[42, 43, 63, 123] }).contains 123 = true from rfl]
  obtain ⟨⟨p00, p01, p02, p03, p04, p05, p06, p07, p08, p09⟩, r00, r01, r02, r03, r04, r05, r06, r07, r08, r09⟩ := st.ten 0 rfl
  go_upto_region 38 with fail
  replace st := (st.set 0 rfl 0 (Value.int .i64 5))
  generalize World.setCell _ _ _ = wy at *
  replace st : St w _ [(w.heap.size + 3, 87, [.int .i64 5, .int .i64 ((i : Nat) : Int), .int .i64 0, .int .u64 0, .int .u64 0, .int .u64 0, .int .u64 0, .int .i64 0, .int .i64 0, .bool false]), (w.heap.size + 2, 88, [.int .i64 (((i : Nat) : Int) + 1), .int .i64 0]), (w.heap.size + 1, 88, [.int .i64 0, .int .i64 0]), (w.heap.size, 87, [.int .i64 0, .int .i64 0, .int .i64 0, .int .u64 0, .int .u64 0, .int .u64 0, .int .u64 0, .int .i64 0, .int .i64 0, .bool false])] := st
  clear p00 r00 p01 r01 p02 r02 p03 r03 p04 r04 p05 r05 p06 r06 p07 r07 p08 r08 p09 r09
  obtain ⟨⟨p00, p01, p02, p03, p04, p05, p06, p07, p08, p09⟩, r00, r01, r02, r03, r04, r05, r06, r07, r08, r09⟩ := st.ten 0 rfl
  go_upto_region 39 with fail
  replace st := (st.set 0 rfl 8 (Value.int .i64 (-1)))
  generalize World.setCell _ _ _ = wy at *
  replace st : St w _ [(w.heap.size + 3, 87, [.int .i64 5, .int .i64 ((i : Nat) : Int), .int .i64 0, .int .u64 0, .int .u64 0, .int .u64 0, .int .u64 0, .int .i64 0, .int .i64 (-1), .bool false]), (w.heap.size + 2, 88, [.int .i64 (((i : Nat) : Int) + 1), .int .i64 0]), (w.heap.size + 1, 88, [.int .i64 0, .int .i64 0]), (w.heap.size, 87, [.int .i64 0, .int .i64 0, .int .i64 0, .int .u64 0, .int .u64 0, .int .u64 0, .int .u64 0, .int .i64 0, .int .i64 0, .bool false])] := st
  clear p00 r00 p01 r01 p02 r02 p03 r03 p04 r04 p05 r05 p06 r06 p07 r07 p08 r08 p09 r09
  go_wp2_with fail
  refine (refbraces_at s (i + 1) hi hs _).mono ?_
  rintro v w1 ⟨lo, hi2, j, e, rfl, hbr, hb⟩
  replace st := st.below' hb
  clear hb
  obtain ⟨⟨p00, p01, p02, p03, p04, p05, p06, p07, p08, p09⟩, r00, r01, r02, r03, r04, r05, r06, r07, r08, r09⟩ := st.ten 0 rfl
  obtain ⟨⟨p10, p11⟩, r10, r11⟩ := st.two 1 rfl
  go_upto_region 46 with fail
  replace st := ((((st.set 0 rfl 7 (Value.int .i64 ((lo : Nat) : Int))).set 0 rfl 8 (Value.int .i64 hi2)).set 1 rfl 0 (Value.int .i64 ((j : Nat) : Int))).set 1 rfl 1 (Value.int .i64 ((e : Nat) : Int)))
  generalize World.setCell _ _ _ = wy at *
  replace st : St w _ [(w.heap.size + 3, 87, [.int .i64 5, .int .i64 ((i : Nat) : Int), .int .i64 0, .int .u64 0, .int .u64 0, .int .u64 0, .int .u64 0, .int .i64 ((lo : Nat) : Int), .int .i64 hi2, .bool false]), (w.heap.size + 2, 88, [.int .i64 ((j : Nat) : Int), .int .i64 ((e : Nat) : Int)]), (w.heap.size + 1, 88, [.int .i64 0, .int .i64 0]), (w.heap.size, 87, [.int .i64 0, .int .i64 0, .int .i64 0, .int .u64 0, .int .u64 0, .int .u64 0, .int .u64 0, .int .i64 0, .int .i64 0, .bool false])] := st
  clear p00 r00 p01 r01 p02 r02 p03 r03 p04 r04 p05 r05 p06 r06 p07 r07 p08 r08 p09 r09 p10 r10 p11 r11
  cases h1 : bracesM (bytesN s) (i + 1) with
  | err j' e' =>
    rw [h1] at hbr
    obtain ⟨rfl, rfl, hne⟩ := hbr
    have H1 := Lib.hid h1
    have he1 : (((e : Nat) : Int) != 0) = true := by rw [bne_iff_ne]; omega
    have he2 : (((e : Nat) : Int) == 0) = false := by rw [beq_eq_false_iff_ne]; omega
    have HE := Lib.hid hne
    clear hne h1
    obtain ⟨⟨p00, p01, p02, p03, p04, p05, p06, p07, p08, p09⟩, r00, r01, r02, r03, r04, r05, r06, r07, r08, r09⟩ := st.ten 0 rfl
    obtain ⟨⟨p10, p11⟩, r10, r11⟩ := st.two 1 rfl
    obtain ⟨⟨p20, p21⟩, r20, r21⟩ := st.two 2 rfl
    obtain ⟨⟨p30, p31, p32, p33, p34, p35, p36, p37, p38, p39⟩, r30, r31, r32, r33, r34, r35, r36, r37, r38, r39⟩ := st.ten 3 rfl
    go_wp2_with fail
    go_region
    all_goals
      have stz := ((st.all 3 rfl [.int .i64 5, .int .i64 ((i : Nat) : Int), .int .i64 0, .int .u64 0, .int .u64 0, .int .u64 0, .int .u64 0, .int .i64 ((lo : Nat) : Int), .int .i64 hi2, .bool false] rfl).all 2 rfl [.int .i64 ((j : Nat) : Int), .int .i64 ((e : Nat) : Int)] rfl).drew
      simp only [putCells, List.set] at stz
      generalize World.drew _ = wz at *
      clear p00 r00 p01 r01 p02 r02 p03 r03 p04 r04 p05 r05 p06 r06 p07 r07 p08 r08 p09 r09 p10 r10 p11 r11 p20 r20 p21 r21 p30 r30 p31 r31 p32 r32 p33 r33 p34 r34 p35 r35 p36 r36 p37 r37 p38 r38 p39 r39
      go_wp2
      refine ret_tokend (x := ⟨5, noSet, lo, hi2, false⟩) (f := i) (b := w.heap.size) (b' := w.heap.size + 1) (j := j) (e := e) rfl rfl rfl (by rw [tokL_noset]; exact stz.get 3 rfl) (stz.get 2 rfl) rfl ⟨⟨5, noSet, lo, hi2, false⟩, j, e, rfl, ?_, stz.below⟩
      rw [show tokM (bytesN s) i = (match bracesM (bytesN s) (i + 1) with | .err j e => .err j e | .ok (lo, hi) j => lazyM (bytesN s) lo (hiZ hi) j) from by unfold tokM; rw [HC.out]; rfl, H1.out]
      exact ⟨rfl, rfl, HE.out⟩
  | ok v' j' =>
    obtain ⟨lo', ho⟩ := v'
    rw [h1] at hbr
    obtain ⟨rfl, rfl, rfl, rfl⟩ := hbr
    have H1 := Lib.hid h1
    have hl1 := bracesM_le h1
    rw [bytesN_length] at hl1
    clear h1
    obtain ⟨⟨p10, p11⟩, r10, r11⟩ := st.two 1 rfl
    rcases (show s.size ≤ j ∨ (∃ h : j < s.size, (s[j]'h).toNat ≠ 63) ∨ ∃ h : j < s.size, (s[j]'h).toNat = 63 from by
      rcases Nat.lt_or_ge (j) s.size with h | h
      · by_cases h2 : (s[j]'h).toNat = 63
        · exact .inr (.inr ⟨h, h2⟩)
        · exact .inr (.inl ⟨h, h2⟩)
      · exact .inl h) with hko | ⟨hki, hkn⟩ | ⟨hki, hke⟩
    · have hkD := Lib.hid (show (bytesN s)[j]? ≠ some 63 from get_out hko)
      have hkD2 := Lib.hid hko
      have hkt : ¬((j : Nat) : Int) < ((s.size : Nat) : Int) := by omega
      have hkt2 : ((s.size : Nat) : Int) ≤ ((j : Nat) : Int) := by omega
      obtain ⟨⟨p00, p01, p02, p03, p04, p05, p06, p07, p08, p09⟩, r00, r01, r02, r03, r04, r05, r06, r07, r08, r09⟩ := st.ten 0 rfl
      obtain ⟨⟨p10, p11⟩, r10, r11⟩ := st.two 1 rfl
      obtain ⟨⟨p20, p21⟩, r20, r21⟩ := st.two 2 rfl
      obtain ⟨⟨p30, p31, p32, p33, p34, p35, p36, p37, p38, p39⟩, r30, r31, r32, r33, r34, r35, r36, r37, r38, r39⟩ := st.ten 3 rfl
      go_wp2_with fail
      go_region
      all_goals
        have stz := ((st.all 3 rfl [.int .i64 5, .int .i64 ((i : Nat) : Int), .int .i64 0, .int .u64 0, .int .u64 0, .int .u64 0, .int .u64 0, .int .i64 ((lo : Nat) : Int), .int .i64 (hiZ ho), .bool false] rfl).all 2 rfl [.int .i64 ((j : Nat) : Int), .int .i64 0] rfl).drew
        simp only [putCells, List.set] at stz
        generalize World.drew _ = wz at *
        clear p00 r00 p01 r01 p02 r02 p03 r03 p04 r04 p05 r05 p06 r06 p07 r07 p08 r08 p09 r09 p10 r10 p11 r11 p20 r20 p21 r21 p30 r30 p31 r31 p32 r32 p33 r33 p34 r34 p35 r35 p36 r36 p37 r37 p38 r38 p39 r39
        go_wp2
        refine ret_tokend (x := ⟨5, noSet, lo, (hiZ ho), false⟩) (f := i) (b := w.heap.size) (b' := w.heap.size + 1) (j := j) (e := 0) rfl rfl rfl (by rw [tokL_noset]; exact stz.get 3 rfl) (stz.get 2 rfl) rfl ⟨⟨5, noSet, lo, (hiZ ho), false⟩, j, 0, rfl, ?_, stz.below⟩
        rw [show tokM (bytesN s) i = (match bracesM (bytesN s) (i + 1) with | .err j e => .err j e | .ok (lo, hi) j => lazyM (bytesN s) lo (hiZ hi) j) from by unfold tokM; rw [HC.out]; rfl, H1.out]
        show TokIs (lazyM (bytesN s) lo (hiZ ho) j) _ _ _
        rw [lazy_no hkD.out (get_out hkD2.out)]
        exact ⟨rfl, rfl, rfl⟩
    · have hkD := Lib.hid (show (bytesN s)[j]? ≠ some 63 from get_ne hki hkn)
      have hkt : ((j : Nat) : Int) < ((s.size : Nat) : Int) := by omega
      have hkq : ((((s[j]'hki).toNat : Nat) : Int) == 63) = false := by rw [beq_eq_false_iff_ne]; omega
      have hkp : ((((s[j]'hki).toNat : Nat) : Int) != 63) = true := by rw [bne_iff_ne]; omega
      clear hkn
      rcases (show s.size ≤ j ∨ (∃ h : j < s.size, (s[j]'h).toNat ≠ 43) ∨ ∃ h : j < s.size, (s[j]'h).toNat = 43 from by
        rcases Nat.lt_or_ge (j) s.size with h | h
        · by_cases h2 : (s[j]'h).toNat = 43
          · exact .inr (.inr ⟨h, h2⟩)
          · exact .inr (.inl ⟨h, h2⟩)
        · exact .inl h) with hmo | ⟨hmi, hmn⟩ | ⟨hmi, hme⟩
      · have hmD := Lib.hid (show (bytesN s)[j]? ≠ some 43 from get_out hmo)
        have hmD2 := Lib.hid hmo
        have hmt : ¬((j : Nat) : Int) < ((s.size : Nat) : Int) := by omega
        have hmt2 : ((s.size : Nat) : Int) ≤ ((j : Nat) : Int) := by omega
        omega
      · have hmD := Lib.hid (show (bytesN s)[j]? ≠ some 43 from get_ne hmi hmn)
        have hmt : ((j : Nat) : Int) < ((s.size : Nat) : Int) := by omega
        have hmq : ((((s[j]'hmi).toNat : Nat) : Int) == 43) = false := by rw [beq_eq_false_iff_ne]; omega
        have hmp : ((((s[j]'hmi).toNat : Nat) : Int) != 43) = true := by rw [bne_iff_ne]; omega
        clear hmn
        obtain ⟨⟨p00, p01, p02, p03, p04, p05, p06, p07, p08, p09⟩, r00, r01, r02, r03, r04, r05, r06, r07, r08, r09⟩ := st.ten 0 rfl
        obtain ⟨⟨p10, p11⟩, r10, r11⟩ := st.two 1 rfl
        obtain ⟨⟨p20, p21⟩, r20, r21⟩ := st.two 2 rfl
        obtain ⟨⟨p30, p31, p32, p33, p34, p35, p36, p37, p38, p39⟩, r30, r31, r32, r33, r34, r35, r36, r37, r38, r39⟩ := st.ten 3 rfl
        go_wp2_with fail
        go_region
        all_goals
          have stz := ((st.all 3 rfl [.int .i64 5, .int .i64 ((i : Nat) : Int), .int .i64 0, .int .u64 0, .int .u64 0, .int .u64 0, .int .u64 0, .int .i64 ((lo : Nat) : Int), .int .i64 (hiZ ho), .bool false] rfl).all 2 rfl [.int .i64 ((j : Nat) : Int), .int .i64 0] rfl).drew
          simp only [putCells, List.set] at stz
          generalize World.drew _ = wz at *
          clear p00 r00 p01 r01 p02 r02 p03 r03 p04 r04 p05 r05 p06 r06 p07 r07 p08 r08 p09 r09 p10 r10 p11 r11 p20 r20 p21 r21 p30 r30 p31 r31 p32 r32 p33 r33 p34 r34 p35 r35 p36 r36 p37 r37 p38 r38 p39 r39
          go_wp2
          refine ret_tokend (x := ⟨5, noSet, lo, (hiZ ho), false⟩) (f := i) (b := w.heap.size) (b' := w.heap.size + 1) (j := j) (e := 0) rfl rfl rfl (by rw [tokL_noset]; exact stz.get 3 rfl) (stz.get 2 rfl) rfl ⟨⟨5, noSet, lo, (hiZ ho), false⟩, j, 0, rfl, ?_, stz.below⟩
          rw [show tokM (bytesN s) i = (match bracesM (bytesN s) (i + 1) with | .err j e => .err j e | .ok (lo, hi) j => lazyM (bytesN s) lo (hiZ hi) j) from by unfold tokM; rw [HC.out]; rfl, H1.out]
          show TokIs (lazyM (bytesN s) lo (hiZ ho) j) _ _ _
          rw [lazy_no hkD.out hmD.out]
          exact ⟨rfl, rfl, rfl⟩
      · have hmD := Lib.hid (show (bytesN s)[j]? = some 43 by rw [get_at s hmi, hme])
        have hmE := Lib.hid hme
        have hmt : ((j : Nat) : Int) < ((s.size : Nat) : Int) := by omega
        have hmq : ((((s[j]'hmi).toNat : Nat) : Int) == 43) = true := by rw [beq_iff_eq]; omega
        have hmp : ((((s[j]'hmi).toNat : Nat) : Int) != 43) = false := by rw [bne_eq_false_iff_eq]; omega
        clear hme
        obtain ⟨⟨p10, p11⟩, r10, r11⟩ := st.two 1 rfl
        go_upto_region 53 with fail
        replace st := (st.set 1 rfl 1 (Value.int .i64 6))
        generalize World.setCell _ _ _ = wy at *
        replace st : St w _ [(w.heap.size + 3, 87, [.int .i64 5, .int .i64 ((i : Nat) : Int), .int .i64 0, .int .u64 0, .int .u64 0, .int .u64 0, .int .u64 0, .int .i64 ((lo : Nat) : Int), .int .i64 (hiZ ho), .bool false]), (w.heap.size + 2, 88, [.int .i64 ((j : Nat) : Int), .int .i64 6]), (w.heap.size + 1, 88, [.int .i64 0, .int .i64 0]), (w.heap.size, 87, [.int .i64 0, .int .i64 0, .int .i64 0, .int .u64 0, .int .u64 0, .int .u64 0, .int .u64 0, .int .i64 0, .int .i64 0, .bool false])] := st
        clear p10 r10 p11 r11
        obtain ⟨⟨p00, p01, p02, p03, p04, p05, p06, p07, p08, p09⟩, r00, r01, r02, r03, r04, r05, r06, r07, r08, r09⟩ := st.ten 0 rfl
        obtain ⟨⟨p10, p11⟩, r10, r11⟩ := st.two 1 rfl
        obtain ⟨⟨p20, p21⟩, r20, r21⟩ := st.two 2 rfl
        obtain ⟨⟨p30, p31, p32, p33, p34, p35, p36, p37, p38, p39⟩, r30, r31, r32, r33, r34, r35, r36, r37, r38, r39⟩ := st.ten 3 rfl
        go_wp2_with fail
        go_region
        all_goals
          have stz := ((st.all 3 rfl [.int .i64 5, .int .i64 ((i : Nat) : Int), .int .i64 0, .int .u64 0, .int .u64 0, .int .u64 0, .int .u64 0, .int .i64 ((lo : Nat) : Int), .int .i64 (hiZ ho), .bool false] rfl).all 2 rfl [.int .i64 ((j : Nat) : Int), .int .i64 6] rfl).drew
          simp only [putCells, List.set] at stz
          generalize World.drew _ = wz at *
          clear p00 r00 p01 r01 p02 r02 p03 r03 p04 r04 p05 r05 p06 r06 p07 r07 p08 r08 p09 r09 p10 r10 p11 r11 p20 r20 p21 r21 p30 r30 p31 r31 p32 r32 p33 r33 p34 r34 p35 r35 p36 r36 p37 r37 p38 r38 p39 r39
          go_wp2
          refine ret_tokend (x := ⟨5, noSet, lo, (hiZ ho), false⟩) (f := i) (b := w.heap.size) (b' := w.heap.size + 1) (j := j) (e := 6) rfl rfl rfl (by rw [tokL_noset]; exact stz.get 3 rfl) (stz.get 2 rfl) rfl ⟨⟨5, noSet, lo, (hiZ ho), false⟩, j, 6, rfl, ?_, stz.below⟩
          rw [show tokM (bytesN s) i = (match bracesM (bytesN s) (i + 1) with | .err j e => .err j e | .ok (lo, hi) j => lazyM (bytesN s) lo (hiZ hi) j) from by unfold tokM; rw [HC.out]; rfl, H1.out]
          show TokIs (lazyM (bytesN s) lo (hiZ ho) j) _ _ _
          rw [lazy_plus hmD.out]
          exact ⟨rfl, rfl, by omega⟩
    · have hkD := Lib.hid (show (bytesN s)[j]? = some 63 by rw [get_at s hki, hke])
      have hkE := Lib.hid hke
      have hkt : ((j : Nat) : Int) < ((s.size : Nat) : Int) := by omega
      have hkq : ((((s[j]'hki).toNat : Nat) : Int) == 63) = true := by rw [beq_iff_eq]; omega
      have hkp : ((((s[j]'hki).toNat : Nat) : Int) != 63) = false := by rw [bne_eq_false_iff_eq]; omega
      clear hke
      obtain ⟨⟨p10, p11⟩, r10, r11⟩ := st.two 1 rfl
      obtain ⟨⟨p00, p01, p02, p03, p04, p05, p06, p07, p08, p09⟩, r00, r01, r02, r03, r04, r05, r06, r07, r08, r09⟩ := st.ten 0 rfl
      go_upto_region 50 with fail
      replace st := (st.set 0 rfl 9 (Value.bool true))
      generalize World.setCell _ _ _ = wy at *
      replace st : St w _ [(w.heap.size + 3, 87, [.int .i64 5, .int .i64 ((i : Nat) : Int), .int .i64 0, .int .u64 0, .int .u64 0, .int .u64 0, .int .u64 0, .int .i64 ((lo : Nat) : Int), .int .i64 (hiZ ho), .bool true]), (w.heap.size + 2, 88, [.int .i64 ((j : Nat) : Int), .int .i64 0]), (w.heap.size + 1, 88, [.int .i64 0, .int .i64 0]), (w.heap.size, 87, [.int .i64 0, .int .i64 0, .int .i64 0, .int .u64 0, .int .u64 0, .int .u64 0, .int .u64 0, .int .i64 0, .int .i64 0, .bool false])] := st
      clear p00 r00 p01 r01 p02 r02 p03 r03 p04 r04 p05 r05 p06 r06 p07 r07 p08 r08 p09 r09
      clear p10 r10 p11 r11
      obtain ⟨⟨p10, p11⟩, r10, r11⟩ := st.two 1 rfl
      go_upto_region 51 with fail
      replace st := (st.set 1 rfl 0 (Value.int .i64 (((j : Nat) : Int) + 1)))
      generalize World.setCell _ _ _ = wy at *
      replace st : St w _ [(w.heap.size + 3, 87, [.int .i64 5, .int .i64 ((i : Nat) : Int), .int .i64 0, .int .u64 0, .int .u64 0, .int .u64 0, .int .u64 0, .int .i64 ((lo : Nat) : Int), .int .i64 (hiZ ho), .bool true]), (w.heap.size + 2, 88, [.int .i64 (((j : Nat) : Int) + 1), .int .i64 0]), (w.heap.size + 1, 88, [.int .i64 0, .int .i64 0]), (w.heap.size, 87, [.int .i64 0, .int .i64 0, .int .i64 0, .int .u64 0, .int .u64 0, .int .u64 0, .int .u64 0, .int .i64 0, .int .i64 0, .bool false])] := st
      clear p10 r10 p11 r11
      rcases (show s.size ≤ j + 1 ∨ (∃ h : j + 1 < s.size, (s[j + 1]'h).toNat ≠ 43) ∨ ∃ h : j + 1 < s.size, (s[j + 1]'h).toNat = 43 from by
        rcases Nat.lt_or_ge (j + 1) s.size with h | h
        · by_cases h2 : (s[j + 1]'h).toNat = 43
          · exact .inr (.inr ⟨h, h2⟩)
          · exact .inr (.inl ⟨h, h2⟩)
        · exact .inl h) with hmo | ⟨hmi, hmn⟩ | ⟨hmi, hme⟩
      · have hmD := Lib.hid (show (bytesN s)[j + 1]? ≠ some 43 from get_out hmo)
        have hmD2 := Lib.hid hmo
        have hmt : ¬((j : Nat) : Int) + 1 < ((s.size : Nat) : Int) := by omega
        have hmt2 : ((s.size : Nat) : Int) ≤ ((j : Nat) : Int) + 1 := by omega
        obtain ⟨⟨p00, p01, p02, p03, p04, p05, p06, p07, p08, p09⟩, r00, r01, r02, r03, r04, r05, r06, r07, r08, r09⟩ := st.ten 0 rfl
        obtain ⟨⟨p10, p11⟩, r10, r11⟩ := st.two 1 rfl
        obtain ⟨⟨p20, p21⟩, r20, r21⟩ := st.two 2 rfl
        obtain ⟨⟨p30, p31, p32, p33, p34, p35, p36, p37, p38, p39⟩, r30, r31, r32, r33, r34, r35, r36, r37, r38, r39⟩ := st.ten 3 rfl
        go_wp2_with fail
        go_region
        all_goals
          have stz := ((st.all 3 rfl [.int .i64 5, .int .i64 ((i : Nat) : Int), .int .i64 0, .int .u64 0, .int .u64 0, .int .u64 0, .int .u64 0, .int .i64 ((lo : Nat) : Int), .int .i64 (hiZ ho), .bool true] rfl).all 2 rfl [.int .i64 (((j : Nat) : Int) + 1), .int .i64 0] rfl).drew
          simp only [putCells, List.set] at stz
          generalize World.drew _ = wz at *
          clear p00 r00 p01 r01 p02 r02 p03 r03 p04 r04 p05 r05 p06 r06 p07 r07 p08 r08 p09 r09 p10 r10 p11 r11 p20 r20 p21 r21 p30 r30 p31 r31 p32 r32 p33 r33 p34 r34 p35 r35 p36 r36 p37 r37 p38 r38 p39 r39
          go_wp2
          refine ret_tokend (x := ⟨5, noSet, lo, (hiZ ho), true⟩) (f := i) (b := w.heap.size) (b' := w.heap.size + 1) (j := (j + 1)) (e := 0) rfl rfl rfl (by rw [tokL_noset]; exact stz.get 3 rfl) (stz.get 2 rfl) rfl ⟨⟨5, noSet, lo, (hiZ ho), true⟩, (j + 1), 0, rfl, ?_, stz.below⟩
          rw [show tokM (bytesN s) i = (match bracesM (bytesN s) (i + 1) with | .err j e => .err j e | .ok (lo, hi) j => lazyM (bytesN s) lo (hiZ hi) j) from by unfold tokM; rw [HC.out]; rfl, H1.out]
          show TokIs (lazyM (bytesN s) lo (hiZ ho) j) _ _ _
          rw [lazy_yes hkD.out hmD.out]
          exact ⟨rfl, rfl, rfl⟩
      · have hmD := Lib.hid (show (bytesN s)[j + 1]? ≠ some 43 from get_ne hmi hmn)
        have hmt : ((j : Nat) : Int) + 1 < ((s.size : Nat) : Int) := by omega
        have hmq : ((((s[j + 1]'hmi).toNat : Nat) : Int) == 43) = false := by rw [beq_eq_false_iff_ne]; omega
        have hmp : ((((s[j + 1]'hmi).toNat : Nat) : Int) != 43) = true := by rw [bne_iff_ne]; omega
        clear hmn
        obtain ⟨⟨p00, p01, p02, p03, p04, p05, p06, p07, p08, p09⟩, r00, r01, r02, r03, r04, r05, r06, r07, r08, r09⟩ := st.ten 0 rfl
        obtain ⟨⟨p10, p11⟩, r10, r11⟩ := st.two 1 rfl
        obtain ⟨⟨p20, p21⟩, r20, r21⟩ := st.two 2 rfl
        obtain ⟨⟨p30, p31, p32, p33, p34, p35, p36, p37, p38, p39⟩, r30, r31, r32, r33, r34, r35, r36, r37, r38, r39⟩ := st.ten 3 rfl
        go_wp2_with fail
        go_region
        all_goals
          have stz := ((st.all 3 rfl [.int .i64 5, .int .i64 ((i : Nat) : Int), .int .i64 0, .int .u64 0, .int .u64 0, .int .u64 0, .int .u64 0, .int .i64 ((lo : Nat) : Int), .int .i64 (hiZ ho), .bool true] rfl).all 2 rfl [.int .i64 (((j : Nat) : Int) + 1), .int .i64 0] rfl).drew
          simp only [putCells, List.set] at stz
          generalize World.drew _ = wz at *
          clear p00 r00 p01 r01 p02 r02 p03 r03 p04 r04 p05 r05 p06 r06 p07 r07 p08 r08 p09 r09 p10 r10 p11 r11 p20 r20 p21 r21 p30 r30 p31 r31 p32 r32 p33 r33 p34 r34 p35 r35 p36 r36 p37 r37 p38 r38 p39 r39
          go_wp2
          refine ret_tokend (x := ⟨5, noSet, lo, (hiZ ho), true⟩) (f := i) (b := w.heap.size) (b' := w.heap.size + 1) (j := (j + 1)) (e := 0) rfl rfl rfl (by rw [tokL_noset]; exact stz.get 3 rfl) (stz.get 2 rfl) rfl ⟨⟨5, noSet, lo, (hiZ ho), true⟩, (j + 1), 0, rfl, ?_, stz.below⟩
          rw [show tokM (bytesN s) i = (match bracesM (bytesN s) (i + 1) with | .err j e => .err j e | .ok (lo, hi) j => lazyM (bytesN s) lo (hiZ hi) j) from by unfold tokM; rw [HC.out]; rfl, H1.out]
          show TokIs (lazyM (bytesN s) lo (hiZ ho) j) _ _ _
          rw [lazy_yes hkD.out hmD.out]
          exact ⟨rfl, rfl, rfl⟩
      · have hmD := Lib.hid (show (bytesN s)[j + 1]? = some 43 by rw [get_at s hmi, hme])
        have hmE := Lib.hid hme
        have hmt : ((j : Nat) : Int) + 1 < ((s.size : Nat) : Int) := by omega
        have hmq : ((((s[j + 1]'hmi).toNat : Nat) : Int) == 43) = true := by rw [beq_iff_eq]; omega
        have hmp : ((((s[j + 1]'hmi).toNat : Nat) : Int) != 43) = false := by rw [bne_eq_false_iff_eq]; omega
        clear hme
        obtain ⟨⟨p10, p11⟩, r10, r11⟩ := st.two 1 rfl
        go_upto_region 53 with fail
        replace st := (st.set 1 rfl 1 (Value.int .i64 6))
        generalize World.setCell _ _ _ = wy at *
        replace st : St w _ [(w.heap.size + 3, 87, [.int .i64 5, .int .i64 ((i : Nat) : Int), .int .i64 0, .int .u64 0, .int .u64 0, .int .u64 0, .int .u64 0, .int .i64 ((lo : Nat) : Int), .int .i64 (hiZ ho), .bool true]), (w.heap.size + 2, 88, [.int .i64 (((j : Nat) : Int) + 1), .int .i64 6]), (w.heap.size + 1, 88, [.int .i64 0, .int .i64 0]), (w.heap.size, 87, [.int .i64 0, .int .i64 0, .int .i64 0, .int .u64 0, .int .u64 0, .int .u64 0, .int .u64 0, .int .i64 0, .int .i64 0, .bool false])] := st
        clear p10 r10 p11 r11
        obtain ⟨⟨p00, p01, p02, p03, p04, p05, p06, p07, p08, p09⟩, r00, r01, r02, r03, r04, r05, r06, r07, r08, r09⟩ := st.ten 0 rfl
        obtain ⟨⟨p10, p11⟩, r10, r11⟩ := st.two 1 rfl
        obtain ⟨⟨p20, p21⟩, r20, r21⟩ := st.two 2 rfl
        obtain ⟨⟨p30, p31, p32, p33, p34, p35, p36, p37, p38, p39⟩, r30, r31, r32, r33, r34, r35, r36, r37, r38, r39⟩ := st.ten 3 rfl
        go_wp2_with fail
        go_region
        all_goals
          have stz := ((st.all 3 rfl [.int .i64 5, .int .i64 ((i : Nat) : Int), .int .i64 0, .int .u64 0, .int .u64 0, .int .u64 0, .int .u64 0, .int .i64 ((lo : Nat) : Int), .int .i64 (hiZ ho), .bool true] rfl).all 2 rfl [.int .i64 (((j : Nat) : Int) + 1), .int .i64 6] rfl).drew
          simp only [putCells, List.set] at stz
          generalize World.drew _ = wz at *
          clear p00 r00 p01 r01 p02 r02 p03 r03 p04 r04 p05 r05 p06 r06 p07 r07 p08 r08 p09 r09 p10 r10 p11 r11 p20 r20 p21 r21 p30 r30 p31 r31 p32 r32 p33 r33 p34 r34 p35 r35 p36 r36 p37 r37 p38 r38 p39 r39
          go_wp2
          refine ret_tokend (x := ⟨5, noSet, lo, (hiZ ho), true⟩) (f := i) (b := w.heap.size) (b' := w.heap.size + 1) (j := (j + 1)) (e := 6) rfl rfl rfl (by rw [tokL_noset]; exact stz.get 3 rfl) (stz.get 2 rfl) rfl ⟨⟨5, noSet, lo, (hiZ ho), true⟩, (j + 1), 6, rfl, ?_, stz.below⟩
          rw [show tokM (bytesN s) i = (match bracesM (bytesN s) (i + 1) with | .err j e => .err j e | .ok (lo, hi) j => lazyM (bytesN s) lo (hiZ hi) j) from by unfold tokM; rw [HC.out]; rfl, H1.out]
          show TokIs (lazyM (bytesN s) lo (hiZ ho) j) _ _ _
          rw [lazy_yesplus hkD.out hmD.out]
          exact ⟨rfl, rfl, by omega⟩
end Go.Proofs.YtckoebfmoggeoaaDoor
/- The reference of layer 5: One: whole. -/
namespace Go.Proofs.YtckoebfmoggeoaaDoor
set_option maxRecDepth 100000
open Go.RowKit
theorem refone_at (s : ByteArray) (i : Nat) (hi : i < s.size) (hs : s.size ≤ 1048576) (w : World) :
    Calls Tryd.prog 41 #[.string s, .int .i64 ((i : Nat) : Int)] w fun v w' => ∃ (x : Tok) (j e : Nat), v = .returned (.tuple #[tokV x i 0, endV j e]) ∧ TokIs (tokM (bytesN s) i) x j e ∧ Below w.heap.size w w' := by
  by_cases n92 : (s[i]'hi).toNat = 92
  · exact refone_92 s i hi hs n92 w
  by_cases n91 : (s[i]'hi).toNat = 91
  · exact refone_91 s i hi hs n91 w
  by_cases n40 : (s[i]'hi).toNat = 40
  · exact refone_40 s i hi hs n40 w
  by_cases n41 : (s[i]'hi).toNat = 41
  · exact refone_41 s i hi hs n41 w
  by_cases n124 : (s[i]'hi).toNat = 124
  · exact refone_124 s i hi hs n124 w
  by_cases n46 : (s[i]'hi).toNat = 46
  · exact refone_46 s i hi hs n46 w
  by_cases n94 : (s[i]'hi).toNat = 94
  · exact refone_94 s i hi hs n94 w
  by_cases n36 : (s[i]'hi).toNat = 36
  · exact refone_36 s i hi hs n36 w
  by_cases n93 : (s[i]'hi).toNat = 93
  · exact refone_93 s i hi hs n93 w
  by_cases n125 : (s[i]'hi).toNat = 125
  · exact refone_125 s i hi hs n125 w
  by_cases n42 : (s[i]'hi).toNat = 42
  · exact refone_42 s i hi hs n42 w
  by_cases n43 : (s[i]'hi).toNat = 43
  · exact refone_43 s i hi hs n43 w
  by_cases n63 : (s[i]'hi).toNat = 63
  · exact refone_63 s i hi hs n63 w
  by_cases n123 : (s[i]'hi).toNat = 123
  · exact refone_123 s i hi hs n123 w
  exact refone_other s i hi hs _ rfl n92 n91 n40 n41 n124 n46 n94 n36 n93 n125 n42 n43 n63 n123 w
end Go.Proofs.YtckoebfmoggeoaaDoor
/- The reference of layer 5: Scan. -/
namespace Go.Proofs.YtckoebfmoggeoaaDoor
set_option maxRecDepth 100000
open Go.RowKit
theorem elem_rtok : Elem Tryd.prog 70 87 10 80 := by
  obtain ⟨i, hi, h0, h1, h2⟩ := info_parts (by kernel_rfl : (Tryd.prog.info? 87).map (fun i => (i.zero, i.size, i.bytes)) = some (some (.agg #[.int .i64 0, .int .i64 0, .int .i64 0, .int .u64 0, .int .u64 0, .int .u64 0, .int .u64 0, .int .i64 0, .int .i64 0, .bool false]), 10, 80))
  exact ⟨i, _, Tryd.underlying70, hi, h0, h1, h2, rfl, by omega⟩
/-- What the reference's Scan answers. -/
def RScanIs (w : World) (base : Nat) (s : ByteArray) (lv : Value) (n : Int) (e : Nat) : Prop :=
  match scanM (bytesN s) with
    | .ok L _ => w.ownsRow base 87 10 lv L.length (toksC L) ∧ n = L.length ∧ e = 0
    | .err j k => lv = .slice none 0 0 ∧ n = ((j : Nat) : Int) ∧ e = k ∧ k ≠ 0
set_option maxRecDepth 100000 in
set_option maxHeartbeats 4000000 in
theorem refscan_at (s : ByteArray) (hs : s.size ≤ 1048576) (w : World) :
    Calls Tryd.prog 26 #[.string s] w fun v w' => ∃ lv n e, v = .returned (.tuple #[lv, .int .i64 n, .int .i64 ((e : Nat) : Int)]) ∧ RScanIs w' w.heap.size s lv n e ∧ Below w.heap.size w w' := by
  go_enter Tryd.func26, Tryd.ntmps26
  go_wp2_with fail
  go_loopw [5, 6] (fun lv iv wr => ∃ (i : Nat) (L : List (Tok × Nat × Nat)), iv = .int .i64 ((i : Nat) : Int) ∧ i ≤ s.size ∧ Hid (wr.ownsRow w.heap.size 87 10 lv L.length (toksC L)) ∧ Below w.heap.size w wr ∧ Hid (scanM (bytesN s) = scanFrom (bytesN s) i L) ∧ L.length ≤ i) (fun _ iv _ => s.size - (intOf iv).toNat)
  case atStart => exact ⟨0, [], rfl, Nat.zero_le _, Lib.hid (World.ownsRow_nil _ _ _ _), Below.refl _ _, Lib.hid rfl, Nat.le_refl 0⟩
  case round =>
    obtain ⟨i, L, rfl, hi, HO, hbw, HS, hL⟩ := hrel
    by_cases hlt : i < s.size
    · go_wp2_with fail
      refine (refone_at s i hlt hs _).mono ?_
      rintro v w1 ⟨x, j, e, rfl, hres, hb⟩
      have HR := Lib.hid hres
      have HO1 := Lib.hid (own_lives HO.out hb)
      have hb1 := hbw.trans (hb.mono hbw.size)
      have hbs := hbw.size
      have hbs1 := hb.size
      clear hres hb hbw HO
      by_cases he : e = 0
      · subst he
        obtain ⟨htok, _⟩ := tok_ok HR.out
        have hij := tokM_le htok
        rw [bytesN_length] at hij
        have HN := Lib.hid (scan_ok HS.out (by rw [bytesN_length]; exact hlt) htok)
        clear htok HR HS
        have st := ((St.nil w1).alloc rfl (tokL x i 0) 87).alloc (n := w1.heap.size + 1) (by simp) (endL j 0) 88
        unfold tokV
        go_upto_region 5 with fail
        generalize (w1.alloc _).alloc _ = w2 at *
        obtain ⟨⟨p0, p1, p2, p3, p4, p5, p6, p7, p8, p9⟩, r0, r1, r2, r3, r4, r5, r6, r7, r8, r9⟩ := st.ten 1 rfl
        obtain ⟨⟨q0, q1⟩, -⟩ := st.two 0 rfl
        go_upto_region 8 with fail
        have st2 := st.set 1 rfl 2 (.int .i64 ((j : Nat) : Int))
        simp only [List.set] at st2
        clear p0 p1 p2 p3 p4 p5 p6 p7 p8 p9 r0 r1 r2 r3 r4 r5 r6 r7 r8 r9 q0 q1 st
        generalize World.setCell _ _ _ = w3 at *
        obtain ⟨⟨p0, p1, p2, p3, p4, p5, p6, p7, p8, p9⟩, -⟩ := st2.ten 1 rfl
        have hs3 := st2.size
        have HO2 := Lib.hid (own_lives HO1.out st2.below)
        have HLT := Lib.hid (show ∀ k, u5.ownBlock = some k → k < w1.heap.size from fun k hk => (HO1.out.lt k hk).2)
        have hb2 := hb1.trans (st2.below.mono (by omega))
        clear HO1 hb1
        have hlen : L.length < 1048577 := by omega
        have hown2 := HO2.out
        have hw13 : w1.heap.size < w3.heap.size := (st2.get 1 rfl).lt
        have hw14 : w1.heap.size + 1 < w3.heap.size := (st2.get 0 rfl).lt
        have hst3 := (st2.two 0 rfl).1
        have HNB := Lib.hid (show ∀ k, u5.ownBlock = some k → k < w1.heap.size from HLT.out)
        have HE3 := Lib.hid (st2.get 0 rfl)
        clear hst3
        go_wp2_with (at_builtin; refine append_far rfl (.tmp 29) (.tmp 31) 70 rfl w.heap.size 87 10 80 elem_rtok _ _ _ rfl hown2 (tokL x i j) rfl rfl (one_tok x i j) ?h1 ?h2 ?h3 ?h4; (case h1 => omega); (case h2 => omega); (case h3 => omega); intro g5 cap5 w5 hown5 hmv; have hE5 : Blk w5 (w1.heap.size + 1) 88 (endL j 0) := (hmv.keep _ hw14 (fun e => by have := HNB.out _ e; omega)).trans HE3.out; obtain ⟨e0, e1, -, -⟩ := two_cells hE5)
        have hb5 := hmv.below hb2 (by omega) (fun k hk => (hown2.lt k hk).1)
        have HO5 := Lib.hid hown5
        have HB5 := Lib.hid hb5
        clear hown5 hown2 hmv HO2 hb2 hb5 hE5 p0 p1 p2 p3 p4 p5 p6 p7 p8 p9
        go_roundw
        case rel => exact ⟨j, L ++ [(x, i, j)], rfl, hij.2, Lib.hid (by rw [toksC_snoc]; simpa using HO5.out), HB5.out, HN, by simp; omega⟩
        case measure => simp [intOf]; omega
      · have htok := tok_err HR.out he
        have HN := Lib.hid (scan_err HS.out (by rw [bytesN_length]; exact hlt) htok)
        have he1 : (((e : Nat) : Int) != 0) = true := by rw [bne_iff_ne]; omega
        have he2 : (((e : Nat) : Int) == 0) = false := by rw [beq_eq_false_iff_ne]; omega
        have HE := Lib.hid he
        clear htok he HR HS
        unfold tokV
        go_wp2_with fail
        go_quiet (fail)
        go_wp2
        go_returns
        refine ⟨.slice none 0 0, ((j : Nat) : Int), e, rfl, ?_, below_drewN ((hb1.alloc (by omega) _).alloc (by simp; omega) _) _⟩
        unfold RScanIs
        rw [HN.out]
        exact ⟨rfl, rfl, rfl, HE.out⟩
    · have hii : i = s.size := by omega
      have HE := Lib.hid (show scanM (bytesN s) = .ok L i from HS.out.trans (scanFrom_end L (by rw [bytesN_length]; exact hlt) (by rw [bytesN_length]; exact hi)))
      rcases own_form HO.out with ⟨rfl, hz⟩ | ⟨b', cap, rfl⟩
      · have HZ := Lib.hid hz
        clear hz
        go_wp2
        go_returns
        refine ⟨.slice none 0 0, ((L.length : Nat) : Int), 0, (by rw [HZ.out]; rfl), ?_, hbw⟩
        unfold RScanIs
        rw [HE.out]
        exact ⟨HO.out, rfl, rfl⟩
      · go_wp2
        go_returns
        refine ⟨.slice (some ⟨b', 0, none⟩) L.length cap, ((L.length : Nat) : Int), 0, rfl, ?_, hbw⟩
        unfold RScanIs
        rw [HE.out]
        exact ⟨HO.out, rfl, rfl⟩
end Go.Proofs.YtckoebfmoggeoaaDoor
