/- The reference of layer 5: One: counts. -/
import Derived.Test.YtckoebfmoggeoaaDoorCc
namespace Go.Proofs.YtckoebfmoggeoaaDoor
set_option maxRecDepth 100000
open Go.RowKit
set_option maxRecDepth 100000 in
set_option maxHeartbeats 8000000 in
theorem refone_42 (s : ByteArray) (i : Nat) (hi : i < s.size) (hs : s.size ≤ 1048576) (hc : (s[i]'hi).toNat = 42) (w : World) :
    Calls Tryd.prog 41 #[.string s, .int .i64 ((i : Nat) : Int)] w fun v w' => ∃ (x : Tok) (j e : Nat), v = .returned (.tuple #[tokV x i 0, endV j e]) ∧ TokIs (tokM (bytesN s) i) x j e ∧ Below w.heap.size w w' := by
  have HC := Lib.hid (show (bytesN s)[i]? = some 42 by rw [get_at s hi, hc])
  go_enter Tryd.func41, Tryd.ntmps41
  go_upto_region 5 with fail
  have st := ((((St.nil w).alloc rfl [.int .i64 0, .int .i64 0, .int .i64 0, .int .u64 0, .int .u64 0, .int .u64 0, .int .u64 0, .int .i64 0, .int .i64 0, .bool false] 87).alloc (n := w.heap.size + 1) (by simp) [.int .i64 0, .int .i64 0] 88).alloc (n := w.heap.size + 2) (by simp) [.int .i64 (((i : Nat) : Int) + 1), .int .i64 0] 88).alloc (n := w.heap.size + 3) (by simp) [.int .i64 0, .int .i64 ((i : Nat) : Int), .int .i64 0, .int .u64 0, .int .u64 0, .int .u64 0, .int .u64 0, .int .i64 0, .int .i64 0, .bool false] 87
  generalize (((w.alloc _).alloc _).alloc _).alloc _ = wa at *
  go_wp2_with fail
  refine (refin_at _ 42 _ (by decide)).mono ?_
  rintro v w5 ⟨rfl, rfl⟩
  rename World => w0
  rw [show (bytesN { data := #[42, 43, 63, 123] }).contains 42 = true from rfl]
  obtain ⟨⟨p00, p01, p02, p03, p04, p05, p06, p07, p08, p09⟩, r00, r01, r02, r03, r04, r05, r06, r07, r08, r09⟩ := st.ten 0 rfl
  go_upto_region 38 with fail
  replace st := (st.set 0 rfl 0 (Value.int .i64 5))
  generalize World.setCell _ _ _ = wy at *
  replace st : St w _ [(w.heap.size + 3, 87, [.int .i64 5, .int .i64 ((i : Nat) : Int), .int .i64 0, .int .u64 0, .int .u64 0, .int .u64 0, .int .u64 0, .int .i64 0, .int .i64 0, .bool false]), (w.heap.size + 2, 88, [.int .i64 (((i : Nat) : Int) + 1), .int .i64 0]), (w.heap.size + 1, 88, [.int .i64 0, .int .i64 0]), (w.heap.size, 87, [.int .i64 0, .int .i64 0, .int .i64 0, .int .u64 0, .int .u64 0, .int .u64 0, .int .u64 0, .int .i64 0, .int .i64 0, .bool false])] := st
  clear p00 r00 p01 r01 p02 r02 p03 r03 p04 r04 p05 r05 p06 r06 p07 r07 p08 r08 p09 r09
  obtain ⟨⟨p00, p01, p02, p03, p04, p05, p06, p07, p08, p09⟩, r00, r01, r02, r03, r04, r05, r06, r07, r08, r09⟩ := st.ten 0 rfl
  go_upto_region 39 with fail
  replace st := (st.set 0 rfl 8 (Value.int .i64 (-1)))
  generalize World.setCell _ _ _ = wy at *
  replace st : St w _ [(w.heap.size + 3, 87, [.int .i64 5, .int .i64 ((i : Nat) : Int), .int .i64 0, .int .u64 0, .int .u64 0, .int .u64 0, .int .u64 0, .int .i64 0, .int .i64 (-1), .bool false]), (w.heap.size + 2, 88, [.int .i64 (((i : Nat) : Int) + 1), .int .i64 0]), (w.heap.size + 1, 88, [.int .i64 0, .int .i64 0]), (w.heap.size, 87, [.int .i64 0, .int .i64 0, .int .i64 0, .int .u64 0, .int .u64 0, .int .u64 0, .int .u64 0, .int .i64 0, .int .i64 0, .bool false])] := st
  clear p00 r00 p01 r01 p02 r02 p03 r03 p04 r04 p05 r05 p06 r06 p07 r07 p08 r08 p09 r09
  go_upto_region 46 with fail
  rcases (show s.size ≤ (i + 1) ∨ (∃ h : (i + 1) < s.size, (s[(i + 1)]'h).toNat ≠ 63) ∨ ∃ h : (i + 1) < s.size, (s[(i + 1)]'h).toNat = 63 from by
    rcases Nat.lt_or_ge ((i + 1)) s.size with h | h
    · by_cases h2 : (s[(i + 1)]'h).toNat = 63
      · exact .inr (.inr ⟨h, h2⟩)
      · exact .inr (.inl ⟨h, h2⟩)
    · exact .inl h) with hko | ⟨hki, hkn⟩ | ⟨hki, hke⟩
  · have hkD := Lib.hid (show (bytesN s)[(i + 1)]? ≠ some 63 from get_out hko)
    have hkD2 := Lib.hid hko
    have hkt : ¬(((i : Nat) : Int) + 1) < ((s.size : Nat) : Int) := by omega
    have hkt2 : ((s.size : Nat) : Int) ≤ (((i : Nat) : Int) + 1) := by omega
    obtain ⟨⟨p00, p01, p02, p03, p04, p05, p06, p07, p08, p09⟩, r00, r01, r02, r03, r04, r05, r06, r07, r08, r09⟩ := st.ten 0 rfl
    obtain ⟨⟨p10, p11⟩, r10, r11⟩ := st.two 1 rfl
    obtain ⟨⟨p20, p21⟩, r20, r21⟩ := st.two 2 rfl
    obtain ⟨⟨p30, p31, p32, p33, p34, p35, p36, p37, p38, p39⟩, r30, r31, r32, r33, r34, r35, r36, r37, r38, r39⟩ := st.ten 3 rfl
    go_wp2_with fail
    go_region
    all_goals
      have stz := ((st.all 3 rfl [.int .i64 5, .int .i64 ((i : Nat) : Int), .int .i64 0, .int .u64 0, .int .u64 0, .int .u64 0, .int .u64 0, .int .i64 0, .int .i64 (-1), .bool false] rfl).all 2 rfl [.int .i64 (((i : Nat) : Int) + 1), .int .i64 0] rfl).drew
      simp only [putCells, List.set] at stz
      generalize World.drew _ = wz at *
      clear p00 r00 p01 r01 p02 r02 p03 r03 p04 r04 p05 r05 p06 r06 p07 r07 p08 r08 p09 r09 p10 r10 p11 r11 p20 r20 p21 r21 p30 r30 p31 r31 p32 r32 p33 r33 p34 r34 p35 r35 p36 r36 p37 r37 p38 r38 p39 r39
      go_wp2
      refine ret_tokend (x := ⟨5, noSet, 0, (-1), false⟩) (f := i) (b := w.heap.size) (b' := w.heap.size + 1) (j := (i + 1)) (e := 0) rfl rfl rfl (by rw [tokL_noset]; exact stz.get 3 rfl) (stz.get 2 rfl) rfl ⟨⟨5, noSet, 0, (-1), false⟩, (i + 1), 0, rfl, ?_, stz.below⟩
      rw [show tokM (bytesN s) i = lazyM (bytesN s) 0 (-1) (i + 1) from by unfold tokM; rw [HC.out]; rfl]
      rw [lazy_no hkD.out (get_out hkD2.out)]
      exact ⟨rfl, rfl, rfl⟩
  · have hkD := Lib.hid (show (bytesN s)[(i + 1)]? ≠ some 63 from get_ne hki hkn)
    have hkt : (((i : Nat) : Int) + 1) < ((s.size : Nat) : Int) := by omega
    have hkq : ((((s[(i + 1)]'hki).toNat : Nat) : Int) == 63) = false := by rw [beq_eq_false_iff_ne]; omega
    have hkp : ((((s[(i + 1)]'hki).toNat : Nat) : Int) != 63) = true := by rw [bne_iff_ne]; omega
    clear hkn
    rcases (show s.size ≤ (i + 1) ∨ (∃ h : (i + 1) < s.size, (s[(i + 1)]'h).toNat ≠ 43) ∨ ∃ h : (i + 1) < s.size, (s[(i + 1)]'h).toNat = 43 from by
      rcases Nat.lt_or_ge ((i + 1)) s.size with h | h
      · by_cases h2 : (s[(i + 1)]'h).toNat = 43
        · exact .inr (.inr ⟨h, h2⟩)
        · exact .inr (.inl ⟨h, h2⟩)
      · exact .inl h) with hmo | ⟨hmi, hmn⟩ | ⟨hmi, hme⟩
    · have hmD := Lib.hid (show (bytesN s)[(i + 1)]? ≠ some 43 from get_out hmo)
      have hmD2 := Lib.hid hmo
      have hmt : ¬(((i : Nat) : Int) + 1) < ((s.size : Nat) : Int) := by omega
      have hmt2 : ((s.size : Nat) : Int) ≤ (((i : Nat) : Int) + 1) := by omega
      omega
    · have hmD := Lib.hid (show (bytesN s)[(i + 1)]? ≠ some 43 from get_ne hmi hmn)
      have hmt : (((i : Nat) : Int) + 1) < ((s.size : Nat) : Int) := by omega
      have hmq : ((((s[(i + 1)]'hmi).toNat : Nat) : Int) == 43) = false := by rw [beq_eq_false_iff_ne]; omega
      have hmp : ((((s[(i + 1)]'hmi).toNat : Nat) : Int) != 43) = true := by rw [bne_iff_ne]; omega
      clear hmn
      obtain ⟨⟨p00, p01, p02, p03, p04, p05, p06, p07, p08, p09⟩, r00, r01, r02, r03, r04, r05, r06, r07, r08, r09⟩ := st.ten 0 rfl
      obtain ⟨⟨p10, p11⟩, r10, r11⟩ := st.two 1 rfl
      obtain ⟨⟨p20, p21⟩, r20, r21⟩ := st.two 2 rfl
      obtain ⟨⟨p30, p31, p32, p33, p34, p35, p36, p37, p38, p39⟩, r30, r31, r32, r33, r34, r35, r36, r37, r38, r39⟩ := st.ten 3 rfl
      go_wp2_with fail
      go_region
      all_goals
        have stz := ((st.all 3 rfl [.int .i64 5, .int .i64 ((i : Nat) : Int), .int .i64 0, .int .u64 0, .int .u64 0, .int .u64 0, .int .u64 0, .int .i64 0, .int .i64 (-1), .bool false] rfl).all 2 rfl [.int .i64 (((i : Nat) : Int) + 1), .int .i64 0] rfl).drew
        simp only [putCells, List.set] at stz
        generalize World.drew _ = wz at *
        clear p00 r00 p01 r01 p02 r02 p03 r03 p04 r04 p05 r05 p06 r06 p07 r07 p08 r08 p09 r09 p10 r10 p11 r11 p20 r20 p21 r21 p30 r30 p31 r31 p32 r32 p33 r33 p34 r34 p35 r35 p36 r36 p37 r37 p38 r38 p39 r39
        go_wp2
        refine ret_tokend (x := ⟨5, noSet, 0, (-1), false⟩) (f := i) (b := w.heap.size) (b' := w.heap.size + 1) (j := (i + 1)) (e := 0) rfl rfl rfl (by rw [tokL_noset]; exact stz.get 3 rfl) (stz.get 2 rfl) rfl ⟨⟨5, noSet, 0, (-1), false⟩, (i + 1), 0, rfl, ?_, stz.below⟩
        rw [show tokM (bytesN s) i = lazyM (bytesN s) 0 (-1) (i + 1) from by unfold tokM; rw [HC.out]; rfl]
        rw [lazy_no hkD.out hmD.out]
        exact ⟨rfl, rfl, rfl⟩
    · have hmD := Lib.hid (show (bytesN s)[(i + 1)]? = some 43 by rw [get_at s hmi, hme])
      have hmE := Lib.hid hme
      have hmt : (((i : Nat) : Int) + 1) < ((s.size : Nat) : Int) := by omega
      have hmq : ((((s[(i + 1)]'hmi).toNat : Nat) : Int) == 43) = true := by rw [beq_iff_eq]; omega
      have hmp : ((((s[(i + 1)]'hmi).toNat : Nat) : Int) != 43) = false := by rw [bne_eq_false_iff_eq]; omega
      clear hme
      obtain ⟨⟨p10, p11⟩, r10, r11⟩ := st.two 1 rfl
      go_upto_region 53 with fail
      replace st := (st.set 1 rfl 1 (Value.int .i64 6))
      generalize World.setCell _ _ _ = wy at *
      replace st : St w _ [(w.heap.size + 3, 87, [.int .i64 5, .int .i64 ((i : Nat) : Int), .int .i64 0, .int .u64 0, .int .u64 0, .int .u64 0, .int .u64 0, .int .i64 0, .int .i64 (-1), .bool false]), (w.heap.size + 2, 88, [.int .i64 (((i : Nat) : Int) + 1), .int .i64 6]), (w.heap.size + 1, 88, [.int .i64 0, .int .i64 0]), (w.heap.size, 87, [.int .i64 0, .int .i64 0, .int .i64 0, .int .u64 0, .int .u64 0, .int .u64 0, .int .u64 0, .int .i64 0, .int .i64 0, .bool false])] := st
      clear p10 r10 p11 r11
      obtain ⟨⟨p00, p01, p02, p03, p04, p05, p06, p07, p08, p09⟩, r00, r01, r02, r03, r04, r05, r06, r07, r08, r09⟩ := st.ten 0 rfl
      obtain ⟨⟨p10, p11⟩, r10, r11⟩ := st.two 1 rfl
      obtain ⟨⟨p20, p21⟩, r20, r21⟩ := st.two 2 rfl
      obtain ⟨⟨p30, p31, p32, p33, p34, p35, p36, p37, p38, p39⟩, r30, r31, r32, r33, r34, r35, r36, r37, r38, r39⟩ := st.ten 3 rfl
      go_wp2_with fail
      go_region
      all_goals
        have stz := ((st.all 3 rfl [.int .i64 5, .int .i64 ((i : Nat) : Int), .int .i64 0, .int .u64 0, .int .u64 0, .int .u64 0, .int .u64 0, .int .i64 0, .int .i64 (-1), .bool false] rfl).all 2 rfl [.int .i64 (((i : Nat) : Int) + 1), .int .i64 6] rfl).drew
        simp only [putCells, List.set] at stz
        generalize World.drew _ = wz at *
        clear p00 r00 p01 r01 p02 r02 p03 r03 p04 r04 p05 r05 p06 r06 p07 r07 p08 r08 p09 r09 p10 r10 p11 r11 p20 r20 p21 r21 p30 r30 p31 r31 p32 r32 p33 r33 p34 r34 p35 r35 p36 r36 p37 r37 p38 r38 p39 r39
        go_wp2
        refine ret_tokend (x := ⟨5, noSet, 0, (-1), false⟩) (f := i) (b := w.heap.size) (b' := w.heap.size + 1) (j := (i + 1)) (e := 6) rfl rfl rfl (by rw [tokL_noset]; exact stz.get 3 rfl) (stz.get 2 rfl) rfl ⟨⟨5, noSet, 0, (-1), false⟩, (i + 1), 6, rfl, ?_, stz.below⟩
        rw [show tokM (bytesN s) i = lazyM (bytesN s) 0 (-1) (i + 1) from by unfold tokM; rw [HC.out]; rfl]
        rw [lazy_plus hmD.out]
        exact ⟨rfl, rfl, by omega⟩
  · have hkD := Lib.hid (show (bytesN s)[(i + 1)]? = some 63 by rw [get_at s hki, hke])
    have hkE := Lib.hid hke
    have hkt : (((i : Nat) : Int) + 1) < ((s.size : Nat) : Int) := by omega
    have hkq : ((((s[(i + 1)]'hki).toNat : Nat) : Int) == 63) = true := by rw [beq_iff_eq]; omega
    have hkp : ((((s[(i + 1)]'hki).toNat : Nat) : Int) != 63) = false := by rw [bne_eq_false_iff_eq]; omega
    clear hke
    obtain ⟨⟨p10, p11⟩, r10, r11⟩ := st.two 1 rfl
    obtain ⟨⟨p00, p01, p02, p03, p04, p05, p06, p07, p08, p09⟩, r00, r01, r02, r03, r04, r05, r06, r07, r08, r09⟩ := st.ten 0 rfl
    go_upto_region 50 with fail
    replace st := (st.set 0 rfl 9 (Value.bool true))
    generalize World.setCell _ _ _ = wy at *
    replace st : St w _ [(w.heap.size + 3, 87, [.int .i64 5, .int .i64 ((i : Nat) : Int), .int .i64 0, .int .u64 0, .int .u64 0, .int .u64 0, .int .u64 0, .int .i64 0, .int .i64 (-1), .bool true]), (w.heap.size + 2, 88, [.int .i64 (((i : Nat) : Int) + 1), .int .i64 0]), (w.heap.size + 1, 88, [.int .i64 0, .int .i64 0]), (w.heap.size, 87, [.int .i64 0, .int .i64 0, .int .i64 0, .int .u64 0, .int .u64 0, .int .u64 0, .int .u64 0, .int .i64 0, .int .i64 0, .bool false])] := st
    clear p00 r00 p01 r01 p02 r02 p03 r03 p04 r04 p05 r05 p06 r06 p07 r07 p08 r08 p09 r09
    clear p10 r10 p11 r11
    obtain ⟨⟨p10, p11⟩, r10, r11⟩ := st.two 1 rfl
    go_upto_region 51 with fail
    replace st := (st.set 1 rfl 0 (Value.int .i64 ((((i : Nat) : Int) + 1) + 1)))
    generalize World.setCell _ _ _ = wy at *
    replace st : St w _ [(w.heap.size + 3, 87, [.int .i64 5, .int .i64 ((i : Nat) : Int), .int .i64 0, .int .u64 0, .int .u64 0, .int .u64 0, .int .u64 0, .int .i64 0, .int .i64 (-1), .bool true]), (w.heap.size + 2, 88, [.int .i64 ((((i : Nat) : Int) + 1) + 1), .int .i64 0]), (w.heap.size + 1, 88, [.int .i64 0, .int .i64 0]), (w.heap.size, 87, [.int .i64 0, .int .i64 0, .int .i64 0, .int .u64 0, .int .u64 0, .int .u64 0, .int .u64 0, .int .i64 0, .int .i64 0, .bool false])] := st
    clear p10 r10 p11 r11
    rcases (show s.size ≤ (i + 1) + 1 ∨ (∃ h : (i + 1) + 1 < s.size, (s[(i + 1) + 1]'h).toNat ≠ 43) ∨ ∃ h : (i + 1) + 1 < s.size, (s[(i + 1) + 1]'h).toNat = 43 from by
      rcases Nat.lt_or_ge ((i + 1) + 1) s.size with h | h
      · by_cases h2 : (s[(i + 1) + 1]'h).toNat = 43
        · exact .inr (.inr ⟨h, h2⟩)
        · exact .inr (.inl ⟨h, h2⟩)
      · exact .inl h) with hmo | ⟨hmi, hmn⟩ | ⟨hmi, hme⟩
    · have hmD := Lib.hid (show (bytesN s)[(i + 1) + 1]? ≠ some 43 from get_out hmo)
      have hmD2 := Lib.hid hmo
      have hmt : ¬(((i : Nat) : Int) + 1) + 1 < ((s.size : Nat) : Int) := by omega
      have hmt2 : ((s.size : Nat) : Int) ≤ (((i : Nat) : Int) + 1) + 1 := by omega
      obtain ⟨⟨p00, p01, p02, p03, p04, p05, p06, p07, p08, p09⟩, r00, r01, r02, r03, r04, r05, r06, r07, r08, r09⟩ := st.ten 0 rfl
      obtain ⟨⟨p10, p11⟩, r10, r11⟩ := st.two 1 rfl
      obtain ⟨⟨p20, p21⟩, r20, r21⟩ := st.two 2 rfl
      obtain ⟨⟨p30, p31, p32, p33, p34, p35, p36, p37, p38, p39⟩, r30, r31, r32, r33, r34, r35, r36, r37, r38, r39⟩ := st.ten 3 rfl
      go_wp2_with fail
      go_region
      all_goals
        have stz := ((st.all 3 rfl [.int .i64 5, .int .i64 ((i : Nat) : Int), .int .i64 0, .int .u64 0, .int .u64 0, .int .u64 0, .int .u64 0, .int .i64 0, .int .i64 (-1), .bool true] rfl).all 2 rfl [.int .i64 ((((i : Nat) : Int) + 1) + 1), .int .i64 0] rfl).drew
        simp only [putCells, List.set] at stz
        generalize World.drew _ = wz at *
        clear p00 r00 p01 r01 p02 r02 p03 r03 p04 r04 p05 r05 p06 r06 p07 r07 p08 r08 p09 r09 p10 r10 p11 r11 p20 r20 p21 r21 p30 r30 p31 r31 p32 r32 p33 r33 p34 r34 p35 r35 p36 r36 p37 r37 p38 r38 p39 r39
        go_wp2
        refine ret_tokend (x := ⟨5, noSet, 0, (-1), true⟩) (f := i) (b := w.heap.size) (b' := w.heap.size + 1) (j := ((i + 1) + 1)) (e := 0) rfl rfl rfl (by rw [tokL_noset]; exact stz.get 3 rfl) (stz.get 2 rfl) rfl ⟨⟨5, noSet, 0, (-1), true⟩, ((i + 1) + 1), 0, rfl, ?_, stz.below⟩
        rw [show tokM (bytesN s) i = lazyM (bytesN s) 0 (-1) (i + 1) from by unfold tokM; rw [HC.out]; rfl]
        rw [lazy_yes hkD.out hmD.out]
        exact ⟨rfl, rfl, rfl⟩
    · have hmD := Lib.hid (show (bytesN s)[(i + 1) + 1]? ≠ some 43 from get_ne hmi hmn)
      have hmt : (((i : Nat) : Int) + 1) + 1 < ((s.size : Nat) : Int) := by omega
      have hmq : ((((s[(i + 1) + 1]'hmi).toNat : Nat) : Int) == 43) = false := by rw [beq_eq_false_iff_ne]; omega
      have hmp : ((((s[(i + 1) + 1]'hmi).toNat : Nat) : Int) != 43) = true := by rw [bne_iff_ne]; omega
      clear hmn
      obtain ⟨⟨p00, p01, p02, p03, p04, p05, p06, p07, p08, p09⟩, r00, r01, r02, r03, r04, r05, r06, r07, r08, r09⟩ := st.ten 0 rfl
      obtain ⟨⟨p10, p11⟩, r10, r11⟩ := st.two 1 rfl
      obtain ⟨⟨p20, p21⟩, r20, r21⟩ := st.two 2 rfl
      obtain ⟨⟨p30, p31, p32, p33, p34, p35, p36, p37, p38, p39⟩, r30, r31, r32, r33, r34, r35, r36, r37, r38, r39⟩ := st.ten 3 rfl
      go_wp2_with fail
      go_region
      all_goals
        have stz := ((st.all 3 rfl [.int .i64 5, .int .i64 ((i : Nat) : Int), .int .i64 0, .int .u64 0, .int .u64 0, .int .u64 0, .int .u64 0, .int .i64 0, .int .i64 (-1), .bool true] rfl).all 2 rfl [.int .i64 ((((i : Nat) : Int) + 1) + 1), .int .i64 0] rfl).drew
        simp only [putCells, List.set] at stz
        generalize World.drew _ = wz at *
        clear p00 r00 p01 r01 p02 r02 p03 r03 p04 r04 p05 r05 p06 r06 p07 r07 p08 r08 p09 r09 p10 r10 p11 r11 p20 r20 p21 r21 p30 r30 p31 r31 p32 r32 p33 r33 p34 r34 p35 r35 p36 r36 p37 r37 p38 r38 p39 r39
        go_wp2
        refine ret_tokend (x := ⟨5, noSet, 0, (-1), true⟩) (f := i) (b := w.heap.size) (b' := w.heap.size + 1) (j := ((i + 1) + 1)) (e := 0) rfl rfl rfl (by rw [tokL_noset]; exact stz.get 3 rfl) (stz.get 2 rfl) rfl ⟨⟨5, noSet, 0, (-1), true⟩, ((i + 1) + 1), 0, rfl, ?_, stz.below⟩
        rw [show tokM (bytesN s) i = lazyM (bytesN s) 0 (-1) (i + 1) from by unfold tokM; rw [HC.out]; rfl]
        rw [lazy_yes hkD.out hmD.out]
        exact ⟨rfl, rfl, rfl⟩
    · have hmD := Lib.hid (show (bytesN s)[(i + 1) + 1]? = some 43 by rw [get_at s hmi, hme])
      have hmE := Lib.hid hme
      have hmt : (((i : Nat) : Int) + 1) + 1 < ((s.size : Nat) : Int) := by omega
      have hmq : ((((s[(i + 1) + 1]'hmi).toNat : Nat) : Int) == 43) = true := by rw [beq_iff_eq]; omega
      have hmp : ((((s[(i + 1) + 1]'hmi).toNat : Nat) : Int) != 43) = false := by rw [bne_eq_false_iff_eq]; omega
      clear hme
      obtain ⟨⟨p10, p11⟩, r10, r11⟩ := st.two 1 rfl
      go_upto_region 53 with fail
      replace st := (st.set 1 rfl 1 (Value.int .i64 6))
      generalize World.setCell _ _ _ = wy at *
      replace st : St w _ [(w.heap.size + 3, 87, [.int .i64 5, .int .i64 ((i : Nat) : Int), .int .i64 0, .int .u64 0, .int .u64 0, .int .u64 0, .int .u64 0, .int .i64 0, .int .i64 (-1), .bool true]), (w.heap.size + 2, 88, [.int .i64 ((((i : Nat) : Int) + 1) + 1), .int .i64 6]), (w.heap.size + 1, 88, [.int .i64 0, .int .i64 0]), (w.heap.size, 87, [.int .i64 0, .int .i64 0, .int .i64 0, .int .u64 0, .int .u64 0, .int .u64 0, .int .u64 0, .int .i64 0, .int .i64 0, .bool false])] := st
      clear p10 r10 p11 r11
      obtain ⟨⟨p00, p01, p02, p03, p04, p05, p06, p07, p08, p09⟩, r00, r01, r02, r03, r04, r05, r06, r07, r08, r09⟩ := st.ten 0 rfl
      obtain ⟨⟨p10, p11⟩, r10, r11⟩ := st.two 1 rfl
      obtain ⟨⟨p20, p21⟩, r20, r21⟩ := st.two 2 rfl
      obtain ⟨⟨p30, p31, p32, p33, p34, p35, p36, p37, p38, p39⟩, r30, r31, r32, r33, r34, r35, r36, r37, r38, r39⟩ := st.ten 3 rfl
      go_wp2_with fail
      go_region
      all_goals
        have stz := ((st.all 3 rfl [.int .i64 5, .int .i64 ((i : Nat) : Int), .int .i64 0, .int .u64 0, .int .u64 0, .int .u64 0, .int .u64 0, .int .i64 0, .int .i64 (-1), .bool true] rfl).all 2 rfl [.int .i64 ((((i : Nat) : Int) + 1) + 1), .int .i64 6] rfl).drew
        simp only [putCells, List.set] at stz
        generalize World.drew _ = wz at *
        clear p00 r00 p01 r01 p02 r02 p03 r03 p04 r04 p05 r05 p06 r06 p07 r07 p08 r08 p09 r09 p10 r10 p11 r11 p20 r20 p21 r21 p30 r30 p31 r31 p32 r32 p33 r33 p34 r34 p35 r35 p36 r36 p37 r37 p38 r38 p39 r39
        go_wp2
        refine ret_tokend (x := ⟨5, noSet, 0, (-1), true⟩) (f := i) (b := w.heap.size) (b' := w.heap.size + 1) (j := ((i + 1) + 1)) (e := 6) rfl rfl rfl (by rw [tokL_noset]; exact stz.get 3 rfl) (stz.get 2 rfl) rfl ⟨⟨5, noSet, 0, (-1), true⟩, ((i + 1) + 1), 6, rfl, ?_, stz.below⟩
        rw [show tokM (bytesN s) i = lazyM (bytesN s) 0 (-1) (i + 1) from by unfold tokM; rw [HC.out]; rfl]
        rw [lazy_yesplus hkD.out hmD.out]
        exact ⟨rfl, rfl, by omega⟩
set_option maxRecDepth 100000 in
set_option maxHeartbeats 8000000 in
theorem refone_43 (s : ByteArray) (i : Nat) (hi : i < s.size) (hs : s.size ≤ 1048576) (hc : (s[i]'hi).toNat = 43) (w : World) :
    Calls Tryd.prog 41 #[.string s, .int .i64 ((i : Nat) : Int)] w fun v w' => ∃ (x : Tok) (j e : Nat), v = .returned (.tuple #[tokV x i 0, endV j e]) ∧ TokIs (tokM (bytesN s) i) x j e ∧ Below w.heap.size w w' := by
  have HC := Lib.hid (show (bytesN s)[i]? = some 43 by rw [get_at s hi, hc])
  go_enter Tryd.func41, Tryd.ntmps41
  go_upto_region 5 with fail
  have st := ((((St.nil w).alloc rfl [.int .i64 0, .int .i64 0, .int .i64 0, .int .u64 0, .int .u64 0, .int .u64 0, .int .u64 0, .int .i64 0, .int .i64 0, .bool false] 87).alloc (n := w.heap.size + 1) (by simp) [.int .i64 0, .int .i64 0] 88).alloc (n := w.heap.size + 2) (by simp) [.int .i64 (((i : Nat) : Int) + 1), .int .i64 0] 88).alloc (n := w.heap.size + 3) (by simp) [.int .i64 0, .int .i64 ((i : Nat) : Int), .int .i64 0, .int .u64 0, .int .u64 0, .int .u64 0, .int .u64 0, .int .i64 0, .int .i64 0, .bool false] 87
  generalize (((w.alloc _).alloc _).alloc _).alloc _ = wa at *
  go_wp2_with fail
  refine (refin_at _ 43 _ (by decide)).mono ?_
  rintro v w5 ⟨rfl, rfl⟩
  rename World => w0
  rw [show (bytesN { data := #[42, 43, 63, 123] }).contains 43 = true from rfl]
  obtain ⟨⟨p00, p01, p02, p03, p04, p05, p06, p07, p08, p09⟩, r00, r01, r02, r03, r04, r05, r06, r07, r08, r09⟩ := st.ten 0 rfl
  go_upto_region 38 with fail
  replace st := (st.set 0 rfl 0 (Value.int .i64 5))
  generalize World.setCell _ _ _ = wy at *
  replace st : St w _ [(w.heap.size + 3, 87, [.int .i64 5, .int .i64 ((i : Nat) : Int), .int .i64 0, .int .u64 0, .int .u64 0, .int .u64 0, .int .u64 0, .int .i64 0, .int .i64 0, .bool false]), (w.heap.size + 2, 88, [.int .i64 (((i : Nat) : Int) + 1), .int .i64 0]), (w.heap.size + 1, 88, [.int .i64 0, .int .i64 0]), (w.heap.size, 87, [.int .i64 0, .int .i64 0, .int .i64 0, .int .u64 0, .int .u64 0, .int .u64 0, .int .u64 0, .int .i64 0, .int .i64 0, .bool false])] := st
  clear p00 r00 p01 r01 p02 r02 p03 r03 p04 r04 p05 r05 p06 r06 p07 r07 p08 r08 p09 r09
  obtain ⟨⟨p00, p01, p02, p03, p04, p05, p06, p07, p08, p09⟩, r00, r01, r02, r03, r04, r05, r06, r07, r08, r09⟩ := st.ten 0 rfl
  go_upto_region 39 with fail
  replace st := (st.set 0 rfl 8 (Value.int .i64 (-1)))
  generalize World.setCell _ _ _ = wy at *
  replace st : St w _ [(w.heap.size + 3, 87, [.int .i64 5, .int .i64 ((i : Nat) : Int), .int .i64 0, .int .u64 0, .int .u64 0, .int .u64 0, .int .u64 0, .int .i64 0, .int .i64 (-1), .bool false]), (w.heap.size + 2, 88, [.int .i64 (((i : Nat) : Int) + 1), .int .i64 0]), (w.heap.size + 1, 88, [.int .i64 0, .int .i64 0]), (w.heap.size, 87, [.int .i64 0, .int .i64 0, .int .i64 0, .int .u64 0, .int .u64 0, .int .u64 0, .int .u64 0, .int .i64 0, .int .i64 0, .bool false])] := st
  clear p00 r00 p01 r01 p02 r02 p03 r03 p04 r04 p05 r05 p06 r06 p07 r07 p08 r08 p09 r09
  obtain ⟨⟨p00, p01, p02, p03, p04, p05, p06, p07, p08, p09⟩, r00, r01, r02, r03, r04, r05, r06, r07, r08, r09⟩ := st.ten 0 rfl
  go_upto_region 46 with fail
  replace st := (st.set 0 rfl 7 (Value.int .i64 1))
  generalize World.setCell _ _ _ = wy at *
  replace st : St w _ [(w.heap.size + 3, 87, [.int .i64 5, .int .i64 ((i : Nat) : Int), .int .i64 0, .int .u64 0, .int .u64 0, .int .u64 0, .int .u64 0, .int .i64 1, .int .i64 (-1), .bool false]), (w.heap.size + 2, 88, [.int .i64 (((i : Nat) : Int) + 1), .int .i64 0]), (w.heap.size + 1, 88, [.int .i64 0, .int .i64 0]), (w.heap.size, 87, [.int .i64 0, .int .i64 0, .int .i64 0, .int .u64 0, .int .u64 0, .int .u64 0, .int .u64 0, .int .i64 0, .int .i64 0, .bool false])] := st
  clear p00 r00 p01 r01 p02 r02 p03 r03 p04 r04 p05 r05 p06 r06 p07 r07 p08 r08 p09 r09
  rcases (show s.size ≤ (i + 1) ∨ (∃ h : (i + 1) < s.size, (s[(i + 1)]'h).toNat ≠ 63) ∨ ∃ h : (i + 1) < s.size, (s[(i + 1)]'h).toNat = 63 from by
    rcases Nat.lt_or_ge ((i + 1)) s.size with h | h
    · by_cases h2 : (s[(i + 1)]'h).toNat = 63
      · exact .inr (.inr ⟨h, h2⟩)
      · exact .inr (.inl ⟨h, h2⟩)
    · exact .inl h) with hko | ⟨hki, hkn⟩ | ⟨hki, hke⟩
  · have hkD := Lib.hid (show (bytesN s)[(i + 1)]? ≠ some 63 from get_out hko)
    have hkD2 := Lib.hid hko
    have hkt : ¬(((i : Nat) : Int) + 1) < ((s.size : Nat) : Int) := by omega
    have hkt2 : ((s.size : Nat) : Int) ≤ (((i : Nat) : Int) + 1) := by omega
    obtain ⟨⟨p00, p01, p02, p03, p04, p05, p06, p07, p08, p09⟩, r00, r01, r02, r03, r04, r05, r06, r07, r08, r09⟩ := st.ten 0 rfl
    obtain ⟨⟨p10, p11⟩, r10, r11⟩ := st.two 1 rfl
    obtain ⟨⟨p20, p21⟩, r20, r21⟩ := st.two 2 rfl
    obtain ⟨⟨p30, p31, p32, p33, p34, p35, p36, p37, p38, p39⟩, r30, r31, r32, r33, r34, r35, r36, r37, r38, r39⟩ := st.ten 3 rfl
    go_wp2_with fail
    go_region
    all_goals
      have stz := ((st.all 3 rfl [.int .i64 5, .int .i64 ((i : Nat) : Int), .int .i64 0, .int .u64 0, .int .u64 0, .int .u64 0, .int .u64 0, .int .i64 1, .int .i64 (-1), .bool false] rfl).all 2 rfl [.int .i64 (((i : Nat) : Int) + 1), .int .i64 0] rfl).drew
      simp only [putCells, List.set] at stz
      generalize World.drew _ = wz at *
      clear p00 r00 p01 r01 p02 r02 p03 r03 p04 r04 p05 r05 p06 r06 p07 r07 p08 r08 p09 r09 p10 r10 p11 r11 p20 r20 p21 r21 p30 r30 p31 r31 p32 r32 p33 r33 p34 r34 p35 r35 p36 r36 p37 r37 p38 r38 p39 r39
      go_wp2
      refine ret_tokend (x := ⟨5, noSet, 1, (-1), false⟩) (f := i) (b := w.heap.size) (b' := w.heap.size + 1) (j := (i + 1)) (e := 0) rfl rfl rfl (by rw [tokL_noset]; exact stz.get 3 rfl) (stz.get 2 rfl) rfl ⟨⟨5, noSet, 1, (-1), false⟩, (i + 1), 0, rfl, ?_, stz.below⟩
      rw [show tokM (bytesN s) i = lazyM (bytesN s) 1 (-1) (i + 1) from by unfold tokM; rw [HC.out]; rfl]
      rw [lazy_no hkD.out (get_out hkD2.out)]
      exact ⟨rfl, rfl, rfl⟩
  · have hkD := Lib.hid (show (bytesN s)[(i + 1)]? ≠ some 63 from get_ne hki hkn)
    have hkt : (((i : Nat) : Int) + 1) < ((s.size : Nat) : Int) := by omega
    have hkq : ((((s[(i + 1)]'hki).toNat : Nat) : Int) == 63) = false := by rw [beq_eq_false_iff_ne]; omega
    have hkp : ((((s[(i + 1)]'hki).toNat : Nat) : Int) != 63) = true := by rw [bne_iff_ne]; omega
    clear hkn
    rcases (show s.size ≤ (i + 1) ∨ (∃ h : (i + 1) < s.size, (s[(i + 1)]'h).toNat ≠ 43) ∨ ∃ h : (i + 1) < s.size, (s[(i + 1)]'h).toNat = 43 from by
      rcases Nat.lt_or_ge ((i + 1)) s.size with h | h
      · by_cases h2 : (s[(i + 1)]'h).toNat = 43
        · exact .inr (.inr ⟨h, h2⟩)
        · exact .inr (.inl ⟨h, h2⟩)
      · exact .inl h) with hmo | ⟨hmi, hmn⟩ | ⟨hmi, hme⟩
    · have hmD := Lib.hid (show (bytesN s)[(i + 1)]? ≠ some 43 from get_out hmo)
      have hmD2 := Lib.hid hmo
      have hmt : ¬(((i : Nat) : Int) + 1) < ((s.size : Nat) : Int) := by omega
      have hmt2 : ((s.size : Nat) : Int) ≤ (((i : Nat) : Int) + 1) := by omega
      omega
    · have hmD := Lib.hid (show (bytesN s)[(i + 1)]? ≠ some 43 from get_ne hmi hmn)
      have hmt : (((i : Nat) : Int) + 1) < ((s.size : Nat) : Int) := by omega
      have hmq : ((((s[(i + 1)]'hmi).toNat : Nat) : Int) == 43) = false := by rw [beq_eq_false_iff_ne]; omega
      have hmp : ((((s[(i + 1)]'hmi).toNat : Nat) : Int) != 43) = true := by rw [bne_iff_ne]; omega
      clear hmn
      obtain ⟨⟨p00, p01, p02, p03, p04, p05, p06, p07, p08, p09⟩, r00, r01, r02, r03, r04, r05, r06, r07, r08, r09⟩ := st.ten 0 rfl
      obtain ⟨⟨p10, p11⟩, r10, r11⟩ := st.two 1 rfl
      obtain ⟨⟨p20, p21⟩, r20, r21⟩ := st.two 2 rfl
      obtain ⟨⟨p30, p31, p32, p33, p34, p35, p36, p37, p38, p39⟩, r30, r31, r32, r33, r34, r35, r36, r37, r38, r39⟩ := st.ten 3 rfl
      go_wp2_with fail
      go_region
      all_goals
        have stz := ((st.all 3 rfl [.int .i64 5, .int .i64 ((i : Nat) : Int), .int .i64 0, .int .u64 0, .int .u64 0, .int .u64 0, .int .u64 0, .int .i64 1, .int .i64 (-1), .bool false] rfl).all 2 rfl [.int .i64 (((i : Nat) : Int) + 1), .int .i64 0] rfl).drew
        simp only [putCells, List.set] at stz
        generalize World.drew _ = wz at *
        clear p00 r00 p01 r01 p02 r02 p03 r03 p04 r04 p05 r05 p06 r06 p07 r07 p08 r08 p09 r09 p10 r10 p11 r11 p20 r20 p21 r21 p30 r30 p31 r31 p32 r32 p33 r33 p34 r34 p35 r35 p36 r36 p37 r37 p38 r38 p39 r39
        go_wp2
        refine ret_tokend (x := ⟨5, noSet, 1, (-1), false⟩) (f := i) (b := w.heap.size) (b' := w.heap.size + 1) (j := (i + 1)) (e := 0) rfl rfl rfl (by rw [tokL_noset]; exact stz.get 3 rfl) (stz.get 2 rfl) rfl ⟨⟨5, noSet, 1, (-1), false⟩, (i + 1), 0, rfl, ?_, stz.below⟩
        rw [show tokM (bytesN s) i = lazyM (bytesN s) 1 (-1) (i + 1) from by unfold tokM; rw [HC.out]; rfl]
        rw [lazy_no hkD.out hmD.out]
        exact ⟨rfl, rfl, rfl⟩
    · have hmD := Lib.hid (show (bytesN s)[(i + 1)]? = some 43 by rw [get_at s hmi, hme])
      have hmE := Lib.hid hme
      have hmt : (((i : Nat) : Int) + 1) < ((s.size : Nat) : Int) := by omega
      have hmq : ((((s[(i + 1)]'hmi).toNat : Nat) : Int) == 43) = true := by rw [beq_iff_eq]; omega
      have hmp : ((((s[(i + 1)]'hmi).toNat : Nat) : Int) != 43) = false := by rw [bne_eq_false_iff_eq]; omega
      clear hme
      obtain ⟨⟨p10, p11⟩, r10, r11⟩ := st.two 1 rfl
      go_upto_region 53 with fail
      replace st := (st.set 1 rfl 1 (Value.int .i64 6))
      generalize World.setCell _ _ _ = wy at *
      replace st : St w _ [(w.heap.size + 3, 87, [.int .i64 5, .int .i64 ((i : Nat) : Int), .int .i64 0, .int .u64 0, .int .u64 0, .int .u64 0, .int .u64 0, .int .i64 1, .int .i64 (-1), .bool false]), (w.heap.size + 2, 88, [.int .i64 (((i : Nat) : Int) + 1), .int .i64 6]), (w.heap.size + 1, 88, [.int .i64 0, .int .i64 0]), (w.heap.size, 87, [.int .i64 0, .int .i64 0, .int .i64 0, .int .u64 0, .int .u64 0, .int .u64 0, .int .u64 0, .int .i64 0, .int .i64 0, .bool false])] := st
      clear p10 r10 p11 r11
      obtain ⟨⟨p00, p01, p02, p03, p04, p05, p06, p07, p08, p09⟩, r00, r01, r02, r03, r04, r05, r06, r07, r08, r09⟩ := st.ten 0 rfl
      obtain ⟨⟨p10, p11⟩, r10, r11⟩ := st.two 1 rfl
      obtain ⟨⟨p20, p21⟩, r20, r21⟩ := st.two 2 rfl
      obtain ⟨⟨p30, p31, p32, p33, p34, p35, p36, p37, p38, p39⟩, r30, r31, r32, r33, r34, r35, r36, r37, r38, r39⟩ := st.ten 3 rfl
      go_wp2_with fail
      go_region
      all_goals
        have stz := ((st.all 3 rfl [.int .i64 5, .int .i64 ((i : Nat) : Int), .int .i64 0, .int .u64 0, .int .u64 0, .int .u64 0, .int .u64 0, .int .i64 1, .int .i64 (-1), .bool false] rfl).all 2 rfl [.int .i64 (((i : Nat) : Int) + 1), .int .i64 6] rfl).drew
        simp only [putCells, List.set] at stz
        generalize World.drew _ = wz at *
        clear p00 r00 p01 r01 p02 r02 p03 r03 p04 r04 p05 r05 p06 r06 p07 r07 p08 r08 p09 r09 p10 r10 p11 r11 p20 r20 p21 r21 p30 r30 p31 r31 p32 r32 p33 r33 p34 r34 p35 r35 p36 r36 p37 r37 p38 r38 p39 r39
        go_wp2
        refine ret_tokend (x := ⟨5, noSet, 1, (-1), false⟩) (f := i) (b := w.heap.size) (b' := w.heap.size + 1) (j := (i + 1)) (e := 6) rfl rfl rfl (by rw [tokL_noset]; exact stz.get 3 rfl) (stz.get 2 rfl) rfl ⟨⟨5, noSet, 1, (-1), false⟩, (i + 1), 6, rfl, ?_, stz.below⟩
        rw [show tokM (bytesN s) i = lazyM (bytesN s) 1 (-1) (i + 1) from by unfold tokM; rw [HC.out]; rfl]
        rw [lazy_plus hmD.out]
        exact ⟨rfl, rfl, by omega⟩
  · have hkD := Lib.hid (show (bytesN s)[(i + 1)]? = some 63 by rw [get_at s hki, hke])
    have hkE := Lib.hid hke
    have hkt : (((i : Nat) : Int) + 1) < ((s.size : Nat) : Int) := by omega
    have hkq : ((((s[(i + 1)]'hki).toNat : Nat) : Int) == 63) = true := by rw [beq_iff_eq]; omega
    have hkp : ((((s[(i + 1)]'hki).toNat : Nat) : Int) != 63) = false := by rw [bne_eq_false_iff_eq]; omega
    clear hke
    obtain ⟨⟨p10, p11⟩, r10, r11⟩ := st.two 1 rfl
    obtain ⟨⟨p00, p01, p02, p03, p04, p05, p06, p07, p08, p09⟩, r00, r01, r02, r03, r04, r05, r06, r07, r08, r09⟩ := st.ten 0 rfl
    go_upto_region 50 with fail
    replace st := (st.set 0 rfl 9 (Value.bool true))
    generalize World.setCell _ _ _ = wy at *
    replace st : St w _ [(w.heap.size + 3, 87, [.int .i64 5, .int .i64 ((i : Nat) : Int), .int .i64 0, .int .u64 0, .int .u64 0, .int .u64 0, .int .u64 0, .int .i64 1, .int .i64 (-1), .bool true]), (w.heap.size + 2, 88, [.int .i64 (((i : Nat) : Int) + 1), .int .i64 0]), (w.heap.size + 1, 88, [.int .i64 0, .int .i64 0]), (w.heap.size, 87, [.int .i64 0, .int .i64 0, .int .i64 0, .int .u64 0, .int .u64 0, .int .u64 0, .int .u64 0, .int .i64 0, .int .i64 0, .bool false])] := st
    clear p00 r00 p01 r01 p02 r02 p03 r03 p04 r04 p05 r05 p06 r06 p07 r07 p08 r08 p09 r09
    clear p10 r10 p11 r11
    obtain ⟨⟨p10, p11⟩, r10, r11⟩ := st.two 1 rfl
    go_upto_region 51 with fail
    replace st := (st.set 1 rfl 0 (Value.int .i64 ((((i : Nat) : Int) + 1) + 1)))
    generalize World.setCell _ _ _ = wy at *
    replace st : St w _ [(w.heap.size + 3, 87, [.int .i64 5, .int .i64 ((i : Nat) : Int), .int .i64 0, .int .u64 0, .int .u64 0, .int .u64 0, .int .u64 0, .int .i64 1, .int .i64 (-1), .bool true]), (w.heap.size + 2, 88, [.int .i64 ((((i : Nat) : Int) + 1) + 1), .int .i64 0]), (w.heap.size + 1, 88, [.int .i64 0, .int .i64 0]), (w.heap.size, 87, [.int .i64 0, .int .i64 0, .int .i64 0, .int .u64 0, .int .u64 0, .int .u64 0, .int .u64 0, .int .i64 0, .int .i64 0, .bool false])] := st
    clear p10 r10 p11 r11
    rcases (show s.size ≤ (i + 1) + 1 ∨ (∃ h : (i + 1) + 1 < s.size, (s[(i + 1) + 1]'h).toNat ≠ 43) ∨ ∃ h : (i + 1) + 1 < s.size, (s[(i + 1) + 1]'h).toNat = 43 from by
      rcases Nat.lt_or_ge ((i + 1) + 1) s.size with h | h
      · by_cases h2 : (s[(i + 1) + 1]'h).toNat = 43
        · exact .inr (.inr ⟨h, h2⟩)
        · exact .inr (.inl ⟨h, h2⟩)
      · exact .inl h) with hmo | ⟨hmi, hmn⟩ | ⟨hmi, hme⟩
    · have hmD := Lib.hid (show (bytesN s)[(i + 1) + 1]? ≠ some 43 from get_out hmo)
      have hmD2 := Lib.hid hmo
      have hmt : ¬(((i : Nat) : Int) + 1) + 1 < ((s.size : Nat) : Int) := by omega
      have hmt2 : ((s.size : Nat) : Int) ≤ (((i : Nat) : Int) + 1) + 1 := by omega
      obtain ⟨⟨p00, p01, p02, p03, p04, p05, p06, p07, p08, p09⟩, r00, r01, r02, r03, r04, r05, r06, r07, r08, r09⟩ := st.ten 0 rfl
      obtain ⟨⟨p10, p11⟩, r10, r11⟩ := st.two 1 rfl
      obtain ⟨⟨p20, p21⟩, r20, r21⟩ := st.two 2 rfl
      obtain ⟨⟨p30, p31, p32, p33, p34, p35, p36, p37, p38, p39⟩, r30, r31, r32, r33, r34, r35, r36, r37, r38, r39⟩ := st.ten 3 rfl
      go_wp2_with fail
      go_region
      all_goals
        have stz := ((st.all 3 rfl [.int .i64 5, .int .i64 ((i : Nat) : Int), .int .i64 0, .int .u64 0, .int .u64 0, .int .u64 0, .int .u64 0, .int .i64 1, .int .i64 (-1), .bool true] rfl).all 2 rfl [.int .i64 ((((i : Nat) : Int) + 1) + 1), .int .i64 0] rfl).drew
        simp only [putCells, List.set] at stz
        generalize World.drew _ = wz at *
        clear p00 r00 p01 r01 p02 r02 p03 r03 p04 r04 p05 r05 p06 r06 p07 r07 p08 r08 p09 r09 p10 r10 p11 r11 p20 r20 p21 r21 p30 r30 p31 r31 p32 r32 p33 r33 p34 r34 p35 r35 p36 r36 p37 r37 p38 r38 p39 r39
        go_wp2
        refine ret_tokend (x := ⟨5, noSet, 1, (-1), true⟩) (f := i) (b := w.heap.size) (b' := w.heap.size + 1) (j := ((i + 1) + 1)) (e := 0) rfl rfl rfl (by rw [tokL_noset]; exact stz.get 3 rfl) (stz.get 2 rfl) rfl ⟨⟨5, noSet, 1, (-1), true⟩, ((i + 1) + 1), 0, rfl, ?_, stz.below⟩
        rw [show tokM (bytesN s) i = lazyM (bytesN s) 1 (-1) (i + 1) from by unfold tokM; rw [HC.out]; rfl]
        rw [lazy_yes hkD.out hmD.out]
        exact ⟨rfl, rfl, rfl⟩
    · have hmD := Lib.hid (show (bytesN s)[(i + 1) + 1]? ≠ some 43 from get_ne hmi hmn)
      have hmt : (((i : Nat) : Int) + 1) + 1 < ((s.size : Nat) : Int) := by omega
      have hmq : ((((s[(i + 1) + 1]'hmi).toNat : Nat) : Int) == 43) = false := by rw [beq_eq_false_iff_ne]; omega
      have hmp : ((((s[(i + 1) + 1]'hmi).toNat : Nat) : Int) != 43) = true := by rw [bne_iff_ne]; omega
      clear hmn
      obtain ⟨⟨p00, p01, p02, p03, p04, p05, p06, p07, p08, p09⟩, r00, r01, r02, r03, r04, r05, r06, r07, r08, r09⟩ := st.ten 0 rfl
      obtain ⟨⟨p10, p11⟩, r10, r11⟩ := st.two 1 rfl
      obtain ⟨⟨p20, p21⟩, r20, r21⟩ := st.two 2 rfl
      obtain ⟨⟨p30, p31, p32, p33, p34, p35, p36, p37, p38, p39⟩, r30, r31, r32, r33, r34, r35, r36, r37, r38, r39⟩ := st.ten 3 rfl
      go_wp2_with fail
      go_region
      all_goals
        have stz := ((st.all 3 rfl [.int .i64 5, .int .i64 ((i : Nat) : Int), .int .i64 0, .int .u64 0, .int .u64 0, .int .u64 0, .int .u64 0, .int .i64 1, .int .i64 (-1), .bool true] rfl).all 2 rfl [.int .i64 ((((i : Nat) : Int) + 1) + 1), .int .i64 0] rfl).drew
        simp only [putCells, List.set] at stz
        generalize World.drew _ = wz at *
        clear p00 r00 p01 r01 p02 r02 p03 r03 p04 r04 p05 r05 p06 r06 p07 r07 p08 r08 p09 r09 p10 r10 p11 r11 p20 r20 p21 r21 p30 r30 p31 r31 p32 r32 p33 r33 p34 r34 p35 r35 p36 r36 p37 r37 p38 r38 p39 r39
        go_wp2
        refine ret_tokend (x := ⟨5, noSet, 1, (-1), true⟩) (f := i) (b := w.heap.size) (b' := w.heap.size + 1) (j := ((i + 1) + 1)) (e := 0) rfl rfl rfl (by rw [tokL_noset]; exact stz.get 3 rfl) (stz.get 2 rfl) rfl ⟨⟨5, noSet, 1, (-1), true⟩, ((i + 1) + 1), 0, rfl, ?_, stz.below⟩
        rw [show tokM (bytesN s) i = lazyM (bytesN s) 1 (-1) (i + 1) from by unfold tokM; rw [HC.out]; rfl]
        rw [lazy_yes hkD.out hmD.out]
        exact ⟨rfl, rfl, rfl⟩
    · have hmD := Lib.hid (show (bytesN s)[(i + 1) + 1]? = some 43 by rw [get_at s hmi, hme])
      have hmE := Lib.hid hme
      have hmt : (((i : Nat) : Int) + 1) + 1 < ((s.size : Nat) : Int) := by omega
      have hmq : ((((s[(i + 1) + 1]'hmi).toNat : Nat) : Int) == 43) = true := by rw [beq_iff_eq]; omega
      have hmp : ((((s[(i + 1) + 1]'hmi).toNat : Nat) : Int) != 43) = false := by rw [bne_eq_false_iff_eq]; omega
      clear hme
      obtain ⟨⟨p10, p11⟩, r10, r11⟩ := st.two 1 rfl
      go_upto_region 53 with fail
      replace st := (st.set 1 rfl 1 (Value.int .i64 6))
      generalize World.setCell _ _ _ = wy at *
      replace st : St w _ [(w.heap.size + 3, 87, [.int .i64 5, .int .i64 ((i : Nat) : Int), .int .i64 0, .int .u64 0, .int .u64 0, .int .u64 0, .int .u64 0, .int .i64 1, .int .i64 (-1), .bool true]), (w.heap.size + 2, 88, [.int .i64 ((((i : Nat) : Int) + 1) + 1), .int .i64 6]), (w.heap.size + 1, 88, [.int .i64 0, .int .i64 0]), (w.heap.size, 87, [.int .i64 0, .int .i64 0, .int .i64 0, .int .u64 0, .int .u64 0, .int .u64 0, .int .u64 0, .int .i64 0, .int .i64 0, .bool false])] := st
      clear p10 r10 p11 r11
      obtain ⟨⟨p00, p01, p02, p03, p04, p05, p06, p07, p08, p09⟩, r00, r01, r02, r03, r04, r05, r06, r07, r08, r09⟩ := st.ten 0 rfl
      obtain ⟨⟨p10, p11⟩, r10, r11⟩ := st.two 1 rfl
      obtain ⟨⟨p20, p21⟩, r20, r21⟩ := st.two 2 rfl
      obtain ⟨⟨p30, p31, p32, p33, p34, p35, p36, p37, p38, p39⟩, r30, r31, r32, r33, r34, r35, r36, r37, r38, r39⟩ := st.ten 3 rfl
      go_wp2_with fail
      go_region
      all_goals
        have stz := ((st.all 3 rfl [.int .i64 5, .int .i64 ((i : Nat) : Int), .int .i64 0, .int .u64 0, .int .u64 0, .int .u64 0, .int .u64 0, .int .i64 1, .int .i64 (-1), .bool true] rfl).all 2 rfl [.int .i64 ((((i : Nat) : Int) + 1) + 1), .int .i64 6] rfl).drew
        simp only [putCells, List.set] at stz
        generalize World.drew _ = wz at *
        clear p00 r00 p01 r01 p02 r02 p03 r03 p04 r04 p05 r05 p06 r06 p07 r07 p08 r08 p09 r09 p10 r10 p11 r11 p20 r20 p21 r21 p30 r30 p31 r31 p32 r32 p33 r33 p34 r34 p35 r35 p36 r36 p37 r37 p38 r38 p39 r39
        go_wp2
        refine ret_tokend (x := ⟨5, noSet, 1, (-1), true⟩) (f := i) (b := w.heap.size) (b' := w.heap.size + 1) (j := ((i + 1) + 1)) (e := 6) rfl rfl rfl (by rw [tokL_noset]; exact stz.get 3 rfl) (stz.get 2 rfl) rfl ⟨⟨5, noSet, 1, (-1), true⟩, ((i + 1) + 1), 6, rfl, ?_, stz.below⟩
        rw [show tokM (bytesN s) i = lazyM (bytesN s) 1 (-1) (i + 1) from by unfold tokM; rw [HC.out]; rfl]
        rw [lazy_yesplus hkD.out hmD.out]
        exact ⟨rfl, rfl, by omega⟩
set_option maxRecDepth 100000 in
set_option maxHeartbeats 8000000 in
theorem refone_63 (s : ByteArray) (i : Nat) (hi : i < s.size) (hs : s.size ≤ 1048576) (hc : (s[i]'hi).toNat = 63) (w : World) :
    Calls Tryd.prog 41 #[.string s, .int .i64 ((i : Nat) : Int)] w fun v w' => ∃ (x : Tok) (j e : Nat), v = .returned (.tuple #[tokV x i 0, endV j e]) ∧ TokIs (tokM (bytesN s) i) x j e ∧ Below w.heap.size w w' := by
  have HC := Lib.hid (show (bytesN s)[i]? = some 63 by rw [get_at s hi, hc])
  go_enter Tryd.func41, Tryd.ntmps41
  go_upto_region 5 with fail
  have st := ((((St.nil w).alloc rfl [.int .i64 0, .int .i64 0, .int .i64 0, .int .u64 0, .int .u64 0, .int .u64 0, .int .u64 0, .int .i64 0, .int .i64 0, .bool false] 87).alloc (n := w.heap.size + 1) (by simp) [.int .i64 0, .int .i64 0] 88).alloc (n := w.heap.size + 2) (by simp) [.int .i64 (((i : Nat) : Int) + 1), .int .i64 0] 88).alloc (n := w.heap.size + 3) (by simp) [.int .i64 0, .int .i64 ((i : Nat) : Int), .int .i64 0, .int .u64 0, .int .u64 0, .int .u64 0, .int .u64 0, .int .i64 0, .int .i64 0, .bool false] 87
  generalize (((w.alloc _).alloc _).alloc _).alloc _ = wa at *
  go_wp2_with fail
  refine (refin_at _ 63 _ (by decide)).mono ?_
  rintro v w5 ⟨rfl, rfl⟩
  rename World => w0
  rw [show (bytesN { data := #[42, 43, 63, 123] }).contains 63 = true from rfl]
  obtain ⟨⟨p00, p01, p02, p03, p04, p05, p06, p07, p08, p09⟩, r00, r01, r02, r03, r04, r05, r06, r07, r08, r09⟩ := st.ten 0 rfl
  go_upto_region 38 with fail
  replace st := (st.set 0 rfl 0 (Value.int .i64 5))
  generalize World.setCell _ _ _ = wy at *
  replace st : St w _ [(w.heap.size + 3, 87, [.int .i64 5, .int .i64 ((i : Nat) : Int), .int .i64 0, .int .u64 0, .int .u64 0, .int .u64 0, .int .u64 0, .int .i64 0, .int .i64 0, .bool false]), (w.heap.size + 2, 88, [.int .i64 (((i : Nat) : Int) + 1), .int .i64 0]), (w.heap.size + 1, 88, [.int .i64 0, .int .i64 0]), (w.heap.size, 87, [.int .i64 0, .int .i64 0, .int .i64 0, .int .u64 0, .int .u64 0, .int .u64 0, .int .u64 0, .int .i64 0, .int .i64 0, .bool false])] := st
  clear p00 r00 p01 r01 p02 r02 p03 r03 p04 r04 p05 r05 p06 r06 p07 r07 p08 r08 p09 r09
  obtain ⟨⟨p00, p01, p02, p03, p04, p05, p06, p07, p08, p09⟩, r00, r01, r02, r03, r04, r05, r06, r07, r08, r09⟩ := st.ten 0 rfl
  go_upto_region 39 with fail
  replace st := (st.set 0 rfl 8 (Value.int .i64 (-1)))
  generalize World.setCell _ _ _ = wy at *
  replace st : St w _ [(w.heap.size + 3, 87, [.int .i64 5, .int .i64 ((i : Nat) : Int), .int .i64 0, .int .u64 0, .int .u64 0, .int .u64 0, .int .u64 0, .int .i64 0, .int .i64 (-1), .bool false]), (w.heap.size + 2, 88, [.int .i64 (((i : Nat) : Int) + 1), .int .i64 0]), (w.heap.size + 1, 88, [.int .i64 0, .int .i64 0]), (w.heap.size, 87, [.int .i64 0, .int .i64 0, .int .i64 0, .int .u64 0, .int .u64 0, .int .u64 0, .int .u64 0, .int .i64 0, .int .i64 0, .bool false])] := st
  clear p00 r00 p01 r01 p02 r02 p03 r03 p04 r04 p05 r05 p06 r06 p07 r07 p08 r08 p09 r09
  obtain ⟨⟨p00, p01, p02, p03, p04, p05, p06, p07, p08, p09⟩, r00, r01, r02, r03, r04, r05, r06, r07, r08, r09⟩ := st.ten 0 rfl
  go_upto_region 46 with fail
  replace st := (st.set 0 rfl 8 (Value.int .i64 1))
  generalize World.setCell _ _ _ = wy at *
  replace st : St w _ [(w.heap.size + 3, 87, [.int .i64 5, .int .i64 ((i : Nat) : Int), .int .i64 0, .int .u64 0, .int .u64 0, .int .u64 0, .int .u64 0, .int .i64 0, .int .i64 1, .bool false]), (w.heap.size + 2, 88, [.int .i64 (((i : Nat) : Int) + 1), .int .i64 0]), (w.heap.size + 1, 88, [.int .i64 0, .int .i64 0]), (w.heap.size, 87, [.int .i64 0, .int .i64 0, .int .i64 0, .int .u64 0, .int .u64 0, .int .u64 0, .int .u64 0, .int .i64 0, .int .i64 0, .bool false])] := st
  clear p00 r00 p01 r01 p02 r02 p03 r03 p04 r04 p05 r05 p06 r06 p07 r07 p08 r08 p09 r09
  rcases (show s.size ≤ (i + 1) ∨ (∃ h : (i + 1) < s.size, (s[(i + 1)]'h).toNat ≠ 63) ∨ ∃ h : (i + 1) < s.size, (s[(i + 1)]'h).toNat = 63 from by
    rcases Nat.lt_or_ge ((i + 1)) s.size with h | h
    · by_cases h2 : (s[(i + 1)]'h).toNat = 63
      · exact .inr (.inr ⟨h, h2⟩)
      · exact .inr (.inl ⟨h, h2⟩)
    · exact .inl h) with hko | ⟨hki, hkn⟩ | ⟨hki, hke⟩
  · have hkD := Lib.hid (show (bytesN s)[(i + 1)]? ≠ some 63 from get_out hko)
    have hkD2 := Lib.hid hko
    have hkt : ¬(((i : Nat) : Int) + 1) < ((s.size : Nat) : Int) := by omega
    have hkt2 : ((s.size : Nat) : Int) ≤ (((i : Nat) : Int) + 1) := by omega
    obtain ⟨⟨p00, p01, p02, p03, p04, p05, p06, p07, p08, p09⟩, r00, r01, r02, r03, r04, r05, r06, r07, r08, r09⟩ := st.ten 0 rfl
    obtain ⟨⟨p10, p11⟩, r10, r11⟩ := st.two 1 rfl
    obtain ⟨⟨p20, p21⟩, r20, r21⟩ := st.two 2 rfl
    obtain ⟨⟨p30, p31, p32, p33, p34, p35, p36, p37, p38, p39⟩, r30, r31, r32, r33, r34, r35, r36, r37, r38, r39⟩ := st.ten 3 rfl
    go_wp2_with fail
    go_region
    all_goals
      have stz := ((st.all 3 rfl [.int .i64 5, .int .i64 ((i : Nat) : Int), .int .i64 0, .int .u64 0, .int .u64 0, .int .u64 0, .int .u64 0, .int .i64 0, .int .i64 1, .bool false] rfl).all 2 rfl [.int .i64 (((i : Nat) : Int) + 1), .int .i64 0] rfl).drew
      simp only [putCells, List.set] at stz
      generalize World.drew _ = wz at *
      clear p00 r00 p01 r01 p02 r02 p03 r03 p04 r04 p05 r05 p06 r06 p07 r07 p08 r08 p09 r09 p10 r10 p11 r11 p20 r20 p21 r21 p30 r30 p31 r31 p32 r32 p33 r33 p34 r34 p35 r35 p36 r36 p37 r37 p38 r38 p39 r39
      go_wp2
      refine ret_tokend (x := ⟨5, noSet, 0, 1, false⟩) (f := i) (b := w.heap.size) (b' := w.heap.size + 1) (j := (i + 1)) (e := 0) rfl rfl rfl (by rw [tokL_noset]; exact stz.get 3 rfl) (stz.get 2 rfl) rfl ⟨⟨5, noSet, 0, 1, false⟩, (i + 1), 0, rfl, ?_, stz.below⟩
      rw [show tokM (bytesN s) i = lazyM (bytesN s) 0 1 (i + 1) from by unfold tokM; rw [HC.out]; rfl]
      rw [lazy_no hkD.out (get_out hkD2.out)]
      exact ⟨rfl, rfl, rfl⟩
  · have hkD := Lib.hid (show (bytesN s)[(i + 1)]? ≠ some 63 from get_ne hki hkn)
    have hkt : (((i : Nat) : Int) + 1) < ((s.size : Nat) : Int) := by omega
    have hkq : ((((s[(i + 1)]'hki).toNat : Nat) : Int) == 63) = false := by rw [beq_eq_false_iff_ne]; omega
    have hkp : ((((s[(i + 1)]'hki).toNat : Nat) : Int) != 63) = true := by rw [bne_iff_ne]; omega
    clear hkn
    rcases (show s.size ≤ (i + 1) ∨ (∃ h : (i + 1) < s.size, (s[(i + 1)]'h).toNat ≠ 43) ∨ ∃ h : (i + 1) < s.size, (s[(i + 1)]'h).toNat = 43 from by
      rcases Nat.lt_or_ge ((i + 1)) s.size with h | h
      · by_cases h2 : (s[(i + 1)]'h).toNat = 43
        · exact .inr (.inr ⟨h, h2⟩)
        · exact .inr (.inl ⟨h, h2⟩)
      · exact .inl h) with hmo | ⟨hmi, hmn⟩ | ⟨hmi, hme⟩
    · have hmD := Lib.hid (show (bytesN s)[(i + 1)]? ≠ some 43 from get_out hmo)
      have hmD2 := Lib.hid hmo
      have hmt : ¬(((i : Nat) : Int) + 1) < ((s.size : Nat) : Int) := by omega
      have hmt2 : ((s.size : Nat) : Int) ≤ (((i : Nat) : Int) + 1) := by omega
      omega
    · have hmD := Lib.hid (show (bytesN s)[(i + 1)]? ≠ some 43 from get_ne hmi hmn)
      have hmt : (((i : Nat) : Int) + 1) < ((s.size : Nat) : Int) := by omega
      have hmq : ((((s[(i + 1)]'hmi).toNat : Nat) : Int) == 43) = false := by rw [beq_eq_false_iff_ne]; omega
      have hmp : ((((s[(i + 1)]'hmi).toNat : Nat) : Int) != 43) = true := by rw [bne_iff_ne]; omega
      clear hmn
      obtain ⟨⟨p00, p01, p02, p03, p04, p05, p06, p07, p08, p09⟩, r00, r01, r02, r03, r04, r05, r06, r07, r08, r09⟩ := st.ten 0 rfl
      obtain ⟨⟨p10, p11⟩, r10, r11⟩ := st.two 1 rfl
      obtain ⟨⟨p20, p21⟩, r20, r21⟩ := st.two 2 rfl
      obtain ⟨⟨p30, p31, p32, p33, p34, p35, p36, p37, p38, p39⟩, r30, r31, r32, r33, r34, r35, r36, r37, r38, r39⟩ := st.ten 3 rfl
      go_wp2_with fail
      go_region
      all_goals
        have stz := ((st.all 3 rfl [.int .i64 5, .int .i64 ((i : Nat) : Int), .int .i64 0, .int .u64 0, .int .u64 0, .int .u64 0, .int .u64 0, .int .i64 0, .int .i64 1, .bool false] rfl).all 2 rfl [.int .i64 (((i : Nat) : Int) + 1), .int .i64 0] rfl).drew
        simp only [putCells, List.set] at stz
        generalize World.drew _ = wz at *
        clear p00 r00 p01 r01 p02 r02 p03 r03 p04 r04 p05 r05 p06 r06 p07 r07 p08 r08 p09 r09 p10 r10 p11 r11 p20 r20 p21 r21 p30 r30 p31 r31 p32 r32 p33 r33 p34 r34 p35 r35 p36 r36 p37 r37 p38 r38 p39 r39
        go_wp2
        refine ret_tokend (x := ⟨5, noSet, 0, 1, false⟩) (f := i) (b := w.heap.size) (b' := w.heap.size + 1) (j := (i + 1)) (e := 0) rfl rfl rfl (by rw [tokL_noset]; exact stz.get 3 rfl) (stz.get 2 rfl) rfl ⟨⟨5, noSet, 0, 1, false⟩, (i + 1), 0, rfl, ?_, stz.below⟩
        rw [show tokM (bytesN s) i = lazyM (bytesN s) 0 1 (i + 1) from by unfold tokM; rw [HC.out]; rfl]
        rw [lazy_no hkD.out hmD.out]
        exact ⟨rfl, rfl, rfl⟩
    · have hmD := Lib.hid (show (bytesN s)[(i + 1)]? = some 43 by rw [get_at s hmi, hme])
      have hmE := Lib.hid hme
      have hmt : (((i : Nat) : Int) + 1) < ((s.size : Nat) : Int) := by omega
      have hmq : ((((s[(i + 1)]'hmi).toNat : Nat) : Int) == 43) = true := by rw [beq_iff_eq]; omega
      have hmp : ((((s[(i + 1)]'hmi).toNat : Nat) : Int) != 43) = false := by rw [bne_eq_false_iff_eq]; omega
      clear hme
      obtain ⟨⟨p10, p11⟩, r10, r11⟩ := st.two 1 rfl
      go_upto_region 53 with fail
      replace st := (st.set 1 rfl 1 (Value.int .i64 6))
      generalize World.setCell _ _ _ = wy at *
      replace st : St w _ [(w.heap.size + 3, 87, [.int .i64 5, .int .i64 ((i : Nat) : Int), .int .i64 0, .int .u64 0, .int .u64 0, .int .u64 0, .int .u64 0, .int .i64 0, .int .i64 1, .bool false]), (w.heap.size + 2, 88, [.int .i64 (((i : Nat) : Int) + 1), .int .i64 6]), (w.heap.size + 1, 88, [.int .i64 0, .int .i64 0]), (w.heap.size, 87, [.int .i64 0, .int .i64 0, .int .i64 0, .int .u64 0, .int .u64 0, .int .u64 0, .int .u64 0, .int .i64 0, .int .i64 0, .bool false])] := st
      clear p10 r10 p11 r11
      obtain ⟨⟨p00, p01, p02, p03, p04, p05, p06, p07, p08, p09⟩, r00, r01, r02, r03, r04, r05, r06, r07, r08, r09⟩ := st.ten 0 rfl
      obtain ⟨⟨p10, p11⟩, r10, r11⟩ := st.two 1 rfl
      obtain ⟨⟨p20, p21⟩, r20, r21⟩ := st.two 2 rfl
      obtain ⟨⟨p30, p31, p32, p33, p34, p35, p36, p37, p38, p39⟩, r30, r31, r32, r33, r34, r35, r36, r37, r38, r39⟩ := st.ten 3 rfl
      go_wp2_with fail
      go_region
      all_goals
        have stz := ((st.all 3 rfl [.int .i64 5, .int .i64 ((i : Nat) : Int), .int .i64 0, .int .u64 0, .int .u64 0, .int .u64 0, .int .u64 0, .int .i64 0, .int .i64 1, .bool false] rfl).all 2 rfl [.int .i64 (((i : Nat) : Int) + 1), .int .i64 6] rfl).drew
        simp only [putCells, List.set] at stz
        generalize World.drew _ = wz at *
        clear p00 r00 p01 r01 p02 r02 p03 r03 p04 r04 p05 r05 p06 r06 p07 r07 p08 r08 p09 r09 p10 r10 p11 r11 p20 r20 p21 r21 p30 r30 p31 r31 p32 r32 p33 r33 p34 r34 p35 r35 p36 r36 p37 r37 p38 r38 p39 r39
        go_wp2
        refine ret_tokend (x := ⟨5, noSet, 0, 1, false⟩) (f := i) (b := w.heap.size) (b' := w.heap.size + 1) (j := (i + 1)) (e := 6) rfl rfl rfl (by rw [tokL_noset]; exact stz.get 3 rfl) (stz.get 2 rfl) rfl ⟨⟨5, noSet, 0, 1, false⟩, (i + 1), 6, rfl, ?_, stz.below⟩
        rw [show tokM (bytesN s) i = lazyM (bytesN s) 0 1 (i + 1) from by unfold tokM; rw [HC.out]; rfl]
        rw [lazy_plus hmD.out]
        exact ⟨rfl, rfl, by omega⟩
  · have hkD := Lib.hid (show (bytesN s)[(i + 1)]? = some 63 by rw [get_at s hki, hke])
    have hkE := Lib.hid hke
    have hkt : (((i : Nat) : Int) + 1) < ((s.size : Nat) : Int) := by omega
    have hkq : ((((s[(i + 1)]'hki).toNat : Nat) : Int) == 63) = true := by rw [beq_iff_eq]; omega
    have hkp : ((((s[(i + 1)]'hki).toNat : Nat) : Int) != 63) = false := by rw [bne_eq_false_iff_eq]; omega
    clear hke
    obtain ⟨⟨p10, p11⟩, r10, r11⟩ := st.two 1 rfl
    obtain ⟨⟨p00, p01, p02, p03, p04, p05, p06, p07, p08, p09⟩, r00, r01, r02, r03, r04, r05, r06, r07, r08, r09⟩ := st.ten 0 rfl
    go_upto_region 50 with fail
    replace st := (st.set 0 rfl 9 (Value.bool true))
    generalize World.setCell _ _ _ = wy at *
    replace st : St w _ [(w.heap.size + 3, 87, [.int .i64 5, .int .i64 ((i : Nat) : Int), .int .i64 0, .int .u64 0, .int .u64 0, .int .u64 0, .int .u64 0, .int .i64 0, .int .i64 1, .bool true]), (w.heap.size + 2, 88, [.int .i64 (((i : Nat) : Int) + 1), .int .i64 0]), (w.heap.size + 1, 88, [.int .i64 0, .int .i64 0]), (w.heap.size, 87, [.int .i64 0, .int .i64 0, .int .i64 0, .int .u64 0, .int .u64 0, .int .u64 0, .int .u64 0, .int .i64 0, .int .i64 0, .bool false])] := st
    clear p00 r00 p01 r01 p02 r02 p03 r03 p04 r04 p05 r05 p06 r06 p07 r07 p08 r08 p09 r09
    clear p10 r10 p11 r11
    obtain ⟨⟨p10, p11⟩, r10, r11⟩ := st.two 1 rfl
    go_upto_region 51 with fail
    replace st := (st.set 1 rfl 0 (Value.int .i64 ((((i : Nat) : Int) + 1) + 1)))
    generalize World.setCell _ _ _ = wy at *
    replace st : St w _ [(w.heap.size + 3, 87, [.int .i64 5, .int .i64 ((i : Nat) : Int), .int .i64 0, .int .u64 0, .int .u64 0, .int .u64 0, .int .u64 0, .int .i64 0, .int .i64 1, .bool true]), (w.heap.size + 2, 88, [.int .i64 ((((i : Nat) : Int) + 1) + 1), .int .i64 0]), (w.heap.size + 1, 88, [.int .i64 0, .int .i64 0]), (w.heap.size, 87, [.int .i64 0, .int .i64 0, .int .i64 0, .int .u64 0, .int .u64 0, .int .u64 0, .int .u64 0, .int .i64 0, .int .i64 0, .bool false])] := st
    clear p10 r10 p11 r11
    rcases (show s.size ≤ (i + 1) + 1 ∨ (∃ h : (i + 1) + 1 < s.size, (s[(i + 1) + 1]'h).toNat ≠ 43) ∨ ∃ h : (i + 1) + 1 < s.size, (s[(i + 1) + 1]'h).toNat = 43 from by
      rcases Nat.lt_or_ge ((i + 1) + 1) s.size with h | h
      · by_cases h2 : (s[(i + 1) + 1]'h).toNat = 43
        · exact .inr (.inr ⟨h, h2⟩)
        · exact .inr (.inl ⟨h, h2⟩)
      · exact .inl h) with hmo | ⟨hmi, hmn⟩ | ⟨hmi, hme⟩
    · have hmD := Lib.hid (show (bytesN s)[(i + 1) + 1]? ≠ some 43 from get_out hmo)
      have hmD2 := Lib.hid hmo
      have hmt : ¬(((i : Nat) : Int) + 1) + 1 < ((s.size : Nat) : Int) := by omega
      have hmt2 : ((s.size : Nat) : Int) ≤ (((i : Nat) : Int) + 1) + 1 := by omega
      obtain ⟨⟨p00, p01, p02, p03, p04, p05, p06, p07, p08, p09⟩, r00, r01, r02, r03, r04, r05, r06, r07, r08, r09⟩ := st.ten 0 rfl
      obtain ⟨⟨p10, p11⟩, r10, r11⟩ := st.two 1 rfl
      obtain ⟨⟨p20, p21⟩, r20, r21⟩ := st.two 2 rfl
      obtain ⟨⟨p30, p31, p32, p33, p34, p35, p36, p37, p38, p39⟩, r30, r31, r32, r33, r34, r35, r36, r37, r38, r39⟩ := st.ten 3 rfl
      go_wp2_with fail
      go_region
      all_goals
        have stz := ((st.all 3 rfl [.int .i64 5, .int .i64 ((i : Nat) : Int), .int .i64 0, .int .u64 0, .int .u64 0, .int .u64 0, .int .u64 0, .int .i64 0, .int .i64 1, .bool true] rfl).all 2 rfl [.int .i64 ((((i : Nat) : Int) + 1) + 1), .int .i64 0] rfl).drew
        simp only [putCells, List.set] at stz
        generalize World.drew _ = wz at *
        clear p00 r00 p01 r01 p02 r02 p03 r03 p04 r04 p05 r05 p06 r06 p07 r07 p08 r08 p09 r09 p10 r10 p11 r11 p20 r20 p21 r21 p30 r30 p31 r31 p32 r32 p33 r33 p34 r34 p35 r35 p36 r36 p37 r37 p38 r38 p39 r39
        go_wp2
        refine ret_tokend (x := ⟨5, noSet, 0, 1, true⟩) (f := i) (b := w.heap.size) (b' := w.heap.size + 1) (j := ((i + 1) + 1)) (e := 0) rfl rfl rfl (by rw [tokL_noset]; exact stz.get 3 rfl) (stz.get 2 rfl) rfl ⟨⟨5, noSet, 0, 1, true⟩, ((i + 1) + 1), 0, rfl, ?_, stz.below⟩
        rw [show tokM (bytesN s) i = lazyM (bytesN s) 0 1 (i + 1) from by unfold tokM; rw [HC.out]; rfl]
        rw [lazy_yes hkD.out hmD.out]
        exact ⟨rfl, rfl, rfl⟩
    · have hmD := Lib.hid (show (bytesN s)[(i + 1) + 1]? ≠ some 43 from get_ne hmi hmn)
      have hmt : (((i : Nat) : Int) + 1) + 1 < ((s.size : Nat) : Int) := by omega
      have hmq : ((((s[(i + 1) + 1]'hmi).toNat : Nat) : Int) == 43) = false := by rw [beq_eq_false_iff_ne]; omega
      have hmp : ((((s[(i + 1) + 1]'hmi).toNat : Nat) : Int) != 43) = true := by rw [bne_iff_ne]; omega
      clear hmn
      obtain ⟨⟨p00, p01, p02, p03, p04, p05, p06, p07, p08, p09⟩, r00, r01, r02, r03, r04, r05, r06, r07, r08, r09⟩ := st.ten 0 rfl
      obtain ⟨⟨p10, p11⟩, r10, r11⟩ := st.two 1 rfl
      obtain ⟨⟨p20, p21⟩, r20, r21⟩ := st.two 2 rfl
      obtain ⟨⟨p30, p31, p32, p33, p34, p35, p36, p37, p38, p39⟩, r30, r31, r32, r33, r34, r35, r36, r37, r38, r39⟩ := st.ten 3 rfl
      go_wp2_with fail
      go_region
      all_goals
        have stz := ((st.all 3 rfl [.int .i64 5, .int .i64 ((i : Nat) : Int), .int .i64 0, .int .u64 0, .int .u64 0, .int .u64 0, .int .u64 0, .int .i64 0, .int .i64 1, .bool true] rfl).all 2 rfl [.int .i64 ((((i : Nat) : Int) + 1) + 1), .int .i64 0] rfl).drew
        simp only [putCells, List.set] at stz
        generalize World.drew _ = wz at *
        clear p00 r00 p01 r01 p02 r02 p03 r03 p04 r04 p05 r05 p06 r06 p07 r07 p08 r08 p09 r09 p10 r10 p11 r11 p20 r20 p21 r21 p30 r30 p31 r31 p32 r32 p33 r33 p34 r34 p35 r35 p36 r36 p37 r37 p38 r38 p39 r39
        go_wp2
        refine ret_tokend (x := ⟨5, noSet, 0, 1, true⟩) (f := i) (b := w.heap.size) (b' := w.heap.size + 1) (j := ((i + 1) + 1)) (e := 0) rfl rfl rfl (by rw [tokL_noset]; exact stz.get 3 rfl) (stz.get 2 rfl) rfl ⟨⟨5, noSet, 0, 1, true⟩, ((i + 1) + 1), 0, rfl, ?_, stz.below⟩
        rw [show tokM (bytesN s) i = lazyM (bytesN s) 0 1 (i + 1) from by unfold tokM; rw [HC.out]; rfl]
        rw [lazy_yes hkD.out hmD.out]
        exact ⟨rfl, rfl, rfl⟩
    · have hmD := Lib.hid (show (bytesN s)[(i + 1) + 1]? = some 43 by rw [get_at s hmi, hme])
      have hmE := Lib.hid hme
      have hmt : (((i : Nat) : Int) + 1) + 1 < ((s.size : Nat) : Int) := by omega
      have hmq : ((((s[(i + 1) + 1]'hmi).toNat : Nat) : Int) == 43) = true := by rw [beq_iff_eq]; omega
      have hmp : ((((s[(i + 1) + 1]'hmi).toNat : Nat) : Int) != 43) = false := by rw [bne_eq_false_iff_eq]; omega
      clear hme
      obtain ⟨⟨p10, p11⟩, r10, r11⟩ := st.two 1 rfl
      go_upto_region 53 with fail
      replace st := (st.set 1 rfl 1 (Value.int .i64 6))
      generalize World.setCell _ _ _ = wy at *
      replace st : St w _ [(w.heap.size + 3, 87, [.int .i64 5, .int .i64 ((i : Nat) : Int), .int .i64 0, .int .u64 0, .int .u64 0, .int .u64 0, .int .u64 0, .int .i64 0, .int .i64 1, .bool true]), (w.heap.size + 2, 88, [.int .i64 ((((i : Nat) : Int) + 1) + 1), .int .i64 6]), (w.heap.size + 1, 88, [.int .i64 0, .int .i64 0]), (w.heap.size, 87, [.int .i64 0, .int .i64 0, .int .i64 0, .int .u64 0, .int .u64 0, .int .u64 0, .int .u64 0, .int .i64 0, .int .i64 0, .bool false])] := st
      clear p10 r10 p11 r11
      obtain ⟨⟨p00, p01, p02, p03, p04, p05, p06, p07, p08, p09⟩, r00, r01, r02, r03, r04, r05, r06, r07, r08, r09⟩ := st.ten 0 rfl
      obtain ⟨⟨p10, p11⟩, r10, r11⟩ := st.two 1 rfl
      obtain ⟨⟨p20, p21⟩, r20, r21⟩ := st.two 2 rfl
      obtain ⟨⟨p30, p31, p32, p33, p34, p35, p36, p37, p38, p39⟩, r30, r31, r32, r33, r34, r35, r36, r37, r38, r39⟩ := st.ten 3 rfl
      go_wp2_with fail
      go_region
      all_goals
        have stz := ((st.all 3 rfl [.int .i64 5, .int .i64 ((i : Nat) : Int), .int .i64 0, .int .u64 0, .int .u64 0, .int .u64 0, .int .u64 0, .int .i64 0, .int .i64 1, .bool true] rfl).all 2 rfl [.int .i64 ((((i : Nat) : Int) + 1) + 1), .int .i64 6] rfl).drew
        simp only [putCells, List.set] at stz
        generalize World.drew _ = wz at *
        clear p00 r00 p01 r01 p02 r02 p03 r03 p04 r04 p05 r05 p06 r06 p07 r07 p08 r08 p09 r09 p10 r10 p11 r11 p20 r20 p21 r21 p30 r30 p31 r31 p32 r32 p33 r33 p34 r34 p35 r35 p36 r36 p37 r37 p38 r38 p39 r39
        go_wp2
        refine ret_tokend (x := ⟨5, noSet, 0, 1, true⟩) (f := i) (b := w.heap.size) (b' := w.heap.size + 1) (j := ((i + 1) + 1)) (e := 6) rfl rfl rfl (by rw [tokL_noset]; exact stz.get 3 rfl) (stz.get 2 rfl) rfl ⟨⟨5, noSet, 0, 1, true⟩, ((i + 1) + 1), 6, rfl, ?_, stz.below⟩
        rw [show tokM (bytesN s) i = lazyM (bytesN s) 0 1 (i + 1) from by unfold tokM; rw [HC.out]; rfl]
        rw [lazy_yesplus hkD.out hmD.out]
        exact ⟨rfl, rfl, by omega⟩
end Go.Proofs.YtckoebfmoggeoaaDoor
