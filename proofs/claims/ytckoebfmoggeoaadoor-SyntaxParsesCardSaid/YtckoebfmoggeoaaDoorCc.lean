/- The reference of layer 5: One: what it needs. -/
import Derived.Test.YtckoebfmoggeoaaDoorCb
import Derived.Test.YtckoebfmoggeoaaDoorBe
namespace Go.Proofs.YtckoebfmoggeoaaDoor
set_option maxRecDepth 100000
open Go.RowKit
theorem info_rtok : (Tryd.prog.info? 87).map (·.size) = some 10 := by kernel_rfl
theorem load_rtok {w : World} {b : Nat} {x : Tok} {f t : Nat} (h : Blk w b 87 (tokL x f t)) : (loadVar 87 ⟨b, 0, none⟩).run Tryd.prog w = .ok (tokV x f t) w :=
  run_loadVar_row w b 87 _ (tokL x f t).toArray (0, 0) _ h Tryd.underlying87 rfl (by rw [info_rtok]; simp)
theorem ret_tokend {fn : Func} {R : Ending → World → Prop} {a : Act} {w : World} {b b' r r' : Nat} {x : Tok} {f j e : Nat} (hres : fn.results = #[.cell r 87, .cell r' 88])
    (hr : a.tmps.getD r undef = .pointer (some ⟨b, 0, none⟩)) (hr' : a.tmps.getD r' undef = .pointer (some ⟨b', 0, none⟩)) (h : Blk w b 87 (tokL x f 0)) (h' : Blk w b' 88 (endL j e)) (hd : a.defers = [])
    (hR : R (.returned (.tuple #[tokV x f 0, endV j e])) w) : bodyPost Tryd.prog fn R .ret a w := by
  have hl1 := load_rtok h
  have hl2 := load_end h'
  refine bodyPost_ret (v := .tuple #[tokV x f 0, endV j e]) ?_ hd hR
  have q1 : a.tmps[r]?.getD undef = .pointer (some ⟨b, 0, none⟩) := by simpa using hr
  have q2 : a.tmps[r']?.getD undef = .pointer (some ⟨b', 0, none⟩) := by simpa using hr'
  simp [results, hres, q1, q2, hl1, hl2, asAddr]
theorem some_fun (c : Nat) : someM [(c, c)] false = oneM c := by
  funext x
  simp only [oneM, ofM, someM, inAny, List.any_cons, List.any_nil, Bool.or_false, Bool.bne_false]
  by_cases h : x = c
  · subst h; simp
  · have : ¬((x : Int) = (c : Int)) := by omega
    have h2 : ¬(c ≤ x ∧ x ≤ c) := by omega
    simp [this]
    omega
theorem some_not : someM [(10, 10)] true = notM (oneM 10) := by
  funext x
  rw [← some_fun]
  unfold notM someM
  cases inAny [(10, 10)] x <;> rfl
theorem rsetRes_is {r : Res (Nat → Bool)} {m : Nat → Bool} {j e : Nat} (hr : (∃ m' j', r = .ok m' j' ∧ m = m' ∧ j = j' ∧ e = 0) ∨ (∃ j' e', r = .err j' e' ∧ m = noSet ∧ j = j' ∧ e = e')) (hne : ∀ j' e', r = .err j' e' → e' ≠ 0) : TokIs (setRes r) ⟨0, m, 0, 0, false⟩ j e := by
  rcases hr with ⟨m', j', rfl, rfl, rfl, rfl⟩ | ⟨j', e', rfl, rfl, rfl, rfl⟩
  · exact ⟨rfl, rfl, rfl⟩
  · exact ⟨rfl, rfl, hne _ _ rfl⟩
theorem spanM_ne {t : List Nat} {i j e : Nat} (h : spanM t i = .err j e) : e ≠ 0 := by
  unfold spanM at h
  split at h
  · rename_i hs
    injection h with _ h
    subst h
    exact itemM_ne hs
  · split at h
    · split at h
      · injection h with _ h; omega
      · split at h
        · rename_i hs
          injection h with _ h
          subst h
          exact itemM_ne hs
        · split at h
          · injection h with _ h; omega
          · split at h
            · injection h with _ h; omega
            · cases h
    · cases h
theorem classLoop_ne {t : List Nat} : ∀ (f : Nat) (m : Nat → Bool) (i j e : Nat), classLoop t f m i = .err j e → e ≠ 0 := by
  intro f
  induction f with
  | zero => intro m i j e h; unfold classLoop at h; injection h with _ h; omega
  | succ f ih =>
    intro m i j e h
    unfold classLoop at h
    split at h
    · cases h
    · split at h
      · rename_i hs
        injection h with _ h
        subst h
        exact spanM_ne hs
      · exact ih _ _ _ _ h
theorem classM_ne {t : List Nat} {i j e : Nat} (h : classM t i = .err j e) : e ≠ 0 := by
  have hb : ∀ k j e, classBody t k = .err j e → e ≠ 0 := by
    intro k j e h
    unfold classBody at h
    split at h
    · rename_i hs
      injection h with _ h
      subst h
      exact spanM_ne hs
    · exact classLoop_ne _ _ _ _ _ h
  unfold classM at h
  split at h
  · split at h
    · rename_i hs
      injection h with _ h
      subst h
      exact hb _ _ _ hs
    · cases h
  · exact hb _ _ _ h
/-- Behind a count's first byte, by what stands there. -/
theorem lazy_no {t : List Nat} {lo : Nat} {hi : Int} {j : Nat} (h : t[j]? ≠ some 63) (h2 : t[j]? ≠ some 43) : lazyM t lo hi j = .ok ⟨5, noSet, lo, hi, false⟩ j := by
  unfold lazyM
  simp only [h, if_false, h2, decide_false]
theorem lazy_plus {t : List Nat} {lo : Nat} {hi : Int} {j : Nat} (h : t[j]? = some 43) : lazyM t lo hi j = .err j 6 := by
  unfold lazyM
  simp [h]
theorem lazy_yes {t : List Nat} {lo : Nat} {hi : Int} {j : Nat} (h : t[j]? = some 63) (h2 : t[j + 1]? ≠ some 43) : lazyM t lo hi j = .ok ⟨5, noSet, lo, hi, true⟩ (j + 1) := by
  unfold lazyM
  simp [h, h2]
theorem lazy_yesplus {t : List Nat} {lo : Nat} {hi : Int} {j : Nat} (h : t[j]? = some 63) (h2 : t[j + 1]? = some 43) : lazyM t lo hi j = .err (j + 1) 6 := by
  unfold lazyM
  simp [h, h2]
theorem tok_other {t : List Nat} {i c : Nat} (h : t[i]? = some c) (n92 : c ≠ 92) (n91 : c ≠ 91) (n40 : c ≠ 40) (n41 : c ≠ 41) (n124 : c ≠ 124) (n46 : c ≠ 46) (n94 : c ≠ 94) (n36 : c ≠ 36) (n93 : c ≠ 93) (n125 : c ≠ 125) (n42 : c ≠ 42) (n43 : c ≠ 43) (n63 : c ≠ 63) (n123 : c ≠ 123) : tokM t i = .ok ⟨0, oneM c, 0, 0, false⟩ (i + 1) := by
  unfold tokM
  rw [h]
  have hl : loneL.contains c = false := by simp [loneL, n93, n125]
  simp only [n92, n91, n40, n41, n124, n46, n42, n43, n63, n123, n94, n36, hl, if_false, or_self, Bool.false_eq_true]
  rfl
def starL : List Nat := [42, 43, 63, 123]
theorem star_no {c : Nat} (n42 : c ≠ 42) (n43 : c ≠ 43) (n63 : c ≠ 63) (n123 : c ≠ 123) : starL.contains c = false := by simp [starL, n42, n43, n63, n123]
end Go.Proofs.YtckoebfmoggeoaaDoor
/- The reference of layer 5: One: no counts. -/
namespace Go.Proofs.YtckoebfmoggeoaaDoor
set_option maxRecDepth 100000
open Go.RowKit
set_option maxRecDepth 100000 in
set_option maxHeartbeats 8000000 in
theorem refone_92 (s : ByteArray) (i : Nat) (hi : i < s.size) (hs : s.size ≤ 1048576) (hc : (s[i]'hi).toNat = 92) (w : World) :
    Calls Tryd.prog 41 #[.string s, .int .i64 ((i : Nat) : Int)] w fun v w' => ∃ (x : Tok) (j e : Nat), v = .returned (.tuple #[tokV x i 0, endV j e]) ∧ TokIs (tokM (bytesN s) i) x j e ∧ Below w.heap.size w w' := by
  have HC := Lib.hid (show (bytesN s)[i]? = some 92 by rw [get_at s hi, hc])
  go_enter Tryd.func41, Tryd.ntmps41
  go_upto_region 5 with fail
  have st := ((((St.nil w).alloc rfl [.int .i64 0, .int .i64 0, .int .i64 0, .int .u64 0, .int .u64 0, .int .u64 0, .int .u64 0, .int .i64 0, .int .i64 0, .bool false] 87).alloc (n := w.heap.size + 1) (by simp) [.int .i64 0, .int .i64 0] 88).alloc (n := w.heap.size + 2) (by simp) [.int .i64 (((i : Nat) : Int) + 1), .int .i64 0] 88).alloc (n := w.heap.size + 3) (by simp) [.int .i64 0, .int .i64 ((i : Nat) : Int), .int .i64 0, .int .u64 0, .int .u64 0, .int .u64 0, .int .u64 0, .int .i64 0, .int .i64 0, .bool false] 87
  generalize (((w.alloc _).alloc _).alloc _).alloc _ = wa at *
  obtain ⟨⟨p00, p01, p02, p03, p04, p05, p06, p07, p08, p09⟩, r00, r01, r02, r03, r04, r05, r06, r07, r08, r09⟩ := st.ten 0 rfl
  obtain ⟨⟨p10, p11⟩, r10, r11⟩ := st.two 1 rfl
  go_wp2_with fail
  refine (refesc_at s i hi hs _).mono ?_
  rintro v w1 ⟨rfl, hb⟩
  replace st := st.below' hb
  clear hb p00 r00 p01 r01 p02 r02 p03 r03 p04 r04 p05 r05 p06 r06 p07 r07 p08 r08 p09 r09 p10 r10 p11 r11
  obtain ⟨m, j, e, hr, hr'⟩ := refV_form (escM (bytesN s) i)
  rw [hr]
  have HR := Lib.hid hr'
  clear hr hr'
  unfold setV
  obtain ⟨⟨p00, p01, p02, p03, p04, p05, p06, p07, p08, p09⟩, r00, r01, r02, r03, r04, r05, r06, r07, r08, r09⟩ := st.ten 0 rfl
  obtain ⟨⟨p10, p11⟩, r10, r11⟩ := st.two 1 rfl
  go_upto_region 7 with fail
  replace st := ((((((st.set 0 rfl 3 (Value.int .u64 (word (m) 0))).set 0 rfl 4 (Value.int .u64 (word (m) 1))).set 0 rfl 5 (Value.int .u64 (word (m) 2))).set 0 rfl 6 (Value.int .u64 (word (m) 3))).set 1 rfl 0 (Value.int .i64 ((j : Nat) : Int))).set 1 rfl 1 (Value.int .i64 ((e : Nat) : Int)))
  generalize World.setCell _ _ _ = wy at *
  replace st : St w _ [(w.heap.size + 3, 87, [.int .i64 0, .int .i64 ((i : Nat) : Int), .int .i64 0, .int .u64 (word (m) 0), .int .u64 (word (m) 1), .int .u64 (word (m) 2), .int .u64 (word (m) 3), .int .i64 0, .int .i64 0, .bool false]), (w.heap.size + 2, 88, [.int .i64 ((j : Nat) : Int), .int .i64 ((e : Nat) : Int)]), (w.heap.size + 1, 88, [.int .i64 0, .int .i64 0]), (w.heap.size, 87, [.int .i64 0, .int .i64 0, .int .i64 0, .int .u64 0, .int .u64 0, .int .u64 0, .int .u64 0, .int .i64 0, .int .i64 0, .bool false])] := st
  clear p00 r00 p01 r01 p02 r02 p03 r03 p04 r04 p05 r05 p06 r06 p07 r07 p08 r08 p09 r09 p10 r10 p11 r11
  obtain ⟨⟨p00, p01, p02, p03, p04, p05, p06, p07, p08, p09⟩, r00, r01, r02, r03, r04, r05, r06, r07, r08, r09⟩ := st.ten 0 rfl
  obtain ⟨⟨p10, p11⟩, r10, r11⟩ := st.two 1 rfl
  obtain ⟨⟨p20, p21⟩, r20, r21⟩ := st.two 2 rfl
  obtain ⟨⟨p30, p31, p32, p33, p34, p35, p36, p37, p38, p39⟩, r30, r31, r32, r33, r34, r35, r36, r37, r38, r39⟩ := st.ten 3 rfl
  go_wp2_with fail
  go_region
  all_goals
    have stz := ((st.all 3 rfl [.int .i64 0, .int .i64 ((i : Nat) : Int), .int .i64 0, .int .u64 (word (m) 0), .int .u64 (word (m) 1), .int .u64 (word (m) 2), .int .u64 (word (m) 3), .int .i64 0, .int .i64 0, .bool false] rfl).all 2 rfl [.int .i64 ((j : Nat) : Int), .int .i64 ((e : Nat) : Int)] rfl).drew
    simp only [putCells, List.set] at stz
    generalize World.drew _ = wz at *
    clear p00 r00 p01 r01 p02 r02 p03 r03 p04 r04 p05 r05 p06 r06 p07 r07 p08 r08 p09 r09 p10 r10 p11 r11 p20 r20 p21 r21 p30 r30 p31 r31 p32 r32 p33 r33 p34 r34 p35 r35 p36 r36 p37 r37 p38 r38 p39 r39
    go_wp2
    refine ret_tokend (x := ⟨0, m, 0, 0, false⟩) (f := i) (b := w.heap.size) (b' := w.heap.size + 1) (j := j) (e := e) rfl rfl rfl (stz.get 3 rfl) (stz.get 2 rfl) rfl ⟨⟨0, m, 0, 0, false⟩, j, e, rfl, ?_, stz.below⟩
    rw [show tokM (bytesN s) i = setRes (escM (bytesN s) i) from by unfold tokM; rw [HC.out]; rfl]
    exact rsetRes_is HR.out fun _ _ h => escM_ne h
set_option maxRecDepth 100000 in
set_option maxHeartbeats 8000000 in
theorem refone_91 (s : ByteArray) (i : Nat) (hi : i < s.size) (hs : s.size ≤ 1048576) (hc : (s[i]'hi).toNat = 91) (w : World) :
    Calls Tryd.prog 41 #[.string s, .int .i64 ((i : Nat) : Int)] w fun v w' => ∃ (x : Tok) (j e : Nat), v = .returned (.tuple #[tokV x i 0, endV j e]) ∧ TokIs (tokM (bytesN s) i) x j e ∧ Below w.heap.size w w' := by
  have HC := Lib.hid (show (bytesN s)[i]? = some 91 by rw [get_at s hi, hc])
  go_enter Tryd.func41, Tryd.ntmps41
  go_upto_region 5 with fail
  have st := ((((St.nil w).alloc rfl [.int .i64 0, .int .i64 0, .int .i64 0, .int .u64 0, .int .u64 0, .int .u64 0, .int .u64 0, .int .i64 0, .int .i64 0, .bool false] 87).alloc (n := w.heap.size + 1) (by simp) [.int .i64 0, .int .i64 0] 88).alloc (n := w.heap.size + 2) (by simp) [.int .i64 (((i : Nat) : Int) + 1), .int .i64 0] 88).alloc (n := w.heap.size + 3) (by simp) [.int .i64 0, .int .i64 ((i : Nat) : Int), .int .i64 0, .int .u64 0, .int .u64 0, .int .u64 0, .int .u64 0, .int .i64 0, .int .i64 0, .bool false] 87
  generalize (((w.alloc _).alloc _).alloc _).alloc _ = wa at *
  obtain ⟨⟨p00, p01, p02, p03, p04, p05, p06, p07, p08, p09⟩, r00, r01, r02, r03, r04, r05, r06, r07, r08, r09⟩ := st.ten 0 rfl
  obtain ⟨⟨p10, p11⟩, r10, r11⟩ := st.two 1 rfl
  go_wp2_with fail
  refine (refclass_at s i hi hs _).mono ?_
  rintro v w1 ⟨rfl, hb⟩
  replace st := st.below' hb
  clear hb p00 r00 p01 r01 p02 r02 p03 r03 p04 r04 p05 r05 p06 r06 p07 r07 p08 r08 p09 r09 p10 r10 p11 r11
  obtain ⟨m, j, e, hr, hr'⟩ := refV_form (classM (bytesN s) i)
  rw [hr]
  have HR := Lib.hid hr'
  clear hr hr'
  unfold setV
  obtain ⟨⟨p00, p01, p02, p03, p04, p05, p06, p07, p08, p09⟩, r00, r01, r02, r03, r04, r05, r06, r07, r08, r09⟩ := st.ten 0 rfl
  obtain ⟨⟨p10, p11⟩, r10, r11⟩ := st.two 1 rfl
  go_upto_region 10 with fail
  replace st := ((((((st.set 0 rfl 3 (Value.int .u64 (word (m) 0))).set 0 rfl 4 (Value.int .u64 (word (m) 1))).set 0 rfl 5 (Value.int .u64 (word (m) 2))).set 0 rfl 6 (Value.int .u64 (word (m) 3))).set 1 rfl 0 (Value.int .i64 ((j : Nat) : Int))).set 1 rfl 1 (Value.int .i64 ((e : Nat) : Int)))
  generalize World.setCell _ _ _ = wy at *
  replace st : St w _ [(w.heap.size + 3, 87, [.int .i64 0, .int .i64 ((i : Nat) : Int), .int .i64 0, .int .u64 (word (m) 0), .int .u64 (word (m) 1), .int .u64 (word (m) 2), .int .u64 (word (m) 3), .int .i64 0, .int .i64 0, .bool false]), (w.heap.size + 2, 88, [.int .i64 ((j : Nat) : Int), .int .i64 ((e : Nat) : Int)]), (w.heap.size + 1, 88, [.int .i64 0, .int .i64 0]), (w.heap.size, 87, [.int .i64 0, .int .i64 0, .int .i64 0, .int .u64 0, .int .u64 0, .int .u64 0, .int .u64 0, .int .i64 0, .int .i64 0, .bool false])] := st
  clear p00 r00 p01 r01 p02 r02 p03 r03 p04 r04 p05 r05 p06 r06 p07 r07 p08 r08 p09 r09 p10 r10 p11 r11
  obtain ⟨⟨p00, p01, p02, p03, p04, p05, p06, p07, p08, p09⟩, r00, r01, r02, r03, r04, r05, r06, r07, r08, r09⟩ := st.ten 0 rfl
  obtain ⟨⟨p10, p11⟩, r10, r11⟩ := st.two 1 rfl
  obtain ⟨⟨p20, p21⟩, r20, r21⟩ := st.two 2 rfl
  obtain ⟨⟨p30, p31, p32, p33, p34, p35, p36, p37, p38, p39⟩, r30, r31, r32, r33, r34, r35, r36, r37, r38, r39⟩ := st.ten 3 rfl
  go_wp2_with fail
  go_region
  all_goals
    have stz := ((st.all 3 rfl [.int .i64 0, .int .i64 ((i : Nat) : Int), .int .i64 0, .int .u64 (word (m) 0), .int .u64 (word (m) 1), .int .u64 (word (m) 2), .int .u64 (word (m) 3), .int .i64 0, .int .i64 0, .bool false] rfl).all 2 rfl [.int .i64 ((j : Nat) : Int), .int .i64 ((e : Nat) : Int)] rfl).drew
    simp only [putCells, List.set] at stz
    generalize World.drew _ = wz at *
    clear p00 r00 p01 r01 p02 r02 p03 r03 p04 r04 p05 r05 p06 r06 p07 r07 p08 r08 p09 r09 p10 r10 p11 r11 p20 r20 p21 r21 p30 r30 p31 r31 p32 r32 p33 r33 p34 r34 p35 r35 p36 r36 p37 r37 p38 r38 p39 r39
    go_wp2
    refine ret_tokend (x := ⟨0, m, 0, 0, false⟩) (f := i) (b := w.heap.size) (b' := w.heap.size + 1) (j := j) (e := e) rfl rfl rfl (stz.get 3 rfl) (stz.get 2 rfl) rfl ⟨⟨0, m, 0, 0, false⟩, j, e, rfl, ?_, stz.below⟩
    rw [show tokM (bytesN s) i = setRes (classM (bytesN s) i) from by unfold tokM; rw [HC.out]; rfl]
    exact rsetRes_is HR.out fun _ _ h => classM_ne h
set_option maxRecDepth 100000 in
set_option maxHeartbeats 8000000 in
theorem refone_41 (s : ByteArray) (i : Nat) (hi : i < s.size) (hs : s.size ≤ 1048576) (hc : (s[i]'hi).toNat = 41) (w : World) :
    Calls Tryd.prog 41 #[.string s, .int .i64 ((i : Nat) : Int)] w fun v w' => ∃ (x : Tok) (j e : Nat), v = .returned (.tuple #[tokV x i 0, endV j e]) ∧ TokIs (tokM (bytesN s) i) x j e ∧ Below w.heap.size w w' := by
  have HC := Lib.hid (show (bytesN s)[i]? = some 41 by rw [get_at s hi, hc])
  go_enter Tryd.func41, Tryd.ntmps41
  go_upto_region 5 with fail
  have st := ((((St.nil w).alloc rfl [.int .i64 0, .int .i64 0, .int .i64 0, .int .u64 0, .int .u64 0, .int .u64 0, .int .u64 0, .int .i64 0, .int .i64 0, .bool false] 87).alloc (n := w.heap.size + 1) (by simp) [.int .i64 0, .int .i64 0] 88).alloc (n := w.heap.size + 2) (by simp) [.int .i64 (((i : Nat) : Int) + 1), .int .i64 0] 88).alloc (n := w.heap.size + 3) (by simp) [.int .i64 0, .int .i64 ((i : Nat) : Int), .int .i64 0, .int .u64 0, .int .u64 0, .int .u64 0, .int .u64 0, .int .i64 0, .int .i64 0, .bool false] 87
  generalize (((w.alloc _).alloc _).alloc _).alloc _ = wa at *
  obtain ⟨⟨p00, p01, p02, p03, p04, p05, p06, p07, p08, p09⟩, r00, r01, r02, r03, r04, r05, r06, r07, r08, r09⟩ := st.ten 0 rfl
  go_upto_region 21 with fail
  replace st := (st.set 0 rfl 0 (Value.int .i64 3))
  generalize World.setCell _ _ _ = wy at *
  replace st : St w _ [(w.heap.size + 3, 87, [.int .i64 3, .int .i64 ((i : Nat) : Int), .int .i64 0, .int .u64 0, .int .u64 0, .int .u64 0, .int .u64 0, .int .i64 0, .int .i64 0, .bool false]), (w.heap.size + 2, 88, [.int .i64 (((i : Nat) : Int) + 1), .int .i64 0]), (w.heap.size + 1, 88, [.int .i64 0, .int .i64 0]), (w.heap.size, 87, [.int .i64 0, .int .i64 0, .int .i64 0, .int .u64 0, .int .u64 0, .int .u64 0, .int .u64 0, .int .i64 0, .int .i64 0, .bool false])] := st
  clear p00 r00 p01 r01 p02 r02 p03 r03 p04 r04 p05 r05 p06 r06 p07 r07 p08 r08 p09 r09
  obtain ⟨⟨p00, p01, p02, p03, p04, p05, p06, p07, p08, p09⟩, r00, r01, r02, r03, r04, r05, r06, r07, r08, r09⟩ := st.ten 0 rfl
  obtain ⟨⟨p10, p11⟩, r10, r11⟩ := st.two 1 rfl
  obtain ⟨⟨p20, p21⟩, r20, r21⟩ := st.two 2 rfl
  obtain ⟨⟨p30, p31, p32, p33, p34, p35, p36, p37, p38, p39⟩, r30, r31, r32, r33, r34, r35, r36, r37, r38, r39⟩ := st.ten 3 rfl
  go_wp2_with fail
  go_region
  all_goals
    have stz := ((st.all 3 rfl [.int .i64 3, .int .i64 ((i : Nat) : Int), .int .i64 0, .int .u64 0, .int .u64 0, .int .u64 0, .int .u64 0, .int .i64 0, .int .i64 0, .bool false] rfl).all 2 rfl [.int .i64 (((i : Nat) : Int) + 1), .int .i64 0] rfl).drew
    simp only [putCells, List.set] at stz
    generalize World.drew _ = wz at *
    clear p00 r00 p01 r01 p02 r02 p03 r03 p04 r04 p05 r05 p06 r06 p07 r07 p08 r08 p09 r09 p10 r10 p11 r11 p20 r20 p21 r21 p30 r30 p31 r31 p32 r32 p33 r33 p34 r34 p35 r35 p36 r36 p37 r37 p38 r38 p39 r39
    go_wp2
    refine ret_tokend (x := (kindTok 3)) (f := i) (b := w.heap.size) (b' := w.heap.size + 1) (j := (i + 1)) (e := 0) rfl rfl rfl (stz.get 3 rfl) (stz.get 2 rfl) rfl ⟨(kindTok 3), (i + 1), 0, rfl, ?_, stz.below⟩
    rw [show tokM (bytesN s) i = .ok (kindTok 3) (i + 1) from by unfold tokM; rw [HC.out]; rfl]
    exact ⟨rfl, rfl, rfl⟩
set_option maxRecDepth 100000 in
set_option maxHeartbeats 8000000 in
theorem refone_124 (s : ByteArray) (i : Nat) (hi : i < s.size) (hs : s.size ≤ 1048576) (hc : (s[i]'hi).toNat = 124) (w : World) :
    Calls Tryd.prog 41 #[.string s, .int .i64 ((i : Nat) : Int)] w fun v w' => ∃ (x : Tok) (j e : Nat), v = .returned (.tuple #[tokV x i 0, endV j e]) ∧ TokIs (tokM (bytesN s) i) x j e ∧ Below w.heap.size w w' := by
  have HC := Lib.hid (show (bytesN s)[i]? = some 124 by rw [get_at s hi, hc])
  go_enter Tryd.func41, Tryd.ntmps41
  go_upto_region 5 with fail
  have st := ((((St.nil w).alloc rfl [.int .i64 0, .int .i64 0, .int .i64 0, .int .u64 0, .int .u64 0, .int .u64 0, .int .u64 0, .int .i64 0, .int .i64 0, .bool false] 87).alloc (n := w.heap.size + 1) (by simp) [.int .i64 0, .int .i64 0] 88).alloc (n := w.heap.size + 2) (by simp) [.int .i64 (((i : Nat) : Int) + 1), .int .i64 0] 88).alloc (n := w.heap.size + 3) (by simp) [.int .i64 0, .int .i64 ((i : Nat) : Int), .int .i64 0, .int .u64 0, .int .u64 0, .int .u64 0, .int .u64 0, .int .i64 0, .int .i64 0, .bool false] 87
  generalize (((w.alloc _).alloc _).alloc _).alloc _ = wa at *
  obtain ⟨⟨p00, p01, p02, p03, p04, p05, p06, p07, p08, p09⟩, r00, r01, r02, r03, r04, r05, r06, r07, r08, r09⟩ := st.ten 0 rfl
  go_upto_region 24 with fail
  replace st := (st.set 0 rfl 0 (Value.int .i64 4))
  generalize World.setCell _ _ _ = wy at *
  replace st : St w _ [(w.heap.size + 3, 87, [.int .i64 4, .int .i64 ((i : Nat) : Int), .int .i64 0, .int .u64 0, .int .u64 0, .int .u64 0, .int .u64 0, .int .i64 0, .int .i64 0, .bool false]), (w.heap.size + 2, 88, [.int .i64 (((i : Nat) : Int) + 1), .int .i64 0]), (w.heap.size + 1, 88, [.int .i64 0, .int .i64 0]), (w.heap.size, 87, [.int .i64 0, .int .i64 0, .int .i64 0, .int .u64 0, .int .u64 0, .int .u64 0, .int .u64 0, .int .i64 0, .int .i64 0, .bool false])] := st
  clear p00 r00 p01 r01 p02 r02 p03 r03 p04 r04 p05 r05 p06 r06 p07 r07 p08 r08 p09 r09
  obtain ⟨⟨p00, p01, p02, p03, p04, p05, p06, p07, p08, p09⟩, r00, r01, r02, r03, r04, r05, r06, r07, r08, r09⟩ := st.ten 0 rfl
  obtain ⟨⟨p10, p11⟩, r10, r11⟩ := st.two 1 rfl
  obtain ⟨⟨p20, p21⟩, r20, r21⟩ := st.two 2 rfl
  obtain ⟨⟨p30, p31, p32, p33, p34, p35, p36, p37, p38, p39⟩, r30, r31, r32, r33, r34, r35, r36, r37, r38, r39⟩ := st.ten 3 rfl
  go_wp2_with fail
  go_region
  all_goals
    have stz := ((st.all 3 rfl [.int .i64 4, .int .i64 ((i : Nat) : Int), .int .i64 0, .int .u64 0, .int .u64 0, .int .u64 0, .int .u64 0, .int .i64 0, .int .i64 0, .bool false] rfl).all 2 rfl [.int .i64 (((i : Nat) : Int) + 1), .int .i64 0] rfl).drew
    simp only [putCells, List.set] at stz
    generalize World.drew _ = wz at *
    clear p00 r00 p01 r01 p02 r02 p03 r03 p04 r04 p05 r05 p06 r06 p07 r07 p08 r08 p09 r09 p10 r10 p11 r11 p20 r20 p21 r21 p30 r30 p31 r31 p32 r32 p33 r33 p34 r34 p35 r35 p36 r36 p37 r37 p38 r38 p39 r39
    go_wp2
    refine ret_tokend (x := (kindTok 4)) (f := i) (b := w.heap.size) (b' := w.heap.size + 1) (j := (i + 1)) (e := 0) rfl rfl rfl (stz.get 3 rfl) (stz.get 2 rfl) rfl ⟨(kindTok 4), (i + 1), 0, rfl, ?_, stz.below⟩
    rw [show tokM (bytesN s) i = .ok (kindTok 4) (i + 1) from by unfold tokM; rw [HC.out]; rfl]
    exact ⟨rfl, rfl, rfl⟩
set_option maxRecDepth 100000 in
set_option maxHeartbeats 8000000 in
theorem refone_40 (s : ByteArray) (i : Nat) (hi : i < s.size) (hs : s.size ≤ 1048576) (hc : (s[i]'hi).toNat = 40) (w : World) :
    Calls Tryd.prog 41 #[.string s, .int .i64 ((i : Nat) : Int)] w fun v w' => ∃ (x : Tok) (j e : Nat), v = .returned (.tuple #[tokV x i 0, endV j e]) ∧ TokIs (tokM (bytesN s) i) x j e ∧ Below w.heap.size w w' := by
  have HC := Lib.hid (show (bytesN s)[i]? = some 40 by rw [get_at s hi, hc])
  go_enter Tryd.func41, Tryd.ntmps41
  go_upto_region 5 with fail
  have st := ((((St.nil w).alloc rfl [.int .i64 0, .int .i64 0, .int .i64 0, .int .u64 0, .int .u64 0, .int .u64 0, .int .u64 0, .int .i64 0, .int .i64 0, .bool false] 87).alloc (n := w.heap.size + 1) (by simp) [.int .i64 0, .int .i64 0] 88).alloc (n := w.heap.size + 2) (by simp) [.int .i64 (((i : Nat) : Int) + 1), .int .i64 0] 88).alloc (n := w.heap.size + 3) (by simp) [.int .i64 0, .int .i64 ((i : Nat) : Int), .int .i64 0, .int .u64 0, .int .u64 0, .int .u64 0, .int .u64 0, .int .i64 0, .int .i64 0, .bool false] 87
  generalize (((w.alloc _).alloc _).alloc _).alloc _ = wa at *
  obtain ⟨⟨p00, p01, p02, p03, p04, p05, p06, p07, p08, p09⟩, r00, r01, r02, r03, r04, r05, r06, r07, r08, r09⟩ := st.ten 0 rfl
  go_upto_region 13 with fail
  replace st := (st.set 0 rfl 0 (Value.int .i64 1))
  generalize World.setCell _ _ _ = wy at *
  replace st : St w _ [(w.heap.size + 3, 87, [.int .i64 1, .int .i64 ((i : Nat) : Int), .int .i64 0, .int .u64 0, .int .u64 0, .int .u64 0, .int .u64 0, .int .i64 0, .int .i64 0, .bool false]), (w.heap.size + 2, 88, [.int .i64 (((i : Nat) : Int) + 1), .int .i64 0]), (w.heap.size + 1, 88, [.int .i64 0, .int .i64 0]), (w.heap.size, 87, [.int .i64 0, .int .i64 0, .int .i64 0, .int .u64 0, .int .u64 0, .int .u64 0, .int .u64 0, .int .i64 0, .int .i64 0, .bool false])] := st
  clear p00 r00 p01 r01 p02 r02 p03 r03 p04 r04 p05 r05 p06 r06 p07 r07 p08 r08 p09 r09
  rcases (show s.size ≤ i + 1 ∨ (∃ h : i + 1 < s.size, (s[i + 1]'h).toNat ≠ 63) ∨ ∃ h : i + 1 < s.size, (s[i + 1]'h).toNat = 63 from by
    rcases Nat.lt_or_ge (i + 1) s.size with h | h
    · by_cases h2 : (s[i + 1]'h).toNat = 63
      · exact .inr (.inr ⟨h, h2⟩)
      · exact .inr (.inl ⟨h, h2⟩)
    · exact .inl h) with hko | ⟨hki, hkn⟩ | ⟨hki, hke⟩
  · have hkD := Lib.hid (show (bytesN s)[i + 1]? ≠ some 63 from get_out hko)
    have hkD2 := Lib.hid hko
    have hkt : ¬((i : Nat) : Int) + 1 < ((s.size : Nat) : Int) := by omega
    have hkt2 : ((s.size : Nat) : Int) ≤ ((i : Nat) : Int) + 1 := by omega
    obtain ⟨⟨p00, p01, p02, p03, p04, p05, p06, p07, p08, p09⟩, r00, r01, r02, r03, r04, r05, r06, r07, r08, r09⟩ := st.ten 0 rfl
    obtain ⟨⟨p10, p11⟩, r10, r11⟩ := st.two 1 rfl
    obtain ⟨⟨p20, p21⟩, r20, r21⟩ := st.two 2 rfl
    obtain ⟨⟨p30, p31, p32, p33, p34, p35, p36, p37, p38, p39⟩, r30, r31, r32, r33, r34, r35, r36, r37, r38, r39⟩ := st.ten 3 rfl
    go_wp2_with fail
    go_region
    all_goals
      have stz := ((st.all 3 rfl [.int .i64 1, .int .i64 ((i : Nat) : Int), .int .i64 0, .int .u64 0, .int .u64 0, .int .u64 0, .int .u64 0, .int .i64 0, .int .i64 0, .bool false] rfl).all 2 rfl [.int .i64 (((i : Nat) : Int) + 1), .int .i64 0] rfl).drew
      simp only [putCells, List.set] at stz
      generalize World.drew _ = wz at *
      clear p00 r00 p01 r01 p02 r02 p03 r03 p04 r04 p05 r05 p06 r06 p07 r07 p08 r08 p09 r09 p10 r10 p11 r11 p20 r20 p21 r21 p30 r30 p31 r31 p32 r32 p33 r33 p34 r34 p35 r35 p36 r36 p37 r37 p38 r38 p39 r39
      go_wp2
      refine ret_tokend (x := (kindTok 1)) (f := i) (b := w.heap.size) (b' := w.heap.size + 1) (j := (i + 1)) (e := 0) rfl rfl rfl (stz.get 3 rfl) (stz.get 2 rfl) rfl ⟨(kindTok 1), (i + 1), 0, rfl, ?_, stz.below⟩
      rw [show tokM (bytesN s) i = groupM (bytesN s) i from by unfold tokM; rw [HC.out]; rfl]
      unfold groupM
      rw [if_neg hkD.out]
      exact ⟨rfl, rfl, rfl⟩
  · have hkD := Lib.hid (show (bytesN s)[i + 1]? ≠ some 63 from get_ne hki hkn)
    have hkt : ((i : Nat) : Int) + 1 < ((s.size : Nat) : Int) := by omega
    have hkq : ((((s[i + 1]'hki).toNat : Nat) : Int) == 63) = false := by rw [beq_eq_false_iff_ne]; omega
    have hkp : ((((s[i + 1]'hki).toNat : Nat) : Int) != 63) = true := by rw [bne_iff_ne]; omega
    clear hkn
    obtain ⟨⟨p00, p01, p02, p03, p04, p05, p06, p07, p08, p09⟩, r00, r01, r02, r03, r04, r05, r06, r07, r08, r09⟩ := st.ten 0 rfl
    obtain ⟨⟨p10, p11⟩, r10, r11⟩ := st.two 1 rfl
    obtain ⟨⟨p20, p21⟩, r20, r21⟩ := st.two 2 rfl
    obtain ⟨⟨p30, p31, p32, p33, p34, p35, p36, p37, p38, p39⟩, r30, r31, r32, r33, r34, r35, r36, r37, r38, r39⟩ := st.ten 3 rfl
    go_wp2_with fail
    go_region
    all_goals
      have stz := ((st.all 3 rfl [.int .i64 1, .int .i64 ((i : Nat) : Int), .int .i64 0, .int .u64 0, .int .u64 0, .int .u64 0, .int .u64 0, .int .i64 0, .int .i64 0, .bool false] rfl).all 2 rfl [.int .i64 (((i : Nat) : Int) + 1), .int .i64 0] rfl).drew
      simp only [putCells, List.set] at stz
      generalize World.drew _ = wz at *
      clear p00 r00 p01 r01 p02 r02 p03 r03 p04 r04 p05 r05 p06 r06 p07 r07 p08 r08 p09 r09 p10 r10 p11 r11 p20 r20 p21 r21 p30 r30 p31 r31 p32 r32 p33 r33 p34 r34 p35 r35 p36 r36 p37 r37 p38 r38 p39 r39
      go_wp2
      refine ret_tokend (x := (kindTok 1)) (f := i) (b := w.heap.size) (b' := w.heap.size + 1) (j := (i + 1)) (e := 0) rfl rfl rfl (stz.get 3 rfl) (stz.get 2 rfl) rfl ⟨(kindTok 1), (i + 1), 0, rfl, ?_, stz.below⟩
      rw [show tokM (bytesN s) i = groupM (bytesN s) i from by unfold tokM; rw [HC.out]; rfl]
      unfold groupM
      rw [if_neg hkD.out]
      exact ⟨rfl, rfl, rfl⟩
  · have hkD := Lib.hid (show (bytesN s)[i + 1]? = some 63 by rw [get_at s hki, hke])
    have hkE := Lib.hid hke
    have hkt : ((i : Nat) : Int) + 1 < ((s.size : Nat) : Int) := by omega
    have hkq : ((((s[i + 1]'hki).toNat : Nat) : Int) == 63) = true := by rw [beq_iff_eq]; omega
    have hkp : ((((s[i + 1]'hki).toNat : Nat) : Int) != 63) = false := by rw [bne_eq_false_iff_eq]; omega
    clear hke
    obtain ⟨⟨p00, p01, p02, p03, p04, p05, p06, p07, p08, p09⟩, r00, r01, r02, r03, r04, r05, r06, r07, r08, r09⟩ := st.ten 0 rfl
    go_upto_region 15 with fail
    replace st := (st.set 0 rfl 0 (Value.int .i64 2))
    generalize World.setCell _ _ _ = wy at *
    replace st : St w _ [(w.heap.size + 3, 87, [.int .i64 2, .int .i64 ((i : Nat) : Int), .int .i64 0, .int .u64 0, .int .u64 0, .int .u64 0, .int .u64 0, .int .i64 0, .int .i64 0, .bool false]), (w.heap.size + 2, 88, [.int .i64 (((i : Nat) : Int) + 1), .int .i64 0]), (w.heap.size + 1, 88, [.int .i64 0, .int .i64 0]), (w.heap.size, 87, [.int .i64 0, .int .i64 0, .int .i64 0, .int .u64 0, .int .u64 0, .int .u64 0, .int .u64 0, .int .i64 0, .int .i64 0, .bool false])] := st
    clear p00 r00 p01 r01 p02 r02 p03 r03 p04 r04 p05 r05 p06 r06 p07 r07 p08 r08 p09 r09
    obtain ⟨⟨p10, p11⟩, r10, r11⟩ := st.two 1 rfl
    go_upto_region 16 with fail
    replace st := ((st.set 1 rfl 0 (Value.int .i64 (((i : Nat) : Int) + 3))).set 1 rfl 1 (Value.int .i64 0))
    generalize World.setCell _ _ _ = wy at *
    replace st : St w _ [(w.heap.size + 3, 87, [.int .i64 2, .int .i64 ((i : Nat) : Int), .int .i64 0, .int .u64 0, .int .u64 0, .int .u64 0, .int .u64 0, .int .i64 0, .int .i64 0, .bool false]), (w.heap.size + 2, 88, [.int .i64 (((i : Nat) : Int) + 3), .int .i64 0]), (w.heap.size + 1, 88, [.int .i64 0, .int .i64 0]), (w.heap.size, 87, [.int .i64 0, .int .i64 0, .int .i64 0, .int .u64 0, .int .u64 0, .int .u64 0, .int .u64 0, .int .i64 0, .int .i64 0, .bool false])] := st
    clear p10 r10 p11 r11
    rcases (show s.size ≤ i + 2 ∨ (∃ h : i + 2 < s.size, (s[i + 2]'h).toNat ≠ 58) ∨ ∃ h : i + 2 < s.size, (s[i + 2]'h).toNat = 58 from by
      rcases Nat.lt_or_ge (i + 2) s.size with h | h
      · by_cases h2 : (s[i + 2]'h).toNat = 58
        · exact .inr (.inr ⟨h, h2⟩)
        · exact .inr (.inl ⟨h, h2⟩)
      · exact .inl h) with hmo | ⟨hmi, hmn⟩ | ⟨hmi, hme⟩
    · have hmD := Lib.hid (show (bytesN s)[i + 2]? ≠ some 58 from get_out hmo)
      have hmD2 := Lib.hid hmo
      have hmt : ¬((i : Nat) : Int) + 2 < ((s.size : Nat) : Int) := by omega
      have hmt2 : ((s.size : Nat) : Int) ≤ ((i : Nat) : Int) + 2 := by omega
      obtain ⟨⟨p10, p11⟩, r10, r11⟩ := st.two 1 rfl
      go_upto_region 18 with fail
      replace st := ((st.set 1 rfl 0 (Value.int .i64 ((i : Nat) : Int))).set 1 rfl 1 (Value.int .i64 6))
      generalize World.setCell _ _ _ = wy at *
      replace st : St w _ [(w.heap.size + 3, 87, [.int .i64 2, .int .i64 ((i : Nat) : Int), .int .i64 0, .int .u64 0, .int .u64 0, .int .u64 0, .int .u64 0, .int .i64 0, .int .i64 0, .bool false]), (w.heap.size + 2, 88, [.int .i64 ((i : Nat) : Int), .int .i64 6]), (w.heap.size + 1, 88, [.int .i64 0, .int .i64 0]), (w.heap.size, 87, [.int .i64 0, .int .i64 0, .int .i64 0, .int .u64 0, .int .u64 0, .int .u64 0, .int .u64 0, .int .i64 0, .int .i64 0, .bool false])] := st
      clear p10 r10 p11 r11
      obtain ⟨⟨p00, p01, p02, p03, p04, p05, p06, p07, p08, p09⟩, r00, r01, r02, r03, r04, r05, r06, r07, r08, r09⟩ := st.ten 0 rfl
      obtain ⟨⟨p10, p11⟩, r10, r11⟩ := st.two 1 rfl
      obtain ⟨⟨p20, p21⟩, r20, r21⟩ := st.two 2 rfl
      obtain ⟨⟨p30, p31, p32, p33, p34, p35, p36, p37, p38, p39⟩, r30, r31, r32, r33, r34, r35, r36, r37, r38, r39⟩ := st.ten 3 rfl
      go_wp2_with fail
      go_region
      all_goals
        have stz := ((st.all 3 rfl [.int .i64 2, .int .i64 ((i : Nat) : Int), .int .i64 0, .int .u64 0, .int .u64 0, .int .u64 0, .int .u64 0, .int .i64 0, .int .i64 0, .bool false] rfl).all 2 rfl [.int .i64 ((i : Nat) : Int), .int .i64 6] rfl).drew
        simp only [putCells, List.set] at stz
        generalize World.drew _ = wz at *
        clear p00 r00 p01 r01 p02 r02 p03 r03 p04 r04 p05 r05 p06 r06 p07 r07 p08 r08 p09 r09 p10 r10 p11 r11 p20 r20 p21 r21 p30 r30 p31 r31 p32 r32 p33 r33 p34 r34 p35 r35 p36 r36 p37 r37 p38 r38 p39 r39
        go_wp2
        refine ret_tokend (x := (kindTok 2)) (f := i) (b := w.heap.size) (b' := w.heap.size + 1) (j := i) (e := 6) rfl rfl rfl (stz.get 3 rfl) (stz.get 2 rfl) rfl ⟨(kindTok 2), i, 6, rfl, ?_, stz.below⟩
        rw [show tokM (bytesN s) i = groupM (bytesN s) i from by unfold tokM; rw [HC.out]; rfl]
        unfold groupM
        rw [if_pos hkD.out, if_neg hmD.out]
        exact ⟨rfl, rfl, by omega⟩
    · have hmD := Lib.hid (show (bytesN s)[i + 2]? ≠ some 58 from get_ne hmi hmn)
      have hmt : ((i : Nat) : Int) + 2 < ((s.size : Nat) : Int) := by omega
      have hmq : ((((s[i + 2]'hmi).toNat : Nat) : Int) == 58) = false := by rw [beq_eq_false_iff_ne]; omega
      have hmp : ((((s[i + 2]'hmi).toNat : Nat) : Int) != 58) = true := by rw [bne_iff_ne]; omega
      clear hmn
      obtain ⟨⟨p10, p11⟩, r10, r11⟩ := st.two 1 rfl
      go_upto_region 18 with fail
      replace st := ((st.set 1 rfl 0 (Value.int .i64 ((i : Nat) : Int))).set 1 rfl 1 (Value.int .i64 6))
      generalize World.setCell _ _ _ = wy at *
      replace st : St w _ [(w.heap.size + 3, 87, [.int .i64 2, .int .i64 ((i : Nat) : Int), .int .i64 0, .int .u64 0, .int .u64 0, .int .u64 0, .int .u64 0, .int .i64 0, .int .i64 0, .bool false]), (w.heap.size + 2, 88, [.int .i64 ((i : Nat) : Int), .int .i64 6]), (w.heap.size + 1, 88, [.int .i64 0, .int .i64 0]), (w.heap.size, 87, [.int .i64 0, .int .i64 0, .int .i64 0, .int .u64 0, .int .u64 0, .int .u64 0, .int .u64 0, .int .i64 0, .int .i64 0, .bool false])] := st
      clear p10 r10 p11 r11
      obtain ⟨⟨p00, p01, p02, p03, p04, p05, p06, p07, p08, p09⟩, r00, r01, r02, r03, r04, r05, r06, r07, r08, r09⟩ := st.ten 0 rfl
      obtain ⟨⟨p10, p11⟩, r10, r11⟩ := st.two 1 rfl
      obtain ⟨⟨p20, p21⟩, r20, r21⟩ := st.two 2 rfl
      obtain ⟨⟨p30, p31, p32, p33, p34, p35, p36, p37, p38, p39⟩, r30, r31, r32, r33, r34, r35, r36, r37, r38, r39⟩ := st.ten 3 rfl
      go_wp2_with fail
      go_region
      all_goals
        have stz := ((st.all 3 rfl [.int .i64 2, .int .i64 ((i : Nat) : Int), .int .i64 0, .int .u64 0, .int .u64 0, .int .u64 0, .int .u64 0, .int .i64 0, .int .i64 0, .bool false] rfl).all 2 rfl [.int .i64 ((i : Nat) : Int), .int .i64 6] rfl).drew
        simp only [putCells, List.set] at stz
        generalize World.drew _ = wz at *
        clear p00 r00 p01 r01 p02 r02 p03 r03 p04 r04 p05 r05 p06 r06 p07 r07 p08 r08 p09 r09 p10 r10 p11 r11 p20 r20 p21 r21 p30 r30 p31 r31 p32 r32 p33 r33 p34 r34 p35 r35 p36 r36 p37 r37 p38 r38 p39 r39
        go_wp2
        refine ret_tokend (x := (kindTok 2)) (f := i) (b := w.heap.size) (b' := w.heap.size + 1) (j := i) (e := 6) rfl rfl rfl (stz.get 3 rfl) (stz.get 2 rfl) rfl ⟨(kindTok 2), i, 6, rfl, ?_, stz.below⟩
        rw [show tokM (bytesN s) i = groupM (bytesN s) i from by unfold tokM; rw [HC.out]; rfl]
        unfold groupM
        rw [if_pos hkD.out, if_neg hmD.out]
        exact ⟨rfl, rfl, by omega⟩
    · have hmD := Lib.hid (show (bytesN s)[i + 2]? = some 58 by rw [get_at s hmi, hme])
      have hmE := Lib.hid hme
      have hmt : ((i : Nat) : Int) + 2 < ((s.size : Nat) : Int) := by omega
      have hmq : ((((s[i + 2]'hmi).toNat : Nat) : Int) == 58) = true := by rw [beq_iff_eq]; omega
      have hmp : ((((s[i + 2]'hmi).toNat : Nat) : Int) != 58) = false := by rw [bne_eq_false_iff_eq]; omega
      clear hme
      obtain ⟨⟨p00, p01, p02, p03, p04, p05, p06, p07, p08, p09⟩, r00, r01, r02, r03, r04, r05, r06, r07, r08, r09⟩ := st.ten 0 rfl
      obtain ⟨⟨p10, p11⟩, r10, r11⟩ := st.two 1 rfl
      obtain ⟨⟨p20, p21⟩, r20, r21⟩ := st.two 2 rfl
      obtain ⟨⟨p30, p31, p32, p33, p34, p35, p36, p37, p38, p39⟩, r30, r31, r32, r33, r34, r35, r36, r37, r38, r39⟩ := st.ten 3 rfl
      go_wp2_with fail
      go_region
      all_goals
        have stz := ((st.all 3 rfl [.int .i64 2, .int .i64 ((i : Nat) : Int), .int .i64 0, .int .u64 0, .int .u64 0, .int .u64 0, .int .u64 0, .int .i64 0, .int .i64 0, .bool false] rfl).all 2 rfl [.int .i64 (((i : Nat) : Int) + 3), .int .i64 0] rfl).drew
        simp only [putCells, List.set] at stz
        generalize World.drew _ = wz at *
        clear p00 r00 p01 r01 p02 r02 p03 r03 p04 r04 p05 r05 p06 r06 p07 r07 p08 r08 p09 r09 p10 r10 p11 r11 p20 r20 p21 r21 p30 r30 p31 r31 p32 r32 p33 r33 p34 r34 p35 r35 p36 r36 p37 r37 p38 r38 p39 r39
        go_wp2
        refine ret_tokend (x := (kindTok 2)) (f := i) (b := w.heap.size) (b' := w.heap.size + 1) (j := (i + 3)) (e := 0) rfl rfl rfl (stz.get 3 rfl) (stz.get 2 rfl) rfl ⟨(kindTok 2), (i + 3), 0, rfl, ?_, stz.below⟩
        rw [show tokM (bytesN s) i = groupM (bytesN s) i from by unfold tokM; rw [HC.out]; rfl]
        unfold groupM
        rw [if_pos hkD.out, if_pos hmD.out]
        exact ⟨rfl, rfl, rfl⟩
set_option maxRecDepth 100000 in
set_option maxHeartbeats 8000000 in
theorem refone_46 (s : ByteArray) (i : Nat) (hi : i < s.size) (hs : s.size ≤ 1048576) (hc : (s[i]'hi).toNat = 46) (w : World) :
    Calls Tryd.prog 41 #[.string s, .int .i64 ((i : Nat) : Int)] w fun v w' => ∃ (x : Tok) (j e : Nat), v = .returned (.tuple #[tokV x i 0, endV j e]) ∧ TokIs (tokM (bytesN s) i) x j e ∧ Below w.heap.size w w' := by
  have HC := Lib.hid (show (bytesN s)[i]? = some 46 by rw [get_at s hi, hc])
  go_enter Tryd.func41, Tryd.ntmps41
  go_upto_region 5 with fail
  have st := ((((St.nil w).alloc rfl [.int .i64 0, .int .i64 0, .int .i64 0, .int .u64 0, .int .u64 0, .int .u64 0, .int .u64 0, .int .i64 0, .int .i64 0, .bool false] 87).alloc (n := w.heap.size + 1) (by simp) [.int .i64 0, .int .i64 0] 88).alloc (n := w.heap.size + 2) (by simp) [.int .i64 (((i : Nat) : Int) + 1), .int .i64 0] 88).alloc (n := w.heap.size + 3) (by simp) [.int .i64 0, .int .i64 ((i : Nat) : Int), .int .i64 0, .int .u64 0, .int .u64 0, .int .u64 0, .int .u64 0, .int .i64 0, .int .i64 0, .bool false] 87
  generalize (((w.alloc _).alloc _).alloc _).alloc _ = wa at *
  obtain ⟨⟨p00, p01, p02, p03, p04, p05, p06, p07, p08, p09⟩, r00, r01, r02, r03, r04, r05, r06, r07, r08, r09⟩ := st.ten 0 rfl
  go_wp2_with fail
  refine (st.alloc rfl (prsL [(10, 10)]) 42).at ?_
  intro w1 st
  refine (some_at [(10, 10)] true (st.get 0 rfl) (by simp)).mono ?_
  rintro v w2 ⟨rfl, hb⟩
  replace st := (st.below' hb).tail
  clear hb p00 r00 p01 r01 p02 r02 p03 r03 p04 r04 p05 r05 p06 r06 p07 r07 p08 r08 p09 r09
  rw [some_not]
  unfold setV
  obtain ⟨⟨p00, p01, p02, p03, p04, p05, p06, p07, p08, p09⟩, r00, r01, r02, r03, r04, r05, r06, r07, r08, r09⟩ := st.ten 0 rfl
  go_upto_region 27 with fail
  replace st := ((((st.set 0 rfl 3 (Value.int .u64 (word (notM (oneM 10)) 0))).set 0 rfl 4 (Value.int .u64 (word (notM (oneM 10)) 1))).set 0 rfl 5 (Value.int .u64 (word (notM (oneM 10)) 2))).set 0 rfl 6 (Value.int .u64 (word (notM (oneM 10)) 3)))
  generalize World.setCell _ _ _ = wy at *
  replace st : St w _ [(w.heap.size + 3, 87, [.int .i64 0, .int .i64 ((i : Nat) : Int), .int .i64 0, .int .u64 (word (notM (oneM 10)) 0), .int .u64 (word (notM (oneM 10)) 1), .int .u64 (word (notM (oneM 10)) 2), .int .u64 (word (notM (oneM 10)) 3), .int .i64 0, .int .i64 0, .bool false]), (w.heap.size + 2, 88, [.int .i64 (((i : Nat) : Int) + 1), .int .i64 0]), (w.heap.size + 1, 88, [.int .i64 0, .int .i64 0]), (w.heap.size, 87, [.int .i64 0, .int .i64 0, .int .i64 0, .int .u64 0, .int .u64 0, .int .u64 0, .int .u64 0, .int .i64 0, .int .i64 0, .bool false])] := st
  clear p00 r00 p01 r01 p02 r02 p03 r03 p04 r04 p05 r05 p06 r06 p07 r07 p08 r08 p09 r09
  obtain ⟨⟨p00, p01, p02, p03, p04, p05, p06, p07, p08, p09⟩, r00, r01, r02, r03, r04, r05, r06, r07, r08, r09⟩ := st.ten 0 rfl
  obtain ⟨⟨p10, p11⟩, r10, r11⟩ := st.two 1 rfl
  obtain ⟨⟨p20, p21⟩, r20, r21⟩ := st.two 2 rfl
  obtain ⟨⟨p30, p31, p32, p33, p34, p35, p36, p37, p38, p39⟩, r30, r31, r32, r33, r34, r35, r36, r37, r38, r39⟩ := st.ten 3 rfl
  go_wp2_with fail
  go_region
  all_goals
    have stz := ((st.all 3 rfl [.int .i64 0, .int .i64 ((i : Nat) : Int), .int .i64 0, .int .u64 (word (notM (oneM 10)) 0), .int .u64 (word (notM (oneM 10)) 1), .int .u64 (word (notM (oneM 10)) 2), .int .u64 (word (notM (oneM 10)) 3), .int .i64 0, .int .i64 0, .bool false] rfl).all 2 rfl [.int .i64 (((i : Nat) : Int) + 1), .int .i64 0] rfl).drew
    simp only [putCells, List.set] at stz
    generalize World.drew _ = wz at *
    clear p00 r00 p01 r01 p02 r02 p03 r03 p04 r04 p05 r05 p06 r06 p07 r07 p08 r08 p09 r09 p10 r10 p11 r11 p20 r20 p21 r21 p30 r30 p31 r31 p32 r32 p33 r33 p34 r34 p35 r35 p36 r36 p37 r37 p38 r38 p39 r39
    go_wp2
    refine ret_tokend (x := (setTok (notM (oneM 10)))) (f := i) (b := w.heap.size) (b' := w.heap.size + 1) (j := (i + 1)) (e := 0) rfl rfl rfl (stz.get 3 rfl) (stz.get 2 rfl) rfl ⟨(setTok (notM (oneM 10))), (i + 1), 0, rfl, ?_, stz.below⟩
    rw [show tokM (bytesN s) i = .ok (setTok (notM (oneM 10))) (i + 1) from by unfold tokM; rw [HC.out]; rfl]
    exact ⟨rfl, rfl, rfl⟩
set_option maxRecDepth 100000 in
set_option maxHeartbeats 8000000 in
theorem refone_94 (s : ByteArray) (i : Nat) (hi : i < s.size) (hs : s.size ≤ 1048576) (hc : (s[i]'hi).toNat = 94) (w : World) :
    Calls Tryd.prog 41 #[.string s, .int .i64 ((i : Nat) : Int)] w fun v w' => ∃ (x : Tok) (j e : Nat), v = .returned (.tuple #[tokV x i 0, endV j e]) ∧ TokIs (tokM (bytesN s) i) x j e ∧ Below w.heap.size w w' := by
  have HC := Lib.hid (show (bytesN s)[i]? = some 94 by rw [get_at s hi, hc])
  go_enter Tryd.func41, Tryd.ntmps41
  go_upto_region 5 with fail
  have st := ((((St.nil w).alloc rfl [.int .i64 0, .int .i64 0, .int .i64 0, .int .u64 0, .int .u64 0, .int .u64 0, .int .u64 0, .int .i64 0, .int .i64 0, .bool false] 87).alloc (n := w.heap.size + 1) (by simp) [.int .i64 0, .int .i64 0] 88).alloc (n := w.heap.size + 2) (by simp) [.int .i64 (((i : Nat) : Int) + 1), .int .i64 0] 88).alloc (n := w.heap.size + 3) (by simp) [.int .i64 0, .int .i64 ((i : Nat) : Int), .int .i64 0, .int .u64 0, .int .u64 0, .int .u64 0, .int .u64 0, .int .i64 0, .int .i64 0, .bool false] 87
  generalize (((w.alloc _).alloc _).alloc _).alloc _ = wa at *
  obtain ⟨⟨p00, p01, p02, p03, p04, p05, p06, p07, p08, p09⟩, r00, r01, r02, r03, r04, r05, r06, r07, r08, r09⟩ := st.ten 0 rfl
  obtain ⟨⟨p10, p11⟩, r10, r11⟩ := st.two 1 rfl
  obtain ⟨⟨p20, p21⟩, r20, r21⟩ := st.two 2 rfl
  obtain ⟨⟨p30, p31, p32, p33, p34, p35, p36, p37, p38, p39⟩, r30, r31, r32, r33, r34, r35, r36, r37, r38, r39⟩ := st.ten 3 rfl
  go_wp2
  all_goals
    have stz := ((st.all 3 rfl [.int .i64 0, .int .i64 ((i : Nat) : Int), .int .i64 0, .int .u64 0, .int .u64 0, .int .u64 0, .int .u64 0, .int .i64 0, .int .i64 0, .bool false] rfl).all 2 rfl [.int .i64 ((i : Nat) : Int), .int .i64 6] rfl)
    simp only [putCells, List.set] at stz
    refine ret_tokend (x := zeroTok) (f := i) (b := w.heap.size) (b' := w.heap.size + 1) (j := i) (e := 6) rfl rfl rfl (stz.get 3 rfl) (stz.get 2 rfl) rfl ⟨zeroTok, i, 6, rfl, ?_, stz.below⟩
    rw [show tokM (bytesN s) i = .err i 6 from by unfold tokM; rw [HC.out]; rfl]
    exact ⟨rfl, rfl, by omega⟩
set_option maxRecDepth 100000 in
set_option maxHeartbeats 8000000 in
theorem refone_36 (s : ByteArray) (i : Nat) (hi : i < s.size) (hs : s.size ≤ 1048576) (hc : (s[i]'hi).toNat = 36) (w : World) :
    Calls Tryd.prog 41 #[.string s, .int .i64 ((i : Nat) : Int)] w fun v w' => ∃ (x : Tok) (j e : Nat), v = .returned (.tuple #[tokV x i 0, endV j e]) ∧ TokIs (tokM (bytesN s) i) x j e ∧ Below w.heap.size w w' := by
  have HC := Lib.hid (show (bytesN s)[i]? = some 36 by rw [get_at s hi, hc])
  go_enter Tryd.func41, Tryd.ntmps41
  go_upto_region 5 with fail
  have st := ((((St.nil w).alloc rfl [.int .i64 0, .int .i64 0, .int .i64 0, .int .u64 0, .int .u64 0, .int .u64 0, .int .u64 0, .int .i64 0, .int .i64 0, .bool false] 87).alloc (n := w.heap.size + 1) (by simp) [.int .i64 0, .int .i64 0] 88).alloc (n := w.heap.size + 2) (by simp) [.int .i64 (((i : Nat) : Int) + 1), .int .i64 0] 88).alloc (n := w.heap.size + 3) (by simp) [.int .i64 0, .int .i64 ((i : Nat) : Int), .int .i64 0, .int .u64 0, .int .u64 0, .int .u64 0, .int .u64 0, .int .i64 0, .int .i64 0, .bool false] 87
  generalize (((w.alloc _).alloc _).alloc _).alloc _ = wa at *
  obtain ⟨⟨p00, p01, p02, p03, p04, p05, p06, p07, p08, p09⟩, r00, r01, r02, r03, r04, r05, r06, r07, r08, r09⟩ := st.ten 0 rfl
  obtain ⟨⟨p10, p11⟩, r10, r11⟩ := st.two 1 rfl
  obtain ⟨⟨p20, p21⟩, r20, r21⟩ := st.two 2 rfl
  obtain ⟨⟨p30, p31, p32, p33, p34, p35, p36, p37, p38, p39⟩, r30, r31, r32, r33, r34, r35, r36, r37, r38, r39⟩ := st.ten 3 rfl
  go_wp2
  all_goals
    have stz := ((st.all 3 rfl [.int .i64 0, .int .i64 ((i : Nat) : Int), .int .i64 0, .int .u64 0, .int .u64 0, .int .u64 0, .int .u64 0, .int .i64 0, .int .i64 0, .bool false] rfl).all 2 rfl [.int .i64 ((i : Nat) : Int), .int .i64 6] rfl)
    simp only [putCells, List.set] at stz
    refine ret_tokend (x := zeroTok) (f := i) (b := w.heap.size) (b' := w.heap.size + 1) (j := i) (e := 6) rfl rfl rfl (stz.get 3 rfl) (stz.get 2 rfl) rfl ⟨zeroTok, i, 6, rfl, ?_, stz.below⟩
    rw [show tokM (bytesN s) i = .err i 6 from by unfold tokM; rw [HC.out]; rfl]
    exact ⟨rfl, rfl, by omega⟩
set_option maxRecDepth 100000 in
set_option maxHeartbeats 8000000 in
theorem refone_93 (s : ByteArray) (i : Nat) (hi : i < s.size) (hs : s.size ≤ 1048576) (hc : (s[i]'hi).toNat = 93) (w : World) :
    Calls Tryd.prog 41 #[.string s, .int .i64 ((i : Nat) : Int)] w fun v w' => ∃ (x : Tok) (j e : Nat), v = .returned (.tuple #[tokV x i 0, endV j e]) ∧ TokIs (tokM (bytesN s) i) x j e ∧ Below w.heap.size w w' := by
  have HC := Lib.hid (show (bytesN s)[i]? = some 93 by rw [get_at s hi, hc])
  go_enter Tryd.func41, Tryd.ntmps41
  go_upto_region 5 with fail
  have st := ((((St.nil w).alloc rfl [.int .i64 0, .int .i64 0, .int .i64 0, .int .u64 0, .int .u64 0, .int .u64 0, .int .u64 0, .int .i64 0, .int .i64 0, .bool false] 87).alloc (n := w.heap.size + 1) (by simp) [.int .i64 0, .int .i64 0] 88).alloc (n := w.heap.size + 2) (by simp) [.int .i64 (((i : Nat) : Int) + 1), .int .i64 0] 88).alloc (n := w.heap.size + 3) (by simp) [.int .i64 0, .int .i64 ((i : Nat) : Int), .int .i64 0, .int .u64 0, .int .u64 0, .int .u64 0, .int .u64 0, .int .i64 0, .int .i64 0, .bool false] 87
  generalize (((w.alloc _).alloc _).alloc _).alloc _ = wa at *
  obtain ⟨⟨p00, p01, p02, p03, p04, p05, p06, p07, p08, p09⟩, r00, r01, r02, r03, r04, r05, r06, r07, r08, r09⟩ := st.ten 0 rfl
  obtain ⟨⟨p10, p11⟩, r10, r11⟩ := st.two 1 rfl
  obtain ⟨⟨p20, p21⟩, r20, r21⟩ := st.two 2 rfl
  obtain ⟨⟨p30, p31, p32, p33, p34, p35, p36, p37, p38, p39⟩, r30, r31, r32, r33, r34, r35, r36, r37, r38, r39⟩ := st.ten 3 rfl
  go_wp2
  all_goals
    have stz := ((st.all 3 rfl [.int .i64 0, .int .i64 ((i : Nat) : Int), .int .i64 0, .int .u64 0, .int .u64 0, .int .u64 0, .int .u64 0, .int .i64 0, .int .i64 0, .bool false] rfl).all 2 rfl [.int .i64 ((i : Nat) : Int), .int .i64 4] rfl)
    simp only [putCells, List.set] at stz
    refine ret_tokend (x := zeroTok) (f := i) (b := w.heap.size) (b' := w.heap.size + 1) (j := i) (e := 4) rfl rfl rfl (stz.get 3 rfl) (stz.get 2 rfl) rfl ⟨zeroTok, i, 4, rfl, ?_, stz.below⟩
    rw [show tokM (bytesN s) i = .err i 4 from by unfold tokM; rw [HC.out]; rfl]
    exact ⟨rfl, rfl, by omega⟩
set_option maxRecDepth 100000 in
set_option maxHeartbeats 8000000 in
theorem refone_125 (s : ByteArray) (i : Nat) (hi : i < s.size) (hs : s.size ≤ 1048576) (hc : (s[i]'hi).toNat = 125) (w : World) :
    Calls Tryd.prog 41 #[.string s, .int .i64 ((i : Nat) : Int)] w fun v w' => ∃ (x : Tok) (j e : Nat), v = .returned (.tuple #[tokV x i 0, endV j e]) ∧ TokIs (tokM (bytesN s) i) x j e ∧ Below w.heap.size w w' := by
  have HC := Lib.hid (show (bytesN s)[i]? = some 125 by rw [get_at s hi, hc])
  go_enter Tryd.func41, Tryd.ntmps41
  go_upto_region 5 with fail
  have st := ((((St.nil w).alloc rfl [.int .i64 0, .int .i64 0, .int .i64 0, .int .u64 0, .int .u64 0, .int .u64 0, .int .u64 0, .int .i64 0, .int .i64 0, .bool false] 87).alloc (n := w.heap.size + 1) (by simp) [.int .i64 0, .int .i64 0] 88).alloc (n := w.heap.size + 2) (by simp) [.int .i64 (((i : Nat) : Int) + 1), .int .i64 0] 88).alloc (n := w.heap.size + 3) (by simp) [.int .i64 0, .int .i64 ((i : Nat) : Int), .int .i64 0, .int .u64 0, .int .u64 0, .int .u64 0, .int .u64 0, .int .i64 0, .int .i64 0, .bool false] 87
  generalize (((w.alloc _).alloc _).alloc _).alloc _ = wa at *
  obtain ⟨⟨p00, p01, p02, p03, p04, p05, p06, p07, p08, p09⟩, r00, r01, r02, r03, r04, r05, r06, r07, r08, r09⟩ := st.ten 0 rfl
  obtain ⟨⟨p10, p11⟩, r10, r11⟩ := st.two 1 rfl
  obtain ⟨⟨p20, p21⟩, r20, r21⟩ := st.two 2 rfl
  obtain ⟨⟨p30, p31, p32, p33, p34, p35, p36, p37, p38, p39⟩, r30, r31, r32, r33, r34, r35, r36, r37, r38, r39⟩ := st.ten 3 rfl
  go_wp2
  all_goals
    have stz := ((st.all 3 rfl [.int .i64 0, .int .i64 ((i : Nat) : Int), .int .i64 0, .int .u64 0, .int .u64 0, .int .u64 0, .int .u64 0, .int .i64 0, .int .i64 0, .bool false] rfl).all 2 rfl [.int .i64 ((i : Nat) : Int), .int .i64 4] rfl)
    simp only [putCells, List.set] at stz
    refine ret_tokend (x := zeroTok) (f := i) (b := w.heap.size) (b' := w.heap.size + 1) (j := i) (e := 4) rfl rfl rfl (stz.get 3 rfl) (stz.get 2 rfl) rfl ⟨zeroTok, i, 4, rfl, ?_, stz.below⟩
    rw [show tokM (bytesN s) i = .err i 4 from by unfold tokM; rw [HC.out]; rfl]
    exact ⟨rfl, rfl, by omega⟩
set_option maxRecDepth 100000 in
set_option maxHeartbeats 8000000 in
theorem refone_other (s : ByteArray) (i : Nat) (hi : i < s.size) (hs : s.size ≤ 1048576) (c : Nat) (hc : (s[i]'hi).toNat = c) (n92 : c ≠ 92) (n91 : c ≠ 91) (n40 : c ≠ 40) (n41 : c ≠ 41) (n124 : c ≠ 124) (n46 : c ≠ 46) (n94 : c ≠ 94) (n36 : c ≠ 36) (n93 : c ≠ 93) (n125 : c ≠ 125) (n42 : c ≠ 42) (n43 : c ≠ 43) (n63 : c ≠ 63) (n123 : c ≠ 123) (w : World) :
    Calls Tryd.prog 41 #[.string s, .int .i64 ((i : Nat) : Int)] w fun v w' => ∃ (x : Tok) (j e : Nat), v = .returned (.tuple #[tokV x i 0, endV j e]) ∧ TokIs (tokM (bytesN s) i) x j e ∧ Below w.heap.size w w' := by
  have HT := Lib.hid (tok_other (t := bytesN s) (i := i) (c := c) (by rw [get_at s hi, hc]) n92 n91 n40 n41 n124 n46 n94 n36 n93 n125 n42 n43 n63 n123)
  have HN := Lib.hid (star_no n42 n43 n63 n123)
  have hc256 := (s[i]'hi).toNat_lt
  rw [hc] at hc256
  have q92 : (((c : Nat) : Int) == 92) = false := by rw [beq_eq_false_iff_ne]; omega
  have q91 : (((c : Nat) : Int) == 91) = false := by rw [beq_eq_false_iff_ne]; omega
  have q40 : (((c : Nat) : Int) == 40) = false := by rw [beq_eq_false_iff_ne]; omega
  have q41 : (((c : Nat) : Int) == 41) = false := by rw [beq_eq_false_iff_ne]; omega
  have q124 : (((c : Nat) : Int) == 124) = false := by rw [beq_eq_false_iff_ne]; omega
  have q46 : (((c : Nat) : Int) == 46) = false := by rw [beq_eq_false_iff_ne]; omega
  have q94 : (((c : Nat) : Int) == 94) = false := by rw [beq_eq_false_iff_ne]; omega
  have q36 : (((c : Nat) : Int) == 36) = false := by rw [beq_eq_false_iff_ne]; omega
  have q93 : (((c : Nat) : Int) == 93) = false := by rw [beq_eq_false_iff_ne]; omega
  have q125 : (((c : Nat) : Int) == 125) = false := by rw [beq_eq_false_iff_ne]; omega
  clear n92 n91 n40 n41 n124 n46 n94 n36 n93 n125 n42 n43 n63 n123
  go_enter Tryd.func41, Tryd.ntmps41
  go_upto_region 5 with fail
  have st := ((((St.nil w).alloc rfl [.int .i64 0, .int .i64 0, .int .i64 0, .int .u64 0, .int .u64 0, .int .u64 0, .int .u64 0, .int .i64 0, .int .i64 0, .bool false] 87).alloc (n := w.heap.size + 1) (by simp) [.int .i64 0, .int .i64 0] 88).alloc (n := w.heap.size + 2) (by simp) [.int .i64 (((i : Nat) : Int) + 1), .int .i64 0] 88).alloc (n := w.heap.size + 3) (by simp) [.int .i64 0, .int .i64 ((i : Nat) : Int), .int .i64 0, .int .u64 0, .int .u64 0, .int .u64 0, .int .u64 0, .int .i64 0, .int .i64 0, .bool false] 87
  generalize (((w.alloc _).alloc _).alloc _).alloc _ = wa at *
  go_wp2_with fail
  refine (refin_at _ c _ (by decide)).mono ?_
  rintro v w5 ⟨rfl, rfl⟩
  rename World => w0
  rw [show (bytesN { data := #[42, 43, 63, 123] }) = starL from rfl, HN.out]
  obtain ⟨⟨p00, p01, p02, p03, p04, p05, p06, p07, p08, p09⟩, r00, r01, r02, r03, r04, r05, r06, r07, r08, r09⟩ := st.ten 0 rfl
  go_wp2_with fail
  refine (st.alloc rfl (prsL [(c, c)]) 42).at ?_
  intro w1 st
  refine (some_at [(c, c)] false (st.get 0 rfl) (by simp)).mono ?_
  rintro v w2 ⟨rfl, hb⟩
  replace st := (st.below' hb).tail
  clear hb p00 r00 p01 r01 p02 r02 p03 r03 p04 r04 p05 r05 p06 r06 p07 r07 p08 r08 p09 r09
  rw [some_fun]
  unfold setV
  obtain ⟨⟨p00, p01, p02, p03, p04, p05, p06, p07, p08, p09⟩, r00, r01, r02, r03, r04, r05, r06, r07, r08, r09⟩ := st.ten 0 rfl
  go_upto_region 36 with fail
  replace st := ((((st.set 0 rfl 3 (Value.int .u64 (word (oneM c) 0))).set 0 rfl 4 (Value.int .u64 (word (oneM c) 1))).set 0 rfl 5 (Value.int .u64 (word (oneM c) 2))).set 0 rfl 6 (Value.int .u64 (word (oneM c) 3)))
  generalize World.setCell _ _ _ = wy at *
  replace st : St w _ [(w.heap.size + 3, 87, [.int .i64 0, .int .i64 ((i : Nat) : Int), .int .i64 0, .int .u64 (word (oneM c) 0), .int .u64 (word (oneM c) 1), .int .u64 (word (oneM c) 2), .int .u64 (word (oneM c) 3), .int .i64 0, .int .i64 0, .bool false]), (w.heap.size + 2, 88, [.int .i64 (((i : Nat) : Int) + 1), .int .i64 0]), (w.heap.size + 1, 88, [.int .i64 0, .int .i64 0]), (w.heap.size, 87, [.int .i64 0, .int .i64 0, .int .i64 0, .int .u64 0, .int .u64 0, .int .u64 0, .int .u64 0, .int .i64 0, .int .i64 0, .bool false])] := st
  clear p00 r00 p01 r01 p02 r02 p03 r03 p04 r04 p05 r05 p06 r06 p07 r07 p08 r08 p09 r09
  obtain ⟨⟨p00, p01, p02, p03, p04, p05, p06, p07, p08, p09⟩, r00, r01, r02, r03, r04, r05, r06, r07, r08, r09⟩ := st.ten 0 rfl
  obtain ⟨⟨p10, p11⟩, r10, r11⟩ := st.two 1 rfl
  obtain ⟨⟨p20, p21⟩, r20, r21⟩ := st.two 2 rfl
  obtain ⟨⟨p30, p31, p32, p33, p34, p35, p36, p37, p38, p39⟩, r30, r31, r32, r33, r34, r35, r36, r37, r38, r39⟩ := st.ten 3 rfl
  go_wp2_with fail
  go_region
  all_goals
    have stz := ((st.all 3 rfl [.int .i64 0, .int .i64 ((i : Nat) : Int), .int .i64 0, .int .u64 (word (oneM c) 0), .int .u64 (word (oneM c) 1), .int .u64 (word (oneM c) 2), .int .u64 (word (oneM c) 3), .int .i64 0, .int .i64 0, .bool false] rfl).all 2 rfl [.int .i64 (((i : Nat) : Int) + 1), .int .i64 0] rfl).drew
    simp only [putCells, List.set] at stz
    generalize World.drew _ = wz at *
    clear p00 r00 p01 r01 p02 r02 p03 r03 p04 r04 p05 r05 p06 r06 p07 r07 p08 r08 p09 r09 p10 r10 p11 r11 p20 r20 p21 r21 p30 r30 p31 r31 p32 r32 p33 r33 p34 r34 p35 r35 p36 r36 p37 r37 p38 r38 p39 r39
    go_wp2
    refine ret_tokend (x := (setTok (oneM c))) (f := i) (b := w.heap.size) (b' := w.heap.size + 1) (j := (i + 1)) (e := 0) rfl rfl rfl (stz.get 3 rfl) (stz.get 2 rfl) rfl ⟨(setTok (oneM c)), (i + 1), 0, rfl, ?_, stz.below⟩
    rw [HT.out]
    exact ⟨rfl, rfl, rfl⟩
end Go.Proofs.YtckoebfmoggeoaaDoor
