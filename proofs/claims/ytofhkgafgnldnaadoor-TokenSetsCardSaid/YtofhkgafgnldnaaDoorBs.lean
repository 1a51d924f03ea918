/- token: part, Class, Escape. -/
import Derived.Test.YtofhkgafgnldnaaDoorBh
import Derived.Test.YtofhkgafgnldnaaDoorBl
import Derived.Test.YtofhkgafgnldnaaDoorBo
namespace Go.Proofs.YtofhkgafgnldnaaDoor
open Go.RowKit
def PartIs (s : ByteArray) (a : Int) (c : Nat) (f : List Nat → Nat → Res (Nat → Bool)) (m : Nat → Bool) (n : Int) (e : Nat) : Prop :=
  if 0 ≤ a ∧ (bytesN s)[a.toNat]? = some c then (match f (bytesN s) a.toNat with
    | .ok m' j => m = m' ∧ n = ((j : Nat) : Int) ∧ e = 0
    | .err j k => m = noSet ∧ n = ((j : Nat) : Int) ∧ e = k ∧ k ≠ 0)
  else m = noSet ∧ n = 0 ∧ e = 2
theorem ret_setnn {fn : Func} {R : Ending → World → Prop} {a : Act} {w : World} {b r r1 r2 : Nat} {m : Nat → Bool} {x y : Value} (hres : fn.results = #[.cell r 32, .tmp r1, .tmp r2])
    (hr : a.tmps.getD r undef = .pointer (some ⟨b, 0, none⟩)) (hr1 : a.tmps.getD r1 undef = x) (hr2 : a.tmps.getD r2 undef = y) (h : Blk w b 32 (setL m)) (hd : a.defers = [])
    (hR : R (.returned (.tuple #[setV m, x, y])) w) : bodyPost Tryd.prog fn R .ret a w := by
  have hl1 := load_setc h
  refine bodyPost_ret (v := .tuple #[setV m, x, y]) ?_ hd hR
  have q1 : a.tmps[r]?.getD undef = .pointer (some ⟨b, 0, none⟩) := by simpa using hr
  have q2 : a.tmps[r1]?.getD undef = x := by simpa using hr1
  have q3 : a.tmps[r2]?.getD undef = y := by simpa using hr2
  simp [results, hres, q1, q2, q3, hl1, asAddr]
theorem St.turn {w0 w w' : World} {L : BlkL} {g : Nat} (h : St w0 w L) (hg : w.grownBy w' (some g)) (hB : w0.heap.size ≤ g) (hne : ∀ e ∈ L, e.1 ≠ g) : St w0 w' L :=
  ⟨below_turned h.below hg hB h.size, fun e he => Blk.turn (h.blk e he) hg (hne e he), h.base, h.apart⟩
set_option maxRecDepth 100000 in
set_option maxHeartbeats 2000000 in
theorem part_class_no (s : ByteArray) (_hs : s.size ≤ 1048576) (a : Int) (ha : ¬(0 ≤ a ∧ (bytesN s)[a.toNat]? = some 91)) (w : World) :
    Calls Tryd.prog 17 #[.string s, .int .i64 a, .int .u8 91, .func (.func 18) #[] #[]] w fun v w' => ∃ m n e, v = .returned (.tuple #[setV m, .int .i64 n, .int .i64 ((e : Nat) : Int)]) ∧ PartIs s a 91 classM m n e ∧ Below w.heap.size w w' := by
  have HX := Lib.hid (show PartIs s a 91 classM noSet 0 2 by unfold PartIs; rw [if_neg ha]; exact ⟨rfl, rfl, rfl⟩)
  have hz : St w (w.alloc (.cells #[.int .u64 0, .int .u64 0, .int .u64 0, .int .u64 0] 32)) [(w.heap.size, 32, [.int .u64 0, .int .u64 0, .int .u64 0, .int .u64 0])] := (St.nil w).alloc rfl _ _
  by_cases h0 : a < 0
  · clear ha
    go_enter Tryd.func17, Tryd.ntmps17
    go_wp2
    refine ret_setnn (b := w.heap.size) (m := noSet) (x := .int .i64 0) (y := .int .i64 ((2 : Nat) : Int)) rfl rfl rfl rfl (by rw [setL_none]; exact hz.get 0 rfl) rfl ⟨noSet, 0, 2, rfl, HX.out, hz.below⟩
  · obtain ⟨i, rfl⟩ := Int.eq_ofNat_of_zero_le (show 0 ≤ a by omega)
    rcases Nat.lt_or_ge i s.size with hi | hi
    · have hne : (s[i]'hi).toNat ≠ 91 := fun e => ha ⟨by omega, by rw [Int.toNat_natCast, get_at s hi, e]⟩
      have hq : ((((s[i]'hi).toNat : Nat) : Int) != 91) = true := by rw [bne_iff_ne]; omega
      have hq2 : ((((s[i]'hi).toNat : Nat) : Int) == 91) = false := by rw [beq_eq_false_iff_ne]; omega
      clear ha hne h0
      go_enter Tryd.func17, Tryd.ntmps17
      go_wp2
      refine ret_setnn (b := w.heap.size) (m := noSet) (x := .int .i64 0) (y := .int .i64 ((2 : Nat) : Int)) rfl rfl rfl rfl (by rw [setL_none]; exact hz.get 0 rfl) rfl ⟨noSet, 0, 2, rfl, HX.out, hz.below⟩
    · have hi' : ((s.size : Nat) : Int) ≤ ((i : Nat) : Int) := by omega
      clear ha h0
      go_enter Tryd.func17, Tryd.ntmps17
      go_wp2
      refine ret_setnn (b := w.heap.size) (m := noSet) (x := .int .i64 0) (y := .int .i64 ((2 : Nat) : Int)) rfl rfl rfl rfl (by rw [setL_none]; exact hz.get 0 rfl) rfl ⟨noSet, 0, 2, rfl, HX.out, hz.below⟩
set_option maxRecDepth 100000 in
set_option maxHeartbeats 4000000 in
theorem part_class_in (s : ByteArray) (hs : s.size ≤ 1048576) (i : Nat) (hi : i < s.size) (hc : (s[i]'hi).toNat = 91) (w : World) (hT : TabOk w) :
    Calls Tryd.prog 17 #[.string s, .int .i64 ((i : Nat) : Int), .int .u8 91, .func (.func 18) #[] #[]] w fun v w' => ∃ m n e, v = .returned (.tuple #[setV m, .int .i64 n, .int .i64 ((e : Nat) : Int)]) ∧ PartIs s ((i : Nat) : Int) 91 classM m n e ∧ Below w.heap.size w w' := by
  have HX := Lib.hid (show ∀ m n e, (match classM (bytesN s) i with
    | .ok m' j => m = m' ∧ n = ((j : Nat) : Int) ∧ e = 0
    | .err j k => m = noSet ∧ n = ((j : Nat) : Int) ∧ e = k ∧ k ≠ 0) → PartIs s ((i : Nat) : Int) 91 classM m n e from fun m n e h => by
      unfold PartIs
      rw [if_pos ⟨by omega, by rw [Int.toNat_natCast, get_at s hi, hc]⟩, Int.toNat_natCast]
      exact h)
  have hq : ((((s[i]'hi).toNat : Nat) : Int) != 91) = false := by rw [bne_eq_false_iff_eq]; omega
  have hq2 : ((((s[i]'hi).toNat : Nat) : Int) == 91) = true := by rw [beq_iff_eq]; omega
  have htl := tab_lt hT
  have HT := Lib.hid hT
  clear hc hT
  go_enter Tryd.func17, Tryd.ntmps17
  go_upto_region 4 with fail
  have st := ((St.nil w).alloc rfl [.int .u64 0, .int .u64 0, .int .u64 0, .int .u64 0] 32).alloc (n := w.heap.size + 1) (by simp) [.string s, .int .i64 ((i : Nat) : Int), .int .i64 0, .slice none 0 0] 51
  generalize (w.alloc _).alloc _ = wa at *
  have hr : Rdr wa (w.heap.size + 1) s i 0 (.slice none 0 0) := ⟨st.get 0 rfl, tab_far HT.out st.below htl, by omega, by omega, hs⟩
  replace st := st.tail
  clear hq hq2
  go_wp2_with fail
  refine (class_at hr (by omega)).mono ?_
  rintro v w1 ⟨m, j, e, rfl, hr1, hg, hres⟩
  replace st := st.turn hg (by omega) (by intro e he; obtain rfl := List.mem_singleton.1 he; show w.heap.size ≠ w.heap.size + 1; omega)
  have HR := Lib.hid hres
  have hsz1 : w.heap.size + 1 < w1.heap.size := hr1.blk.lt
  clear hr hg hres
  have st2 := st.alloc (n := w1.heap.size) rfl (setL m) 32
  have hr2 := hr1.below ((Below.refl _ w1).alloc (Nat.le_refl _) (.cells (setL m).toArray 32))
  clear st hr1
  unfold setV
  go_upto_region 5 with fail
  generalize w1.alloc _ = w2 at *
  obtain ⟨c0, c1, c2, c3, f1, f2, f3⟩ := hr2.cells
  go_wp2_with fail
  refine (bad_at hr2).mono ?_
  rintro v w3 ⟨rfl, hb⟩
  have hr3 := hr2.below hb
  have st3 := st2.below' hb
  have htl3 := tab_lt hr3.tab
  clear hb hr2 st2 c0 c1 c2 c3 f1 f2 f3
  obtain ⟨c0, c1, c2, c3, f1, f2, f3⟩ := hr3.cells
  obtain ⟨⟨x0, x1, x2, x3⟩, x4, x5, x6, x7⟩ := st3.four 1 rfl
  obtain ⟨⟨y0, y1, y2, y3⟩, y4, y5, y6, y7⟩ := st3.four 0 rfl
  by_cases he : e = 0
  · subst he
    rw [show decide ((0 : Nat) ≠ 0) = false from rfl]
    go_wp2_with fail
    go_region
    all_goals
      have stz := (((((st3.set 1 rfl 0 (.int .u64 (word m 0))).set 1 rfl 1 (.int .u64 (word m 1))).set 1 rfl 2 (.int .u64 (word m 2))).set 1 rfl 3 (.int .u64 (word m 3)))).drew
      generalize World.drew _ = wz at *
      clear x0 x1 x2 x3 x4 x5 x6 x7 y0 y1 y2 y3 y4 y5 y6 y7 c0 c1 c2 c3 f1 f2 f3
      go_wp2
      refine ret_setnn (b := w.heap.size) (m := m) (x := .int .i64 ((j : Nat) : Int)) (y := .int .i64 ((0 : Nat) : Int)) rfl rfl rfl rfl (stz.get 1 rfl) rfl ⟨m, _, 0, rfl, HX.out _ _ _ ?_, stz.below⟩
      have hR := HR.out
      unfold SetIs at hR
      revert hR
      cases classM (bytesN s) i with
      | ok m' j' => rintro ⟨rfl, rfl, _⟩; exact ⟨rfl, rfl, rfl⟩
      | err j' e' => intro hR; exact absurd hR.2.1.symm hR.2.2
  · rw [show decide (e ≠ 0) = true from decide_eq_true he]
    have HE := Lib.hid he
    clear he
    go_wp2_with fail
    go_region
    all_goals
      have stz := (((((st3.set 1 rfl 0 (.int .u64 0)).set 1 rfl 1 (.int .u64 0)).set 1 rfl 2 (.int .u64 0)).set 1 rfl 3 (.int .u64 0))).drew
      generalize World.drew _ = wz at *
      clear x0 x1 x2 x3 x4 x5 x6 x7 y0 y1 y2 y3 y4 y5 y6 y7 c0 c1 c2 c3 f1 f2 f3
      go_wp2
      refine ret_setnn (b := w.heap.size) (m := noSet) (x := .int .i64 ((j : Nat) : Int)) (y := .int .i64 ((e : Nat) : Int)) rfl rfl rfl rfl (by rw [setL_none]; exact stz.get 1 rfl) rfl ⟨noSet, _, e, rfl, HX.out _ _ _ ?_, stz.below⟩
      have hR := HR.out
      unfold SetIs at hR
      revert hR
      cases classM (bytesN s) i with
      | ok m' j' => intro hR; exact absurd hR.2.2 HE.out
      | err j' e' => rintro ⟨rfl, rfl, hne⟩; exact ⟨rfl, rfl, rfl, hne⟩
set_option maxRecDepth 100000 in
set_option maxHeartbeats 2000000 in
theorem part_esc_no (s : ByteArray) (_hs : s.size ≤ 1048576) (a : Int) (ha : ¬(0 ≤ a ∧ (bytesN s)[a.toNat]? = some 92)) (w : World) :
    Calls Tryd.prog 17 #[.string s, .int .i64 a, .int .u8 92, .func (.func 19) #[] #[]] w fun v w' => ∃ m n e, v = .returned (.tuple #[setV m, .int .i64 n, .int .i64 ((e : Nat) : Int)]) ∧ PartIs s a 92 escM m n e ∧ Below w.heap.size w w' := by
  have HX := Lib.hid (show PartIs s a 92 escM noSet 0 2 by unfold PartIs; rw [if_neg ha]; exact ⟨rfl, rfl, rfl⟩)
  have hz : St w (w.alloc (.cells #[.int .u64 0, .int .u64 0, .int .u64 0, .int .u64 0] 32)) [(w.heap.size, 32, [.int .u64 0, .int .u64 0, .int .u64 0, .int .u64 0])] := (St.nil w).alloc rfl _ _
  by_cases h0 : a < 0
  · clear ha
    go_enter Tryd.func17, Tryd.ntmps17
    go_wp2
    refine ret_setnn (b := w.heap.size) (m := noSet) (x := .int .i64 0) (y := .int .i64 ((2 : Nat) : Int)) rfl rfl rfl rfl (by rw [setL_none]; exact hz.get 0 rfl) rfl ⟨noSet, 0, 2, rfl, HX.out, hz.below⟩
  · obtain ⟨i, rfl⟩ := Int.eq_ofNat_of_zero_le (show 0 ≤ a by omega)
    rcases Nat.lt_or_ge i s.size with hi | hi
    · have hne : (s[i]'hi).toNat ≠ 92 := fun e => ha ⟨by omega, by rw [Int.toNat_natCast, get_at s hi, e]⟩
      have hq : ((((s[i]'hi).toNat : Nat) : Int) != 92) = true := by rw [bne_iff_ne]; omega
      have hq2 : ((((s[i]'hi).toNat : Nat) : Int) == 92) = false := by rw [beq_eq_false_iff_ne]; omega
      clear ha hne h0
      go_enter Tryd.func17, Tryd.ntmps17
      go_wp2
      refine ret_setnn (b := w.heap.size) (m := noSet) (x := .int .i64 0) (y := .int .i64 ((2 : Nat) : Int)) rfl rfl rfl rfl (by rw [setL_none]; exact hz.get 0 rfl) rfl ⟨noSet, 0, 2, rfl, HX.out, hz.below⟩
    · have hi' : ((s.size : Nat) : Int) ≤ ((i : Nat) : Int) := by omega
      clear ha h0
      go_enter Tryd.func17, Tryd.ntmps17
      go_wp2
      refine ret_setnn (b := w.heap.size) (m := noSet) (x := .int .i64 0) (y := .int .i64 ((2 : Nat) : Int)) rfl rfl rfl rfl (by rw [setL_none]; exact hz.get 0 rfl) rfl ⟨noSet, 0, 2, rfl, HX.out, hz.below⟩
set_option maxRecDepth 100000 in
set_option maxHeartbeats 4000000 in
theorem part_esc_in (s : ByteArray) (hs : s.size ≤ 1048576) (i : Nat) (hi : i < s.size) (hc : (s[i]'hi).toNat = 92) (w : World) (hT : TabOk w) :
    Calls Tryd.prog 17 #[.string s, .int .i64 ((i : Nat) : Int), .int .u8 92, .func (.func 19) #[] #[]] w fun v w' => ∃ m n e, v = .returned (.tuple #[setV m, .int .i64 n, .int .i64 ((e : Nat) : Int)]) ∧ PartIs s ((i : Nat) : Int) 92 escM m n e ∧ Below w.heap.size w w' := by
  have HX := Lib.hid (show ∀ m n e, (match escM (bytesN s) i with
    | .ok m' j => m = m' ∧ n = ((j : Nat) : Int) ∧ e = 0
    | .err j k => m = noSet ∧ n = ((j : Nat) : Int) ∧ e = k ∧ k ≠ 0) → PartIs s ((i : Nat) : Int) 92 escM m n e from fun m n e h => by
      unfold PartIs
      rw [if_pos ⟨by omega, by rw [Int.toNat_natCast, get_at s hi, hc]⟩, Int.toNat_natCast]
      exact h)
  have hq : ((((s[i]'hi).toNat : Nat) : Int) != 92) = false := by rw [bne_eq_false_iff_eq]; omega
  have hq2 : ((((s[i]'hi).toNat : Nat) : Int) == 92) = true := by rw [beq_iff_eq]; omega
  have htl := tab_lt hT
  have HT := Lib.hid hT
  clear hc hT
  go_enter Tryd.func17, Tryd.ntmps17
  go_upto_region 4 with fail
  have st := ((St.nil w).alloc rfl [.int .u64 0, .int .u64 0, .int .u64 0, .int .u64 0] 32).alloc (n := w.heap.size + 1) (by simp) [.string s, .int .i64 ((i : Nat) : Int), .int .i64 0, .slice none 0 0] 51
  generalize (w.alloc _).alloc _ = wa at *
  have hr : Rdr wa (w.heap.size + 1) s i 0 (.slice none 0 0) := ⟨st.get 0 rfl, tab_far HT.out st.below htl, by omega, by omega, hs⟩
  replace st := st.tail
  clear hq hq2
  go_wp2_with fail
  refine (escape_at hr (by omega)).mono ?_
  rintro v w1 ⟨m, j, e, rfl, hr1, hg, hres⟩
  replace st := st.turn hg (by omega) (by intro e he; obtain rfl := List.mem_singleton.1 he; show w.heap.size ≠ w.heap.size + 1; omega)
  have HR := Lib.hid hres
  have hsz1 : w.heap.size + 1 < w1.heap.size := hr1.blk.lt
  clear hr hg hres
  have st2 := st.alloc (n := w1.heap.size) rfl (setL m) 32
  have hr2 := hr1.below ((Below.refl _ w1).alloc (Nat.le_refl _) (.cells (setL m).toArray 32))
  clear st hr1
  unfold setV
  go_upto_region 5 with fail
  generalize w1.alloc _ = w2 at *
  obtain ⟨c0, c1, c2, c3, f1, f2, f3⟩ := hr2.cells
  go_wp2_with fail
  refine (bad_at hr2).mono ?_
  rintro v w3 ⟨rfl, hb⟩
  have hr3 := hr2.below hb
  have st3 := st2.below' hb
  have htl3 := tab_lt hr3.tab
  clear hb hr2 st2 c0 c1 c2 c3 f1 f2 f3
  obtain ⟨c0, c1, c2, c3, f1, f2, f3⟩ := hr3.cells
  obtain ⟨⟨x0, x1, x2, x3⟩, x4, x5, x6, x7⟩ := st3.four 1 rfl
  obtain ⟨⟨y0, y1, y2, y3⟩, y4, y5, y6, y7⟩ := st3.four 0 rfl
  by_cases he : e = 0
  · subst he
    rw [show decide ((0 : Nat) ≠ 0) = false from rfl]
    go_wp2_with fail
    go_region
    all_goals
      have stz := (((((st3.set 1 rfl 0 (.int .u64 (word m 0))).set 1 rfl 1 (.int .u64 (word m 1))).set 1 rfl 2 (.int .u64 (word m 2))).set 1 rfl 3 (.int .u64 (word m 3)))).drew
      generalize World.drew _ = wz at *
      clear x0 x1 x2 x3 x4 x5 x6 x7 y0 y1 y2 y3 y4 y5 y6 y7 c0 c1 c2 c3 f1 f2 f3
      go_wp2
      refine ret_setnn (b := w.heap.size) (m := m) (x := .int .i64 ((j : Nat) : Int)) (y := .int .i64 ((0 : Nat) : Int)) rfl rfl rfl rfl (stz.get 1 rfl) rfl ⟨m, _, 0, rfl, HX.out _ _ _ ?_, stz.below⟩
      have hR := HR.out
      unfold SetIs at hR
      revert hR
      cases escM (bytesN s) i with
      | ok m' j' => rintro ⟨rfl, rfl, _⟩; exact ⟨rfl, rfl, rfl⟩
      | err j' e' => intro hR; exact absurd hR.2.1.symm hR.2.2
  · rw [show decide (e ≠ 0) = true from decide_eq_true he]
    have HE := Lib.hid he
    clear he
    go_wp2_with fail
    go_region
    all_goals
      have stz := (((((st3.set 1 rfl 0 (.int .u64 0)).set 1 rfl 1 (.int .u64 0)).set 1 rfl 2 (.int .u64 0)).set 1 rfl 3 (.int .u64 0))).drew
      generalize World.drew _ = wz at *
      clear x0 x1 x2 x3 x4 x5 x6 x7 y0 y1 y2 y3 y4 y5 y6 y7 c0 c1 c2 c3 f1 f2 f3
      go_wp2
      refine ret_setnn (b := w.heap.size) (m := noSet) (x := .int .i64 ((j : Nat) : Int)) (y := .int .i64 ((e : Nat) : Int)) rfl rfl rfl rfl (by rw [setL_none]; exact stz.get 1 rfl) rfl ⟨noSet, _, e, rfl, HX.out _ _ _ ?_, stz.below⟩
      have hR := HR.out
      unfold SetIs at hR
      revert hR
      cases escM (bytesN s) i with
      | ok m' j' => intro hR; exact absurd hR.2.2 HE.out
      | err j' e' => rintro ⟨rfl, rfl, hne⟩; exact ⟨rfl, rfl, rfl, hne⟩
theorem part_class (s : ByteArray) (hs : s.size ≤ 1048576) (a : Int) (w : World) (hT : TabOk w) :
    Calls Tryd.prog 17 #[.string s, .int .i64 a, .int .u8 91, .func (.func 18) #[] #[]] w fun v w' => ∃ m n e, v = .returned (.tuple #[setV m, .int .i64 n, .int .i64 ((e : Nat) : Int)]) ∧ PartIs s a 91 classM m n e ∧ Below w.heap.size w w' := by
  by_cases h : 0 ≤ a ∧ (bytesN s)[a.toNat]? = some 91
  · obtain ⟨i, rfl⟩ := Int.eq_ofNat_of_zero_le h.1
    have h2 := h.2
    rw [Int.toNat_natCast] at h2
    obtain ⟨hi, hc⟩ := bytesN_some h2
    exact part_class_in s hs i hi hc w hT
  · exact part_class_no s hs a h w
set_option maxRecDepth 100000 in
set_option maxHeartbeats 2000000 in
theorem top_class (s : ByteArray) (hs : s.size ≤ 1048576) (a : Int) (w : World) (hT : TabOk w) :
    Calls Tryd.prog 10 #[.string s, .int .i64 a] w fun v w' => ∃ m n e, v = .returned (.tuple #[setV m, .int .i64 n, .int .i64 ((e : Nat) : Int)]) ∧ PartIs s a 91 classM m n e ∧ Below w.heap.size w w' := by
  have HT := Lib.hid hT
  clear hT
  go_enter Tryd.func10, Tryd.ntmps10
  go_wp2_with fail
  refine ((St.nil w).alloc rfl [.int .u64 0, .int .u64 0, .int .u64 0, .int .u64 0] 32).at ?_
  intro w1 st
  refine (part_class s hs a w1 (tab_far HT.out st.below (tab_lt HT.out))).mono ?_
  rintro v w2 ⟨m, n, e, rfl, hp, hb⟩
  replace st := st.below' hb
  have HP := Lib.hid hp
  clear hb hp
  obtain ⟨⟨x0, x1, x2, x3⟩, x4, x5, x6, x7⟩ := st.four 0 rfl
  unfold setV
  go_wp2
  have stz := ((((st.set 0 rfl 0 (.int .u64 (word m 0))).set 0 rfl 1 (.int .u64 (word m 1))).set 0 rfl 2 (.int .u64 (word m 2))).set 0 rfl 3 (.int .u64 (word m 3)))
  exact ret_setnn (b := w.heap.size) (m := m) (x := .int .i64 n) (y := .int .i64 ((e : Nat) : Int)) rfl rfl rfl rfl (stz.get 0 rfl) rfl ⟨m, n, e, rfl, HP.out, stz.below⟩
theorem part_esc (s : ByteArray) (hs : s.size ≤ 1048576) (a : Int) (w : World) (hT : TabOk w) :
    Calls Tryd.prog 17 #[.string s, .int .i64 a, .int .u8 92, .func (.func 19) #[] #[]] w fun v w' => ∃ m n e, v = .returned (.tuple #[setV m, .int .i64 n, .int .i64 ((e : Nat) : Int)]) ∧ PartIs s a 92 escM m n e ∧ Below w.heap.size w w' := by
  by_cases h : 0 ≤ a ∧ (bytesN s)[a.toNat]? = some 92
  · obtain ⟨i, rfl⟩ := Int.eq_ofNat_of_zero_le h.1
    have h2 := h.2
    rw [Int.toNat_natCast] at h2
    obtain ⟨hi, hc⟩ := bytesN_some h2
    exact part_esc_in s hs i hi hc w hT
  · exact part_esc_no s hs a h w
set_option maxRecDepth 100000 in
set_option maxHeartbeats 2000000 in
theorem top_esc (s : ByteArray) (hs : s.size ≤ 1048576) (a : Int) (w : World) (hT : TabOk w) :
    Calls Tryd.prog 11 #[.string s, .int .i64 a] w fun v w' => ∃ m n e, v = .returned (.tuple #[setV m, .int .i64 n, .int .i64 ((e : Nat) : Int)]) ∧ PartIs s a 92 escM m n e ∧ Below w.heap.size w w' := by
  have HT := Lib.hid hT
  clear hT
  go_enter Tryd.func11, Tryd.ntmps11
  go_wp2_with fail
  refine ((St.nil w).alloc rfl [.int .u64 0, .int .u64 0, .int .u64 0, .int .u64 0] 32).at ?_
  intro w1 st
  refine (part_esc s hs a w1 (tab_far HT.out st.below (tab_lt HT.out))).mono ?_
  rintro v w2 ⟨m, n, e, rfl, hp, hb⟩
  replace st := st.below' hb
  have HP := Lib.hid hp
  clear hb hp
  obtain ⟨⟨x0, x1, x2, x3⟩, x4, x5, x6, x7⟩ := st.four 0 rfl
  unfold setV
  go_wp2
  have stz := ((((st.set 0 rfl 0 (.int .u64 (word m 0))).set 0 rfl 1 (.int .u64 (word m 1))).set 0 rfl 2 (.int .u64 (word m 2))).set 0 rfl 3 (.int .u64 (word m 3)))
  exact ret_setnn (b := w.heap.size) (m := m) (x := .int .i64 n) (y := .int .i64 ((e : Nat) : Int)) rfl rfl rfl rfl (stz.get 0 rfl) rfl ⟨m, n, e, rfl, HP.out, stz.below⟩
end Go.Proofs.YtofhkgafgnldnaaDoor
/- TokenSets: the walk. -/
namespace Go.Proofs.YtofhkgafgnldnaaDoor
open Go.RowKit
attribute [local go_sem] eq_words eqB_words eqB_zero
theorem part_ref {s : ByteArray} {i c : Nat} {f : List Nat → Nat → Res (Nat → Bool)} {m : Nat → Bool} {n : Int} {e : Nat} (h : PartIs s ((i : Nat) : Int) c f m n e) (hc : (bytesN s)[i]? = some c) : ∃ j : Nat, n = ((j : Nat) : Int) ∧ refV (f (bytesN s) i) = .tuple #[setV m, endV j e] := by
  unfold PartIs at h
  rw [if_pos ⟨by omega, by rw [Int.toNat_natCast, hc]⟩, Int.toNat_natCast] at h
  revert h
  cases f (bytesN s) i with
  | ok m' j => rintro ⟨rfl, rfl, rfl⟩; exact ⟨j, rfl, rfl⟩
  | err j k => rintro ⟨rfl, rfl, rfl, _⟩; exact ⟨j, rfl, rfl⟩
theorem part_none {s : ByteArray} {a : Int} {c : Nat} {f : List Nat → Nat → Res (Nat → Bool)} {m : Nat → Bool} {n : Int} {e : Nat} (h : PartIs s a c f m n e) (hc : ¬(0 ≤ a ∧ (bytesN s)[a.toNat]? = some c)) : m = noSet ∧ n = 0 ∧ e = 2 := by
  unfold PartIs at h
  rwa [if_neg hc] at h
theorem not_part {s : ByteArray} {i c : Nat} (h : (bytesN s)[i]? ≠ some c) : ¬(0 ≤ ((i : Nat) : Int) ∧ (bytesN s)[((i : Nat) : Int).toNat]? = some c) := by
  rw [Int.toNat_natCast]
  exact fun q => h q.2
set_option maxRecDepth 100000 in
set_option maxHeartbeats 8000000 in
theorem sets_law (s : ByteArray) (a : Int) (w : World) (hT : TabOk w) :
    Calls Tryd.prog 6 #[.string s, .int .i64 a] w fun e w' => e = .returned (.bool true) ∧ Below w.heap.size w w' := by
  by_cases h1 : 300 < s.size
  · go_enter Tryd.func6, Tryd.ntmps6
    go_wp2_with fail
    refine (awake_at w hT).mono ?_
    rintro v w1 ⟨rfl, hb⟩
    go_wp2
    go_returns
    exact ⟨rfl, hb⟩
  · have htl := tab_lt hT
    have HT := Lib.hid hT
    clear hT
    go_enter Tryd.func6, Tryd.ntmps6
    go_wp2_with fail
    refine (top_class s (by omega) a w HT.out).mono ?_
    rintro v w1 ⟨m1, n1, e1, rfl, hp1, hb1⟩
    have st := (St.nil w).below' hb1
    have HP1 := Lib.hid hp1
    have st1 := st.alloc (n := w1.heap.size) rfl (setL m1) 32
    have hw1 : w.heap.size ≤ w1.heap.size := hb1.size
    clear hb1 hp1 st
    unfold setV
    go_wp2_with fail
    refine st1.at ?_
    intro w2 st2
    refine (top_esc s (by omega) a w2 (tab_far HT.out st2.below htl)).mono ?_
    rintro v w3 ⟨m2, n2, e2, rfl, hp2, hb2⟩
    have st3 := st2.below' hb2
    have HP2 := Lib.hid hp2
    have hw2 : w1.heap.size < w3.heap.size := (st3.get 0 rfl).lt
    have st4 := ((((st3.alloc (n := w3.heap.size) rfl (setL m2) 32).alloc (n := w3.heap.size + 1) (by simp) [.int .i64 0, .int .i64 2] 43).alloc (n := w3.heap.size + 2) (by simp) [.int .i64 0, .int .i64 2] 43).alloc (n := w3.heap.size + 3) (by simp) [.int .u64 0, .int .u64 0, .int .u64 0, .int .u64 0] 32).alloc (n := w3.heap.size + 4) (by simp) [.int .u64 0, .int .u64 0, .int .u64 0, .int .u64 0] 32
    clear st1 st2 st3 hb2 hp2
    unfold setV
    go_upto_region 7 with fail
    generalize World.alloc _ _ = w4 at *
    have hz : ∀ k, word noSet k = 0 := word_none
    have HZ := Lib.hid hz
    clear hz
    by_cases hin : 0 ≤ a ∧ a < ((s.size : Nat) : Int)
    · obtain ⟨i, rfl⟩ := Int.eq_ofNat_of_zero_le hin.1
      have hi : i < s.size := by omega
      have hi2 : ((i : Nat) : Int) < ((s.size : Nat) : Int) := by omega
      clear hin
      by_cases h91 : (s[i]'hi).toNat = 91
      · have HC := Lib.hid (show (bytesN s)[i]? = some 91 by rw [get_at s hi, h91])
        obtain ⟨j, rfl, hr⟩ := part_ref HP1.out HC.out
        obtain ⟨rfl, rfl, rfl⟩ := part_none HP2.out (not_part (by rw [HC.out]; simp))
        have q1 : ((((s[i]'hi).toNat : Nat) : Int) == 91) = true := by rw [beq_iff_eq]; omega
        have q2 : ((((s[i]'hi).toNat : Nat) : Int) == 92) = false := by rw [beq_eq_false_iff_ne]; omega
        have HR := Lib.hid hr
        clear HP1 HP2 hr h91
        go_wp2_with fail
        refine (refclass_at s i hi (by omega) _).mono ?_
        rintro v w5 ⟨rfl, hb⟩
        rw [HR.out]
        have st := st4.below' hb
        clear hb st4
        obtain ⟨⟨x0, x1, x2, x3⟩, x4, x5, x6, x7⟩ := st.four 1 rfl
        obtain ⟨⟨y0, y1⟩, y2, y3⟩ := st.two 3 rfl
        unfold setV
        go_upto_region 9 with fail
        replace st := ((((((st.set 1 rfl 0 (.int .u64 (word m1 0))).set 1 rfl 1 (.int .u64 (word m1 1))).set 1 rfl 2 (.int .u64 (word m1 2))).set 1 rfl 3 (.int .u64 (word m1 3))).set 3 rfl 0 (.int .i64 ((j : Nat) : Int))).set 3 rfl 1 (.int .i64 ((e1 : Nat) : Int)))
        simp only [List.set] at st
        generalize World.setCell _ _ _ = w6 at *
        clear x0 x1 x2 x3 x4 x5 x6 x7 y0 y1 y2 y3
        rw [setL_none] at st
        obtain ⟨⟨a00, a01, a02, a03⟩, -⟩ := st.four 0 rfl
        obtain ⟨⟨a10, a11, a12, a13⟩, -⟩ := st.four 1 rfl
        obtain ⟨⟨a40, a41, a42, a43⟩, -⟩ := st.four 4 rfl
        obtain ⟨⟨a50, a51, a52, a53⟩, -⟩ := st.four 5 rfl
        obtain ⟨⟨a20, a21⟩, -⟩ := st.two 2 rfl
        obtain ⟨⟨a30, a31⟩, -⟩ := st.two 3 rfl
        have hTz := tab_far HT.out st.below htl
        go_wp2_with fail
        refine (awake_at _ hTz).mono ?_
        rintro v wz ⟨rfl, hb⟩
        replace st := st.below' hb
        go_wp2
        go_returns
        exact ⟨rfl, st.below⟩
      · by_cases h92 : (s[i]'hi).toNat = 92
        · have HC := Lib.hid (show (bytesN s)[i]? = some 92 by rw [get_at s hi, h92])
          obtain ⟨j, rfl, hr⟩ := part_ref HP2.out HC.out
          obtain ⟨rfl, rfl, rfl⟩ := part_none HP1.out (not_part (by rw [HC.out]; simp))
          have q1 : ((((s[i]'hi).toNat : Nat) : Int) == 92) = true := by rw [beq_iff_eq]; omega
          have q2 : ((((s[i]'hi).toNat : Nat) : Int) == 91) = false := by rw [beq_eq_false_iff_ne]; omega
          have HR := Lib.hid hr
          clear HP1 HP2 hr h92
          go_wp2_with fail
          refine (refesc_at s i hi (by omega) _).mono ?_
          rintro v w5 ⟨rfl, hb⟩
          rw [HR.out]
          have st := st4.below' hb
          clear hb st4
          obtain ⟨⟨x0, x1, x2, x3⟩, x4, x5, x6, x7⟩ := st.four 0 rfl
          obtain ⟨⟨y0, y1⟩, y2, y3⟩ := st.two 2 rfl
          unfold setV
          go_upto_region 11 with fail
          replace st := ((((((st.set 0 rfl 0 (.int .u64 (word m2 0))).set 0 rfl 1 (.int .u64 (word m2 1))).set 0 rfl 2 (.int .u64 (word m2 2))).set 0 rfl 3 (.int .u64 (word m2 3))).set 2 rfl 0 (.int .i64 ((j : Nat) : Int))).set 2 rfl 1 (.int .i64 ((e2 : Nat) : Int)))
          simp only [List.set] at st
          generalize World.setCell _ _ _ = w6 at *
          clear x0 x1 x2 x3 x4 x5 x6 x7 y0 y1 y2 y3
          rw [setL_none] at st
          obtain ⟨⟨a00, a01, a02, a03⟩, -⟩ := st.four 0 rfl
          obtain ⟨⟨a10, a11, a12, a13⟩, -⟩ := st.four 1 rfl
          obtain ⟨⟨a40, a41, a42, a43⟩, -⟩ := st.four 4 rfl
          obtain ⟨⟨a50, a51, a52, a53⟩, -⟩ := st.four 5 rfl
          obtain ⟨⟨a20, a21⟩, -⟩ := st.two 2 rfl
          obtain ⟨⟨a30, a31⟩, -⟩ := st.two 3 rfl
          have hTz := tab_far HT.out st.below htl
          go_wp2_with fail
          refine (awake_at _ hTz).mono ?_
          rintro v wz ⟨rfl, hb⟩
          replace st := st.below' hb
          go_wp2
          go_returns
          exact ⟨rfl, st.below⟩
        · obtain ⟨rfl, rfl, rfl⟩ := part_none HP1.out (not_part (get_ne hi h91))
          obtain ⟨rfl, rfl, rfl⟩ := part_none HP2.out (not_part (get_ne hi h92))
          have q1 : ((((s[i]'hi).toNat : Nat) : Int) == 91) = false := by rw [beq_eq_false_iff_ne]; omega
          have q2 : ((((s[i]'hi).toNat : Nat) : Int) == 92) = false := by rw [beq_eq_false_iff_ne]; omega
          clear HP1 HP2 h91 h92
          have st := st4
          rw [setL_none] at st
          obtain ⟨⟨a00, a01, a02, a03⟩, -⟩ := st.four 0 rfl
          obtain ⟨⟨a10, a11, a12, a13⟩, -⟩ := st.four 1 rfl
          obtain ⟨⟨a40, a41, a42, a43⟩, -⟩ := st.four 4 rfl
          obtain ⟨⟨a50, a51, a52, a53⟩, -⟩ := st.four 5 rfl
          obtain ⟨⟨a20, a21⟩, -⟩ := st.two 2 rfl
          obtain ⟨⟨a30, a31⟩, -⟩ := st.two 3 rfl
          have hTz := tab_far HT.out st.below htl
          go_wp2_with fail
          refine (awake_at _ hTz).mono ?_
          rintro v wz ⟨rfl, hb⟩
          replace st := st.below' hb
          go_wp2
          go_returns
          exact ⟨rfl, st.below⟩
    · have hno : ∀ c, ¬(0 ≤ a ∧ (bytesN s)[a.toNat]? = some c) := fun c q => hin ⟨q.1, by
        obtain ⟨hi, _⟩ := bytesN_some q.2
        omega⟩
      obtain ⟨rfl, rfl, rfl⟩ := part_none HP1.out (hno _)
      obtain ⟨rfl, rfl, rfl⟩ := part_none HP2.out (hno _)
      clear HP1 HP2 hno
      have st := st4
      rw [setL_none] at st
      rcases (show a < 0 ∨ (0 ≤ a ∧ ((s.size : Nat) : Int) ≤ a) by omega) with h0 | ⟨h0, h9⟩
      · clear hin
        obtain ⟨⟨a00, a01, a02, a03⟩, -⟩ := st.four 0 rfl
        obtain ⟨⟨a10, a11, a12, a13⟩, -⟩ := st.four 1 rfl
        obtain ⟨⟨a40, a41, a42, a43⟩, -⟩ := st.four 4 rfl
        obtain ⟨⟨a50, a51, a52, a53⟩, -⟩ := st.four 5 rfl
        obtain ⟨⟨a20, a21⟩, -⟩ := st.two 2 rfl
        obtain ⟨⟨a30, a31⟩, -⟩ := st.two 3 rfl
        have hTz := tab_far HT.out st.below htl
        go_wp2_with fail
        refine (awake_at _ hTz).mono ?_
        rintro v wz ⟨rfl, hb⟩
        replace st := st.below' hb
        go_wp2
        go_returns
        exact ⟨rfl, st.below⟩
      · clear hin
        obtain ⟨⟨a00, a01, a02, a03⟩, -⟩ := st.four 0 rfl
        obtain ⟨⟨a10, a11, a12, a13⟩, -⟩ := st.four 1 rfl
        obtain ⟨⟨a40, a41, a42, a43⟩, -⟩ := st.four 4 rfl
        obtain ⟨⟨a50, a51, a52, a53⟩, -⟩ := st.four 5 rfl
        obtain ⟨⟨a20, a21⟩, -⟩ := st.two 2 rfl
        obtain ⟨⟨a30, a31⟩, -⟩ := st.two 3 rfl
        have hTz := tab_far HT.out st.below htl
        go_wp2_with fail
        refine (awake_at _ hTz).mono ?_
        rintro v wz ⟨rfl, hb⟩
        replace st := st.below' hb
        go_wp2
        go_returns
        exact ⟨rfl, st.below⟩
end Go.Proofs.YtofhkgafgnldnaaDoor
