/- The parser of patterns: item. -/
import Derived.Test.YtpiimcbbgalhfaaGreatDoorBh
namespace Go.Proofs.YtpiimcbbgalhfaaGreatDoor
set_option maxRecDepth 100000
open Go.RowKit
theorem kind_some' {T : List Tk} {i : Nat} {x : Tk} (h : T[i]? = some x) : kindAt T i = some x.1.kind := by unfold kindAt; rw [h]; rfl
set_option maxHeartbeats 8000000 in
theorem pitem_set {w : World} {pb : Nat} {o : Option Addr} {c : Nat} {T : List Tk} {size i d n : Nat} {x : Tok} {f t : Nat} (h : Psr w pb o c T size i d 0 0) (hT : T[i]? = some (x, f, t)) (hk : x.kind = 0) :
    Calls Tryz.prog 178 #[.pointer (some ⟨pb, 0, none⟩), tokV x f t] w fun v w' => NodePost w w' pb o c T size d (itemW T size (altF T size n) d i (x, f, t)) v := by
  have hil := (List.getElem?_eq_some_iff.1 hT).1
  have hlt := h.blk.lt
  have hlen := h.len
  have HM := Lib.hid (show baseW T size (altF T size n) d i (x, f, t) = .ok (leafT (x, f, t)) (i + 1) by unfold baseW; rw [if_pos hk])
  have q0 : (((x.kind : Nat) : Int) == 0) = true := by rw [beq_iff_eq]; omega
  clear hT hk
  unfold tokV
  go_enter Tryz.func178, Tryz.ntmps178
  go_upto_region 2 with fail
  have st := (StG.nil w pb).alloc rfl (tokL x f t) 111
  have hb := (Below.refl w.heap.size w).alloc (Nat.le_refl _) (.cells (tokL x f t).toArray 111)
  have hP := h.below hb
  have hg := only_of pb hb
  clear h hb
  generalize w.alloc _ = w1 at *
  obtain ⟨p0, p1, p2, p3, p4, p5, p6, p7, p8, p9⟩ := st.ten 0 rfl
  have hs1 : w.heap.size < w1.heap.size := (st.get 0 rfl).lt
  obtain ⟨⟨c0, c1, c2, c3, c4, c5⟩, f1, f3, f4, f5⟩ := hP.cells
  obtain ⟨hP2, hg2⟩ := hP.next (i + 1) (((i : Nat) : Int) + 1) (by omega) hil
  replace st := st.turn hg2 hlt
  replace hg := only_trans hg hg2
  go_upto_region 6 with fail
  generalize World.setCell _ _ _ = w2 at *
  clear c0 c1 c2 c3 c4 c5 f1 f3 f4 f5 p0 p1 p2 p3 p4 p5 p6 p7 p8 p9 hP hg2
  obtain ⟨p0, p1, p2, p3, p4, p5, p6, p7, p8, p9⟩ := st.ten 0 rfl
  have hs2 : w.heap.size < w2.heap.size := (st.get 0 rfl).lt
  have stN := st.alloc (n := w2.heap.size) rfl (nodeL 1 x.set 0 0 false (.slice none 0 0) f t) 34
  have hbb := (Below.refl _ w2).alloc (Nat.le_refl _) (.cells (nodeL 1 x.set 0 0 false (.slice none 0 0) f t).toArray 34)
  replace hP2 := hP2.below hbb
  replace hg := only_below hg hbb
  clear st hbb
  go_upto_region 10 with fail
  clear p0 p1 p2 p3 p4 p5 p6 p7 p8 p9
  have htr : TreeAt _ (From w) (leafT (x, f, t)) w2.heap.size := TreeAt.leaf (show w.heap.size ≤ w2.heap.size by omega) (stN.get 0 rfl)
  have hs3 : ∃ b, b = w2.heap.size := ⟨_, rfl⟩
  obtain ⟨b, hb0⟩ := hs3
  rw [← hb0] at htr
  have HB := Lib.hid hb0
  clear hb0
  obtain ⟨m, hm⟩ : ∃ m, m = leafT (x, f, t) := ⟨_, rfl⟩
  rw [← hm] at htr HM
  have HMm := Lib.hid hm
  clear hm
  obtain ⟨j, hj⟩ : ∃ j, j = i + 1 := ⟨_, rfl⟩
  rw [← hj] at hP2 HM
  clear hj
  have st := stN
  have hP := hP2
  clear stN hP2
  generalize w2.alloc _ = w3 at *
  rw [← HB.out]
  obtain ⟨⟨c0, c1, c2, c3, c4, c5⟩, f1, f3, f4, f5⟩ := hP.cells
  go_wp2_with fail
  refine (pis_at 5 hP).mono ?_
  rintro v w6 ⟨rfl, hb⟩
  replace hP := hP.below hb
  replace st := st.below hb
  replace htr := htr.under hb
  replace hg := only_below hg hb
  clear hb c0 c1 c2 c3 c4 c5 f1 f3 f4 f5
  by_cases hk5 : kindAt T j = some 5
  · obtain ⟨cx, hcx, hc5⟩ : ∃ cx : Tk, T[j]? = some cx ∧ cx.1.kind = 5 := by
      unfold kindAt at hk5
      obtain ⟨cx, h1, h2⟩ := Option.map_eq_some_iff.1 hk5
      exact ⟨cx, h1, h2⟩
    obtain ⟨ck, cf, ct⟩ := cx
    have hjl := (List.getElem?_eq_some_iff.1 hcx).1
    have HR := Lib.hid (show itemW T size (altF T size n) d i (x, f, t) = .ok (repT (x, f, t) (ck, cf, ct) m) (j + 1) by unfold itemW; rw [HM.out]; simp only []; rw [hcx]; simp only []; rw [if_pos hc5])
    have HPK := Lib.hid (peekT_some (size := size) hcx)
    have HSM := Lib.hid (show (T[j]?).isSome = true by rw [hcx]; rfl)
    rw [show decide (kindAt T j = some 5) = true from decide_eq_true hk5]
    clear hk5 hcx hc5
    obtain ⟨⟨c0, c1, c2, c3, c4, c5⟩, f1, f3, f4, f5⟩ := hP.cells
    go_wp2_with fail
    refine (ppeek_at hP).mono ?_
    rintro v w7 ⟨rfl, hb⟩
    replace hP := hP.below hb
    replace st := st.below hb
    replace htr := htr.under hb
    replace hg := only_below hg hb
    clear hb c0 c1 c2 c3 c4 c5 f1 f3 f4 f5
    rw [HPK.out, HSM.out]
    unfold tokV
    have st2 := st.alloc (n := w7.heap.size) rfl (tokL ck cf ct) 111
    have hbb := (Below.refl _ w7).alloc (Nat.le_refl _) (.cells (tokL ck cf ct).toArray 111)
    replace hP := hP.below hbb
    replace htr := htr.under hbb
    replace hg := only_below hg hbb
    clear hbb st
    go_upto_region 13 with fail
    generalize w7.alloc _ = w8 at *
    obtain ⟨⟨c0, c1, c2, c3, c4, c5⟩, f1, f3, f4, f5⟩ := hP.cells
    obtain ⟨hP2, hg2⟩ := hP.next (j + 1) (((j : Nat) : Int) + 1) (by omega) hjl
    replace st2 := st2.turn hg2 hlt
    replace htr := htr.only hg2 (fun k hk => by have : w.heap.size ≤ k := hk; omega)
    replace hg := only_trans hg hg2
    go_upto_region 14 with fail
    generalize World.setCell _ _ _ = w9 at *
    clear c0 c1 c2 c3 c4 c5 f1 f3 f4 f5 hg2 hP
    obtain ⟨a0, a1, a2, a3, a4, a5, a6, a7, a8, a9⟩ := st2.ten 0 rfl
    obtain ⟨p0, p1, p2, p3, p4, p5, p6, p7, p8, p9⟩ := st2.ten 2 rfl
    have hs9 : w.heap.size ≤ w9.heap.size := st2.size
    have htl := htr.lt
    have hsa : w7.heap.size < w9.heap.size := (st2.get 0 rfl).lt
    have hsb : w.heap.size < w9.heap.size := (st2.get 2 rfl).lt
    have KEY := Lib.hid (show ∀ W : World, Below w9.heap.size w9 W → Blk W w9.heap.size 26 [.pointer (some ⟨b, 0, none⟩)] → Blk W (w9.heap.size + 1) 34 [.int .i64 6, .int .u64 0, .int .u64 0, .int .u64 0, .int .u64 0, .int .i64 ((ck.lo : Nat) : Int), .int .i64 ck.hi, .bool ck.lazy, .slice (some ⟨w9.heap.size, 0, none⟩) 1 1, .int .i64 ((f : Nat) : Int), .int .i64 ((ct : Nat) : Int)] →
        NodePost w W pb o c T size d (itemW T size (altF T size n) d i (x, f, t)) (.returned (.pointer (some ⟨w9.heap.size + 1, 0, none⟩))) from fun W k1 k2 k3 => by
      rw [HR.out]
      exact ⟨w9.heap.size + 1, rfl, hP2.below k1, only_below hg k1, node_one hs9 htr k1 k2 k3⟩)
    clear HR HM htr hg st2
    go_wp2
    go_returns
    refine KEY.out _ ?_ ?_ ?_
    · exact ((Below.refl _ _).alloc (Nat.le_refl _) _).alloc (by simp) _
    · exact push2_0 w9.heap _ _
    · exact push2_1 w9.heap _ _
  · have HR := Lib.hid (show itemW T size (altF T size n) d i (x, f, t) = .ok m j by
      unfold itemW; rw [HM.out]; simp only []
      cases hcx : T[j]? with
      | none => rfl
      | some cx =>
        simp only []
        rw [if_neg (fun e => hk5 (by rw [kind_some' hcx, e]))])
    rw [show decide (kindAt T j = some 5) = false from decide_eq_false hk5]
    clear hk5
    go_wp2
    go_returns
    rw [HR.out]
    exact ⟨b, rfl, hP, hg, htr⟩
set_option maxHeartbeats 8000000 in
theorem pitem_open {w : World} {pb : Nat} {o : Option Addr} {c : Nat} {T : List Tk} {size i d n : Nat} {x : Tok} {f t : Nat} (h : Psr w pb o c T size i d 0 0) (hT : T[i]? = some (x, f, t)) (hk : x.kind = 1) (h5 : kinds5 T) (hn : T.length - (i + 1) < n) (hrec : AltOk pb o c T size n) :
    Calls Tryz.prog 178 #[.pointer (some ⟨pb, 0, none⟩), tokV x f t] w fun v w' => NodePost w w' pb o c T size d (itemW T size (altF T size n) d i (x, f, t)) v := by
  have hil := (List.getElem?_eq_some_iff.1 hT).1
  have hlt := h.blk.lt
  have hlen := h.len
  have HBW := Lib.hid (show baseW T size (altF T size n) d i (x, f, t) = groupW T size (altF T size n) d i (x, f, t) by unfold baseW; rw [if_neg (show ¬x.kind = 0 by omega), if_pos (show x.kind = 1 ∨ x.kind = 2 by omega)])
  have q0 : (((x.kind : Nat) : Int) == 0) = false := by rw [beq_eq_false_iff_ne]; omega
  have q1 : (((x.kind : Nat) : Int) == 1) = true := by rw [beq_iff_eq]; omega
  unfold tokV
  go_enter Tryz.func178, Tryz.ntmps178
  go_upto_region 2 with fail
  have st := (StG.nil w pb).alloc rfl (tokL x f t) 111
  have hb := (Below.refl w.heap.size w).alloc (Nat.le_refl _) (.cells (tokL x f t).toArray 111)
  have hP := h.below hb
  have hg := only_of pb hb
  clear h hb
  generalize w.alloc _ = w1 at *
  obtain ⟨p0, p1, p2, p3, p4, p5, p6, p7, p8, p9⟩ := st.ten 0 rfl
  have hs1 : w.heap.size < w1.heap.size := (st.get 0 rfl).lt
  have HT := Lib.hid (And.intro hT hk)
  clear hT hk
  go_wp2_with fail
  have hgc : Calls Tryz.prog 230 #[.pointer (some ⟨pb, 0, none⟩), tokV x f t] w1 fun v w' => NodePost w1 w' pb o c T size d (groupW T size (altF T size n) d i (x, f, t)) v := by
    rcases Nat.lt_or_ge d 200 with hd | hd
    · exact pgroup_in hP hd HT.out.1 (by have := HT.out.2; omega) h5 hn hrec
    · exact pgroup_deep hP hd
  refine hgc.mono ?_
  rintro v w2 hpost
  clear hgc p0 p1 p2 p3 p4 p5 p6 p7 p8 p9
  replace hP := trivial
  cases hr : groupW T size (altF T size n) d i (x, f, t) with
  | err p e =>
    rw [hr] at hpost
    obtain ⟨a, i', rfl, he, hP, hg2⟩ := hpost
    have HR := Lib.hid (show itemW T size (altF T size n) d i (x, f, t) = .err p e by unfold itemW; rw [HBW.out, hr])
    have HE := Lib.hid he
    have he1 : (((e : Nat) : Int) != 0) = true := by rw [bne_iff_ne]; omega
    have he2 : (((e : Nat) : Int) == 0) = false := by rw [beq_eq_false_iff_ne]; omega
    clear hr he
    obtain ⟨⟨c0, c1, c2, c3, c4, c5⟩, f1, f3, f4, f5⟩ := hP.cells
    go_wp2
    go_returns
    rw [HR.out]
    exact ⟨a, i', rfl, HE.out, hP, only_trans hg hg2⟩
  | ok m j =>
    rw [hr] at hpost
    obtain ⟨b, rfl, hP, hg2, htr⟩ := hpost
    have HM := Lib.hid (HBW.out.trans hr)
    replace st := st.turn hg2 hlt
    replace htr := htr.mono (S' := From w) (fun k hk _ => Nat.le_trans (Nat.le_of_lt hs1) hk)
    replace hg := only_trans hg hg2
    clear hr hg2 HBW
    obtain ⟨⟨c0, c1, c2, c3, c4, c5⟩, f1, f3, f4, f5⟩ := hP.cells
    go_wp2_with fail
    refine (pis_at 5 hP).mono ?_
    rintro v w6 ⟨rfl, hb⟩
    replace hP := hP.below hb
    replace st := st.below hb
    replace htr := htr.under hb
    replace hg := only_below hg hb
    clear hb c0 c1 c2 c3 c4 c5 f1 f3 f4 f5
    by_cases hk5 : kindAt T j = some 5
    · obtain ⟨cx, hcx, hc5⟩ : ∃ cx : Tk, T[j]? = some cx ∧ cx.1.kind = 5 := by
        unfold kindAt at hk5
        obtain ⟨cx, h1, h2⟩ := Option.map_eq_some_iff.1 hk5
        exact ⟨cx, h1, h2⟩
      obtain ⟨ck, cf, ct⟩ := cx
      have hjl := (List.getElem?_eq_some_iff.1 hcx).1
      have HR := Lib.hid (show itemW T size (altF T size n) d i (x, f, t) = .ok (repT (x, f, t) (ck, cf, ct) m) (j + 1) by unfold itemW; rw [HM.out]; simp only []; rw [hcx]; simp only []; rw [if_pos hc5])
      have HPK := Lib.hid (peekT_some (size := size) hcx)
      have HSM := Lib.hid (show (T[j]?).isSome = true by rw [hcx]; rfl)
      rw [show decide (kindAt T j = some 5) = true from decide_eq_true hk5]
      clear hk5 hcx hc5
      obtain ⟨⟨c0, c1, c2, c3, c4, c5⟩, f1, f3, f4, f5⟩ := hP.cells
      go_wp2_with fail
      refine (ppeek_at hP).mono ?_
      rintro v w7 ⟨rfl, hb⟩
      replace hP := hP.below hb
      replace st := st.below hb
      replace htr := htr.under hb
      replace hg := only_below hg hb
      clear hb c0 c1 c2 c3 c4 c5 f1 f3 f4 f5
      rw [HPK.out, HSM.out]
      unfold tokV
      have st2 := st.alloc (n := w7.heap.size) rfl (tokL ck cf ct) 111
      have hbb := (Below.refl _ w7).alloc (Nat.le_refl _) (.cells (tokL ck cf ct).toArray 111)
      replace hP := hP.below hbb
      replace htr := htr.under hbb
      replace hg := only_below hg hbb
      clear hbb st
      go_upto_region 13 with fail
      generalize w7.alloc _ = w8 at *
      obtain ⟨⟨c0, c1, c2, c3, c4, c5⟩, f1, f3, f4, f5⟩ := hP.cells
      obtain ⟨hP2, hg2⟩ := hP.next (j + 1) (((j : Nat) : Int) + 1) (by omega) hjl
      replace st2 := st2.turn hg2 hlt
      replace htr := htr.only hg2 (fun k hk => by have : w.heap.size ≤ k := hk; omega)
      replace hg := only_trans hg hg2
      go_upto_region 14 with fail
      generalize World.setCell _ _ _ = w9 at *
      clear c0 c1 c2 c3 c4 c5 f1 f3 f4 f5 hg2 hP
      obtain ⟨a0, a1, a2, a3, a4, a5, a6, a7, a8, a9⟩ := st2.ten 0 rfl
      obtain ⟨p0, p1, p2, p3, p4, p5, p6, p7, p8, p9⟩ := st2.ten 1 rfl
      have hs9 : w.heap.size ≤ w9.heap.size := st2.size
      have htl := htr.lt
      have hsa : w7.heap.size < w9.heap.size := (st2.get 0 rfl).lt
      have hsb : w.heap.size < w9.heap.size := (st2.get 1 rfl).lt
      have KEY := Lib.hid (show ∀ W : World, Below w9.heap.size w9 W → Blk W w9.heap.size 26 [.pointer (some ⟨b, 0, none⟩)] → Blk W (w9.heap.size + 1) 34 [.int .i64 6, .int .u64 0, .int .u64 0, .int .u64 0, .int .u64 0, .int .i64 ((ck.lo : Nat) : Int), .int .i64 ck.hi, .bool ck.lazy, .slice (some ⟨w9.heap.size, 0, none⟩) 1 1, .int .i64 ((f : Nat) : Int), .int .i64 ((ct : Nat) : Int)] →
          NodePost w W pb o c T size d (itemW T size (altF T size n) d i (x, f, t)) (.returned (.pointer (some ⟨w9.heap.size + 1, 0, none⟩))) from fun W k1 k2 k3 => by
        rw [HR.out]
        exact ⟨w9.heap.size + 1, rfl, hP2.below k1, only_below hg k1, node_one hs9 htr k1 k2 k3⟩)
      clear HR HM htr hg st2
      go_wp2
      go_returns
      refine KEY.out _ ?_ ?_ ?_
      · exact ((Below.refl _ _).alloc (Nat.le_refl _) _).alloc (by simp) _
      · exact push2_0 w9.heap _ _
      · exact push2_1 w9.heap _ _
    · have HR := Lib.hid (show itemW T size (altF T size n) d i (x, f, t) = .ok m j by
        unfold itemW; rw [HM.out]; simp only []
        cases hcx : T[j]? with
        | none => rfl
        | some cx =>
          simp only []
          rw [if_neg (fun e => hk5 (by rw [kind_some' hcx, e]))])
      rw [show decide (kindAt T j = some 5) = false from decide_eq_false hk5]
      clear hk5
      go_wp2
      go_returns
      rw [HR.out]
      exact ⟨b, rfl, hP, hg, htr⟩
set_option maxHeartbeats 8000000 in
theorem pitem_free {w : World} {pb : Nat} {o : Option Addr} {c : Nat} {T : List Tk} {size i d n : Nat} {x : Tok} {f t : Nat} (h : Psr w pb o c T size i d 0 0) (hT : T[i]? = some (x, f, t)) (hk : x.kind = 2) (h5 : kinds5 T) (hn : T.length - (i + 1) < n) (hrec : AltOk pb o c T size n) :
    Calls Tryz.prog 178 #[.pointer (some ⟨pb, 0, none⟩), tokV x f t] w fun v w' => NodePost w w' pb o c T size d (itemW T size (altF T size n) d i (x, f, t)) v := by
  have hil := (List.getElem?_eq_some_iff.1 hT).1
  have hlt := h.blk.lt
  have hlen := h.len
  have HBW := Lib.hid (show baseW T size (altF T size n) d i (x, f, t) = groupW T size (altF T size n) d i (x, f, t) by unfold baseW; rw [if_neg (show ¬x.kind = 0 by omega), if_pos (show x.kind = 1 ∨ x.kind = 2 by omega)])
  have q0 : (((x.kind : Nat) : Int) == 0) = false := by rw [beq_eq_false_iff_ne]; omega
  have q1 : (((x.kind : Nat) : Int) == 1) = false := by rw [beq_eq_false_iff_ne]; omega
  have q2 : (((x.kind : Nat) : Int) == 2) = true := by rw [beq_iff_eq]; omega
  unfold tokV
  go_enter Tryz.func178, Tryz.ntmps178
  go_upto_region 2 with fail
  have st := (StG.nil w pb).alloc rfl (tokL x f t) 111
  have hb := (Below.refl w.heap.size w).alloc (Nat.le_refl _) (.cells (tokL x f t).toArray 111)
  have hP := h.below hb
  have hg := only_of pb hb
  clear h hb
  generalize w.alloc _ = w1 at *
  obtain ⟨p0, p1, p2, p3, p4, p5, p6, p7, p8, p9⟩ := st.ten 0 rfl
  have hs1 : w.heap.size < w1.heap.size := (st.get 0 rfl).lt
  have HT := Lib.hid (And.intro hT hk)
  clear hT hk
  go_wp2_with fail
  have hgc : Calls Tryz.prog 230 #[.pointer (some ⟨pb, 0, none⟩), tokV x f t] w1 fun v w' => NodePost w1 w' pb o c T size d (groupW T size (altF T size n) d i (x, f, t)) v := by
    rcases Nat.lt_or_ge d 200 with hd | hd
    · exact pgroup_in hP hd HT.out.1 (by have := HT.out.2; omega) h5 hn hrec
    · exact pgroup_deep hP hd
  refine hgc.mono ?_
  rintro v w2 hpost
  clear hgc p0 p1 p2 p3 p4 p5 p6 p7 p8 p9
  replace hP := trivial
  cases hr : groupW T size (altF T size n) d i (x, f, t) with
  | err p e =>
    rw [hr] at hpost
    obtain ⟨a, i', rfl, he, hP, hg2⟩ := hpost
    have HR := Lib.hid (show itemW T size (altF T size n) d i (x, f, t) = .err p e by unfold itemW; rw [HBW.out, hr])
    have HE := Lib.hid he
    have he1 : (((e : Nat) : Int) != 0) = true := by rw [bne_iff_ne]; omega
    have he2 : (((e : Nat) : Int) == 0) = false := by rw [beq_eq_false_iff_ne]; omega
    clear hr he
    obtain ⟨⟨c0, c1, c2, c3, c4, c5⟩, f1, f3, f4, f5⟩ := hP.cells
    go_wp2
    go_returns
    rw [HR.out]
    exact ⟨a, i', rfl, HE.out, hP, only_trans hg hg2⟩
  | ok m j =>
    rw [hr] at hpost
    obtain ⟨b, rfl, hP, hg2, htr⟩ := hpost
    have HM := Lib.hid (HBW.out.trans hr)
    replace st := st.turn hg2 hlt
    replace htr := htr.mono (S' := From w) (fun k hk _ => Nat.le_trans (Nat.le_of_lt hs1) hk)
    replace hg := only_trans hg hg2
    clear hr hg2 HBW
    obtain ⟨⟨c0, c1, c2, c3, c4, c5⟩, f1, f3, f4, f5⟩ := hP.cells
    go_wp2_with fail
    refine (pis_at 5 hP).mono ?_
    rintro v w6 ⟨rfl, hb⟩
    replace hP := hP.below hb
    replace st := st.below hb
    replace htr := htr.under hb
    replace hg := only_below hg hb
    clear hb c0 c1 c2 c3 c4 c5 f1 f3 f4 f5
    by_cases hk5 : kindAt T j = some 5
    · obtain ⟨cx, hcx, hc5⟩ : ∃ cx : Tk, T[j]? = some cx ∧ cx.1.kind = 5 := by
        unfold kindAt at hk5
        obtain ⟨cx, h1, h2⟩ := Option.map_eq_some_iff.1 hk5
        exact ⟨cx, h1, h2⟩
      obtain ⟨ck, cf, ct⟩ := cx
      have hjl := (List.getElem?_eq_some_iff.1 hcx).1
      have HR := Lib.hid (show itemW T size (altF T size n) d i (x, f, t) = .ok (repT (x, f, t) (ck, cf, ct) m) (j + 1) by unfold itemW; rw [HM.out]; simp only []; rw [hcx]; simp only []; rw [if_pos hc5])
      have HPK := Lib.hid (peekT_some (size := size) hcx)
      have HSM := Lib.hid (show (T[j]?).isSome = true by rw [hcx]; rfl)
      rw [show decide (kindAt T j = some 5) = true from decide_eq_true hk5]
      clear hk5 hcx hc5
      obtain ⟨⟨c0, c1, c2, c3, c4, c5⟩, f1, f3, f4, f5⟩ := hP.cells
      go_wp2_with fail
      refine (ppeek_at hP).mono ?_
      rintro v w7 ⟨rfl, hb⟩
      replace hP := hP.below hb
      replace st := st.below hb
      replace htr := htr.under hb
      replace hg := only_below hg hb
      clear hb c0 c1 c2 c3 c4 c5 f1 f3 f4 f5
      rw [HPK.out, HSM.out]
      unfold tokV
      have st2 := st.alloc (n := w7.heap.size) rfl (tokL ck cf ct) 111
      have hbb := (Below.refl _ w7).alloc (Nat.le_refl _) (.cells (tokL ck cf ct).toArray 111)
      replace hP := hP.below hbb
      replace htr := htr.under hbb
      replace hg := only_below hg hbb
      clear hbb st
      go_upto_region 13 with fail
      generalize w7.alloc _ = w8 at *
      obtain ⟨⟨c0, c1, c2, c3, c4, c5⟩, f1, f3, f4, f5⟩ := hP.cells
      obtain ⟨hP2, hg2⟩ := hP.next (j + 1) (((j : Nat) : Int) + 1) (by omega) hjl
      replace st2 := st2.turn hg2 hlt
      replace htr := htr.only hg2 (fun k hk => by have : w.heap.size ≤ k := hk; omega)
      replace hg := only_trans hg hg2
      go_upto_region 14 with fail
      generalize World.setCell _ _ _ = w9 at *
      clear c0 c1 c2 c3 c4 c5 f1 f3 f4 f5 hg2 hP
      obtain ⟨a0, a1, a2, a3, a4, a5, a6, a7, a8, a9⟩ := st2.ten 0 rfl
      obtain ⟨p0, p1, p2, p3, p4, p5, p6, p7, p8, p9⟩ := st2.ten 1 rfl
      have hs9 : w.heap.size ≤ w9.heap.size := st2.size
      have htl := htr.lt
      have hsa : w7.heap.size < w9.heap.size := (st2.get 0 rfl).lt
      have hsb : w.heap.size < w9.heap.size := (st2.get 1 rfl).lt
      have KEY := Lib.hid (show ∀ W : World, Below w9.heap.size w9 W → Blk W w9.heap.size 26 [.pointer (some ⟨b, 0, none⟩)] → Blk W (w9.heap.size + 1) 34 [.int .i64 6, .int .u64 0, .int .u64 0, .int .u64 0, .int .u64 0, .int .i64 ((ck.lo : Nat) : Int), .int .i64 ck.hi, .bool ck.lazy, .slice (some ⟨w9.heap.size, 0, none⟩) 1 1, .int .i64 ((f : Nat) : Int), .int .i64 ((ct : Nat) : Int)] →
          NodePost w W pb o c T size d (itemW T size (altF T size n) d i (x, f, t)) (.returned (.pointer (some ⟨w9.heap.size + 1, 0, none⟩))) from fun W k1 k2 k3 => by
        rw [HR.out]
        exact ⟨w9.heap.size + 1, rfl, hP2.below k1, only_below hg k1, node_one hs9 htr k1 k2 k3⟩)
      clear HR HM htr hg st2
      go_wp2
      go_returns
      refine KEY.out _ ?_ ?_ ?_
      · exact ((Below.refl _ _).alloc (Nat.le_refl _) _).alloc (by simp) _
      · exact push2_0 w9.heap _ _
      · exact push2_1 w9.heap _ _
    · have HR := Lib.hid (show itemW T size (altF T size n) d i (x, f, t) = .ok m j by
        unfold itemW; rw [HM.out]; simp only []
        cases hcx : T[j]? with
        | none => rfl
        | some cx =>
          simp only []
          rw [if_neg (fun e => hk5 (by rw [kind_some' hcx, e]))])
      rw [show decide (kindAt T j = some 5) = false from decide_eq_false hk5]
      clear hk5
      go_wp2
      go_returns
      rw [HR.out]
      exact ⟨b, rfl, hP, hg, htr⟩
set_option maxHeartbeats 8000000 in
theorem pitem_count {w : World} {pb : Nat} {o : Option Addr} {c : Nat} {T : List Tk} {size i d n : Nat} {x : Tok} {f t : Nat} (h : Psr w pb o c T size i d 0 0) (hT : T[i]? = some (x, f, t)) (hk : x.kind = 5) :
    Calls Tryz.prog 178 #[.pointer (some ⟨pb, 0, none⟩), tokV x f t] w fun v w' => NodePost w w' pb o c T size d (itemW T size (altF T size n) d i (x, f, t)) v := by
  have hil := (List.getElem?_eq_some_iff.1 hT).1
  have hlt := h.blk.lt
  have hlen := h.len
  have HR := Lib.hid (show itemW T size (altF T size n) d i (x, f, t) = .err f 4 by unfold itemW baseW; rw [if_neg (show ¬x.kind = 0 by omega), if_neg (show ¬(x.kind = 1 ∨ x.kind = 2) by omega)])
  have q0 : (((x.kind : Nat) : Int) == 0) = false := by rw [beq_eq_false_iff_ne]; omega
  have q1 : (((x.kind : Nat) : Int) == 1) = false := by rw [beq_eq_false_iff_ne]; omega
  have q2 : (((x.kind : Nat) : Int) == 2) = false := by rw [beq_eq_false_iff_ne]; omega
  clear hT hk
  unfold tokV
  go_enter Tryz.func178, Tryz.ntmps178
  go_upto_region 2 with fail
  have st := (StG.nil w pb).alloc rfl (tokL x f t) 111
  have hb := (Below.refl w.heap.size w).alloc (Nat.le_refl _) (.cells (tokL x f t).toArray 111)
  have hP := h.below hb
  have hg := only_of pb hb
  clear h hb
  generalize w.alloc _ = w1 at *
  obtain ⟨p0, p1, p2, p3, p4, p5, p6, p7, p8, p9⟩ := st.ten 0 rfl
  have hs1 : w.heap.size < w1.heap.size := (st.get 0 rfl).lt
  obtain ⟨⟨c0, c1, c2, c3, c4, c5⟩, f1, f3, f4, f5⟩ := hP.cells
  go_wp2_with fail
  refine (pfail_at f 4 hP).mono ?_
  rintro v w2 ⟨⟨u, rfl⟩, hP2, hg2⟩
  clear c0 c1 c2 c3 c4 c5 f1 f3 f4 f5 hP
  obtain ⟨⟨c0, c1, c2, c3, c4, c5⟩, f1, f3, f4, f5⟩ := hP2.cells
  go_wp2
  go_returns
  rw [HR.out]
  exact ⟨none, i, rfl, by omega, hP2, only_trans hg hg2⟩
theorem pitem_at {w : World} {pb : Nat} {o : Option Addr} {c : Nat} {T : List Tk} {size i d n : Nat} {x : Tok} {f t : Nat} (h : Psr w pb o c T size i d 0 0) (hT : T[i]? = some (x, f, t)) (h3 : x.kind ≠ 3) (h4 : x.kind ≠ 4) (h5 : kinds5 T) (hn : T.length - (i + 1) < n) (hrec : AltOk pb o c T size n) :
    Calls Tryz.prog 178 #[.pointer (some ⟨pb, 0, none⟩), tokV x f t] w fun v w' => NodePost w w' pb o c T size d (itemW T size (altF T size n) d i (x, f, t)) v := by
  have hk := h5 i _ hT
  rcases (show x.kind = 0 ∨ x.kind = 1 ∨ x.kind = 2 ∨ x.kind = 5 by simp only [] at hk; omega) with hx | hx | hx | hx
  · exact pitem_set h hT hx
  · exact pitem_open h hT hx h5 hn hrec
  · exact pitem_free h hT hx h5 hn hrec
  · exact pitem_count h hT hx
end Go.Proofs.YtpiimcbbgalhfaaGreatDoor
