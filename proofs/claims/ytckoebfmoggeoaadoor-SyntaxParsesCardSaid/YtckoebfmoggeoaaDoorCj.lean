/- SyntaxParses: the walk. -/
import Derived.Test.YtckoebfmoggeoaaDoorCi
import Derived.Test.YtckoebfmoggeoaaDoorCf
import Derived.Test.YtckoebfmoggeoaaDoorCh
namespace Go.Proofs.YtckoebfmoggeoaaDoor
set_option maxRecDepth 100000
open Go.RowKit
attribute [local go_sem] eq_words eqB_words eqB_zero
theorem row_form {w : World} {base size n : Nat} {e : TypeId} {v : Value} {xs : List Value} (h : w.ownsRow base e size v n xs) : ∃ (o : Option Addr) (c : Nat), v = .slice o n c ∧ ∀ (j : Nat) (u : Value), xs[j]? = some u → ∃ g, o = some ⟨g, 0, none⟩ ∧ g < w.heap.size ∧ w.cell? ⟨g, j, none⟩ = some u := by
  rcases h.2 with ⟨rfl, h0⟩ | ⟨g, cap, cur, rfl, _⟩
  · refine ⟨none, 0, by rw [h0], fun j u hj => ?_⟩
    have := h.1
    rw [h0, Nat.zero_mul] at this
    rw [List.eq_nil_of_length_eq_zero this] at hj
    cases hj
  · exact ⟨some ⟨g, 0, none⟩, cap, rfl, fun j u hj => ⟨g, rfl, (h.lt g rfl).2, own_cell h j u hj⟩⟩
set_option maxHeartbeats 16000000 in
theorem parses_law (p : ByteArray) (w : World) (hT : TabOk w) (hp0 : p.size ≤ 9223372036854775807) :
    Calls Tryd.prog 5 #[.string p] w fun e w' => e = .returned (.bool true) ∧ Below w.heap.size w w' := by
  have HT := Lib.hid hT
  clear hT
  by_cases hp : 300 < p.size
  · go_enter Tryd.func5, Tryd.ntmps5
    go_wp2_with fail
    refine (awake06_at _ HT.out).mono ?_
    rintro v w1 ⟨rfl, hb⟩
    go_wp2
    go_returns
    exact ⟨rfl, hb⟩
  have HPB := Lib.hid (parseB_small (s := p) (by omega))
  go_enter Tryd.func5, Tryd.ntmps5
  go_wp2_with fail
  refine (sparse_at p w HT.out).mono ?_
  rintro v w2 ⟨hpi, hb1⟩
  have HT2 := Lib.hid (tab_far HT.out hb1 (tab_lt HT.out))
  have HB2 := Lib.hid hb1
  have HRP := Lib.hid (fun W => rparse_at p (by omega) W)
  clear hb1
  unfold ParseIs at hpi
  rw [HPB.out] at hpi
  cases hpm : parseM p with
  | err p1 e1 =>
    rw [hpm] at hpi
    obtain ⟨rfl, he1⟩ := hpi
    have HPM := Lib.hid hpm
    have HE1 := Lib.hid he1
    clear hpm he1
    go_wp2_with fail
    refine (HRP.out _).mono ?_
    rintro v w3 ⟨hri, hb3⟩
    unfold RParseIs at hri
    rw [HPM.out] at hri
    obtain ⟨rfl, -⟩ := hri
    have st3 := (((St.nil w2).below' hb3).alloc rfl (zeroN) 32).alloc (n := w3.heap.size + 1) (by simp) [.int .i64 ((p1 : Nat) : Int), .int .i64 ((e1 : Nat) : Int)] 34
    clear hb3
    go_upto_region 5 with fail
    generalize (w3.alloc _).alloc _ = w4 at *
    obtain ⟨⟨d0, d1⟩, -⟩ := st3.two 0 rfl
    have HAW := Lib.hid (awake06_at w4 (tab_far HT2.out st3.below (tab_lt HT2.out)))
    have HB4 := Lib.hid (HB2.out.trans (st3.below.mono HB2.out.size))
    have he1b : (((e1 : Nat) : Int) != 0) = true := by rw [bne_iff_ne]; have := HE1.out; omega
    clear st3
    go_wp2_with fail
    refine HAW.out.mono ?_
    rintro v w5 ⟨rfl, hb5⟩
    go_wp2
    go_returns
    exact ⟨rfl, HB4.out.trans (hb5.mono HB4.out.size)⟩
  | ok t1 j1 =>
    rw [hpm] at hpi
    obtain ⟨b1, rfl, htr1⟩ := hpi
    have HPM := Lib.hid hpm
    have hgood := parse_good hpm
    have HOK := Lib.hid (And.intro hgood (show sizeT t1 ≤ 1000000 by have := hgood.size; omega))
    have HDP := Lib.hid (show deepT t1 ≤ 1000000 by have := hgood.deep; omega)
    have HTR2 := Lib.hid htr1
    clear hpm htr1 hgood
    go_wp2_with fail
    refine (HRP.out _).mono ?_
    rintro v w3 ⟨hri, hb3⟩
    unfold RParseIs at hri
    rw [HPM.out] at hri
    obtain ⟨cs1, rfl, hrt1⟩ := hri
    obtain ⟨A1, c1, rfl, -, -⟩ := hrt1.node
    have st3 := (((St.nil w2).below' hb3).alloc rfl (nodeL t1.kind t1.set t1.lo t1.hi t1.lazy (.slice A1 t1.kids.length c1) t1.f t1.t) 32).alloc (n := w3.heap.size + 1) (by simp) [.int .i64 0, .int .i64 0] 34
    have hb31 : Below w3.heap.size w3 ((w3.alloc (.cells (nodeL t1.kind t1.set t1.lo t1.hi t1.lazy (.slice A1 t1.kids.length c1) t1.f t1.t).toArray 32)).alloc (.cells #[.int .i64 0, .int .i64 0] 34)) := ((Below.refl _ w3).alloc (Nat.le_refl _) _).alloc (by simp) _
    have RT4 := Lib.hid (hrt1.under hb31)
    clear hrt1 hb3 hb31
    go_upto_region 5 with fail
    generalize (w3.alloc _).alloc _ = w4 at *
    obtain ⟨⟨d0, d1⟩, -⟩ := st3.two 0 rfl
    obtain ⟨⟨u0_, u1_, u2_, u3_, u4_, u5_, u6_, u7_, u8_, u9_, u10_⟩, -⟩ := (st3.get 1 rfl).eleven
    have HST4 := Lib.hid st3
    have TR4 := Lib.hid (HTR2.out.under st3.below)
    have HT4 := Lib.hid (tab_far HT2.out st3.below (tab_lt HT2.out))
    have HB4 := Lib.hid (HB2.out.trans (st3.below.mono HB2.out.size))
    clear st3
    go_wp2_with fail
    refine (rsets_at RT4.out HOK.out.2 w4 (Below.refl _ _)).mono ?_
    rintro v w5 ⟨lv1, rfl, hown1, hb5⟩
    have HB5 := Lib.hid hb5
    have HO1 := Lib.hid hown1
    clear hb5 hown1 u0_ u1_ u2_ u3_ u4_ u5_ u6_ u7_ u8_ u9_ u10_ d0 d1
    go_wp2_with fail
    refine (ssets_at (TR4.out.under HB5.out) HOK.out.2).mono ?_
    rintro v w6 ⟨lv2, rfl, hown2, hb6⟩
    have HB6 := Lib.hid (HB5.out.trans (hb6.mono HB5.out.size))
    have HO1' := Lib.hid (own_below HO1.out hb6)
    have HO2 := Lib.hid hown2
    clear hb6 hown2
    obtain ⟨⟨u0_, u1_, u2_, u3_, u4_, u5_, u6_, u7_, u8_, u9_, u10_⟩, -⟩ := ((HST4.out.below' HB6.out).get 1 rfl).eleven
    obtain ⟨o1, k1, rfl, hr1⟩ := row_form HO1'.out
    obtain ⟨o2, k2, rfl, hr2⟩ := row_form HO2.out
    have HR1 := Lib.hid hr1
    have HR2 := Lib.hid hr2
    clear hr1 hr2
    have hnn : ((((setsT t1).length : Nat) : Int) != (((setsT t1).length : Nat) : Int)) = false := by simp
    have hsl := sets_size t1
    have hsl2 := HOK.out.2
    go_wp2_with fail
    refine (unlike_at TR4.out _ _ RT4.out w6 HB6.out).mono ?_
    rintro v w7 ⟨rfl, hb7⟩
    have HB7 := Lib.hid (HB6.out.trans (hb7.mono HB6.out.size))
    have HB67 := Lib.hid hb7
    clear hb7 u0_ u1_ u2_ u3_ u4_ u5_ u6_ u7_ u8_ u9_ u10_
    go_wp2_with fail
    go_loopw [10] (fun iv wr => ∃ i q : Nat, i ≤ (setsT t1).length ∧ iv = .int .i64 ((i : Nat) : Int) ∧ wr = w7.drewN q) (fun iv _ => (setsT t1).length - (intOf iv).toNat)
    case atStart => exact ⟨0, 0, Nat.zero_le _, rfl, rfl⟩
    case round =>
      clear hnn
      obtain ⟨i, nq0, hil, rfl, rfl⟩ := hrel
      have HB8 := Lib.hid (below_drewN HB7.out nq0)
      have HB68 := Lib.hid (below_drewN HB67.out nq0)
      rcases Nat.eq_or_lt_of_le hil with hie | hlt
      · subst hie
        generalize w7.drewN nq0 = w8 at *
        have TR8 := Lib.hid (TR4.out.under HB8.out)
        have RT8 := Lib.hid (RT4.out.under HB8.out)
        have HT8 := Lib.hid (tab_far HT4.out HB8.out (tab_lt HT4.out))
        obtain ⟨⟨u0_, u1_, u2_, u3_, u4_, u5_, u6_, u7_, u8_, u9_, u10_⟩, -⟩ := ((HST4.out.below' HB8.out).get 1 rfl).eleven
        have hx1 : w3.heap.size < w8.heap.size := ((HST4.out.below' HB8.out).get 1 rfl).lt
        have hB0 : Below w8.heap.size w8 w8.drew := (Below.refl _ _).drew
        obtain ⟨z1, hz1⟩ : ∃ z, sizeT t1 = z := ⟨_, rfl⟩
        obtain ⟨z2, hz2⟩ : ∃ z, countT 2 t1 = z := ⟨_, rfl⟩
        obtain ⟨z3, hz3⟩ : ∃ z, deepT t1 = z := ⟨_, rfl⟩
        have HZ1 := Lib.hid (fun W hW => by have := ssize_at (TR8.out.under hW) HOK.out.2; rwa [hz1] at this :
          ∀ W, Below w8.heap.size w8 W → Calls Tryd.prog 16 #[ptrV b1] W fun v W' => v = .returned (.int .i64 ((z1 : Nat) : Int)) ∧ Below W.heap.size W W')
        have HZ2 := Lib.hid (fun W hW => by have := rsize_at RT8.out HOK.out.2 W hW; rwa [hz1] at this :
          ∀ W, Below w8.heap.size w8 W → Calls Tryd.prog 17 #[.agg (nodeL t1.kind t1.set t1.lo t1.hi t1.lazy (.slice A1 t1.kids.length c1) t1.f t1.t).toArray] W fun v W' => v = .returned (.int .i64 ((z1 : Nat) : Int)) ∧ Below W.heap.size W W')
        have HG1 := Lib.hid (fun W hW => by have := sgroups_at (TR8.out.under hW) HOK.out.2; rwa [hz2] at this :
          ∀ W, Below w8.heap.size w8 W → Calls Tryd.prog 18 #[ptrV b1] W fun v W' => v = .returned (.int .i64 ((z2 : Nat) : Int)) ∧ Below W.heap.size W W')
        have HG2 := Lib.hid (fun W hW => by have := rcount_at RT8.out HOK.out.2 W hW; rwa [hz2] at this :
          ∀ W, Below w8.heap.size w8 W → Calls Tryd.prog 19 #[.agg (nodeL t1.kind t1.set t1.lo t1.hi t1.lazy (.slice A1 t1.kids.length c1) t1.f t1.t).toArray, .int .i64 2] W fun v W' => v = .returned (.int .i64 ((z2 : Nat) : Int)) ∧ Below W.heap.size W W')
        have HD1 := Lib.hid (fun W hW => by have := deep_at (TR8.out.under hW) HDP.out; rw [hz3] at this; exact this.mono fun v W' ⟨h1, h2⟩ => ⟨h1, by rw [h2]; exact Below.refl _ _⟩ :
          ∀ W, Below w8.heap.size w8 W → Calls Tryd.prog 20 #[ptrV b1] W fun v W' => v = .returned (.int .i64 ((z3 : Nat) : Int)) ∧ Below W.heap.size W W')
        have HD2 := Lib.hid (fun W hW => by have := rdeep_at RT8.out HDP.out W hW; rwa [hz3] at this :
          ∀ W, Below w8.heap.size w8 W → Calls Tryd.prog 21 #[.agg (nodeL t1.kind t1.set t1.lo t1.hi t1.lazy (.slice A1 t1.kids.length c1) t1.f t1.t).toArray] W fun v W' => v = .returned (.int .i64 ((z3 : Nat) : Int)) ∧ Below W.heap.size W W')
        have HRI := Lib.hid (fun W hW => by have := right_at (TR8.out.under hW) HOK.out.1.rng HDP.out; rwa [HOK.out.1.fit, decide_eq_true HOK.out.1.deep] at this :
          ∀ W, Below w8.heap.size w8 W → Calls Tryd.prog 12 #[ptrV b1] W fun v W' => v = .returned (.bool true) ∧ Below W.heap.size W W')
        have HAW := Lib.hid (fun W hW => awake06_at W (tab_far HT8.out hW (tab_lt HT8.out)) :
          ∀ W, Below w8.heap.size w8 W → Calls Tryd.prog 7 #[] W fun v W' => v = .returned (.bool true) ∧ Below W.heap.size W W')
        clear hz1 hz2 hz3 hsl hsl2
        go_upto_region 16 with fail
        go_region_held3 (fun x' => x'.cell? ⟨w3.heap.size, 0, none⟩ = some (.int .i64 t1.kind) ∧ x'.cell? ⟨w3.heap.size, 1, none⟩ = some (.int .u64 (word t1.set 0)) ∧ x'.cell? ⟨w3.heap.size, 2, none⟩ = some (.int .u64 (word t1.set 1)) ∧ x'.cell? ⟨w3.heap.size, 3, none⟩ = some (.int .u64 (word t1.set 2)) ∧ x'.cell? ⟨w3.heap.size, 4, none⟩ = some (.int .u64 (word t1.set 3)) ∧ x'.cell? ⟨w3.heap.size, 5, none⟩ = some (.int .i64 t1.lo) ∧ x'.cell? ⟨w3.heap.size, 6, none⟩ = some (.int .i64 t1.hi) ∧ x'.cell? ⟨w3.heap.size, 7, none⟩ = some (.bool t1.lazy) ∧ x'.cell? ⟨w3.heap.size, 8, none⟩ = some (.slice A1 t1.kids.length c1) ∧ x'.cell? ⟨w3.heap.size, 9, none⟩ = some (.int .i64 ((t1.f : Nat) : Int)) ∧ x'.cell? ⟨w3.heap.size, 10, none⟩ = some (.int .i64 ((t1.t : Nat) : Int)) ∧ Below w8.heap.size w8 x') ((repeat' apply And.intro) <;> first | assumption | go_keep)
          (first
          | (go_at_call 16; refine (HZ1.out _ ?_).mono ?_; (go_split_ands; assumption); rintro e w9 ⟨rfl, hb9⟩; have hB8 := (show Below w8.heap.size w8 _ by go_split_ands; assumption); have hB9 := hB8.trans (hb9.mono hB8.size); clear hB8 hb9; have z0 : w9.cell? ⟨w3.heap.size, 0, none⟩ = some (.int .i64 t1.kind) := (hB9.cell (p := ⟨w3.heap.size, 0, none⟩) hx1).trans u0_; have z1 : w9.cell? ⟨w3.heap.size, 1, none⟩ = some (.int .u64 (word t1.set 0)) := (hB9.cell (p := ⟨w3.heap.size, 1, none⟩) hx1).trans u1_; have z2 : w9.cell? ⟨w3.heap.size, 2, none⟩ = some (.int .u64 (word t1.set 1)) := (hB9.cell (p := ⟨w3.heap.size, 2, none⟩) hx1).trans u2_; have z3 : w9.cell? ⟨w3.heap.size, 3, none⟩ = some (.int .u64 (word t1.set 2)) := (hB9.cell (p := ⟨w3.heap.size, 3, none⟩) hx1).trans u3_; have z4 : w9.cell? ⟨w3.heap.size, 4, none⟩ = some (.int .u64 (word t1.set 3)) := (hB9.cell (p := ⟨w3.heap.size, 4, none⟩) hx1).trans u4_; have z5 : w9.cell? ⟨w3.heap.size, 5, none⟩ = some (.int .i64 t1.lo) := (hB9.cell (p := ⟨w3.heap.size, 5, none⟩) hx1).trans u5_; have z6 : w9.cell? ⟨w3.heap.size, 6, none⟩ = some (.int .i64 t1.hi) := (hB9.cell (p := ⟨w3.heap.size, 6, none⟩) hx1).trans u6_; have z7 : w9.cell? ⟨w3.heap.size, 7, none⟩ = some (.bool t1.lazy) := (hB9.cell (p := ⟨w3.heap.size, 7, none⟩) hx1).trans u7_; have z8 : w9.cell? ⟨w3.heap.size, 8, none⟩ = some (.slice A1 t1.kids.length c1) := (hB9.cell (p := ⟨w3.heap.size, 8, none⟩) hx1).trans u8_; have z9 : w9.cell? ⟨w3.heap.size, 9, none⟩ = some (.int .i64 ((t1.f : Nat) : Int)) := (hB9.cell (p := ⟨w3.heap.size, 9, none⟩) hx1).trans u9_; have z10 : w9.cell? ⟨w3.heap.size, 10, none⟩ = some (.int .i64 ((t1.t : Nat) : Int)) := (hB9.cell (p := ⟨w3.heap.size, 10, none⟩) hx1).trans u10_)
          | (go_at_call 17; refine (HZ2.out _ ?_).mono ?_; (go_split_ands; assumption); rintro e w9 ⟨rfl, hb9⟩; have hB8 := (show Below w8.heap.size w8 _ by go_split_ands; assumption); have hB9 := hB8.trans (hb9.mono hB8.size); clear hB8 hb9; have z0 : w9.cell? ⟨w3.heap.size, 0, none⟩ = some (.int .i64 t1.kind) := (hB9.cell (p := ⟨w3.heap.size, 0, none⟩) hx1).trans u0_; have z1 : w9.cell? ⟨w3.heap.size, 1, none⟩ = some (.int .u64 (word t1.set 0)) := (hB9.cell (p := ⟨w3.heap.size, 1, none⟩) hx1).trans u1_; have z2 : w9.cell? ⟨w3.heap.size, 2, none⟩ = some (.int .u64 (word t1.set 1)) := (hB9.cell (p := ⟨w3.heap.size, 2, none⟩) hx1).trans u2_; have z3 : w9.cell? ⟨w3.heap.size, 3, none⟩ = some (.int .u64 (word t1.set 2)) := (hB9.cell (p := ⟨w3.heap.size, 3, none⟩) hx1).trans u3_; have z4 : w9.cell? ⟨w3.heap.size, 4, none⟩ = some (.int .u64 (word t1.set 3)) := (hB9.cell (p := ⟨w3.heap.size, 4, none⟩) hx1).trans u4_; have z5 : w9.cell? ⟨w3.heap.size, 5, none⟩ = some (.int .i64 t1.lo) := (hB9.cell (p := ⟨w3.heap.size, 5, none⟩) hx1).trans u5_; have z6 : w9.cell? ⟨w3.heap.size, 6, none⟩ = some (.int .i64 t1.hi) := (hB9.cell (p := ⟨w3.heap.size, 6, none⟩) hx1).trans u6_; have z7 : w9.cell? ⟨w3.heap.size, 7, none⟩ = some (.bool t1.lazy) := (hB9.cell (p := ⟨w3.heap.size, 7, none⟩) hx1).trans u7_; have z8 : w9.cell? ⟨w3.heap.size, 8, none⟩ = some (.slice A1 t1.kids.length c1) := (hB9.cell (p := ⟨w3.heap.size, 8, none⟩) hx1).trans u8_; have z9 : w9.cell? ⟨w3.heap.size, 9, none⟩ = some (.int .i64 ((t1.f : Nat) : Int)) := (hB9.cell (p := ⟨w3.heap.size, 9, none⟩) hx1).trans u9_; have z10 : w9.cell? ⟨w3.heap.size, 10, none⟩ = some (.int .i64 ((t1.t : Nat) : Int)) := (hB9.cell (p := ⟨w3.heap.size, 10, none⟩) hx1).trans u10_)
          | (go_at_call 18; refine (HG1.out _ ?_).mono ?_; (go_split_ands; assumption); rintro e w9 ⟨rfl, hb9⟩; have hB8 := (show Below w8.heap.size w8 _ by go_split_ands; assumption); have hB9 := hB8.trans (hb9.mono hB8.size); clear hB8 hb9; have z0 : w9.cell? ⟨w3.heap.size, 0, none⟩ = some (.int .i64 t1.kind) := (hB9.cell (p := ⟨w3.heap.size, 0, none⟩) hx1).trans u0_; have z1 : w9.cell? ⟨w3.heap.size, 1, none⟩ = some (.int .u64 (word t1.set 0)) := (hB9.cell (p := ⟨w3.heap.size, 1, none⟩) hx1).trans u1_; have z2 : w9.cell? ⟨w3.heap.size, 2, none⟩ = some (.int .u64 (word t1.set 1)) := (hB9.cell (p := ⟨w3.heap.size, 2, none⟩) hx1).trans u2_; have z3 : w9.cell? ⟨w3.heap.size, 3, none⟩ = some (.int .u64 (word t1.set 2)) := (hB9.cell (p := ⟨w3.heap.size, 3, none⟩) hx1).trans u3_; have z4 : w9.cell? ⟨w3.heap.size, 4, none⟩ = some (.int .u64 (word t1.set 3)) := (hB9.cell (p := ⟨w3.heap.size, 4, none⟩) hx1).trans u4_; have z5 : w9.cell? ⟨w3.heap.size, 5, none⟩ = some (.int .i64 t1.lo) := (hB9.cell (p := ⟨w3.heap.size, 5, none⟩) hx1).trans u5_; have z6 : w9.cell? ⟨w3.heap.size, 6, none⟩ = some (.int .i64 t1.hi) := (hB9.cell (p := ⟨w3.heap.size, 6, none⟩) hx1).trans u6_; have z7 : w9.cell? ⟨w3.heap.size, 7, none⟩ = some (.bool t1.lazy) := (hB9.cell (p := ⟨w3.heap.size, 7, none⟩) hx1).trans u7_; have z8 : w9.cell? ⟨w3.heap.size, 8, none⟩ = some (.slice A1 t1.kids.length c1) := (hB9.cell (p := ⟨w3.heap.size, 8, none⟩) hx1).trans u8_; have z9 : w9.cell? ⟨w3.heap.size, 9, none⟩ = some (.int .i64 ((t1.f : Nat) : Int)) := (hB9.cell (p := ⟨w3.heap.size, 9, none⟩) hx1).trans u9_; have z10 : w9.cell? ⟨w3.heap.size, 10, none⟩ = some (.int .i64 ((t1.t : Nat) : Int)) := (hB9.cell (p := ⟨w3.heap.size, 10, none⟩) hx1).trans u10_)
          | (go_at_call 19; refine (HG2.out _ ?_).mono ?_; (go_split_ands; assumption); rintro e w9 ⟨rfl, hb9⟩; have hB8 := (show Below w8.heap.size w8 _ by go_split_ands; assumption); have hB9 := hB8.trans (hb9.mono hB8.size); clear hB8 hb9; have z0 : w9.cell? ⟨w3.heap.size, 0, none⟩ = some (.int .i64 t1.kind) := (hB9.cell (p := ⟨w3.heap.size, 0, none⟩) hx1).trans u0_; have z1 : w9.cell? ⟨w3.heap.size, 1, none⟩ = some (.int .u64 (word t1.set 0)) := (hB9.cell (p := ⟨w3.heap.size, 1, none⟩) hx1).trans u1_; have z2 : w9.cell? ⟨w3.heap.size, 2, none⟩ = some (.int .u64 (word t1.set 1)) := (hB9.cell (p := ⟨w3.heap.size, 2, none⟩) hx1).trans u2_; have z3 : w9.cell? ⟨w3.heap.size, 3, none⟩ = some (.int .u64 (word t1.set 2)) := (hB9.cell (p := ⟨w3.heap.size, 3, none⟩) hx1).trans u3_; have z4 : w9.cell? ⟨w3.heap.size, 4, none⟩ = some (.int .u64 (word t1.set 3)) := (hB9.cell (p := ⟨w3.heap.size, 4, none⟩) hx1).trans u4_; have z5 : w9.cell? ⟨w3.heap.size, 5, none⟩ = some (.int .i64 t1.lo) := (hB9.cell (p := ⟨w3.heap.size, 5, none⟩) hx1).trans u5_; have z6 : w9.cell? ⟨w3.heap.size, 6, none⟩ = some (.int .i64 t1.hi) := (hB9.cell (p := ⟨w3.heap.size, 6, none⟩) hx1).trans u6_; have z7 : w9.cell? ⟨w3.heap.size, 7, none⟩ = some (.bool t1.lazy) := (hB9.cell (p := ⟨w3.heap.size, 7, none⟩) hx1).trans u7_; have z8 : w9.cell? ⟨w3.heap.size, 8, none⟩ = some (.slice A1 t1.kids.length c1) := (hB9.cell (p := ⟨w3.heap.size, 8, none⟩) hx1).trans u8_; have z9 : w9.cell? ⟨w3.heap.size, 9, none⟩ = some (.int .i64 ((t1.f : Nat) : Int)) := (hB9.cell (p := ⟨w3.heap.size, 9, none⟩) hx1).trans u9_; have z10 : w9.cell? ⟨w3.heap.size, 10, none⟩ = some (.int .i64 ((t1.t : Nat) : Int)) := (hB9.cell (p := ⟨w3.heap.size, 10, none⟩) hx1).trans u10_)
          | (go_at_call 20; refine (HD1.out _ ?_).mono ?_; (go_split_ands; assumption); rintro e w9 ⟨rfl, hb9⟩; have hB8 := (show Below w8.heap.size w8 _ by go_split_ands; assumption); have hB9 := hB8.trans (hb9.mono hB8.size); clear hB8 hb9; have z0 : w9.cell? ⟨w3.heap.size, 0, none⟩ = some (.int .i64 t1.kind) := (hB9.cell (p := ⟨w3.heap.size, 0, none⟩) hx1).trans u0_; have z1 : w9.cell? ⟨w3.heap.size, 1, none⟩ = some (.int .u64 (word t1.set 0)) := (hB9.cell (p := ⟨w3.heap.size, 1, none⟩) hx1).trans u1_; have z2 : w9.cell? ⟨w3.heap.size, 2, none⟩ = some (.int .u64 (word t1.set 1)) := (hB9.cell (p := ⟨w3.heap.size, 2, none⟩) hx1).trans u2_; have z3 : w9.cell? ⟨w3.heap.size, 3, none⟩ = some (.int .u64 (word t1.set 2)) := (hB9.cell (p := ⟨w3.heap.size, 3, none⟩) hx1).trans u3_; have z4 : w9.cell? ⟨w3.heap.size, 4, none⟩ = some (.int .u64 (word t1.set 3)) := (hB9.cell (p := ⟨w3.heap.size, 4, none⟩) hx1).trans u4_; have z5 : w9.cell? ⟨w3.heap.size, 5, none⟩ = some (.int .i64 t1.lo) := (hB9.cell (p := ⟨w3.heap.size, 5, none⟩) hx1).trans u5_; have z6 : w9.cell? ⟨w3.heap.size, 6, none⟩ = some (.int .i64 t1.hi) := (hB9.cell (p := ⟨w3.heap.size, 6, none⟩) hx1).trans u6_; have z7 : w9.cell? ⟨w3.heap.size, 7, none⟩ = some (.bool t1.lazy) := (hB9.cell (p := ⟨w3.heap.size, 7, none⟩) hx1).trans u7_; have z8 : w9.cell? ⟨w3.heap.size, 8, none⟩ = some (.slice A1 t1.kids.length c1) := (hB9.cell (p := ⟨w3.heap.size, 8, none⟩) hx1).trans u8_; have z9 : w9.cell? ⟨w3.heap.size, 9, none⟩ = some (.int .i64 ((t1.f : Nat) : Int)) := (hB9.cell (p := ⟨w3.heap.size, 9, none⟩) hx1).trans u9_; have z10 : w9.cell? ⟨w3.heap.size, 10, none⟩ = some (.int .i64 ((t1.t : Nat) : Int)) := (hB9.cell (p := ⟨w3.heap.size, 10, none⟩) hx1).trans u10_)
          | (go_at_call 21; refine (HD2.out _ ?_).mono ?_; (go_split_ands; assumption); rintro e w9 ⟨rfl, hb9⟩; have hB8 := (show Below w8.heap.size w8 _ by go_split_ands; assumption); have hB9 := hB8.trans (hb9.mono hB8.size); clear hB8 hb9; have z0 : w9.cell? ⟨w3.heap.size, 0, none⟩ = some (.int .i64 t1.kind) := (hB9.cell (p := ⟨w3.heap.size, 0, none⟩) hx1).trans u0_; have z1 : w9.cell? ⟨w3.heap.size, 1, none⟩ = some (.int .u64 (word t1.set 0)) := (hB9.cell (p := ⟨w3.heap.size, 1, none⟩) hx1).trans u1_; have z2 : w9.cell? ⟨w3.heap.size, 2, none⟩ = some (.int .u64 (word t1.set 1)) := (hB9.cell (p := ⟨w3.heap.size, 2, none⟩) hx1).trans u2_; have z3 : w9.cell? ⟨w3.heap.size, 3, none⟩ = some (.int .u64 (word t1.set 2)) := (hB9.cell (p := ⟨w3.heap.size, 3, none⟩) hx1).trans u3_; have z4 : w9.cell? ⟨w3.heap.size, 4, none⟩ = some (.int .u64 (word t1.set 3)) := (hB9.cell (p := ⟨w3.heap.size, 4, none⟩) hx1).trans u4_; have z5 : w9.cell? ⟨w3.heap.size, 5, none⟩ = some (.int .i64 t1.lo) := (hB9.cell (p := ⟨w3.heap.size, 5, none⟩) hx1).trans u5_; have z6 : w9.cell? ⟨w3.heap.size, 6, none⟩ = some (.int .i64 t1.hi) := (hB9.cell (p := ⟨w3.heap.size, 6, none⟩) hx1).trans u6_; have z7 : w9.cell? ⟨w3.heap.size, 7, none⟩ = some (.bool t1.lazy) := (hB9.cell (p := ⟨w3.heap.size, 7, none⟩) hx1).trans u7_; have z8 : w9.cell? ⟨w3.heap.size, 8, none⟩ = some (.slice A1 t1.kids.length c1) := (hB9.cell (p := ⟨w3.heap.size, 8, none⟩) hx1).trans u8_; have z9 : w9.cell? ⟨w3.heap.size, 9, none⟩ = some (.int .i64 ((t1.f : Nat) : Int)) := (hB9.cell (p := ⟨w3.heap.size, 9, none⟩) hx1).trans u9_; have z10 : w9.cell? ⟨w3.heap.size, 10, none⟩ = some (.int .i64 ((t1.t : Nat) : Int)) := (hB9.cell (p := ⟨w3.heap.size, 10, none⟩) hx1).trans u10_)
          | (go_at_call 12; refine (HRI.out _ ?_).mono ?_; (go_split_ands; assumption); rintro e w9 ⟨rfl, hb9⟩; have hB8 := (show Below w8.heap.size w8 _ by go_split_ands; assumption); have hB9 := hB8.trans (hb9.mono hB8.size); clear hB8 hb9; have z0 : w9.cell? ⟨w3.heap.size, 0, none⟩ = some (.int .i64 t1.kind) := (hB9.cell (p := ⟨w3.heap.size, 0, none⟩) hx1).trans u0_; have z1 : w9.cell? ⟨w3.heap.size, 1, none⟩ = some (.int .u64 (word t1.set 0)) := (hB9.cell (p := ⟨w3.heap.size, 1, none⟩) hx1).trans u1_; have z2 : w9.cell? ⟨w3.heap.size, 2, none⟩ = some (.int .u64 (word t1.set 1)) := (hB9.cell (p := ⟨w3.heap.size, 2, none⟩) hx1).trans u2_; have z3 : w9.cell? ⟨w3.heap.size, 3, none⟩ = some (.int .u64 (word t1.set 2)) := (hB9.cell (p := ⟨w3.heap.size, 3, none⟩) hx1).trans u3_; have z4 : w9.cell? ⟨w3.heap.size, 4, none⟩ = some (.int .u64 (word t1.set 3)) := (hB9.cell (p := ⟨w3.heap.size, 4, none⟩) hx1).trans u4_; have z5 : w9.cell? ⟨w3.heap.size, 5, none⟩ = some (.int .i64 t1.lo) := (hB9.cell (p := ⟨w3.heap.size, 5, none⟩) hx1).trans u5_; have z6 : w9.cell? ⟨w3.heap.size, 6, none⟩ = some (.int .i64 t1.hi) := (hB9.cell (p := ⟨w3.heap.size, 6, none⟩) hx1).trans u6_; have z7 : w9.cell? ⟨w3.heap.size, 7, none⟩ = some (.bool t1.lazy) := (hB9.cell (p := ⟨w3.heap.size, 7, none⟩) hx1).trans u7_; have z8 : w9.cell? ⟨w3.heap.size, 8, none⟩ = some (.slice A1 t1.kids.length c1) := (hB9.cell (p := ⟨w3.heap.size, 8, none⟩) hx1).trans u8_; have z9 : w9.cell? ⟨w3.heap.size, 9, none⟩ = some (.int .i64 ((t1.f : Nat) : Int)) := (hB9.cell (p := ⟨w3.heap.size, 9, none⟩) hx1).trans u9_; have z10 : w9.cell? ⟨w3.heap.size, 10, none⟩ = some (.int .i64 ((t1.t : Nat) : Int)) := (hB9.cell (p := ⟨w3.heap.size, 10, none⟩) hx1).trans u10_)
          | (go_at_call 7; refine (HAW.out _ ?_).mono ?_; (go_split_ands; assumption); rintro e w9 ⟨rfl, hb9⟩; have hB8 := (show Below w8.heap.size w8 _ by go_split_ands; assumption); have hB9 := hB8.trans (hb9.mono hB8.size); clear hB8 hb9; have z0 : w9.cell? ⟨w3.heap.size, 0, none⟩ = some (.int .i64 t1.kind) := (hB9.cell (p := ⟨w3.heap.size, 0, none⟩) hx1).trans u0_; have z1 : w9.cell? ⟨w3.heap.size, 1, none⟩ = some (.int .u64 (word t1.set 0)) := (hB9.cell (p := ⟨w3.heap.size, 1, none⟩) hx1).trans u1_; have z2 : w9.cell? ⟨w3.heap.size, 2, none⟩ = some (.int .u64 (word t1.set 1)) := (hB9.cell (p := ⟨w3.heap.size, 2, none⟩) hx1).trans u2_; have z3 : w9.cell? ⟨w3.heap.size, 3, none⟩ = some (.int .u64 (word t1.set 2)) := (hB9.cell (p := ⟨w3.heap.size, 3, none⟩) hx1).trans u3_; have z4 : w9.cell? ⟨w3.heap.size, 4, none⟩ = some (.int .u64 (word t1.set 3)) := (hB9.cell (p := ⟨w3.heap.size, 4, none⟩) hx1).trans u4_; have z5 : w9.cell? ⟨w3.heap.size, 5, none⟩ = some (.int .i64 t1.lo) := (hB9.cell (p := ⟨w3.heap.size, 5, none⟩) hx1).trans u5_; have z6 : w9.cell? ⟨w3.heap.size, 6, none⟩ = some (.int .i64 t1.hi) := (hB9.cell (p := ⟨w3.heap.size, 6, none⟩) hx1).trans u6_; have z7 : w9.cell? ⟨w3.heap.size, 7, none⟩ = some (.bool t1.lazy) := (hB9.cell (p := ⟨w3.heap.size, 7, none⟩) hx1).trans u7_; have z8 : w9.cell? ⟨w3.heap.size, 8, none⟩ = some (.slice A1 t1.kids.length c1) := (hB9.cell (p := ⟨w3.heap.size, 8, none⟩) hx1).trans u8_; have z9 : w9.cell? ⟨w3.heap.size, 9, none⟩ = some (.int .i64 ((t1.f : Nat) : Int)) := (hB9.cell (p := ⟨w3.heap.size, 9, none⟩) hx1).trans u9_; have z10 : w9.cell? ⟨w3.heap.size, 10, none⟩ = some (.int .i64 ((t1.t : Nat) : Int)) := (hB9.cell (p := ⟨w3.heap.size, 10, none⟩) hx1).trans u10_))
        all_goals
          go_wp2
          go_returns
          exact ⟨rfl, (HB4.out.trans (HB8.out.mono HB4.out.size)).trans (hB9.mono (HB4.out.trans (HB8.out.mono HB4.out.size)).size)⟩
      · have hm : (setsT t1)[i]? = some (setsT t1)[i] := List.getElem?_eq_getElem hlt
        have hc := fun j hj => setsC_at (setsT t1) i _ hm j hj
        generalize (setsT t1)[i] = m at *
        obtain ⟨g1, rfl, hg1, x0⟩ := HR1.out (i * 4 + 0) _ (hc 0 (by omega))
        obtain ⟨_, hg, _, x1⟩ := HR1.out (i * 4 + 1) _ (hc 1 (by omega))
        cases hg
        obtain ⟨_, hg, _, x2⟩ := HR1.out (i * 4 + 2) _ (hc 2 (by omega))
        cases hg
        obtain ⟨_, hg, _, x3⟩ := HR1.out (i * 4 + 3) _ (hc 3 (by omega))
        cases hg
        obtain ⟨g2, rfl, hg2, y0⟩ := HR2.out (i * 4 + 0) _ (hc 0 (by omega))
        obtain ⟨_, hg, _, y1⟩ := HR2.out (i * 4 + 1) _ (hc 1 (by omega))
        cases hg
        obtain ⟨_, hg, _, y2⟩ := HR2.out (i * 4 + 2) _ (hc 2 (by omega))
        cases hg
        obtain ⟨_, hg, _, y3⟩ := HR2.out (i * 4 + 3) _ (hc 3 (by omega))
        cases hg
        have a0 : w7.cell? ⟨g1, i * 4, none⟩ = some (.int .u64 (word m 0)) := (HB67.out.cell (p := ⟨g1, i * 4, none⟩) hg1).trans x0
        have a1 : w7.cell? ⟨g1, i * 4 + 1, none⟩ = some (.int .u64 (word m 1)) := (HB67.out.cell (p := ⟨g1, i * 4 + 1, none⟩) hg1).trans x1
        have a2 : w7.cell? ⟨g1, i * 4 + 2, none⟩ = some (.int .u64 (word m 2)) := (HB67.out.cell (p := ⟨g1, i * 4 + 2, none⟩) hg1).trans x2
        have a3 : w7.cell? ⟨g1, i * 4 + 3, none⟩ = some (.int .u64 (word m 3)) := (HB67.out.cell (p := ⟨g1, i * 4 + 3, none⟩) hg1).trans x3
        have b0 : w7.cell? ⟨g2, i * 4, none⟩ = some (.int .u64 (word m 0)) := (HB67.out.cell (p := ⟨g2, i * 4, none⟩) hg2).trans y0
        have b1 : w7.cell? ⟨g2, i * 4 + 1, none⟩ = some (.int .u64 (word m 1)) := (HB67.out.cell (p := ⟨g2, i * 4 + 1, none⟩) hg2).trans y1
        have b2 : w7.cell? ⟨g2, i * 4 + 2, none⟩ = some (.int .u64 (word m 2)) := (HB67.out.cell (p := ⟨g2, i * 4 + 2, none⟩) hg2).trans y2
        have b3 : w7.cell? ⟨g2, i * 4 + 3, none⟩ = some (.int .u64 (word m 3)) := (HB67.out.cell (p := ⟨g2, i * 4 + 3, none⟩) hg2).trans y3
        have hee : eqB m m = true := eqB_self m
        have hi0 : (0 : Int) ≤ ((i : Nat) : Int) := by omega
        have hi1 : ((i : Nat) : Int) < (((setsT t1).length : Nat) : Int) := by omega
        clear x0 x1 x2 x3 y0 y1 y2 y3 hm hc
        go_upto_region 14 with fail
        go_quiet (fail)
        go_wp2_with fail
        go_roundw
        case rel => exact ⟨i + 1, _, by omega, by go_num, rfl⟩
        case measure => simp [intOf]; omega
end Go.Proofs.YtckoebfmoggeoaaDoor
