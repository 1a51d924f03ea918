/- SyntaxSame: the walk. -/
import Derived.Test.YtckoebfmoggeoaaDoorCg
import Derived.Test.YtckoebfmoggeoaaDoorCd
import Derived.Test.YtckoebfmoggeoaaDoorCe
import Derived.Deep.RegionHeld3
import Derived.StillTailTactics
namespace Go.Proofs.YtckoebfmoggeoaaDoor
set_option maxRecDepth 100000
open Go.RowKit
theorem sameT_self : ∀ t : Tree, sameT t t = true
  | .mk k s lo hi z kids _ _ => by
    have h : ∀ l : List Tree, (∀ n ∈ l, sameT n n = true) → sameL l l = true := by
      intro l
      induction l with
      | nil => intro _; rfl
      | cons n l ih => intro hl; simp only [sameL]; rw [hl n (by simp), ih (fun m hm => hl m (by simp [hm]))]; rfl
    have := h kids (fun n hn => sameT_self n)
    simp only [sameT, this, (eqB_iff s s).2 fun _ _ => rfl]
    simp
theorem str_bound {s : ByteArray} (h : s.size ≤ maxLen) : s.size ≤ 9223372036854775807 := by
  unfold maxLen at h
  exact h
theorem parseB_small {s : ByteArray} (h : s.size ≤ 1048576) : parseB s = parseM s := by unfold parseB; rw [if_neg (by omega)]
set_option maxHeartbeats 16000000 in
theorem same_law (p q : ByteArray) (w : World) (hT : TabOk w) (hp0 : p.size ≤ 9223372036854775807) (hq0 : q.size ≤ 9223372036854775807) :
    Calls Tryd.prog 3 #[.string p, .string q] w fun e w' => e = .returned (.bool true) ∧ Below w.heap.size w w' := by
  have HT := Lib.hid hT
  clear hT
  by_cases hp : 200 < p.size
  · go_enter Tryd.func3, Tryd.ntmps3
    go_wp2_with fail
    refine (awake06_at _ HT.out).mono ?_
    rintro v w1 ⟨rfl, hb⟩
    go_wp2
    go_returns
    exact ⟨rfl, hb⟩
  by_cases hq : 200 < q.size
  · go_enter Tryd.func3, Tryd.ntmps3
    go_wp2_with fail
    refine (awake06_at _ HT.out).mono ?_
    rintro v w1 ⟨rfl, hb⟩
    go_wp2
    go_returns
    exact ⟨rfl, hb⟩
  have HPB := Lib.hid (parseB_small (s := p) (by omega))
  have HQB := Lib.hid (parseB_small (s := q) (by omega))
  go_enter Tryd.func3, Tryd.ntmps3
  go_wp2_with fail
  refine (sparse_at p w HT.out).mono ?_
  rintro v w1 ⟨hpi, hb1⟩
  have HT1 := Lib.hid (tab_far HT.out hb1 (tab_lt HT.out))
  have HB1 := Lib.hid hb1
  have HRP := Lib.hid (fun W => rparse_at p (by omega) W)
  have HRQ := Lib.hid (fun W => rparse_at q (by omega) W)
  clear hb1
  unfold ParseIs at hpi
  rw [HPB.out] at hpi
  cases hpm : parseM p with
  | ok t1 j1 =>
    rw [hpm] at hpi
    obtain ⟨b1, rfl, htr1⟩ := hpi
    have HPM := Lib.hid hpm
    have HTR1 := Lib.hid htr1
    clear hpm htr1
    go_wp2_with fail
    refine (sparse_at q w1 HT1.out).mono ?_
    rintro v w2 ⟨hqi, hb2⟩
    have HT2 := Lib.hid (tab_far HT1.out hb2 (tab_lt HT1.out))
    have HB2 := Lib.hid (HB1.out.trans (hb2.mono HB1.out.size))
    have HTR2 := Lib.hid (HTR1.out.under hb2)
    clear hb2
    unfold ParseIs at hqi
    rw [HQB.out] at hqi
    cases hqm : parseM q with
    | ok t2 j2 =>
      rw [hqm] at hqi
      obtain ⟨b2, rfl, htr2⟩ := hqi
      have HQM := Lib.hid hqm
      have HTQ2 := Lib.hid htr2
      clear hqm htr2
      go_wp2_with fail
      refine (HRP.out _).mono ?_
      rintro v w3 ⟨hri, hb3⟩
      unfold RParseIs at hri
      rw [HPM.out] at hri
      obtain ⟨cs1, rfl, hrt1⟩ := hri
      obtain ⟨A1, c1, rfl, -, -⟩ := hrt1.node
      have st3 := (((St.nil w2).below' hb3).alloc rfl (nodeL t1.kind t1.set t1.lo t1.hi t1.lazy (.slice A1 t1.kids.length c1) t1.f t1.t) 32).alloc (n := w3.heap.size + 1) (by simp) [.int .i64 0, .int .i64 0] 34
      have HRT1 := Lib.hid hrt1
      have hb31 : Below w3.heap.size w3 ((w3.alloc (.cells (nodeL t1.kind t1.set t1.lo t1.hi t1.lazy (.slice A1 t1.kids.length c1) t1.f t1.t).toArray 32)).alloc (.cells #[.int .i64 0, .int .i64 0] 34)) := ((Below.refl _ w3).alloc (Nat.le_refl _) _).alloc (by simp) _
      have HRT3 := Lib.hid (hrt1.under hb31)
      clear hrt1 hb3 hb31
      go_upto_region 6 with fail
      generalize (w3.alloc _).alloc _ = w4 at *
      go_wp2_with fail
      refine (HRQ.out _).mono ?_
      rintro v w5 ⟨hri, hb5⟩
      unfold RParseIs at hri
      rw [HQM.out] at hri
      obtain ⟨cs2, rfl, hrt2⟩ := hri
      obtain ⟨A2, c2, rfl, -, -⟩ := hrt2.node
      have st5 := ((st3.below' hb5).alloc rfl (nodeL t2.kind t2.set t2.lo t2.hi t2.lazy (.slice A2 t2.kids.length c2) t2.f t2.t) 32).alloc (n := w5.heap.size + 1) (by simp) [.int .i64 0, .int .i64 0] 34
      have hb51 : Below w5.heap.size w5 ((w5.alloc (.cells (nodeL t2.kind t2.set t2.lo t2.hi t2.lazy (.slice A2 t2.kids.length c2) t2.f t2.t).toArray 32)).alloc (.cells #[.int .i64 0, .int .i64 0] 34)) := ((Below.refl _ w5).alloc (Nat.le_refl _) _).alloc (by simp) _
      have HRT5 := Lib.hid ((HRT3.out.under hb5).under hb51)
      have HRQ5 := Lib.hid (hrt2.under hb51)
      clear hrt2 hb5 hb51 st3 HRT3 HRT1
      go_upto_region 7 with fail
      generalize (w5.alloc _).alloc _ = w6 at *
      have HT6 := Lib.hid (tab_far HT2.out st5.below (tab_lt HT2.out))
      have HB6 := Lib.hid (HB2.out.trans (st5.below.mono HB2.out.size))
      have HA1 := Lib.hid (HTR2.out.under st5.below)
      have HA2 := Lib.hid (HTQ2.out.under st5.below)
      obtain ⟨z, hz⟩ : ∃ z, sameT t1 t2 = z := ⟨_, rfl⟩
      have HS12 := Lib.hid (fun W hW => by have := same_at HA1.out t2 b2 _ HA2.out W hW; rwa [hz] at this :
        ∀ W, Below w6.heap.size w6 W → Calls Tryd.prog 10 #[ptrV b1, ptrV b2] W fun v W' => v = .returned (.bool z) ∧ ∃ q, W' = W.drewN q)
      have HS11 := Lib.hid (fun W hW => by have := same_at HA1.out t1 b1 _ HA1.out W hW; rwa [sameT_self] at this :
        ∀ W, Below w6.heap.size w6 W → Calls Tryd.prog 10 #[ptrV b1, ptrV b1] W fun v W' => v = .returned (.bool true) ∧ ∃ q, W' = W.drewN q)
      have HSR := Lib.hid (fun W hW => by have := rsame_at HRT5.out t2 _ _ HRQ5.out W hW; rwa [hz] at this :
        ∀ W, Below w6.heap.size w6 W → Calls Tryd.prog 11 #[.agg (nodeL t1.kind t1.set t1.lo t1.hi t1.lazy (.slice A1 t1.kids.length c1) t1.f t1.t).toArray, .agg (nodeL t2.kind t2.set t2.lo t2.hi t2.lazy (.slice A2 t2.kids.length c2) t2.f t2.t).toArray] W fun v W' => v = .returned (.bool z) ∧ Below W.heap.size W W')
      have HAW := Lib.hid (fun W hW => awake06_at W (tab_far HT6.out hW (tab_lt HT6.out)) :
        ∀ W, Below w6.heap.size w6 W → Calls Tryd.prog 7 #[] W fun v W' => v = .returned (.bool true) ∧ Below W.heap.size W W')
      obtain ⟨⟨e0, e1⟩, -⟩ := st5.two 0 rfl
      obtain ⟨⟨d0, d1⟩, -⟩ := st5.two 2 rfl
      obtain ⟨⟨r0_, r1_, r2_, r3_, r4_, r5_, r6_, r7_, r8_, r9_, r10_⟩, -⟩ := (st5.get 1 rfl).eleven
      obtain ⟨⟨u0_, u1_, u2_, u3_, u4_, u5_, u6_, u7_, u8_, u9_, u10_⟩, -⟩ := (st5.get 3 rfl).eleven
      have hx1 : w3.heap.size < w6.heap.size := (st5.get 3 rfl).lt
      have hx2 : w5.heap.size < w6.heap.size := (st5.get 1 rfl).lt
      have hB0 : Below w6.heap.size w6 w6.drew := (Below.refl _ _).drew
      clear st5 hz
      go_upto_region 9 with fail
      go_region_held3 (fun x' => x'.cell? ⟨w3.heap.size, 0, none⟩ = some (.int .i64 t1.kind) ∧ x'.cell? ⟨w3.heap.size, 1, none⟩ = some (.int .u64 (word t1.set 0)) ∧ x'.cell? ⟨w3.heap.size, 2, none⟩ = some (.int .u64 (word t1.set 1)) ∧ x'.cell? ⟨w3.heap.size, 3, none⟩ = some (.int .u64 (word t1.set 2)) ∧ x'.cell? ⟨w3.heap.size, 4, none⟩ = some (.int .u64 (word t1.set 3)) ∧ x'.cell? ⟨w3.heap.size, 5, none⟩ = some (.int .i64 t1.lo) ∧ x'.cell? ⟨w3.heap.size, 6, none⟩ = some (.int .i64 t1.hi) ∧ x'.cell? ⟨w3.heap.size, 7, none⟩ = some (.bool t1.lazy) ∧ x'.cell? ⟨w3.heap.size, 8, none⟩ = some (.slice A1 t1.kids.length c1) ∧ x'.cell? ⟨w3.heap.size, 9, none⟩ = some (.int .i64 ((t1.f : Nat) : Int)) ∧ x'.cell? ⟨w3.heap.size, 10, none⟩ = some (.int .i64 ((t1.t : Nat) : Int)) ∧ x'.cell? ⟨w5.heap.size, 0, none⟩ = some (.int .i64 t2.kind) ∧ x'.cell? ⟨w5.heap.size, 1, none⟩ = some (.int .u64 (word t2.set 0)) ∧ x'.cell? ⟨w5.heap.size, 2, none⟩ = some (.int .u64 (word t2.set 1)) ∧ x'.cell? ⟨w5.heap.size, 3, none⟩ = some (.int .u64 (word t2.set 2)) ∧ x'.cell? ⟨w5.heap.size, 4, none⟩ = some (.int .u64 (word t2.set 3)) ∧ x'.cell? ⟨w5.heap.size, 5, none⟩ = some (.int .i64 t2.lo) ∧ x'.cell? ⟨w5.heap.size, 6, none⟩ = some (.int .i64 t2.hi) ∧ x'.cell? ⟨w5.heap.size, 7, none⟩ = some (.bool t2.lazy) ∧ x'.cell? ⟨w5.heap.size, 8, none⟩ = some (.slice A2 t2.kids.length c2) ∧ x'.cell? ⟨w5.heap.size, 9, none⟩ = some (.int .i64 ((t2.f : Nat) : Int)) ∧ x'.cell? ⟨w5.heap.size, 10, none⟩ = some (.int .i64 ((t2.t : Nat) : Int)) ∧ Below w6.heap.size w6 x') ((repeat' apply And.intro) <;> first | assumption | exact below_drewN (Below.refl _ _) _ | exact below_drewN (by assumption) _ | go_keep)
        (first
          | (go_at_call 10; with_reducible refine (HS12.out _ ?_).mono ?_; (go_split_ands; assumption); rintro e w8 ⟨rfl, nq, rfl⟩; have hB8 := below_drewN (show Below w6.heap.size w6 _ by go_split_ands; assumption) nq)
          | (go_at_call 10; with_reducible refine (HS11.out _ ?_).mono ?_; (go_split_ands; assumption); rintro e w8 ⟨rfl, nq, rfl⟩; have hB8 := below_drewN (show Below w6.heap.size w6 _ by go_split_ands; assumption) nq)
          | (go_at_call 11; refine (HSR.out _ ?_).mono ?_; (go_split_ands; assumption); rintro e w8 ⟨rfl, hb8⟩; have hB7 := (show Below w6.heap.size w6 _ by go_split_ands; assumption); have hB8 := hB7.trans (hb8.mono hB7.size); clear hB7 hb8; have z0 : w8.cell? ⟨w3.heap.size, 0, none⟩ = some (.int .i64 t1.kind) := (hB8.cell (p := ⟨w3.heap.size, 0, none⟩) hx1).trans u0_; have z1 : w8.cell? ⟨w3.heap.size, 1, none⟩ = some (.int .u64 (word t1.set 0)) := (hB8.cell (p := ⟨w3.heap.size, 1, none⟩) hx1).trans u1_; have z2 : w8.cell? ⟨w3.heap.size, 2, none⟩ = some (.int .u64 (word t1.set 1)) := (hB8.cell (p := ⟨w3.heap.size, 2, none⟩) hx1).trans u2_; have z3 : w8.cell? ⟨w3.heap.size, 3, none⟩ = some (.int .u64 (word t1.set 2)) := (hB8.cell (p := ⟨w3.heap.size, 3, none⟩) hx1).trans u3_; have z4 : w8.cell? ⟨w3.heap.size, 4, none⟩ = some (.int .u64 (word t1.set 3)) := (hB8.cell (p := ⟨w3.heap.size, 4, none⟩) hx1).trans u4_; have z5 : w8.cell? ⟨w3.heap.size, 5, none⟩ = some (.int .i64 t1.lo) := (hB8.cell (p := ⟨w3.heap.size, 5, none⟩) hx1).trans u5_; have z6 : w8.cell? ⟨w3.heap.size, 6, none⟩ = some (.int .i64 t1.hi) := (hB8.cell (p := ⟨w3.heap.size, 6, none⟩) hx1).trans u6_; have z7 : w8.cell? ⟨w3.heap.size, 7, none⟩ = some (.bool t1.lazy) := (hB8.cell (p := ⟨w3.heap.size, 7, none⟩) hx1).trans u7_; have z8 : w8.cell? ⟨w3.heap.size, 8, none⟩ = some (.slice A1 t1.kids.length c1) := (hB8.cell (p := ⟨w3.heap.size, 8, none⟩) hx1).trans u8_; have z9 : w8.cell? ⟨w3.heap.size, 9, none⟩ = some (.int .i64 ((t1.f : Nat) : Int)) := (hB8.cell (p := ⟨w3.heap.size, 9, none⟩) hx1).trans u9_; have z10 : w8.cell? ⟨w3.heap.size, 10, none⟩ = some (.int .i64 ((t1.t : Nat) : Int)) := (hB8.cell (p := ⟨w3.heap.size, 10, none⟩) hx1).trans u10_; have z11 : w8.cell? ⟨w5.heap.size, 0, none⟩ = some (.int .i64 t2.kind) := (hB8.cell (p := ⟨w5.heap.size, 0, none⟩) hx2).trans r0_; have z12 : w8.cell? ⟨w5.heap.size, 1, none⟩ = some (.int .u64 (word t2.set 0)) := (hB8.cell (p := ⟨w5.heap.size, 1, none⟩) hx2).trans r1_; have z13 : w8.cell? ⟨w5.heap.size, 2, none⟩ = some (.int .u64 (word t2.set 1)) := (hB8.cell (p := ⟨w5.heap.size, 2, none⟩) hx2).trans r2_; have z14 : w8.cell? ⟨w5.heap.size, 3, none⟩ = some (.int .u64 (word t2.set 2)) := (hB8.cell (p := ⟨w5.heap.size, 3, none⟩) hx2).trans r3_; have z15 : w8.cell? ⟨w5.heap.size, 4, none⟩ = some (.int .u64 (word t2.set 3)) := (hB8.cell (p := ⟨w5.heap.size, 4, none⟩) hx2).trans r4_; have z16 : w8.cell? ⟨w5.heap.size, 5, none⟩ = some (.int .i64 t2.lo) := (hB8.cell (p := ⟨w5.heap.size, 5, none⟩) hx2).trans r5_; have z17 : w8.cell? ⟨w5.heap.size, 6, none⟩ = some (.int .i64 t2.hi) := (hB8.cell (p := ⟨w5.heap.size, 6, none⟩) hx2).trans r6_; have z18 : w8.cell? ⟨w5.heap.size, 7, none⟩ = some (.bool t2.lazy) := (hB8.cell (p := ⟨w5.heap.size, 7, none⟩) hx2).trans r7_; have z19 : w8.cell? ⟨w5.heap.size, 8, none⟩ = some (.slice A2 t2.kids.length c2) := (hB8.cell (p := ⟨w5.heap.size, 8, none⟩) hx2).trans r8_; have z20 : w8.cell? ⟨w5.heap.size, 9, none⟩ = some (.int .i64 ((t2.f : Nat) : Int)) := (hB8.cell (p := ⟨w5.heap.size, 9, none⟩) hx2).trans r9_; have z21 : w8.cell? ⟨w5.heap.size, 10, none⟩ = some (.int .i64 ((t2.t : Nat) : Int)) := (hB8.cell (p := ⟨w5.heap.size, 10, none⟩) hx2).trans r10_)
          | (go_at_call 7; refine (HAW.out _ ?_).mono ?_; (go_split_ands; assumption); rintro e w8 ⟨rfl, hb8⟩; have hB7 := (show Below w6.heap.size w6 _ by go_split_ands; assumption); have hB8 := hB7.trans (hb8.mono hB7.size); clear hB7 hb8; have z0 : w8.cell? ⟨w3.heap.size, 0, none⟩ = some (.int .i64 t1.kind) := (hB8.cell (p := ⟨w3.heap.size, 0, none⟩) hx1).trans u0_; have z1 : w8.cell? ⟨w3.heap.size, 1, none⟩ = some (.int .u64 (word t1.set 0)) := (hB8.cell (p := ⟨w3.heap.size, 1, none⟩) hx1).trans u1_; have z2 : w8.cell? ⟨w3.heap.size, 2, none⟩ = some (.int .u64 (word t1.set 1)) := (hB8.cell (p := ⟨w3.heap.size, 2, none⟩) hx1).trans u2_; have z3 : w8.cell? ⟨w3.heap.size, 3, none⟩ = some (.int .u64 (word t1.set 2)) := (hB8.cell (p := ⟨w3.heap.size, 3, none⟩) hx1).trans u3_; have z4 : w8.cell? ⟨w3.heap.size, 4, none⟩ = some (.int .u64 (word t1.set 3)) := (hB8.cell (p := ⟨w3.heap.size, 4, none⟩) hx1).trans u4_; have z5 : w8.cell? ⟨w3.heap.size, 5, none⟩ = some (.int .i64 t1.lo) := (hB8.cell (p := ⟨w3.heap.size, 5, none⟩) hx1).trans u5_; have z6 : w8.cell? ⟨w3.heap.size, 6, none⟩ = some (.int .i64 t1.hi) := (hB8.cell (p := ⟨w3.heap.size, 6, none⟩) hx1).trans u6_; have z7 : w8.cell? ⟨w3.heap.size, 7, none⟩ = some (.bool t1.lazy) := (hB8.cell (p := ⟨w3.heap.size, 7, none⟩) hx1).trans u7_; have z8 : w8.cell? ⟨w3.heap.size, 8, none⟩ = some (.slice A1 t1.kids.length c1) := (hB8.cell (p := ⟨w3.heap.size, 8, none⟩) hx1).trans u8_; have z9 : w8.cell? ⟨w3.heap.size, 9, none⟩ = some (.int .i64 ((t1.f : Nat) : Int)) := (hB8.cell (p := ⟨w3.heap.size, 9, none⟩) hx1).trans u9_; have z10 : w8.cell? ⟨w3.heap.size, 10, none⟩ = some (.int .i64 ((t1.t : Nat) : Int)) := (hB8.cell (p := ⟨w3.heap.size, 10, none⟩) hx1).trans u10_; have z11 : w8.cell? ⟨w5.heap.size, 0, none⟩ = some (.int .i64 t2.kind) := (hB8.cell (p := ⟨w5.heap.size, 0, none⟩) hx2).trans r0_; have z12 : w8.cell? ⟨w5.heap.size, 1, none⟩ = some (.int .u64 (word t2.set 0)) := (hB8.cell (p := ⟨w5.heap.size, 1, none⟩) hx2).trans r1_; have z13 : w8.cell? ⟨w5.heap.size, 2, none⟩ = some (.int .u64 (word t2.set 1)) := (hB8.cell (p := ⟨w5.heap.size, 2, none⟩) hx2).trans r2_; have z14 : w8.cell? ⟨w5.heap.size, 3, none⟩ = some (.int .u64 (word t2.set 2)) := (hB8.cell (p := ⟨w5.heap.size, 3, none⟩) hx2).trans r3_; have z15 : w8.cell? ⟨w5.heap.size, 4, none⟩ = some (.int .u64 (word t2.set 3)) := (hB8.cell (p := ⟨w5.heap.size, 4, none⟩) hx2).trans r4_; have z16 : w8.cell? ⟨w5.heap.size, 5, none⟩ = some (.int .i64 t2.lo) := (hB8.cell (p := ⟨w5.heap.size, 5, none⟩) hx2).trans r5_; have z17 : w8.cell? ⟨w5.heap.size, 6, none⟩ = some (.int .i64 t2.hi) := (hB8.cell (p := ⟨w5.heap.size, 6, none⟩) hx2).trans r6_; have z18 : w8.cell? ⟨w5.heap.size, 7, none⟩ = some (.bool t2.lazy) := (hB8.cell (p := ⟨w5.heap.size, 7, none⟩) hx2).trans r7_; have z19 : w8.cell? ⟨w5.heap.size, 8, none⟩ = some (.slice A2 t2.kids.length c2) := (hB8.cell (p := ⟨w5.heap.size, 8, none⟩) hx2).trans r8_; have z20 : w8.cell? ⟨w5.heap.size, 9, none⟩ = some (.int .i64 ((t2.f : Nat) : Int)) := (hB8.cell (p := ⟨w5.heap.size, 9, none⟩) hx2).trans r9_; have z21 : w8.cell? ⟨w5.heap.size, 10, none⟩ = some (.int .i64 ((t2.t : Nat) : Int)) := (hB8.cell (p := ⟨w5.heap.size, 10, none⟩) hx2).trans r10_))
      all_goals
        go_wp2
        go_returns
        exact ⟨rfl, HB6.out.trans (hB8.mono HB6.out.size)⟩
    | err p2 e2 =>
      rw [hqm] at hqi
      obtain ⟨rfl, he2⟩ := hqi
      have HQM := Lib.hid hqm
      have HE2 := Lib.hid he2
      clear hqm he2
      go_wp2_with fail
      refine (HRP.out _).mono ?_
      rintro v w3 ⟨hri, hb3⟩
      unfold RParseIs at hri
      rw [HPM.out] at hri
      obtain ⟨cs1, rfl, hrt1⟩ := hri
      obtain ⟨A1, c1, rfl, -, -⟩ := hrt1.node
      clear hrt1
      have st3 := (((St.nil w2).below' hb3).alloc rfl (nodeL t1.kind t1.set t1.lo t1.hi t1.lazy (.slice A1 t1.kids.length c1) t1.f t1.t) 32).alloc (n := w3.heap.size + 1) (by simp) [.int .i64 0, .int .i64 0] 34
      clear hb3
      go_upto_region 6 with fail
      generalize (w3.alloc _).alloc _ = w4 at *
      go_wp2_with fail
      refine (HRQ.out _).mono ?_
      rintro v w5 ⟨hri, hb5⟩
      unfold RParseIs at hri
      rw [HQM.out] at hri
      obtain ⟨rfl, -⟩ := hri
      have st5 := ((st3.below' hb5).alloc rfl (zeroN) 32).alloc (n := w5.heap.size + 1) (by simp) [.int .i64 ((p2 : Nat) : Int), .int .i64 ((e2 : Nat) : Int)] 34
      clear hb5 st3
      go_upto_region 7 with fail
      generalize (w5.alloc _).alloc _ = w6 at *
      have HT6 := Lib.hid (tab_far HT2.out st5.below (tab_lt HT2.out))
      have HB6 := Lib.hid (HB2.out.trans (st5.below.mono HB2.out.size))
      have HSM := Lib.hid (fun W => same_nil1 b1 W : ∀ W, Calls Tryd.prog 10 #[ptrV b1, .pointer none] W fun v W' => v = .returned (.bool false) ∧ W' = W)
      have HAW := Lib.hid (fun W hW => awake06_at W (tab_far HT6.out hW (tab_lt HT6.out)) :
        ∀ W, Below w6.heap.size w6 W → Calls Tryd.prog 7 #[] W fun v W' => v = .returned (.bool true) ∧ Below W.heap.size W W')
      obtain ⟨⟨i0, i1⟩, -⟩ := st5.two 0 rfl
      obtain ⟨⟨d0, d1⟩, -⟩ := st5.two 2 rfl
      have hx1 : w3.heap.size + 1 < w6.heap.size := (st5.get 2 rfl).lt
      have hx2 : w5.heap.size + 1 < w6.heap.size := (st5.get 0 rfl).lt
      have hB0 : Below w6.heap.size w6 w6.drew := (Below.refl _ _).drew
      clear st5
      have he2a : (((e2 : Nat) : Int) == 0) = false := by rw [beq_eq_false_iff_ne]; have := HE2.out; omega
      have he2b : (((e2 : Nat) : Int) != 0) = true := by rw [bne_iff_ne]; have := HE2.out; omega
      have he2c : ¬ e2 = 0 := HE2.out
      have he2d : (e2 == 0) = false := by rw [beq_eq_false_iff_ne]; exact HE2.out
      have he2e : (e2 != 0) = true := by rw [bne_iff_ne]; exact HE2.out
      go_upto_region 8 with fail
      refine wp_region_still_tail 29 (by kernel_rfl) (by kernel_rfl) ?_
      simp only [List.take_succ_cons, List.take_zero, List.drop_succ_cons, List.drop_zero]
      repeat still_step
      still_call (HSM.out _)
      repeat still_step
      try refine wpStill_nil ?_
      change wpList _ _ _ _ _ w6.drew
      go_wp2_with fail
      refine (HAW.out _ hB0).mono ?_
      rintro e w8 ⟨rfl, hb8⟩
      have hB8 := hB0.trans (hb8.mono hB0.size)
      clear hb8
      go_wp2
      go_returns
      exact ⟨rfl, HB6.out.trans (hB8.mono HB6.out.size)⟩
  | err p1 e1 =>
    rw [hpm] at hpi
    obtain ⟨rfl, he1⟩ := hpi
    have HPM := Lib.hid hpm
    have HE1 := Lib.hid he1
    clear hpm he1
    go_wp2_with fail
    refine (sparse_at q w1 HT1.out).mono ?_
    rintro v w2 ⟨hqi, hb2⟩
    have HT2 := Lib.hid (tab_far HT1.out hb2 (tab_lt HT1.out))
    have HB2 := Lib.hid (HB1.out.trans (hb2.mono HB1.out.size))
    clear hb2
    unfold ParseIs at hqi
    rw [HQB.out] at hqi
    cases hqm : parseM q with
    | ok t2 j2 =>
      rw [hqm] at hqi
      obtain ⟨b2, rfl, -⟩ := hqi
      have HQM := Lib.hid hqm
      clear hqm
      go_wp2_with fail
      refine (HRP.out _).mono ?_
      rintro v w3 ⟨hri, hb3⟩
      unfold RParseIs at hri
      rw [HPM.out] at hri
      obtain ⟨rfl, -⟩ := hri
      have st3 := (((St.nil w2).below' hb3).alloc rfl (zeroN) 32).alloc (n := w3.heap.size + 1) (by simp) [.int .i64 ((p1 : Nat) : Int), .int .i64 ((e1 : Nat) : Int)] 34
      clear hb3
      go_upto_region 6 with fail
      generalize (w3.alloc _).alloc _ = w4 at *
      go_wp2_with fail
      refine (HRQ.out _).mono ?_
      rintro v w5 ⟨hri, hb5⟩
      unfold RParseIs at hri
      rw [HQM.out] at hri
      obtain ⟨cs2, rfl, hrt2⟩ := hri
      obtain ⟨A2, c2, rfl, -, -⟩ := hrt2.node
      clear hrt2
      have st5 := ((st3.below' hb5).alloc rfl (nodeL t2.kind t2.set t2.lo t2.hi t2.lazy (.slice A2 t2.kids.length c2) t2.f t2.t) 32).alloc (n := w5.heap.size + 1) (by simp) [.int .i64 0, .int .i64 0] 34
      clear hb5 st3
      go_upto_region 7 with fail
      generalize (w5.alloc _).alloc _ = w6 at *
      have HT6 := Lib.hid (tab_far HT2.out st5.below (tab_lt HT2.out))
      have HB6 := Lib.hid (HB2.out.trans (st5.below.mono HB2.out.size))
      have HSM := Lib.hid (fun W => same_nil0 b2 W : ∀ W, Calls Tryd.prog 10 #[.pointer none, ptrV b2] W fun v W' => v = .returned (.bool false) ∧ W' = W)
      have HAW := Lib.hid (fun W hW => awake06_at W (tab_far HT6.out hW (tab_lt HT6.out)) :
        ∀ W, Below w6.heap.size w6 W → Calls Tryd.prog 7 #[] W fun v W' => v = .returned (.bool true) ∧ Below W.heap.size W W')
      obtain ⟨⟨i0, i1⟩, -⟩ := st5.two 0 rfl
      obtain ⟨⟨d0, d1⟩, -⟩ := st5.two 2 rfl
      have hx1 : w3.heap.size + 1 < w6.heap.size := (st5.get 2 rfl).lt
      have hx2 : w5.heap.size + 1 < w6.heap.size := (st5.get 0 rfl).lt
      have hB0 : Below w6.heap.size w6 w6.drew := (Below.refl _ _).drew
      clear st5
      have he1a : (((e1 : Nat) : Int) == 0) = false := by rw [beq_eq_false_iff_ne]; have := HE1.out; omega
      have he1b : (((e1 : Nat) : Int) != 0) = true := by rw [bne_iff_ne]; have := HE1.out; omega
      have he1c : ¬ e1 = 0 := HE1.out
      have he1d : (e1 == 0) = false := by rw [beq_eq_false_iff_ne]; exact HE1.out
      have he1e : (e1 != 0) = true := by rw [bne_iff_ne]; exact HE1.out
      go_upto_region 8 with fail
      go_region_held3 (fun x' => x'.cell? ⟨w3.heap.size + 1, 1, none⟩ = some (.int .i64 ((e1 : Nat) : Int)) ∧ x'.cell? ⟨w5.heap.size + 1, 1, none⟩ = some (.int .i64 0) ∧ Below w6.heap.size w6 x') ((repeat' apply And.intro) <;> first | assumption | exact below_drewN (Below.refl _ _) _ | exact below_drewN (by assumption) _ | go_keep)
        (first
          | (go_at_call 10; refine (HSM.out _).mono ?_; rintro e w8 ⟨rfl, rfl⟩)
          | (go_at_call 7; refine (HAW.out _ ?_).mono ?_; (go_split_ands; assumption); rintro e w8 ⟨rfl, hb8⟩; have hB7 := (show Below w6.heap.size w6 _ by go_split_ands; assumption); have hB8 := hB7.trans (hb8.mono hB7.size); clear hB7 hb8; have z0 : w8.cell? ⟨w3.heap.size + 1, 1, none⟩ = some (.int .i64 ((e1 : Nat) : Int)) := (hB8.cell (p := ⟨w3.heap.size + 1, 1, none⟩) hx1).trans d1; have z1 : w8.cell? ⟨w5.heap.size + 1, 1, none⟩ = some (.int .i64 0) := (hB8.cell (p := ⟨w5.heap.size + 1, 1, none⟩) hx2).trans i1))
      all_goals
        go_wp2
        go_returns
        exact ⟨rfl, HB6.out.trans (hB8.mono HB6.out.size)⟩
    | err p2 e2 =>
      rw [hqm] at hqi
      obtain ⟨rfl, he2⟩ := hqi
      have HQM := Lib.hid hqm
      have HE2 := Lib.hid he2
      clear hqm he2
      go_wp2_with fail
      refine (HRP.out _).mono ?_
      rintro v w3 ⟨hri, hb3⟩
      unfold RParseIs at hri
      rw [HPM.out] at hri
      obtain ⟨rfl, -⟩ := hri
      have st3 := (((St.nil w2).below' hb3).alloc rfl (zeroN) 32).alloc (n := w3.heap.size + 1) (by simp) [.int .i64 ((p1 : Nat) : Int), .int .i64 ((e1 : Nat) : Int)] 34
      clear hb3
      go_upto_region 6 with fail
      generalize (w3.alloc _).alloc _ = w4 at *
      go_wp2_with fail
      refine (HRQ.out _).mono ?_
      rintro v w5 ⟨hri, hb5⟩
      unfold RParseIs at hri
      rw [HQM.out] at hri
      obtain ⟨rfl, -⟩ := hri
      have st5 := ((st3.below' hb5).alloc rfl (zeroN) 32).alloc (n := w5.heap.size + 1) (by simp) [.int .i64 ((p2 : Nat) : Int), .int .i64 ((e2 : Nat) : Int)] 34
      clear hb5 st3
      go_upto_region 7 with fail
      generalize (w5.alloc _).alloc _ = w6 at *
      have HT6 := Lib.hid (tab_far HT2.out st5.below (tab_lt HT2.out))
      have HB6 := Lib.hid (HB2.out.trans (st5.below.mono HB2.out.size))
      have HSM := Lib.hid (fun W => same_nil2 W : ∀ W, Calls Tryd.prog 10 #[.pointer none, .pointer none] W fun v W' => v = .returned (.bool true) ∧ W' = W)
      have HAW := Lib.hid (fun W hW => awake06_at W (tab_far HT6.out hW (tab_lt HT6.out)) :
        ∀ W, Below w6.heap.size w6 W → Calls Tryd.prog 7 #[] W fun v W' => v = .returned (.bool true) ∧ Below W.heap.size W W')
      obtain ⟨⟨i0, i1⟩, -⟩ := st5.two 0 rfl
      obtain ⟨⟨d0, d1⟩, -⟩ := st5.two 2 rfl
      have hx1 : w3.heap.size + 1 < w6.heap.size := (st5.get 2 rfl).lt
      have hx2 : w5.heap.size + 1 < w6.heap.size := (st5.get 0 rfl).lt
      have hB0 : Below w6.heap.size w6 w6.drew := (Below.refl _ _).drew
      clear st5
      have he1a : (((e1 : Nat) : Int) == 0) = false := by rw [beq_eq_false_iff_ne]; have := HE1.out; omega
      have he1b : (((e1 : Nat) : Int) != 0) = true := by rw [bne_iff_ne]; have := HE1.out; omega
      have he1c : ¬ e1 = 0 := HE1.out
      have he1d : (e1 == 0) = false := by rw [beq_eq_false_iff_ne]; exact HE1.out
      have he1e : (e1 != 0) = true := by rw [bne_iff_ne]; exact HE1.out
      have he2a : (((e2 : Nat) : Int) == 0) = false := by rw [beq_eq_false_iff_ne]; have := HE2.out; omega
      have he2b : (((e2 : Nat) : Int) != 0) = true := by rw [bne_iff_ne]; have := HE2.out; omega
      have he2c : ¬ e2 = 0 := HE2.out
      have he2d : (e2 == 0) = false := by rw [beq_eq_false_iff_ne]; exact HE2.out
      have he2e : (e2 != 0) = true := by rw [bne_iff_ne]; exact HE2.out
      go_upto_region 8 with fail
      go_region_held3 (fun x' => x'.cell? ⟨w3.heap.size + 1, 1, none⟩ = some (.int .i64 ((e1 : Nat) : Int)) ∧ x'.cell? ⟨w5.heap.size + 1, 1, none⟩ = some (.int .i64 ((e2 : Nat) : Int)) ∧ Below w6.heap.size w6 x') ((repeat' apply And.intro) <;> first | assumption | exact below_drewN (Below.refl _ _) _ | exact below_drewN (by assumption) _ | go_keep)
        (first
          | (go_at_call 10; refine (HSM.out _).mono ?_; rintro e w8 ⟨rfl, rfl⟩)
          | (go_at_call 7; refine (HAW.out _ ?_).mono ?_; (go_split_ands; assumption); rintro e w8 ⟨rfl, hb8⟩; have hB7 := (show Below w6.heap.size w6 _ by go_split_ands; assumption); have hB8 := hB7.trans (hb8.mono hB7.size); clear hB7 hb8; have z0 : w8.cell? ⟨w3.heap.size + 1, 1, none⟩ = some (.int .i64 ((e1 : Nat) : Int)) := (hB8.cell (p := ⟨w3.heap.size + 1, 1, none⟩) hx1).trans d1; have z1 : w8.cell? ⟨w5.heap.size + 1, 1, none⟩ = some (.int .i64 ((e2 : Nat) : Int)) := (hB8.cell (p := ⟨w5.heap.size + 1, 1, none⟩) hx2).trans i1))
      all_goals
        go_wp2
        go_returns
        exact ⟨rfl, HB6.out.trans (hB8.mono HB6.out.size)⟩
end Go.Proofs.YtckoebfmoggeoaaDoor
