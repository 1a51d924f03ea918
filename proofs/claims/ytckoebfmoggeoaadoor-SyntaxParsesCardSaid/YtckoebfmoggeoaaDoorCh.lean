/- The law's Unlike: of a tree by pointers and the same tree by value nothing is unlike. -/
import Derived.Test.YtckoebfmoggeoaaDoorCd
import Derived.Test.YtckoebfmoggeoaaDoorBl
import Derived.Deep.QuietTactic
import Derived.BigQuiet
import Derived.Deep.RegionHeld3
namespace Go.Proofs.YtckoebfmoggeoaaDoor
set_option maxRecDepth 100000
open Go.RowKit
theorem run_eq_pair (d : Nat) (a0 a1 b0 b1 : Int) (w : World) :
    (Op.equalIn (d + 2) 42 (.agg #[.int .i64 a0, .int .i64 a1]) (.agg #[.int .i64 b0, .int .i64 b1])).run Tryd.prog w = .ok (a0 == b0 && a1 == b1) w := by
  have hs : ∀ w, (sizeOf 3).run Tryd.prog w = .ok 1 w := fun _ => by kernel_rfl
  have hp : ∀ (xs : Array Value) (i : Nat) (v : Value) (w : World), xs[i]? = some v → (part 3 xs i).run Tryd.prog w = .ok v w := by
    intro xs i v w h
    have ha : ∀ w, (isAgg 3).run Tryd.prog w = .ok false w := fun _ => by kernel_rfl
    simp [part, ha, h]
  have he : ∀ (a b : Int) (w : World), (Op.equalIn (d + 1) 3 (.int .i64 a) (.int .i64 b)).run Tryd.prog w = .ok (a == b) w := by
    intro a b w
    simp [Op.equalIn, run_underlying Tryd.underlying3]
  have p0 : ∀ (x0 x1 : Int) (w : World), (part 3 #[.int .i64 x0, .int .i64 x1] 0).run Tryd.prog w = .ok (.int .i64 x0) w := fun _ _ _ => hp _ _ _ _ rfl
  have p1 : ∀ (x0 x1 : Int) (w : World), (part 3 #[.int .i64 x0, .int .i64 x1] 1).run Tryd.prog w = .ok (.int .i64 x1) w := fun _ _ _ => hp _ _ _ _ rfl
  rw [Op.equalIn]
  simp only [Sem.run_bind, run_underlying Tryd.underlying42, Result.andThen_ok, hs]
  simp only [Std.Legacy.Range.forIn_eq_forIn_range', Std.Legacy.Range.size, List.range']
  simp [he, p0, p1]
  by_cases h0 : a0 = b0 <;> by_cases h1 : a1 = b1 <;> simp [h0, h1]
theorem eq_pair (a0 a1 b0 b1 : Int) (w : World) :
    (Op.equalIn 10000 42 (.agg #[.int .i64 a0, .int .i64 a1]) (.agg #[.int .i64 b0, .int .i64 b1])).run Tryd.prog w = .ok (a0 == b0 && a1 == b1) w := run_eq_pair 9998 _ _ _ _ w
attribute [local go_sem] eq_words eqB_words eqB_zero eq_pair
theorem eqB_self (m : Nat → Bool) : eqB m m = true := (eqB_iff _ _).2 fun _ _ => rfl
set_option maxHeartbeats 8000000 in
theorem unlike_at {w : World} {S : Nat → Prop} {n : Tree} {b : Nat} (h : TreeAt w S n b) : ∀ (cs : List Value) (S' : Nat → Prop), RefT w S' n cs → ∀ w', Below w.heap.size w w' →
    Calls Tryd.prog 15 #[ptrV b, .agg cs.toArray] w' fun v w'' => v = .returned (.int .i64 0) ∧ Below w'.heap.size w' w'' := by
  induction h with
  | @mk k set lo hi lazy kids f t b ga c A bs hSb hb hl hm hA hc hk ih =>
    intro cs S' h' w' hw
    cases h' with
    | @mk _ _ _ _ _ _ _ _ ga' c' A' css hl' hm' hA' hc' hk' =>
      have hb2 := hb.below hw hb.lt
      have hbl := hb2.lt
      have st := (St.nil w').alloc rfl (nodeL k set lo hi lazy (.slice A' kids.length c') f t) 32
      have hB1 := (hb2.alloc (.cells (nodeL k set lo hi lazy (.slice A' kids.length c') f t).toArray 32))
      have HNB := Lib.hid hb2
      have HC := Lib.hid hc
      have HK := Lib.hid hk
      have HI := Lib.hid ih
      have HA := Lib.hid hA
      have HW := Lib.hid hw
      have HC' := Lib.hid hc'
      have HK' := Lib.hid hk'
      have HA' := Lib.hid hA'
      clear hc hk ih hA hw hc' hk' hA' hb hb2
      rename World => w'
      go_enter Tryd.func15, Tryd.ntmps15
      go_upto_region 1 with fail
      generalize w'.alloc _ = w1 at *
      obtain ⟨⟨a0, a1, a2, a3, a4, a5, a6, a7, a8, a9, a10⟩, -⟩ := (st.get 0 rfl).eleven
      obtain ⟨⟨b0, b1, b2, b3, b4, b5, b6, b7, b8, b9, b10⟩, -⟩ := hB1.eleven
      have n1 : (k != k) = false := by simp
      have n2 : eqB set set = true := eqB_self set
      have n3 : (lo != lo) = false := by simp
      have n4 : (hi != hi) = false := by simp
      have n5 : (lazy != lazy) = false := by simp
      have n6 : (((kids.length : Nat) : Int) != ((kids.length : Nat) : Int)) = false := by simp
      go_wp2_with fail
      simp only [List.append_eq, List.cons_append, List.nil_append]
      go_quiet (fail)
      rename_i nq _
      have HST := Lib.hid (st.drewN nq)
      have HB2 := Lib.hid (show Blk (w1.drewN nq) b 44 (nodeL k set lo hi lazy (.slice A kids.length c) f t) from hB1)
      clear a0 a1 a2 a3 a4 a5 a6 a7 a8 a9 a10 b0 b1 b2 b3 b4 b5 b6 b7 b8 b9 b10 n1 n2 n3 n4 n5 n6 st hB1
      generalize w1.drewN nq = w2 at *
      go_wp2_with fail
      go_loopw [5, 6] (fun bv iv wr => ∃ i : Nat, i ≤ kids.length ∧ iv = .int .i64 ((i : Nat) : Int) ∧ bv = .int .i64 0 ∧ St w' wr [(w'.heap.size, 32, nodeL k set lo hi lazy (.slice A' kids.length c') f t)]) (fun _ iv _ => kids.length - (intOf iv).toNat)
      case atStart => exact ⟨0, Nat.zero_le _, rfl, rfl, HST.out⟩
      case round =>
        obtain ⟨i, hik, rfl, rfl, st⟩ := hrel
        have a8 : wr.cell? ⟨w'.heap.size, 8, none⟩ = some (.slice A' kids.length c') := (st.get 0 rfl).cell 8
        have b8 : wr.cell? ⟨b, 8, none⟩ = some (.slice A kids.length c) := (HNB.out.below st.below hbl).cell 8
        have HS := Lib.hid st
        clear st
        by_cases hlt : i < kids.length
        · have hne : kids ≠ [] := by intro e; rw [e] at hlt; exact absurd hlt (Nat.not_lt_zero _)
          have hci : i < css.length := by omega
          have hbi : i < bs.length := by omega
          have hcs := List.getElem?_eq_getElem hci
          have hki := List.getElem?_eq_getElem hlt
          have hbs := List.getElem?_eq_getElem hbi
          obtain ⟨rfl, -⟩ := HA.out hne
          obtain ⟨rfl, -⟩ := HA'.out hne
          have hb := HW.out.trans (HS.out.below.mono HW.out.size)
          have hb2 : Below _ _ wr.drew := hb.drew
          obtain ⟨A2, c2, hcs2, hgl, q0, q1, q2, q3, q4, q5, q6, q7, q8, q9, q10⟩ := ref_kid (HC'.out i _ hcs) (HK'.out i _ _ hki hcs) hb
          have hcell := HC.out i _ hbs
          have p0 : wr.cell? ⟨ga, i, none⟩ = some (ptrV bs[i]) := (World.cell?_of_block (hb.block _ (cell_lt0 hcell))).trans hcell
          have HCALL := Lib.hid (by have := HI.out i _ _ hki hbs _ _ (HK'.out i _ _ hki hcs) wr.drew hb2; rwa [hcs2] at this)
          clear hcs hki hcs2 hb hb2 hgl hbs hcell
          generalize kids[i] = n at *
          generalize bs[i] = kb at *
          go_upto_region 7 with fail
          have hx1 : w'.heap.size < wr.heap.size := (HS.out.get 0 rfl).lt
          have hx2 : b < wr.heap.size := cell_lt0 b8
          have hx3 : ga < wr.heap.size := cell_lt0 p0
          have hx4 : ga' < wr.heap.size := cell_lt0 q0
          go_region_held3 (fun x' => x'.cell? ⟨w'.heap.size, 8, none⟩ = some (.slice (some ⟨ga', 0, none⟩) kids.length c') ∧ x'.cell? ⟨b, 8, none⟩ = some (.slice (some ⟨ga, 0, none⟩) kids.length c) ∧ x'.cell? ⟨ga, i, none⟩ = some (ptrV kb) ∧ x'.cell? ⟨ga', i * 11, none⟩ = some (.int .i64 n.kind) ∧ x'.cell? ⟨ga', i * 11 + 1, none⟩ = some (.int .u64 (word n.set 0)) ∧ x'.cell? ⟨ga', i * 11 + 2, none⟩ = some (.int .u64 (word n.set 1)) ∧ x'.cell? ⟨ga', i * 11 + 3, none⟩ = some (.int .u64 (word n.set 2)) ∧ x'.cell? ⟨ga', i * 11 + 4, none⟩ = some (.int .u64 (word n.set 3)) ∧ x'.cell? ⟨ga', i * 11 + 5, none⟩ = some (.int .i64 n.lo) ∧ x'.cell? ⟨ga', i * 11 + 6, none⟩ = some (.int .i64 n.hi) ∧ x'.cell? ⟨ga', i * 11 + 7, none⟩ = some (.bool n.lazy) ∧ x'.cell? ⟨ga', i * 11 + 8, none⟩ = some (.slice A2 n.kids.length c2) ∧ x'.cell? ⟨ga', i * 11 + 9, none⟩ = some (.int .i64 ((n.f : Nat) : Int)) ∧ x'.cell? ⟨ga', i * 11 + 10, none⟩ = some (.int .i64 ((n.t : Nat) : Int))) (go_keep)
            (first
              | (go_at_call 15; refine HCALL.out.mono ?_; rintro e w4 ⟨rfl, hb4⟩; have z0 : w4.cell? ⟨w'.heap.size, 8, none⟩ = some (.slice (some ⟨ga', 0, none⟩) kids.length c') := (hb4.cell (p := ⟨w'.heap.size, 8, none⟩) hx1).trans a8; have z1 : w4.cell? ⟨b, 8, none⟩ = some (.slice (some ⟨ga, 0, none⟩) kids.length c) := (hb4.cell (p := ⟨b, 8, none⟩) hx2).trans b8; have z2 : w4.cell? ⟨ga, i, none⟩ = some (ptrV kb) := (hb4.cell (p := ⟨ga, i, none⟩) hx3).trans p0; have z3 : w4.cell? ⟨ga', i * 11, none⟩ = some (.int .i64 n.kind) := (hb4.cell (p := ⟨ga', i * 11, none⟩) hx4).trans q0; have z4 : w4.cell? ⟨ga', i * 11 + 1, none⟩ = some (.int .u64 (word n.set 0)) := (hb4.cell (p := ⟨ga', i * 11 + 1, none⟩) hx4).trans q1; have z5 : w4.cell? ⟨ga', i * 11 + 2, none⟩ = some (.int .u64 (word n.set 1)) := (hb4.cell (p := ⟨ga', i * 11 + 2, none⟩) hx4).trans q2; have z6 : w4.cell? ⟨ga', i * 11 + 3, none⟩ = some (.int .u64 (word n.set 2)) := (hb4.cell (p := ⟨ga', i * 11 + 3, none⟩) hx4).trans q3; have z7 : w4.cell? ⟨ga', i * 11 + 4, none⟩ = some (.int .u64 (word n.set 3)) := (hb4.cell (p := ⟨ga', i * 11 + 4, none⟩) hx4).trans q4; have z8 : w4.cell? ⟨ga', i * 11 + 5, none⟩ = some (.int .i64 n.lo) := (hb4.cell (p := ⟨ga', i * 11 + 5, none⟩) hx4).trans q5; have z9 : w4.cell? ⟨ga', i * 11 + 6, none⟩ = some (.int .i64 n.hi) := (hb4.cell (p := ⟨ga', i * 11 + 6, none⟩) hx4).trans q6; have z10 : w4.cell? ⟨ga', i * 11 + 7, none⟩ = some (.bool n.lazy) := (hb4.cell (p := ⟨ga', i * 11 + 7, none⟩) hx4).trans q7; have z11 : w4.cell? ⟨ga', i * 11 + 8, none⟩ = some (.slice A2 n.kids.length c2) := (hb4.cell (p := ⟨ga', i * 11 + 8, none⟩) hx4).trans q8; have z12 : w4.cell? ⟨ga', i * 11 + 9, none⟩ = some (.int .i64 ((n.f : Nat) : Int)) := (hb4.cell (p := ⟨ga', i * 11 + 9, none⟩) hx4).trans q9; have z13 : w4.cell? ⟨ga', i * 11 + 10, none⟩ = some (.int .i64 ((n.t : Nat) : Int)) := (hb4.cell (p := ⟨ga', i * 11 + 10, none⟩) hx4).trans q10; have HS4 := Lib.hid ((HS.out.drew).below' hb4); clear hb4))
          have hst4 := HS4.out
          clear z0 z1 z2 z3 z4 z5 z6 z7 z8 z9 z10 z11 z12 z13 HS4
          go_wp2_with fail
          go_roundw
          case rel => exact ⟨i + 1, by omega, by go_num, rfl, hst4⟩
          case measure => simp [intOf]; omega
        · obtain rfl : i = kids.length := by omega
          go_wp2
          go_returns
          exact ⟨rfl, HS.out.below⟩
end Go.Proofs.YtckoebfmoggeoaaDoor
