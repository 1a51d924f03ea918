/- ref01.Meet: of two. -/
import Derived.Test.YtanimknpnniabaaDoorOps2
namespace Go.Proofs.YtanimknpnniabaaDoor
open Go.RowKit
/-- The 256 Bools of a set, in a block that is not below B. -/
def RG.boolsB (B : Nat) (m : Nat → Bool) : RG where
  g v w N := ∃ g, v = .slice (some ⟨g, 0, none⟩) 256 256 ∧ B ≤ g ∧ N g ∧ Blk w g 4 (boolsL m 256)
  mono := by
    rintro v w w' N N' ⟨g, rfl, hB, hN, hb⟩ hs hk
    exact ⟨g, rfl, hB, (hk g hb.lt hN).1, ((hk g hb.lt hN).2).trans hb⟩
section
variable {Q : Exit → Act → World → Prop} {a : Act} {w : World} {N : Nat → Prop}
theorem wp_boolsB {B : Nat} {o : Oper} {x : Operand} {ts : Array TypeId} {m : Nat → Bool} (ho : o.op = .call { callee := .value (.func 41), args := #[x], argTypes := ts }) (hx : a.eval x = setV m) (hB : B ≤ w.heap.size) :
    o.wp Tryd.prog a w (fun a' w' => ∃ u, a' = a.put o.dst u ∧ Below w.heap.size w w' ∧ ∀ N' : Nat → Prop, (∀ k, k < w.heap.size → N k → N' k) → (∀ k, w.heap.size ≤ k → N' k) → (RG.boolsB B m).g u w' N') Q := by
  refine wp_callee ho (fun xs w => by kernel_rfl) ?_
  simp only [List.map_toArray, List.map_cons, List.map_nil, hx]
  refine (bools_any m w).mono ?_
  rintro e w' ⟨g, rfl, hg, hb, hw⟩
  exact ⟨_, rfl, _, rfl, hw, fun N' _ hN => ⟨g, rfl, Nat.le_trans hB hg, hN g hg, hb⟩⟩
end
/-- The first k are of both, the others of the first one. -/
def meetK (m0 m1 : Nat → Bool) (k : Nat) (x : Nat) : Bool := m0 x && (m1 x || decide (k ≤ x))
def meetL (m0 m1 : Nat → Bool) (k : Nat) : List Value := (List.range 256).map fun x => .bool (meetK m0 m1 k x)
theorem meetL_zero (m0 m1 : Nat → Bool) : meetL m0 m1 0 = boolsL m0 256 := by
  unfold meetL boolsL
  refine List.map_congr_left fun x hx => ?_
  simp [meetK, List.mem_range.1 hx]
theorem meetL_at (m0 m1 : Nat → Bool) (k : Nat) (h : k < 256) : (meetL m0 m1 k)[k]? = some (.bool (m0 k)) := by
  unfold meetL
  rw [List.getElem?_map, List.getElem?_range h]
  simp [meetK]
theorem meetL_succ (m0 m1 : Nat → Bool) (k : Nat) : meetL m0 m1 (k + 1) = (meetL m0 m1 k).set k (.bool (m0 k && m1 k)) := by
  apply List.ext_getElem
  · simp [meetL]
  · intro i h1 h2
    simp only [meetL, List.length_map, List.length_range] at h1
    simp only [meetL, List.getElem_map, List.getElem_range, List.getElem_set]
    by_cases h : k = i
    · subst h
      rw [if_pos rfl]
      congr 1
      simp only [meetK]
      rw [show decide (k + 1 ≤ k) = false by simp]
      simp
    · rw [if_neg h]
      congr 1
      simp only [meetK]
      rw [show decide (k + 1 ≤ i) = decide (k ≤ i) by simp only [decide_eq_decide]; omega]
theorem meetL_all (m0 m1 : Nat → Bool) : meetL m0 m1 256 = ((List.range 256).map fun x => m0 x && m1 x).map .bool := by
  unfold meetL
  rw [List.map_map]
  refine List.map_congr_left fun x hx => ?_
  have := List.mem_range.1 hx
  simp only [meetK, Function.comp, show decide (256 ≤ x) = false by simp; omega, Bool.or_false]
theorem boolsL_cell (m : Nat → Bool) (k : Nat) (h : k < 256) : (boolsL m 256)[k]? = some (.bool (m k)) := by
  unfold boolsL
  rw [List.getElem?_map, List.getElem?_range h]
  simp [h]
noncomputable def rme_ops : Array Oper := regOf Tryd.f27 1
def rme_S (m0 m1 : Nat → Bool) (B : Nat) : List RK := [RK.eq (setV m0), RK.val (RG.boolsB B m0), RK.eq (setV m1), RK.val (RG.boolsB B m1), RK.val (RG.boolsB B m0), RK.val (RG.boolsB B m1)]
theorem rme_o0 (m0 m1 : Nat → Bool) (B : Nat) (b : Nat) (Q : Exit → Act → World → Prop) (a0 : Act) (w0 : World) (hs2 : a0.tmps.getD 2 undef = .pointer (some ⟨b, 0, none⟩)) (hB2 : Blk w0 b 35 (setL m0)) : Obl Tryd.prog rme_ops (rme_S m0 m1 B) Q a0 w0 0 :=
  obl_load_old 2 (b) rfl none (by kernel_rfl) (by kernel_rfl) hs2 hB2 (fun a w N H D => (fun _ _ hg => by cases hg))
theorem rme_o1 (m0 m1 : Nat → Bool) (B : Nat) (Q : Exit → Act → World → Prop) (a0 : Act) (w0 : World) (hBw : B ≤ w0.heap.size) : Obl Tryd.prog rme_ops (rme_S m0 m1 B) Q a0 w0 1 :=
  obl_val (.call { callee := .value (.func 41), args := #[.tmp 8], argTypes := #[35] }) none rfl (by kernel_rfl) fun a w N H D => ⟨(fun _ _ hg => by cases hg), fun _ ho => wp_boolsB ho (fact_eq (c := setV m0) (D 0 (by kernel_rfl)) rfl (by kernel_rfl)) (Nat.le_trans hBw H.below.size)⟩
theorem rme_o2 (m0 m1 : Nat → Bool) (B : Nat) (b : Nat) (Q : Exit → Act → World → Prop) (a0 : Act) (w0 : World) (hs3 : a0.tmps.getD 3 undef = .pointer (some ⟨b + 1, 0, none⟩)) (hB3 : Blk w0 (b + 1) 35 (setL m1)) : Obl Tryd.prog rme_ops (rme_S m0 m1 B) Q a0 w0 2 :=
  obl_load_old 3 ((b + 1)) rfl none (by kernel_rfl) (by kernel_rfl) hs3 hB3 (fun a w N H D => (fun _ _ hg => by cases hg))
theorem rme_o3 (m0 m1 : Nat → Bool) (B : Nat) (Q : Exit → Act → World → Prop) (a0 : Act) (w0 : World) (hBw : B ≤ w0.heap.size) : Obl Tryd.prog rme_ops (rme_S m0 m1 B) Q a0 w0 3 :=
  obl_val (.call { callee := .value (.func 41), args := #[.tmp 10], argTypes := #[35] }) none rfl (by kernel_rfl) fun a w N H D => ⟨(fun _ _ hg => by cases hg), fun _ ho => wp_boolsB ho (fact_eq (c := setV m1) (D 2 (by kernel_rfl)) rfl (by kernel_rfl)) (Nat.le_trans hBw H.below.size)⟩
theorem rme_o4 (m0 m1 : Nat → Bool) (B : Nat) (Q : Exit → Act → World → Prop) (a0 : Act) (w0 : World)  : Obl Tryd.prog rme_ops (rme_S m0 m1 B) Q a0 w0 4 :=
  obl_val (.assign (.tmp 9)) none rfl (by kernel_rfl) fun a w N H D => ⟨(fun _ _ hg => by cases hg), fun _ ho => wp_move_g (.inr ho) (fact_val (D 1 (by kernel_rfl)) rfl (by kernel_rfl))⟩
theorem rme_o5 (m0 m1 : Nat → Bool) (B : Nat) (Q : Exit → Act → World → Prop) (a0 : Act) (w0 : World)  : Obl Tryd.prog rme_ops (rme_S m0 m1 B) Q a0 w0 5 :=
  obl_val (.assign (.tmp 11)) none rfl (by kernel_rfl) fun a w N H D => ⟨(fun _ _ hg => by cases hg), fun _ ho => wp_move_g (.inr ho) (fact_val (D 3 (by kernel_rfl)) rfl (by kernel_rfl))⟩
theorem rme_all (m0 m1 : Nat → Bool) (B : Nat) (b : Nat) (Q : Exit → Act → World → Prop) (a0 : Act) (w0 : World) (hs2 : a0.tmps.getD 2 undef = .pointer (some ⟨b, 0, none⟩)) (hB2 : Blk w0 b 35 (setL m0)) (hs3 : a0.tmps.getD 3 undef = .pointer (some ⟨b + 1, 0, none⟩)) (hB3 : Blk w0 (b + 1) 35 (setL m1)) (hBw : B ≤ w0.heap.size) : ∀ i, i < rme_ops.size → Obl Tryd.prog rme_ops (rme_S m0 m1 B) Q a0 w0 i := by
  intro i hi_
  have hs : rme_ops.size = 6 := by kernel_rfl
  rw [hs] at hi_
  clear hs
  match i, hi_ with
  | 0, _ => exact rme_o0 m0 m1 B b Q a0 w0 hs2 hB2
  | 1, _ => exact rme_o1 m0 m1 B  Q a0 w0 hBw
  | 2, _ => exact rme_o2 m0 m1 B b Q a0 w0 hs3 hB3
  | 3, _ => exact rme_o3 m0 m1 B  Q a0 w0 hBw
  | 4, _ => exact rme_o4 m0 m1 B  Q a0 w0 
  | 5, _ => exact rme_o5 m0 m1 B  Q a0 w0 
  | i + 6, h => exact absurd h (by omega)
set_option maxRecDepth 100000 in
set_option maxHeartbeats 1000000 in
theorem refmeet_any (m0 m1 : Nat → Bool) (w : World) :
    Calls Tryd.prog 27 #[setV m0, setV m1] w fun e w' => e = .returned (setV (fun x => m0 x && m1 x)) ∧ Below w.heap.size w w' := by
  unfold setV
  go_enter Tryd.func27, Tryd.ntmps27
  go_wp2_with fail
  generalize hW : ((w.alloc _).alloc _).alloc _ = w1
  have hbw : Below w.heap.size w w1 := by
    rw [← hW]
    go_grown
  have hb2 : Blk w1 w.heap.size 35 (setL m0) := by
    rw [← hW]
    exact ((Blk.new w _ _).alloc _).alloc _
  have hb3 : Blk w1 (w.heap.size + 1) 35 (setL m1) := by
    rw [← hW]
    exact (blk_new2 w _ _ _).alloc _
  have hb4 : Blk w1 (w.heap.size + 1 + 1) 35 (setL fun _ => false) := by
    rw [← hW, setL, word_none, word_none, word_none, word_none]
    have := blk_new2 (w.alloc (.cells (setL m0).toArray 35)) [.int .u64 0, .int .u64 0, .int .u64 0, .int .u64 0] 35 (.cells (setL m1).toArray 35)
    rwa [show (w.alloc (.cells (setL m0).toArray 35)).heap.size = w.heap.size + 1 by simp] at this
  clear hW
  have hsz := hb4.lt
  refine region_named (ops' := rme_ops) (by kernel_rfl) (rme_S m0 m1 (w.heap.size + 1 + 1 + 1)) 31 rfl (by kernel_rfl) (by kernel_rfl) (rme_all m0 m1 (w.heap.size + 1 + 1 + 1) w.heap.size _ _ _ rfl hb2.drew rfl hb3.drew (by simp; omega)) ?_
  rename_i hK
  intro a w2 N H hF
  have q0 : a.tmps.getD 0 undef = .agg #[.int .u64 (word m0 0), .int .u64 (word m0 1), .int .u64 (word m0 2), .int .u64 (word m0 3)] := held_base H 0 (by kernel_rfl) rfl
  have q2 : a.tmps.getD 2 undef = .pointer (some ⟨w.heap.size, 0, none⟩) := held_base H 2 (by kernel_rfl) rfl
  have q3 : a.tmps.getD 3 undef = .pointer (some ⟨w.heap.size + 1, 0, none⟩) := held_base H 3 (by kernel_rfl) rfl
  have q4 : a.tmps.getD 4 undef = .pointer (some ⟨w.heap.size + 1 + 1, 0, none⟩) := held_base H 4 (by kernel_rfl) rfl
  obtain ⟨gx, q5, hgx, _, hX⟩ : (RG.boolsB (w.heap.size + 1 + 1 + 1) m0).g (a.tmps.getD 5 undef) w2 N := fact_val (hF 4 (by kernel_rfl)) rfl (by kernel_rfl)
  obtain ⟨gy, q6, hgy, _, hY⟩ : (RG.boolsB (w.heap.size + 1 + 1 + 1) m1).g (a.tmps.getD 6 undef) w2 N := fact_val (hF 5 (by kernel_rfl)) rfl (by kernel_rfl)
  have hd : a.defers = [] := H.defers
  have Hsz : a.tmps.size = 31 := H.size
  replace hb4 := hb4.drew.below H.below hb4.lt
  replace hbw : Below w.heap.size w w2 := hbw.drew.trans (H.below.mono (by simp; omega))
  clear hF H hb2 hb3
  refine hK _ _ ?_
  rw [act_eq a 31 Hsz, show List.range 31 = [0, 1, 2, 3, 4, 5, 6, 7, 8, 9, 10, 11, 12, 13, 14, 15, 16, 17, 18, 19, 20, 21, 22, 23, 24, 25, 26, 27, 28, 29, 30] from rfl]
  simp only [List.map_cons, List.map_nil, q0, q2, q3, q4, q5, q6, hd]
  generalize a.tmps.getD 1 undef = z1
  generalize a.tmps.getD 7 undef = z7
  generalize a.tmps.getD 8 undef = z8
  generalize a.tmps.getD 9 undef = z9
  generalize a.tmps.getD 10 undef = z10
  generalize a.tmps.getD 11 undef = z11
  generalize a.tmps.getD 12 undef = z12
  generalize a.tmps.getD 13 undef = z13
  generalize a.tmps.getD 14 undef = z14
  generalize a.tmps.getD 15 undef = z15
  generalize a.tmps.getD 16 undef = z16
  generalize a.tmps.getD 17 undef = z17
  generalize a.tmps.getD 18 undef = z18
  generalize a.tmps.getD 19 undef = z19
  generalize a.tmps.getD 20 undef = z20
  generalize a.tmps.getD 21 undef = z21
  generalize a.tmps.getD 22 undef = z22
  generalize a.tmps.getD 23 undef = z23
  generalize a.tmps.getD 24 undef = z24
  generalize a.tmps.getD 25 undef = z25
  generalize a.tmps.getD 26 undef = z26
  generalize a.tmps.getD 27 undef = z27
  generalize a.tmps.getD 28 undef = z28
  generalize a.tmps.getD 29 undef = z29
  generalize a.tmps.getD 30 undef = z30
  clear hd Hsz q0 q2 q3 q4 q5 q6 hK a
  have hcy : ∀ j, 0 ≤ j → j < 256 → w2.cell? ⟨gy, j, none⟩ = some (.bool (m1 j)) := fun j _ hj => (hY.cell j).trans (boolsL_cell m1 j hj)
  have hgyl := hY.lt
  rw [← meetL_zero m0 m1] at hX
  have HX0 := Lib.hid (And.intro hX hcy)
  clear hY hX hcy
  go_wp2
  go_loopw [7] (fun i wr => ∃ k : Nat, k ≤ 256 ∧ i = .int .i64 ((k : Nat) : Int) ∧ Blk wr gx 4 (meetL m0 m1 k) ∧ (∀ j, k ≤ j → j < 256 → wr.cell? ⟨gy, j, none⟩ = some (.bool (m1 j))) ∧ Blk wr (w.heap.size + 1 + 1) 35 (setL fun _ => false) ∧ Below w.heap.size w wr) (fun i _ => 256 - (intOf i).toNat)
  case atStart => exact ⟨0, by omega, rfl, HX0.out.1, HX0.out.2, hb4, hbw⟩
  case round =>
    clear hbw hb4
    obtain ⟨k, hk, rfl, hX, hY, hb4, hbw⟩ := hrel
    by_cases hlt : k < 256
    · have hcx := (hX.cell k).trans (meetL_at m0 m1 k hlt)
      have hcy := hY k (Nat.le_refl _) hlt
      have hfx := hX.frozen k
      have HX := Lib.hid hX
      have HY := Lib.hid hY
      have HM := Lib.hid (meetL_succ m0 m1 k)
      have hnext : ∀ u, (∀ j, k + 1 ≤ j → j < 256 → (wr.setCell ⟨gx, k, none⟩ u).cell? ⟨gy, j, none⟩ = some (.bool (m1 j))) := fun u j h1 h2 => by
        refine Eq.trans (World.cell?_setCell_other wr ⟨gx, k, none⟩ ⟨gy, j, none⟩ u ?_) (HY.out j (by omega) h2)
        intro e
        injection e with e1 e2 e3
        omega
      have HN := Lib.hid hnext
      have hgs := hX.lt
      clear hX hY hnext
      cases h0 : m0 k with
      | true =>
        rw [h0] at hcx
        have H0 := Lib.hid h0
        clear h0
        go_wp2
        go_roundw
        case rel =>
          refine ⟨k + 1, by omega, by go_num, ?_, HN.out _, hb4.far (p := ⟨gx, k, none⟩) (by show w.heap.size + 1 + 1 ≠ gx; omega) _, hbw.setCell (p := ⟨gx, k, none⟩) (by show w.heap.size ≤ gx; omega) _⟩
          rw [HM.out, H0.out]
          exact HX.out.set k _
        case measure => simp [intOf]; omega
      | false =>
        rw [h0] at hcx
        have H0 := Lib.hid h0
        clear h0
        go_wp2
        go_roundw
        case rel =>
          refine ⟨k + 1, by omega, by go_num, ?_, HN.out _, hb4.far (p := ⟨gx, k, none⟩) (by show w.heap.size + 1 + 1 ≠ gx; omega) _, hbw.setCell (p := ⟨gx, k, none⟩) (by show w.heap.size ≤ gx; omega) _⟩
          rw [HM.out, H0.out]
          exact HX.out.set k _
        case measure => simp [intOf]; omega
    · obtain rfl : k = 256 := by omega
      have hr := blk_rdV hX (by simp [meetL])
      simp only [show (meetL m0 m1 256).length = 256 by simp [meetL]] at hr
      rw [meetL_all] at hr
      have HR := Lib.hid hr
      clear hr hX hY
      go_wp2_with fail
      have hmk := make_any _ _ _ HR.out
      have hE := setV_congr fun x hx => make_up (fun x => m0 x && m1 x) x hx
      generalize makeM (((List.range 256).map fun x => m0 x && m1 x).take 256) = mm at hmk hE
      have HE := Lib.hid hE
      clear hE
      unfold setV at hmk
      refine hmk.mono ?_
      rintro e w3 ⟨rfl, hb⟩
      have hbw3 := hbw.trans (hb.mono hbw.size)
      have hb43 := hb4.below hb hb4.lt
      clear hmk hb hbw hb4
      obtain ⟨c0, c1, c2, c3, f0, f1, f2, f3⟩ := hb43.four
      go_wp2
      refine ret_set (b := w.heap.size + 1 + 1) rfl rfl (hb43.set4 _ _ _ _) rfl ⟨?_, below_set4 hbw3 (by omega) _ _ _ _⟩
      exact ret_congr HE.out
end Go.Proofs.YtanimknpnniabaaDoor
