/- BlocksIn: of any sets which blocks any set has, if it has of each all or nothing; with it as one more, it does. -/
import Derived.Test.YtanimknpnniabaaDoorInP
import Derived.Test.YtanimknpnniabaaDoorRefMeet
import Derived.Test.YtanimknpnniabaaDoorSame
import Derived.Test.YtanimknpnniabaaDoorMore
import Derived.Test.YtanimknpnniabaaDoorAwake04
import Derived.Test.YtanimknpnniabaaDoorFrame
namespace Go.Proofs.YtanimknpnniabaaDoor
open Go.RowKit
attribute [local go_sem] eq_words eqB_words eqB_zero
theorem enter_set (xs : Array Value) (w : World) : (callFunc 15 xs).run Tryd.prog w = .ok (.enter 15 xs) w := by kernel_rfl
noncomputable def ila_ops : Array Oper := regOf Tryd.f6 10
def ila_S (q : Nat → Nat) (m : Nat → Bool) (x g n k : Nat) (hq : ∀ b, b < 256 → q b < n) : List RK := [RK.eq (.pointer (some ⟨x, 0, none⟩)), RK.eq (.int .i64 ((k : Nat) : Int)), RK.eq (setV (clsZ q ((k : Nat) : Int))), RK.eq (setV m), RK.eq (setV (fun x => (clsZ q ((k : Nat) : Int)) x && m x)), RK.new 35 4, RK.put 5 (setL (fun x => (clsZ q ((k : Nat) : Int)) x && m x))]
theorem ila_o0 (q : Nat → Nat) (m : Nat → Bool) (x g n k : Nat) (hq : ∀ b, b < 256 → q b < n) (Q : Exit → Act → World → Prop) (a0 : Act) (w0 : World) (hs5 : a0.tmps.getD 5 undef = .pointer (some ⟨x, 0, none⟩)) : Obl Tryd.prog ila_ops (ila_S q m x g n k hq) Q a0 w0 0 :=
  obl_val (.move (.tmp 5)) none rfl (by kernel_rfl) fun a w N H D => ⟨(fun _ _ hg => by cases hg), fun _ ho => wp_move (.inl ho) (held_base H 5 (by kernel_rfl) hs5)⟩
theorem ila_o1 (q : Nat → Nat) (m : Nat → Bool) (x g n k : Nat) (hq : ∀ b, b < 256 → q b < n) (Q : Exit → Act → World → Prop) (a0 : Act) (w0 : World) (hs11 : a0.tmps.getD 11 undef = .int .i64 ((k : Nat) : Int)) : Obl Tryd.prog ila_ops (ila_S q m x g n k hq) Q a0 w0 1 :=
  obl_val (.move (.tmp 11)) none rfl (by kernel_rfl) fun a w N H D => ⟨(fun _ _ hg => by cases hg), fun _ ho => wp_move (.inl ho) (held_base H 11 (by kernel_rfl) hs11)⟩
theorem ila_o2 (q : Nat → Nat) (m : Nat → Bool) (x g n k : Nat) (hq : ∀ b, b < 256 → q b < n) (Q : Exit → Act → World → Prop) (a0 : Act) (w0 : World) (hX : BlksAt w0 x g q n) : Obl Tryd.prog ila_ops (ila_S q m x g n k hq) Q a0 w0 2 :=
  obl_val (.call { callee := .value (.func 15), args := #[.tmp 36, .tmp 37], argTypes := #[24, 3] }) none rfl (by kernel_rfl) fun a w N H D => ⟨(fun _ _ hg => by cases hg), fun _ ho => wp_call_eq ho enter_set (by simp only [List.map_toArray, List.map_cons, List.map_nil]; rw [(fact_eq (c := .pointer (some ⟨x, 0, none⟩)) (D 0 (by kernel_rfl)) rfl (by kernel_rfl)), (fact_eq (c := .int .i64 ((k : Nat) : Int)) (D 1 (by kernel_rfl)) rfl (by kernel_rfl))]) (set_at ((k : Nat) : Int) _ (hX.below H.below) hq)⟩
theorem ila_o3 (q : Nat → Nat) (m : Nat → Bool) (x g n k : Nat) (hq : ∀ b, b < 256 → q b < n) (b : Nat) (Q : Exit → Act → World → Prop) (a0 : Act) (w0 : World) (hs3 : a0.tmps.getD 3 undef = .pointer (some ⟨b, 0, none⟩)) (hB3 : Blk w0 b 35 (setL m)) : Obl Tryd.prog ila_ops (ila_S q m x g n k hq) Q a0 w0 3 :=
  obl_load_old 3 (b) rfl none (by kernel_rfl) (by kernel_rfl) hs3 hB3 (fun a w N H D => (fun _ _ hg => by cases hg))
theorem ila_o4 (q : Nat → Nat) (m : Nat → Bool) (x g n k : Nat) (hq : ∀ b, b < 256 → q b < n) (Q : Exit → Act → World → Prop) (a0 : Act) (w0 : World)  : Obl Tryd.prog ila_ops (ila_S q m x g n k hq) Q a0 w0 4 :=
  obl_val (.call { callee := .value (.func 27), args := #[.tmp 38, .tmp 39], argTypes := #[35, 35] }) none rfl (by kernel_rfl) fun a w N H D => ⟨(fun _ _ hg => by cases hg), fun _ ho => wp_call_eq ho (fun xs w => by kernel_rfl) (by simp only [List.map_toArray, List.map_cons, List.map_nil]; rw [(fact_eq (c := setV (clsZ q ((k : Nat) : Int))) (D 2 (by kernel_rfl)) rfl (by kernel_rfl)), (fact_eq (c := setV m) (D 3 (by kernel_rfl)) rfl (by kernel_rfl))]) (refmeet_any ((clsZ q ((k : Nat) : Int))) (m) _)⟩
theorem ila_o5 (q : Nat → Nat) (m : Nat → Bool) (x g n k : Nat) (hq : ∀ b, b < 256 → q b < n) (Q : Exit → Act → World → Prop) (a0 : Act) (w0 : World)  : Obl Tryd.prog ila_ops (ila_S q m x g n k hq) Q a0 w0 5 :=
  obl_new rfl (by kernel_rfl)
theorem ila_o6 (q : Nat → Nat) (m : Nat → Bool) (x g n k : Nat) (hq : ∀ b, b < 256 → q b < n) (Q : Exit → Act → World → Prop) (a0 : Act) (w0 : World)  : Obl Tryd.prog ila_ops (ila_S q m x g n k hq) Q a0 w0 6 :=
  obl_put 12 5 40 4 rfl (by kernel_rfl) (by kernel_rfl) rfl (by kernel_rfl) rfl (by kernel_rfl) (by kernel_rfl) (by kernel_rfl)
theorem ila_all (q : Nat → Nat) (m : Nat → Bool) (x g n k : Nat) (hq : ∀ b, b < 256 → q b < n) (b : Nat) (Q : Exit → Act → World → Prop) (a0 : Act) (w0 : World) (hs5 : a0.tmps.getD 5 undef = .pointer (some ⟨x, 0, none⟩)) (hs11 : a0.tmps.getD 11 undef = .int .i64 ((k : Nat) : Int)) (hX : BlksAt w0 x g q n) (hs3 : a0.tmps.getD 3 undef = .pointer (some ⟨b, 0, none⟩)) (hB3 : Blk w0 b 35 (setL m)) : ∀ i, i < ila_ops.size → Obl Tryd.prog ila_ops (ila_S q m x g n k hq) Q a0 w0 i := by
  intro i hi_
  have hs : ila_ops.size = 7 := by kernel_rfl
  rw [hs] at hi_
  clear hs
  match i, hi_ with
  | 0, _ => exact ila_o0 q m x g n k hq  Q a0 w0 hs5
  | 1, _ => exact ila_o1 q m x g n k hq  Q a0 w0 hs11
  | 2, _ => exact ila_o2 q m x g n k hq  Q a0 w0 hX
  | 3, _ => exact ila_o3 q m x g n k hq b Q a0 w0 hs3 hB3
  | 4, _ => exact ila_o4 q m x g n k hq  Q a0 w0 
  | 5, _ => exact ila_o5 q m x g n k hq  Q a0 w0 
  | 6, _ => exact ila_o6 q m x g n k hq  Q a0 w0 
  | i + 7, h => exact absurd h (by omega)
noncomputable def ilb_ops : Array Oper := regOf Tryd.f6 11
def ilb_S (q : Nat → Nat) (m : Nat → Bool) (x g n k : Nat) (hq : ∀ b, b < 256 → q b < n) : List RK := [RK.eq (setV (fun x => (clsZ q ((k : Nat) : Int)) x && m x)), RK.eq (.pointer (some ⟨x, 0, none⟩)), RK.eq (.int .i64 ((k : Nat) : Int)), RK.eq (setV (clsZ q ((k : Nat) : Int))), RK.eq (.bool (eqB (fun x => (clsZ q ((k : Nat) : Int)) x && m x) (clsZ q ((k : Nat) : Int))))]
theorem ilb_o0 (q : Nat → Nat) (m : Nat → Bool) (x g n k : Nat) (hq : ∀ b, b < 256 → q b < n) (b : Nat) (Q : Exit → Act → World → Prop) (a0 : Act) (w0 : World) (hs12 : a0.tmps.getD 12 undef = .pointer (some ⟨b, 0, none⟩)) (hB12 : Blk w0 b 35 (setL (fun x => (clsZ q ((k : Nat) : Int)) x && m x))) : Obl Tryd.prog ilb_ops (ilb_S q m x g n k hq) Q a0 w0 0 :=
  obl_load_old 12 (b) rfl none (by kernel_rfl) (by kernel_rfl) hs12 hB12 (fun a w N H D => (fun _ _ hg => by cases hg))
theorem ilb_o1 (q : Nat → Nat) (m : Nat → Bool) (x g n k : Nat) (hq : ∀ b, b < 256 → q b < n) (Q : Exit → Act → World → Prop) (a0 : Act) (w0 : World) (hs5 : a0.tmps.getD 5 undef = .pointer (some ⟨x, 0, none⟩)) : Obl Tryd.prog ilb_ops (ilb_S q m x g n k hq) Q a0 w0 1 :=
  obl_val (.move (.tmp 5)) none rfl (by kernel_rfl) fun a w N H D => ⟨(fun _ _ hg => by cases hg), fun _ ho => wp_move (.inl ho) (held_base H 5 (by kernel_rfl) hs5)⟩
theorem ilb_o2 (q : Nat → Nat) (m : Nat → Bool) (x g n k : Nat) (hq : ∀ b, b < 256 → q b < n) (Q : Exit → Act → World → Prop) (a0 : Act) (w0 : World) (hs11 : a0.tmps.getD 11 undef = .int .i64 ((k : Nat) : Int)) : Obl Tryd.prog ilb_ops (ilb_S q m x g n k hq) Q a0 w0 2 :=
  obl_val (.move (.tmp 11)) none rfl (by kernel_rfl) fun a w N H D => ⟨(fun _ _ hg => by cases hg), fun _ ho => wp_move (.inl ho) (held_base H 11 (by kernel_rfl) hs11)⟩
theorem ilb_o3 (q : Nat → Nat) (m : Nat → Bool) (x g n k : Nat) (hq : ∀ b, b < 256 → q b < n) (Q : Exit → Act → World → Prop) (a0 : Act) (w0 : World) (hX : BlksAt w0 x g q n) : Obl Tryd.prog ilb_ops (ilb_S q m x g n k hq) Q a0 w0 3 :=
  obl_val (.call { callee := .value (.func 15), args := #[.tmp 42, .tmp 43], argTypes := #[24, 3] }) none rfl (by kernel_rfl) fun a w N H D => ⟨(fun _ _ hg => by cases hg), fun _ ho => wp_call_eq ho enter_set (by simp only [List.map_toArray, List.map_cons, List.map_nil]; rw [(fact_eq (c := .pointer (some ⟨x, 0, none⟩)) (D 1 (by kernel_rfl)) rfl (by kernel_rfl)), (fact_eq (c := .int .i64 ((k : Nat) : Int)) (D 2 (by kernel_rfl)) rfl (by kernel_rfl))]) (set_at ((k : Nat) : Int) _ (hX.below H.below) hq)⟩
theorem ilb_o4 (q : Nat → Nat) (m : Nat → Bool) (x g n k : Nat) (hq : ∀ b, b < 256 → q b < n) (Q : Exit → Act → World → Prop) (a0 : Act) (w0 : World)  : Obl Tryd.prog ilb_ops (ilb_S q m x g n k hq) Q a0 w0 4 :=
  obl_val (.binOp .eql 35 (.tmp 41) (.tmp 44) 35) none rfl (by kernel_rfl) fun a w N H D => ⟨(fun _ _ hg => by cases hg), fun _ ho => wp_eq_set (m := (fun x => (clsZ q ((k : Nat) : Int)) x && m x)) (m' := (clsZ q ((k : Nat) : Int))) ho (fact_eq (c := setV (fun x => (clsZ q ((k : Nat) : Int)) x && m x)) (D 0 (by kernel_rfl)) rfl (by kernel_rfl)) (fact_eq (c := setV (clsZ q ((k : Nat) : Int))) (D 3 (by kernel_rfl)) rfl (by kernel_rfl))⟩
theorem ilb_all (q : Nat → Nat) (m : Nat → Bool) (x g n k : Nat) (hq : ∀ b, b < 256 → q b < n) (b : Nat) (Q : Exit → Act → World → Prop) (a0 : Act) (w0 : World) (hs5 : a0.tmps.getD 5 undef = .pointer (some ⟨x, 0, none⟩)) (hs11 : a0.tmps.getD 11 undef = .int .i64 ((k : Nat) : Int)) (hX : BlksAt w0 x g q n) (hs12 : a0.tmps.getD 12 undef = .pointer (some ⟨b, 0, none⟩)) (hB12 : Blk w0 b 35 (setL (fun x => (clsZ q ((k : Nat) : Int)) x && m x))) : ∀ i, i < ilb_ops.size → Obl Tryd.prog ilb_ops (ilb_S q m x g n k hq) Q a0 w0 i := by
  intro i hi_
  have hs : ilb_ops.size = 5 := by kernel_rfl
  rw [hs] at hi_
  clear hs
  match i, hi_ with
  | 0, _ => exact ilb_o0 q m x g n k hq b Q a0 w0 hs12 hB12
  | 1, _ => exact ilb_o1 q m x g n k hq  Q a0 w0 hs5
  | 2, _ => exact ilb_o2 q m x g n k hq  Q a0 w0 hs11
  | 3, _ => exact ilb_o3 q m x g n k hq  Q a0 w0 hX
  | 4, _ => exact ilb_o4 q m x g n k hq  Q a0 w0 
  | i + 5, h => exact absurd h (by omega)
set_option maxRecDepth 100000 in
set_option maxHeartbeats 4000000 in
theorem in_law (l : List (Nat → Bool)) (m : Nat → Bool) (v : Value) (w : World) (hv : RdSw w v l) (hT : TabOk w) :
    Calls Tryd.prog 6 #[v, setV m] w fun e w' => e = .returned (.bool true) ∧ Below w.heap.size w w' := by
  have HT := Lib.hid hT
  have HV := Lib.hid hv
  clear hT
  obtain ⟨A, c, rfl, h1, h2, h3⟩ := hv
  clear h3
  unfold setV
  go_enter Tryd.func6, Tryd.ntmps6
  have hB := Blk.new w (setL m) 35
  have hw0 : Below w.heap.size w (w.alloc (.cells (setL m).toArray 35)) := (Below.refl _ w).alloc (Nat.le_refl _) _
  by_cases hlen : 20 < l.length
  · go_wp2_with fail
    refine (awake04_any _ (HT.out.below hw0)).mono ?_
    rintro e w1 ⟨rfl, hb⟩
    go_wp2
    go_returns
    exact ⟨rfl, hw0.trans (hb.mono hw0.size)⟩
  · have HV := Lib.hid (HV.out.rdS (by omega))
    go_wp2_with fail
    refine (new_any l _ _ (HV.out.below hw0)).mono ?_
    rintro e w1 ⟨x, g, rfl, hx, _, _, hb⟩
    have hw1 := hw0.trans (hb.mono hw0.size)
    have hB1 := hB.below hb hB.lt
    have HX := Lib.hid hx
    clear hB hw0 hb hx
    obtain ⟨c0, c1, c2, c3, _, _, _, _⟩ := hB1.four
    go_wp2_with fail
    refine (more_at l m _ HX.out).mono ?_
    rintro e w2 ⟨y, gy, rfl, hy, _, _, hb⟩
    have hw2 := hw1.trans (hb.mono hw1.size)
    have hB2 := hB1.below hb hB1.lt
    have HX2 := Lib.hid (HX.out.below hb)
    have HY := Lib.hid hy
    clear hB1 hw1 hb hy HX c0 c1 c2 c3
    obtain ⟨c0, c1, c2, c3, _, _, _, _⟩ := hB2.four
    go_wp2_with fail
    refine (in_at m _ HX2.out (by have := cntL_le l; omega)).mono ?_
    rintro e w3 ⟨v7, rfl, hgot, hnone, hb⟩
    have hw3 := hw2.trans (hb.mono hw2.size)
    have hB3 := hB2.below hb hB2.lt
    have HX3 := Lib.hid (HX2.out.below hb)
    have HY3 := Lib.hid (HY.out.below hb)
    have HT3 := Lib.hid (HT.out.below hw3)
    have HGot := Lib.hid hgot
    have HNone := Lib.hid hnone
    have HQ := Lib.hid (numL_lt l)
    have HQy := Lib.hid (numL_lt (l ++ [m]))
    have HOy := Lib.hid (snoc_ok l m)
    have HE := Lib.hid (cnt_snoc_eq l m)
    have HL := Lib.hid (cnt_snoc_lt l m)
    have hn := cntL_le l
    have hny := cntL_le (l ++ [m])
    clear hB2 hw2 hb hgot hnone HX2 HY HT HV c0 c1 c2 c3
    generalize numL (l ++ [m]) = qy at *
    generalize cntL (l ++ [m]) = ny at *
    generalize numL l = q at *
    generalize cntL l = n at *
    go_wp2
    go_loopw [9, 10, 11] (fun all want i wr => ∃ k : Nat, k ≤ n ∧ i = .int .i64 ((k : Nat) : Int) ∧ all = .bool (inOk q m k) ∧ wr.ownsRow w3.heap.size 3 1 want (inL q m k).length ((inL q m k).map (.int .i64)) ∧ Below w3.heap.size w3 wr) (fun _ _ i _ => n - (intOf i).toNat)
    case atStart => exact ⟨0, Nat.zero_le _, rfl, rfl, World.ownsRow_nil _ _ _ _, Below.refl _ _⟩
    case round =>
      obtain ⟨k, hk, rfl, rfl, hown, hbw⟩ := hrel
      have hsz := hbw.size
      have HX := Lib.hid (HX3.out.below hbw)
      by_cases hlt : k < n
      · have Hown := Lib.hid hown
        have hB := hB3.below hbw hB3.lt
        have hln := inL_length q m k
        obtain ⟨A6, n6, rfl⟩ := own_shape hown
        clear hown
        generalize hc6 : (inL q m k).length = c6 at *
        have HC := Lib.hid hc6
        clear hc6
        have HLs := Lib.hid (inL_succ q m k)
        have HSs := Lib.hid (inOk_succ q m k)
        generalize hok : inOk q m k = ok at *
        have HO := Lib.hid hok
        clear hok
        have h1 : hitB q m k = eqB (fun x => clsZ q ((k : Nat) : Int) x && m x) (clsZ q ((k : Nat) : Int)) := rfl
        have h2 : missB q m k = eqB (fun x => clsZ q ((k : Nat) : Int) x && m x) (fun _ => false) := rfl
        rw [h1] at HLs
        rw [h1, h2] at HSs
        clear h1 h2
        go_wp2_with fail
        refine (count_at _ HX.out).mono ?_
        rintro e w4 ⟨rfl, hb4⟩
        have hbw4 := hbw.trans (hb4.mono hsz)
        have Hown4 := Lib.hid (own_below Hown.out hb4)
        have hB4 := hB.below hb4 hB.lt
        have HX4 := Lib.hid (HX.out.below hb4)
        clear hB hbw hb4 HX Hown
        go_wp2_with fail
        refine region_named (ops' := ila_ops) (by kernel_rfl) (ila_S q m x g n k HQ.out) 91 rfl (by kernel_rfl) (by kernel_rfl) (ila_all q m x g n k HQ.out w.heap.size _ _ _ rfl rfl (HX4.out.below (Below.refl _ _).drew) rfl hB4.drew) ?_
        rename_i hK
        intro a w5 N H hF
        obtain ⟨bm, q12, hM⟩ : ∃ b, a.tmps.getD 12 undef = .pointer (some ⟨b, 0, none⟩) ∧ Blk w5 b 35 (setL (fun x => (clsZ q ((k : Nat) : Int)) x && m x)) := fact_put (hF 6 (by kernel_rfl)) rfl rfl (by kernel_rfl)
        have hb5 := (Below.refl w4.heap.size w4).drew.trans H.below
        have hbw5 := hbw4.trans (hb5.mono hbw4.size)
        have Hown5 := Lib.hid (own_below Hown4.out hb5)
        have HX5 := Lib.hid (HX4.out.below hb5)
        refine hK _ _ ?_
        rw [held_frame H [12, 36, 37, 38, 39, 40] (by kernel_rfl)]
        simp only [putAll, List.map_cons, List.map_nil, List.foldl_cons, List.foldl_nil, List.setIfInBounds_toArray, List.set_cons_zero, List.set_cons_succ, q12]
        generalize a.tmps.getD 36 undef = z36
        generalize a.tmps.getD 37 undef = z37
        generalize a.tmps.getD 38 undef = z38
        generalize a.tmps.getD 39 undef = z39
        generalize a.tmps.getD 40 undef = z40
        clear hF H q12 hK Hown4 HX4 hB4 hb5 hbw4
        clear a N
        go_wp2_with fail
        refine region_named (ops' := ilb_ops) (by kernel_rfl) (ilb_S q m x g n k HQ.out) 91 rfl (by kernel_rfl) (by kernel_rfl) (ilb_all q m x g n k HQ.out bm _ _ _ rfl rfl (HX5.out.below (Below.refl _ _).drew) rfl hM.drew) ?_
        rename_i hK
        intro a w6 N H hF
        have q45 : a.tmps.getD 45 undef = .bool (eqB (fun x => clsZ q ((k : Nat) : Int) x && m x) (clsZ q ((k : Nat) : Int))) := fact_eq (hF 4 (by kernel_rfl)) rfl (by kernel_rfl)
        have hb6 := (Below.refl w5.heap.size w5).drew.trans H.below
        have hbw6 := hbw5.trans (hb6.mono hbw5.size)
        have Hown6 := Lib.hid (own_below Hown5.out hb6)
        have hM6 := hM.below hb6 hM.lt
        refine hK _ _ ?_
        rw [held_frame H [41, 42, 43, 44, 45] (by kernel_rfl)]
        simp only [putAll, List.map_cons, List.map_nil, List.foldl_cons, List.foldl_nil, List.setIfInBounds_toArray, List.set_cons_zero, List.set_cons_succ, q45]
        generalize a.tmps.getD 41 undef = z41
        generalize a.tmps.getD 42 undef = z42
        generalize a.tmps.getD 43 undef = z43
        generalize a.tmps.getD 44 undef = z44
        clear hF H q45 hK Hown5 HX5 hM hb6 hbw5
        clear a N
        have hsz6 := hbw6.size
        obtain ⟨c0, c1, c2, c3, _, _, _, _⟩ := hM6.four
        generalize clsZ q ((k : Nat) : Int) = mk at *
        cases hc1 : eqB (fun x => mk x && m x) mk with
        | true =>
          have H1 := Lib.hid hc1
          have hown6 := Hown6.out
          clear hc1
          go_wp2_with (at_builtin; refine append_one rfl (.tmp 46) (.tmp 48) 26 rfl w3.heap.size 3 1 8 elem_int _ _ _ rfl hown6 [.int .i64 ((k : Nat) : Int)] rfl rfl (one_int _ _) ?h1 ?h2 ?h3 ?h4; (case h1 => omega); (case h2 => omega); (case h3 => omega); intro v2 w7 hown7 hb7)
          go_roundw
          case rel =>
            refine ⟨k + 1, by omega, by go_num, ?_, ?_, hbw6.trans hb7⟩
            · rw [HSs.out, H1.out]
              simp
            · rw [HLs.out, H1.out, if_pos rfl, List.length_append, List.map_append, HC.out]
              exact hown7
          case measure => simp [intOf]; omega
        | false =>
          have H1 := Lib.hid hc1
          clear hc1
          cases hc2 : eqB (fun x => mk x && m x) (fun _ => false) with
          | true =>
            have H2 := Lib.hid hc2
            go_wp2
            go_roundw
            case rel =>
              refine ⟨k + 1, by omega, by go_num, ?_, ?_, hbw6⟩
              · rw [HSs.out, H1.out, H2.out]
                simp
              · rw [HLs.out, H1.out, if_neg (by simp), HC.out]
                exact Hown6.out
            case measure => simp [intOf]; omega
          | false =>
            have H2 := Lib.hid hc2
            go_wp2
            go_roundw
            case rel =>
              refine ⟨k + 1, by omega, by go_num, ?_, ?_, hbw6⟩
              · rw [HSs.out, H1.out, H2.out]
                simp
              · rw [HLs.out, H1.out, if_neg (by simp), HC.out]
                exact Hown6.out
            case measure => simp [intOf]; omega
      · obtain rfl : k = n := by omega
        have hB := hB3.below hbw hB3.lt
        have HYr := Lib.hid (HY3.out.below hbw)
        have HTr := Lib.hid (HT3.out.below hbw)
        have Hown := Lib.hid hown
        clear hown
        go_wp2_with fail
        refine (count_at _ HX.out).mono ?_
        rintro e w4 ⟨rfl, hb4⟩
        have hb34 := hbw.trans (hb4.mono hsz)
        have hB4 := hB.below hb4 hB.lt
        have HX4 := Lib.hid (HX.out.below hb4)
        have HY4 := Lib.hid (HYr.out.below hb4)
        have HT4 := Lib.hid (HTr.out.below hb4)
        have Hown4 := Lib.hid (own_below Hown.out hb4)
        clear hB hb4 HX HYr HTr Hown
        obtain ⟨c0, c1, c2, c3, _, _, _, _⟩ := hB4.four
        have hw4 := hw3.trans (hb34.mono hw3.size)
        cases hok : inOk q m k with
        | true =>
          have hny2 : ny = k := HE.out hok
          have hr := (own_rd (HGot.out hok) (by have := inL_length q m k; omega)).below hb34
          have hr2 := own_rd Hown4.out (by have := inL_length q m k; omega)
          have HR := Lib.hid hr
          have HR2 := Lib.hid hr2
          clear hr hr2 HE HL HGot HNone
          subst hny2
          go_wp2_with fail
          refine (in_at m _ HY4.out (by omega)).mono ?_
          rintro e w5 ⟨v5, rfl, _, _, hb5⟩
          rw [HOy.out]
          have hb45 := hb5
          have hw5 := hw4.trans (hb5.mono hw4.size)
          clear hb5 c0 c1 c2 c3
          go_wp2_with fail
          refine (same_any _ _ _ _ _ (HR.out.below hb45) (HR2.out.below hb45)).mono ?_
          rintro e w6 ⟨rfl, hb6⟩
          rw [decide_eq_true rfl]
          have hb46 := hb45.trans (hb6.mono hb45.size)
          clear hb6 hb45
          go_wp2_with fail
          refine (count_at _ (HY4.out.below hb46)).mono ?_
          rintro e w7 ⟨rfl, hb7⟩
          have hb47 := hb46.trans (hb7.mono hb46.size)
          go_wp2_with fail
          refine (count_at _ (HX4.out.below hb47)).mono ?_
          rintro e w8 ⟨rfl, hb8⟩
          have hb48 := hb47.trans (hb8.mono hb47.size)
          go_wp2_with fail
          refine (count_at _ (HY4.out.below hb48)).mono ?_
          rintro e w9 ⟨rfl, hb9⟩
          have hb49 := hb48.trans (hb9.mono hb48.size)
          go_wp2_with fail
          refine (count_at _ (HX4.out.below hb49)).mono ?_
          rintro e w10 ⟨rfl, hb10⟩
          have hb50 := hb49.trans (hb10.mono hb49.size)
          go_wp2_with fail
          refine (awake04_any _ (HT4.out.below hb50)).mono ?_
          rintro e w11 ⟨rfl, hb11⟩
          have hw10 := hw4.trans (hb50.mono hw4.size)
          go_wp2
          go_returns
          exact ⟨rfl, hw10.trans (hb11.mono hw10.size)⟩
        | false =>
          have hny2 : k < ny := HL.out hok
          have hv7 := HNone.out hok
          subst hv7
          have HR := Lib.hid (show ∀ w : World, Rd w .i64 (.slice none 0 0) [] from fun w => ⟨none, 0, rfl, Nat.le_refl _, by simp, fun i x hi => by simp at hi⟩)
          clear HE HL HGot HNone
          go_wp2_with fail
          refine (in_at m _ HY4.out (by omega)).mono ?_
          rintro e w5 ⟨v5, rfl, _, _, hb5⟩
          rw [HOy.out]
          have hb45 := hb5
          clear hb5 c0 c1 c2 c3
          go_wp2_with fail
          refine (same_any [] [] _ _ _ (HR.out _) (HR.out _)).mono ?_
          rintro e w6 ⟨rfl, hb6⟩
          rw [decide_eq_true rfl]
          have hb46 := hb45.trans (hb6.mono hb45.size)
          clear hb6 hb45
          go_wp2_with fail
          refine (count_at _ (HY4.out.below hb46)).mono ?_
          rintro e w7 ⟨rfl, hb7⟩
          have hb47 := hb46.trans (hb7.mono hb46.size)
          go_wp2_with fail
          refine (count_at _ (HX4.out.below hb47)).mono ?_
          rintro e w8 ⟨rfl, hb8⟩
          have hb48 := hb47.trans (hb8.mono hb47.size)
          go_wp2_with fail
          refine (count_at _ (HY4.out.below hb48)).mono ?_
          rintro e w9 ⟨rfl, hb9⟩
          have hb49 := hb48.trans (hb9.mono hb48.size)
          go_wp2_with fail
          refine (count_at _ (HX4.out.below hb49)).mono ?_
          rintro e w10 ⟨rfl, hb10⟩
          have hb50 := hb49.trans (hb10.mono hb49.size)
          go_wp2_with fail
          refine (awake04_any _ (HT4.out.below hb50)).mono ?_
          rintro e w11 ⟨rfl, hb11⟩
          have hw10 := hw4.trans (hb50.mono hw4.size)
          go_wp2
          go_returns
          exact ⟨congrArg (fun t => Ending.returned (.bool (!t))) (show (((ny : Nat) : Int) == ((k : Nat) : Int)) = false by rw [beq_eq_false_iff_ne]; omega), hw10.trans (hb11.mono hw10.size)⟩
end Go.Proofs.YtanimknpnniabaaDoor
