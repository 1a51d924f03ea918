/- BytesMakes: its last region, its loops, and the whole. -/
import Derived.Test.YtanimknpnniabaaDoorOps2
import Derived.Test.YtanimknpnniabaaDoorOps4
import Derived.Test.YtanimknpnniabaaDoorFirst
import Derived.Test.YtanimknpnniabaaDoorAwake01
namespace Go.Proofs.YtanimknpnniabaaDoor
open Go.RowKit
attribute [local go_sem] eq_words eqB_words eqB_zero
theorem falses_upL (f : Nat → Bool) (hf : ∀ x, x < 256 → f x = false) : List.replicate 256 (Value.bool false) = upL f 256 := by
  unfold upL
  rw [List.map_congr_left (g := fun _ => Value.bool false) (by intro x hx; rw [hf x (List.mem_range.1 hx)])]
  exact (List.map_const'.trans (by rw [List.length_range])).symm
theorem setCell_size (w : World) (p : Addr) (u : Value) : (w.setCell p u).heap.size = w.heap.size := by simp [World.setCell]
theorem mkUp (f : Nat → Bool) : eqB f (makeM (((List.range 256).map f).take 256)) = true := eqB_true fun x h => (make_up f x h).symm
theorem firstM_lt (m : Nat → Bool) : (firstM m).getD 0 < 256 := by
  cases h : firstM m with
  | none => simp
  | some b =>
    unfold firstM at h
    have := List.mem_of_find?_eq_some h
    simpa using this
theorem first_ok (m : Nat → Bool) : ((firstM m).isSome == decide (0 ≤ firstZ m)) = true := by
  unfold firstZ
  cases firstM m <;> simp
theorem first_max (m : Nat → Bool) : ((((firstM m).getD 0 : Nat) : Int) == max (firstZ m) 0) = true := by
  unfold firstZ
  cases firstM m <;> simp
  omega
theorem upL_set (f : Nat → Bool) (n j : Nat) (u : Bool) (hu : f j = true → u = true) : (upL f n).set j (.bool u) = upL (fun x => f x || (x == j && u)) n := by
  unfold upL
  apply List.ext_getElem
  · simp
  · intro x h1 h2
    simp only [List.getElem_set, List.getElem_map, List.getElem_range]
    by_cases e : j = x
    · subst e
      cases h : f j with
      | true => rw [hu h]; simp
      | false => simp
    · have : (x == j) = false := by simp; omega
      simp [e, this]
noncomputable def mk_ops : Array Oper := regOf Tryd.f4 18
def mk_S (m : Nat → Bool) (lo hi : Int) (_hlo : 0 ≤ lo ∧ lo < 256) (_hhi : 0 ≤ hi ∧ hi < 256) (g7 g8 : Nat) (A10 : Option Addr) (c10 : Nat) : List RK := [RK.eq (setV m), RK.eq (.slice (some ⟨g7, 0, none⟩) 256 256), RK.eq (setV (makeM (((List.range 256).map (m)).take 256))), RK.eq (.bool true), RK.eq (.bool true), RK.eq (.int .u8 lo), RK.eq (.int .u8 hi), RK.eq (setV (rangeM lo hi)), RK.eq (.slice (some ⟨g8, 0, none⟩) 256 256), RK.eq (setV (makeM (((List.range 256).map (rangeM lo hi)).take 256))), RK.eq (.bool true), RK.eq (.bool true), RK.eq (.bool true), RK.eq (setV m), RK.val (RG.rd .u8 (listM m 256)), RK.eq (.slice A10 (listM m 256).length c10), RK.eq (.bool true), RK.eq (.bool true), RK.eq (.bool true), RK.eq (setV m), RK.eq (.int .i64 ((cnt (m) 256 : Nat) : Int)), RK.eq (.slice A10 (listM m 256).length c10), RK.eq (.int .i64 (((listM m 256).length : Nat) : Int)), RK.eq (.bool true), RK.eq (.bool true), RK.eq (.bool true), RK.eq (.bool (firstM m).isSome), RK.eq (.int .i64 (firstZ m)), RK.eq (.bool (decide (0 ≤ (firstZ m)))), RK.eq (.bool true), RK.eq (.bool true), RK.eq (.bool true), RK.eq (.int .u8 (((firstM m).getD 0 : Nat) : Int)), RK.eq (.int .i64 (((firstM m).getD 0 : Nat) : Int)), RK.eq (.int .i64 (firstZ m)), RK.eq (.int .i64 (max (firstZ m) 0)), RK.eq (.bool true), RK.eq (.bool true), RK.eq (.bool true), RK.eq (.bool true), RK.eq (.bool true), RK.eq (.bool true)]
theorem mk_o0 (m : Nat → Bool) (lo hi : Int) (_hlo : 0 ≤ lo ∧ lo < 256) (_hhi : 0 ≤ hi ∧ hi < 256) (g7 g8 : Nat) (A10 : Option Addr) (c10 : Nat) (b : Nat) (Q : Exit → Act → World → Prop) (a0 : Act) (w0 : World) (hs12 : a0.tmps.getD 12 undef = .pointer (some ⟨b, 0, none⟩)) (hB12 : Blk w0 b 35 (setL m)) : Obl Tryd.prog mk_ops (mk_S m lo hi _hlo _hhi g7 g8 A10 c10) Q a0 w0 0 :=
  obl_load_old 12 (b) rfl none (by kernel_rfl) (by kernel_rfl) hs12 hB12 (fun a w N H D => (fun _ _ hg => by cases hg))
theorem mk_o1 (m : Nat → Bool) (lo hi : Int) (_hlo : 0 ≤ lo ∧ lo < 256) (_hhi : 0 ≤ hi ∧ hi < 256) (g7 g8 : Nat) (A10 : Option Addr) (c10 : Nat) (Q : Exit → Act → World → Prop) (a0 : Act) (w0 : World) (hs7 : a0.tmps.getD 7 undef = .slice (some ⟨g7, 0, none⟩) 256 256) : Obl Tryd.prog mk_ops (mk_S m lo hi _hlo _hhi g7 g8 A10 c10) Q a0 w0 1 :=
  obl_val (.move (.tmp 7)) none rfl (by kernel_rfl) fun a w N H D => ⟨(fun _ _ hg => by cases hg), fun _ ho => wp_move (.inl ho) (held_base H 7 (by kernel_rfl) hs7)⟩
theorem mk_o2 (m : Nat → Bool) (lo hi : Int) (_hlo : 0 ≤ lo ∧ lo < 256) (_hhi : 0 ≤ hi ∧ hi < 256) (g7 g8 : Nat) (A10 : Option Addr) (c10 : Nat) (Q : Exit → Act → World → Prop) (a0 : Act) (w0 : World) (hr7 : RdV w0 (.slice (some ⟨g7, 0, none⟩) 256 256) (((List.range 256).map (m)).map .bool)) : Obl Tryd.prog mk_ops (mk_S m lo hi _hlo _hhi g7 g8 A10 c10) Q a0 w0 2 :=
  obl_val (.call { callee := .value (.func 16), args := #[.tmp 70], argTypes := #[32] }) none rfl (by kernel_rfl) fun a w N H D => ⟨(fun _ _ hg => by cases hg), fun _ ho => wp_make ((List.range 256).map (m)) ho (fact_eq (c := .slice (some ⟨g7, 0, none⟩) 256 256) (D 1 (by kernel_rfl)) rfl (by kernel_rfl)) (hr7.below H.below)⟩
theorem mk_o3 (m : Nat → Bool) (lo hi : Int) (_hlo : 0 ≤ lo ∧ lo < 256) (_hhi : 0 ≤ hi ∧ hi < 256) (g7 g8 : Nat) (A10 : Option Addr) (c10 : Nat) (Q : Exit → Act → World → Prop) (a0 : Act) (w0 : World)  : Obl Tryd.prog mk_ops (mk_S m lo hi _hlo _hhi g7 g8 A10 c10) Q a0 w0 3 :=
  obl_val (.binOp .eql 35 (.tmp 69) (.tmp 71) 35) none rfl (by kernel_rfl) fun a w N H D => ⟨(fun _ _ hg => by cases hg), fun _ ho => wp_of_eq (wp_eq_set (m := m) (m' := (makeM (((List.range 256).map (m)).take 256))) ho (fact_eq (c := setV m) (D 0 (by kernel_rfl)) rfl (by kernel_rfl)) (fact_eq (c := setV (makeM (((List.range 256).map (m)).take 256))) (D 2 (by kernel_rfl)) rfl (by kernel_rfl))) (.bool true) (by rw [mkUp])⟩
theorem mk_o4 (m : Nat → Bool) (lo hi : Int) (_hlo : 0 ≤ lo ∧ lo < 256) (_hhi : 0 ≤ hi ∧ hi < 256) (g7 g8 : Nat) (A10 : Option Addr) (c10 : Nat) (Q : Exit → Act → World → Prop) (a0 : Act) (w0 : World)  : Obl Tryd.prog mk_ops (mk_S m lo hi _hlo _hhi g7 g8 A10 c10) Q a0 w0 4 :=
  obl_val (.move (.tmp 72)) none rfl (by kernel_rfl) fun a w N H D => ⟨(fun _ _ hg => by cases hg), fun _ ho => wp_move (.inl ho) (fact_eq (c := .bool true) (D 3 (by kernel_rfl)) rfl (by kernel_rfl))⟩
theorem mk_o5 (m : Nat → Bool) (lo hi : Int) (_hlo : 0 ≤ lo ∧ lo < 256) (_hhi : 0 ≤ hi ∧ hi < 256) (g7 g8 : Nat) (A10 : Option Addr) (c10 : Nat) (Q : Exit → Act → World → Prop) (a0 : Act) (w0 : World) (hs1 : a0.tmps.getD 1 undef = .int .u8 lo) : Obl Tryd.prog mk_ops (mk_S m lo hi _hlo _hhi g7 g8 A10 c10) Q a0 w0 5 :=
  obl_val (.move (.tmp 1)) (some (4, true)) rfl (by kernel_rfl) fun a w N H D => ⟨(fun _ _ hg => by cases hg; exact ⟨73, by kernel_rfl, fact_eq (D 4 (by kernel_rfl)) rfl (by kernel_rfl)⟩), fun _ ho => wp_move (.inl ho) (held_base H 1 (by kernel_rfl) hs1)⟩
theorem mk_o6 (m : Nat → Bool) (lo hi : Int) (_hlo : 0 ≤ lo ∧ lo < 256) (_hhi : 0 ≤ hi ∧ hi < 256) (g7 g8 : Nat) (A10 : Option Addr) (c10 : Nat) (Q : Exit → Act → World → Prop) (a0 : Act) (w0 : World) (hs2 : a0.tmps.getD 2 undef = .int .u8 hi) : Obl Tryd.prog mk_ops (mk_S m lo hi _hlo _hhi g7 g8 A10 c10) Q a0 w0 6 :=
  obl_val (.move (.tmp 2)) (some (4, true)) rfl (by kernel_rfl) fun a w N H D => ⟨(fun _ _ hg => by cases hg; exact ⟨73, by kernel_rfl, fact_eq (D 4 (by kernel_rfl)) rfl (by kernel_rfl)⟩), fun _ ho => wp_move (.inl ho) (held_base H 2 (by kernel_rfl) hs2)⟩
theorem mk_o7 (m : Nat → Bool) (lo hi : Int) (_hlo : 0 ≤ lo ∧ lo < 256) (_hhi : 0 ≤ hi ∧ hi < 256) (g7 g8 : Nat) (A10 : Option Addr) (c10 : Nat) (Q : Exit → Act → World → Prop) (a0 : Act) (w0 : World)  : Obl Tryd.prog mk_ops (mk_S m lo hi _hlo _hhi g7 g8 A10 c10) Q a0 w0 7 :=
  obl_val (.call { callee := .value (.func 21), args := #[.tmp 74, .tmp 75], argTypes := #[5, 5] }) (some (4, true)) rfl (by kernel_rfl) fun a w N H D => ⟨(fun _ _ hg => by cases hg; exact ⟨73, by kernel_rfl, fact_eq (D 4 (by kernel_rfl)) rfl (by kernel_rfl)⟩), fun _ ho => wp_call_eq ho (fun xs w => by kernel_rfl) (by simp only [List.map_toArray, List.map_cons, List.map_nil]; rw [(fact_eq (c := .int .u8 lo) (D 5 (by kernel_rfl)) rfl (by kernel_rfl)), (fact_eq (c := .int .u8 hi) (D 6 (by kernel_rfl)) rfl (by kernel_rfl))]) (range_any lo hi _hlo _hhi _)⟩
theorem mk_o8 (m : Nat → Bool) (lo hi : Int) (_hlo : 0 ≤ lo ∧ lo < 256) (_hhi : 0 ≤ hi ∧ hi < 256) (g7 g8 : Nat) (A10 : Option Addr) (c10 : Nat) (Q : Exit → Act → World → Prop) (a0 : Act) (w0 : World) (hs8 : a0.tmps.getD 8 undef = .slice (some ⟨g8, 0, none⟩) 256 256) : Obl Tryd.prog mk_ops (mk_S m lo hi _hlo _hhi g7 g8 A10 c10) Q a0 w0 8 :=
  obl_val (.move (.tmp 8)) (some (4, true)) rfl (by kernel_rfl) fun a w N H D => ⟨(fun _ _ hg => by cases hg; exact ⟨73, by kernel_rfl, fact_eq (D 4 (by kernel_rfl)) rfl (by kernel_rfl)⟩), fun _ ho => wp_move (.inl ho) (held_base H 8 (by kernel_rfl) hs8)⟩
theorem mk_o9 (m : Nat → Bool) (lo hi : Int) (_hlo : 0 ≤ lo ∧ lo < 256) (_hhi : 0 ≤ hi ∧ hi < 256) (g7 g8 : Nat) (A10 : Option Addr) (c10 : Nat) (Q : Exit → Act → World → Prop) (a0 : Act) (w0 : World) (hr8 : RdV w0 (.slice (some ⟨g8, 0, none⟩) 256 256) (((List.range 256).map (rangeM lo hi)).map .bool)) : Obl Tryd.prog mk_ops (mk_S m lo hi _hlo _hhi g7 g8 A10 c10) Q a0 w0 9 :=
  obl_val (.call { callee := .value (.func 16), args := #[.tmp 77], argTypes := #[32] }) (some (4, true)) rfl (by kernel_rfl) fun a w N H D => ⟨(fun _ _ hg => by cases hg; exact ⟨73, by kernel_rfl, fact_eq (D 4 (by kernel_rfl)) rfl (by kernel_rfl)⟩), fun _ ho => wp_make ((List.range 256).map (rangeM lo hi)) ho (fact_eq (c := .slice (some ⟨g8, 0, none⟩) 256 256) (D 8 (by kernel_rfl)) rfl (by kernel_rfl)) (hr8.below H.below)⟩
theorem mk_o10 (m : Nat → Bool) (lo hi : Int) (_hlo : 0 ≤ lo ∧ lo < 256) (_hhi : 0 ≤ hi ∧ hi < 256) (g7 g8 : Nat) (A10 : Option Addr) (c10 : Nat) (Q : Exit → Act → World → Prop) (a0 : Act) (w0 : World)  : Obl Tryd.prog mk_ops (mk_S m lo hi _hlo _hhi g7 g8 A10 c10) Q a0 w0 10 :=
  obl_val (.binOp .eql 35 (.tmp 76) (.tmp 78) 35) (some (4, true)) rfl (by kernel_rfl) fun a w N H D => ⟨(fun _ _ hg => by cases hg; exact ⟨73, by kernel_rfl, fact_eq (D 4 (by kernel_rfl)) rfl (by kernel_rfl)⟩), fun _ ho => wp_of_eq (wp_eq_set (m := (rangeM lo hi)) (m' := (makeM (((List.range 256).map (rangeM lo hi)).take 256))) ho (fact_eq (c := setV (rangeM lo hi)) (D 7 (by kernel_rfl)) rfl (by kernel_rfl)) (fact_eq (c := setV (makeM (((List.range 256).map (rangeM lo hi)).take 256))) (D 9 (by kernel_rfl)) rfl (by kernel_rfl))) (.bool true) (by rw [mkUp])⟩
theorem mk_o11 (m : Nat → Bool) (lo hi : Int) (_hlo : 0 ≤ lo ∧ lo < 256) (_hhi : 0 ≤ hi ∧ hi < 256) (g7 g8 : Nat) (A10 : Option Addr) (c10 : Nat) (Q : Exit → Act → World → Prop) (a0 : Act) (w0 : World)  : Obl Tryd.prog mk_ops (mk_S m lo hi _hlo _hhi g7 g8 A10 c10) Q a0 w0 11 :=
  obl_val (.pick (.tmp 73) (.tmp 79) (.const (.bool false))) none rfl (by kernel_rfl) fun a w N H D => ⟨(fun _ _ hg => by cases hg), fun _ ho => wp_pick (b := true) ho (fact_eq (c := .bool true) (D 4 (by kernel_rfl)) rfl (by kernel_rfl)) (fact_eq (c := .bool true) (D 10 (by kernel_rfl)) rfl (by kernel_rfl))⟩
theorem mk_o12 (m : Nat → Bool) (lo hi : Int) (_hlo : 0 ≤ lo ∧ lo < 256) (_hhi : 0 ≤ hi ∧ hi < 256) (g7 g8 : Nat) (A10 : Option Addr) (c10 : Nat) (Q : Exit → Act → World → Prop) (a0 : Act) (w0 : World)  : Obl Tryd.prog mk_ops (mk_S m lo hi _hlo _hhi g7 g8 A10 c10) Q a0 w0 12 :=
  obl_val (.move (.tmp 80)) none rfl (by kernel_rfl) fun a w N H D => ⟨(fun _ _ hg => by cases hg), fun _ ho => wp_move (.inl ho) (fact_eq (c := .bool true) (D 11 (by kernel_rfl)) rfl (by kernel_rfl))⟩
theorem mk_o13 (m : Nat → Bool) (lo hi : Int) (_hlo : 0 ≤ lo ∧ lo < 256) (_hhi : 0 ≤ hi ∧ hi < 256) (g7 g8 : Nat) (A10 : Option Addr) (c10 : Nat) (b : Nat) (Q : Exit → Act → World → Prop) (a0 : Act) (w0 : World) (hs12 : a0.tmps.getD 12 undef = .pointer (some ⟨b, 0, none⟩)) (hB12 : Blk w0 b 35 (setL m)) : Obl Tryd.prog mk_ops (mk_S m lo hi _hlo _hhi g7 g8 A10 c10) Q a0 w0 13 :=
  obl_load_old 12 (b) rfl (some (12, true)) (by kernel_rfl) (by kernel_rfl) hs12 hB12 (fun a w N H D => (fun _ _ hg => by cases hg; exact ⟨81, by kernel_rfl, fact_eq (D 12 (by kernel_rfl)) rfl (by kernel_rfl)⟩))
theorem mk_o14 (m : Nat → Bool) (lo hi : Int) (_hlo : 0 ≤ lo ∧ lo < 256) (_hhi : 0 ≤ hi ∧ hi < 256) (g7 g8 : Nat) (A10 : Option Addr) (c10 : Nat) (Q : Exit → Act → World → Prop) (a0 : Act) (w0 : World)  : Obl Tryd.prog mk_ops (mk_S m lo hi _hlo _hhi g7 g8 A10 c10) Q a0 w0 14 :=
  obl_val (.call { callee := .value (.func 23), args := #[.tmp 82], argTypes := #[35] }) (some (12, true)) rfl (by kernel_rfl) fun a w N H D => ⟨(fun _ _ hg => by cases hg; exact ⟨81, by kernel_rfl, fact_eq (D 12 (by kernel_rfl)) rfl (by kernel_rfl)⟩), fun _ ho => wp_list ho (fact_eq (c := setV m) (D 13 (by kernel_rfl)) rfl (by kernel_rfl))⟩
theorem mk_o15 (m : Nat → Bool) (lo hi : Int) (_hlo : 0 ≤ lo ∧ lo < 256) (_hhi : 0 ≤ hi ∧ hi < 256) (g7 g8 : Nat) (A10 : Option Addr) (c10 : Nat) (Q : Exit → Act → World → Prop) (a0 : Act) (w0 : World) (hs10 : a0.tmps.getD 10 undef = .slice A10 (listM m 256).length c10) : Obl Tryd.prog mk_ops (mk_S m lo hi _hlo _hhi g7 g8 A10 c10) Q a0 w0 15 :=
  obl_val (.move (.tmp 10)) (some (12, true)) rfl (by kernel_rfl) fun a w N H D => ⟨(fun _ _ hg => by cases hg; exact ⟨81, by kernel_rfl, fact_eq (D 12 (by kernel_rfl)) rfl (by kernel_rfl)⟩), fun _ ho => wp_move (.inl ho) (held_base H 10 (by kernel_rfl) hs10)⟩
theorem mk_o16 (m : Nat → Bool) (lo hi : Int) (_hlo : 0 ≤ lo ∧ lo < 256) (_hhi : 0 ≤ hi ∧ hi < 256) (g7 g8 : Nat) (A10 : Option Addr) (c10 : Nat) (Q : Exit → Act → World → Prop) (a0 : Act) (w0 : World) (hr10 : Rd w0 .u8 (.slice A10 (listM m 256).length c10) (listM m 256)) : Obl Tryd.prog mk_ops (mk_S m lo hi _hlo _hhi g7 g8 A10 c10) Q a0 w0 16 :=
  obl_val (.call { callee := .value (.func 22), args := #[.tmp 83, .tmp 84], argTypes := #[39, 39] }) (some (12, true)) rfl (by kernel_rfl) fun a w N H D => ⟨(fun _ _ hg => by cases hg; exact ⟨81, by kernel_rfl, fact_eq (D 12 (by kernel_rfl)) rfl (by kernel_rfl)⟩), fun _ ho => wp_refbytes (listM m 256) ho (fact_val (D 14 (by kernel_rfl)) rfl (by kernel_rfl)) (fact_eq (c := .slice A10 (listM m 256).length c10) (D 15 (by kernel_rfl)) rfl (by kernel_rfl)) (hr10.below H.below)⟩
theorem mk_o17 (m : Nat → Bool) (lo hi : Int) (_hlo : 0 ≤ lo ∧ lo < 256) (_hhi : 0 ≤ hi ∧ hi < 256) (g7 g8 : Nat) (A10 : Option Addr) (c10 : Nat) (Q : Exit → Act → World → Prop) (a0 : Act) (w0 : World)  : Obl Tryd.prog mk_ops (mk_S m lo hi _hlo _hhi g7 g8 A10 c10) Q a0 w0 17 :=
  obl_val (.pick (.tmp 81) (.tmp 85) (.const (.bool false))) none rfl (by kernel_rfl) fun a w N H D => ⟨(fun _ _ hg => by cases hg), fun _ ho => wp_pick (b := true) ho (fact_eq (c := .bool true) (D 12 (by kernel_rfl)) rfl (by kernel_rfl)) (fact_eq (c := .bool true) (D 16 (by kernel_rfl)) rfl (by kernel_rfl))⟩
theorem mk_o18 (m : Nat → Bool) (lo hi : Int) (_hlo : 0 ≤ lo ∧ lo < 256) (_hhi : 0 ≤ hi ∧ hi < 256) (g7 g8 : Nat) (A10 : Option Addr) (c10 : Nat) (Q : Exit → Act → World → Prop) (a0 : Act) (w0 : World)  : Obl Tryd.prog mk_ops (mk_S m lo hi _hlo _hhi g7 g8 A10 c10) Q a0 w0 18 :=
  obl_val (.move (.tmp 86)) none rfl (by kernel_rfl) fun a w N H D => ⟨(fun _ _ hg => by cases hg), fun _ ho => wp_move (.inl ho) (fact_eq (c := .bool true) (D 17 (by kernel_rfl)) rfl (by kernel_rfl))⟩
theorem mk_o19 (m : Nat → Bool) (lo hi : Int) (_hlo : 0 ≤ lo ∧ lo < 256) (_hhi : 0 ≤ hi ∧ hi < 256) (g7 g8 : Nat) (A10 : Option Addr) (c10 : Nat) (b : Nat) (Q : Exit → Act → World → Prop) (a0 : Act) (w0 : World) (hs12 : a0.tmps.getD 12 undef = .pointer (some ⟨b, 0, none⟩)) (hB12 : Blk w0 b 35 (setL m)) : Obl Tryd.prog mk_ops (mk_S m lo hi _hlo _hhi g7 g8 A10 c10) Q a0 w0 19 :=
  obl_load_old 12 (b) rfl (some (18, true)) (by kernel_rfl) (by kernel_rfl) hs12 hB12 (fun a w N H D => (fun _ _ hg => by cases hg; exact ⟨87, by kernel_rfl, fact_eq (D 18 (by kernel_rfl)) rfl (by kernel_rfl)⟩))
theorem mk_o20 (m : Nat → Bool) (lo hi : Int) (_hlo : 0 ≤ lo ∧ lo < 256) (_hhi : 0 ≤ hi ∧ hi < 256) (g7 g8 : Nat) (A10 : Option Addr) (c10 : Nat) (Q : Exit → Act → World → Prop) (a0 : Act) (w0 : World)  : Obl Tryd.prog mk_ops (mk_S m lo hi _hlo _hhi g7 g8 A10 c10) Q a0 w0 20 :=
  obl_val (.call { callee := .value (.func 24), args := #[.tmp 88], argTypes := #[35] }) (some (18, true)) rfl (by kernel_rfl) fun a w N H D => ⟨(fun _ _ hg => by cases hg; exact ⟨87, by kernel_rfl, fact_eq (D 18 (by kernel_rfl)) rfl (by kernel_rfl)⟩), fun _ ho => wp_call_eq ho (fun xs w => by kernel_rfl) (by simp only [List.map_toArray, List.map_cons, List.map_nil]; rw [(fact_eq (c := setV m) (D 19 (by kernel_rfl)) rfl (by kernel_rfl))]) (count_any (m) _)⟩
theorem mk_o21 (m : Nat → Bool) (lo hi : Int) (_hlo : 0 ≤ lo ∧ lo < 256) (_hhi : 0 ≤ hi ∧ hi < 256) (g7 g8 : Nat) (A10 : Option Addr) (c10 : Nat) (Q : Exit → Act → World → Prop) (a0 : Act) (w0 : World) (hs10 : a0.tmps.getD 10 undef = .slice A10 (listM m 256).length c10) : Obl Tryd.prog mk_ops (mk_S m lo hi _hlo _hhi g7 g8 A10 c10) Q a0 w0 21 :=
  obl_val (.move (.tmp 10)) (some (18, true)) rfl (by kernel_rfl) fun a w N H D => ⟨(fun _ _ hg => by cases hg; exact ⟨87, by kernel_rfl, fact_eq (D 18 (by kernel_rfl)) rfl (by kernel_rfl)⟩), fun _ ho => wp_move (.inl ho) (held_base H 10 (by kernel_rfl) hs10)⟩
theorem mk_o22 (m : Nat → Bool) (lo hi : Int) (_hlo : 0 ≤ lo ∧ lo < 256) (_hhi : 0 ≤ hi ∧ hi < 256) (g7 g8 : Nat) (A10 : Option Addr) (c10 : Nat) (Q : Exit → Act → World → Prop) (a0 : Act) (w0 : World)  : Obl Tryd.prog mk_ops (mk_S m lo hi _hlo _hhi g7 g8 A10 c10) Q a0 w0 22 :=
  obl_val (.call { callee := .builtin .len, args := #[.tmp 90], argTypes := #[39] }) (some (18, true)) rfl (by kernel_rfl) fun a w N H D => ⟨(fun _ _ hg => by cases hg; exact ⟨87, by kernel_rfl, fact_eq (D 18 (by kernel_rfl)) rfl (by kernel_rfl)⟩), fun _ ho => wp_len ho (fact_eq (c := .slice A10 (listM m 256).length c10) (D 21 (by kernel_rfl)) rfl (by kernel_rfl))⟩
theorem mk_o23 (m : Nat → Bool) (lo hi : Int) (_hlo : 0 ≤ lo ∧ lo < 256) (_hhi : 0 ≤ hi ∧ hi < 256) (g7 g8 : Nat) (A10 : Option Addr) (c10 : Nat) (Q : Exit → Act → World → Prop) (a0 : Act) (w0 : World)  : Obl Tryd.prog mk_ops (mk_S m lo hi _hlo _hhi g7 g8 A10 c10) Q a0 w0 23 :=
  obl_val (.binOp .eql 3 (.tmp 89) (.tmp 91) 3) (some (18, true)) rfl (by kernel_rfl) fun a w N H D => ⟨(fun _ _ hg => by cases hg; exact ⟨87, by kernel_rfl, fact_eq (D 18 (by kernel_rfl)) rfl (by kernel_rfl)⟩), fun _ ho => wp_of_eq (wp_eqi ho (fact_eq (c := .int .i64 ((cnt (m) 256 : Nat) : Int)) (D 20 (by kernel_rfl)) rfl (by kernel_rfl)) (fact_eq (c := .int .i64 (((listM m 256).length : Nat) : Int)) (D 22 (by kernel_rfl)) rfl (by kernel_rfl))) (.bool true) (by rw [cnt_listM, beq_self_eq_true])⟩
theorem mk_o24 (m : Nat → Bool) (lo hi : Int) (_hlo : 0 ≤ lo ∧ lo < 256) (_hhi : 0 ≤ hi ∧ hi < 256) (g7 g8 : Nat) (A10 : Option Addr) (c10 : Nat) (Q : Exit → Act → World → Prop) (a0 : Act) (w0 : World)  : Obl Tryd.prog mk_ops (mk_S m lo hi _hlo _hhi g7 g8 A10 c10) Q a0 w0 24 :=
  obl_val (.pick (.tmp 87) (.tmp 92) (.const (.bool false))) none rfl (by kernel_rfl) fun a w N H D => ⟨(fun _ _ hg => by cases hg), fun _ ho => wp_pick (b := true) ho (fact_eq (c := .bool true) (D 18 (by kernel_rfl)) rfl (by kernel_rfl)) (fact_eq (c := .bool true) (D 23 (by kernel_rfl)) rfl (by kernel_rfl))⟩
theorem mk_o25 (m : Nat → Bool) (lo hi : Int) (_hlo : 0 ≤ lo ∧ lo < 256) (_hhi : 0 ≤ hi ∧ hi < 256) (g7 g8 : Nat) (A10 : Option Addr) (c10 : Nat) (Q : Exit → Act → World → Prop) (a0 : Act) (w0 : World)  : Obl Tryd.prog mk_ops (mk_S m lo hi _hlo _hhi g7 g8 A10 c10) Q a0 w0 25 :=
  obl_val (.move (.tmp 93)) none rfl (by kernel_rfl) fun a w N H D => ⟨(fun _ _ hg => by cases hg), fun _ ho => wp_move (.inl ho) (fact_eq (c := .bool true) (D 24 (by kernel_rfl)) rfl (by kernel_rfl))⟩
theorem mk_o26 (m : Nat → Bool) (lo hi : Int) (_hlo : 0 ≤ lo ∧ lo < 256) (_hhi : 0 ≤ hi ∧ hi < 256) (g7 g8 : Nat) (A10 : Option Addr) (c10 : Nat) (Q : Exit → Act → World → Prop) (a0 : Act) (w0 : World) (hs14 : a0.tmps.getD 14 undef = .bool (firstM m).isSome) : Obl Tryd.prog mk_ops (mk_S m lo hi _hlo _hhi g7 g8 A10 c10) Q a0 w0 26 :=
  obl_val (.move (.tmp 14)) (some (25, true)) rfl (by kernel_rfl) fun a w N H D => ⟨(fun _ _ hg => by cases hg; exact ⟨94, by kernel_rfl, fact_eq (D 25 (by kernel_rfl)) rfl (by kernel_rfl)⟩), fun _ ho => wp_move (.inl ho) (held_base H 14 (by kernel_rfl) hs14)⟩
theorem mk_o27 (m : Nat → Bool) (lo hi : Int) (_hlo : 0 ≤ lo ∧ lo < 256) (_hhi : 0 ≤ hi ∧ hi < 256) (g7 g8 : Nat) (A10 : Option Addr) (c10 : Nat) (Q : Exit → Act → World → Prop) (a0 : Act) (w0 : World) (hs15 : a0.tmps.getD 15 undef = .int .i64 (firstZ m)) : Obl Tryd.prog mk_ops (mk_S m lo hi _hlo _hhi g7 g8 A10 c10) Q a0 w0 27 :=
  obl_val (.move (.tmp 15)) (some (25, true)) rfl (by kernel_rfl) fun a w N H D => ⟨(fun _ _ hg => by cases hg; exact ⟨94, by kernel_rfl, fact_eq (D 25 (by kernel_rfl)) rfl (by kernel_rfl)⟩), fun _ ho => wp_move (.inl ho) (held_base H 15 (by kernel_rfl) hs15)⟩
theorem mk_o28 (m : Nat → Bool) (lo hi : Int) (_hlo : 0 ≤ lo ∧ lo < 256) (_hhi : 0 ≤ hi ∧ hi < 256) (g7 g8 : Nat) (A10 : Option Addr) (c10 : Nat) (Q : Exit → Act → World → Prop) (a0 : Act) (w0 : World)  : Obl Tryd.prog mk_ops (mk_S m lo hi _hlo _hhi g7 g8 A10 c10) Q a0 w0 28 :=
  obl_val (.binOp .geq 3 (.tmp 96) (.const (.int .i64 0)) 3) (some (25, true)) rfl (by kernel_rfl) fun a w N H D => ⟨(fun _ _ hg => by cases hg; exact ⟨94, by kernel_rfl, fact_eq (D 25 (by kernel_rfl)) rfl (by kernel_rfl)⟩), fun _ ho => wp_geqi ho (fact_eq (c := .int .i64 (firstZ m)) (D 27 (by kernel_rfl)) rfl (by kernel_rfl)) rfl⟩
theorem mk_o29 (m : Nat → Bool) (lo hi : Int) (_hlo : 0 ≤ lo ∧ lo < 256) (_hhi : 0 ≤ hi ∧ hi < 256) (g7 g8 : Nat) (A10 : Option Addr) (c10 : Nat) (Q : Exit → Act → World → Prop) (a0 : Act) (w0 : World)  : Obl Tryd.prog mk_ops (mk_S m lo hi _hlo _hhi g7 g8 A10 c10) Q a0 w0 29 :=
  obl_val (.binOp .eql 4 (.tmp 95) (.tmp 97) 4) (some (25, true)) rfl (by kernel_rfl) fun a w N H D => ⟨(fun _ _ hg => by cases hg; exact ⟨94, by kernel_rfl, fact_eq (D 25 (by kernel_rfl)) rfl (by kernel_rfl)⟩), fun _ ho => wp_of_eq (wp_eqb ho (fact_eq (c := .bool (firstM m).isSome) (D 26 (by kernel_rfl)) rfl (by kernel_rfl)) (fact_eq (c := .bool (decide (0 ≤ (firstZ m)))) (D 28 (by kernel_rfl)) rfl (by kernel_rfl))) (.bool true) (by rw [first_ok])⟩
theorem mk_o30 (m : Nat → Bool) (lo hi : Int) (_hlo : 0 ≤ lo ∧ lo < 256) (_hhi : 0 ≤ hi ∧ hi < 256) (g7 g8 : Nat) (A10 : Option Addr) (c10 : Nat) (Q : Exit → Act → World → Prop) (a0 : Act) (w0 : World)  : Obl Tryd.prog mk_ops (mk_S m lo hi _hlo _hhi g7 g8 A10 c10) Q a0 w0 30 :=
  obl_val (.pick (.tmp 94) (.tmp 98) (.const (.bool false))) none rfl (by kernel_rfl) fun a w N H D => ⟨(fun _ _ hg => by cases hg), fun _ ho => wp_pick (b := true) ho (fact_eq (c := .bool true) (D 25 (by kernel_rfl)) rfl (by kernel_rfl)) (fact_eq (c := .bool true) (D 29 (by kernel_rfl)) rfl (by kernel_rfl))⟩
theorem mk_o31 (m : Nat → Bool) (lo hi : Int) (_hlo : 0 ≤ lo ∧ lo < 256) (_hhi : 0 ≤ hi ∧ hi < 256) (g7 g8 : Nat) (A10 : Option Addr) (c10 : Nat) (Q : Exit → Act → World → Prop) (a0 : Act) (w0 : World)  : Obl Tryd.prog mk_ops (mk_S m lo hi _hlo _hhi g7 g8 A10 c10) Q a0 w0 31 :=
  obl_val (.move (.tmp 99)) none rfl (by kernel_rfl) fun a w N H D => ⟨(fun _ _ hg => by cases hg), fun _ ho => wp_move (.inl ho) (fact_eq (c := .bool true) (D 30 (by kernel_rfl)) rfl (by kernel_rfl))⟩
theorem mk_o32 (m : Nat → Bool) (lo hi : Int) (_hlo : 0 ≤ lo ∧ lo < 256) (_hhi : 0 ≤ hi ∧ hi < 256) (g7 g8 : Nat) (A10 : Option Addr) (c10 : Nat) (Q : Exit → Act → World → Prop) (a0 : Act) (w0 : World) (hs13 : a0.tmps.getD 13 undef = .int .u8 (((firstM m).getD 0 : Nat) : Int)) : Obl Tryd.prog mk_ops (mk_S m lo hi _hlo _hhi g7 g8 A10 c10) Q a0 w0 32 :=
  obl_val (.move (.tmp 13)) (some (31, true)) rfl (by kernel_rfl) fun a w N H D => ⟨(fun _ _ hg => by cases hg; exact ⟨100, by kernel_rfl, fact_eq (D 31 (by kernel_rfl)) rfl (by kernel_rfl)⟩), fun _ ho => wp_move (.inl ho) (held_base H 13 (by kernel_rfl) hs13)⟩
theorem mk_o33 (m : Nat → Bool) (lo hi : Int) (_hlo : 0 ≤ lo ∧ lo < 256) (_hhi : 0 ≤ hi ∧ hi < 256) (g7 g8 : Nat) (A10 : Option Addr) (c10 : Nat) (Q : Exit → Act → World → Prop) (a0 : Act) (w0 : World)  : Obl Tryd.prog mk_ops (mk_S m lo hi _hlo _hhi g7 g8 A10 c10) Q a0 w0 33 :=
  obl_val (.convert 5 3 (.tmp 101)) (some (31, true)) rfl (by kernel_rfl) fun a w N H D => ⟨(fun _ _ hg => by cases hg; exact ⟨100, by kernel_rfl, fact_eq (D 31 (by kernel_rfl)) rfl (by kernel_rfl)⟩), fun _ ho => wp_conv8 ho (fact_eq (c := .int .u8 (((firstM m).getD 0 : Nat) : Int)) (D 32 (by kernel_rfl)) rfl (by kernel_rfl)) (by omega) (by have := firstM_lt m; omega)⟩
theorem mk_o34 (m : Nat → Bool) (lo hi : Int) (_hlo : 0 ≤ lo ∧ lo < 256) (_hhi : 0 ≤ hi ∧ hi < 256) (g7 g8 : Nat) (A10 : Option Addr) (c10 : Nat) (Q : Exit → Act → World → Prop) (a0 : Act) (w0 : World) (hs15 : a0.tmps.getD 15 undef = .int .i64 (firstZ m)) : Obl Tryd.prog mk_ops (mk_S m lo hi _hlo _hhi g7 g8 A10 c10) Q a0 w0 34 :=
  obl_val (.move (.tmp 15)) (some (31, true)) rfl (by kernel_rfl) fun a w N H D => ⟨(fun _ _ hg => by cases hg; exact ⟨100, by kernel_rfl, fact_eq (D 31 (by kernel_rfl)) rfl (by kernel_rfl)⟩), fun _ ho => wp_move (.inl ho) (held_base H 15 (by kernel_rfl) hs15)⟩
theorem mk_o35 (m : Nat → Bool) (lo hi : Int) (_hlo : 0 ≤ lo ∧ lo < 256) (_hhi : 0 ≤ hi ∧ hi < 256) (g7 g8 : Nat) (A10 : Option Addr) (c10 : Nat) (Q : Exit → Act → World → Prop) (a0 : Act) (w0 : World)  : Obl Tryd.prog mk_ops (mk_S m lo hi _hlo _hhi g7 g8 A10 c10) Q a0 w0 35 :=
  obl_val (.call { callee := .builtin .max, args := #[.tmp 103, .const (.int .i64 0)], argTypes := #[3, 3] }) (some (31, true)) rfl (by kernel_rfl) fun a w N H D => ⟨(fun _ _ hg => by cases hg; exact ⟨100, by kernel_rfl, fact_eq (D 31 (by kernel_rfl)) rfl (by kernel_rfl)⟩), fun _ ho => wp_maxi ho (fact_eq (c := .int .i64 (firstZ m)) (D 34 (by kernel_rfl)) rfl (by kernel_rfl)) rfl⟩
theorem mk_o36 (m : Nat → Bool) (lo hi : Int) (_hlo : 0 ≤ lo ∧ lo < 256) (_hhi : 0 ≤ hi ∧ hi < 256) (g7 g8 : Nat) (A10 : Option Addr) (c10 : Nat) (Q : Exit → Act → World → Prop) (a0 : Act) (w0 : World)  : Obl Tryd.prog mk_ops (mk_S m lo hi _hlo _hhi g7 g8 A10 c10) Q a0 w0 36 :=
  obl_val (.binOp .eql 3 (.tmp 102) (.tmp 104) 3) (some (31, true)) rfl (by kernel_rfl) fun a w N H D => ⟨(fun _ _ hg => by cases hg; exact ⟨100, by kernel_rfl, fact_eq (D 31 (by kernel_rfl)) rfl (by kernel_rfl)⟩), fun _ ho => wp_of_eq (wp_eqi ho (fact_eq (c := .int .i64 (((firstM m).getD 0 : Nat) : Int)) (D 33 (by kernel_rfl)) rfl (by kernel_rfl)) (fact_eq (c := .int .i64 (max (firstZ m) 0)) (D 35 (by kernel_rfl)) rfl (by kernel_rfl))) (.bool true) (by rw [first_max])⟩
theorem mk_o37 (m : Nat → Bool) (lo hi : Int) (_hlo : 0 ≤ lo ∧ lo < 256) (_hhi : 0 ≤ hi ∧ hi < 256) (g7 g8 : Nat) (A10 : Option Addr) (c10 : Nat) (Q : Exit → Act → World → Prop) (a0 : Act) (w0 : World)  : Obl Tryd.prog mk_ops (mk_S m lo hi _hlo _hhi g7 g8 A10 c10) Q a0 w0 37 :=
  obl_val (.pick (.tmp 100) (.tmp 105) (.const (.bool false))) none rfl (by kernel_rfl) fun a w N H D => ⟨(fun _ _ hg => by cases hg), fun _ ho => wp_pick (b := true) ho (fact_eq (c := .bool true) (D 31 (by kernel_rfl)) rfl (by kernel_rfl)) (fact_eq (c := .bool true) (D 36 (by kernel_rfl)) rfl (by kernel_rfl))⟩
theorem mk_o38 (m : Nat → Bool) (lo hi : Int) (_hlo : 0 ≤ lo ∧ lo < 256) (_hhi : 0 ≤ hi ∧ hi < 256) (g7 g8 : Nat) (A10 : Option Addr) (c10 : Nat) (Q : Exit → Act → World → Prop) (a0 : Act) (w0 : World)  : Obl Tryd.prog mk_ops (mk_S m lo hi _hlo _hhi g7 g8 A10 c10) Q a0 w0 38 :=
  obl_val (.move (.tmp 106)) none rfl (by kernel_rfl) fun a w N H D => ⟨(fun _ _ hg => by cases hg), fun _ ho => wp_move (.inl ho) (fact_eq (c := .bool true) (D 37 (by kernel_rfl)) rfl (by kernel_rfl))⟩
theorem mk_o39 (m : Nat → Bool) (lo hi : Int) (_hlo : 0 ≤ lo ∧ lo < 256) (_hhi : 0 ≤ hi ∧ hi < 256) (g7 g8 : Nat) (A10 : Option Addr) (c10 : Nat) (Q : Exit → Act → World → Prop) (a0 : Act) (w0 : World)  : Obl Tryd.prog mk_ops (mk_S m lo hi _hlo _hhi g7 g8 A10 c10) Q a0 w0 39 :=
  obl_val (.call { callee := .value (.func 17), args := #[], argTypes := #[] }) (some (38, true)) rfl (by kernel_rfl) fun a w N H D => ⟨(fun _ _ hg => by cases hg; exact ⟨107, by kernel_rfl, fact_eq (D 38 (by kernel_rfl)) rfl (by kernel_rfl)⟩), fun _ ho => wp_call_eq ho (fun xs w => by kernel_rfl) (by simp) (awake_any _)⟩
theorem mk_o40 (m : Nat → Bool) (lo hi : Int) (_hlo : 0 ≤ lo ∧ lo < 256) (_hhi : 0 ≤ hi ∧ hi < 256) (g7 g8 : Nat) (A10 : Option Addr) (c10 : Nat) (Q : Exit → Act → World → Prop) (a0 : Act) (w0 : World)  : Obl Tryd.prog mk_ops (mk_S m lo hi _hlo _hhi g7 g8 A10 c10) Q a0 w0 40 :=
  obl_val (.pick (.tmp 107) (.tmp 108) (.const (.bool false))) none rfl (by kernel_rfl) fun a w N H D => ⟨(fun _ _ hg => by cases hg), fun _ ho => wp_pick (b := true) ho (fact_eq (c := .bool true) (D 38 (by kernel_rfl)) rfl (by kernel_rfl)) (fact_eq (c := .bool true) (D 39 (by kernel_rfl)) rfl (by kernel_rfl))⟩
theorem mk_o41 (m : Nat → Bool) (lo hi : Int) (_hlo : 0 ≤ lo ∧ lo < 256) (_hhi : 0 ≤ hi ∧ hi < 256) (g7 g8 : Nat) (A10 : Option Addr) (c10 : Nat) (Q : Exit → Act → World → Prop) (a0 : Act) (w0 : World)  : Obl Tryd.prog mk_ops (mk_S m lo hi _hlo _hhi g7 g8 A10 c10) Q a0 w0 41 :=
  obl_val (.assign (.tmp 109)) none rfl (by kernel_rfl) fun a w N H D => ⟨(fun _ _ hg => by cases hg), fun _ ho => wp_move (.inr ho) (fact_eq (c := .bool true) (D 40 (by kernel_rfl)) rfl (by kernel_rfl))⟩
theorem mk_all (m : Nat → Bool) (lo hi : Int) (_hlo : 0 ≤ lo ∧ lo < 256) (_hhi : 0 ≤ hi ∧ hi < 256) (g7 g8 : Nat) (A10 : Option Addr) (c10 : Nat) (b : Nat) (Q : Exit → Act → World → Prop) (a0 : Act) (w0 : World) (hs12 : a0.tmps.getD 12 undef = .pointer (some ⟨b, 0, none⟩)) (hB12 : Blk w0 b 35 (setL m)) (hs1 : a0.tmps.getD 1 undef = .int .u8 lo) (hs2 : a0.tmps.getD 2 undef = .int .u8 hi) (hs7 : a0.tmps.getD 7 undef = .slice (some ⟨g7, 0, none⟩) 256 256) (hs8 : a0.tmps.getD 8 undef = .slice (some ⟨g8, 0, none⟩) 256 256) (hs10 : a0.tmps.getD 10 undef = .slice A10 (listM m 256).length c10) (hs13 : a0.tmps.getD 13 undef = .int .u8 (((firstM m).getD 0 : Nat) : Int)) (hs14 : a0.tmps.getD 14 undef = .bool (firstM m).isSome) (hs15 : a0.tmps.getD 15 undef = .int .i64 (firstZ m)) (hr7 : RdV w0 (.slice (some ⟨g7, 0, none⟩) 256 256) (((List.range 256).map (m)).map .bool)) (hr8 : RdV w0 (.slice (some ⟨g8, 0, none⟩) 256 256) (((List.range 256).map (rangeM lo hi)).map .bool)) (hr10 : Rd w0 .u8 (.slice A10 (listM m 256).length c10) (listM m 256)) : ∀ i, i < mk_ops.size → Obl Tryd.prog mk_ops (mk_S m lo hi _hlo _hhi g7 g8 A10 c10) Q a0 w0 i := by
  intro i hi_
  have hs : mk_ops.size = 42 := by kernel_rfl
  rw [hs] at hi_
  clear hs
  match i, hi_ with
  | 0, _ => exact mk_o0 m lo hi _hlo _hhi g7 g8 A10 c10 b Q a0 w0 hs12 hB12
  | 1, _ => exact mk_o1 m lo hi _hlo _hhi g7 g8 A10 c10  Q a0 w0 hs7
  | 2, _ => exact mk_o2 m lo hi _hlo _hhi g7 g8 A10 c10  Q a0 w0 hr7
  | 3, _ => exact mk_o3 m lo hi _hlo _hhi g7 g8 A10 c10  Q a0 w0 
  | 4, _ => exact mk_o4 m lo hi _hlo _hhi g7 g8 A10 c10  Q a0 w0 
  | 5, _ => exact mk_o5 m lo hi _hlo _hhi g7 g8 A10 c10  Q a0 w0 hs1
  | 6, _ => exact mk_o6 m lo hi _hlo _hhi g7 g8 A10 c10  Q a0 w0 hs2
  | 7, _ => exact mk_o7 m lo hi _hlo _hhi g7 g8 A10 c10  Q a0 w0 
  | 8, _ => exact mk_o8 m lo hi _hlo _hhi g7 g8 A10 c10  Q a0 w0 hs8
  | 9, _ => exact mk_o9 m lo hi _hlo _hhi g7 g8 A10 c10  Q a0 w0 hr8
  | 10, _ => exact mk_o10 m lo hi _hlo _hhi g7 g8 A10 c10  Q a0 w0 
  | 11, _ => exact mk_o11 m lo hi _hlo _hhi g7 g8 A10 c10  Q a0 w0 
  | 12, _ => exact mk_o12 m lo hi _hlo _hhi g7 g8 A10 c10  Q a0 w0 
  | 13, _ => exact mk_o13 m lo hi _hlo _hhi g7 g8 A10 c10 b Q a0 w0 hs12 hB12
  | 14, _ => exact mk_o14 m lo hi _hlo _hhi g7 g8 A10 c10  Q a0 w0 
  | 15, _ => exact mk_o15 m lo hi _hlo _hhi g7 g8 A10 c10  Q a0 w0 hs10
  | 16, _ => exact mk_o16 m lo hi _hlo _hhi g7 g8 A10 c10  Q a0 w0 hr10
  | 17, _ => exact mk_o17 m lo hi _hlo _hhi g7 g8 A10 c10  Q a0 w0 
  | 18, _ => exact mk_o18 m lo hi _hlo _hhi g7 g8 A10 c10  Q a0 w0 
  | 19, _ => exact mk_o19 m lo hi _hlo _hhi g7 g8 A10 c10 b Q a0 w0 hs12 hB12
  | 20, _ => exact mk_o20 m lo hi _hlo _hhi g7 g8 A10 c10  Q a0 w0 
  | 21, _ => exact mk_o21 m lo hi _hlo _hhi g7 g8 A10 c10  Q a0 w0 hs10
  | 22, _ => exact mk_o22 m lo hi _hlo _hhi g7 g8 A10 c10  Q a0 w0 
  | 23, _ => exact mk_o23 m lo hi _hlo _hhi g7 g8 A10 c10  Q a0 w0 
  | 24, _ => exact mk_o24 m lo hi _hlo _hhi g7 g8 A10 c10  Q a0 w0 
  | 25, _ => exact mk_o25 m lo hi _hlo _hhi g7 g8 A10 c10  Q a0 w0 
  | 26, _ => exact mk_o26 m lo hi _hlo _hhi g7 g8 A10 c10  Q a0 w0 hs14
  | 27, _ => exact mk_o27 m lo hi _hlo _hhi g7 g8 A10 c10  Q a0 w0 hs15
  | 28, _ => exact mk_o28 m lo hi _hlo _hhi g7 g8 A10 c10  Q a0 w0 
  | 29, _ => exact mk_o29 m lo hi _hlo _hhi g7 g8 A10 c10  Q a0 w0 
  | 30, _ => exact mk_o30 m lo hi _hlo _hhi g7 g8 A10 c10  Q a0 w0 
  | 31, _ => exact mk_o31 m lo hi _hlo _hhi g7 g8 A10 c10  Q a0 w0 
  | 32, _ => exact mk_o32 m lo hi _hlo _hhi g7 g8 A10 c10  Q a0 w0 hs13
  | 33, _ => exact mk_o33 m lo hi _hlo _hhi g7 g8 A10 c10  Q a0 w0 
  | 34, _ => exact mk_o34 m lo hi _hlo _hhi g7 g8 A10 c10  Q a0 w0 hs15
  | 35, _ => exact mk_o35 m lo hi _hlo _hhi g7 g8 A10 c10  Q a0 w0 
  | 36, _ => exact mk_o36 m lo hi _hlo _hhi g7 g8 A10 c10  Q a0 w0 
  | 37, _ => exact mk_o37 m lo hi _hlo _hhi g7 g8 A10 c10  Q a0 w0 
  | 38, _ => exact mk_o38 m lo hi _hlo _hhi g7 g8 A10 c10  Q a0 w0 
  | 39, _ => exact mk_o39 m lo hi _hlo _hhi g7 g8 A10 c10  Q a0 w0 
  | 40, _ => exact mk_o40 m lo hi _hlo _hhi g7 g8 A10 c10  Q a0 w0 
  | 41, _ => exact mk_o41 m lo hi _hlo _hhi g7 g8 A10 c10  Q a0 w0 
  | i + 42, h => exact absurd h (by omega)
set_option maxRecDepth 100000 in
set_option maxHeartbeats 4000000 in
theorem makes_law (l : List Int) (hin : ∀ x ∈ l, 0 ≤ x ∧ x < 256) (A : Option Addr) (c : Nat) (lo hi : Int) (hlo : 0 ≤ lo ∧ lo < 256) (hhi : 0 ≤ hi ∧ hi < 256) (w : World) (h1 : l.length ≤ c) (h2 : l.length ≤ 9223372036854775807)
    (h3 : ∀ i x, l[i]? = some x → ∃ ad, A = some ad ∧ ad.block < w.heap.size ∧ w.cell? (ad.add i) = some (.int .u8 x)) (hT : TabOk w) :
    Calls Tryd.prog 4 #[.slice A l.length c, .int .u8 lo, .int .u8 hi] w fun e w' => e = .returned (.bool true) ∧ Below w.heap.size w w' := by
  have H3 := Lib.hid h3
  have HI := Lib.hid hin
  have HT := Lib.hid hT
  clear h3 hin hT
  obtain ⟨row, hrow, hmk0⟩ : ∃ row : List Value, row = List.replicate 256 (Value.bool false) ∧ ∀ w, (Instr.makeSlice 32 (.int .i64 256) (.int .i64 256)).run Tryd.prog w = .ok (.slice (some ⟨w.heap.size, 0, none⟩) 256 256) (w.alloc (.cells row.toArray 4)) := ⟨_, rfl, make_bools⟩
  have hmk := Lib.hid hmk0
  have HR := Lib.hid hrow
  clear hmk0 hrow
  go_enter Tryd.func4, Tryd.ntmps4
  by_cases h1000 : 1000 < l.length
  · go_wp2_with fail
    refine (awake_any _).mono ?_
    rintro e w1 ⟨rfl, hb⟩
    go_wp2
    go_returns
    exact ⟨rfl, hb⟩
  · go_wp2_with fail
    refine Code.wp_mono (Q := fun e a wq => e = .normal ∧ a.defers = [] ∧ a.tmps.size = 110 ∧ a.tmps.getD 0 undef = .slice A l.length c ∧ a.tmps.getD 1 undef = .int .u8 lo ∧ a.tmps.getD 2 undef = .int .u8 hi ∧ a.tmps.getD 6 undef = .bool false ∧
      ∃ g7 g8, a.tmps.getD 7 undef = .slice (some ⟨g7, 0, none⟩) 256 256 ∧ a.tmps.getD 8 undef = .slice (some ⟨g8, 0, none⟩) 256 256 ∧ g7 ≠ g8 ∧ w.heap.size ≤ g7 ∧ w.heap.size ≤ g8 ∧ Blk wq g7 4 row ∧ Blk wq g8 4 row ∧ Below w.heap.size w wq) ?_ ?_
    rotate_left
    · have hmk' := hmk.out
      have hB1 : Blk ((w.alloc (.cells row.toArray 4)).alloc (.cells row.toArray 4)) w.heap.size 4 row := (Blk.new w row 4).alloc _
      have hB2 : Blk ((w.alloc (.cells row.toArray 4)).alloc (.cells row.toArray 4)) (w.heap.size + 1) 4 row := by simpa using Blk.new (w.alloc (.cells row.toArray 4)) row 4
      go_region
      · exact ⟨rfl, rfl, rfl, rfl, rfl, rfl, rfl, w.heap.size, w.heap.size + 1, rfl, rfl, by omega, by omega, by omega, hB1.drew, hB2.drew, by go_grown⟩
      · exact ⟨rfl, rfl, rfl, rfl, rfl, rfl, rfl, w.heap.size + 1, w.heap.size, rfl, rfl, by omega, by omega, by omega, hB2.drew, hB1.drew, by go_grown⟩
    · rename_i hK
      rintro e a w0 ⟨rfl, hd, Hsz, q0, q1, q2, q6, g7, g8, q7, q8, h78, hg7, hg8, hb7, hb8, hbw⟩
      clear hmk
      refine hK _ _ ?_
      rw [act_eq a 110 Hsz, show List.range 110 = [0, 1, 2, 3, 4, 5, 6, 7, 8, 9, 10, 11, 12, 13, 14, 15, 16, 17, 18, 19, 20, 21, 22, 23, 24, 25, 26, 27, 28, 29, 30, 31, 32, 33, 34, 35, 36, 37, 38, 39, 40, 41, 42, 43, 44, 45, 46, 47, 48, 49, 50, 51, 52, 53, 54, 55, 56, 57, 58, 59, 60, 61, 62, 63, 64, 65, 66, 67, 68, 69, 70, 71, 72, 73, 74, 75, 76, 77, 78, 79, 80, 81, 82, 83, 84, 85, 86, 87, 88, 89, 90, 91, 92, 93, 94, 95, 96, 97, 98, 99, 100, 101, 102, 103, 104, 105, 106, 107, 108, 109] from rfl]
      simp only [List.map_cons, List.map_nil, q0, q1, q2, q6, q7, q8, hd]
      generalize a.tmps.getD 3 undef = z3
      generalize a.tmps.getD 4 undef = z4
      generalize a.tmps.getD 5 undef = z5
      generalize a.tmps.getD 9 undef = z9
      generalize a.tmps.getD 10 undef = z10
      generalize a.tmps.getD 11 undef = z11
      generalize a.tmps.getD 12 undef = z12
      generalize a.tmps.getD 13 undef = z13
      generalize a.tmps.getD 14 undef = z14
      generalize a.tmps.getD 15 undef = z15
      generalize a.tmps.getD 16 undef = z16
      generalize a.tmps.getD 17 undef = z17
      generalize a.tmps.getD 18 undef = z18
      generalize a.tmps.getD 19 undef = z19
      generalize a.tmps.getD 20 undef = z20
      generalize a.tmps.getD 21 undef = z21
      generalize a.tmps.getD 22 undef = z22
      generalize a.tmps.getD 23 undef = z23
      generalize a.tmps.getD 24 undef = z24
      generalize a.tmps.getD 25 undef = z25
      generalize a.tmps.getD 26 undef = z26
      generalize a.tmps.getD 27 undef = z27
      generalize a.tmps.getD 28 undef = z28
      generalize a.tmps.getD 29 undef = z29
      generalize a.tmps.getD 30 undef = z30
      generalize a.tmps.getD 31 undef = z31
      generalize a.tmps.getD 32 undef = z32
      generalize a.tmps.getD 33 undef = z33
      generalize a.tmps.getD 34 undef = z34
      generalize a.tmps.getD 35 undef = z35
      generalize a.tmps.getD 36 undef = z36
      generalize a.tmps.getD 37 undef = z37
      generalize a.tmps.getD 38 undef = z38
      generalize a.tmps.getD 39 undef = z39
      generalize a.tmps.getD 40 undef = z40
      generalize a.tmps.getD 41 undef = z41
      generalize a.tmps.getD 42 undef = z42
      generalize a.tmps.getD 43 undef = z43
      generalize a.tmps.getD 44 undef = z44
      generalize a.tmps.getD 45 undef = z45
      generalize a.tmps.getD 46 undef = z46
      generalize a.tmps.getD 47 undef = z47
      generalize a.tmps.getD 48 undef = z48
      generalize a.tmps.getD 49 undef = z49
      generalize a.tmps.getD 50 undef = z50
      generalize a.tmps.getD 51 undef = z51
      generalize a.tmps.getD 52 undef = z52
      generalize a.tmps.getD 53 undef = z53
      generalize a.tmps.getD 54 undef = z54
      generalize a.tmps.getD 55 undef = z55
      generalize a.tmps.getD 56 undef = z56
      generalize a.tmps.getD 57 undef = z57
      generalize a.tmps.getD 58 undef = z58
      generalize a.tmps.getD 59 undef = z59
      generalize a.tmps.getD 60 undef = z60
      generalize a.tmps.getD 61 undef = z61
      generalize a.tmps.getD 62 undef = z62
      generalize a.tmps.getD 63 undef = z63
      generalize a.tmps.getD 64 undef = z64
      generalize a.tmps.getD 65 undef = z65
      generalize a.tmps.getD 66 undef = z66
      generalize a.tmps.getD 67 undef = z67
      generalize a.tmps.getD 68 undef = z68
      generalize a.tmps.getD 69 undef = z69
      generalize a.tmps.getD 70 undef = z70
      generalize a.tmps.getD 71 undef = z71
      generalize a.tmps.getD 72 undef = z72
      generalize a.tmps.getD 73 undef = z73
      generalize a.tmps.getD 74 undef = z74
      generalize a.tmps.getD 75 undef = z75
      generalize a.tmps.getD 76 undef = z76
      generalize a.tmps.getD 77 undef = z77
      generalize a.tmps.getD 78 undef = z78
      generalize a.tmps.getD 79 undef = z79
      generalize a.tmps.getD 80 undef = z80
      generalize a.tmps.getD 81 undef = z81
      generalize a.tmps.getD 82 undef = z82
      generalize a.tmps.getD 83 undef = z83
      generalize a.tmps.getD 84 undef = z84
      generalize a.tmps.getD 85 undef = z85
      generalize a.tmps.getD 86 undef = z86
      generalize a.tmps.getD 87 undef = z87
      generalize a.tmps.getD 88 undef = z88
      generalize a.tmps.getD 89 undef = z89
      generalize a.tmps.getD 90 undef = z90
      generalize a.tmps.getD 91 undef = z91
      generalize a.tmps.getD 92 undef = z92
      generalize a.tmps.getD 93 undef = z93
      generalize a.tmps.getD 94 undef = z94
      generalize a.tmps.getD 95 undef = z95
      generalize a.tmps.getD 96 undef = z96
      generalize a.tmps.getD 97 undef = z97
      generalize a.tmps.getD 98 undef = z98
      generalize a.tmps.getD 99 undef = z99
      generalize a.tmps.getD 100 undef = z100
      generalize a.tmps.getD 101 undef = z101
      generalize a.tmps.getD 102 undef = z102
      generalize a.tmps.getD 103 undef = z103
      generalize a.tmps.getD 104 undef = z104
      generalize a.tmps.getD 105 undef = z105
      generalize a.tmps.getD 106 undef = z106
      generalize a.tmps.getD 107 undef = z107
      generalize a.tmps.getD 108 undef = z108
      generalize a.tmps.getD 109 undef = z109
      clear hd Hsz q0 q1 q2 q6 q7 q8
      clear a
      have hrow0 : ∀ f : Nat → Bool, (∀ x, x < 256 → f x = false) → row = upL f 256 := fun f hf => HR.out.trans (falses_upL f hf)
      have hl7 := hb7.lt
      have hl8 := hb8.lt
      have HW := Lib.hid hbw
      go_wp2
      go_loopw [9] (fun i wr => ∃ k : Nat, k ≤ l.length ∧ i = .int .i64 k ∧ Blk wr g7 4 (upL (ofM (l.take k)) 256) ∧ Blk wr g8 4 row ∧ Below w.heap.size w wr ∧ w0.heap.size ≤ wr.heap.size) (fun i _ => l.length - (intOf i).toNat)
      case atStart =>
        refine ⟨0, Nat.zero_le _, rfl, ?_, hb8, hbw, Nat.le_refl _⟩
        rw [← hrow0 _ (by intro x _; simp [ofM])]
        exact hb7
      case round =>
        clear hb7 hb8 hbw
        obtain ⟨k, hk, rfl, hb7, hb8, hbw, hsz⟩ := hrel
        by_cases hlt : k < l.length
        · obtain ⟨ad, rfl, had, hc⟩ := H3.out k l[k] (List.getElem?_eq_getElem hlt)
          have hx := HI.out l[k] (List.getElem_mem hlt)
          have hcr : wr.cell? (ad.add k) = some (.int .u8 l[k]) := (hbw.cell (p := ad.add k) (by rw [add_block]; exact had)).trans hc
          have hsn := List.take_succ_eq_append_getElem hlt
          have HE : Hid (ofM (l.take (k + 1)) = putM (ofM (l.take k)) l[k]) := by
            show ofM (l.take (k + 1)) = putM (ofM (l.take k)) l[k]
            rw [hsn, ofM_snoc]
          clear hc hsn
          generalize l[k] = b at *
          generalize ofM (l.take k) = fm at *
          obtain ⟨uz, hz⟩ : ∃ uz, (upL fm 256)[b.toNat]? = some uz := ⟨_, List.getElem?_eq_getElem (by rw [upL_length]; omega)⟩
          have cz := (hb7.cell b.toNat).trans hz
          have fz := hb7.frozen b.toNat
          clear hz
          go_wp2
          go_roundw
          case rel =>
            refine ⟨k + 1, by omega, by go_num, ?_, hb8.far (p := ⟨g7, b.toNat, none⟩) (Ne.symm h78) _, hbw.setCell (p := ⟨g7, b.toNat, none⟩) hg7 _, by simpa [World.setCell] using hsz⟩
            have := hb7.set b.toNat (.bool true)
            rw [upL_set _ _ _ _ (fun _ => rfl)] at this
            rw [HE.out]
            rw [show putM fm b = fun x => fm x || (x == b.toNat && true) by
              funext x
              unfold putM
              congr 1
              rw [Bool.and_true, Bool.eq_iff_iff]; simp; omega]
            exact this
          case measure => simp [intOf]; omega
        · obtain rfl : k = l.length := by omega
          rw [List.take_length] at hb7
          generalize hm : ofM l = m at *
          have HM := Lib.hid hm
          clear hm hlt hk
          have hB : ∃ B, B = wr.heap.size := ⟨_, rfl⟩
          obtain ⟨B, hB⟩ := hB
          have h7B : g7 < B := by omega
          have h8B : g8 < B := by omega
          have hwB : w.heap.size ≤ B := by rw [hB]; exact hbw.size
          have hBr : B ≤ wr.heap.size := by omega
          clear hsz hB
          go_wp2
          go_loopw [10, 11] (fun v i wq => ∃ k : Nat, k ≤ 256 ∧ i = .int .i64 k ∧ Blk wq g7 4 (upL m 256) ∧ Blk wq g8 4 (upL (fun x => decide (x < k) && rangeM lo hi x) 256) ∧ Below w.heap.size w wq ∧ B ≤ wq.heap.size ∧ wq.ownsRow B 5 1 v (listM m k).length ((listM m k).map (.int .u8))) (fun _ i _ => 256 - (intOf i).toNat)
          case atStart =>
            refine ⟨0, by omega, rfl, hb7, ?_, hbw, hBr, ?_⟩
            · rw [← hrow0 _ (by intro x _; simp)]
              exact hb8
            · rw [show listM m 0 = [] from rfl]
              exact World.ownsRow_nil _ _ _ _
          case round =>
            clear hb7 hb8 hbw hBr
            obtain ⟨k, hk, rfl, hb7, hb8, hbw, hBr, hown⟩ := hrel
            by_cases hlt : k < 256
            · have hz : (upL (fun x => decide (x < k) && rangeM lo hi x) 256)[k]? = some (.bool (decide (k < k) && rangeM lo hi k)) := by unfold upL; simp [hlt]
              have cz := (hb8.cell k).trans hz
              have fz := hb8.frozen k
              have hy : (upL m 256)[k]? = some (.bool (m k)) := by unfold upL; simp [hlt]
              have cy := (hb7.cell k).trans hy
              have hlen := listM_length m k
              have hls := listM_succ m k
              clear hz hy
              generalize (decide (k < k) && rangeM lo hi k) = uz at *
              have hset : ∀ u, u = rangeM lo hi k → (upL (fun x => decide (x < k) && rangeM lo hi x) 256).set k (.bool u) = upL (fun x => decide (x < k + 1) && rangeM lo hi x) 256 := by
                rintro u rfl
                rw [upL_set _ _ _ _ (by simp)]
                congr 1
                funext x
                by_cases e : x = k
                · subst e; simp
                · have h1 : decide (x < k + 1) = decide (x < k) := by simp; omega
                  have h2 : (x == k) = false := by simp [e]
                  rw [h1, h2]; simp
              have HS := Lib.hid hset
              have HL := Lib.hid hls
              clear hset hls
              by_cases hlk : lo ≤ (k : Int)
              · cases hmk : m k with
                | true =>
                  have hd : decide (lo ≤ (k : Int)) = true := by simp; omega
                  have Hu := Lib.hid (HS.out (decide ((k : Int) ≤ hi)) (by unfold rangeM; simp; omega))
                  have Hm := Lib.hid hmk
                  rw [hmk] at cy
                  clear hmk
                  have own1 := ownsRow_setCell_below hown (a := ⟨g8, k, none⟩) h8B (.bool (decide ((k : Int) ≤ hi)))
                  have b7 := hb7.far (p := ⟨g8, k, none⟩) h78 (.bool (decide ((k : Int) ≤ hi)))
                  have b8 := hb8.set k (.bool (decide ((k : Int) ≤ hi)))
                  rw [Hu.out] at b8
                  have bw := hbw.setCell (p := ⟨g8, k, none⟩) hg8 (.bool (decide ((k : Int) ≤ hi)))
                  have bs : B ≤ (wr.setCell ⟨g8, k, none⟩ (.bool (decide ((k : Int) ≤ hi)))).heap.size := by simpa [World.setCell] using hBr
                  clear hb7 hb8 hbw hown
                  go_wp2_with (at_builtin; refine append_one rfl (.tmp 55) (.tmp 58) 39 rfl B 5 1 1 elem_u8 _ _ _ rfl own1 [.int .u8 k] (by rw [setCell_size]; rfl) rfl (one_int _ _) (by omega) (by omega) bs ?_; intro v2 w2 hown2 hb2)
                  go_roundw
                  case rel =>
                    refine ⟨k + 1, by omega, by go_num, b7.below hb2 h7B, b8.below hb2 h8B, bw.trans (hb2.mono hwB), Nat.le_trans bs hb2.size, ?_⟩
                    rw [HL.out, if_pos Hm.out]
                    simpa using hown2
                  case measure => simp [intOf]; omega
                | false =>
                  have hd : decide (lo ≤ (k : Int)) = true := by simp; omega
                  have Hu := Lib.hid (HS.out (decide ((k : Int) ≤ hi)) (by unfold rangeM; simp; omega))
                  have Hm := Lib.hid hmk
                  rw [hmk] at cy
                  clear hmk
                  have own1 := ownsRow_setCell_below hown (a := ⟨g8, k, none⟩) h8B (.bool (decide ((k : Int) ≤ hi)))
                  have b7 := hb7.far (p := ⟨g8, k, none⟩) h78 (.bool (decide ((k : Int) ≤ hi)))
                  have b8 := hb8.set k (.bool (decide ((k : Int) ≤ hi)))
                  rw [Hu.out] at b8
                  have bw := hbw.setCell (p := ⟨g8, k, none⟩) hg8 (.bool (decide ((k : Int) ≤ hi)))
                  have bs : B ≤ (wr.setCell ⟨g8, k, none⟩ (.bool (decide ((k : Int) ≤ hi)))).heap.size := by simpa [World.setCell] using hBr
                  clear hb7 hb8 hbw hown
                  go_wp2
                  go_roundw
                  case rel =>
                    refine ⟨k + 1, by omega, by go_num, b7, b8, bw, bs, ?_⟩
                    rw [HL.out, Hm.out, if_neg (by simp)]
                    exact own1
                  case measure => simp [intOf]; omega
              · cases hmk : m k with
                | true =>
                  have hd : decide (lo ≤ (k : Int)) = false := by simp; omega
                  have Hu := Lib.hid (HS.out false (by unfold rangeM; simp; omega))
                  have Hm := Lib.hid hmk
                  rw [hmk] at cy
                  clear hmk
                  have own1 := ownsRow_setCell_below hown (a := ⟨g8, k, none⟩) h8B (.bool false)
                  have b7 := hb7.far (p := ⟨g8, k, none⟩) h78 (.bool false)
                  have b8 := hb8.set k (.bool false)
                  rw [Hu.out] at b8
                  have bw := hbw.setCell (p := ⟨g8, k, none⟩) hg8 (.bool false)
                  have bs : B ≤ (wr.setCell ⟨g8, k, none⟩ (.bool false)).heap.size := by simpa [World.setCell] using hBr
                  clear hb7 hb8 hbw hown
                  go_wp2_with (at_builtin; refine append_one rfl (.tmp 55) (.tmp 58) 39 rfl B 5 1 1 elem_u8 _ _ _ rfl own1 [.int .u8 k] (by rw [setCell_size]; rfl) rfl (one_int _ _) (by omega) (by omega) bs ?_; intro v2 w2 hown2 hb2)
                  go_roundw
                  case rel =>
                    refine ⟨k + 1, by omega, by go_num, b7.below hb2 h7B, b8.below hb2 h8B, bw.trans (hb2.mono hwB), Nat.le_trans bs hb2.size, ?_⟩
                    rw [HL.out, if_pos Hm.out]
                    simpa using hown2
                  case measure => simp [intOf]; omega
                | false =>
                  have hd : decide (lo ≤ (k : Int)) = false := by simp; omega
                  have Hu := Lib.hid (HS.out false (by unfold rangeM; simp; omega))
                  have Hm := Lib.hid hmk
                  rw [hmk] at cy
                  clear hmk
                  have own1 := ownsRow_setCell_below hown (a := ⟨g8, k, none⟩) h8B (.bool false)
                  have b7 := hb7.far (p := ⟨g8, k, none⟩) h78 (.bool false)
                  have b8 := hb8.set k (.bool false)
                  rw [Hu.out] at b8
                  have bw := hbw.setCell (p := ⟨g8, k, none⟩) hg8 (.bool false)
                  have bs : B ≤ (wr.setCell ⟨g8, k, none⟩ (.bool false)).heap.size := by simpa [World.setCell] using hBr
                  clear hb7 hb8 hbw hown
                  go_wp2
                  go_roundw
                  case rel =>
                    refine ⟨k + 1, by omega, by go_num, b7, b8, bw, bs, ?_⟩
                    rw [HL.out, Hm.out, if_neg (by simp)]
                    exact own1
                  case measure => simp [intOf]; omega
            · obtain rfl : k = 256 := by omega
              clear hlt hk
              have hF8 : upL (fun x => decide (x < 256) && rangeM lo hi x) 256 = upL (rangeM lo hi) 256 := by
                unfold upL
                refine List.map_congr_left fun x hx => ?_
                have := List.mem_range.1 hx
                simp [this]
              rw [hF8] at hb8
              clear hF8
              have r7 := blk_rdV hb7 (by rw [upL_length]; omega)
              have r8 := blk_rdV hb8 (by rw [upL_length]; omega)
              simp only [upL_length] at r7 r8
              rw [upL_map] at r7 r8
              have hle := listM_length m 256
              obtain ⟨A10, c10, rfl, k1, k3⟩ := own_cells hown
              have r10 : Rd wr .u8 (.slice A10 (listM m 256).length c10) (listM m 256) := ⟨A10, c10, rfl, k1, by omega, fun i x hi => by
                obtain ⟨ad, h, _, hl, hc⟩ := k3 i x hi
                exact ⟨ad, h, hl, hc⟩⟩
              have r0 : Rd wr .u8 (.slice A l.length c) l := ⟨A, c, rfl, h1, by omega, fun i x hi => by
                obtain ⟨ad, h, hl, hc⟩ := H3.out i x hi
                exact ⟨ad, h, Nat.lt_of_lt_of_le hl hbw.size, (hbw.cell (p := ad.add i) (by rw [add_block]; exact hl)).trans hc⟩⟩
              clear k3 hown hb7 hb8
              have R7 := Lib.hid r7
              have R8 := Lib.hid r8
              have R10 := Lib.hid r10
              clear r7 r8 r10
              go_wp2_with fail
              refine (of_any l _ _ r0 HI.out).mono ?_
              rintro e w3 ⟨rfl, hb3⟩
              rw [HM.out]
              have hw3 := hbw.trans (hb3.mono hbw.size)
              replace R7 := Lib.hid (R7.out.below hb3)
              replace R8 := Lib.hid (R8.out.below hb3)
              replace R10 := Lib.hid (R10.out.below hb3)
              clear r0 hb3 hbw hBr
              unfold setV
              go_wp2_with fail
              have hw4 := hw3.alloc hw3.size (.cells #[.int .u64 (word m 0), .int .u64 (word m 1), .int .u64 (word m 2), .int .u64 (word m 3)] 35)
              have hf := first_any m _ (HT.out.below hw4)
              unfold setV firstV at hf
              refine hf.mono ?_
              clear hf
              rintro e w5 ⟨rfl, hb5⟩
              have hbx : Blk w5 w3.heap.size 35 (setL m) := (Blk.new w3 (setL m) 35).below hb5 (by simp)
              have hw5 := hw4.trans (hb5.mono hw4.size)
              have h35 : Below w3.heap.size w3 w5 := Below.trans (by go_grown) (hb5.mono (by simp))
              replace R7 := Lib.hid (R7.out.below h35)
              replace R8 := Lib.hid (R8.out.below h35)
              replace R10 := Lib.hid (R10.out.below h35)
              obtain ⟨d0, d1, d2, d3, _, _, _, _⟩ := hbx.four
              clear hb5 hw4 hw3 h35
              generalize w3.heap.size = bb at *
              go_wp2_with fail
              have hf := reffirst_any m w5
              unfold setV at hf
              refine hf.mono ?_
              clear hf
              rintro e w6 ⟨rfl, hb6⟩
              replace hbx := hbx.below hb6 hbx.lt
              have hw6 := hw5.trans (hb6.mono hw5.size)
              replace R7 := Lib.hid (R7.out.below hb6)
              replace R8 := Lib.hid (R8.out.below hb6)
              replace R10 := Lib.hid (R10.out.below hb6)
              clear hb6 hw5 d0 d1 d2 d3
              go_wp2_with fail
              refine region_named (ops' := mk_ops) (by kernel_rfl) (mk_S m lo hi hlo hhi g7 g8 A10 c10) 110 rfl (by kernel_rfl) (by kernel_rfl) (mk_all m lo hi hlo hhi g7 g8 A10 c10 bb _ _ _ rfl hbx.drew rfl rfl rfl rfl rfl rfl rfl rfl (R7.out.below (Below.refl _ _).drew) (R8.out.below (Below.refl _ _).drew) (R10.out.below (Below.refl _ _).drew)) ?_
              rename_i hK2
              intro a2 w7 N2 H2 hF2
              have q6 : a2.tmps.getD 6 undef = .bool true := fact_eq (hF2 41 (by kernel_rfl)) rfl (by kernel_rfl)
              refine hK2 _ _ (wp_ret (bodyPost_ret (results_tmp rfl _ _ _) H2.defers ⟨?_, hw6.drew.trans (H2.below.mono hw6.size)⟩))
              rw [q6]
end Go.Proofs.YtanimknpnniabaaDoor
