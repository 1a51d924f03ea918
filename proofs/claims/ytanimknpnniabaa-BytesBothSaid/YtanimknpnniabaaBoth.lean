/- BytesBoth: its regions, its loop, and the whole. -/
import Derived.Test.YtanimknpnniabaaOps2
import Derived.Test.YtanimknpnniabaaRows4
import Derived.Test.YtanimknpnniabaaAwake01
import Derived.Test.YtanimknpnniabaaLatticeP
import Derived.Deep.CutRange
namespace Go.Proofs.Ytanimknpnniabaa
open Go.RowKit
attribute [local go_sem] eq_words eqB_words eqB_zero
def bothB (m0 m1 : Nat → Bool) (B gx gy gf k : Nat) : List (Nat × TypeId × List Value) := [(gf, 4, foldV m0 k), (gx, 4, boolsL m0 256), (gy, 4, boolsL m1 256), (B, 24, setL m0), (B + 1, 24, setL m1)]
def allB (m m' : Nat → Bool) (k : Nat) : Bool := (List.range k).all fun x => !m x || m' x
theorem allB_succ (m m' : Nat → Bool) (k : Nat) : allB m m' (k + 1) = (allB m m' k && (!m k || m' k)) := by
  unfold allB
  rw [List.range_succ, List.all_append]
  simp
theorem boolsL_at (m : Nat → Bool) (k : Nat) (h : k < 256) : (boolsL m 256)[k]? = some (.bool (m k)) := by
  unfold boolsL
  rw [List.getElem?_map, List.getElem?_range h]
  simp [h]
theorem bothB_same {m0 m1 : Nat → Bool} {B gx gy gf k : Nat} (h : m0 k = false ∨ (¬(97 ≤ k ∧ k ≤ 122) ∧ ¬(65 ≤ k ∧ k ≤ 90))) : bothB m0 m1 B gx gy gf (k + 1) = bothB m0 m1 B gx gy gf k := by
  unfold bothB
  rw [foldV_same m0 k h]
theorem bothB_put {m0 m1 : Nat → Bool} {B gx gy gf k j : Nat} (hm : m0 k = true) (h : (97 ≤ k ∧ k ≤ 122 ∧ j = k - 32) ∨ (65 ≤ k ∧ k ≤ 90 ∧ j = k + 32)) :
    bothB m0 m1 B gx gy gf (k + 1) = (gf, 4, (foldV m0 k).set j (.bool true)) :: [(gx, 4, boolsL m0 256), (gy, 4, boolsL m1 256), (B, 24, setL m0), (B + 1, 24, setL m1)] := by
  unfold bothB
  rw [foldV_put m0 k j hm h]
theorem bothB_ne {m0 m1 : Nat → Bool} {B gx gy gf : Nat} (hx : gx ≠ gf) (hy : gy ≠ gf) (hB : B < gf ∧ B + 1 < gf) : ∀ p ∈ [(gx, 4, boolsL m0 256), (gy, 4, boolsL m1 256), (B, 24, setL m0), (B + 1, 24, setL m1)], (p : Nat × TypeId × List Value).1 ≠ gf := by
  simp only [List.mem_cons, List.not_mem_nil, or_false]
  rintro p (rfl | rfl | rfl | rfl) <;> simp only [] <;> omega
theorem foldB_end (m : Nat → Bool) (x : Nat) (h : x < 256) : foldB m 256 x = foldM m x := by
  unfold foldB foldM
  congr 1
  · congr 2
    simp only [decide_eq_decide]
    omega
  · congr 1
    simp only [decide_eq_decide]
    omega
theorem boUp (f : Nat → Bool) : eqB f (makeM (((List.range 256).map f).take 256)) = true := eqB_true fun x h => (make_up f x h).symm
theorem bo126 (m0 m1 : Nat → Bool) : eqB (anyM [m0, m1]) (makeM (((List.range 256).map (fun x => m0 x || m1 x)).take 256)) = true := eqB_true fun x h => by
  rw [make_up (fun x => m0 x || m1 x) x h]
  simp [anyM]
theorem bo155 (m0 m1 : Nat → Bool) : (eqB (fun x => m0 x && !m1 x) (fun _ => false) == allB m0 m1 256) = true := by
  rw [beq_iff_eq, Bool.eq_iff_iff, eqB_iff]
  unfold allB
  rw [List.all_eq_true]
  simp only [List.mem_range]
  constructor
  · intro h x hx
    have := h x hx
    revert this
    cases m0 x <;> cases m1 x <;> decide
  · intro h x hx
    have := h x hx
    revert this
    cases m0 x <;> cases m1 x <;> decide
theorem bo162 (m0 : Nat → Bool) : eqB (foldM m0) (makeM (((List.range 256).map (foldB m0 256)).take 256)) = true := eqB_true fun x h => by
  rw [make_up (foldB m0 256) x h, foldB_end m0 x h]
theorem bo177 : eqB (anyM []) (fun _ => false) = true := eqB_true fun _ _ => rfl
noncomputable def bo1_ops : Array Oper := regOf Try.f5 1
def bo1_S (m0 m1 : Nat → Bool) : List RK := [RK.eq (setV m0), RK.val (RG.bools m0), RK.eq (setV m1), RK.val (RG.bools m1), RK.val (RG.bools m0), RK.val (RG.bools m1)]
theorem bo1_o0 (m0 m1 : Nat → Bool) (b : Nat) (Q : Exit → Act → World → Prop) (a0 : Act) (w0 : World) (hs3 : a0.tmps.getD 3 undef = .pointer (some ⟨b, 0, none⟩)) (hB3 : Blk w0 b 24 (setL m0)) : Obl Try.prog bo1_ops (bo1_S m0 m1) Q a0 w0 0 :=
  obl_load_old 3 (b) rfl none (by kernel_rfl) (by kernel_rfl) hs3 hB3 (fun a w N H D => (fun _ _ hg => by cases hg))
theorem bo1_o1 (m0 m1 : Nat → Bool) (Q : Exit → Act → World → Prop) (a0 : Act) (w0 : World)  : Obl Try.prog bo1_ops (bo1_S m0 m1) Q a0 w0 1 :=
  obl_val (.call { callee := .value (.func 15), args := #[.tmp 16], argTypes := #[24] }) none rfl (by kernel_rfl) fun a w N H D => ⟨(fun _ _ hg => by cases hg), fun _ ho => wp_bools ho (fact_eq (c := setV m0) (D 0 (by kernel_rfl)) rfl (by kernel_rfl))⟩
theorem bo1_o2 (m0 m1 : Nat → Bool) (b : Nat) (Q : Exit → Act → World → Prop) (a0 : Act) (w0 : World) (hs4 : a0.tmps.getD 4 undef = .pointer (some ⟨b + 1, 0, none⟩)) (hB4 : Blk w0 (b + 1) 24 (setL m1)) : Obl Try.prog bo1_ops (bo1_S m0 m1) Q a0 w0 2 :=
  obl_load_old 4 ((b + 1)) rfl none (by kernel_rfl) (by kernel_rfl) hs4 hB4 (fun a w N H D => (fun _ _ hg => by cases hg))
theorem bo1_o3 (m0 m1 : Nat → Bool) (Q : Exit → Act → World → Prop) (a0 : Act) (w0 : World)  : Obl Try.prog bo1_ops (bo1_S m0 m1) Q a0 w0 3 :=
  obl_val (.call { callee := .value (.func 15), args := #[.tmp 18], argTypes := #[24] }) none rfl (by kernel_rfl) fun a w N H D => ⟨(fun _ _ hg => by cases hg), fun _ ho => wp_bools ho (fact_eq (c := setV m1) (D 2 (by kernel_rfl)) rfl (by kernel_rfl))⟩
theorem bo1_o4 (m0 m1 : Nat → Bool) (Q : Exit → Act → World → Prop) (a0 : Act) (w0 : World)  : Obl Try.prog bo1_ops (bo1_S m0 m1) Q a0 w0 4 :=
  obl_val (.assign (.tmp 17)) none rfl (by kernel_rfl) fun a w N H D => ⟨(fun _ _ hg => by cases hg), fun _ ho => wp_move_g (.inr ho) (fact_val (D 1 (by kernel_rfl)) rfl (by kernel_rfl))⟩
theorem bo1_o5 (m0 m1 : Nat → Bool) (Q : Exit → Act → World → Prop) (a0 : Act) (w0 : World)  : Obl Try.prog bo1_ops (bo1_S m0 m1) Q a0 w0 5 :=
  obl_val (.assign (.tmp 19)) none rfl (by kernel_rfl) fun a w N H D => ⟨(fun _ _ hg => by cases hg), fun _ ho => wp_move_g (.inr ho) (fact_val (D 3 (by kernel_rfl)) rfl (by kernel_rfl))⟩
theorem bo1_all (m0 m1 : Nat → Bool) (b : Nat) (Q : Exit → Act → World → Prop) (a0 : Act) (w0 : World) (hs3 : a0.tmps.getD 3 undef = .pointer (some ⟨b, 0, none⟩)) (hB3 : Blk w0 b 24 (setL m0)) (hs4 : a0.tmps.getD 4 undef = .pointer (some ⟨b + 1, 0, none⟩)) (hB4 : Blk w0 (b + 1) 24 (setL m1)) : ∀ i, i < bo1_ops.size → Obl Try.prog bo1_ops (bo1_S m0 m1) Q a0 w0 i := by
  intro i hi
  have hs : bo1_ops.size = 6 := by kernel_rfl
  rw [hs] at hi
  clear hs
  match i, hi with
  | 0, _ => exact bo1_o0 m0 m1 b Q a0 w0 hs3 hB3
  | 1, _ => exact bo1_o1 m0 m1  Q a0 w0 
  | 2, _ => exact bo1_o2 m0 m1 b Q a0 w0 hs4 hB4
  | 3, _ => exact bo1_o3 m0 m1  Q a0 w0 
  | 4, _ => exact bo1_o4 m0 m1  Q a0 w0 
  | 5, _ => exact bo1_o5 m0 m1  Q a0 w0 
  | i + 6, h => exact absurd h (by omega)
noncomputable def bo2_ops : Array Oper := regOf Try.f5 17
def bo2_S (m0 m1 : Nat → Bool) (c0 : Int) (_hc1 : 0 ≤ c0) (_hc2 : c0 ≤ 255) (gx gf : Nat) (v9 v10 v11 v12 : Value) : List RK := [RK.eq (setV m0), RK.eq (setV m1), RK.val (RG.sets [m0, m1]), RK.eq (setV (anyM [m0, m1])), RK.eq (v9), RK.eq (setV (makeM (((List.range 256).map (fun x => m0 x || m1 x)).take 256))), RK.eq (.bool true), RK.eq (.bool true), RK.eq (setV m0), RK.eq (setV m1), RK.eq (setV (fun x => m0 x && m1 x)), RK.eq (v10), RK.eq (setV (makeM (((List.range 256).map (fun x => m0 x && m1 x)).take 256))), RK.eq (.bool true), RK.eq (.bool true), RK.eq (.bool true), RK.eq (setV m0), RK.eq (setV m1), RK.eq (setV (fun x => m0 x && !m1 x)), RK.eq (v11), RK.eq (setV (makeM (((List.range 256).map (fun x => m0 x && !m1 x)).take 256))), RK.eq (.bool true), RK.eq (.bool true), RK.eq (.bool true), RK.eq (setV m0), RK.eq (setV (fun x => !m0 x)), RK.eq (v12), RK.eq (setV (makeM (((List.range 256).map (fun x => !m0 x)).take 256))), RK.eq (.bool true), RK.eq (.bool true), RK.eq (.bool true), RK.eq (setV m0), RK.eq (setV m1), RK.eq (.bool (eqB (fun x => m0 x && !m1 x) (fun _ => false))), RK.eq (.bool (allB m0 m1 256)), RK.eq (.bool true), RK.eq (.bool true), RK.eq (.bool true), RK.eq (setV m0), RK.eq (setV (foldM (m0))), RK.eq (.slice (some ⟨gf, 0, none⟩) 256 256), RK.eq (setV (makeM (((List.range 256).map (foldB m0 256)).take 256))), RK.eq (.bool true), RK.eq (.bool true), RK.eq (.bool true), RK.eq (setV m0), RK.eq (.int .u8 c0), RK.eq (.bool (m0 (c0).toNat)), RK.eq (.slice (some ⟨gx, 0, none⟩) 256 256), RK.eq (.int .u8 c0), RK.eq (.pointer (some ⟨gx, (c0).toNat, none⟩)), RK.eq (.bool (m0 (c0).toNat)), RK.eq (.bool true), RK.eq (.bool true), RK.eq (.bool true), RK.eq (setV (anyM [])), RK.eq (setV (fun _ => false)), RK.eq (.bool true), RK.eq (.bool true), RK.eq (.bool true), RK.eq (.bool true), RK.eq (.bool true), RK.eq (.bool true)]
theorem bo2_o0 (m0 m1 : Nat → Bool) (c0 : Int) (_hc1 : 0 ≤ c0) (_hc2 : c0 ≤ 255) (gx gf : Nat) (v9 v10 v11 v12 : Value) (b : Nat) (Q : Exit → Act → World → Prop) (a0 : Act) (w0 : World) (hs3 : a0.tmps.getD 3 undef = .pointer (some ⟨b, 0, none⟩)) (hB3 : Blk w0 b 24 (setL m0)) : Obl Try.prog bo2_ops (bo2_S m0 m1 c0 _hc1 _hc2 gx gf v9 v10 v11 v12) Q a0 w0 0 :=
  obl_load_old 3 (b) rfl none (by kernel_rfl) (by kernel_rfl) hs3 hB3 (fun a w N H D => (fun _ _ hg => by cases hg))
theorem bo2_o1 (m0 m1 : Nat → Bool) (c0 : Int) (_hc1 : 0 ≤ c0) (_hc2 : c0 ≤ 255) (gx gf : Nat) (v9 v10 v11 v12 : Value) (b : Nat) (Q : Exit → Act → World → Prop) (a0 : Act) (w0 : World) (hs4 : a0.tmps.getD 4 undef = .pointer (some ⟨b + 1, 0, none⟩)) (hB4 : Blk w0 (b + 1) 24 (setL m1)) : Obl Try.prog bo2_ops (bo2_S m0 m1 c0 _hc1 _hc2 gx gf v9 v10 v11 v12) Q a0 w0 1 :=
  obl_load_old 4 ((b + 1)) rfl none (by kernel_rfl) (by kernel_rfl) hs4 hB4 (fun a w N H D => (fun _ _ hg => by cases hg))
theorem bo2_o2 (m0 m1 : Nat → Bool) (c0 : Int) (_hc1 : 0 ≤ c0) (_hc2 : c0 ≤ 255) (gx gf : Nat) (v9 v10 v11 v12 : Value) (Q : Exit → Act → World → Prop) (a0 : Act) (w0 : World)  : Obl Try.prog bo2_ops (bo2_S m0 m1 c0 _hc1 _hc2 gx gf v9 v10 v11 v12) Q a0 w0 2 :=
  obl_val (.buildSlice 42 2 #[(0, .tmp 120), (1, .tmp 121)]) none rfl (by kernel_rfl) fun a w N H D => ⟨(fun _ _ hg => by cases hg), fun _ ho => wp_build2 ho (fact_eq (c := setV m0) (D 0 (by kernel_rfl)) rfl (by kernel_rfl)) (fact_eq (c := setV m1) (D 1 (by kernel_rfl)) rfl (by kernel_rfl))⟩
theorem bo2_o3 (m0 m1 : Nat → Bool) (c0 : Int) (_hc1 : 0 ≤ c0) (_hc2 : c0 ≤ 255) (gx gf : Nat) (v9 v10 v11 v12 : Value) (Q : Exit → Act → World → Prop) (a0 : Act) (w0 : World)  : Obl Try.prog bo2_ops (bo2_S m0 m1 c0 _hc1 _hc2 gx gf v9 v10 v11 v12) Q a0 w0 3 :=
  obl_val (.call { callee := .value (.func 7), args := #[.tmp 122], argTypes := #[42] }) none rfl (by kernel_rfl) fun a w N H D => ⟨(fun _ _ hg => by cases hg), fun _ ho => wp_call_eq (xs := #[a.eval (.tmp 122)]) ho (fun xs w => by kernel_rfl) (by simp only [List.map_toArray, List.map_cons, List.map_nil]) (union_any [m0, m1] _ _ (RG.sets_rd (fact_val (D 2 (by kernel_rfl)) rfl (by kernel_rfl))))⟩
theorem bo2_o4 (m0 m1 : Nat → Bool) (c0 : Int) (_hc1 : 0 ≤ c0) (_hc2 : c0 ≤ 255) (gx gf : Nat) (v9 v10 v11 v12 : Value) (Q : Exit → Act → World → Prop) (a0 : Act) (w0 : World) (hs9 : a0.tmps.getD 9 undef = v9) : Obl Try.prog bo2_ops (bo2_S m0 m1 c0 _hc1 _hc2 gx gf v9 v10 v11 v12) Q a0 w0 4 :=
  obl_val (.move (.tmp 9)) none rfl (by kernel_rfl) fun a w N H D => ⟨(fun _ _ hg => by cases hg), fun _ ho => wp_move (.inl ho) (held_base H 9 (by kernel_rfl) hs9)⟩
theorem bo2_o5 (m0 m1 : Nat → Bool) (c0 : Int) (_hc1 : 0 ≤ c0) (_hc2 : c0 ≤ 255) (gx gf : Nat) (v9 v10 v11 v12 : Value) (Q : Exit → Act → World → Prop) (a0 : Act) (w0 : World) (hr9 : RdV w0 (v9) (((List.range 256).map (fun x => m0 x || m1 x)).map .bool)) : Obl Try.prog bo2_ops (bo2_S m0 m1 c0 _hc1 _hc2 gx gf v9 v10 v11 v12) Q a0 w0 5 :=
  obl_val (.call { callee := .value (.func 16), args := #[.tmp 124], argTypes := #[34] }) none rfl (by kernel_rfl) fun a w N H D => ⟨(fun _ _ hg => by cases hg), fun _ ho => wp_make ((List.range 256).map (fun x => m0 x || m1 x)) ho (fact_eq (c := v9) (D 4 (by kernel_rfl)) rfl (by kernel_rfl)) (hr9.below H.below)⟩
theorem bo2_o6 (m0 m1 : Nat → Bool) (c0 : Int) (_hc1 : 0 ≤ c0) (_hc2 : c0 ≤ 255) (gx gf : Nat) (v9 v10 v11 v12 : Value) (Q : Exit → Act → World → Prop) (a0 : Act) (w0 : World)  : Obl Try.prog bo2_ops (bo2_S m0 m1 c0 _hc1 _hc2 gx gf v9 v10 v11 v12) Q a0 w0 6 :=
  obl_val (.binOp .eql 24 (.tmp 123) (.tmp 125) 24) none rfl (by kernel_rfl) fun a w N H D => ⟨(fun _ _ hg => by cases hg), fun _ ho => wp_of_eq (wp_eq_set (m := (anyM [m0, m1])) (m' := (makeM (((List.range 256).map (fun x => m0 x || m1 x)).take 256))) ho (fact_eq (c := setV (anyM [m0, m1])) (D 3 (by kernel_rfl)) rfl (by kernel_rfl)) (fact_eq (c := setV (makeM (((List.range 256).map (fun x => m0 x || m1 x)).take 256))) (D 5 (by kernel_rfl)) rfl (by kernel_rfl))) (.bool true) (by rw [bo126 m0 m1])⟩
theorem bo2_o7 (m0 m1 : Nat → Bool) (c0 : Int) (_hc1 : 0 ≤ c0) (_hc2 : c0 ≤ 255) (gx gf : Nat) (v9 v10 v11 v12 : Value) (Q : Exit → Act → World → Prop) (a0 : Act) (w0 : World)  : Obl Try.prog bo2_ops (bo2_S m0 m1 c0 _hc1 _hc2 gx gf v9 v10 v11 v12) Q a0 w0 7 :=
  obl_val (.move (.tmp 126)) none rfl (by kernel_rfl) fun a w N H D => ⟨(fun _ _ hg => by cases hg), fun _ ho => wp_move (.inl ho) (fact_eq (c := .bool true) (D 6 (by kernel_rfl)) rfl (by kernel_rfl))⟩
theorem bo2_o8 (m0 m1 : Nat → Bool) (c0 : Int) (_hc1 : 0 ≤ c0) (_hc2 : c0 ≤ 255) (gx gf : Nat) (v9 v10 v11 v12 : Value) (b : Nat) (Q : Exit → Act → World → Prop) (a0 : Act) (w0 : World) (hs3 : a0.tmps.getD 3 undef = .pointer (some ⟨b, 0, none⟩)) (hB3 : Blk w0 b 24 (setL m0)) : Obl Try.prog bo2_ops (bo2_S m0 m1 c0 _hc1 _hc2 gx gf v9 v10 v11 v12) Q a0 w0 8 :=
  obl_load_old 3 (b) rfl (some (7, true)) (by kernel_rfl) (by kernel_rfl) hs3 hB3 (fun a w N H D => (fun _ _ hg => by cases hg; exact ⟨127, by kernel_rfl, fact_eq (D 7 (by kernel_rfl)) rfl (by kernel_rfl)⟩))
theorem bo2_o9 (m0 m1 : Nat → Bool) (c0 : Int) (_hc1 : 0 ≤ c0) (_hc2 : c0 ≤ 255) (gx gf : Nat) (v9 v10 v11 v12 : Value) (b : Nat) (Q : Exit → Act → World → Prop) (a0 : Act) (w0 : World) (hs4 : a0.tmps.getD 4 undef = .pointer (some ⟨b + 1, 0, none⟩)) (hB4 : Blk w0 (b + 1) 24 (setL m1)) : Obl Try.prog bo2_ops (bo2_S m0 m1 c0 _hc1 _hc2 gx gf v9 v10 v11 v12) Q a0 w0 9 :=
  obl_load_old 4 ((b + 1)) rfl (some (7, true)) (by kernel_rfl) (by kernel_rfl) hs4 hB4 (fun a w N H D => (fun _ _ hg => by cases hg; exact ⟨127, by kernel_rfl, fact_eq (D 7 (by kernel_rfl)) rfl (by kernel_rfl)⟩))
theorem bo2_o10 (m0 m1 : Nat → Bool) (c0 : Int) (_hc1 : 0 ≤ c0) (_hc2 : c0 ≤ 255) (gx gf : Nat) (v9 v10 v11 v12 : Value) (Q : Exit → Act → World → Prop) (a0 : Act) (w0 : World)  : Obl Try.prog bo2_ops (bo2_S m0 m1 c0 _hc1 _hc2 gx gf v9 v10 v11 v12) Q a0 w0 10 :=
  obl_val (.call { callee := .value (.func 8), args := #[.tmp 128, .tmp 129], argTypes := #[24, 24] }) (some (7, true)) rfl (by kernel_rfl) fun a w N H D => ⟨(fun _ _ hg => by cases hg; exact ⟨127, by kernel_rfl, fact_eq (D 7 (by kernel_rfl)) rfl (by kernel_rfl)⟩), fun _ ho => wp_call_eq ho (fun xs w => by kernel_rfl) (by simp only [List.map_toArray, List.map_cons, List.map_nil]; rw [(fact_eq (c := setV m0) (D 8 (by kernel_rfl)) rfl (by kernel_rfl)), (fact_eq (c := setV m1) (D 9 (by kernel_rfl)) rfl (by kernel_rfl))]) (meet_any (m0) (m1) _)⟩
theorem bo2_o11 (m0 m1 : Nat → Bool) (c0 : Int) (_hc1 : 0 ≤ c0) (_hc2 : c0 ≤ 255) (gx gf : Nat) (v9 v10 v11 v12 : Value) (Q : Exit → Act → World → Prop) (a0 : Act) (w0 : World) (hs10 : a0.tmps.getD 10 undef = v10) : Obl Try.prog bo2_ops (bo2_S m0 m1 c0 _hc1 _hc2 gx gf v9 v10 v11 v12) Q a0 w0 11 :=
  obl_val (.move (.tmp 10)) (some (7, true)) rfl (by kernel_rfl) fun a w N H D => ⟨(fun _ _ hg => by cases hg; exact ⟨127, by kernel_rfl, fact_eq (D 7 (by kernel_rfl)) rfl (by kernel_rfl)⟩), fun _ ho => wp_move (.inl ho) (held_base H 10 (by kernel_rfl) hs10)⟩
theorem bo2_o12 (m0 m1 : Nat → Bool) (c0 : Int) (_hc1 : 0 ≤ c0) (_hc2 : c0 ≤ 255) (gx gf : Nat) (v9 v10 v11 v12 : Value) (Q : Exit → Act → World → Prop) (a0 : Act) (w0 : World) (hr10 : RdV w0 (v10) (((List.range 256).map (fun x => m0 x && m1 x)).map .bool)) : Obl Try.prog bo2_ops (bo2_S m0 m1 c0 _hc1 _hc2 gx gf v9 v10 v11 v12) Q a0 w0 12 :=
  obl_val (.call { callee := .value (.func 16), args := #[.tmp 131], argTypes := #[34] }) (some (7, true)) rfl (by kernel_rfl) fun a w N H D => ⟨(fun _ _ hg => by cases hg; exact ⟨127, by kernel_rfl, fact_eq (D 7 (by kernel_rfl)) rfl (by kernel_rfl)⟩), fun _ ho => wp_make ((List.range 256).map (fun x => m0 x && m1 x)) ho (fact_eq (c := v10) (D 11 (by kernel_rfl)) rfl (by kernel_rfl)) (hr10.below H.below)⟩
theorem bo2_o13 (m0 m1 : Nat → Bool) (c0 : Int) (_hc1 : 0 ≤ c0) (_hc2 : c0 ≤ 255) (gx gf : Nat) (v9 v10 v11 v12 : Value) (Q : Exit → Act → World → Prop) (a0 : Act) (w0 : World)  : Obl Try.prog bo2_ops (bo2_S m0 m1 c0 _hc1 _hc2 gx gf v9 v10 v11 v12) Q a0 w0 13 :=
  obl_val (.binOp .eql 24 (.tmp 130) (.tmp 132) 24) (some (7, true)) rfl (by kernel_rfl) fun a w N H D => ⟨(fun _ _ hg => by cases hg; exact ⟨127, by kernel_rfl, fact_eq (D 7 (by kernel_rfl)) rfl (by kernel_rfl)⟩), fun _ ho => wp_of_eq (wp_eq_set (m := (fun x => m0 x && m1 x)) (m' := (makeM (((List.range 256).map (fun x => m0 x && m1 x)).take 256))) ho (fact_eq (c := setV (fun x => m0 x && m1 x)) (D 10 (by kernel_rfl)) rfl (by kernel_rfl)) (fact_eq (c := setV (makeM (((List.range 256).map (fun x => m0 x && m1 x)).take 256))) (D 12 (by kernel_rfl)) rfl (by kernel_rfl))) (.bool true) (by rw [boUp (fun x => m0 x && m1 x)])⟩
theorem bo2_o14 (m0 m1 : Nat → Bool) (c0 : Int) (_hc1 : 0 ≤ c0) (_hc2 : c0 ≤ 255) (gx gf : Nat) (v9 v10 v11 v12 : Value) (Q : Exit → Act → World → Prop) (a0 : Act) (w0 : World)  : Obl Try.prog bo2_ops (bo2_S m0 m1 c0 _hc1 _hc2 gx gf v9 v10 v11 v12) Q a0 w0 14 :=
  obl_val (.pick (.tmp 127) (.tmp 133) (.const (.bool false))) none rfl (by kernel_rfl) fun a w N H D => ⟨(fun _ _ hg => by cases hg), fun _ ho => wp_pick (b := true) ho (fact_eq (c := .bool true) (D 7 (by kernel_rfl)) rfl (by kernel_rfl)) (fact_eq (c := .bool true) (D 13 (by kernel_rfl)) rfl (by kernel_rfl))⟩
theorem bo2_o15 (m0 m1 : Nat → Bool) (c0 : Int) (_hc1 : 0 ≤ c0) (_hc2 : c0 ≤ 255) (gx gf : Nat) (v9 v10 v11 v12 : Value) (Q : Exit → Act → World → Prop) (a0 : Act) (w0 : World)  : Obl Try.prog bo2_ops (bo2_S m0 m1 c0 _hc1 _hc2 gx gf v9 v10 v11 v12) Q a0 w0 15 :=
  obl_val (.move (.tmp 134)) none rfl (by kernel_rfl) fun a w N H D => ⟨(fun _ _ hg => by cases hg), fun _ ho => wp_move (.inl ho) (fact_eq (c := .bool true) (D 14 (by kernel_rfl)) rfl (by kernel_rfl))⟩
theorem bo2_o16 (m0 m1 : Nat → Bool) (c0 : Int) (_hc1 : 0 ≤ c0) (_hc2 : c0 ≤ 255) (gx gf : Nat) (v9 v10 v11 v12 : Value) (b : Nat) (Q : Exit → Act → World → Prop) (a0 : Act) (w0 : World) (hs3 : a0.tmps.getD 3 undef = .pointer (some ⟨b, 0, none⟩)) (hB3 : Blk w0 b 24 (setL m0)) : Obl Try.prog bo2_ops (bo2_S m0 m1 c0 _hc1 _hc2 gx gf v9 v10 v11 v12) Q a0 w0 16 :=
  obl_load_old 3 (b) rfl (some (15, true)) (by kernel_rfl) (by kernel_rfl) hs3 hB3 (fun a w N H D => (fun _ _ hg => by cases hg; exact ⟨135, by kernel_rfl, fact_eq (D 15 (by kernel_rfl)) rfl (by kernel_rfl)⟩))
theorem bo2_o17 (m0 m1 : Nat → Bool) (c0 : Int) (_hc1 : 0 ≤ c0) (_hc2 : c0 ≤ 255) (gx gf : Nat) (v9 v10 v11 v12 : Value) (b : Nat) (Q : Exit → Act → World → Prop) (a0 : Act) (w0 : World) (hs4 : a0.tmps.getD 4 undef = .pointer (some ⟨b + 1, 0, none⟩)) (hB4 : Blk w0 (b + 1) 24 (setL m1)) : Obl Try.prog bo2_ops (bo2_S m0 m1 c0 _hc1 _hc2 gx gf v9 v10 v11 v12) Q a0 w0 17 :=
  obl_load_old 4 ((b + 1)) rfl (some (15, true)) (by kernel_rfl) (by kernel_rfl) hs4 hB4 (fun a w N H D => (fun _ _ hg => by cases hg; exact ⟨135, by kernel_rfl, fact_eq (D 15 (by kernel_rfl)) rfl (by kernel_rfl)⟩))
theorem bo2_o18 (m0 m1 : Nat → Bool) (c0 : Int) (_hc1 : 0 ≤ c0) (_hc2 : c0 ≤ 255) (gx gf : Nat) (v9 v10 v11 v12 : Value) (Q : Exit → Act → World → Prop) (a0 : Act) (w0 : World)  : Obl Try.prog bo2_ops (bo2_S m0 m1 c0 _hc1 _hc2 gx gf v9 v10 v11 v12) Q a0 w0 18 :=
  obl_val (.call { callee := .value (.func 17), args := #[.tmp 136, .tmp 137], argTypes := #[24, 24] }) (some (15, true)) rfl (by kernel_rfl) fun a w N H D => ⟨(fun _ _ hg => by cases hg; exact ⟨135, by kernel_rfl, fact_eq (D 15 (by kernel_rfl)) rfl (by kernel_rfl)⟩), fun _ ho => wp_call_eq ho (fun xs w => by kernel_rfl) (by simp only [List.map_toArray, List.map_cons, List.map_nil]; rw [(fact_eq (c := setV m0) (D 16 (by kernel_rfl)) rfl (by kernel_rfl)), (fact_eq (c := setV m1) (D 17 (by kernel_rfl)) rfl (by kernel_rfl))]) (minus_any (m0) (m1) _)⟩
theorem bo2_o19 (m0 m1 : Nat → Bool) (c0 : Int) (_hc1 : 0 ≤ c0) (_hc2 : c0 ≤ 255) (gx gf : Nat) (v9 v10 v11 v12 : Value) (Q : Exit → Act → World → Prop) (a0 : Act) (w0 : World) (hs11 : a0.tmps.getD 11 undef = v11) : Obl Try.prog bo2_ops (bo2_S m0 m1 c0 _hc1 _hc2 gx gf v9 v10 v11 v12) Q a0 w0 19 :=
  obl_val (.move (.tmp 11)) (some (15, true)) rfl (by kernel_rfl) fun a w N H D => ⟨(fun _ _ hg => by cases hg; exact ⟨135, by kernel_rfl, fact_eq (D 15 (by kernel_rfl)) rfl (by kernel_rfl)⟩), fun _ ho => wp_move (.inl ho) (held_base H 11 (by kernel_rfl) hs11)⟩
theorem bo2_o20 (m0 m1 : Nat → Bool) (c0 : Int) (_hc1 : 0 ≤ c0) (_hc2 : c0 ≤ 255) (gx gf : Nat) (v9 v10 v11 v12 : Value) (Q : Exit → Act → World → Prop) (a0 : Act) (w0 : World) (hr11 : RdV w0 (v11) (((List.range 256).map (fun x => m0 x && !m1 x)).map .bool)) : Obl Try.prog bo2_ops (bo2_S m0 m1 c0 _hc1 _hc2 gx gf v9 v10 v11 v12) Q a0 w0 20 :=
  obl_val (.call { callee := .value (.func 16), args := #[.tmp 139], argTypes := #[34] }) (some (15, true)) rfl (by kernel_rfl) fun a w N H D => ⟨(fun _ _ hg => by cases hg; exact ⟨135, by kernel_rfl, fact_eq (D 15 (by kernel_rfl)) rfl (by kernel_rfl)⟩), fun _ ho => wp_make ((List.range 256).map (fun x => m0 x && !m1 x)) ho (fact_eq (c := v11) (D 19 (by kernel_rfl)) rfl (by kernel_rfl)) (hr11.below H.below)⟩
theorem bo2_o21 (m0 m1 : Nat → Bool) (c0 : Int) (_hc1 : 0 ≤ c0) (_hc2 : c0 ≤ 255) (gx gf : Nat) (v9 v10 v11 v12 : Value) (Q : Exit → Act → World → Prop) (a0 : Act) (w0 : World)  : Obl Try.prog bo2_ops (bo2_S m0 m1 c0 _hc1 _hc2 gx gf v9 v10 v11 v12) Q a0 w0 21 :=
  obl_val (.binOp .eql 24 (.tmp 138) (.tmp 140) 24) (some (15, true)) rfl (by kernel_rfl) fun a w N H D => ⟨(fun _ _ hg => by cases hg; exact ⟨135, by kernel_rfl, fact_eq (D 15 (by kernel_rfl)) rfl (by kernel_rfl)⟩), fun _ ho => wp_of_eq (wp_eq_set (m := (fun x => m0 x && !m1 x)) (m' := (makeM (((List.range 256).map (fun x => m0 x && !m1 x)).take 256))) ho (fact_eq (c := setV (fun x => m0 x && !m1 x)) (D 18 (by kernel_rfl)) rfl (by kernel_rfl)) (fact_eq (c := setV (makeM (((List.range 256).map (fun x => m0 x && !m1 x)).take 256))) (D 20 (by kernel_rfl)) rfl (by kernel_rfl))) (.bool true) (by rw [boUp (fun x => m0 x && !m1 x)])⟩
theorem bo2_o22 (m0 m1 : Nat → Bool) (c0 : Int) (_hc1 : 0 ≤ c0) (_hc2 : c0 ≤ 255) (gx gf : Nat) (v9 v10 v11 v12 : Value) (Q : Exit → Act → World → Prop) (a0 : Act) (w0 : World)  : Obl Try.prog bo2_ops (bo2_S m0 m1 c0 _hc1 _hc2 gx gf v9 v10 v11 v12) Q a0 w0 22 :=
  obl_val (.pick (.tmp 135) (.tmp 141) (.const (.bool false))) none rfl (by kernel_rfl) fun a w N H D => ⟨(fun _ _ hg => by cases hg), fun _ ho => wp_pick (b := true) ho (fact_eq (c := .bool true) (D 15 (by kernel_rfl)) rfl (by kernel_rfl)) (fact_eq (c := .bool true) (D 21 (by kernel_rfl)) rfl (by kernel_rfl))⟩
theorem bo2_o23 (m0 m1 : Nat → Bool) (c0 : Int) (_hc1 : 0 ≤ c0) (_hc2 : c0 ≤ 255) (gx gf : Nat) (v9 v10 v11 v12 : Value) (Q : Exit → Act → World → Prop) (a0 : Act) (w0 : World)  : Obl Try.prog bo2_ops (bo2_S m0 m1 c0 _hc1 _hc2 gx gf v9 v10 v11 v12) Q a0 w0 23 :=
  obl_val (.move (.tmp 142)) none rfl (by kernel_rfl) fun a w N H D => ⟨(fun _ _ hg => by cases hg), fun _ ho => wp_move (.inl ho) (fact_eq (c := .bool true) (D 22 (by kernel_rfl)) rfl (by kernel_rfl))⟩
theorem bo2_o24 (m0 m1 : Nat → Bool) (c0 : Int) (_hc1 : 0 ≤ c0) (_hc2 : c0 ≤ 255) (gx gf : Nat) (v9 v10 v11 v12 : Value) (b : Nat) (Q : Exit → Act → World → Prop) (a0 : Act) (w0 : World) (hs3 : a0.tmps.getD 3 undef = .pointer (some ⟨b, 0, none⟩)) (hB3 : Blk w0 b 24 (setL m0)) : Obl Try.prog bo2_ops (bo2_S m0 m1 c0 _hc1 _hc2 gx gf v9 v10 v11 v12) Q a0 w0 24 :=
  obl_load_old 3 (b) rfl (some (23, true)) (by kernel_rfl) (by kernel_rfl) hs3 hB3 (fun a w N H D => (fun _ _ hg => by cases hg; exact ⟨143, by kernel_rfl, fact_eq (D 23 (by kernel_rfl)) rfl (by kernel_rfl)⟩))
theorem bo2_o25 (m0 m1 : Nat → Bool) (c0 : Int) (_hc1 : 0 ≤ c0) (_hc2 : c0 ≤ 255) (gx gf : Nat) (v9 v10 v11 v12 : Value) (Q : Exit → Act → World → Prop) (a0 : Act) (w0 : World)  : Obl Try.prog bo2_ops (bo2_S m0 m1 c0 _hc1 _hc2 gx gf v9 v10 v11 v12) Q a0 w0 25 :=
  obl_val (.call { callee := .value (.func 9), args := #[.tmp 144], argTypes := #[24] }) (some (23, true)) rfl (by kernel_rfl) fun a w N H D => ⟨(fun _ _ hg => by cases hg; exact ⟨143, by kernel_rfl, fact_eq (D 23 (by kernel_rfl)) rfl (by kernel_rfl)⟩), fun _ ho => wp_call_eq ho (fun xs w => by kernel_rfl) (by simp only [List.map_toArray, List.map_cons, List.map_nil]; rw [(fact_eq (c := setV m0) (D 24 (by kernel_rfl)) rfl (by kernel_rfl))]) (not_any (m0) _)⟩
theorem bo2_o26 (m0 m1 : Nat → Bool) (c0 : Int) (_hc1 : 0 ≤ c0) (_hc2 : c0 ≤ 255) (gx gf : Nat) (v9 v10 v11 v12 : Value) (Q : Exit → Act → World → Prop) (a0 : Act) (w0 : World) (hs12 : a0.tmps.getD 12 undef = v12) : Obl Try.prog bo2_ops (bo2_S m0 m1 c0 _hc1 _hc2 gx gf v9 v10 v11 v12) Q a0 w0 26 :=
  obl_val (.move (.tmp 12)) (some (23, true)) rfl (by kernel_rfl) fun a w N H D => ⟨(fun _ _ hg => by cases hg; exact ⟨143, by kernel_rfl, fact_eq (D 23 (by kernel_rfl)) rfl (by kernel_rfl)⟩), fun _ ho => wp_move (.inl ho) (held_base H 12 (by kernel_rfl) hs12)⟩
theorem bo2_o27 (m0 m1 : Nat → Bool) (c0 : Int) (_hc1 : 0 ≤ c0) (_hc2 : c0 ≤ 255) (gx gf : Nat) (v9 v10 v11 v12 : Value) (Q : Exit → Act → World → Prop) (a0 : Act) (w0 : World) (hr12 : RdV w0 (v12) (((List.range 256).map (fun x => !m0 x)).map .bool)) : Obl Try.prog bo2_ops (bo2_S m0 m1 c0 _hc1 _hc2 gx gf v9 v10 v11 v12) Q a0 w0 27 :=
  obl_val (.call { callee := .value (.func 16), args := #[.tmp 146], argTypes := #[34] }) (some (23, true)) rfl (by kernel_rfl) fun a w N H D => ⟨(fun _ _ hg => by cases hg; exact ⟨143, by kernel_rfl, fact_eq (D 23 (by kernel_rfl)) rfl (by kernel_rfl)⟩), fun _ ho => wp_make ((List.range 256).map (fun x => !m0 x)) ho (fact_eq (c := v12) (D 26 (by kernel_rfl)) rfl (by kernel_rfl)) (hr12.below H.below)⟩
theorem bo2_o28 (m0 m1 : Nat → Bool) (c0 : Int) (_hc1 : 0 ≤ c0) (_hc2 : c0 ≤ 255) (gx gf : Nat) (v9 v10 v11 v12 : Value) (Q : Exit → Act → World → Prop) (a0 : Act) (w0 : World)  : Obl Try.prog bo2_ops (bo2_S m0 m1 c0 _hc1 _hc2 gx gf v9 v10 v11 v12) Q a0 w0 28 :=
  obl_val (.binOp .eql 24 (.tmp 145) (.tmp 147) 24) (some (23, true)) rfl (by kernel_rfl) fun a w N H D => ⟨(fun _ _ hg => by cases hg; exact ⟨143, by kernel_rfl, fact_eq (D 23 (by kernel_rfl)) rfl (by kernel_rfl)⟩), fun _ ho => wp_of_eq (wp_eq_set (m := (fun x => !m0 x)) (m' := (makeM (((List.range 256).map (fun x => !m0 x)).take 256))) ho (fact_eq (c := setV (fun x => !m0 x)) (D 25 (by kernel_rfl)) rfl (by kernel_rfl)) (fact_eq (c := setV (makeM (((List.range 256).map (fun x => !m0 x)).take 256))) (D 27 (by kernel_rfl)) rfl (by kernel_rfl))) (.bool true) (by rw [boUp (fun x => !m0 x)])⟩
theorem bo2_o29 (m0 m1 : Nat → Bool) (c0 : Int) (_hc1 : 0 ≤ c0) (_hc2 : c0 ≤ 255) (gx gf : Nat) (v9 v10 v11 v12 : Value) (Q : Exit → Act → World → Prop) (a0 : Act) (w0 : World)  : Obl Try.prog bo2_ops (bo2_S m0 m1 c0 _hc1 _hc2 gx gf v9 v10 v11 v12) Q a0 w0 29 :=
  obl_val (.pick (.tmp 143) (.tmp 148) (.const (.bool false))) none rfl (by kernel_rfl) fun a w N H D => ⟨(fun _ _ hg => by cases hg), fun _ ho => wp_pick (b := true) ho (fact_eq (c := .bool true) (D 23 (by kernel_rfl)) rfl (by kernel_rfl)) (fact_eq (c := .bool true) (D 28 (by kernel_rfl)) rfl (by kernel_rfl))⟩
theorem bo2_o30 (m0 m1 : Nat → Bool) (c0 : Int) (_hc1 : 0 ≤ c0) (_hc2 : c0 ≤ 255) (gx gf : Nat) (v9 v10 v11 v12 : Value) (Q : Exit → Act → World → Prop) (a0 : Act) (w0 : World)  : Obl Try.prog bo2_ops (bo2_S m0 m1 c0 _hc1 _hc2 gx gf v9 v10 v11 v12) Q a0 w0 30 :=
  obl_val (.move (.tmp 149)) none rfl (by kernel_rfl) fun a w N H D => ⟨(fun _ _ hg => by cases hg), fun _ ho => wp_move (.inl ho) (fact_eq (c := .bool true) (D 29 (by kernel_rfl)) rfl (by kernel_rfl))⟩
theorem bo2_o31 (m0 m1 : Nat → Bool) (c0 : Int) (_hc1 : 0 ≤ c0) (_hc2 : c0 ≤ 255) (gx gf : Nat) (v9 v10 v11 v12 : Value) (b : Nat) (Q : Exit → Act → World → Prop) (a0 : Act) (w0 : World) (hs3 : a0.tmps.getD 3 undef = .pointer (some ⟨b, 0, none⟩)) (hB3 : Blk w0 b 24 (setL m0)) : Obl Try.prog bo2_ops (bo2_S m0 m1 c0 _hc1 _hc2 gx gf v9 v10 v11 v12) Q a0 w0 31 :=
  obl_load_old 3 (b) rfl (some (30, true)) (by kernel_rfl) (by kernel_rfl) hs3 hB3 (fun a w N H D => (fun _ _ hg => by cases hg; exact ⟨150, by kernel_rfl, fact_eq (D 30 (by kernel_rfl)) rfl (by kernel_rfl)⟩))
theorem bo2_o32 (m0 m1 : Nat → Bool) (c0 : Int) (_hc1 : 0 ≤ c0) (_hc2 : c0 ≤ 255) (gx gf : Nat) (v9 v10 v11 v12 : Value) (b : Nat) (Q : Exit → Act → World → Prop) (a0 : Act) (w0 : World) (hs4 : a0.tmps.getD 4 undef = .pointer (some ⟨b + 1, 0, none⟩)) (hB4 : Blk w0 (b + 1) 24 (setL m1)) : Obl Try.prog bo2_ops (bo2_S m0 m1 c0 _hc1 _hc2 gx gf v9 v10 v11 v12) Q a0 w0 32 :=
  obl_load_old 4 ((b + 1)) rfl (some (30, true)) (by kernel_rfl) (by kernel_rfl) hs4 hB4 (fun a w N H D => (fun _ _ hg => by cases hg; exact ⟨150, by kernel_rfl, fact_eq (D 30 (by kernel_rfl)) rfl (by kernel_rfl)⟩))
theorem bo2_o33 (m0 m1 : Nat → Bool) (c0 : Int) (_hc1 : 0 ≤ c0) (_hc2 : c0 ≤ 255) (gx gf : Nat) (v9 v10 v11 v12 : Value) (Q : Exit → Act → World → Prop) (a0 : Act) (w0 : World)  : Obl Try.prog bo2_ops (bo2_S m0 m1 c0 _hc1 _hc2 gx gf v9 v10 v11 v12) Q a0 w0 33 :=
  obl_val (.call { callee := .value (.func 13), args := #[.tmp 151, .tmp 152], argTypes := #[24, 24] }) (some (30, true)) rfl (by kernel_rfl) fun a w N H D => ⟨(fun _ _ hg => by cases hg; exact ⟨150, by kernel_rfl, fact_eq (D 30 (by kernel_rfl)) rfl (by kernel_rfl)⟩), fun _ ho => wp_call_eq ho (fun xs w => by kernel_rfl) (by simp only [List.map_toArray, List.map_cons, List.map_nil]; rw [(fact_eq (c := setV m0) (D 31 (by kernel_rfl)) rfl (by kernel_rfl)), (fact_eq (c := setV m1) (D 32 (by kernel_rfl)) rfl (by kernel_rfl))]) (within_any (m0) (m1) _)⟩
theorem bo2_o34 (m0 m1 : Nat → Bool) (c0 : Int) (_hc1 : 0 ≤ c0) (_hc2 : c0 ≤ 255) (gx gf : Nat) (v9 v10 v11 v12 : Value) (Q : Exit → Act → World → Prop) (a0 : Act) (w0 : World) (hs13 : a0.tmps.getD 13 undef = .bool (allB m0 m1 256)) : Obl Try.prog bo2_ops (bo2_S m0 m1 c0 _hc1 _hc2 gx gf v9 v10 v11 v12) Q a0 w0 34 :=
  obl_val (.move (.tmp 13)) (some (30, true)) rfl (by kernel_rfl) fun a w N H D => ⟨(fun _ _ hg => by cases hg; exact ⟨150, by kernel_rfl, fact_eq (D 30 (by kernel_rfl)) rfl (by kernel_rfl)⟩), fun _ ho => wp_move (.inl ho) (held_base H 13 (by kernel_rfl) hs13)⟩
theorem bo2_o35 (m0 m1 : Nat → Bool) (c0 : Int) (_hc1 : 0 ≤ c0) (_hc2 : c0 ≤ 255) (gx gf : Nat) (v9 v10 v11 v12 : Value) (Q : Exit → Act → World → Prop) (a0 : Act) (w0 : World)  : Obl Try.prog bo2_ops (bo2_S m0 m1 c0 _hc1 _hc2 gx gf v9 v10 v11 v12) Q a0 w0 35 :=
  obl_val (.binOp .eql 4 (.tmp 153) (.tmp 154) 4) (some (30, true)) rfl (by kernel_rfl) fun a w N H D => ⟨(fun _ _ hg => by cases hg; exact ⟨150, by kernel_rfl, fact_eq (D 30 (by kernel_rfl)) rfl (by kernel_rfl)⟩), fun _ ho => wp_of_eq (wp_eqb ho (fact_eq (c := .bool (eqB (fun x => m0 x && !m1 x) (fun _ => false))) (D 33 (by kernel_rfl)) rfl (by kernel_rfl)) (fact_eq (c := .bool (allB m0 m1 256)) (D 34 (by kernel_rfl)) rfl (by kernel_rfl))) (.bool true) (by rw [bo155 m0 m1])⟩
theorem bo2_o36 (m0 m1 : Nat → Bool) (c0 : Int) (_hc1 : 0 ≤ c0) (_hc2 : c0 ≤ 255) (gx gf : Nat) (v9 v10 v11 v12 : Value) (Q : Exit → Act → World → Prop) (a0 : Act) (w0 : World)  : Obl Try.prog bo2_ops (bo2_S m0 m1 c0 _hc1 _hc2 gx gf v9 v10 v11 v12) Q a0 w0 36 :=
  obl_val (.pick (.tmp 150) (.tmp 155) (.const (.bool false))) none rfl (by kernel_rfl) fun a w N H D => ⟨(fun _ _ hg => by cases hg), fun _ ho => wp_pick (b := true) ho (fact_eq (c := .bool true) (D 30 (by kernel_rfl)) rfl (by kernel_rfl)) (fact_eq (c := .bool true) (D 35 (by kernel_rfl)) rfl (by kernel_rfl))⟩
theorem bo2_o37 (m0 m1 : Nat → Bool) (c0 : Int) (_hc1 : 0 ≤ c0) (_hc2 : c0 ≤ 255) (gx gf : Nat) (v9 v10 v11 v12 : Value) (Q : Exit → Act → World → Prop) (a0 : Act) (w0 : World)  : Obl Try.prog bo2_ops (bo2_S m0 m1 c0 _hc1 _hc2 gx gf v9 v10 v11 v12) Q a0 w0 37 :=
  obl_val (.move (.tmp 156)) none rfl (by kernel_rfl) fun a w N H D => ⟨(fun _ _ hg => by cases hg), fun _ ho => wp_move (.inl ho) (fact_eq (c := .bool true) (D 36 (by kernel_rfl)) rfl (by kernel_rfl))⟩
theorem bo2_o38 (m0 m1 : Nat → Bool) (c0 : Int) (_hc1 : 0 ≤ c0) (_hc2 : c0 ≤ 255) (gx gf : Nat) (v9 v10 v11 v12 : Value) (b : Nat) (Q : Exit → Act → World → Prop) (a0 : Act) (w0 : World) (hs3 : a0.tmps.getD 3 undef = .pointer (some ⟨b, 0, none⟩)) (hB3 : Blk w0 b 24 (setL m0)) : Obl Try.prog bo2_ops (bo2_S m0 m1 c0 _hc1 _hc2 gx gf v9 v10 v11 v12) Q a0 w0 38 :=
  obl_load_old 3 (b) rfl (some (37, true)) (by kernel_rfl) (by kernel_rfl) hs3 hB3 (fun a w N H D => (fun _ _ hg => by cases hg; exact ⟨157, by kernel_rfl, fact_eq (D 37 (by kernel_rfl)) rfl (by kernel_rfl)⟩))
theorem bo2_o39 (m0 m1 : Nat → Bool) (c0 : Int) (_hc1 : 0 ≤ c0) (_hc2 : c0 ≤ 255) (gx gf : Nat) (v9 v10 v11 v12 : Value) (Q : Exit → Act → World → Prop) (a0 : Act) (w0 : World)  : Obl Try.prog bo2_ops (bo2_S m0 m1 c0 _hc1 _hc2 gx gf v9 v10 v11 v12) Q a0 w0 39 :=
  obl_val (.call { callee := .value (.func 11), args := #[.tmp 158], argTypes := #[24] }) (some (37, true)) rfl (by kernel_rfl) fun a w N H D => ⟨(fun _ _ hg => by cases hg; exact ⟨157, by kernel_rfl, fact_eq (D 37 (by kernel_rfl)) rfl (by kernel_rfl)⟩), fun _ ho => wp_call_eq ho (fun xs w => by kernel_rfl) (by simp only [List.map_toArray, List.map_cons, List.map_nil]; rw [(fact_eq (c := setV m0) (D 38 (by kernel_rfl)) rfl (by kernel_rfl))]) (fold_any (m0) _)⟩
theorem bo2_o40 (m0 m1 : Nat → Bool) (c0 : Int) (_hc1 : 0 ≤ c0) (_hc2 : c0 ≤ 255) (gx gf : Nat) (v9 v10 v11 v12 : Value) (Q : Exit → Act → World → Prop) (a0 : Act) (w0 : World) (hs14 : a0.tmps.getD 14 undef = .slice (some ⟨gf, 0, none⟩) 256 256) : Obl Try.prog bo2_ops (bo2_S m0 m1 c0 _hc1 _hc2 gx gf v9 v10 v11 v12) Q a0 w0 40 :=
  obl_val (.move (.tmp 14)) (some (37, true)) rfl (by kernel_rfl) fun a w N H D => ⟨(fun _ _ hg => by cases hg; exact ⟨157, by kernel_rfl, fact_eq (D 37 (by kernel_rfl)) rfl (by kernel_rfl)⟩), fun _ ho => wp_move (.inl ho) (held_base H 14 (by kernel_rfl) hs14)⟩
theorem bo2_o41 (m0 m1 : Nat → Bool) (c0 : Int) (_hc1 : 0 ≤ c0) (_hc2 : c0 ≤ 255) (gx gf : Nat) (v9 v10 v11 v12 : Value) (Q : Exit → Act → World → Prop) (a0 : Act) (w0 : World) (hr14 : RdV w0 (.slice (some ⟨gf, 0, none⟩) 256 256) (((List.range 256).map (foldB m0 256)).map .bool)) : Obl Try.prog bo2_ops (bo2_S m0 m1 c0 _hc1 _hc2 gx gf v9 v10 v11 v12) Q a0 w0 41 :=
  obl_val (.call { callee := .value (.func 16), args := #[.tmp 160], argTypes := #[34] }) (some (37, true)) rfl (by kernel_rfl) fun a w N H D => ⟨(fun _ _ hg => by cases hg; exact ⟨157, by kernel_rfl, fact_eq (D 37 (by kernel_rfl)) rfl (by kernel_rfl)⟩), fun _ ho => wp_make ((List.range 256).map (foldB m0 256)) ho (fact_eq (c := .slice (some ⟨gf, 0, none⟩) 256 256) (D 40 (by kernel_rfl)) rfl (by kernel_rfl)) (hr14.below H.below)⟩
theorem bo2_o42 (m0 m1 : Nat → Bool) (c0 : Int) (_hc1 : 0 ≤ c0) (_hc2 : c0 ≤ 255) (gx gf : Nat) (v9 v10 v11 v12 : Value) (Q : Exit → Act → World → Prop) (a0 : Act) (w0 : World)  : Obl Try.prog bo2_ops (bo2_S m0 m1 c0 _hc1 _hc2 gx gf v9 v10 v11 v12) Q a0 w0 42 :=
  obl_val (.binOp .eql 24 (.tmp 159) (.tmp 161) 24) (some (37, true)) rfl (by kernel_rfl) fun a w N H D => ⟨(fun _ _ hg => by cases hg; exact ⟨157, by kernel_rfl, fact_eq (D 37 (by kernel_rfl)) rfl (by kernel_rfl)⟩), fun _ ho => wp_of_eq (wp_eq_set (m := (foldM (m0))) (m' := (makeM (((List.range 256).map (foldB m0 256)).take 256))) ho (fact_eq (c := setV (foldM (m0))) (D 39 (by kernel_rfl)) rfl (by kernel_rfl)) (fact_eq (c := setV (makeM (((List.range 256).map (foldB m0 256)).take 256))) (D 41 (by kernel_rfl)) rfl (by kernel_rfl))) (.bool true) (by rw [bo162 m0])⟩
theorem bo2_o43 (m0 m1 : Nat → Bool) (c0 : Int) (_hc1 : 0 ≤ c0) (_hc2 : c0 ≤ 255) (gx gf : Nat) (v9 v10 v11 v12 : Value) (Q : Exit → Act → World → Prop) (a0 : Act) (w0 : World)  : Obl Try.prog bo2_ops (bo2_S m0 m1 c0 _hc1 _hc2 gx gf v9 v10 v11 v12) Q a0 w0 43 :=
  obl_val (.pick (.tmp 157) (.tmp 162) (.const (.bool false))) none rfl (by kernel_rfl) fun a w N H D => ⟨(fun _ _ hg => by cases hg), fun _ ho => wp_pick (b := true) ho (fact_eq (c := .bool true) (D 37 (by kernel_rfl)) rfl (by kernel_rfl)) (fact_eq (c := .bool true) (D 42 (by kernel_rfl)) rfl (by kernel_rfl))⟩
theorem bo2_o44 (m0 m1 : Nat → Bool) (c0 : Int) (_hc1 : 0 ≤ c0) (_hc2 : c0 ≤ 255) (gx gf : Nat) (v9 v10 v11 v12 : Value) (Q : Exit → Act → World → Prop) (a0 : Act) (w0 : World)  : Obl Try.prog bo2_ops (bo2_S m0 m1 c0 _hc1 _hc2 gx gf v9 v10 v11 v12) Q a0 w0 44 :=
  obl_val (.move (.tmp 163)) none rfl (by kernel_rfl) fun a w N H D => ⟨(fun _ _ hg => by cases hg), fun _ ho => wp_move (.inl ho) (fact_eq (c := .bool true) (D 43 (by kernel_rfl)) rfl (by kernel_rfl))⟩
theorem bo2_o45 (m0 m1 : Nat → Bool) (c0 : Int) (_hc1 : 0 ≤ c0) (_hc2 : c0 ≤ 255) (gx gf : Nat) (v9 v10 v11 v12 : Value) (b : Nat) (Q : Exit → Act → World → Prop) (a0 : Act) (w0 : World) (hs3 : a0.tmps.getD 3 undef = .pointer (some ⟨b, 0, none⟩)) (hB3 : Blk w0 b 24 (setL m0)) : Obl Try.prog bo2_ops (bo2_S m0 m1 c0 _hc1 _hc2 gx gf v9 v10 v11 v12) Q a0 w0 45 :=
  obl_load_old 3 (b) rfl (some (44, true)) (by kernel_rfl) (by kernel_rfl) hs3 hB3 (fun a w N H D => (fun _ _ hg => by cases hg; exact ⟨164, by kernel_rfl, fact_eq (D 44 (by kernel_rfl)) rfl (by kernel_rfl)⟩))
theorem bo2_o46 (m0 m1 : Nat → Bool) (c0 : Int) (_hc1 : 0 ≤ c0) (_hc2 : c0 ≤ 255) (gx gf : Nat) (v9 v10 v11 v12 : Value) (Q : Exit → Act → World → Prop) (a0 : Act) (w0 : World) (hs2 : a0.tmps.getD 2 undef = .int .u8 c0) : Obl Try.prog bo2_ops (bo2_S m0 m1 c0 _hc1 _hc2 gx gf v9 v10 v11 v12) Q a0 w0 46 :=
  obl_val (.move (.tmp 2)) (some (44, true)) rfl (by kernel_rfl) fun a w N H D => ⟨(fun _ _ hg => by cases hg; exact ⟨164, by kernel_rfl, fact_eq (D 44 (by kernel_rfl)) rfl (by kernel_rfl)⟩), fun _ ho => wp_move (.inl ho) (held_base H 2 (by kernel_rfl) hs2)⟩
theorem bo2_o47 (m0 m1 : Nat → Bool) (c0 : Int) (_hc1 : 0 ≤ c0) (_hc2 : c0 ≤ 255) (gx gf : Nat) (v9 v10 v11 v12 : Value) (Q : Exit → Act → World → Prop) (a0 : Act) (w0 : World)  : Obl Try.prog bo2_ops (bo2_S m0 m1 c0 _hc1 _hc2 gx gf v9 v10 v11 v12) Q a0 w0 47 :=
  obl_val (.call { callee := .value (.func 14), args := #[.tmp 165, .tmp 166], argTypes := #[24, 5] }) (some (44, true)) rfl (by kernel_rfl) fun a w N H D => ⟨(fun _ _ hg => by cases hg; exact ⟨164, by kernel_rfl, fact_eq (D 44 (by kernel_rfl)) rfl (by kernel_rfl)⟩), fun _ ho => wp_call_eq ho (fun xs w => by kernel_rfl) (by simp only [List.map_toArray, List.map_cons, List.map_nil]; rw [(fact_eq (c := setV m0) (D 45 (by kernel_rfl)) rfl (by kernel_rfl)), (fact_eq (c := .int .u8 c0) (D 46 (by kernel_rfl)) rfl (by kernel_rfl))]) (has_any m0 (c0) (by omega) (by omega) _)⟩
theorem bo2_o48 (m0 m1 : Nat → Bool) (c0 : Int) (_hc1 : 0 ≤ c0) (_hc2 : c0 ≤ 255) (gx gf : Nat) (v9 v10 v11 v12 : Value) (Q : Exit → Act → World → Prop) (a0 : Act) (w0 : World) (hs7 : a0.tmps.getD 7 undef = .slice (some ⟨gx, 0, none⟩) 256 256) : Obl Try.prog bo2_ops (bo2_S m0 m1 c0 _hc1 _hc2 gx gf v9 v10 v11 v12) Q a0 w0 48 :=
  obl_val (.move (.tmp 7)) (some (44, true)) rfl (by kernel_rfl) fun a w N H D => ⟨(fun _ _ hg => by cases hg; exact ⟨164, by kernel_rfl, fact_eq (D 44 (by kernel_rfl)) rfl (by kernel_rfl)⟩), fun _ ho => wp_move (.inl ho) (held_base H 7 (by kernel_rfl) hs7)⟩
theorem bo2_o49 (m0 m1 : Nat → Bool) (c0 : Int) (_hc1 : 0 ≤ c0) (_hc2 : c0 ≤ 255) (gx gf : Nat) (v9 v10 v11 v12 : Value) (Q : Exit → Act → World → Prop) (a0 : Act) (w0 : World) (hs2 : a0.tmps.getD 2 undef = .int .u8 c0) : Obl Try.prog bo2_ops (bo2_S m0 m1 c0 _hc1 _hc2 gx gf v9 v10 v11 v12) Q a0 w0 49 :=
  obl_val (.move (.tmp 2)) (some (44, true)) rfl (by kernel_rfl) fun a w N H D => ⟨(fun _ _ hg => by cases hg; exact ⟨164, by kernel_rfl, fact_eq (D 44 (by kernel_rfl)) rfl (by kernel_rfl)⟩), fun _ ho => wp_move (.inl ho) (held_base H 2 (by kernel_rfl) hs2)⟩
theorem bo2_o50 (m0 m1 : Nat → Bool) (c0 : Int) (_hc1 : 0 ≤ c0) (_hc2 : c0 ≤ 255) (gx gf : Nat) (v9 v10 v11 v12 : Value) (Q : Exit → Act → World → Prop) (a0 : Act) (w0 : World)  : Obl Try.prog bo2_ops (bo2_S m0 m1 c0 _hc1 _hc2 gx gf v9 v10 v11 v12) Q a0 w0 50 :=
  obl_val (.indexAddr 34 (.tmp 168) (.tmp 169)) (some (44, true)) rfl (by kernel_rfl) fun a w N H D => ⟨(fun _ _ hg => by cases hg; exact ⟨164, by kernel_rfl, fact_eq (D 44 (by kernel_rfl)) rfl (by kernel_rfl)⟩), fun _ ho => wp_index8 ho (fact_eq (c := .slice (some ⟨gx, 0, none⟩) 256 256) (D 48 (by kernel_rfl)) rfl (by kernel_rfl)) (fact_eq (c := .int .u8 c0) (D 49 (by kernel_rfl)) rfl (by kernel_rfl)) _hc1 (by omega)⟩
theorem bo2_o51 (m0 m1 : Nat → Bool) (c0 : Int) (_hc1 : 0 ≤ c0) (_hc2 : c0 ≤ 255) (gx gf : Nat) (v9 v10 v11 v12 : Value) (Q : Exit → Act → World → Prop) (a0 : Act) (w0 : World) (hB7 : Blk w0 gx 4 (boolsL m0 256)) : Obl Try.prog bo2_ops (bo2_S m0 m1 c0 _hc1 _hc2 gx gf v9 v10 v11 v12) Q a0 w0 51 :=
  obl_val (.load 4 (.tmp 170)) (some (44, true)) rfl (by kernel_rfl) fun a w N H D => ⟨(fun _ _ hg => by cases hg; exact ⟨164, by kernel_rfl, fact_eq (D 44 (by kernel_rfl)) rfl (by kernel_rfl)⟩), fun _ ho => wp_load_bool ho (fact_eq (c := .pointer (some ⟨gx, (c0).toNat, none⟩)) (D 50 (by kernel_rfl)) rfl (by kernel_rfl)) (((hB7.below H.below hB7.lt).cell _).trans (boolsL_at m0 (c0).toNat (by omega)))⟩
theorem bo2_o52 (m0 m1 : Nat → Bool) (c0 : Int) (_hc1 : 0 ≤ c0) (_hc2 : c0 ≤ 255) (gx gf : Nat) (v9 v10 v11 v12 : Value) (Q : Exit → Act → World → Prop) (a0 : Act) (w0 : World)  : Obl Try.prog bo2_ops (bo2_S m0 m1 c0 _hc1 _hc2 gx gf v9 v10 v11 v12) Q a0 w0 52 :=
  obl_val (.binOp .eql 4 (.tmp 167) (.tmp 171) 4) (some (44, true)) rfl (by kernel_rfl) fun a w N H D => ⟨(fun _ _ hg => by cases hg; exact ⟨164, by kernel_rfl, fact_eq (D 44 (by kernel_rfl)) rfl (by kernel_rfl)⟩), fun _ ho => wp_of_eq (wp_eqb ho (fact_eq (c := .bool (m0 (c0).toNat)) (D 47 (by kernel_rfl)) rfl (by kernel_rfl)) (fact_eq (c := .bool (m0 (c0).toNat)) (D 51 (by kernel_rfl)) rfl (by kernel_rfl))) (.bool true) (by rw [beq_self_eq_true])⟩
theorem bo2_o53 (m0 m1 : Nat → Bool) (c0 : Int) (_hc1 : 0 ≤ c0) (_hc2 : c0 ≤ 255) (gx gf : Nat) (v9 v10 v11 v12 : Value) (Q : Exit → Act → World → Prop) (a0 : Act) (w0 : World)  : Obl Try.prog bo2_ops (bo2_S m0 m1 c0 _hc1 _hc2 gx gf v9 v10 v11 v12) Q a0 w0 53 :=
  obl_val (.pick (.tmp 164) (.tmp 172) (.const (.bool false))) none rfl (by kernel_rfl) fun a w N H D => ⟨(fun _ _ hg => by cases hg), fun _ ho => wp_pick (b := true) ho (fact_eq (c := .bool true) (D 44 (by kernel_rfl)) rfl (by kernel_rfl)) (fact_eq (c := .bool true) (D 52 (by kernel_rfl)) rfl (by kernel_rfl))⟩
theorem bo2_o54 (m0 m1 : Nat → Bool) (c0 : Int) (_hc1 : 0 ≤ c0) (_hc2 : c0 ≤ 255) (gx gf : Nat) (v9 v10 v11 v12 : Value) (Q : Exit → Act → World → Prop) (a0 : Act) (w0 : World)  : Obl Try.prog bo2_ops (bo2_S m0 m1 c0 _hc1 _hc2 gx gf v9 v10 v11 v12) Q a0 w0 54 :=
  obl_val (.move (.tmp 173)) none rfl (by kernel_rfl) fun a w N H D => ⟨(fun _ _ hg => by cases hg), fun _ ho => wp_move (.inl ho) (fact_eq (c := .bool true) (D 53 (by kernel_rfl)) rfl (by kernel_rfl))⟩
theorem bo2_o55 (m0 m1 : Nat → Bool) (c0 : Int) (_hc1 : 0 ≤ c0) (_hc2 : c0 ≤ 255) (gx gf : Nat) (v9 v10 v11 v12 : Value) (Q : Exit → Act → World → Prop) (a0 : Act) (w0 : World)  : Obl Try.prog bo2_ops (bo2_S m0 m1 c0 _hc1 _hc2 gx gf v9 v10 v11 v12) Q a0 w0 55 :=
  obl_val (.call { callee := .value (.func 7), args := #[.const (.slice none 0 0)], argTypes := #[42] }) (some (54, true)) rfl (by kernel_rfl) fun a w N H D => ⟨(fun _ _ hg => by cases hg; exact ⟨174, by kernel_rfl, fact_eq (D 54 (by kernel_rfl)) rfl (by kernel_rfl)⟩), fun _ ho => wp_union_nil ho⟩
theorem bo2_o56 (m0 m1 : Nat → Bool) (c0 : Int) (_hc1 : 0 ≤ c0) (_hc2 : c0 ≤ 255) (gx gf : Nat) (v9 v10 v11 v12 : Value) (Q : Exit → Act → World → Prop) (a0 : Act) (w0 : World)  : Obl Try.prog bo2_ops (bo2_S m0 m1 c0 _hc1 _hc2 gx gf v9 v10 v11 v12) Q a0 w0 56 :=
  obl_val (.build 24 #[]) (some (54, true)) rfl (by kernel_rfl) fun a w N H D => ⟨(fun _ _ hg => by cases hg; exact ⟨174, by kernel_rfl, fact_eq (D 54 (by kernel_rfl)) rfl (by kernel_rfl)⟩), fun _ ho => wp_build0 ho⟩
theorem bo2_o57 (m0 m1 : Nat → Bool) (c0 : Int) (_hc1 : 0 ≤ c0) (_hc2 : c0 ≤ 255) (gx gf : Nat) (v9 v10 v11 v12 : Value) (Q : Exit → Act → World → Prop) (a0 : Act) (w0 : World)  : Obl Try.prog bo2_ops (bo2_S m0 m1 c0 _hc1 _hc2 gx gf v9 v10 v11 v12) Q a0 w0 57 :=
  obl_val (.binOp .eql 24 (.tmp 175) (.tmp 176) 24) (some (54, true)) rfl (by kernel_rfl) fun a w N H D => ⟨(fun _ _ hg => by cases hg; exact ⟨174, by kernel_rfl, fact_eq (D 54 (by kernel_rfl)) rfl (by kernel_rfl)⟩), fun _ ho => wp_of_eq (wp_eq_set (m := (anyM [])) (m' := (fun _ => false)) ho (fact_eq (c := setV (anyM [])) (D 55 (by kernel_rfl)) rfl (by kernel_rfl)) (fact_eq (c := setV (fun _ => false)) (D 56 (by kernel_rfl)) rfl (by kernel_rfl))) (.bool true) (by rw [bo177])⟩
theorem bo2_o58 (m0 m1 : Nat → Bool) (c0 : Int) (_hc1 : 0 ≤ c0) (_hc2 : c0 ≤ 255) (gx gf : Nat) (v9 v10 v11 v12 : Value) (Q : Exit → Act → World → Prop) (a0 : Act) (w0 : World)  : Obl Try.prog bo2_ops (bo2_S m0 m1 c0 _hc1 _hc2 gx gf v9 v10 v11 v12) Q a0 w0 58 :=
  obl_val (.pick (.tmp 174) (.tmp 177) (.const (.bool false))) none rfl (by kernel_rfl) fun a w N H D => ⟨(fun _ _ hg => by cases hg), fun _ ho => wp_pick (b := true) ho (fact_eq (c := .bool true) (D 54 (by kernel_rfl)) rfl (by kernel_rfl)) (fact_eq (c := .bool true) (D 57 (by kernel_rfl)) rfl (by kernel_rfl))⟩
theorem bo2_o59 (m0 m1 : Nat → Bool) (c0 : Int) (_hc1 : 0 ≤ c0) (_hc2 : c0 ≤ 255) (gx gf : Nat) (v9 v10 v11 v12 : Value) (Q : Exit → Act → World → Prop) (a0 : Act) (w0 : World)  : Obl Try.prog bo2_ops (bo2_S m0 m1 c0 _hc1 _hc2 gx gf v9 v10 v11 v12) Q a0 w0 59 :=
  obl_val (.move (.tmp 178)) none rfl (by kernel_rfl) fun a w N H D => ⟨(fun _ _ hg => by cases hg), fun _ ho => wp_move (.inl ho) (fact_eq (c := .bool true) (D 58 (by kernel_rfl)) rfl (by kernel_rfl))⟩
theorem bo2_o60 (m0 m1 : Nat → Bool) (c0 : Int) (_hc1 : 0 ≤ c0) (_hc2 : c0 ≤ 255) (gx gf : Nat) (v9 v10 v11 v12 : Value) (Q : Exit → Act → World → Prop) (a0 : Act) (w0 : World)  : Obl Try.prog bo2_ops (bo2_S m0 m1 c0 _hc1 _hc2 gx gf v9 v10 v11 v12) Q a0 w0 60 :=
  obl_val (.call { callee := .value (.func 12), args := #[], argTypes := #[] }) (some (59, true)) rfl (by kernel_rfl) fun a w N H D => ⟨(fun _ _ hg => by cases hg; exact ⟨179, by kernel_rfl, fact_eq (D 59 (by kernel_rfl)) rfl (by kernel_rfl)⟩), fun _ ho => wp_call_eq ho (fun xs w => by kernel_rfl) (by simp) (awake_any _)⟩
theorem bo2_o61 (m0 m1 : Nat → Bool) (c0 : Int) (_hc1 : 0 ≤ c0) (_hc2 : c0 ≤ 255) (gx gf : Nat) (v9 v10 v11 v12 : Value) (Q : Exit → Act → World → Prop) (a0 : Act) (w0 : World)  : Obl Try.prog bo2_ops (bo2_S m0 m1 c0 _hc1 _hc2 gx gf v9 v10 v11 v12) Q a0 w0 61 :=
  obl_val (.pick (.tmp 179) (.tmp 180) (.const (.bool false))) none rfl (by kernel_rfl) fun a w N H D => ⟨(fun _ _ hg => by cases hg), fun _ ho => wp_pick (b := true) ho (fact_eq (c := .bool true) (D 59 (by kernel_rfl)) rfl (by kernel_rfl)) (fact_eq (c := .bool true) (D 60 (by kernel_rfl)) rfl (by kernel_rfl))⟩
theorem bo2_o62 (m0 m1 : Nat → Bool) (c0 : Int) (_hc1 : 0 ≤ c0) (_hc2 : c0 ≤ 255) (gx gf : Nat) (v9 v10 v11 v12 : Value) (Q : Exit → Act → World → Prop) (a0 : Act) (w0 : World)  : Obl Try.prog bo2_ops (bo2_S m0 m1 c0 _hc1 _hc2 gx gf v9 v10 v11 v12) Q a0 w0 62 :=
  obl_val (.assign (.tmp 181)) none rfl (by kernel_rfl) fun a w N H D => ⟨(fun _ _ hg => by cases hg), fun _ ho => wp_move (.inr ho) (fact_eq (c := .bool true) (D 61 (by kernel_rfl)) rfl (by kernel_rfl))⟩
theorem bo2_all (m0 m1 : Nat → Bool) (c0 : Int) (_hc1 : 0 ≤ c0) (_hc2 : c0 ≤ 255) (gx gf : Nat) (v9 v10 v11 v12 : Value) (b : Nat) (Q : Exit → Act → World → Prop) (a0 : Act) (w0 : World) (hs3 : a0.tmps.getD 3 undef = .pointer (some ⟨b, 0, none⟩)) (hB3 : Blk w0 b 24 (setL m0)) (hs4 : a0.tmps.getD 4 undef = .pointer (some ⟨b + 1, 0, none⟩)) (hB4 : Blk w0 (b + 1) 24 (setL m1)) (hs2 : a0.tmps.getD 2 undef = .int .u8 c0) (hs7 : a0.tmps.getD 7 undef = .slice (some ⟨gx, 0, none⟩) 256 256) (hB7 : Blk w0 gx 4 (boolsL m0 256)) (hs9 : a0.tmps.getD 9 undef = v9) (hr9 : RdV w0 (v9) (((List.range 256).map (fun x => m0 x || m1 x)).map .bool)) (hs10 : a0.tmps.getD 10 undef = v10) (hr10 : RdV w0 (v10) (((List.range 256).map (fun x => m0 x && m1 x)).map .bool)) (hs11 : a0.tmps.getD 11 undef = v11) (hr11 : RdV w0 (v11) (((List.range 256).map (fun x => m0 x && !m1 x)).map .bool)) (hs12 : a0.tmps.getD 12 undef = v12) (hr12 : RdV w0 (v12) (((List.range 256).map (fun x => !m0 x)).map .bool)) (hs14 : a0.tmps.getD 14 undef = .slice (some ⟨gf, 0, none⟩) 256 256) (hr14 : RdV w0 (.slice (some ⟨gf, 0, none⟩) 256 256) (((List.range 256).map (foldB m0 256)).map .bool)) (hs13 : a0.tmps.getD 13 undef = .bool (allB m0 m1 256)) : ∀ i, i < bo2_ops.size → Obl Try.prog bo2_ops (bo2_S m0 m1 c0 _hc1 _hc2 gx gf v9 v10 v11 v12) Q a0 w0 i := by
  intro i hi
  have hs : bo2_ops.size = 63 := by kernel_rfl
  rw [hs] at hi
  clear hs
  match i, hi with
  | 0, _ => exact bo2_o0 m0 m1 c0 _hc1 _hc2 gx gf v9 v10 v11 v12 b Q a0 w0 hs3 hB3
  | 1, _ => exact bo2_o1 m0 m1 c0 _hc1 _hc2 gx gf v9 v10 v11 v12 b Q a0 w0 hs4 hB4
  | 2, _ => exact bo2_o2 m0 m1 c0 _hc1 _hc2 gx gf v9 v10 v11 v12  Q a0 w0 
  | 3, _ => exact bo2_o3 m0 m1 c0 _hc1 _hc2 gx gf v9 v10 v11 v12  Q a0 w0 
  | 4, _ => exact bo2_o4 m0 m1 c0 _hc1 _hc2 gx gf v9 v10 v11 v12  Q a0 w0 hs9
  | 5, _ => exact bo2_o5 m0 m1 c0 _hc1 _hc2 gx gf v9 v10 v11 v12  Q a0 w0 hr9
  | 6, _ => exact bo2_o6 m0 m1 c0 _hc1 _hc2 gx gf v9 v10 v11 v12  Q a0 w0 
  | 7, _ => exact bo2_o7 m0 m1 c0 _hc1 _hc2 gx gf v9 v10 v11 v12  Q a0 w0 
  | 8, _ => exact bo2_o8 m0 m1 c0 _hc1 _hc2 gx gf v9 v10 v11 v12 b Q a0 w0 hs3 hB3
  | 9, _ => exact bo2_o9 m0 m1 c0 _hc1 _hc2 gx gf v9 v10 v11 v12 b Q a0 w0 hs4 hB4
  | 10, _ => exact bo2_o10 m0 m1 c0 _hc1 _hc2 gx gf v9 v10 v11 v12  Q a0 w0 
  | 11, _ => exact bo2_o11 m0 m1 c0 _hc1 _hc2 gx gf v9 v10 v11 v12  Q a0 w0 hs10
  | 12, _ => exact bo2_o12 m0 m1 c0 _hc1 _hc2 gx gf v9 v10 v11 v12  Q a0 w0 hr10
  | 13, _ => exact bo2_o13 m0 m1 c0 _hc1 _hc2 gx gf v9 v10 v11 v12  Q a0 w0 
  | 14, _ => exact bo2_o14 m0 m1 c0 _hc1 _hc2 gx gf v9 v10 v11 v12  Q a0 w0 
  | 15, _ => exact bo2_o15 m0 m1 c0 _hc1 _hc2 gx gf v9 v10 v11 v12  Q a0 w0 
  | 16, _ => exact bo2_o16 m0 m1 c0 _hc1 _hc2 gx gf v9 v10 v11 v12 b Q a0 w0 hs3 hB3
  | 17, _ => exact bo2_o17 m0 m1 c0 _hc1 _hc2 gx gf v9 v10 v11 v12 b Q a0 w0 hs4 hB4
  | 18, _ => exact bo2_o18 m0 m1 c0 _hc1 _hc2 gx gf v9 v10 v11 v12  Q a0 w0 
  | 19, _ => exact bo2_o19 m0 m1 c0 _hc1 _hc2 gx gf v9 v10 v11 v12  Q a0 w0 hs11
  | 20, _ => exact bo2_o20 m0 m1 c0 _hc1 _hc2 gx gf v9 v10 v11 v12  Q a0 w0 hr11
  | 21, _ => exact bo2_o21 m0 m1 c0 _hc1 _hc2 gx gf v9 v10 v11 v12  Q a0 w0 
  | 22, _ => exact bo2_o22 m0 m1 c0 _hc1 _hc2 gx gf v9 v10 v11 v12  Q a0 w0 
  | 23, _ => exact bo2_o23 m0 m1 c0 _hc1 _hc2 gx gf v9 v10 v11 v12  Q a0 w0 
  | 24, _ => exact bo2_o24 m0 m1 c0 _hc1 _hc2 gx gf v9 v10 v11 v12 b Q a0 w0 hs3 hB3
  | 25, _ => exact bo2_o25 m0 m1 c0 _hc1 _hc2 gx gf v9 v10 v11 v12  Q a0 w0 
  | 26, _ => exact bo2_o26 m0 m1 c0 _hc1 _hc2 gx gf v9 v10 v11 v12  Q a0 w0 hs12
  | 27, _ => exact bo2_o27 m0 m1 c0 _hc1 _hc2 gx gf v9 v10 v11 v12  Q a0 w0 hr12
  | 28, _ => exact bo2_o28 m0 m1 c0 _hc1 _hc2 gx gf v9 v10 v11 v12  Q a0 w0 
  | 29, _ => exact bo2_o29 m0 m1 c0 _hc1 _hc2 gx gf v9 v10 v11 v12  Q a0 w0 
  | 30, _ => exact bo2_o30 m0 m1 c0 _hc1 _hc2 gx gf v9 v10 v11 v12  Q a0 w0 
  | 31, _ => exact bo2_o31 m0 m1 c0 _hc1 _hc2 gx gf v9 v10 v11 v12 b Q a0 w0 hs3 hB3
  | 32, _ => exact bo2_o32 m0 m1 c0 _hc1 _hc2 gx gf v9 v10 v11 v12 b Q a0 w0 hs4 hB4
  | 33, _ => exact bo2_o33 m0 m1 c0 _hc1 _hc2 gx gf v9 v10 v11 v12  Q a0 w0 
  | 34, _ => exact bo2_o34 m0 m1 c0 _hc1 _hc2 gx gf v9 v10 v11 v12  Q a0 w0 hs13
  | 35, _ => exact bo2_o35 m0 m1 c0 _hc1 _hc2 gx gf v9 v10 v11 v12  Q a0 w0 
  | 36, _ => exact bo2_o36 m0 m1 c0 _hc1 _hc2 gx gf v9 v10 v11 v12  Q a0 w0 
  | 37, _ => exact bo2_o37 m0 m1 c0 _hc1 _hc2 gx gf v9 v10 v11 v12  Q a0 w0 
  | 38, _ => exact bo2_o38 m0 m1 c0 _hc1 _hc2 gx gf v9 v10 v11 v12 b Q a0 w0 hs3 hB3
  | 39, _ => exact bo2_o39 m0 m1 c0 _hc1 _hc2 gx gf v9 v10 v11 v12  Q a0 w0 
  | 40, _ => exact bo2_o40 m0 m1 c0 _hc1 _hc2 gx gf v9 v10 v11 v12  Q a0 w0 hs14
  | 41, _ => exact bo2_o41 m0 m1 c0 _hc1 _hc2 gx gf v9 v10 v11 v12  Q a0 w0 hr14
  | 42, _ => exact bo2_o42 m0 m1 c0 _hc1 _hc2 gx gf v9 v10 v11 v12  Q a0 w0 
  | 43, _ => exact bo2_o43 m0 m1 c0 _hc1 _hc2 gx gf v9 v10 v11 v12  Q a0 w0 
  | 44, _ => exact bo2_o44 m0 m1 c0 _hc1 _hc2 gx gf v9 v10 v11 v12  Q a0 w0 
  | 45, _ => exact bo2_o45 m0 m1 c0 _hc1 _hc2 gx gf v9 v10 v11 v12 b Q a0 w0 hs3 hB3
  | 46, _ => exact bo2_o46 m0 m1 c0 _hc1 _hc2 gx gf v9 v10 v11 v12  Q a0 w0 hs2
  | 47, _ => exact bo2_o47 m0 m1 c0 _hc1 _hc2 gx gf v9 v10 v11 v12  Q a0 w0 
  | 48, _ => exact bo2_o48 m0 m1 c0 _hc1 _hc2 gx gf v9 v10 v11 v12  Q a0 w0 hs7
  | 49, _ => exact bo2_o49 m0 m1 c0 _hc1 _hc2 gx gf v9 v10 v11 v12  Q a0 w0 hs2
  | 50, _ => exact bo2_o50 m0 m1 c0 _hc1 _hc2 gx gf v9 v10 v11 v12  Q a0 w0 
  | 51, _ => exact bo2_o51 m0 m1 c0 _hc1 _hc2 gx gf v9 v10 v11 v12  Q a0 w0 hB7
  | 52, _ => exact bo2_o52 m0 m1 c0 _hc1 _hc2 gx gf v9 v10 v11 v12  Q a0 w0 
  | 53, _ => exact bo2_o53 m0 m1 c0 _hc1 _hc2 gx gf v9 v10 v11 v12  Q a0 w0 
  | 54, _ => exact bo2_o54 m0 m1 c0 _hc1 _hc2 gx gf v9 v10 v11 v12  Q a0 w0 
  | 55, _ => exact bo2_o55 m0 m1 c0 _hc1 _hc2 gx gf v9 v10 v11 v12  Q a0 w0 
  | 56, _ => exact bo2_o56 m0 m1 c0 _hc1 _hc2 gx gf v9 v10 v11 v12  Q a0 w0 
  | 57, _ => exact bo2_o57 m0 m1 c0 _hc1 _hc2 gx gf v9 v10 v11 v12  Q a0 w0 
  | 58, _ => exact bo2_o58 m0 m1 c0 _hc1 _hc2 gx gf v9 v10 v11 v12  Q a0 w0 
  | 59, _ => exact bo2_o59 m0 m1 c0 _hc1 _hc2 gx gf v9 v10 v11 v12  Q a0 w0 
  | 60, _ => exact bo2_o60 m0 m1 c0 _hc1 _hc2 gx gf v9 v10 v11 v12  Q a0 w0 
  | 61, _ => exact bo2_o61 m0 m1 c0 _hc1 _hc2 gx gf v9 v10 v11 v12  Q a0 w0 
  | 62, _ => exact bo2_o62 m0 m1 c0 _hc1 _hc2 gx gf v9 v10 v11 v12  Q a0 w0 
  | i + 63, h => exact absurd h (by omega)
set_option maxRecDepth 100000 in
set_option maxHeartbeats 40000000 in
theorem both_any (m0 m1 : Nat → Bool) (c0 : Int) (wc : (Lit.int .u8 c0).wf = true) (w : World) :
    Calls Try.prog 5 #[setV m0, setV m1, .int .u8 c0] w fun e w' => e = .returned (.bool true) ∧ Below w.heap.size w w' := by
  have hc0 : 0 ≤ c0 ∧ c0 ≤ 255 := by
    simp [Lit.wf, IntKind.min, IntKind.max, IntKind.signed, IntKind.bits] at wc
    omega
  obtain ⟨hc1, hc2⟩ := hc0
  clear wc
  unfold setV
  go_enter Try.func5, Try.ntmps5
  go_wp2
  have hb3 : Blk ((w.alloc (.cells (setL m0).toArray 24)).alloc (.cells (setL m1).toArray 24)) w.heap.size 24 (setL m0) := (Blk.new w (setL m0) 24).alloc _
  have hb4 : Blk ((w.alloc (.cells (setL m0).toArray 24)).alloc (.cells (setL m1).toArray 24)) (w.heap.size + 1) 24 (setL m1) := by simpa using Blk.new (w.alloc (.cells (setL m0).toArray 24)) (setL m1) 24
  have hw0 : Below w.heap.size w ((w.alloc (.cells (setL m0).toArray 24)).alloc (.cells (setL m1).toArray 24)) := by go_grown
  refine region_named (ops' := bo1_ops) (by kernel_rfl) (bo1_S m0 m1) 182 rfl (by kernel_rfl) (by kernel_rfl) (bo1_all m0 m1 w.heap.size _ _ _ rfl hb3.drew rfl hb4.drew) ?_
  rename_i hK
  intro a w1 N H hF
  obtain ⟨gx, q7, n7, hx⟩ : (RG.bools m0).g (a.tmps.getD 7 undef) w1 N := fact_val (hF 4 (by kernel_rfl)) rfl (by kernel_rfl)
  obtain ⟨gy, q8, n8, hy⟩ : (RG.bools m1).g (a.tmps.getD 8 undef) w1 N := fact_val (hF 5 (by kernel_rfl)) rfl (by kernel_rfl)
  have q2 : a.tmps.getD 2 undef = .int .u8 c0 := held_base H 2 (by kernel_rfl) rfl
  have q3 : a.tmps.getD 3 undef = .pointer (some ⟨w.heap.size, 0, none⟩) := held_base H 3 (by kernel_rfl) rfl
  have q4 : a.tmps.getD 4 undef = .pointer (some ⟨w.heap.size + 1, 0, none⟩) := held_base H 4 (by kernel_rfl) rfl
  have q6 : a.tmps.getD 6 undef = .bool false := held_base H 6 (by kernel_rfl) rfl
  have hd : a.defers = [] := H.defers
  have hw1 : Below w.heap.size w w1 := hw0.drew.trans (H.below.mono hw0.size)
  replace hb3 := hb3.drew.below H.below hb3.lt
  replace hb4 := hb4.drew.below H.below hb4.lt
  clear hF hw0
  refine hK _ _ ?_
  clear hK
  have Hsz : a.tmps.size = 182 := H.size
  clear H
  rw [act_eq a 182 Hsz, show List.range 182 = [0, 1, 2, 3, 4, 5, 6, 7, 8, 9, 10, 11, 12, 13, 14, 15, 16, 17, 18, 19, 20, 21, 22, 23, 24, 25, 26, 27, 28, 29, 30, 31, 32, 33, 34, 35, 36, 37, 38, 39, 40, 41, 42, 43, 44, 45, 46, 47, 48, 49, 50, 51, 52, 53, 54, 55, 56, 57, 58, 59, 60, 61, 62, 63, 64, 65, 66, 67, 68, 69, 70, 71, 72, 73, 74, 75, 76, 77, 78, 79, 80, 81, 82, 83, 84, 85, 86, 87, 88, 89, 90, 91, 92, 93, 94, 95, 96, 97, 98, 99, 100, 101, 102, 103, 104, 105, 106, 107, 108, 109, 110, 111, 112, 113, 114, 115, 116, 117, 118, 119, 120, 121, 122, 123, 124, 125, 126, 127, 128, 129, 130, 131, 132, 133, 134, 135, 136, 137, 138, 139, 140, 141, 142, 143, 144, 145, 146, 147, 148, 149, 150, 151, 152, 153, 154, 155, 156, 157, 158, 159, 160, 161, 162, 163, 164, 165, 166, 167, 168, 169, 170, 171, 172, 173, 174, 175, 176, 177, 178, 179, 180, 181] from rfl]
  simp only [List.map_cons, List.map_nil, q2, q3, q4, q6, q7, q8, hd]
  generalize a.tmps.getD 0 undef = z0
  generalize a.tmps.getD 1 undef = z1
  generalize a.tmps.getD 5 undef = z5
  generalize a.tmps.getD 9 undef = z9
  generalize a.tmps.getD 10 undef = z10
  generalize a.tmps.getD 11 undef = z11
  generalize a.tmps.getD 12 undef = z12
  generalize a.tmps.getD 13 undef = z13
  generalize a.tmps.getD 14 undef = z14
  generalize a.tmps.getD 15 undef = z15
  generalize a.tmps.getD 16 undef = z16
  generalize a.tmps.getD 17 undef = z17
  generalize a.tmps.getD 18 undef = z18
  generalize a.tmps.getD 19 undef = z19
  generalize a.tmps.getD 20 undef = z20
  generalize a.tmps.getD 21 undef = z21
  generalize a.tmps.getD 22 undef = z22
  generalize a.tmps.getD 23 undef = z23
  generalize a.tmps.getD 24 undef = z24
  generalize a.tmps.getD 25 undef = z25
  generalize a.tmps.getD 26 undef = z26
  generalize a.tmps.getD 27 undef = z27
  generalize a.tmps.getD 28 undef = z28
  generalize a.tmps.getD 29 undef = z29
  generalize a.tmps.getD 30 undef = z30
  generalize a.tmps.getD 31 undef = z31
  generalize a.tmps.getD 32 undef = z32
  generalize a.tmps.getD 33 undef = z33
  generalize a.tmps.getD 34 undef = z34
  generalize a.tmps.getD 35 undef = z35
  generalize a.tmps.getD 36 undef = z36
  generalize a.tmps.getD 37 undef = z37
  generalize a.tmps.getD 38 undef = z38
  generalize a.tmps.getD 39 undef = z39
  generalize a.tmps.getD 40 undef = z40
  generalize a.tmps.getD 41 undef = z41
  generalize a.tmps.getD 42 undef = z42
  generalize a.tmps.getD 43 undef = z43
  generalize a.tmps.getD 44 undef = z44
  generalize a.tmps.getD 45 undef = z45
  generalize a.tmps.getD 46 undef = z46
  generalize a.tmps.getD 47 undef = z47
  generalize a.tmps.getD 48 undef = z48
  generalize a.tmps.getD 49 undef = z49
  generalize a.tmps.getD 50 undef = z50
  generalize a.tmps.getD 51 undef = z51
  generalize a.tmps.getD 52 undef = z52
  generalize a.tmps.getD 53 undef = z53
  generalize a.tmps.getD 54 undef = z54
  generalize a.tmps.getD 55 undef = z55
  generalize a.tmps.getD 56 undef = z56
  generalize a.tmps.getD 57 undef = z57
  generalize a.tmps.getD 58 undef = z58
  generalize a.tmps.getD 59 undef = z59
  generalize a.tmps.getD 60 undef = z60
  generalize a.tmps.getD 61 undef = z61
  generalize a.tmps.getD 62 undef = z62
  generalize a.tmps.getD 63 undef = z63
  generalize a.tmps.getD 64 undef = z64
  generalize a.tmps.getD 65 undef = z65
  generalize a.tmps.getD 66 undef = z66
  generalize a.tmps.getD 67 undef = z67
  generalize a.tmps.getD 68 undef = z68
  generalize a.tmps.getD 69 undef = z69
  generalize a.tmps.getD 70 undef = z70
  generalize a.tmps.getD 71 undef = z71
  generalize a.tmps.getD 72 undef = z72
  generalize a.tmps.getD 73 undef = z73
  generalize a.tmps.getD 74 undef = z74
  generalize a.tmps.getD 75 undef = z75
  generalize a.tmps.getD 76 undef = z76
  generalize a.tmps.getD 77 undef = z77
  generalize a.tmps.getD 78 undef = z78
  generalize a.tmps.getD 79 undef = z79
  generalize a.tmps.getD 80 undef = z80
  generalize a.tmps.getD 81 undef = z81
  generalize a.tmps.getD 82 undef = z82
  generalize a.tmps.getD 83 undef = z83
  generalize a.tmps.getD 84 undef = z84
  generalize a.tmps.getD 85 undef = z85
  generalize a.tmps.getD 86 undef = z86
  generalize a.tmps.getD 87 undef = z87
  generalize a.tmps.getD 88 undef = z88
  generalize a.tmps.getD 89 undef = z89
  generalize a.tmps.getD 90 undef = z90
  generalize a.tmps.getD 91 undef = z91
  generalize a.tmps.getD 92 undef = z92
  generalize a.tmps.getD 93 undef = z93
  generalize a.tmps.getD 94 undef = z94
  generalize a.tmps.getD 95 undef = z95
  generalize a.tmps.getD 96 undef = z96
  generalize a.tmps.getD 97 undef = z97
  generalize a.tmps.getD 98 undef = z98
  generalize a.tmps.getD 99 undef = z99
  generalize a.tmps.getD 100 undef = z100
  generalize a.tmps.getD 101 undef = z101
  generalize a.tmps.getD 102 undef = z102
  generalize a.tmps.getD 103 undef = z103
  generalize a.tmps.getD 104 undef = z104
  generalize a.tmps.getD 105 undef = z105
  generalize a.tmps.getD 106 undef = z106
  generalize a.tmps.getD 107 undef = z107
  generalize a.tmps.getD 108 undef = z108
  generalize a.tmps.getD 109 undef = z109
  generalize a.tmps.getD 110 undef = z110
  generalize a.tmps.getD 111 undef = z111
  generalize a.tmps.getD 112 undef = z112
  generalize a.tmps.getD 113 undef = z113
  generalize a.tmps.getD 114 undef = z114
  generalize a.tmps.getD 115 undef = z115
  generalize a.tmps.getD 116 undef = z116
  generalize a.tmps.getD 117 undef = z117
  generalize a.tmps.getD 118 undef = z118
  generalize a.tmps.getD 119 undef = z119
  generalize a.tmps.getD 120 undef = z120
  generalize a.tmps.getD 121 undef = z121
  generalize a.tmps.getD 122 undef = z122
  generalize a.tmps.getD 123 undef = z123
  generalize a.tmps.getD 124 undef = z124
  generalize a.tmps.getD 125 undef = z125
  generalize a.tmps.getD 126 undef = z126
  generalize a.tmps.getD 127 undef = z127
  generalize a.tmps.getD 128 undef = z128
  generalize a.tmps.getD 129 undef = z129
  generalize a.tmps.getD 130 undef = z130
  generalize a.tmps.getD 131 undef = z131
  generalize a.tmps.getD 132 undef = z132
  generalize a.tmps.getD 133 undef = z133
  generalize a.tmps.getD 134 undef = z134
  generalize a.tmps.getD 135 undef = z135
  generalize a.tmps.getD 136 undef = z136
  generalize a.tmps.getD 137 undef = z137
  generalize a.tmps.getD 138 undef = z138
  generalize a.tmps.getD 139 undef = z139
  generalize a.tmps.getD 140 undef = z140
  generalize a.tmps.getD 141 undef = z141
  generalize a.tmps.getD 142 undef = z142
  generalize a.tmps.getD 143 undef = z143
  generalize a.tmps.getD 144 undef = z144
  generalize a.tmps.getD 145 undef = z145
  generalize a.tmps.getD 146 undef = z146
  generalize a.tmps.getD 147 undef = z147
  generalize a.tmps.getD 148 undef = z148
  generalize a.tmps.getD 149 undef = z149
  generalize a.tmps.getD 150 undef = z150
  generalize a.tmps.getD 151 undef = z151
  generalize a.tmps.getD 152 undef = z152
  generalize a.tmps.getD 153 undef = z153
  generalize a.tmps.getD 154 undef = z154
  generalize a.tmps.getD 155 undef = z155
  generalize a.tmps.getD 156 undef = z156
  generalize a.tmps.getD 157 undef = z157
  generalize a.tmps.getD 158 undef = z158
  generalize a.tmps.getD 159 undef = z159
  generalize a.tmps.getD 160 undef = z160
  generalize a.tmps.getD 161 undef = z161
  generalize a.tmps.getD 162 undef = z162
  generalize a.tmps.getD 163 undef = z163
  generalize a.tmps.getD 164 undef = z164
  generalize a.tmps.getD 165 undef = z165
  generalize a.tmps.getD 166 undef = z166
  generalize a.tmps.getD 167 undef = z167
  generalize a.tmps.getD 168 undef = z168
  generalize a.tmps.getD 169 undef = z169
  generalize a.tmps.getD 170 undef = z170
  generalize a.tmps.getD 171 undef = z171
  generalize a.tmps.getD 172 undef = z172
  generalize a.tmps.getD 173 undef = z173
  generalize a.tmps.getD 174 undef = z174
  generalize a.tmps.getD 175 undef = z175
  generalize a.tmps.getD 176 undef = z176
  generalize a.tmps.getD 177 undef = z177
  generalize a.tmps.getD 178 undef = z178
  generalize a.tmps.getD 179 undef = z179
  generalize a.tmps.getD 180 undef = z180
  generalize a.tmps.getD 181 undef = z181
  clear q7 q8 n7 n8 hd Hsz q2 q3 q4 q6
  clear a N
  obtain ⟨d0, d1, d2, d3, _, _, _, _⟩ := hb3.four
  go_wp2_with fail
  refine (bools_any m0 w1).mono ?_
  rintro e w2 ⟨gf, rfl, hgf, hf, hb2⟩
  have hx0 := hx.lt
  have hy0 := hy.lt
  have h40 := hb4.lt
  replace hx := hx.below hb2 hx.lt
  replace hy := hy.below hb2 hy.lt
  replace hb3 := hb3.below hb2 hb3.lt
  replace hb4 := hb4.below hb2 hb4.lt
  have hw2 := hw1.trans (hb2.mono hw1.size)
  clear hb2 hw1 d0 d1 d2 d3
  rw [← foldV_zero] at hf
  have hgx := Nat.lt_of_lt_of_le hx.lt (Nat.le_refl _)
  have hgy := Nat.lt_of_lt_of_le hy.lt (Nat.le_refl _)
  have hgl := Nat.lt_of_lt_of_le hf.lt (Nat.le_refl _)
  have hg4 := Nat.lt_of_lt_of_le hb4.lt (Nat.le_refl _)
  have hfx : gx ≠ gf := by omega
  have hfy : gy ≠ gf := by omega
  have hf3 : w.heap.size < gf ∧ w.heap.size + 1 < gf := by omega
  have hS : Stay w w2.heap.size (bothB m0 m1 w.heap.size gx gy gf 0) w2 := by
    refine ⟨?_, ?_, hw2, Nat.le_refl _, by omega⟩ <;> simp only [bothB, List.mem_cons, List.not_mem_nil, or_false]
    · rintro p (rfl | rfl | rfl | rfl | rfl)
      · exact hf
      · exact hx
      · exact hy
      · exact hb3
      · exact hb4
    · rintro p (rfl | rfl | rfl | rfl | rfl) <;> simp only [] <;> omega
  clear hb3 hb4 hx hy hf hw2
  go_wp2
  go_loopw [9, 10, 11, 12, 13, 15] (fun v1 v2 v3 v4 vb i wr => ∃ k : Nat, k ≤ 256 ∧ i = .int .i64 k ∧ vb = .bool (allB m0 m1 k) ∧ Stay w w2.heap.size (bothB m0 m1 w.heap.size gx gy gf k) wr ∧
      Rows4 wr w2.heap.size 4 v1 v2 v3 v4 (upL (fun x => m0 x || m1 x) k) (upL (fun x => m0 x && m1 x) k) (upL (fun x => m0 x && !m1 x) k) (upL (fun x => !m0 x) k)) (fun _ _ _ _ _ i _ => 256 - (intOf i).toNat)
  case atStart =>
    exact ⟨0, by omega, rfl, rfl, hS, Rows4.nil _ _ _⟩
  case round =>
    clear hS
    obtain ⟨k, hk, rfl, rfl, hS, hR⟩ := hrel
    by_cases hlt : k < 256
    · have hxk : (boolsL m0 256)[k]? = some (.bool (m0 k)) := boolsL_at m0 k hlt
      have hyk : (boolsL m1 256)[k]? = some (.bool (m1 k)) := boolsL_at m1 k hlt
      have hl : (upL (fun x => m0 x || m1 x) k).length ≤ 256 ∧ (upL (fun x => m0 x && m1 x) k).length ≤ 256 ∧ (upL (fun x => m0 x && !m1 x) k).length ≤ 256 ∧ (upL (fun x => !m0 x) k).length ≤ 256 := by simp only [upL_length]; omega
      obtain ⟨l1, l2, l3, l4⟩ := hl
      have u1 := upL_succ (fun x => m0 x || m1 x) k
      have u2 := upL_succ (fun x => m0 x && m1 x) k
      have u3 := upL_succ (fun x => m0 x && !m1 x) k
      have u4 := upL_succ (fun x => !m0 x) k
      have ub := allB_succ m0 m1 k
      cases E0 : m0 k with
      | false =>
        rw [E0] at hxk u4 ub
        replace u1 : _ = _ ++ [Value.bool (m0 k || m1 k)] := u1
        replace u2 : _ = _ ++ [Value.bool (m0 k && m1 k)] := u2
        replace u3 : _ = _ ++ [Value.bool (m0 k && !m1 k)] := u3
        rw [E0] at u1 u2 u3
        cases EB : allB m0 m1 k with
        | false =>
            rw [EB] at ub
            clear EB
            have E0' := Lib.hid E0
            clear E0
            have Hxk := Lib.hid hxk
            have Hyk := Lib.hid hyk
            have U := Lib.hid (And.intro u1 (And.intro u2 (And.intro u3 (And.intro u4 ub))))
            clear hxk hyk u1 u2 u3 u4 ub
            have cx := ((hS.blk (gx, 4, boolsL m0 256) (by simp [bothB])).cell k).trans Hxk.out
            have cy := ((hS.blk (gy, 4, boolsL m1 256) (by simp [bothB])).cell k).trans Hyk.out
            go_wp2_with (first
              | (at_builtin; refine append_far rfl (.tmp 26) (.tmp 37) 34 rfl w2.heap.size 4 1 1 elem_bool u9 _ _ rfl hR.o1 [.bool (m1 k)] rfl rfl (one_bool _) (by omega) (by omega) hS.size ?_; intro g0 p0 wq0 hn0 hm0; have R0 := hR.step hn0 hm0; have S0 := hS.moved hm0 hR.o1; clear cx cy; have cx0 := ((S0.blk (gx, 4, boolsL m0 256) (by simp [bothB])).cell k).trans Hxk.out; have cy0 := ((S0.blk (gy, 4, boolsL m1 256) (by simp [bothB])).cell k).trans Hyk.out)
              | (at_builtin; refine append_far rfl (.tmp 39) (.tmp 50) 34 rfl w2.heap.size 4 1 1 elem_bool u10 _ _ rfl R0.o1 [.bool false] rfl rfl (one_bool _) (by omega) (by omega) S0.size ?_; intro g1 p1 wq1 hn1 hm1; have R1 := R0.step hn1 hm1; have S1 := S0.moved hm1 R0.o1; clear cx0 cy0; have cx1 := ((S1.blk (gx, 4, boolsL m0 256) (by simp [bothB])).cell k).trans Hxk.out; have cy1 := ((S1.blk (gy, 4, boolsL m1 256) (by simp [bothB])).cell k).trans Hyk.out)
              | (at_builtin; refine append_far rfl (.tmp 52) (.tmp 64) 34 rfl w2.heap.size 4 1 1 elem_bool u11 _ _ rfl R1.o1 [.bool false] rfl rfl (one_bool _) (by omega) (by omega) S1.size ?_; intro g2 p2 wq2 hn2 hm2; have R2 := R1.step hn2 hm2; have S2 := S1.moved hm2 R1.o1; clear cx1 cy1; have cx2 := ((S2.blk (gx, 4, boolsL m0 256) (by simp [bothB])).cell k).trans Hxk.out; have cy2 := ((S2.blk (gy, 4, boolsL m1 256) (by simp [bothB])).cell k).trans Hyk.out)
              | (at_builtin; refine append_far rfl (.tmp 66) (.tmp 72) 34 rfl w2.heap.size 4 1 1 elem_bool u12 _ _ rfl R2.o1 [.bool true] rfl rfl (one_bool _) (by omega) (by omega) S2.size ?_; intro g3 p3 wq3 hn3 hm3; have R3 := R2.step hn3 hm3; have S3 := S2.moved hm3 R2.o1; clear cx2 cy2; have cx3 := ((S3.blk (gx, 4, boolsL m0 256) (by simp [bothB])).cell k).trans Hxk.out; have cy3 := ((S3.blk (gy, 4, boolsL m1 256) (by simp [bothB])).cell k).trans Hyk.out))
            go_roundw
            case rel =>
              obtain ⟨u1, u2, u3, u4, ub⟩ := U.out
              refine ⟨k + 1, by omega, by go_num, by rw [ub]; rfl, ?_, ?_⟩
              · rw [bothB_same (.inl E0'.out)]
                exact S3
              · rw [u1, u2, u3, u4]
                exact R3
            case measure => simp [intOf]; omega
        | true =>
            rw [EB] at ub
            clear EB
            have E0' := Lib.hid E0
            clear E0
            have Hxk := Lib.hid hxk
            have Hyk := Lib.hid hyk
            have U := Lib.hid (And.intro u1 (And.intro u2 (And.intro u3 (And.intro u4 ub))))
            clear hxk hyk u1 u2 u3 u4 ub
            have cx := ((hS.blk (gx, 4, boolsL m0 256) (by simp [bothB])).cell k).trans Hxk.out
            have cy := ((hS.blk (gy, 4, boolsL m1 256) (by simp [bothB])).cell k).trans Hyk.out
            go_wp2_with (first
              | (at_builtin; refine append_far rfl (.tmp 26) (.tmp 37) 34 rfl w2.heap.size 4 1 1 elem_bool u9 _ _ rfl hR.o1 [.bool (m1 k)] rfl rfl (one_bool _) (by omega) (by omega) hS.size ?_; intro g0 p0 wq0 hn0 hm0; have R0 := hR.step hn0 hm0; have S0 := hS.moved hm0 hR.o1; clear cx cy; have cx0 := ((S0.blk (gx, 4, boolsL m0 256) (by simp [bothB])).cell k).trans Hxk.out; have cy0 := ((S0.blk (gy, 4, boolsL m1 256) (by simp [bothB])).cell k).trans Hyk.out)
              | (at_builtin; refine append_far rfl (.tmp 39) (.tmp 50) 34 rfl w2.heap.size 4 1 1 elem_bool u10 _ _ rfl R0.o1 [.bool false] rfl rfl (one_bool _) (by omega) (by omega) S0.size ?_; intro g1 p1 wq1 hn1 hm1; have R1 := R0.step hn1 hm1; have S1 := S0.moved hm1 R0.o1; clear cx0 cy0; have cx1 := ((S1.blk (gx, 4, boolsL m0 256) (by simp [bothB])).cell k).trans Hxk.out; have cy1 := ((S1.blk (gy, 4, boolsL m1 256) (by simp [bothB])).cell k).trans Hyk.out)
              | (at_builtin; refine append_far rfl (.tmp 52) (.tmp 64) 34 rfl w2.heap.size 4 1 1 elem_bool u11 _ _ rfl R1.o1 [.bool false] rfl rfl (one_bool _) (by omega) (by omega) S1.size ?_; intro g2 p2 wq2 hn2 hm2; have R2 := R1.step hn2 hm2; have S2 := S1.moved hm2 R1.o1; clear cx1 cy1; have cx2 := ((S2.blk (gx, 4, boolsL m0 256) (by simp [bothB])).cell k).trans Hxk.out; have cy2 := ((S2.blk (gy, 4, boolsL m1 256) (by simp [bothB])).cell k).trans Hyk.out)
              | (at_builtin; refine append_far rfl (.tmp 66) (.tmp 72) 34 rfl w2.heap.size 4 1 1 elem_bool u12 _ _ rfl R2.o1 [.bool true] rfl rfl (one_bool _) (by omega) (by omega) S2.size ?_; intro g3 p3 wq3 hn3 hm3; have R3 := R2.step hn3 hm3; have S3 := S2.moved hm3 R2.o1; clear cx2 cy2; have cx3 := ((S3.blk (gx, 4, boolsL m0 256) (by simp [bothB])).cell k).trans Hxk.out; have cy3 := ((S3.blk (gy, 4, boolsL m1 256) (by simp [bothB])).cell k).trans Hyk.out))
            go_roundw
            case rel =>
              obtain ⟨u1, u2, u3, u4, ub⟩ := U.out
              refine ⟨k + 1, by omega, by go_num, by rw [ub]; rfl, ?_, ?_⟩
              · rw [bothB_same (.inl E0'.out)]
                exact S3
              · rw [u1, u2, u3, u4]
                exact R3
            case measure => simp [intOf]; omega
      | true =>
        rw [E0] at hxk u4 ub
        replace u1 : _ = _ ++ [Value.bool (m0 k || m1 k)] := u1
        replace u2 : _ = _ ++ [Value.bool (m0 k && m1 k)] := u2
        replace u3 : _ = _ ++ [Value.bool (m0 k && !m1 k)] := u3
        rw [E0] at u1 u2 u3
        cases EB : allB m0 m1 k with
        | false =>
            rw [EB] at ub
            clear EB
            have E0' := Lib.hid E0
            clear E0
            have hcl : (97 ≤ k ∧ k ≤ 122) ∨ (65 ≤ k ∧ k ≤ 90) ∨ k < 65 ∨ (90 < k ∧ k < 97) ∨ 122 < k := by omega
            rcases hcl with hcl | hcl | hcl | hcl | hcl
            · have Hxk := Lib.hid hxk
              have Hyk := Lib.hid hyk
              have U := Lib.hid (And.intro u1 (And.intro u2 (And.intro u3 (And.intro u4 ub))))
              clear hxk hyk u1 u2 u3 u4 ub
              have cx := ((hS.blk (gx, 4, boolsL m0 256) (by simp [bothB])).cell k).trans Hxk.out
              have cy := ((hS.blk (gy, 4, boolsL m1 256) (by simp [bothB])).cell k).trans Hyk.out
              have hc0 : 97 ≤ k := by omega
              have hc1 : k ≤ 122 := by omega
              go_wp2_with (first
                | (at_builtin; refine append_far rfl (.tmp 26) (.tmp 37) 34 rfl w2.heap.size 4 1 1 elem_bool u9 _ _ rfl hR.o1 [.bool true] rfl rfl (one_bool _) (by omega) (by omega) hS.size ?_; intro g0 p0 wq0 hn0 hm0; have R0 := hR.step hn0 hm0; have S0 := hS.moved hm0 hR.o1; clear cx cy; have cx0 := ((S0.blk (gx, 4, boolsL m0 256) (by simp [bothB])).cell k).trans Hxk.out; have cy0 := ((S0.blk (gy, 4, boolsL m1 256) (by simp [bothB])).cell k).trans Hyk.out)
                | (at_builtin; refine append_far rfl (.tmp 39) (.tmp 50) 34 rfl w2.heap.size 4 1 1 elem_bool u10 _ _ rfl R0.o1 [.bool (m1 k)] rfl rfl (one_bool _) (by omega) (by omega) S0.size ?_; intro g1 p1 wq1 hn1 hm1; have R1 := R0.step hn1 hm1; have S1 := S0.moved hm1 R0.o1; clear cx0 cy0; have cx1 := ((S1.blk (gx, 4, boolsL m0 256) (by simp [bothB])).cell k).trans Hxk.out; have cy1 := ((S1.blk (gy, 4, boolsL m1 256) (by simp [bothB])).cell k).trans Hyk.out)
                | (at_builtin; refine append_far rfl (.tmp 52) (.tmp 64) 34 rfl w2.heap.size 4 1 1 elem_bool u11 _ _ rfl R1.o1 [.bool (!m1 k)] rfl rfl (one_bool _) (by omega) (by omega) S1.size ?_; intro g2 p2 wq2 hn2 hm2; have R2 := R1.step hn2 hm2; have S2 := S1.moved hm2 R1.o1; clear cx1 cy1; have cx2 := ((S2.blk (gx, 4, boolsL m0 256) (by simp [bothB])).cell k).trans Hxk.out; have cy2 := ((S2.blk (gy, 4, boolsL m1 256) (by simp [bothB])).cell k).trans Hyk.out)
                | (at_builtin; refine append_far rfl (.tmp 66) (.tmp 72) 34 rfl w2.heap.size 4 1 1 elem_bool u12 _ _ rfl R2.o1 [.bool false] rfl rfl (one_bool _) (by omega) (by omega) S2.size ?_; intro g3 p3 wq3 hn3 hm3; have R3 := R2.step hn3 hm3; have S3 := S2.moved hm3 R2.o1; clear cx2 cy2; have cx3 := ((S3.blk (gx, 4, boolsL m0 256) (by simp [bothB])).cell k).trans Hxk.out; have cy3 := ((S3.blk (gy, 4, boolsL m1 256) (by simp [bothB])).cell k).trans Hyk.out; obtain ⟨uz, hz⟩ : ∃ uz, (foldV m0 k)[k - 32]? = some uz := ⟨_, List.getElem?_eq_getElem (by rw [foldV_length]; omega)⟩; have cz := ((S3.blk (gf, 4, foldV m0 k) (by simp [bothB])).cell (k - 32)).trans hz; have fz := (S3.blk (gf, 4, foldV m0 k) (by simp [bothB])).frozen (k - 32); clear hz))
              go_roundw
              case rel =>
                obtain ⟨u1, u2, u3, u4, ub⟩ := U.out
                refine ⟨k + 1, by omega, by go_num, by rw [ub]; rfl, ?_, ?_⟩
                · rw [bothB_put (j := k - 32) E0'.out (.inl ⟨by omega, by omega, by omega⟩)]
                  exact (S3.set (bothB_ne hfx hfy hf3) (by omega) _ _)
                · rw [u1, u2, u3, u4]
                  exact (R3.far (p := ⟨gf, _, none⟩) hgl _)
              case measure => simp [intOf]; omega
            · have Hxk := Lib.hid hxk
              have Hyk := Lib.hid hyk
              have U := Lib.hid (And.intro u1 (And.intro u2 (And.intro u3 (And.intro u4 ub))))
              clear hxk hyk u1 u2 u3 u4 ub
              have cx := ((hS.blk (gx, 4, boolsL m0 256) (by simp [bothB])).cell k).trans Hxk.out
              have cy := ((hS.blk (gy, 4, boolsL m1 256) (by simp [bothB])).cell k).trans Hyk.out
              have hc0 : 65 ≤ k := by omega
              have hc1 : k ≤ 90 := by omega
              go_wp2_with (first
                | (at_builtin; refine append_far rfl (.tmp 26) (.tmp 37) 34 rfl w2.heap.size 4 1 1 elem_bool u9 _ _ rfl hR.o1 [.bool true] rfl rfl (one_bool _) (by omega) (by omega) hS.size ?_; intro g0 p0 wq0 hn0 hm0; have R0 := hR.step hn0 hm0; have S0 := hS.moved hm0 hR.o1; clear cx cy; have cx0 := ((S0.blk (gx, 4, boolsL m0 256) (by simp [bothB])).cell k).trans Hxk.out; have cy0 := ((S0.blk (gy, 4, boolsL m1 256) (by simp [bothB])).cell k).trans Hyk.out)
                | (at_builtin; refine append_far rfl (.tmp 39) (.tmp 50) 34 rfl w2.heap.size 4 1 1 elem_bool u10 _ _ rfl R0.o1 [.bool (m1 k)] rfl rfl (one_bool _) (by omega) (by omega) S0.size ?_; intro g1 p1 wq1 hn1 hm1; have R1 := R0.step hn1 hm1; have S1 := S0.moved hm1 R0.o1; clear cx0 cy0; have cx1 := ((S1.blk (gx, 4, boolsL m0 256) (by simp [bothB])).cell k).trans Hxk.out; have cy1 := ((S1.blk (gy, 4, boolsL m1 256) (by simp [bothB])).cell k).trans Hyk.out)
                | (at_builtin; refine append_far rfl (.tmp 52) (.tmp 64) 34 rfl w2.heap.size 4 1 1 elem_bool u11 _ _ rfl R1.o1 [.bool (!m1 k)] rfl rfl (one_bool _) (by omega) (by omega) S1.size ?_; intro g2 p2 wq2 hn2 hm2; have R2 := R1.step hn2 hm2; have S2 := S1.moved hm2 R1.o1; clear cx1 cy1; have cx2 := ((S2.blk (gx, 4, boolsL m0 256) (by simp [bothB])).cell k).trans Hxk.out; have cy2 := ((S2.blk (gy, 4, boolsL m1 256) (by simp [bothB])).cell k).trans Hyk.out)
                | (at_builtin; refine append_far rfl (.tmp 66) (.tmp 72) 34 rfl w2.heap.size 4 1 1 elem_bool u12 _ _ rfl R2.o1 [.bool false] rfl rfl (one_bool _) (by omega) (by omega) S2.size ?_; intro g3 p3 wq3 hn3 hm3; have R3 := R2.step hn3 hm3; have S3 := S2.moved hm3 R2.o1; clear cx2 cy2; have cx3 := ((S3.blk (gx, 4, boolsL m0 256) (by simp [bothB])).cell k).trans Hxk.out; have cy3 := ((S3.blk (gy, 4, boolsL m1 256) (by simp [bothB])).cell k).trans Hyk.out; obtain ⟨uz, hz⟩ : ∃ uz, (foldV m0 k)[k + 32]? = some uz := ⟨_, List.getElem?_eq_getElem (by rw [foldV_length]; omega)⟩; have cz := ((S3.blk (gf, 4, foldV m0 k) (by simp [bothB])).cell (k + 32)).trans hz; have fz := (S3.blk (gf, 4, foldV m0 k) (by simp [bothB])).frozen (k + 32); clear hz))
              go_roundw
              case rel =>
                obtain ⟨u1, u2, u3, u4, ub⟩ := U.out
                refine ⟨k + 1, by omega, by go_num, by rw [ub]; rfl, ?_, ?_⟩
                · rw [bothB_put (j := k + 32) E0'.out (.inr ⟨by omega, by omega, by omega⟩)]
                  exact (S3.set (bothB_ne hfx hfy hf3) (by omega) _ _)
                · rw [u1, u2, u3, u4]
                  exact (R3.far (p := ⟨gf, _, none⟩) hgl _)
              case measure => simp [intOf]; omega
            · have Hxk := Lib.hid hxk
              have Hyk := Lib.hid hyk
              have U := Lib.hid (And.intro u1 (And.intro u2 (And.intro u3 (And.intro u4 ub))))
              clear hxk hyk u1 u2 u3 u4 ub
              have cx := ((hS.blk (gx, 4, boolsL m0 256) (by simp [bothB])).cell k).trans Hxk.out
              have cy := ((hS.blk (gy, 4, boolsL m1 256) (by simp [bothB])).cell k).trans Hyk.out
              have hc0 : k < 65 := by omega
              go_wp2_with (first
                | (at_builtin; refine append_far rfl (.tmp 26) (.tmp 37) 34 rfl w2.heap.size 4 1 1 elem_bool u9 _ _ rfl hR.o1 [.bool true] rfl rfl (one_bool _) (by omega) (by omega) hS.size ?_; intro g0 p0 wq0 hn0 hm0; have R0 := hR.step hn0 hm0; have S0 := hS.moved hm0 hR.o1; clear cx cy; have cx0 := ((S0.blk (gx, 4, boolsL m0 256) (by simp [bothB])).cell k).trans Hxk.out; have cy0 := ((S0.blk (gy, 4, boolsL m1 256) (by simp [bothB])).cell k).trans Hyk.out)
                | (at_builtin; refine append_far rfl (.tmp 39) (.tmp 50) 34 rfl w2.heap.size 4 1 1 elem_bool u10 _ _ rfl R0.o1 [.bool (m1 k)] rfl rfl (one_bool _) (by omega) (by omega) S0.size ?_; intro g1 p1 wq1 hn1 hm1; have R1 := R0.step hn1 hm1; have S1 := S0.moved hm1 R0.o1; clear cx0 cy0; have cx1 := ((S1.blk (gx, 4, boolsL m0 256) (by simp [bothB])).cell k).trans Hxk.out; have cy1 := ((S1.blk (gy, 4, boolsL m1 256) (by simp [bothB])).cell k).trans Hyk.out)
                | (at_builtin; refine append_far rfl (.tmp 52) (.tmp 64) 34 rfl w2.heap.size 4 1 1 elem_bool u11 _ _ rfl R1.o1 [.bool (!m1 k)] rfl rfl (one_bool _) (by omega) (by omega) S1.size ?_; intro g2 p2 wq2 hn2 hm2; have R2 := R1.step hn2 hm2; have S2 := S1.moved hm2 R1.o1; clear cx1 cy1; have cx2 := ((S2.blk (gx, 4, boolsL m0 256) (by simp [bothB])).cell k).trans Hxk.out; have cy2 := ((S2.blk (gy, 4, boolsL m1 256) (by simp [bothB])).cell k).trans Hyk.out)
                | (at_builtin; refine append_far rfl (.tmp 66) (.tmp 72) 34 rfl w2.heap.size 4 1 1 elem_bool u12 _ _ rfl R2.o1 [.bool false] rfl rfl (one_bool _) (by omega) (by omega) S2.size ?_; intro g3 p3 wq3 hn3 hm3; have R3 := R2.step hn3 hm3; have S3 := S2.moved hm3 R2.o1; clear cx2 cy2; have cx3 := ((S3.blk (gx, 4, boolsL m0 256) (by simp [bothB])).cell k).trans Hxk.out; have cy3 := ((S3.blk (gy, 4, boolsL m1 256) (by simp [bothB])).cell k).trans Hyk.out))
              go_roundw
              case rel =>
                obtain ⟨u1, u2, u3, u4, ub⟩ := U.out
                refine ⟨k + 1, by omega, by go_num, by rw [ub]; rfl, ?_, ?_⟩
                · rw [bothB_same (.inr ⟨by omega, by omega⟩)]
                  exact S3
                · rw [u1, u2, u3, u4]
                  exact R3
              case measure => simp [intOf]; omega
            · have Hxk := Lib.hid hxk
              have Hyk := Lib.hid hyk
              have U := Lib.hid (And.intro u1 (And.intro u2 (And.intro u3 (And.intro u4 ub))))
              clear hxk hyk u1 u2 u3 u4 ub
              have cx := ((hS.blk (gx, 4, boolsL m0 256) (by simp [bothB])).cell k).trans Hxk.out
              have cy := ((hS.blk (gy, 4, boolsL m1 256) (by simp [bothB])).cell k).trans Hyk.out
              have hc0 : 90 < k := by omega
              have hc1 : k < 97 := by omega
              go_wp2_with (first
                | (at_builtin; refine append_far rfl (.tmp 26) (.tmp 37) 34 rfl w2.heap.size 4 1 1 elem_bool u9 _ _ rfl hR.o1 [.bool true] rfl rfl (one_bool _) (by omega) (by omega) hS.size ?_; intro g0 p0 wq0 hn0 hm0; have R0 := hR.step hn0 hm0; have S0 := hS.moved hm0 hR.o1; clear cx cy; have cx0 := ((S0.blk (gx, 4, boolsL m0 256) (by simp [bothB])).cell k).trans Hxk.out; have cy0 := ((S0.blk (gy, 4, boolsL m1 256) (by simp [bothB])).cell k).trans Hyk.out)
                | (at_builtin; refine append_far rfl (.tmp 39) (.tmp 50) 34 rfl w2.heap.size 4 1 1 elem_bool u10 _ _ rfl R0.o1 [.bool (m1 k)] rfl rfl (one_bool _) (by omega) (by omega) S0.size ?_; intro g1 p1 wq1 hn1 hm1; have R1 := R0.step hn1 hm1; have S1 := S0.moved hm1 R0.o1; clear cx0 cy0; have cx1 := ((S1.blk (gx, 4, boolsL m0 256) (by simp [bothB])).cell k).trans Hxk.out; have cy1 := ((S1.blk (gy, 4, boolsL m1 256) (by simp [bothB])).cell k).trans Hyk.out)
                | (at_builtin; refine append_far rfl (.tmp 52) (.tmp 64) 34 rfl w2.heap.size 4 1 1 elem_bool u11 _ _ rfl R1.o1 [.bool (!m1 k)] rfl rfl (one_bool _) (by omega) (by omega) S1.size ?_; intro g2 p2 wq2 hn2 hm2; have R2 := R1.step hn2 hm2; have S2 := S1.moved hm2 R1.o1; clear cx1 cy1; have cx2 := ((S2.blk (gx, 4, boolsL m0 256) (by simp [bothB])).cell k).trans Hxk.out; have cy2 := ((S2.blk (gy, 4, boolsL m1 256) (by simp [bothB])).cell k).trans Hyk.out)
                | (at_builtin; refine append_far rfl (.tmp 66) (.tmp 72) 34 rfl w2.heap.size 4 1 1 elem_bool u12 _ _ rfl R2.o1 [.bool false] rfl rfl (one_bool _) (by omega) (by omega) S2.size ?_; intro g3 p3 wq3 hn3 hm3; have R3 := R2.step hn3 hm3; have S3 := S2.moved hm3 R2.o1; clear cx2 cy2; have cx3 := ((S3.blk (gx, 4, boolsL m0 256) (by simp [bothB])).cell k).trans Hxk.out; have cy3 := ((S3.blk (gy, 4, boolsL m1 256) (by simp [bothB])).cell k).trans Hyk.out))
              go_roundw
              case rel =>
                obtain ⟨u1, u2, u3, u4, ub⟩ := U.out
                refine ⟨k + 1, by omega, by go_num, by rw [ub]; rfl, ?_, ?_⟩
                · rw [bothB_same (.inr ⟨by omega, by omega⟩)]
                  exact S3
                · rw [u1, u2, u3, u4]
                  exact R3
              case measure => simp [intOf]; omega
            · have Hxk := Lib.hid hxk
              have Hyk := Lib.hid hyk
              have U := Lib.hid (And.intro u1 (And.intro u2 (And.intro u3 (And.intro u4 ub))))
              clear hxk hyk u1 u2 u3 u4 ub
              have cx := ((hS.blk (gx, 4, boolsL m0 256) (by simp [bothB])).cell k).trans Hxk.out
              have cy := ((hS.blk (gy, 4, boolsL m1 256) (by simp [bothB])).cell k).trans Hyk.out
              have hc0 : 122 < k := by omega
              go_wp2_with (first
                | (at_builtin; refine append_far rfl (.tmp 26) (.tmp 37) 34 rfl w2.heap.size 4 1 1 elem_bool u9 _ _ rfl hR.o1 [.bool true] rfl rfl (one_bool _) (by omega) (by omega) hS.size ?_; intro g0 p0 wq0 hn0 hm0; have R0 := hR.step hn0 hm0; have S0 := hS.moved hm0 hR.o1; clear cx cy; have cx0 := ((S0.blk (gx, 4, boolsL m0 256) (by simp [bothB])).cell k).trans Hxk.out; have cy0 := ((S0.blk (gy, 4, boolsL m1 256) (by simp [bothB])).cell k).trans Hyk.out)
                | (at_builtin; refine append_far rfl (.tmp 39) (.tmp 50) 34 rfl w2.heap.size 4 1 1 elem_bool u10 _ _ rfl R0.o1 [.bool (m1 k)] rfl rfl (one_bool _) (by omega) (by omega) S0.size ?_; intro g1 p1 wq1 hn1 hm1; have R1 := R0.step hn1 hm1; have S1 := S0.moved hm1 R0.o1; clear cx0 cy0; have cx1 := ((S1.blk (gx, 4, boolsL m0 256) (by simp [bothB])).cell k).trans Hxk.out; have cy1 := ((S1.blk (gy, 4, boolsL m1 256) (by simp [bothB])).cell k).trans Hyk.out)
                | (at_builtin; refine append_far rfl (.tmp 52) (.tmp 64) 34 rfl w2.heap.size 4 1 1 elem_bool u11 _ _ rfl R1.o1 [.bool (!m1 k)] rfl rfl (one_bool _) (by omega) (by omega) S1.size ?_; intro g2 p2 wq2 hn2 hm2; have R2 := R1.step hn2 hm2; have S2 := S1.moved hm2 R1.o1; clear cx1 cy1; have cx2 := ((S2.blk (gx, 4, boolsL m0 256) (by simp [bothB])).cell k).trans Hxk.out; have cy2 := ((S2.blk (gy, 4, boolsL m1 256) (by simp [bothB])).cell k).trans Hyk.out)
                | (at_builtin; refine append_far rfl (.tmp 66) (.tmp 72) 34 rfl w2.heap.size 4 1 1 elem_bool u12 _ _ rfl R2.o1 [.bool false] rfl rfl (one_bool _) (by omega) (by omega) S2.size ?_; intro g3 p3 wq3 hn3 hm3; have R3 := R2.step hn3 hm3; have S3 := S2.moved hm3 R2.o1; clear cx2 cy2; have cx3 := ((S3.blk (gx, 4, boolsL m0 256) (by simp [bothB])).cell k).trans Hxk.out; have cy3 := ((S3.blk (gy, 4, boolsL m1 256) (by simp [bothB])).cell k).trans Hyk.out))
              go_roundw
              case rel =>
                obtain ⟨u1, u2, u3, u4, ub⟩ := U.out
                refine ⟨k + 1, by omega, by go_num, by rw [ub]; rfl, ?_, ?_⟩
                · rw [bothB_same (.inr ⟨by omega, by omega⟩)]
                  exact S3
                · rw [u1, u2, u3, u4]
                  exact R3
              case measure => simp [intOf]; omega
        | true =>
            rw [EB] at ub
            clear EB
            have E0' := Lib.hid E0
            clear E0
            have hcl : (97 ≤ k ∧ k ≤ 122) ∨ (65 ≤ k ∧ k ≤ 90) ∨ k < 65 ∨ (90 < k ∧ k < 97) ∨ 122 < k := by omega
            rcases hcl with hcl | hcl | hcl | hcl | hcl
            · have Hxk := Lib.hid hxk
              have Hyk := Lib.hid hyk
              have U := Lib.hid (And.intro u1 (And.intro u2 (And.intro u3 (And.intro u4 ub))))
              clear hxk hyk u1 u2 u3 u4 ub
              have cx := ((hS.blk (gx, 4, boolsL m0 256) (by simp [bothB])).cell k).trans Hxk.out
              have cy := ((hS.blk (gy, 4, boolsL m1 256) (by simp [bothB])).cell k).trans Hyk.out
              have hc0 : 97 ≤ k := by omega
              have hc1 : k ≤ 122 := by omega
              go_wp2_with (first
                | (at_builtin; refine append_far rfl (.tmp 26) (.tmp 37) 34 rfl w2.heap.size 4 1 1 elem_bool u9 _ _ rfl hR.o1 [.bool true] rfl rfl (one_bool _) (by omega) (by omega) hS.size ?_; intro g0 p0 wq0 hn0 hm0; have R0 := hR.step hn0 hm0; have S0 := hS.moved hm0 hR.o1; clear cx cy; have cx0 := ((S0.blk (gx, 4, boolsL m0 256) (by simp [bothB])).cell k).trans Hxk.out; have cy0 := ((S0.blk (gy, 4, boolsL m1 256) (by simp [bothB])).cell k).trans Hyk.out)
                | (at_builtin; refine append_far rfl (.tmp 39) (.tmp 50) 34 rfl w2.heap.size 4 1 1 elem_bool u10 _ _ rfl R0.o1 [.bool (m1 k)] rfl rfl (one_bool _) (by omega) (by omega) S0.size ?_; intro g1 p1 wq1 hn1 hm1; have R1 := R0.step hn1 hm1; have S1 := S0.moved hm1 R0.o1; clear cx0 cy0; have cx1 := ((S1.blk (gx, 4, boolsL m0 256) (by simp [bothB])).cell k).trans Hxk.out; have cy1 := ((S1.blk (gy, 4, boolsL m1 256) (by simp [bothB])).cell k).trans Hyk.out)
                | (at_builtin; refine append_far rfl (.tmp 52) (.tmp 64) 34 rfl w2.heap.size 4 1 1 elem_bool u11 _ _ rfl R1.o1 [.bool (!m1 k)] rfl rfl (one_bool _) (by omega) (by omega) S1.size ?_; intro g2 p2 wq2 hn2 hm2; have R2 := R1.step hn2 hm2; have S2 := S1.moved hm2 R1.o1; clear cx1 cy1; have cx2 := ((S2.blk (gx, 4, boolsL m0 256) (by simp [bothB])).cell k).trans Hxk.out; have cy2 := ((S2.blk (gy, 4, boolsL m1 256) (by simp [bothB])).cell k).trans Hyk.out)
                | (at_builtin; refine append_far rfl (.tmp 66) (.tmp 72) 34 rfl w2.heap.size 4 1 1 elem_bool u12 _ _ rfl R2.o1 [.bool false] rfl rfl (one_bool _) (by omega) (by omega) S2.size ?_; intro g3 p3 wq3 hn3 hm3; have R3 := R2.step hn3 hm3; have S3 := S2.moved hm3 R2.o1; clear cx2 cy2; have cx3 := ((S3.blk (gx, 4, boolsL m0 256) (by simp [bothB])).cell k).trans Hxk.out; have cy3 := ((S3.blk (gy, 4, boolsL m1 256) (by simp [bothB])).cell k).trans Hyk.out; obtain ⟨uz, hz⟩ : ∃ uz, (foldV m0 k)[k - 32]? = some uz := ⟨_, List.getElem?_eq_getElem (by rw [foldV_length]; omega)⟩; have cz := ((S3.blk (gf, 4, foldV m0 k) (by simp [bothB])).cell (k - 32)).trans hz; have fz := (S3.blk (gf, 4, foldV m0 k) (by simp [bothB])).frozen (k - 32); clear hz))
              go_roundw
              case rel =>
                obtain ⟨u1, u2, u3, u4, ub⟩ := U.out
                refine ⟨k + 1, by omega, by go_num, by rw [ub]; rfl, ?_, ?_⟩
                · rw [bothB_put (j := k - 32) E0'.out (.inl ⟨by omega, by omega, by omega⟩)]
                  exact (S3.set (bothB_ne hfx hfy hf3) (by omega) _ _)
                · rw [u1, u2, u3, u4]
                  exact (R3.far (p := ⟨gf, _, none⟩) hgl _)
              case measure => simp [intOf]; omega
            · have Hxk := Lib.hid hxk
              have Hyk := Lib.hid hyk
              have U := Lib.hid (And.intro u1 (And.intro u2 (And.intro u3 (And.intro u4 ub))))
              clear hxk hyk u1 u2 u3 u4 ub
              have cx := ((hS.blk (gx, 4, boolsL m0 256) (by simp [bothB])).cell k).trans Hxk.out
              have cy := ((hS.blk (gy, 4, boolsL m1 256) (by simp [bothB])).cell k).trans Hyk.out
              have hc0 : 65 ≤ k := by omega
              have hc1 : k ≤ 90 := by omega
              go_wp2_with (first
                | (at_builtin; refine append_far rfl (.tmp 26) (.tmp 37) 34 rfl w2.heap.size 4 1 1 elem_bool u9 _ _ rfl hR.o1 [.bool true] rfl rfl (one_bool _) (by omega) (by omega) hS.size ?_; intro g0 p0 wq0 hn0 hm0; have R0 := hR.step hn0 hm0; have S0 := hS.moved hm0 hR.o1; clear cx cy; have cx0 := ((S0.blk (gx, 4, boolsL m0 256) (by simp [bothB])).cell k).trans Hxk.out; have cy0 := ((S0.blk (gy, 4, boolsL m1 256) (by simp [bothB])).cell k).trans Hyk.out)
                | (at_builtin; refine append_far rfl (.tmp 39) (.tmp 50) 34 rfl w2.heap.size 4 1 1 elem_bool u10 _ _ rfl R0.o1 [.bool (m1 k)] rfl rfl (one_bool _) (by omega) (by omega) S0.size ?_; intro g1 p1 wq1 hn1 hm1; have R1 := R0.step hn1 hm1; have S1 := S0.moved hm1 R0.o1; clear cx0 cy0; have cx1 := ((S1.blk (gx, 4, boolsL m0 256) (by simp [bothB])).cell k).trans Hxk.out; have cy1 := ((S1.blk (gy, 4, boolsL m1 256) (by simp [bothB])).cell k).trans Hyk.out)
                | (at_builtin; refine append_far rfl (.tmp 52) (.tmp 64) 34 rfl w2.heap.size 4 1 1 elem_bool u11 _ _ rfl R1.o1 [.bool (!m1 k)] rfl rfl (one_bool _) (by omega) (by omega) S1.size ?_; intro g2 p2 wq2 hn2 hm2; have R2 := R1.step hn2 hm2; have S2 := S1.moved hm2 R1.o1; clear cx1 cy1; have cx2 := ((S2.blk (gx, 4, boolsL m0 256) (by simp [bothB])).cell k).trans Hxk.out; have cy2 := ((S2.blk (gy, 4, boolsL m1 256) (by simp [bothB])).cell k).trans Hyk.out)
                | (at_builtin; refine append_far rfl (.tmp 66) (.tmp 72) 34 rfl w2.heap.size 4 1 1 elem_bool u12 _ _ rfl R2.o1 [.bool false] rfl rfl (one_bool _) (by omega) (by omega) S2.size ?_; intro g3 p3 wq3 hn3 hm3; have R3 := R2.step hn3 hm3; have S3 := S2.moved hm3 R2.o1; clear cx2 cy2; have cx3 := ((S3.blk (gx, 4, boolsL m0 256) (by simp [bothB])).cell k).trans Hxk.out; have cy3 := ((S3.blk (gy, 4, boolsL m1 256) (by simp [bothB])).cell k).trans Hyk.out; obtain ⟨uz, hz⟩ : ∃ uz, (foldV m0 k)[k + 32]? = some uz := ⟨_, List.getElem?_eq_getElem (by rw [foldV_length]; omega)⟩; have cz := ((S3.blk (gf, 4, foldV m0 k) (by simp [bothB])).cell (k + 32)).trans hz; have fz := (S3.blk (gf, 4, foldV m0 k) (by simp [bothB])).frozen (k + 32); clear hz))
              go_roundw
              case rel =>
                obtain ⟨u1, u2, u3, u4, ub⟩ := U.out
                refine ⟨k + 1, by omega, by go_num, by rw [ub]; rfl, ?_, ?_⟩
                · rw [bothB_put (j := k + 32) E0'.out (.inr ⟨by omega, by omega, by omega⟩)]
                  exact (S3.set (bothB_ne hfx hfy hf3) (by omega) _ _)
                · rw [u1, u2, u3, u4]
                  exact (R3.far (p := ⟨gf, _, none⟩) hgl _)
              case measure => simp [intOf]; omega
            · have Hxk := Lib.hid hxk
              have Hyk := Lib.hid hyk
              have U := Lib.hid (And.intro u1 (And.intro u2 (And.intro u3 (And.intro u4 ub))))
              clear hxk hyk u1 u2 u3 u4 ub
              have cx := ((hS.blk (gx, 4, boolsL m0 256) (by simp [bothB])).cell k).trans Hxk.out
              have cy := ((hS.blk (gy, 4, boolsL m1 256) (by simp [bothB])).cell k).trans Hyk.out
              have hc0 : k < 65 := by omega
              go_wp2_with (first
                | (at_builtin; refine append_far rfl (.tmp 26) (.tmp 37) 34 rfl w2.heap.size 4 1 1 elem_bool u9 _ _ rfl hR.o1 [.bool true] rfl rfl (one_bool _) (by omega) (by omega) hS.size ?_; intro g0 p0 wq0 hn0 hm0; have R0 := hR.step hn0 hm0; have S0 := hS.moved hm0 hR.o1; clear cx cy; have cx0 := ((S0.blk (gx, 4, boolsL m0 256) (by simp [bothB])).cell k).trans Hxk.out; have cy0 := ((S0.blk (gy, 4, boolsL m1 256) (by simp [bothB])).cell k).trans Hyk.out)
                | (at_builtin; refine append_far rfl (.tmp 39) (.tmp 50) 34 rfl w2.heap.size 4 1 1 elem_bool u10 _ _ rfl R0.o1 [.bool (m1 k)] rfl rfl (one_bool _) (by omega) (by omega) S0.size ?_; intro g1 p1 wq1 hn1 hm1; have R1 := R0.step hn1 hm1; have S1 := S0.moved hm1 R0.o1; clear cx0 cy0; have cx1 := ((S1.blk (gx, 4, boolsL m0 256) (by simp [bothB])).cell k).trans Hxk.out; have cy1 := ((S1.blk (gy, 4, boolsL m1 256) (by simp [bothB])).cell k).trans Hyk.out)
                | (at_builtin; refine append_far rfl (.tmp 52) (.tmp 64) 34 rfl w2.heap.size 4 1 1 elem_bool u11 _ _ rfl R1.o1 [.bool (!m1 k)] rfl rfl (one_bool _) (by omega) (by omega) S1.size ?_; intro g2 p2 wq2 hn2 hm2; have R2 := R1.step hn2 hm2; have S2 := S1.moved hm2 R1.o1; clear cx1 cy1; have cx2 := ((S2.blk (gx, 4, boolsL m0 256) (by simp [bothB])).cell k).trans Hxk.out; have cy2 := ((S2.blk (gy, 4, boolsL m1 256) (by simp [bothB])).cell k).trans Hyk.out)
                | (at_builtin; refine append_far rfl (.tmp 66) (.tmp 72) 34 rfl w2.heap.size 4 1 1 elem_bool u12 _ _ rfl R2.o1 [.bool false] rfl rfl (one_bool _) (by omega) (by omega) S2.size ?_; intro g3 p3 wq3 hn3 hm3; have R3 := R2.step hn3 hm3; have S3 := S2.moved hm3 R2.o1; clear cx2 cy2; have cx3 := ((S3.blk (gx, 4, boolsL m0 256) (by simp [bothB])).cell k).trans Hxk.out; have cy3 := ((S3.blk (gy, 4, boolsL m1 256) (by simp [bothB])).cell k).trans Hyk.out))
              go_roundw
              case rel =>
                obtain ⟨u1, u2, u3, u4, ub⟩ := U.out
                refine ⟨k + 1, by omega, by go_num, by rw [ub]; rfl, ?_, ?_⟩
                · rw [bothB_same (.inr ⟨by omega, by omega⟩)]
                  exact S3
                · rw [u1, u2, u3, u4]
                  exact R3
              case measure => simp [intOf]; omega
            · have Hxk := Lib.hid hxk
              have Hyk := Lib.hid hyk
              have U := Lib.hid (And.intro u1 (And.intro u2 (And.intro u3 (And.intro u4 ub))))
              clear hxk hyk u1 u2 u3 u4 ub
              have cx := ((hS.blk (gx, 4, boolsL m0 256) (by simp [bothB])).cell k).trans Hxk.out
              have cy := ((hS.blk (gy, 4, boolsL m1 256) (by simp [bothB])).cell k).trans Hyk.out
              have hc0 : 90 < k := by omega
              have hc1 : k < 97 := by omega
              go_wp2_with (first
                | (at_builtin; refine append_far rfl (.tmp 26) (.tmp 37) 34 rfl w2.heap.size 4 1 1 elem_bool u9 _ _ rfl hR.o1 [.bool true] rfl rfl (one_bool _) (by omega) (by omega) hS.size ?_; intro g0 p0 wq0 hn0 hm0; have R0 := hR.step hn0 hm0; have S0 := hS.moved hm0 hR.o1; clear cx cy; have cx0 := ((S0.blk (gx, 4, boolsL m0 256) (by simp [bothB])).cell k).trans Hxk.out; have cy0 := ((S0.blk (gy, 4, boolsL m1 256) (by simp [bothB])).cell k).trans Hyk.out)
                | (at_builtin; refine append_far rfl (.tmp 39) (.tmp 50) 34 rfl w2.heap.size 4 1 1 elem_bool u10 _ _ rfl R0.o1 [.bool (m1 k)] rfl rfl (one_bool _) (by omega) (by omega) S0.size ?_; intro g1 p1 wq1 hn1 hm1; have R1 := R0.step hn1 hm1; have S1 := S0.moved hm1 R0.o1; clear cx0 cy0; have cx1 := ((S1.blk (gx, 4, boolsL m0 256) (by simp [bothB])).cell k).trans Hxk.out; have cy1 := ((S1.blk (gy, 4, boolsL m1 256) (by simp [bothB])).cell k).trans Hyk.out)
                | (at_builtin; refine append_far rfl (.tmp 52) (.tmp 64) 34 rfl w2.heap.size 4 1 1 elem_bool u11 _ _ rfl R1.o1 [.bool (!m1 k)] rfl rfl (one_bool _) (by omega) (by omega) S1.size ?_; intro g2 p2 wq2 hn2 hm2; have R2 := R1.step hn2 hm2; have S2 := S1.moved hm2 R1.o1; clear cx1 cy1; have cx2 := ((S2.blk (gx, 4, boolsL m0 256) (by simp [bothB])).cell k).trans Hxk.out; have cy2 := ((S2.blk (gy, 4, boolsL m1 256) (by simp [bothB])).cell k).trans Hyk.out)
                | (at_builtin; refine append_far rfl (.tmp 66) (.tmp 72) 34 rfl w2.heap.size 4 1 1 elem_bool u12 _ _ rfl R2.o1 [.bool false] rfl rfl (one_bool _) (by omega) (by omega) S2.size ?_; intro g3 p3 wq3 hn3 hm3; have R3 := R2.step hn3 hm3; have S3 := S2.moved hm3 R2.o1; clear cx2 cy2; have cx3 := ((S3.blk (gx, 4, boolsL m0 256) (by simp [bothB])).cell k).trans Hxk.out; have cy3 := ((S3.blk (gy, 4, boolsL m1 256) (by simp [bothB])).cell k).trans Hyk.out))
              go_roundw
              case rel =>
                obtain ⟨u1, u2, u3, u4, ub⟩ := U.out
                refine ⟨k + 1, by omega, by go_num, by rw [ub]; rfl, ?_, ?_⟩
                · rw [bothB_same (.inr ⟨by omega, by omega⟩)]
                  exact S3
                · rw [u1, u2, u3, u4]
                  exact R3
              case measure => simp [intOf]; omega
            · have Hxk := Lib.hid hxk
              have Hyk := Lib.hid hyk
              have U := Lib.hid (And.intro u1 (And.intro u2 (And.intro u3 (And.intro u4 ub))))
              clear hxk hyk u1 u2 u3 u4 ub
              have cx := ((hS.blk (gx, 4, boolsL m0 256) (by simp [bothB])).cell k).trans Hxk.out
              have cy := ((hS.blk (gy, 4, boolsL m1 256) (by simp [bothB])).cell k).trans Hyk.out
              have hc0 : 122 < k := by omega
              go_wp2_with (first
                | (at_builtin; refine append_far rfl (.tmp 26) (.tmp 37) 34 rfl w2.heap.size 4 1 1 elem_bool u9 _ _ rfl hR.o1 [.bool true] rfl rfl (one_bool _) (by omega) (by omega) hS.size ?_; intro g0 p0 wq0 hn0 hm0; have R0 := hR.step hn0 hm0; have S0 := hS.moved hm0 hR.o1; clear cx cy; have cx0 := ((S0.blk (gx, 4, boolsL m0 256) (by simp [bothB])).cell k).trans Hxk.out; have cy0 := ((S0.blk (gy, 4, boolsL m1 256) (by simp [bothB])).cell k).trans Hyk.out)
                | (at_builtin; refine append_far rfl (.tmp 39) (.tmp 50) 34 rfl w2.heap.size 4 1 1 elem_bool u10 _ _ rfl R0.o1 [.bool (m1 k)] rfl rfl (one_bool _) (by omega) (by omega) S0.size ?_; intro g1 p1 wq1 hn1 hm1; have R1 := R0.step hn1 hm1; have S1 := S0.moved hm1 R0.o1; clear cx0 cy0; have cx1 := ((S1.blk (gx, 4, boolsL m0 256) (by simp [bothB])).cell k).trans Hxk.out; have cy1 := ((S1.blk (gy, 4, boolsL m1 256) (by simp [bothB])).cell k).trans Hyk.out)
                | (at_builtin; refine append_far rfl (.tmp 52) (.tmp 64) 34 rfl w2.heap.size 4 1 1 elem_bool u11 _ _ rfl R1.o1 [.bool (!m1 k)] rfl rfl (one_bool _) (by omega) (by omega) S1.size ?_; intro g2 p2 wq2 hn2 hm2; have R2 := R1.step hn2 hm2; have S2 := S1.moved hm2 R1.o1; clear cx1 cy1; have cx2 := ((S2.blk (gx, 4, boolsL m0 256) (by simp [bothB])).cell k).trans Hxk.out; have cy2 := ((S2.blk (gy, 4, boolsL m1 256) (by simp [bothB])).cell k).trans Hyk.out)
                | (at_builtin; refine append_far rfl (.tmp 66) (.tmp 72) 34 rfl w2.heap.size 4 1 1 elem_bool u12 _ _ rfl R2.o1 [.bool false] rfl rfl (one_bool _) (by omega) (by omega) S2.size ?_; intro g3 p3 wq3 hn3 hm3; have R3 := R2.step hn3 hm3; have S3 := S2.moved hm3 R2.o1; clear cx2 cy2; have cx3 := ((S3.blk (gx, 4, boolsL m0 256) (by simp [bothB])).cell k).trans Hxk.out; have cy3 := ((S3.blk (gy, 4, boolsL m1 256) (by simp [bothB])).cell k).trans Hyk.out))
              go_roundw
              case rel =>
                obtain ⟨u1, u2, u3, u4, ub⟩ := U.out
                refine ⟨k + 1, by omega, by go_num, by rw [ub]; rfl, ?_, ?_⟩
                · rw [bothB_same (.inr ⟨by omega, by omega⟩)]
                  exact S3
                · rw [u1, u2, u3, u4]
                  exact R3
              case measure => simp [intOf]; omega
    · obtain rfl : k = 256 := by omega
      clear hlt hk
      go_wp2_with fail
      have b7 := hS.blk (gx, 4, boolsL m0 256) (by simp [bothB])
      have b3 := hS.blk (w.heap.size, 24, setL m0) (by simp [bothB])
      have b4 := hS.blk (w.heap.size + 1, 24, setL m1) (by simp [bothB])
      have b14 := hS.blk (gf, 4, foldV m0 256) (by simp [bothB])
      have r9 := own_rdV hR.o1 (by rw [upL_length]; omega)
      have r10 := own_rdV hR.o2 (by rw [upL_length]; omega)
      have r11 := own_rdV hR.o3 (by rw [upL_length]; omega)
      have r12 := own_rdV hR.o4 (by rw [upL_length]; omega)
      have r14 := blk_rdV b14 (by rw [foldV_length]; omega)
      simp only [foldV_length] at r14
      rw [upL_map] at r9 r10 r11 r12
      rw [show foldV m0 256 = upL (foldB m0 256) 256 from rfl, upL_map] at r14
      have hw3 := hS.below
      clear hS hR b14
      refine region_named (ops' := bo2_ops) (by kernel_rfl) (bo2_S m0 m1 c0 hc1 hc2 gx gf u9 u10 u11 u12) 182 rfl (by kernel_rfl) (by kernel_rfl) (bo2_all m0 m1 c0 hc1 hc2 gx gf u9 u10 u11 u12 w.heap.size _ _ _ rfl b3.drew rfl b4.drew rfl rfl b7.drew rfl (r9.below (Below.refl _ _).drew) rfl (r10.below (Below.refl _ _).drew) rfl (r11.below (Below.refl _ _).drew) rfl (r12.below (Below.refl _ _).drew) rfl (r14.below (Below.refl _ _).drew) rfl) ?_
      rename_i hK
      intro a2 w4 N2 H2 hF2
      have q6 : a2.tmps.getD 6 undef = .bool true := fact_eq (hF2 62 (by kernel_rfl)) rfl (by kernel_rfl)
      refine hK _ _ (wp_ret (bodyPost_ret (results_tmp rfl _ _ _) H2.defers ⟨?_, hw3.drew.trans (H2.below.mono hw3.size)⟩))
      rw [q6]
end Go.Proofs.Ytanimknpnniabaa
