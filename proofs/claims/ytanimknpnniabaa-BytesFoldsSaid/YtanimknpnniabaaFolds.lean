/- BytesFolds: its regions, and the whole. -/
import Derived.Test.YtanimknpnniabaaOps
import Derived.Test.YtanimknpnniabaaAwake01
import Derived.Test.YtanimknpnniabaaLatticeP
namespace Go.Proofs.Ytanimknpnniabaa
open Go.RowKit
theorem fol21 (m0 m1 : Nat → Bool) : (!eqB (foldM (anyM [m0, m1])) (anyM [foldM m0, foldM m1])) = false := by
  rw [eqB_true (fun x _ => fold_union m0 m1 x)]
  rfl
theorem fol25 (m0 : Nat → Bool) : eqB (fun x => m0 x && !(foldM m0) x) (fun _ => false) = true := eqB_true fun x _ => by
  cases h : m0 x with
  | false => rfl
  | true => rw [fold_more m0 x h]; rfl
theorem fol38 (m0 : Nat → Bool) (s : Int) (hb : 97 ≤ s ∧ s ≤ 122) : (((foldM m0) (s).toNat) == ((foldM m0) (s - 32).toNat)) = true := by
  have e : (s - 32).toNat = s.toNat - 32 := by omega
  rw [e, fold_small m0 s.toNat (by omega), fold_great m0 (s.toNat - 32) (by omega), Nat.sub_add_cancel (by omega), Bool.or_comm]
  simp
theorem fol52t (m0 : Nat → Bool) (s : Int) (_hb : 97 ≤ s ∧ s ≤ 122) (hm : m0 s.toNat = true) : (((foldM m0) (s).toNat) == true) = true := by
  rw [fold_more m0 _ hm]
  rfl
theorem fol52f (m0 : Nat → Bool) (s : Int) (hb : 97 ≤ s ∧ s ≤ 122) (hm : m0 s.toNat = false) : (((foldM m0) (s).toNat) == (m0 (s - 32).toNat)) = true := by
  have e : (s - 32).toNat = s.toNat - 32 := by omega
  rw [e, fold_small m0 s.toNat (by omega), hm]
  simp
noncomputable def fol_ops : Array Oper := regOf Try.f4 2
def fol_S (m0 m1 : Nat → Bool) : List RK := [RK.eq (setV m0), RK.eq (setV m1), RK.val (RG.sets [m0, m1]), RK.eq (setV (anyM [m0, m1])), RK.eq (setV (foldM ((anyM [m0, m1])))), RK.eq (setV (foldM m0)), RK.eq (setV m1), RK.eq (setV (foldM (m1))), RK.val (RG.sets [(foldM m0), (foldM (m1))]), RK.eq (setV (anyM [(foldM m0), (foldM (m1))])), RK.eq (.bool false), RK.eq (.bool false), RK.eq (setV m0), RK.eq (setV (foldM m0)), RK.eq (.bool true), RK.eq (.bool (!true)), RK.eq (.bool (!true))]
theorem fol_o0 (m0 m1 : Nat → Bool) (b : Nat) (Q : Exit → Act → World → Prop) (a0 : Act) (w0 : World) (hs3 : a0.tmps.getD 3 undef = .pointer (some ⟨b, 0, none⟩)) (hB3 : Blk w0 b 24 (setL m0)) : Obl Try.prog fol_ops (fol_S m0 m1) Q a0 w0 0 :=
  obl_load_old 3 (b) rfl none (by kernel_rfl) (by kernel_rfl) hs3 hB3 (fun a w N H D => (fun _ _ hg => by cases hg))
theorem fol_o1 (m0 m1 : Nat → Bool) (b : Nat) (Q : Exit → Act → World → Prop) (a0 : Act) (w0 : World) (hs4 : a0.tmps.getD 4 undef = .pointer (some ⟨b + 1, 0, none⟩)) (hB4 : Blk w0 (b + 1) 24 (setL m1)) : Obl Try.prog fol_ops (fol_S m0 m1) Q a0 w0 1 :=
  obl_load_old 4 ((b + 1)) rfl none (by kernel_rfl) (by kernel_rfl) hs4 hB4 (fun a w N H D => (fun _ _ hg => by cases hg))
theorem fol_o2 (m0 m1 : Nat → Bool) (Q : Exit → Act → World → Prop) (a0 : Act) (w0 : World)  : Obl Try.prog fol_ops (fol_S m0 m1) Q a0 w0 2 :=
  obl_val (.buildSlice 42 2 #[(0, .tmp 11), (1, .tmp 12)]) none rfl (by kernel_rfl) fun a w N H D => ⟨(fun _ _ hg => by cases hg), fun _ ho => wp_build2 ho (fact_eq (c := setV m0) (D 0 (by kernel_rfl)) rfl (by kernel_rfl)) (fact_eq (c := setV m1) (D 1 (by kernel_rfl)) rfl (by kernel_rfl))⟩
theorem fol_o3 (m0 m1 : Nat → Bool) (Q : Exit → Act → World → Prop) (a0 : Act) (w0 : World)  : Obl Try.prog fol_ops (fol_S m0 m1) Q a0 w0 3 :=
  obl_val (.call { callee := .value (.func 7), args := #[.tmp 13], argTypes := #[42] }) none rfl (by kernel_rfl) fun a w N H D => ⟨(fun _ _ hg => by cases hg), fun _ ho => wp_call_eq (xs := #[a.eval (.tmp 13)]) ho (fun xs w => by kernel_rfl) (by simp only [List.map_toArray, List.map_cons, List.map_nil]) (union_any [m0, m1] _ _ (RG.sets_rd (fact_val (D 2 (by kernel_rfl)) rfl (by kernel_rfl))))⟩
theorem fol_o4 (m0 m1 : Nat → Bool) (Q : Exit → Act → World → Prop) (a0 : Act) (w0 : World)  : Obl Try.prog fol_ops (fol_S m0 m1) Q a0 w0 4 :=
  obl_val (.call { callee := .value (.func 11), args := #[.tmp 14], argTypes := #[24] }) none rfl (by kernel_rfl) fun a w N H D => ⟨(fun _ _ hg => by cases hg), fun _ ho => wp_call_eq ho (fun xs w => by kernel_rfl) (by simp only [List.map_toArray, List.map_cons, List.map_nil]; rw [(fact_eq (c := setV (anyM [m0, m1])) (D 3 (by kernel_rfl)) rfl (by kernel_rfl))]) (fold_any ((anyM [m0, m1])) _)⟩
theorem fol_o5 (m0 m1 : Nat → Bool) (c : Nat) (Q : Exit → Act → World → Prop) (a0 : Act) (w0 : World) (hs7 : a0.tmps.getD 7 undef = .pointer (some ⟨c, 0, none⟩)) (hB7 : Blk w0 c 24 (setL (foldM m0))) : Obl Try.prog fol_ops (fol_S m0 m1) Q a0 w0 5 :=
  obl_load_old 7 (c) rfl none (by kernel_rfl) (by kernel_rfl) hs7 hB7 (fun a w N H D => (fun _ _ hg => by cases hg))
theorem fol_o6 (m0 m1 : Nat → Bool) (b : Nat) (Q : Exit → Act → World → Prop) (a0 : Act) (w0 : World) (hs4 : a0.tmps.getD 4 undef = .pointer (some ⟨b + 1, 0, none⟩)) (hB4 : Blk w0 (b + 1) 24 (setL m1)) : Obl Try.prog fol_ops (fol_S m0 m1) Q a0 w0 6 :=
  obl_load_old 4 ((b + 1)) rfl none (by kernel_rfl) (by kernel_rfl) hs4 hB4 (fun a w N H D => (fun _ _ hg => by cases hg))
theorem fol_o7 (m0 m1 : Nat → Bool) (Q : Exit → Act → World → Prop) (a0 : Act) (w0 : World)  : Obl Try.prog fol_ops (fol_S m0 m1) Q a0 w0 7 :=
  obl_val (.call { callee := .value (.func 11), args := #[.tmp 17], argTypes := #[24] }) none rfl (by kernel_rfl) fun a w N H D => ⟨(fun _ _ hg => by cases hg), fun _ ho => wp_call_eq ho (fun xs w => by kernel_rfl) (by simp only [List.map_toArray, List.map_cons, List.map_nil]; rw [(fact_eq (c := setV m1) (D 6 (by kernel_rfl)) rfl (by kernel_rfl))]) (fold_any (m1) _)⟩
theorem fol_o8 (m0 m1 : Nat → Bool) (Q : Exit → Act → World → Prop) (a0 : Act) (w0 : World)  : Obl Try.prog fol_ops (fol_S m0 m1) Q a0 w0 8 :=
  obl_val (.buildSlice 42 2 #[(0, .tmp 16), (1, .tmp 18)]) none rfl (by kernel_rfl) fun a w N H D => ⟨(fun _ _ hg => by cases hg), fun _ ho => wp_build2 ho (fact_eq (c := setV (foldM m0)) (D 5 (by kernel_rfl)) rfl (by kernel_rfl)) (fact_eq (c := setV (foldM (m1))) (D 7 (by kernel_rfl)) rfl (by kernel_rfl))⟩
theorem fol_o9 (m0 m1 : Nat → Bool) (Q : Exit → Act → World → Prop) (a0 : Act) (w0 : World)  : Obl Try.prog fol_ops (fol_S m0 m1) Q a0 w0 9 :=
  obl_val (.call { callee := .value (.func 7), args := #[.tmp 19], argTypes := #[42] }) none rfl (by kernel_rfl) fun a w N H D => ⟨(fun _ _ hg => by cases hg), fun _ ho => wp_call_eq (xs := #[a.eval (.tmp 19)]) ho (fun xs w => by kernel_rfl) (by simp only [List.map_toArray, List.map_cons, List.map_nil]) (union_any [(foldM m0), (foldM (m1))] _ _ (RG.sets_rd (fact_val (D 8 (by kernel_rfl)) rfl (by kernel_rfl))))⟩
theorem fol_o10 (m0 m1 : Nat → Bool) (Q : Exit → Act → World → Prop) (a0 : Act) (w0 : World)  : Obl Try.prog fol_ops (fol_S m0 m1) Q a0 w0 10 :=
  obl_val (.binOp .neq 24 (.tmp 15) (.tmp 20) 24) none rfl (by kernel_rfl) fun a w N H D => ⟨(fun _ _ hg => by cases hg), fun _ ho => wp_of_eq (wp_neq_set (m := (foldM ((anyM [m0, m1])))) (m' := (anyM [(foldM m0), (foldM (m1))])) ho (fact_eq (c := setV (foldM ((anyM [m0, m1])))) (D 4 (by kernel_rfl)) rfl (by kernel_rfl)) (fact_eq (c := setV (anyM [(foldM m0), (foldM (m1))])) (D 9 (by kernel_rfl)) rfl (by kernel_rfl))) (.bool false) (by rw [fol21 m0 m1])⟩
theorem fol_o11 (m0 m1 : Nat → Bool) (Q : Exit → Act → World → Prop) (a0 : Act) (w0 : World)  : Obl Try.prog fol_ops (fol_S m0 m1) Q a0 w0 11 :=
  obl_val (.move (.tmp 21)) none rfl (by kernel_rfl) fun a w N H D => ⟨(fun _ _ hg => by cases hg), fun _ ho => wp_move (.inl ho) (fact_eq (c := .bool false) (D 10 (by kernel_rfl)) rfl (by kernel_rfl))⟩
theorem fol_o12 (m0 m1 : Nat → Bool) (b : Nat) (Q : Exit → Act → World → Prop) (a0 : Act) (w0 : World) (hs3 : a0.tmps.getD 3 undef = .pointer (some ⟨b, 0, none⟩)) (hB3 : Blk w0 b 24 (setL m0)) : Obl Try.prog fol_ops (fol_S m0 m1) Q a0 w0 12 :=
  obl_load_old 3 (b) rfl (some (11, false)) (by kernel_rfl) (by kernel_rfl) hs3 hB3 (fun a w N H D => (fun _ _ hg => by cases hg; exact ⟨22, by kernel_rfl, fact_eq (D 11 (by kernel_rfl)) rfl (by kernel_rfl)⟩))
theorem fol_o13 (m0 m1 : Nat → Bool) (c : Nat) (Q : Exit → Act → World → Prop) (a0 : Act) (w0 : World) (hs7 : a0.tmps.getD 7 undef = .pointer (some ⟨c, 0, none⟩)) (hB7 : Blk w0 c 24 (setL (foldM m0))) : Obl Try.prog fol_ops (fol_S m0 m1) Q a0 w0 13 :=
  obl_load_old 7 (c) rfl (some (11, false)) (by kernel_rfl) (by kernel_rfl) hs7 hB7 (fun a w N H D => (fun _ _ hg => by cases hg; exact ⟨22, by kernel_rfl, fact_eq (D 11 (by kernel_rfl)) rfl (by kernel_rfl)⟩))
theorem fol_o14 (m0 m1 : Nat → Bool) (Q : Exit → Act → World → Prop) (a0 : Act) (w0 : World)  : Obl Try.prog fol_ops (fol_S m0 m1) Q a0 w0 14 :=
  obl_val (.call { callee := .value (.func 13), args := #[.tmp 23, .tmp 24], argTypes := #[24, 24] }) (some (11, false)) rfl (by kernel_rfl) fun a w N H D => ⟨(fun _ _ hg => by cases hg; exact ⟨22, by kernel_rfl, fact_eq (D 11 (by kernel_rfl)) rfl (by kernel_rfl)⟩), fun _ ho => wp_of_eq (wp_call_eq ho (fun xs w => by kernel_rfl) (by simp only [List.map_toArray, List.map_cons, List.map_nil]; rw [(fact_eq (c := setV m0) (D 12 (by kernel_rfl)) rfl (by kernel_rfl)), (fact_eq (c := setV (foldM m0)) (D 13 (by kernel_rfl)) rfl (by kernel_rfl))]) (within_any (m0) ((foldM m0)) _)) (.bool true) (by rw [fol25 m0])⟩
theorem fol_o15 (m0 m1 : Nat → Bool) (Q : Exit → Act → World → Prop) (a0 : Act) (w0 : World)  : Obl Try.prog fol_ops (fol_S m0 m1) Q a0 w0 15 :=
  obl_val (.unOp .not 4 (.tmp 25)) (some (11, false)) rfl (by kernel_rfl) fun a w N H D => ⟨(fun _ _ hg => by cases hg; exact ⟨22, by kernel_rfl, fact_eq (D 11 (by kernel_rfl)) rfl (by kernel_rfl)⟩), fun _ ho => wp_not ho (fact_eq (c := .bool true) (D 14 (by kernel_rfl)) rfl (by kernel_rfl))⟩
theorem fol_o16 (m0 m1 : Nat → Bool) (Q : Exit → Act → World → Prop) (a0 : Act) (w0 : World)  : Obl Try.prog fol_ops (fol_S m0 m1) Q a0 w0 16 :=
  obl_val (.pick (.tmp 22) (.const (.bool true)) (.tmp 26)) none rfl (by kernel_rfl) fun a w N H D => ⟨(fun _ _ hg => by cases hg), fun _ ho => wp_pick (b := false) ho (fact_eq (c := .bool false) (D 11 (by kernel_rfl)) rfl (by kernel_rfl)) (fact_eq (c := .bool (!true)) (D 15 (by kernel_rfl)) rfl (by kernel_rfl))⟩
theorem fol_all (m0 m1 : Nat → Bool) (b : Nat) (c : Nat) (Q : Exit → Act → World → Prop) (a0 : Act) (w0 : World) (hs3 : a0.tmps.getD 3 undef = .pointer (some ⟨b, 0, none⟩)) (hB3 : Blk w0 b 24 (setL m0)) (hs4 : a0.tmps.getD 4 undef = .pointer (some ⟨b + 1, 0, none⟩)) (hB4 : Blk w0 (b + 1) 24 (setL m1)) (hs7 : a0.tmps.getD 7 undef = .pointer (some ⟨c, 0, none⟩)) (hB7 : Blk w0 c 24 (setL (foldM m0))) : ∀ i, i < fol_ops.size → Obl Try.prog fol_ops (fol_S m0 m1) Q a0 w0 i := by
  intro i hi
  have hs : fol_ops.size = 17 := by kernel_rfl
  rw [hs] at hi
  clear hs
  match i, hi with
  | 0, _ => exact fol_o0 m0 m1 b Q a0 w0 hs3 hB3
  | 1, _ => exact fol_o1 m0 m1 b Q a0 w0 hs4 hB4
  | 2, _ => exact fol_o2 m0 m1  Q a0 w0 
  | 3, _ => exact fol_o3 m0 m1  Q a0 w0 
  | 4, _ => exact fol_o4 m0 m1  Q a0 w0 
  | 5, _ => exact fol_o5 m0 m1 c Q a0 w0 hs7 hB7
  | 6, _ => exact fol_o6 m0 m1 b Q a0 w0 hs4 hB4
  | 7, _ => exact fol_o7 m0 m1  Q a0 w0 
  | 8, _ => exact fol_o8 m0 m1  Q a0 w0 
  | 9, _ => exact fol_o9 m0 m1  Q a0 w0 
  | 10, _ => exact fol_o10 m0 m1  Q a0 w0 
  | 11, _ => exact fol_o11 m0 m1  Q a0 w0 
  | 12, _ => exact fol_o12 m0 m1 b Q a0 w0 hs3 hB3
  | 13, _ => exact fol_o13 m0 m1 c Q a0 w0 hs7 hB7
  | 14, _ => exact fol_o14 m0 m1  Q a0 w0 
  | 15, _ => exact fol_o15 m0 m1  Q a0 w0 
  | 16, _ => exact fol_o16 m0 m1  Q a0 w0 
  | i + 17, h => exact absurd h (by omega)
noncomputable def fot_ops : Array Oper := regOf Try.f4 5
def fot_S (m0 : Nat → Bool) (s : Int) (_hb : 97 ≤ s ∧ s ≤ 122) (_hm : m0 s.toNat = true) : List RK := [RK.eq (setV (foldM m0)), RK.eq (.int .u8 s), RK.eq (.bool ((foldM m0) (s).toNat)), RK.eq (setV (foldM m0)), RK.eq (.int .u8 s), RK.eq (.int .u8 (s - 32)), RK.eq (.bool ((foldM m0) ((s - 32)).toNat)), RK.eq (.bool true), RK.eq (.bool true), RK.eq (setV (foldM m0)), RK.eq (.int .u8 s), RK.eq (.bool ((foldM m0) (s).toNat)), RK.eq (setV m0), RK.eq (.int .u8 s), RK.eq (.bool true), RK.eq (.bool true), RK.eq undef, RK.eq undef, RK.eq undef, RK.eq undef, RK.eq (.bool true), RK.eq (.bool true), RK.eq (.bool true), RK.eq (.bool true), RK.eq (.bool true), RK.eq (.bool true), RK.eq (.bool true)]
theorem fot_o0 (m0 : Nat → Bool) (s : Int) (_hb : 97 ≤ s ∧ s ≤ 122) (_hm : m0 s.toNat = true) (c : Nat) (Q : Exit → Act → World → Prop) (a0 : Act) (w0 : World) (hs7 : a0.tmps.getD 7 undef = .pointer (some ⟨c, 0, none⟩)) (hB7 : Blk w0 c 24 (setL (foldM m0))) : Obl Try.prog fot_ops (fot_S m0 s _hb _hm) Q a0 w0 0 :=
  obl_load_old 7 (c) rfl none (by kernel_rfl) (by kernel_rfl) hs7 hB7 (fun a w N H D => (fun _ _ hg => by cases hg))
theorem fot_o1 (m0 : Nat → Bool) (s : Int) (_hb : 97 ≤ s ∧ s ≤ 122) (_hm : m0 s.toNat = true) (Q : Exit → Act → World → Prop) (a0 : Act) (w0 : World) (hs8 : a0.tmps.getD 8 undef = .int .u8 s) : Obl Try.prog fot_ops (fot_S m0 s _hb _hm) Q a0 w0 1 :=
  obl_val (.move (.tmp 8)) none rfl (by kernel_rfl) fun a w N H D => ⟨(fun _ _ hg => by cases hg), fun _ ho => wp_move (.inl ho) (held_base H 8 (by kernel_rfl) hs8)⟩
theorem fot_o2 (m0 : Nat → Bool) (s : Int) (_hb : 97 ≤ s ∧ s ≤ 122) (_hm : m0 s.toNat = true) (Q : Exit → Act → World → Prop) (a0 : Act) (w0 : World)  : Obl Try.prog fot_ops (fot_S m0 s _hb _hm) Q a0 w0 2 :=
  obl_val (.call { callee := .value (.func 14), args := #[.tmp 31, .tmp 32], argTypes := #[24, 5] }) none rfl (by kernel_rfl) fun a w N H D => ⟨(fun _ _ hg => by cases hg), fun _ ho => wp_call_eq ho (fun xs w => by kernel_rfl) (by simp only [List.map_toArray, List.map_cons, List.map_nil]; rw [(fact_eq (c := setV (foldM m0)) (D 0 (by kernel_rfl)) rfl (by kernel_rfl)), (fact_eq (c := .int .u8 s) (D 1 (by kernel_rfl)) rfl (by kernel_rfl))]) (has_any (foldM m0) (s) (by omega) (by omega) _)⟩
theorem fot_o3 (m0 : Nat → Bool) (s : Int) (_hb : 97 ≤ s ∧ s ≤ 122) (_hm : m0 s.toNat = true) (c : Nat) (Q : Exit → Act → World → Prop) (a0 : Act) (w0 : World) (hs7 : a0.tmps.getD 7 undef = .pointer (some ⟨c, 0, none⟩)) (hB7 : Blk w0 c 24 (setL (foldM m0))) : Obl Try.prog fot_ops (fot_S m0 s _hb _hm) Q a0 w0 3 :=
  obl_load_old 7 (c) rfl none (by kernel_rfl) (by kernel_rfl) hs7 hB7 (fun a w N H D => (fun _ _ hg => by cases hg))
theorem fot_o4 (m0 : Nat → Bool) (s : Int) (_hb : 97 ≤ s ∧ s ≤ 122) (_hm : m0 s.toNat = true) (Q : Exit → Act → World → Prop) (a0 : Act) (w0 : World) (hs8 : a0.tmps.getD 8 undef = .int .u8 s) : Obl Try.prog fot_ops (fot_S m0 s _hb _hm) Q a0 w0 4 :=
  obl_val (.move (.tmp 8)) none rfl (by kernel_rfl) fun a w N H D => ⟨(fun _ _ hg => by cases hg), fun _ ho => wp_move (.inl ho) (held_base H 8 (by kernel_rfl) hs8)⟩
theorem fot_o5 (m0 : Nat → Bool) (s : Int) (_hb : 97 ≤ s ∧ s ≤ 122) (_hm : m0 s.toNat = true) (Q : Exit → Act → World → Prop) (a0 : Act) (w0 : World)  : Obl Try.prog fot_ops (fot_S m0 s _hb _hm) Q a0 w0 5 :=
  obl_val (.binOp .sub 5 (.tmp 35) (.const (.int .u8 32)) 5) none rfl (by kernel_rfl) fun a w N H D => ⟨(fun _ _ hg => by cases hg), fun _ ho => wp_sub8 ho (fact_eq (c := .int .u8 s) (D 4 (by kernel_rfl)) rfl (by kernel_rfl)) rfl rfl (by omega)⟩
theorem fot_o6 (m0 : Nat → Bool) (s : Int) (_hb : 97 ≤ s ∧ s ≤ 122) (_hm : m0 s.toNat = true) (Q : Exit → Act → World → Prop) (a0 : Act) (w0 : World)  : Obl Try.prog fot_ops (fot_S m0 s _hb _hm) Q a0 w0 6 :=
  obl_val (.call { callee := .value (.func 14), args := #[.tmp 34, .tmp 36], argTypes := #[24, 5] }) none rfl (by kernel_rfl) fun a w N H D => ⟨(fun _ _ hg => by cases hg), fun _ ho => wp_call_eq ho (fun xs w => by kernel_rfl) (by simp only [List.map_toArray, List.map_cons, List.map_nil]; rw [(fact_eq (c := setV (foldM m0)) (D 3 (by kernel_rfl)) rfl (by kernel_rfl)), (fact_eq (c := .int .u8 (s - 32)) (D 5 (by kernel_rfl)) rfl (by kernel_rfl))]) (has_any (foldM m0) ((s - 32)) (by omega) (by omega) _)⟩
theorem fot_o7 (m0 : Nat → Bool) (s : Int) (_hb : 97 ≤ s ∧ s ≤ 122) (_hm : m0 s.toNat = true) (Q : Exit → Act → World → Prop) (a0 : Act) (w0 : World)  : Obl Try.prog fot_ops (fot_S m0 s _hb _hm) Q a0 w0 7 :=
  obl_val (.binOp .eql 4 (.tmp 33) (.tmp 37) 4) none rfl (by kernel_rfl) fun a w N H D => ⟨(fun _ _ hg => by cases hg), fun _ ho => wp_of_eq (wp_eqb ho (fact_eq (c := .bool ((foldM m0) (s).toNat)) (D 2 (by kernel_rfl)) rfl (by kernel_rfl)) (fact_eq (c := .bool ((foldM m0) ((s - 32)).toNat)) (D 6 (by kernel_rfl)) rfl (by kernel_rfl))) (.bool true) (by rw [fol38 m0 s _hb])⟩
theorem fot_o8 (m0 : Nat → Bool) (s : Int) (_hb : 97 ≤ s ∧ s ≤ 122) (_hm : m0 s.toNat = true) (Q : Exit → Act → World → Prop) (a0 : Act) (w0 : World)  : Obl Try.prog fot_ops (fot_S m0 s _hb _hm) Q a0 w0 8 :=
  obl_val (.move (.tmp 38)) none rfl (by kernel_rfl) fun a w N H D => ⟨(fun _ _ hg => by cases hg), fun _ ho => wp_move (.inl ho) (fact_eq (c := .bool true) (D 7 (by kernel_rfl)) rfl (by kernel_rfl))⟩
theorem fot_o9 (m0 : Nat → Bool) (s : Int) (_hb : 97 ≤ s ∧ s ≤ 122) (_hm : m0 s.toNat = true) (c : Nat) (Q : Exit → Act → World → Prop) (a0 : Act) (w0 : World) (hs7 : a0.tmps.getD 7 undef = .pointer (some ⟨c, 0, none⟩)) (hB7 : Blk w0 c 24 (setL (foldM m0))) : Obl Try.prog fot_ops (fot_S m0 s _hb _hm) Q a0 w0 9 :=
  obl_load_old 7 (c) rfl (some (8, true)) (by kernel_rfl) (by kernel_rfl) hs7 hB7 (fun a w N H D => (fun _ _ hg => by cases hg; exact ⟨39, by kernel_rfl, fact_eq (D 8 (by kernel_rfl)) rfl (by kernel_rfl)⟩))
theorem fot_o10 (m0 : Nat → Bool) (s : Int) (_hb : 97 ≤ s ∧ s ≤ 122) (_hm : m0 s.toNat = true) (Q : Exit → Act → World → Prop) (a0 : Act) (w0 : World) (hs8 : a0.tmps.getD 8 undef = .int .u8 s) : Obl Try.prog fot_ops (fot_S m0 s _hb _hm) Q a0 w0 10 :=
  obl_val (.move (.tmp 8)) (some (8, true)) rfl (by kernel_rfl) fun a w N H D => ⟨(fun _ _ hg => by cases hg; exact ⟨39, by kernel_rfl, fact_eq (D 8 (by kernel_rfl)) rfl (by kernel_rfl)⟩), fun _ ho => wp_move (.inl ho) (held_base H 8 (by kernel_rfl) hs8)⟩
theorem fot_o11 (m0 : Nat → Bool) (s : Int) (_hb : 97 ≤ s ∧ s ≤ 122) (_hm : m0 s.toNat = true) (Q : Exit → Act → World → Prop) (a0 : Act) (w0 : World)  : Obl Try.prog fot_ops (fot_S m0 s _hb _hm) Q a0 w0 11 :=
  obl_val (.call { callee := .value (.func 14), args := #[.tmp 40, .tmp 41], argTypes := #[24, 5] }) (some (8, true)) rfl (by kernel_rfl) fun a w N H D => ⟨(fun _ _ hg => by cases hg; exact ⟨39, by kernel_rfl, fact_eq (D 8 (by kernel_rfl)) rfl (by kernel_rfl)⟩), fun _ ho => wp_call_eq ho (fun xs w => by kernel_rfl) (by simp only [List.map_toArray, List.map_cons, List.map_nil]; rw [(fact_eq (c := setV (foldM m0)) (D 9 (by kernel_rfl)) rfl (by kernel_rfl)), (fact_eq (c := .int .u8 s) (D 10 (by kernel_rfl)) rfl (by kernel_rfl))]) (has_any (foldM m0) (s) (by omega) (by omega) _)⟩
theorem fot_o12 (m0 : Nat → Bool) (s : Int) (_hb : 97 ≤ s ∧ s ≤ 122) (_hm : m0 s.toNat = true) (b : Nat) (Q : Exit → Act → World → Prop) (a0 : Act) (w0 : World) (hs3 : a0.tmps.getD 3 undef = .pointer (some ⟨b, 0, none⟩)) (hB3 : Blk w0 b 24 (setL m0)) : Obl Try.prog fot_ops (fot_S m0 s _hb _hm) Q a0 w0 12 :=
  obl_load_old 3 (b) rfl (some (8, true)) (by kernel_rfl) (by kernel_rfl) hs3 hB3 (fun a w N H D => (fun _ _ hg => by cases hg; exact ⟨39, by kernel_rfl, fact_eq (D 8 (by kernel_rfl)) rfl (by kernel_rfl)⟩))
theorem fot_o13 (m0 : Nat → Bool) (s : Int) (_hb : 97 ≤ s ∧ s ≤ 122) (_hm : m0 s.toNat = true) (Q : Exit → Act → World → Prop) (a0 : Act) (w0 : World) (hs8 : a0.tmps.getD 8 undef = .int .u8 s) : Obl Try.prog fot_ops (fot_S m0 s _hb _hm) Q a0 w0 13 :=
  obl_val (.move (.tmp 8)) (some (8, true)) rfl (by kernel_rfl) fun a w N H D => ⟨(fun _ _ hg => by cases hg; exact ⟨39, by kernel_rfl, fact_eq (D 8 (by kernel_rfl)) rfl (by kernel_rfl)⟩), fun _ ho => wp_move (.inl ho) (held_base H 8 (by kernel_rfl) hs8)⟩
theorem fot_o14 (m0 : Nat → Bool) (s : Int) (_hb : 97 ≤ s ∧ s ≤ 122) (_hm : m0 s.toNat = true) (Q : Exit → Act → World → Prop) (a0 : Act) (w0 : World)  : Obl Try.prog fot_ops (fot_S m0 s _hb _hm) Q a0 w0 14 :=
  obl_val (.call { callee := .value (.func 14), args := #[.tmp 43, .tmp 44], argTypes := #[24, 5] }) (some (8, true)) rfl (by kernel_rfl) fun a w N H D => ⟨(fun _ _ hg => by cases hg; exact ⟨39, by kernel_rfl, fact_eq (D 8 (by kernel_rfl)) rfl (by kernel_rfl)⟩), fun _ ho => wp_of_eq (wp_call_eq ho (fun xs w => by kernel_rfl) (by simp only [List.map_toArray, List.map_cons, List.map_nil]; rw [(fact_eq (c := setV m0) (D 12 (by kernel_rfl)) rfl (by kernel_rfl)), (fact_eq (c := .int .u8 s) (D 13 (by kernel_rfl)) rfl (by kernel_rfl))]) (has_any m0 (s) (by omega) (by omega) _)) (.bool true) (by rw [_hm])⟩
theorem fot_o15 (m0 : Nat → Bool) (s : Int) (_hb : 97 ≤ s ∧ s ≤ 122) (_hm : m0 s.toNat = true) (Q : Exit → Act → World → Prop) (a0 : Act) (w0 : World)  : Obl Try.prog fot_ops (fot_S m0 s _hb _hm) Q a0 w0 15 :=
  obl_val (.move (.tmp 45)) (some (8, true)) rfl (by kernel_rfl) fun a w N H D => ⟨(fun _ _ hg => by cases hg; exact ⟨39, by kernel_rfl, fact_eq (D 8 (by kernel_rfl)) rfl (by kernel_rfl)⟩), fun _ ho => wp_move (.inl ho) (fact_eq (c := .bool true) (D 14 (by kernel_rfl)) rfl (by kernel_rfl))⟩
theorem fot_o16 (m0 : Nat → Bool) (s : Int) (_hb : 97 ≤ s ∧ s ≤ 122) (_hm : m0 s.toNat = true) (Q : Exit → Act → World → Prop) (a0 : Act) (w0 : World)  : Obl Try.prog fot_ops (fot_S m0 s _hb _hm) Q a0 w0 16 :=
  obl_skip (.load 24 (.tmp 3)) 15 false rfl (by kernel_rfl) fun a w N H D => ⟨46, .bool true, by kernel_rfl, fact_eq (D 15 (by kernel_rfl)) rfl (by kernel_rfl), by simp⟩
theorem fot_o17 (m0 : Nat → Bool) (s : Int) (_hb : 97 ≤ s ∧ s ≤ 122) (_hm : m0 s.toNat = true) (Q : Exit → Act → World → Prop) (a0 : Act) (w0 : World)  : Obl Try.prog fot_ops (fot_S m0 s _hb _hm) Q a0 w0 17 :=
  obl_skip (.move (.tmp 8)) 15 false rfl (by kernel_rfl) fun a w N H D => ⟨46, .bool true, by kernel_rfl, fact_eq (D 15 (by kernel_rfl)) rfl (by kernel_rfl), by simp⟩
theorem fot_o18 (m0 : Nat → Bool) (s : Int) (_hb : 97 ≤ s ∧ s ≤ 122) (_hm : m0 s.toNat = true) (Q : Exit → Act → World → Prop) (a0 : Act) (w0 : World)  : Obl Try.prog fot_ops (fot_S m0 s _hb _hm) Q a0 w0 18 :=
  obl_skip (.binOp .sub 5 (.tmp 48) (.const (.int .u8 32)) 5) 15 false rfl (by kernel_rfl) fun a w N H D => ⟨46, .bool true, by kernel_rfl, fact_eq (D 15 (by kernel_rfl)) rfl (by kernel_rfl), by simp⟩
theorem fot_o19 (m0 : Nat → Bool) (s : Int) (_hb : 97 ≤ s ∧ s ≤ 122) (_hm : m0 s.toNat = true) (Q : Exit → Act → World → Prop) (a0 : Act) (w0 : World)  : Obl Try.prog fot_ops (fot_S m0 s _hb _hm) Q a0 w0 19 :=
  obl_skip (.call { callee := .value (.func 14), args := #[.tmp 47, .tmp 49], argTypes := #[24, 5] }) 15 false rfl (by kernel_rfl) fun a w N H D => ⟨46, .bool true, by kernel_rfl, fact_eq (D 15 (by kernel_rfl)) rfl (by kernel_rfl), by simp⟩
theorem fot_o20 (m0 : Nat → Bool) (s : Int) (_hb : 97 ≤ s ∧ s ≤ 122) (_hm : m0 s.toNat = true) (Q : Exit → Act → World → Prop) (a0 : Act) (w0 : World)  : Obl Try.prog fot_ops (fot_S m0 s _hb _hm) Q a0 w0 20 :=
  obl_val (.pick (.tmp 46) (.const (.bool true)) (.tmp 50)) (some (8, true)) rfl (by kernel_rfl) fun a w N H D => ⟨(fun _ _ hg => by cases hg; exact ⟨39, by kernel_rfl, fact_eq (D 8 (by kernel_rfl)) rfl (by kernel_rfl)⟩), fun _ ho => wp_pick (b := true) ho (fact_eq (c := .bool true) (D 15 (by kernel_rfl)) rfl (by kernel_rfl)) rfl⟩
theorem fot_o21 (m0 : Nat → Bool) (s : Int) (_hb : 97 ≤ s ∧ s ≤ 122) (_hm : m0 s.toNat = true) (Q : Exit → Act → World → Prop) (a0 : Act) (w0 : World)  : Obl Try.prog fot_ops (fot_S m0 s _hb _hm) Q a0 w0 21 :=
  obl_val (.binOp .eql 4 (.tmp 42) (.tmp 51) 4) (some (8, true)) rfl (by kernel_rfl) fun a w N H D => ⟨(fun _ _ hg => by cases hg; exact ⟨39, by kernel_rfl, fact_eq (D 8 (by kernel_rfl)) rfl (by kernel_rfl)⟩), fun _ ho => wp_of_eq (wp_eqb ho (fact_eq (c := .bool ((foldM m0) (s).toNat)) (D 11 (by kernel_rfl)) rfl (by kernel_rfl)) (fact_eq (c := .bool true) (D 20 (by kernel_rfl)) rfl (by kernel_rfl))) (.bool true) (by rw [fol52t m0 s _hb _hm])⟩
theorem fot_o22 (m0 : Nat → Bool) (s : Int) (_hb : 97 ≤ s ∧ s ≤ 122) (_hm : m0 s.toNat = true) (Q : Exit → Act → World → Prop) (a0 : Act) (w0 : World)  : Obl Try.prog fot_ops (fot_S m0 s _hb _hm) Q a0 w0 22 :=
  obl_val (.pick (.tmp 39) (.tmp 52) (.const (.bool false))) none rfl (by kernel_rfl) fun a w N H D => ⟨(fun _ _ hg => by cases hg), fun _ ho => wp_pick (b := true) ho (fact_eq (c := .bool true) (D 8 (by kernel_rfl)) rfl (by kernel_rfl)) (fact_eq (c := .bool true) (D 21 (by kernel_rfl)) rfl (by kernel_rfl))⟩
theorem fot_o23 (m0 : Nat → Bool) (s : Int) (_hb : 97 ≤ s ∧ s ≤ 122) (_hm : m0 s.toNat = true) (Q : Exit → Act → World → Prop) (a0 : Act) (w0 : World)  : Obl Try.prog fot_ops (fot_S m0 s _hb _hm) Q a0 w0 23 :=
  obl_val (.move (.tmp 53)) none rfl (by kernel_rfl) fun a w N H D => ⟨(fun _ _ hg => by cases hg), fun _ ho => wp_move (.inl ho) (fact_eq (c := .bool true) (D 22 (by kernel_rfl)) rfl (by kernel_rfl))⟩
theorem fot_o24 (m0 : Nat → Bool) (s : Int) (_hb : 97 ≤ s ∧ s ≤ 122) (_hm : m0 s.toNat = true) (Q : Exit → Act → World → Prop) (a0 : Act) (w0 : World)  : Obl Try.prog fot_ops (fot_S m0 s _hb _hm) Q a0 w0 24 :=
  obl_val (.call { callee := .value (.func 12), args := #[], argTypes := #[] }) (some (23, true)) rfl (by kernel_rfl) fun a w N H D => ⟨(fun _ _ hg => by cases hg; exact ⟨54, by kernel_rfl, fact_eq (D 23 (by kernel_rfl)) rfl (by kernel_rfl)⟩), fun _ ho => wp_call_eq ho (fun xs w => by kernel_rfl) (by simp) (awake_any _)⟩
theorem fot_o25 (m0 : Nat → Bool) (s : Int) (_hb : 97 ≤ s ∧ s ≤ 122) (_hm : m0 s.toNat = true) (Q : Exit → Act → World → Prop) (a0 : Act) (w0 : World)  : Obl Try.prog fot_ops (fot_S m0 s _hb _hm) Q a0 w0 25 :=
  obl_val (.pick (.tmp 54) (.tmp 55) (.const (.bool false))) none rfl (by kernel_rfl) fun a w N H D => ⟨(fun _ _ hg => by cases hg), fun _ ho => wp_pick (b := true) ho (fact_eq (c := .bool true) (D 23 (by kernel_rfl)) rfl (by kernel_rfl)) (fact_eq (c := .bool true) (D 24 (by kernel_rfl)) rfl (by kernel_rfl))⟩
theorem fot_o26 (m0 : Nat → Bool) (s : Int) (_hb : 97 ≤ s ∧ s ≤ 122) (_hm : m0 s.toNat = true) (Q : Exit → Act → World → Prop) (a0 : Act) (w0 : World)  : Obl Try.prog fot_ops (fot_S m0 s _hb _hm) Q a0 w0 26 :=
  obl_val (.assign (.tmp 56)) none rfl (by kernel_rfl) fun a w N H D => ⟨(fun _ _ hg => by cases hg), fun _ ho => wp_move (.inr ho) (fact_eq (c := .bool true) (D 25 (by kernel_rfl)) rfl (by kernel_rfl))⟩
theorem fot_all (m0 : Nat → Bool) (s : Int) (_hb : 97 ≤ s ∧ s ≤ 122) (_hm : m0 s.toNat = true) (b : Nat) (c : Nat) (Q : Exit → Act → World → Prop) (a0 : Act) (w0 : World) (hs3 : a0.tmps.getD 3 undef = .pointer (some ⟨b, 0, none⟩)) (hB3 : Blk w0 b 24 (setL m0)) (hs7 : a0.tmps.getD 7 undef = .pointer (some ⟨c, 0, none⟩)) (hB7 : Blk w0 c 24 (setL (foldM m0))) (hs8 : a0.tmps.getD 8 undef = .int .u8 s) : ∀ i, i < fot_ops.size → Obl Try.prog fot_ops (fot_S m0 s _hb _hm) Q a0 w0 i := by
  intro i hi
  have hs : fot_ops.size = 27 := by kernel_rfl
  rw [hs] at hi
  clear hs
  match i, hi with
  | 0, _ => exact fot_o0 m0 s _hb _hm c Q a0 w0 hs7 hB7
  | 1, _ => exact fot_o1 m0 s _hb _hm  Q a0 w0 hs8
  | 2, _ => exact fot_o2 m0 s _hb _hm  Q a0 w0 
  | 3, _ => exact fot_o3 m0 s _hb _hm c Q a0 w0 hs7 hB7
  | 4, _ => exact fot_o4 m0 s _hb _hm  Q a0 w0 hs8
  | 5, _ => exact fot_o5 m0 s _hb _hm  Q a0 w0 
  | 6, _ => exact fot_o6 m0 s _hb _hm  Q a0 w0 
  | 7, _ => exact fot_o7 m0 s _hb _hm  Q a0 w0 
  | 8, _ => exact fot_o8 m0 s _hb _hm  Q a0 w0 
  | 9, _ => exact fot_o9 m0 s _hb _hm c Q a0 w0 hs7 hB7
  | 10, _ => exact fot_o10 m0 s _hb _hm  Q a0 w0 hs8
  | 11, _ => exact fot_o11 m0 s _hb _hm  Q a0 w0 
  | 12, _ => exact fot_o12 m0 s _hb _hm b Q a0 w0 hs3 hB3
  | 13, _ => exact fot_o13 m0 s _hb _hm  Q a0 w0 hs8
  | 14, _ => exact fot_o14 m0 s _hb _hm  Q a0 w0 
  | 15, _ => exact fot_o15 m0 s _hb _hm  Q a0 w0 
  | 16, _ => exact fot_o16 m0 s _hb _hm  Q a0 w0 
  | 17, _ => exact fot_o17 m0 s _hb _hm  Q a0 w0 
  | 18, _ => exact fot_o18 m0 s _hb _hm  Q a0 w0 
  | 19, _ => exact fot_o19 m0 s _hb _hm  Q a0 w0 
  | 20, _ => exact fot_o20 m0 s _hb _hm  Q a0 w0 
  | 21, _ => exact fot_o21 m0 s _hb _hm  Q a0 w0 
  | 22, _ => exact fot_o22 m0 s _hb _hm  Q a0 w0 
  | 23, _ => exact fot_o23 m0 s _hb _hm  Q a0 w0 
  | 24, _ => exact fot_o24 m0 s _hb _hm  Q a0 w0 
  | 25, _ => exact fot_o25 m0 s _hb _hm  Q a0 w0 
  | 26, _ => exact fot_o26 m0 s _hb _hm  Q a0 w0 
  | i + 27, h => exact absurd h (by omega)
noncomputable def fof_ops : Array Oper := regOf Try.f4 5
def fof_S (m0 : Nat → Bool) (s : Int) (_hb : 97 ≤ s ∧ s ≤ 122) (_hm : m0 s.toNat = false) : List RK := [RK.eq (setV (foldM m0)), RK.eq (.int .u8 s), RK.eq (.bool ((foldM m0) (s).toNat)), RK.eq (setV (foldM m0)), RK.eq (.int .u8 s), RK.eq (.int .u8 (s - 32)), RK.eq (.bool ((foldM m0) ((s - 32)).toNat)), RK.eq (.bool true), RK.eq (.bool true), RK.eq (setV (foldM m0)), RK.eq (.int .u8 s), RK.eq (.bool ((foldM m0) (s).toNat)), RK.eq (setV m0), RK.eq (.int .u8 s), RK.eq (.bool false), RK.eq (.bool false), RK.eq (setV m0), RK.eq (.int .u8 s), RK.eq (.int .u8 (s - 32)), RK.eq (.bool (m0 ((s - 32)).toNat)), RK.eq (.bool (m0 ((s - 32)).toNat)), RK.eq (.bool true), RK.eq (.bool true), RK.eq (.bool true), RK.eq (.bool true), RK.eq (.bool true), RK.eq (.bool true)]
theorem fof_o0 (m0 : Nat → Bool) (s : Int) (_hb : 97 ≤ s ∧ s ≤ 122) (_hm : m0 s.toNat = false) (c : Nat) (Q : Exit → Act → World → Prop) (a0 : Act) (w0 : World) (hs7 : a0.tmps.getD 7 undef = .pointer (some ⟨c, 0, none⟩)) (hB7 : Blk w0 c 24 (setL (foldM m0))) : Obl Try.prog fof_ops (fof_S m0 s _hb _hm) Q a0 w0 0 :=
  obl_load_old 7 (c) rfl none (by kernel_rfl) (by kernel_rfl) hs7 hB7 (fun a w N H D => (fun _ _ hg => by cases hg))
theorem fof_o1 (m0 : Nat → Bool) (s : Int) (_hb : 97 ≤ s ∧ s ≤ 122) (_hm : m0 s.toNat = false) (Q : Exit → Act → World → Prop) (a0 : Act) (w0 : World) (hs8 : a0.tmps.getD 8 undef = .int .u8 s) : Obl Try.prog fof_ops (fof_S m0 s _hb _hm) Q a0 w0 1 :=
  obl_val (.move (.tmp 8)) none rfl (by kernel_rfl) fun a w N H D => ⟨(fun _ _ hg => by cases hg), fun _ ho => wp_move (.inl ho) (held_base H 8 (by kernel_rfl) hs8)⟩
theorem fof_o2 (m0 : Nat → Bool) (s : Int) (_hb : 97 ≤ s ∧ s ≤ 122) (_hm : m0 s.toNat = false) (Q : Exit → Act → World → Prop) (a0 : Act) (w0 : World)  : Obl Try.prog fof_ops (fof_S m0 s _hb _hm) Q a0 w0 2 :=
  obl_val (.call { callee := .value (.func 14), args := #[.tmp 31, .tmp 32], argTypes := #[24, 5] }) none rfl (by kernel_rfl) fun a w N H D => ⟨(fun _ _ hg => by cases hg), fun _ ho => wp_call_eq ho (fun xs w => by kernel_rfl) (by simp only [List.map_toArray, List.map_cons, List.map_nil]; rw [(fact_eq (c := setV (foldM m0)) (D 0 (by kernel_rfl)) rfl (by kernel_rfl)), (fact_eq (c := .int .u8 s) (D 1 (by kernel_rfl)) rfl (by kernel_rfl))]) (has_any (foldM m0) (s) (by omega) (by omega) _)⟩
theorem fof_o3 (m0 : Nat → Bool) (s : Int) (_hb : 97 ≤ s ∧ s ≤ 122) (_hm : m0 s.toNat = false) (c : Nat) (Q : Exit → Act → World → Prop) (a0 : Act) (w0 : World) (hs7 : a0.tmps.getD 7 undef = .pointer (some ⟨c, 0, none⟩)) (hB7 : Blk w0 c 24 (setL (foldM m0))) : Obl Try.prog fof_ops (fof_S m0 s _hb _hm) Q a0 w0 3 :=
  obl_load_old 7 (c) rfl none (by kernel_rfl) (by kernel_rfl) hs7 hB7 (fun a w N H D => (fun _ _ hg => by cases hg))
theorem fof_o4 (m0 : Nat → Bool) (s : Int) (_hb : 97 ≤ s ∧ s ≤ 122) (_hm : m0 s.toNat = false) (Q : Exit → Act → World → Prop) (a0 : Act) (w0 : World) (hs8 : a0.tmps.getD 8 undef = .int .u8 s) : Obl Try.prog fof_ops (fof_S m0 s _hb _hm) Q a0 w0 4 :=
  obl_val (.move (.tmp 8)) none rfl (by kernel_rfl) fun a w N H D => ⟨(fun _ _ hg => by cases hg), fun _ ho => wp_move (.inl ho) (held_base H 8 (by kernel_rfl) hs8)⟩
theorem fof_o5 (m0 : Nat → Bool) (s : Int) (_hb : 97 ≤ s ∧ s ≤ 122) (_hm : m0 s.toNat = false) (Q : Exit → Act → World → Prop) (a0 : Act) (w0 : World)  : Obl Try.prog fof_ops (fof_S m0 s _hb _hm) Q a0 w0 5 :=
  obl_val (.binOp .sub 5 (.tmp 35) (.const (.int .u8 32)) 5) none rfl (by kernel_rfl) fun a w N H D => ⟨(fun _ _ hg => by cases hg), fun _ ho => wp_sub8 ho (fact_eq (c := .int .u8 s) (D 4 (by kernel_rfl)) rfl (by kernel_rfl)) rfl rfl (by omega)⟩
theorem fof_o6 (m0 : Nat → Bool) (s : Int) (_hb : 97 ≤ s ∧ s ≤ 122) (_hm : m0 s.toNat = false) (Q : Exit → Act → World → Prop) (a0 : Act) (w0 : World)  : Obl Try.prog fof_ops (fof_S m0 s _hb _hm) Q a0 w0 6 :=
  obl_val (.call { callee := .value (.func 14), args := #[.tmp 34, .tmp 36], argTypes := #[24, 5] }) none rfl (by kernel_rfl) fun a w N H D => ⟨(fun _ _ hg => by cases hg), fun _ ho => wp_call_eq ho (fun xs w => by kernel_rfl) (by simp only [List.map_toArray, List.map_cons, List.map_nil]; rw [(fact_eq (c := setV (foldM m0)) (D 3 (by kernel_rfl)) rfl (by kernel_rfl)), (fact_eq (c := .int .u8 (s - 32)) (D 5 (by kernel_rfl)) rfl (by kernel_rfl))]) (has_any (foldM m0) ((s - 32)) (by omega) (by omega) _)⟩
theorem fof_o7 (m0 : Nat → Bool) (s : Int) (_hb : 97 ≤ s ∧ s ≤ 122) (_hm : m0 s.toNat = false) (Q : Exit → Act → World → Prop) (a0 : Act) (w0 : World)  : Obl Try.prog fof_ops (fof_S m0 s _hb _hm) Q a0 w0 7 :=
  obl_val (.binOp .eql 4 (.tmp 33) (.tmp 37) 4) none rfl (by kernel_rfl) fun a w N H D => ⟨(fun _ _ hg => by cases hg), fun _ ho => wp_of_eq (wp_eqb ho (fact_eq (c := .bool ((foldM m0) (s).toNat)) (D 2 (by kernel_rfl)) rfl (by kernel_rfl)) (fact_eq (c := .bool ((foldM m0) ((s - 32)).toNat)) (D 6 (by kernel_rfl)) rfl (by kernel_rfl))) (.bool true) (by rw [fol38 m0 s _hb])⟩
theorem fof_o8 (m0 : Nat → Bool) (s : Int) (_hb : 97 ≤ s ∧ s ≤ 122) (_hm : m0 s.toNat = false) (Q : Exit → Act → World → Prop) (a0 : Act) (w0 : World)  : Obl Try.prog fof_ops (fof_S m0 s _hb _hm) Q a0 w0 8 :=
  obl_val (.move (.tmp 38)) none rfl (by kernel_rfl) fun a w N H D => ⟨(fun _ _ hg => by cases hg), fun _ ho => wp_move (.inl ho) (fact_eq (c := .bool true) (D 7 (by kernel_rfl)) rfl (by kernel_rfl))⟩
theorem fof_o9 (m0 : Nat → Bool) (s : Int) (_hb : 97 ≤ s ∧ s ≤ 122) (_hm : m0 s.toNat = false) (c : Nat) (Q : Exit → Act → World → Prop) (a0 : Act) (w0 : World) (hs7 : a0.tmps.getD 7 undef = .pointer (some ⟨c, 0, none⟩)) (hB7 : Blk w0 c 24 (setL (foldM m0))) : Obl Try.prog fof_ops (fof_S m0 s _hb _hm) Q a0 w0 9 :=
  obl_load_old 7 (c) rfl (some (8, true)) (by kernel_rfl) (by kernel_rfl) hs7 hB7 (fun a w N H D => (fun _ _ hg => by cases hg; exact ⟨39, by kernel_rfl, fact_eq (D 8 (by kernel_rfl)) rfl (by kernel_rfl)⟩))
theorem fof_o10 (m0 : Nat → Bool) (s : Int) (_hb : 97 ≤ s ∧ s ≤ 122) (_hm : m0 s.toNat = false) (Q : Exit → Act → World → Prop) (a0 : Act) (w0 : World) (hs8 : a0.tmps.getD 8 undef = .int .u8 s) : Obl Try.prog fof_ops (fof_S m0 s _hb _hm) Q a0 w0 10 :=
  obl_val (.move (.tmp 8)) (some (8, true)) rfl (by kernel_rfl) fun a w N H D => ⟨(fun _ _ hg => by cases hg; exact ⟨39, by kernel_rfl, fact_eq (D 8 (by kernel_rfl)) rfl (by kernel_rfl)⟩), fun _ ho => wp_move (.inl ho) (held_base H 8 (by kernel_rfl) hs8)⟩
theorem fof_o11 (m0 : Nat → Bool) (s : Int) (_hb : 97 ≤ s ∧ s ≤ 122) (_hm : m0 s.toNat = false) (Q : Exit → Act → World → Prop) (a0 : Act) (w0 : World)  : Obl Try.prog fof_ops (fof_S m0 s _hb _hm) Q a0 w0 11 :=
  obl_val (.call { callee := .value (.func 14), args := #[.tmp 40, .tmp 41], argTypes := #[24, 5] }) (some (8, true)) rfl (by kernel_rfl) fun a w N H D => ⟨(fun _ _ hg => by cases hg; exact ⟨39, by kernel_rfl, fact_eq (D 8 (by kernel_rfl)) rfl (by kernel_rfl)⟩), fun _ ho => wp_call_eq ho (fun xs w => by kernel_rfl) (by simp only [List.map_toArray, List.map_cons, List.map_nil]; rw [(fact_eq (c := setV (foldM m0)) (D 9 (by kernel_rfl)) rfl (by kernel_rfl)), (fact_eq (c := .int .u8 s) (D 10 (by kernel_rfl)) rfl (by kernel_rfl))]) (has_any (foldM m0) (s) (by omega) (by omega) _)⟩
theorem fof_o12 (m0 : Nat → Bool) (s : Int) (_hb : 97 ≤ s ∧ s ≤ 122) (_hm : m0 s.toNat = false) (b : Nat) (Q : Exit → Act → World → Prop) (a0 : Act) (w0 : World) (hs3 : a0.tmps.getD 3 undef = .pointer (some ⟨b, 0, none⟩)) (hB3 : Blk w0 b 24 (setL m0)) : Obl Try.prog fof_ops (fof_S m0 s _hb _hm) Q a0 w0 12 :=
  obl_load_old 3 (b) rfl (some (8, true)) (by kernel_rfl) (by kernel_rfl) hs3 hB3 (fun a w N H D => (fun _ _ hg => by cases hg; exact ⟨39, by kernel_rfl, fact_eq (D 8 (by kernel_rfl)) rfl (by kernel_rfl)⟩))
theorem fof_o13 (m0 : Nat → Bool) (s : Int) (_hb : 97 ≤ s ∧ s ≤ 122) (_hm : m0 s.toNat = false) (Q : Exit → Act → World → Prop) (a0 : Act) (w0 : World) (hs8 : a0.tmps.getD 8 undef = .int .u8 s) : Obl Try.prog fof_ops (fof_S m0 s _hb _hm) Q a0 w0 13 :=
  obl_val (.move (.tmp 8)) (some (8, true)) rfl (by kernel_rfl) fun a w N H D => ⟨(fun _ _ hg => by cases hg; exact ⟨39, by kernel_rfl, fact_eq (D 8 (by kernel_rfl)) rfl (by kernel_rfl)⟩), fun _ ho => wp_move (.inl ho) (held_base H 8 (by kernel_rfl) hs8)⟩
theorem fof_o14 (m0 : Nat → Bool) (s : Int) (_hb : 97 ≤ s ∧ s ≤ 122) (_hm : m0 s.toNat = false) (Q : Exit → Act → World → Prop) (a0 : Act) (w0 : World)  : Obl Try.prog fof_ops (fof_S m0 s _hb _hm) Q a0 w0 14 :=
  obl_val (.call { callee := .value (.func 14), args := #[.tmp 43, .tmp 44], argTypes := #[24, 5] }) (some (8, true)) rfl (by kernel_rfl) fun a w N H D => ⟨(fun _ _ hg => by cases hg; exact ⟨39, by kernel_rfl, fact_eq (D 8 (by kernel_rfl)) rfl (by kernel_rfl)⟩), fun _ ho => wp_of_eq (wp_call_eq ho (fun xs w => by kernel_rfl) (by simp only [List.map_toArray, List.map_cons, List.map_nil]; rw [(fact_eq (c := setV m0) (D 12 (by kernel_rfl)) rfl (by kernel_rfl)), (fact_eq (c := .int .u8 s) (D 13 (by kernel_rfl)) rfl (by kernel_rfl))]) (has_any m0 (s) (by omega) (by omega) _)) (.bool false) (by rw [_hm])⟩
theorem fof_o15 (m0 : Nat → Bool) (s : Int) (_hb : 97 ≤ s ∧ s ≤ 122) (_hm : m0 s.toNat = false) (Q : Exit → Act → World → Prop) (a0 : Act) (w0 : World)  : Obl Try.prog fof_ops (fof_S m0 s _hb _hm) Q a0 w0 15 :=
  obl_val (.move (.tmp 45)) (some (8, true)) rfl (by kernel_rfl) fun a w N H D => ⟨(fun _ _ hg => by cases hg; exact ⟨39, by kernel_rfl, fact_eq (D 8 (by kernel_rfl)) rfl (by kernel_rfl)⟩), fun _ ho => wp_move (.inl ho) (fact_eq (c := .bool false) (D 14 (by kernel_rfl)) rfl (by kernel_rfl))⟩
theorem fof_o16 (m0 : Nat → Bool) (s : Int) (_hb : 97 ≤ s ∧ s ≤ 122) (_hm : m0 s.toNat = false) (b : Nat) (Q : Exit → Act → World → Prop) (a0 : Act) (w0 : World) (hs3 : a0.tmps.getD 3 undef = .pointer (some ⟨b, 0, none⟩)) (hB3 : Blk w0 b 24 (setL m0)) : Obl Try.prog fof_ops (fof_S m0 s _hb _hm) Q a0 w0 16 :=
  obl_load_old 3 (b) rfl (some (15, false)) (by kernel_rfl) (by kernel_rfl) hs3 hB3 (fun a w N H D => (fun _ _ hg => by cases hg; exact ⟨46, by kernel_rfl, fact_eq (D 15 (by kernel_rfl)) rfl (by kernel_rfl)⟩))
theorem fof_o17 (m0 : Nat → Bool) (s : Int) (_hb : 97 ≤ s ∧ s ≤ 122) (_hm : m0 s.toNat = false) (Q : Exit → Act → World → Prop) (a0 : Act) (w0 : World) (hs8 : a0.tmps.getD 8 undef = .int .u8 s) : Obl Try.prog fof_ops (fof_S m0 s _hb _hm) Q a0 w0 17 :=
  obl_val (.move (.tmp 8)) (some (15, false)) rfl (by kernel_rfl) fun a w N H D => ⟨(fun _ _ hg => by cases hg; exact ⟨46, by kernel_rfl, fact_eq (D 15 (by kernel_rfl)) rfl (by kernel_rfl)⟩), fun _ ho => wp_move (.inl ho) (held_base H 8 (by kernel_rfl) hs8)⟩
theorem fof_o18 (m0 : Nat → Bool) (s : Int) (_hb : 97 ≤ s ∧ s ≤ 122) (_hm : m0 s.toNat = false) (Q : Exit → Act → World → Prop) (a0 : Act) (w0 : World)  : Obl Try.prog fof_ops (fof_S m0 s _hb _hm) Q a0 w0 18 :=
  obl_val (.binOp .sub 5 (.tmp 48) (.const (.int .u8 32)) 5) (some (15, false)) rfl (by kernel_rfl) fun a w N H D => ⟨(fun _ _ hg => by cases hg; exact ⟨46, by kernel_rfl, fact_eq (D 15 (by kernel_rfl)) rfl (by kernel_rfl)⟩), fun _ ho => wp_sub8 ho (fact_eq (c := .int .u8 s) (D 17 (by kernel_rfl)) rfl (by kernel_rfl)) rfl rfl (by omega)⟩
theorem fof_o19 (m0 : Nat → Bool) (s : Int) (_hb : 97 ≤ s ∧ s ≤ 122) (_hm : m0 s.toNat = false) (Q : Exit → Act → World → Prop) (a0 : Act) (w0 : World)  : Obl Try.prog fof_ops (fof_S m0 s _hb _hm) Q a0 w0 19 :=
  obl_val (.call { callee := .value (.func 14), args := #[.tmp 47, .tmp 49], argTypes := #[24, 5] }) (some (15, false)) rfl (by kernel_rfl) fun a w N H D => ⟨(fun _ _ hg => by cases hg; exact ⟨46, by kernel_rfl, fact_eq (D 15 (by kernel_rfl)) rfl (by kernel_rfl)⟩), fun _ ho => wp_call_eq ho (fun xs w => by kernel_rfl) (by simp only [List.map_toArray, List.map_cons, List.map_nil]; rw [(fact_eq (c := setV m0) (D 16 (by kernel_rfl)) rfl (by kernel_rfl)), (fact_eq (c := .int .u8 (s - 32)) (D 18 (by kernel_rfl)) rfl (by kernel_rfl))]) (has_any m0 ((s - 32)) (by omega) (by omega) _)⟩
theorem fof_o20 (m0 : Nat → Bool) (s : Int) (_hb : 97 ≤ s ∧ s ≤ 122) (_hm : m0 s.toNat = false) (Q : Exit → Act → World → Prop) (a0 : Act) (w0 : World)  : Obl Try.prog fof_ops (fof_S m0 s _hb _hm) Q a0 w0 20 :=
  obl_val (.pick (.tmp 46) (.const (.bool true)) (.tmp 50)) (some (8, true)) rfl (by kernel_rfl) fun a w N H D => ⟨(fun _ _ hg => by cases hg; exact ⟨39, by kernel_rfl, fact_eq (D 8 (by kernel_rfl)) rfl (by kernel_rfl)⟩), fun _ ho => wp_pick (b := false) ho (fact_eq (c := .bool false) (D 15 (by kernel_rfl)) rfl (by kernel_rfl)) (fact_eq (c := .bool (m0 ((s - 32)).toNat)) (D 19 (by kernel_rfl)) rfl (by kernel_rfl))⟩
theorem fof_o21 (m0 : Nat → Bool) (s : Int) (_hb : 97 ≤ s ∧ s ≤ 122) (_hm : m0 s.toNat = false) (Q : Exit → Act → World → Prop) (a0 : Act) (w0 : World)  : Obl Try.prog fof_ops (fof_S m0 s _hb _hm) Q a0 w0 21 :=
  obl_val (.binOp .eql 4 (.tmp 42) (.tmp 51) 4) (some (8, true)) rfl (by kernel_rfl) fun a w N H D => ⟨(fun _ _ hg => by cases hg; exact ⟨39, by kernel_rfl, fact_eq (D 8 (by kernel_rfl)) rfl (by kernel_rfl)⟩), fun _ ho => wp_of_eq (wp_eqb ho (fact_eq (c := .bool ((foldM m0) (s).toNat)) (D 11 (by kernel_rfl)) rfl (by kernel_rfl)) (fact_eq (c := .bool (m0 ((s - 32)).toNat)) (D 20 (by kernel_rfl)) rfl (by kernel_rfl))) (.bool true) (by rw [fol52f m0 s _hb _hm])⟩
theorem fof_o22 (m0 : Nat → Bool) (s : Int) (_hb : 97 ≤ s ∧ s ≤ 122) (_hm : m0 s.toNat = false) (Q : Exit → Act → World → Prop) (a0 : Act) (w0 : World)  : Obl Try.prog fof_ops (fof_S m0 s _hb _hm) Q a0 w0 22 :=
  obl_val (.pick (.tmp 39) (.tmp 52) (.const (.bool false))) none rfl (by kernel_rfl) fun a w N H D => ⟨(fun _ _ hg => by cases hg), fun _ ho => wp_pick (b := true) ho (fact_eq (c := .bool true) (D 8 (by kernel_rfl)) rfl (by kernel_rfl)) (fact_eq (c := .bool true) (D 21 (by kernel_rfl)) rfl (by kernel_rfl))⟩
theorem fof_o23 (m0 : Nat → Bool) (s : Int) (_hb : 97 ≤ s ∧ s ≤ 122) (_hm : m0 s.toNat = false) (Q : Exit → Act → World → Prop) (a0 : Act) (w0 : World)  : Obl Try.prog fof_ops (fof_S m0 s _hb _hm) Q a0 w0 23 :=
  obl_val (.move (.tmp 53)) none rfl (by kernel_rfl) fun a w N H D => ⟨(fun _ _ hg => by cases hg), fun _ ho => wp_move (.inl ho) (fact_eq (c := .bool true) (D 22 (by kernel_rfl)) rfl (by kernel_rfl))⟩
theorem fof_o24 (m0 : Nat → Bool) (s : Int) (_hb : 97 ≤ s ∧ s ≤ 122) (_hm : m0 s.toNat = false) (Q : Exit → Act → World → Prop) (a0 : Act) (w0 : World)  : Obl Try.prog fof_ops (fof_S m0 s _hb _hm) Q a0 w0 24 :=
  obl_val (.call { callee := .value (.func 12), args := #[], argTypes := #[] }) (some (23, true)) rfl (by kernel_rfl) fun a w N H D => ⟨(fun _ _ hg => by cases hg; exact ⟨54, by kernel_rfl, fact_eq (D 23 (by kernel_rfl)) rfl (by kernel_rfl)⟩), fun _ ho => wp_call_eq ho (fun xs w => by kernel_rfl) (by simp) (awake_any _)⟩
theorem fof_o25 (m0 : Nat → Bool) (s : Int) (_hb : 97 ≤ s ∧ s ≤ 122) (_hm : m0 s.toNat = false) (Q : Exit → Act → World → Prop) (a0 : Act) (w0 : World)  : Obl Try.prog fof_ops (fof_S m0 s _hb _hm) Q a0 w0 25 :=
  obl_val (.pick (.tmp 54) (.tmp 55) (.const (.bool false))) none rfl (by kernel_rfl) fun a w N H D => ⟨(fun _ _ hg => by cases hg), fun _ ho => wp_pick (b := true) ho (fact_eq (c := .bool true) (D 23 (by kernel_rfl)) rfl (by kernel_rfl)) (fact_eq (c := .bool true) (D 24 (by kernel_rfl)) rfl (by kernel_rfl))⟩
theorem fof_o26 (m0 : Nat → Bool) (s : Int) (_hb : 97 ≤ s ∧ s ≤ 122) (_hm : m0 s.toNat = false) (Q : Exit → Act → World → Prop) (a0 : Act) (w0 : World)  : Obl Try.prog fof_ops (fof_S m0 s _hb _hm) Q a0 w0 26 :=
  obl_val (.assign (.tmp 56)) none rfl (by kernel_rfl) fun a w N H D => ⟨(fun _ _ hg => by cases hg), fun _ ho => wp_move (.inr ho) (fact_eq (c := .bool true) (D 25 (by kernel_rfl)) rfl (by kernel_rfl))⟩
theorem fof_all (m0 : Nat → Bool) (s : Int) (_hb : 97 ≤ s ∧ s ≤ 122) (_hm : m0 s.toNat = false) (b : Nat) (c : Nat) (Q : Exit → Act → World → Prop) (a0 : Act) (w0 : World) (hs3 : a0.tmps.getD 3 undef = .pointer (some ⟨b, 0, none⟩)) (hB3 : Blk w0 b 24 (setL m0)) (hs7 : a0.tmps.getD 7 undef = .pointer (some ⟨c, 0, none⟩)) (hB7 : Blk w0 c 24 (setL (foldM m0))) (hs8 : a0.tmps.getD 8 undef = .int .u8 s) : ∀ i, i < fof_ops.size → Obl Try.prog fof_ops (fof_S m0 s _hb _hm) Q a0 w0 i := by
  intro i hi
  have hs : fof_ops.size = 27 := by kernel_rfl
  rw [hs] at hi
  clear hs
  match i, hi with
  | 0, _ => exact fof_o0 m0 s _hb _hm c Q a0 w0 hs7 hB7
  | 1, _ => exact fof_o1 m0 s _hb _hm  Q a0 w0 hs8
  | 2, _ => exact fof_o2 m0 s _hb _hm  Q a0 w0 
  | 3, _ => exact fof_o3 m0 s _hb _hm c Q a0 w0 hs7 hB7
  | 4, _ => exact fof_o4 m0 s _hb _hm  Q a0 w0 hs8
  | 5, _ => exact fof_o5 m0 s _hb _hm  Q a0 w0 
  | 6, _ => exact fof_o6 m0 s _hb _hm  Q a0 w0 
  | 7, _ => exact fof_o7 m0 s _hb _hm  Q a0 w0 
  | 8, _ => exact fof_o8 m0 s _hb _hm  Q a0 w0 
  | 9, _ => exact fof_o9 m0 s _hb _hm c Q a0 w0 hs7 hB7
  | 10, _ => exact fof_o10 m0 s _hb _hm  Q a0 w0 hs8
  | 11, _ => exact fof_o11 m0 s _hb _hm  Q a0 w0 
  | 12, _ => exact fof_o12 m0 s _hb _hm b Q a0 w0 hs3 hB3
  | 13, _ => exact fof_o13 m0 s _hb _hm  Q a0 w0 hs8
  | 14, _ => exact fof_o14 m0 s _hb _hm  Q a0 w0 
  | 15, _ => exact fof_o15 m0 s _hb _hm  Q a0 w0 
  | 16, _ => exact fof_o16 m0 s _hb _hm b Q a0 w0 hs3 hB3
  | 17, _ => exact fof_o17 m0 s _hb _hm  Q a0 w0 hs8
  | 18, _ => exact fof_o18 m0 s _hb _hm  Q a0 w0 
  | 19, _ => exact fof_o19 m0 s _hb _hm  Q a0 w0 
  | 20, _ => exact fof_o20 m0 s _hb _hm  Q a0 w0 
  | 21, _ => exact fof_o21 m0 s _hb _hm  Q a0 w0 
  | 22, _ => exact fof_o22 m0 s _hb _hm  Q a0 w0 
  | 23, _ => exact fof_o23 m0 s _hb _hm  Q a0 w0 
  | 24, _ => exact fof_o24 m0 s _hb _hm  Q a0 w0 
  | 25, _ => exact fof_o25 m0 s _hb _hm  Q a0 w0 
  | 26, _ => exact fof_o26 m0 s _hb _hm  Q a0 w0 
  | i + 27, h => exact absurd h (by omega)
set_option maxRecDepth 100000 in
set_option maxHeartbeats 1000000 in
theorem folds_any (m0 m1 : Nat → Bool) (c0 : Int) (wc : (Lit.int .u8 c0).wf = true) (w : World) :
    Calls Try.prog 4 #[setV m0, setV m1, .int .u8 c0] w fun e w' => e = .returned (.bool true) ∧ Below w.heap.size w w' := by
  have hc0 : 0 ≤ c0 ∧ c0 ≤ 255 := by
    simp [Lit.wf, IntKind.min, IntKind.max, IntKind.signed, IntKind.bits] at wc
    omega
  obtain ⟨hc1, hc2⟩ := hc0
  clear wc
  unfold setV
  go_enter Try.func4, Try.ntmps4
  go_wp2_with fail
  refine (fold_any m0 _).mono ?_
  rintro e w1 ⟨rfl, hb1⟩
  have hb3 : Blk w1 w.heap.size 24 (setL m0) := ((Blk.new w (setL m0) 24).alloc _).below hb1 (by simp; omega)
  have hb4 : Blk w1 (w.heap.size + 1) 24 (setL m1) := Blk.below (by simpa using Blk.new (w.alloc (.cells (setL m0).toArray 24)) (setL m1) 24) hb1 (by simp)
  have hw1 : Below w.heap.size w w1 := Below.trans (by go_grown) (hb1.mono (by simp; omega))
  clear hb1
  go_wp2
  replace hb3 := hb3.alloc (.cells (setL (foldM m0)).toArray 24)
  replace hb4 := hb4.alloc (.cells (setL (foldM m0)).toArray 24)
  have hb7 := Blk.new w1 (setL (foldM m0)) 24
  replace hw1 := hw1.alloc hw1.size (.cells (setL (foldM m0)).toArray 24)
  refine region_named (ops' := fol_ops) (by kernel_rfl) (fol_S m0 m1) 57 rfl (by kernel_rfl) (by kernel_rfl) (fol_all m0 m1 w.heap.size w1.heap.size _ _ _ rfl hb3.drew rfl hb4.drew rfl hb7.drew) ?_
  rename_i hK
  intro a w2 N H hF
  have q27 : a.tmps.getD 27 undef = .bool false := fact_eq (hF 16 (by kernel_rfl)) rfl (by kernel_rfl)
  have q2 : a.tmps.getD 2 undef = .int .u8 c0 := held_base H 2 (by kernel_rfl) rfl
  have q3 : a.tmps.getD 3 undef = .pointer (some ⟨w.heap.size, 0, none⟩) := held_base H 3 (by kernel_rfl) rfl
  have q7 : a.tmps.getD 7 undef = .pointer (some ⟨w1.heap.size, 0, none⟩) := held_base H 7 (by kernel_rfl) rfl
  have hd : a.defers = [] := H.defers
  have hw2 : Below w.heap.size w w2 := hw1.drew.trans (H.below.mono hw1.size)
  replace hb3 := hb3.drew.below H.below hb3.lt
  replace hb7 := hb7.drew.below H.below hb7.lt
  clear hb4 hF hw1
  refine hK _ _ ?_
  clear hK
  have Hsz : a.tmps.size = 57 := H.size
  clear H
  rw [act_eq a 57 Hsz, show List.range 57 = [0, 1, 2, 3, 4, 5, 6, 7, 8, 9, 10, 11, 12, 13, 14, 15, 16, 17, 18, 19, 20, 21, 22, 23, 24, 25, 26, 27, 28, 29, 30, 31, 32, 33, 34, 35, 36, 37, 38, 39, 40, 41, 42, 43, 44, 45, 46, 47, 48, 49, 50, 51, 52, 53, 54, 55, 56] from rfl]
  simp only [List.map_cons, List.map_nil, q2, q3, q7, q27, hd]
  generalize a.tmps.getD 0 undef = z0
  generalize a.tmps.getD 1 undef = z1
  generalize a.tmps.getD 4 undef = z4
  generalize a.tmps.getD 5 undef = z5
  generalize a.tmps.getD 6 undef = z6
  generalize a.tmps.getD 8 undef = z8
  generalize a.tmps.getD 9 undef = z9
  generalize a.tmps.getD 10 undef = z10
  generalize a.tmps.getD 11 undef = z11
  generalize a.tmps.getD 12 undef = z12
  generalize a.tmps.getD 13 undef = z13
  generalize a.tmps.getD 14 undef = z14
  generalize a.tmps.getD 15 undef = z15
  generalize a.tmps.getD 16 undef = z16
  generalize a.tmps.getD 17 undef = z17
  generalize a.tmps.getD 18 undef = z18
  generalize a.tmps.getD 19 undef = z19
  generalize a.tmps.getD 20 undef = z20
  generalize a.tmps.getD 21 undef = z21
  generalize a.tmps.getD 22 undef = z22
  generalize a.tmps.getD 23 undef = z23
  generalize a.tmps.getD 24 undef = z24
  generalize a.tmps.getD 25 undef = z25
  generalize a.tmps.getD 26 undef = z26
  generalize a.tmps.getD 28 undef = z28
  generalize a.tmps.getD 29 undef = z29
  generalize a.tmps.getD 30 undef = z30
  generalize a.tmps.getD 31 undef = z31
  generalize a.tmps.getD 32 undef = z32
  generalize a.tmps.getD 33 undef = z33
  generalize a.tmps.getD 34 undef = z34
  generalize a.tmps.getD 35 undef = z35
  generalize a.tmps.getD 36 undef = z36
  generalize a.tmps.getD 37 undef = z37
  generalize a.tmps.getD 38 undef = z38
  generalize a.tmps.getD 39 undef = z39
  generalize a.tmps.getD 40 undef = z40
  generalize a.tmps.getD 41 undef = z41
  generalize a.tmps.getD 42 undef = z42
  generalize a.tmps.getD 43 undef = z43
  generalize a.tmps.getD 44 undef = z44
  generalize a.tmps.getD 45 undef = z45
  generalize a.tmps.getD 46 undef = z46
  generalize a.tmps.getD 47 undef = z47
  generalize a.tmps.getD 48 undef = z48
  generalize a.tmps.getD 49 undef = z49
  generalize a.tmps.getD 50 undef = z50
  generalize a.tmps.getD 51 undef = z51
  generalize a.tmps.getD 52 undef = z52
  generalize a.tmps.getD 53 undef = z53
  generalize a.tmps.getD 54 undef = z54
  generalize a.tmps.getD 55 undef = z55
  generalize a.tmps.getD 56 undef = z56
  clear q27 hd Hsz q2 q3 q7
  clear a N
  generalize w1.heap.size = g at *
  go_wp2
  have hs : 97 ≤ 97 + c0 % 26 ∧ 97 + c0 % 26 ≤ 122 := by omega
  cases hm : m0 (97 + c0 % 26).toNat with
  | true =>
    refine region_named (ops' := fot_ops) (by kernel_rfl) (fot_S m0 (97 + c0 % 26) hs hm) 57 rfl (by kernel_rfl) (by kernel_rfl) (fot_all m0 (97 + c0 % 26) hs hm w.heap.size g _ _ _ rfl hb3.drew rfl hb7.drew rfl) ?_
    rename_i hK
    intro a2 w3 N2 H2 hF2
    have q6 : a2.tmps.getD 6 undef = .bool true := fact_eq (hF2 26 (by kernel_rfl)) rfl (by kernel_rfl)
    refine hK _ _ (wp_ret (bodyPost_ret (results_tmp rfl _ _ _) H2.defers ⟨?_, hw2.drew.trans (H2.below.mono hw2.size)⟩))
    rw [q6]
  | false =>
    refine region_named (ops' := fof_ops) (by kernel_rfl) (fof_S m0 (97 + c0 % 26) hs hm) 57 rfl (by kernel_rfl) (by kernel_rfl) (fof_all m0 (97 + c0 % 26) hs hm w.heap.size g _ _ _ rfl hb3.drew rfl hb7.drew rfl) ?_
    rename_i hK
    intro a2 w3 N2 H2 hF2
    have q6 : a2.tmps.getD 6 undef = .bool true := fact_eq (hF2 26 (by kernel_rfl)) rfl (by kernel_rfl)
    refine hK _ _ (wp_ret (bodyPost_ret (results_tmp rfl _ _ _) H2.defers ⟨?_, hw2.drew.trans (H2.below.mono hw2.size)⟩))
    rw [q6]
end Go.Proofs.Ytanimknpnniabaa
