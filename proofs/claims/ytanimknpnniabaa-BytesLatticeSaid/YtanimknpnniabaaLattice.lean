/- BytesLattice: sets are a lattice: its one region, and the whole. -/
import Derived.Test.YtanimknpnniabaaOps
import Derived.Test.YtanimknpnniabaaAwake01
import Derived.Test.YtanimknpnniabaaLatticeP
namespace Go.Proofs.Ytanimknpnniabaa
open Go.RowKit
noncomputable def lat_ops : Array Oper := regOf Try.f3 1
def lat_S (m0 m1 : Nat → Bool) : List RK := [RK.eq (setV m0), RK.eq (setV m1), RK.val (RG.sets [m0, m1]), RK.eq (setV (anyM [m0, m1])), RK.eq (setV m0), RK.eq (setV m1), RK.eq (setV (fun x => m0 x && m1 x)), RK.new 24 4, RK.new 24 4, RK.put 7 (setL (anyM [m0, m1])), RK.put 8 (setL (fun x => m0 x && m1 x))]
theorem lat_o0 (m0 m1 : Nat → Bool) (b : Nat) (Q : Exit → Act → World → Prop) (a0 : Act) (w0 : World) (hs3 : a0.tmps.getD 3 undef = .pointer (some ⟨b, 0, none⟩)) (hB3 : Blk w0 b 24 (setL m0)) : Obl Try.prog lat_ops (lat_S m0 m1) Q a0 w0 0 :=
  obl_load_old 3 (b) rfl none (by kernel_rfl) (by kernel_rfl) hs3 hB3 (fun a w N H D => (fun _ _ hg => by cases hg))
theorem lat_o1 (m0 m1 : Nat → Bool) (b : Nat) (Q : Exit → Act → World → Prop) (a0 : Act) (w0 : World) (hs4 : a0.tmps.getD 4 undef = .pointer (some ⟨b + 1, 0, none⟩)) (hB4 : Blk w0 (b + 1) 24 (setL m1)) : Obl Try.prog lat_ops (lat_S m0 m1) Q a0 w0 1 :=
  obl_load_old 4 ((b + 1)) rfl none (by kernel_rfl) (by kernel_rfl) hs4 hB4 (fun a w N H D => (fun _ _ hg => by cases hg))
theorem lat_o2 (m0 m1 : Nat → Bool) (Q : Exit → Act → World → Prop) (a0 : Act) (w0 : World)  : Obl Try.prog lat_ops (lat_S m0 m1) Q a0 w0 2 :=
  obl_val (.buildSlice 42 2 #[(0, .tmp 9), (1, .tmp 10)]) none rfl (by kernel_rfl) fun a w N H D => ⟨(fun _ _ hg => by cases hg), fun _ ho => wp_build2 ho (fact_eq (c := setV m0) (D 0 (by kernel_rfl)) rfl (by kernel_rfl)) (fact_eq (c := setV m1) (D 1 (by kernel_rfl)) rfl (by kernel_rfl))⟩
theorem lat_o3 (m0 m1 : Nat → Bool) (Q : Exit → Act → World → Prop) (a0 : Act) (w0 : World)  : Obl Try.prog lat_ops (lat_S m0 m1) Q a0 w0 3 :=
  obl_val (.call { callee := .value (.func 7), args := #[.tmp 11], argTypes := #[42] }) none rfl (by kernel_rfl) fun a w N H D => ⟨(fun _ _ hg => by cases hg), fun _ ho => wp_call_eq (xs := #[a.eval (.tmp 11)]) ho (fun xs w => by kernel_rfl) (by simp only [List.map_toArray, List.map_cons, List.map_nil]) (union_any [m0, m1] _ _ (RG.sets_rd (fact_val (D 2 (by kernel_rfl)) rfl (by kernel_rfl))))⟩
theorem lat_o4 (m0 m1 : Nat → Bool) (b : Nat) (Q : Exit → Act → World → Prop) (a0 : Act) (w0 : World) (hs3 : a0.tmps.getD 3 undef = .pointer (some ⟨b, 0, none⟩)) (hB3 : Blk w0 b 24 (setL m0)) : Obl Try.prog lat_ops (lat_S m0 m1) Q a0 w0 4 :=
  obl_load_old 3 (b) rfl none (by kernel_rfl) (by kernel_rfl) hs3 hB3 (fun a w N H D => (fun _ _ hg => by cases hg))
theorem lat_o5 (m0 m1 : Nat → Bool) (b : Nat) (Q : Exit → Act → World → Prop) (a0 : Act) (w0 : World) (hs4 : a0.tmps.getD 4 undef = .pointer (some ⟨b + 1, 0, none⟩)) (hB4 : Blk w0 (b + 1) 24 (setL m1)) : Obl Try.prog lat_ops (lat_S m0 m1) Q a0 w0 5 :=
  obl_load_old 4 ((b + 1)) rfl none (by kernel_rfl) (by kernel_rfl) hs4 hB4 (fun a w N H D => (fun _ _ hg => by cases hg))
theorem lat_o6 (m0 m1 : Nat → Bool) (Q : Exit → Act → World → Prop) (a0 : Act) (w0 : World)  : Obl Try.prog lat_ops (lat_S m0 m1) Q a0 w0 6 :=
  obl_val (.call { callee := .value (.func 8), args := #[.tmp 13, .tmp 14], argTypes := #[24, 24] }) none rfl (by kernel_rfl) fun a w N H D => ⟨(fun _ _ hg => by cases hg), fun _ ho => wp_call_eq ho (fun xs w => by kernel_rfl) (by simp only [List.map_toArray, List.map_cons, List.map_nil]; rw [(fact_eq (c := setV m0) (D 4 (by kernel_rfl)) rfl (by kernel_rfl)), (fact_eq (c := setV m1) (D 5 (by kernel_rfl)) rfl (by kernel_rfl))]) (meet_any (m0) (m1) _)⟩
theorem lat_o7 (m0 m1 : Nat → Bool) (Q : Exit → Act → World → Prop) (a0 : Act) (w0 : World)  : Obl Try.prog lat_ops (lat_S m0 m1) Q a0 w0 7 :=
  obl_new rfl (by kernel_rfl)
theorem lat_o8 (m0 m1 : Nat → Bool) (Q : Exit → Act → World → Prop) (a0 : Act) (w0 : World)  : Obl Try.prog lat_ops (lat_S m0 m1) Q a0 w0 8 :=
  obl_new rfl (by kernel_rfl)
theorem lat_o9 (m0 m1 : Nat → Bool) (Q : Exit → Act → World → Prop) (a0 : Act) (w0 : World)  : Obl Try.prog lat_ops (lat_S m0 m1) Q a0 w0 9 :=
  obl_put 7 7 12 3 rfl (by kernel_rfl) (by kernel_rfl) rfl (by kernel_rfl) rfl (by kernel_rfl) (by kernel_rfl) (by kernel_rfl)
theorem lat_o10 (m0 m1 : Nat → Bool) (Q : Exit → Act → World → Prop) (a0 : Act) (w0 : World)  : Obl Try.prog lat_ops (lat_S m0 m1) Q a0 w0 10 :=
  obl_put 8 8 15 6 rfl (by kernel_rfl) (by kernel_rfl) rfl (by kernel_rfl) rfl (by kernel_rfl) (by kernel_rfl) (by kernel_rfl)
theorem lat_all (m0 m1 : Nat → Bool) (b : Nat) (Q : Exit → Act → World → Prop) (a0 : Act) (w0 : World) (hs3 : a0.tmps.getD 3 undef = .pointer (some ⟨b, 0, none⟩)) (hB3 : Blk w0 b 24 (setL m0)) (hs4 : a0.tmps.getD 4 undef = .pointer (some ⟨b + 1, 0, none⟩)) (hB4 : Blk w0 (b + 1) 24 (setL m1)) : ∀ i, i < lat_ops.size → Obl Try.prog lat_ops (lat_S m0 m1) Q a0 w0 i := by
  intro i hi
  have hs : lat_ops.size = 11 := by kernel_rfl
  rw [hs] at hi
  clear hs
  match i, hi with
  | 0, _ => exact lat_o0 m0 m1 b Q a0 w0 hs3 hB3
  | 1, _ => exact lat_o1 m0 m1 b Q a0 w0 hs4 hB4
  | 2, _ => exact lat_o2 m0 m1  Q a0 w0 
  | 3, _ => exact lat_o3 m0 m1  Q a0 w0 
  | 4, _ => exact lat_o4 m0 m1 b Q a0 w0 hs3 hB3
  | 5, _ => exact lat_o5 m0 m1 b Q a0 w0 hs4 hB4
  | 6, _ => exact lat_o6 m0 m1  Q a0 w0 
  | 7, _ => exact lat_o7 m0 m1  Q a0 w0 
  | 8, _ => exact lat_o8 m0 m1  Q a0 w0 
  | 9, _ => exact lat_o9 m0 m1  Q a0 w0 
  | 10, _ => exact lat_o10 m0 m1  Q a0 w0 
  | i + 11, h => exact absurd h (by omega)
noncomputable def lau_ops : Array Oper := regOf Try.f3 2
def lau_S (m0 m1 m2 : Nat → Bool) : List RK := [RK.eq (setV (anyM [m0, m1])), RK.eq (setV m1), RK.eq (setV m0), RK.val (RG.sets [m1, m0]), RK.eq (setV (anyM [m1, m0])), RK.eq (.bool true), RK.eq (.bool true), RK.eq (setV (fun x => m0 x && m1 x)), RK.eq (setV m1), RK.eq (setV m0), RK.eq (setV (fun x => m1 x && m0 x)), RK.eq (.bool true), RK.eq (.bool true), RK.eq (.bool true), RK.eq (setV m0), RK.eq (setV (anyM [m0, m1])), RK.eq (setV (fun x => m0 x && (anyM [m0, m1]) x)), RK.eq (setV m0), RK.eq (.bool true), RK.eq (.bool true), RK.eq (.bool true), RK.eq (setV m0), RK.eq (setV (fun x => m0 x && m1 x)), RK.val (RG.sets [m0, (fun x => m0 x && m1 x)]), RK.eq (setV (anyM [m0, (fun x => m0 x && m1 x)])), RK.eq (setV m0), RK.eq (.bool true), RK.eq (.bool true), RK.eq (.bool true), RK.eq (setV m0), RK.eq (setV m1), RK.eq (setV m2), RK.val (RG.sets [m1, m2]), RK.eq (setV (anyM [m1, m2])), RK.eq (setV (fun x => m0 x && (anyM [m1, m2]) x)), RK.eq (setV (fun x => m0 x && m1 x)), RK.eq (setV m0), RK.eq (setV m2), RK.eq (setV (fun x => m0 x && m2 x)), RK.val (RG.sets [(fun x => m0 x && m1 x), (fun x => m0 x && m2 x)]), RK.eq (setV (anyM [(fun x => m0 x && m1 x), (fun x => m0 x && m2 x)])), RK.eq (.bool true), RK.eq (.bool true), RK.eq (.bool true), RK.eq (setV (anyM [m0, m1])), RK.eq (setV (fun x => !(anyM [m0, m1]) x)), RK.eq (setV m0), RK.eq (setV (fun x => !m0 x)), RK.eq (setV m1), RK.eq (setV (fun x => !m1 x)), RK.eq (setV (fun x => (fun x => !m0 x) x && (fun x => !m1 x) x)), RK.eq (.bool true), RK.eq (.bool true), RK.eq (.bool true), RK.eq (setV (anyM [m0, m1])), RK.eq (.int .i64 (cnt ((anyM [m0, m1])) 256)), RK.eq (setV (fun x => m0 x && m1 x)), RK.eq (.int .i64 (cnt ((fun x => m0 x && m1 x)) 256)), RK.eq (.int .i64 (wrap64 ((cnt ((anyM [m0, m1])) 256) + (cnt ((fun x => m0 x && m1 x)) 256)))), RK.eq (setV m0), RK.eq (.int .i64 (cnt (m0) 256)), RK.eq (setV m1), RK.eq (.int .i64 (cnt (m1) 256)), RK.eq (.int .i64 (wrap64 ((cnt (m0) 256) + (cnt (m1) 256)))), RK.eq (.bool true), RK.eq (.bool true), RK.eq (.bool true), RK.eq (setV m0), RK.eq (setV (foldM (m0))), RK.eq (setV (foldM ((foldM (m0))))), RK.eq (setV m0), RK.eq (setV (foldM (m0))), RK.eq (.bool true), RK.eq (.bool true), RK.eq (.bool true), RK.eq (.bool true), RK.eq (.bool true), RK.eq (.bool true)]
theorem lau_o0 (m0 m1 m2 : Nat → Bool) (c : Nat) (Q : Exit → Act → World → Prop) (a0 : Act) (w0 : World) (hs7 : a0.tmps.getD 7 undef = .pointer (some ⟨c, 0, none⟩)) (hB7 : Blk w0 c 24 (setL (anyM [m0, m1]))) : Obl Try.prog lau_ops (lau_S m0 m1 m2) Q a0 w0 0 :=
  obl_load_old 7 (c) rfl none (by kernel_rfl) (by kernel_rfl) hs7 hB7 (fun a w N H D => (fun _ _ hg => by cases hg))
theorem lau_o1 (m0 m1 m2 : Nat → Bool) (b : Nat) (Q : Exit → Act → World → Prop) (a0 : Act) (w0 : World) (hs4 : a0.tmps.getD 4 undef = .pointer (some ⟨b + 1, 0, none⟩)) (hB4 : Blk w0 (b + 1) 24 (setL m1)) : Obl Try.prog lau_ops (lau_S m0 m1 m2) Q a0 w0 1 :=
  obl_load_old 4 ((b + 1)) rfl none (by kernel_rfl) (by kernel_rfl) hs4 hB4 (fun a w N H D => (fun _ _ hg => by cases hg))
theorem lau_o2 (m0 m1 m2 : Nat → Bool) (b : Nat) (Q : Exit → Act → World → Prop) (a0 : Act) (w0 : World) (hs3 : a0.tmps.getD 3 undef = .pointer (some ⟨b, 0, none⟩)) (hB3 : Blk w0 b 24 (setL m0)) : Obl Try.prog lau_ops (lau_S m0 m1 m2) Q a0 w0 2 :=
  obl_load_old 3 (b) rfl none (by kernel_rfl) (by kernel_rfl) hs3 hB3 (fun a w N H D => (fun _ _ hg => by cases hg))
theorem lau_o3 (m0 m1 m2 : Nat → Bool) (Q : Exit → Act → World → Prop) (a0 : Act) (w0 : World)  : Obl Try.prog lau_ops (lau_S m0 m1 m2) Q a0 w0 3 :=
  obl_val (.buildSlice 42 2 #[(0, .tmp 17), (1, .tmp 18)]) none rfl (by kernel_rfl) fun a w N H D => ⟨(fun _ _ hg => by cases hg), fun _ ho => wp_build2 ho (fact_eq (c := setV m1) (D 1 (by kernel_rfl)) rfl (by kernel_rfl)) (fact_eq (c := setV m0) (D 2 (by kernel_rfl)) rfl (by kernel_rfl))⟩
theorem lau_o4 (m0 m1 m2 : Nat → Bool) (Q : Exit → Act → World → Prop) (a0 : Act) (w0 : World)  : Obl Try.prog lau_ops (lau_S m0 m1 m2) Q a0 w0 4 :=
  obl_val (.call { callee := .value (.func 7), args := #[.tmp 19], argTypes := #[42] }) none rfl (by kernel_rfl) fun a w N H D => ⟨(fun _ _ hg => by cases hg), fun _ ho => wp_call_eq (xs := #[a.eval (.tmp 19)]) ho (fun xs w => by kernel_rfl) (by simp only [List.map_toArray, List.map_cons, List.map_nil]) (union_any [m1, m0] _ _ (RG.sets_rd (fact_val (D 3 (by kernel_rfl)) rfl (by kernel_rfl))))⟩
theorem lau_o5 (m0 m1 m2 : Nat → Bool) (Q : Exit → Act → World → Prop) (a0 : Act) (w0 : World)  : Obl Try.prog lau_ops (lau_S m0 m1 m2) Q a0 w0 5 :=
  obl_val (.binOp .eql 24 (.tmp 16) (.tmp 20) 24) none rfl (by kernel_rfl) fun a w N H D => ⟨(fun _ _ hg => by cases hg), fun _ ho => wp_of_eq (wp_eq_set (m := (anyM [m0, m1])) (m' := (anyM [m1, m0])) ho (fact_eq (c := setV (anyM [m0, m1])) (D 0 (by kernel_rfl)) rfl (by kernel_rfl)) (fact_eq (c := setV (anyM [m1, m0])) (D 4 (by kernel_rfl)) rfl (by kernel_rfl))) (.bool true) (by rw [lat21 m0 m1])⟩
theorem lau_o6 (m0 m1 m2 : Nat → Bool) (Q : Exit → Act → World → Prop) (a0 : Act) (w0 : World)  : Obl Try.prog lau_ops (lau_S m0 m1 m2) Q a0 w0 6 :=
  obl_val (.move (.tmp 21)) none rfl (by kernel_rfl) fun a w N H D => ⟨(fun _ _ hg => by cases hg), fun _ ho => wp_move (.inl ho) (fact_eq (c := .bool true) (D 5 (by kernel_rfl)) rfl (by kernel_rfl))⟩
theorem lau_o7 (m0 m1 m2 : Nat → Bool) (d : Nat) (Q : Exit → Act → World → Prop) (a0 : Act) (w0 : World) (hs8 : a0.tmps.getD 8 undef = .pointer (some ⟨d, 0, none⟩)) (hB8 : Blk w0 d 24 (setL (fun x => m0 x && m1 x))) : Obl Try.prog lau_ops (lau_S m0 m1 m2) Q a0 w0 7 :=
  obl_load_old 8 (d) rfl (some (6, true)) (by kernel_rfl) (by kernel_rfl) hs8 hB8 (fun a w N H D => (fun _ _ hg => by cases hg; exact ⟨22, by kernel_rfl, fact_eq (D 6 (by kernel_rfl)) rfl (by kernel_rfl)⟩))
theorem lau_o8 (m0 m1 m2 : Nat → Bool) (b : Nat) (Q : Exit → Act → World → Prop) (a0 : Act) (w0 : World) (hs4 : a0.tmps.getD 4 undef = .pointer (some ⟨b + 1, 0, none⟩)) (hB4 : Blk w0 (b + 1) 24 (setL m1)) : Obl Try.prog lau_ops (lau_S m0 m1 m2) Q a0 w0 8 :=
  obl_load_old 4 ((b + 1)) rfl (some (6, true)) (by kernel_rfl) (by kernel_rfl) hs4 hB4 (fun a w N H D => (fun _ _ hg => by cases hg; exact ⟨22, by kernel_rfl, fact_eq (D 6 (by kernel_rfl)) rfl (by kernel_rfl)⟩))
theorem lau_o9 (m0 m1 m2 : Nat → Bool) (b : Nat) (Q : Exit → Act → World → Prop) (a0 : Act) (w0 : World) (hs3 : a0.tmps.getD 3 undef = .pointer (some ⟨b, 0, none⟩)) (hB3 : Blk w0 b 24 (setL m0)) : Obl Try.prog lau_ops (lau_S m0 m1 m2) Q a0 w0 9 :=
  obl_load_old 3 (b) rfl (some (6, true)) (by kernel_rfl) (by kernel_rfl) hs3 hB3 (fun a w N H D => (fun _ _ hg => by cases hg; exact ⟨22, by kernel_rfl, fact_eq (D 6 (by kernel_rfl)) rfl (by kernel_rfl)⟩))
theorem lau_o10 (m0 m1 m2 : Nat → Bool) (Q : Exit → Act → World → Prop) (a0 : Act) (w0 : World)  : Obl Try.prog lau_ops (lau_S m0 m1 m2) Q a0 w0 10 :=
  obl_val (.call { callee := .value (.func 8), args := #[.tmp 24, .tmp 25], argTypes := #[24, 24] }) (some (6, true)) rfl (by kernel_rfl) fun a w N H D => ⟨(fun _ _ hg => by cases hg; exact ⟨22, by kernel_rfl, fact_eq (D 6 (by kernel_rfl)) rfl (by kernel_rfl)⟩), fun _ ho => wp_call_eq ho (fun xs w => by kernel_rfl) (by simp only [List.map_toArray, List.map_cons, List.map_nil]; rw [(fact_eq (c := setV m1) (D 8 (by kernel_rfl)) rfl (by kernel_rfl)), (fact_eq (c := setV m0) (D 9 (by kernel_rfl)) rfl (by kernel_rfl))]) (meet_any (m1) (m0) _)⟩
theorem lau_o11 (m0 m1 m2 : Nat → Bool) (Q : Exit → Act → World → Prop) (a0 : Act) (w0 : World)  : Obl Try.prog lau_ops (lau_S m0 m1 m2) Q a0 w0 11 :=
  obl_val (.binOp .eql 24 (.tmp 23) (.tmp 26) 24) (some (6, true)) rfl (by kernel_rfl) fun a w N H D => ⟨(fun _ _ hg => by cases hg; exact ⟨22, by kernel_rfl, fact_eq (D 6 (by kernel_rfl)) rfl (by kernel_rfl)⟩), fun _ ho => wp_of_eq (wp_eq_set (m := (fun x => m0 x && m1 x)) (m' := (fun x => m1 x && m0 x)) ho (fact_eq (c := setV (fun x => m0 x && m1 x)) (D 7 (by kernel_rfl)) rfl (by kernel_rfl)) (fact_eq (c := setV (fun x => m1 x && m0 x)) (D 10 (by kernel_rfl)) rfl (by kernel_rfl))) (.bool true) (by rw [lat27 m0 m1])⟩
theorem lau_o12 (m0 m1 m2 : Nat → Bool) (Q : Exit → Act → World → Prop) (a0 : Act) (w0 : World)  : Obl Try.prog lau_ops (lau_S m0 m1 m2) Q a0 w0 12 :=
  obl_val (.pick (.tmp 22) (.tmp 27) (.const (.bool false))) none rfl (by kernel_rfl) fun a w N H D => ⟨(fun _ _ hg => by cases hg), fun _ ho => wp_pick (b := true) ho (fact_eq (c := .bool true) (D 6 (by kernel_rfl)) rfl (by kernel_rfl)) (fact_eq (c := .bool true) (D 11 (by kernel_rfl)) rfl (by kernel_rfl))⟩
theorem lau_o13 (m0 m1 m2 : Nat → Bool) (Q : Exit → Act → World → Prop) (a0 : Act) (w0 : World)  : Obl Try.prog lau_ops (lau_S m0 m1 m2) Q a0 w0 13 :=
  obl_val (.move (.tmp 28)) none rfl (by kernel_rfl) fun a w N H D => ⟨(fun _ _ hg => by cases hg), fun _ ho => wp_move (.inl ho) (fact_eq (c := .bool true) (D 12 (by kernel_rfl)) rfl (by kernel_rfl))⟩
theorem lau_o14 (m0 m1 m2 : Nat → Bool) (b : Nat) (Q : Exit → Act → World → Prop) (a0 : Act) (w0 : World) (hs3 : a0.tmps.getD 3 undef = .pointer (some ⟨b, 0, none⟩)) (hB3 : Blk w0 b 24 (setL m0)) : Obl Try.prog lau_ops (lau_S m0 m1 m2) Q a0 w0 14 :=
  obl_load_old 3 (b) rfl (some (13, true)) (by kernel_rfl) (by kernel_rfl) hs3 hB3 (fun a w N H D => (fun _ _ hg => by cases hg; exact ⟨29, by kernel_rfl, fact_eq (D 13 (by kernel_rfl)) rfl (by kernel_rfl)⟩))
theorem lau_o15 (m0 m1 m2 : Nat → Bool) (c : Nat) (Q : Exit → Act → World → Prop) (a0 : Act) (w0 : World) (hs7 : a0.tmps.getD 7 undef = .pointer (some ⟨c, 0, none⟩)) (hB7 : Blk w0 c 24 (setL (anyM [m0, m1]))) : Obl Try.prog lau_ops (lau_S m0 m1 m2) Q a0 w0 15 :=
  obl_load_old 7 (c) rfl (some (13, true)) (by kernel_rfl) (by kernel_rfl) hs7 hB7 (fun a w N H D => (fun _ _ hg => by cases hg; exact ⟨29, by kernel_rfl, fact_eq (D 13 (by kernel_rfl)) rfl (by kernel_rfl)⟩))
theorem lau_o16 (m0 m1 m2 : Nat → Bool) (Q : Exit → Act → World → Prop) (a0 : Act) (w0 : World)  : Obl Try.prog lau_ops (lau_S m0 m1 m2) Q a0 w0 16 :=
  obl_val (.call { callee := .value (.func 8), args := #[.tmp 30, .tmp 31], argTypes := #[24, 24] }) (some (13, true)) rfl (by kernel_rfl) fun a w N H D => ⟨(fun _ _ hg => by cases hg; exact ⟨29, by kernel_rfl, fact_eq (D 13 (by kernel_rfl)) rfl (by kernel_rfl)⟩), fun _ ho => wp_call_eq ho (fun xs w => by kernel_rfl) (by simp only [List.map_toArray, List.map_cons, List.map_nil]; rw [(fact_eq (c := setV m0) (D 14 (by kernel_rfl)) rfl (by kernel_rfl)), (fact_eq (c := setV (anyM [m0, m1])) (D 15 (by kernel_rfl)) rfl (by kernel_rfl))]) (meet_any (m0) ((anyM [m0, m1])) _)⟩
theorem lau_o17 (m0 m1 m2 : Nat → Bool) (b : Nat) (Q : Exit → Act → World → Prop) (a0 : Act) (w0 : World) (hs3 : a0.tmps.getD 3 undef = .pointer (some ⟨b, 0, none⟩)) (hB3 : Blk w0 b 24 (setL m0)) : Obl Try.prog lau_ops (lau_S m0 m1 m2) Q a0 w0 17 :=
  obl_load_old 3 (b) rfl (some (13, true)) (by kernel_rfl) (by kernel_rfl) hs3 hB3 (fun a w N H D => (fun _ _ hg => by cases hg; exact ⟨29, by kernel_rfl, fact_eq (D 13 (by kernel_rfl)) rfl (by kernel_rfl)⟩))
theorem lau_o18 (m0 m1 m2 : Nat → Bool) (Q : Exit → Act → World → Prop) (a0 : Act) (w0 : World)  : Obl Try.prog lau_ops (lau_S m0 m1 m2) Q a0 w0 18 :=
  obl_val (.binOp .eql 24 (.tmp 32) (.tmp 33) 24) (some (13, true)) rfl (by kernel_rfl) fun a w N H D => ⟨(fun _ _ hg => by cases hg; exact ⟨29, by kernel_rfl, fact_eq (D 13 (by kernel_rfl)) rfl (by kernel_rfl)⟩), fun _ ho => wp_of_eq (wp_eq_set (m := (fun x => m0 x && (anyM [m0, m1]) x)) (m' := m0) ho (fact_eq (c := setV (fun x => m0 x && (anyM [m0, m1]) x)) (D 16 (by kernel_rfl)) rfl (by kernel_rfl)) (fact_eq (c := setV m0) (D 17 (by kernel_rfl)) rfl (by kernel_rfl))) (.bool true) (by rw [lat34 m0 m1])⟩
theorem lau_o19 (m0 m1 m2 : Nat → Bool) (Q : Exit → Act → World → Prop) (a0 : Act) (w0 : World)  : Obl Try.prog lau_ops (lau_S m0 m1 m2) Q a0 w0 19 :=
  obl_val (.pick (.tmp 29) (.tmp 34) (.const (.bool false))) none rfl (by kernel_rfl) fun a w N H D => ⟨(fun _ _ hg => by cases hg), fun _ ho => wp_pick (b := true) ho (fact_eq (c := .bool true) (D 13 (by kernel_rfl)) rfl (by kernel_rfl)) (fact_eq (c := .bool true) (D 18 (by kernel_rfl)) rfl (by kernel_rfl))⟩
theorem lau_o20 (m0 m1 m2 : Nat → Bool) (Q : Exit → Act → World → Prop) (a0 : Act) (w0 : World)  : Obl Try.prog lau_ops (lau_S m0 m1 m2) Q a0 w0 20 :=
  obl_val (.move (.tmp 35)) none rfl (by kernel_rfl) fun a w N H D => ⟨(fun _ _ hg => by cases hg), fun _ ho => wp_move (.inl ho) (fact_eq (c := .bool true) (D 19 (by kernel_rfl)) rfl (by kernel_rfl))⟩
theorem lau_o21 (m0 m1 m2 : Nat → Bool) (b : Nat) (Q : Exit → Act → World → Prop) (a0 : Act) (w0 : World) (hs3 : a0.tmps.getD 3 undef = .pointer (some ⟨b, 0, none⟩)) (hB3 : Blk w0 b 24 (setL m0)) : Obl Try.prog lau_ops (lau_S m0 m1 m2) Q a0 w0 21 :=
  obl_load_old 3 (b) rfl (some (20, true)) (by kernel_rfl) (by kernel_rfl) hs3 hB3 (fun a w N H D => (fun _ _ hg => by cases hg; exact ⟨36, by kernel_rfl, fact_eq (D 20 (by kernel_rfl)) rfl (by kernel_rfl)⟩))
theorem lau_o22 (m0 m1 m2 : Nat → Bool) (d : Nat) (Q : Exit → Act → World → Prop) (a0 : Act) (w0 : World) (hs8 : a0.tmps.getD 8 undef = .pointer (some ⟨d, 0, none⟩)) (hB8 : Blk w0 d 24 (setL (fun x => m0 x && m1 x))) : Obl Try.prog lau_ops (lau_S m0 m1 m2) Q a0 w0 22 :=
  obl_load_old 8 (d) rfl (some (20, true)) (by kernel_rfl) (by kernel_rfl) hs8 hB8 (fun a w N H D => (fun _ _ hg => by cases hg; exact ⟨36, by kernel_rfl, fact_eq (D 20 (by kernel_rfl)) rfl (by kernel_rfl)⟩))
theorem lau_o23 (m0 m1 m2 : Nat → Bool) (Q : Exit → Act → World → Prop) (a0 : Act) (w0 : World)  : Obl Try.prog lau_ops (lau_S m0 m1 m2) Q a0 w0 23 :=
  obl_val (.buildSlice 42 2 #[(0, .tmp 37), (1, .tmp 38)]) (some (20, true)) rfl (by kernel_rfl) fun a w N H D => ⟨(fun _ _ hg => by cases hg; exact ⟨36, by kernel_rfl, fact_eq (D 20 (by kernel_rfl)) rfl (by kernel_rfl)⟩), fun _ ho => wp_build2 ho (fact_eq (c := setV m0) (D 21 (by kernel_rfl)) rfl (by kernel_rfl)) (fact_eq (c := setV (fun x => m0 x && m1 x)) (D 22 (by kernel_rfl)) rfl (by kernel_rfl))⟩
theorem lau_o24 (m0 m1 m2 : Nat → Bool) (Q : Exit → Act → World → Prop) (a0 : Act) (w0 : World)  : Obl Try.prog lau_ops (lau_S m0 m1 m2) Q a0 w0 24 :=
  obl_val (.call { callee := .value (.func 7), args := #[.tmp 39], argTypes := #[42] }) (some (20, true)) rfl (by kernel_rfl) fun a w N H D => ⟨(fun _ _ hg => by cases hg; exact ⟨36, by kernel_rfl, fact_eq (D 20 (by kernel_rfl)) rfl (by kernel_rfl)⟩), fun _ ho => wp_call_eq (xs := #[a.eval (.tmp 39)]) ho (fun xs w => by kernel_rfl) (by simp only [List.map_toArray, List.map_cons, List.map_nil]) (union_any [m0, (fun x => m0 x && m1 x)] _ _ (RG.sets_rd (fact_val (D 23 (by kernel_rfl)) rfl (by kernel_rfl))))⟩
theorem lau_o25 (m0 m1 m2 : Nat → Bool) (b : Nat) (Q : Exit → Act → World → Prop) (a0 : Act) (w0 : World) (hs3 : a0.tmps.getD 3 undef = .pointer (some ⟨b, 0, none⟩)) (hB3 : Blk w0 b 24 (setL m0)) : Obl Try.prog lau_ops (lau_S m0 m1 m2) Q a0 w0 25 :=
  obl_load_old 3 (b) rfl (some (20, true)) (by kernel_rfl) (by kernel_rfl) hs3 hB3 (fun a w N H D => (fun _ _ hg => by cases hg; exact ⟨36, by kernel_rfl, fact_eq (D 20 (by kernel_rfl)) rfl (by kernel_rfl)⟩))
theorem lau_o26 (m0 m1 m2 : Nat → Bool) (Q : Exit → Act → World → Prop) (a0 : Act) (w0 : World)  : Obl Try.prog lau_ops (lau_S m0 m1 m2) Q a0 w0 26 :=
  obl_val (.binOp .eql 24 (.tmp 40) (.tmp 41) 24) (some (20, true)) rfl (by kernel_rfl) fun a w N H D => ⟨(fun _ _ hg => by cases hg; exact ⟨36, by kernel_rfl, fact_eq (D 20 (by kernel_rfl)) rfl (by kernel_rfl)⟩), fun _ ho => wp_of_eq (wp_eq_set (m := (anyM [m0, (fun x => m0 x && m1 x)])) (m' := m0) ho (fact_eq (c := setV (anyM [m0, (fun x => m0 x && m1 x)])) (D 24 (by kernel_rfl)) rfl (by kernel_rfl)) (fact_eq (c := setV m0) (D 25 (by kernel_rfl)) rfl (by kernel_rfl))) (.bool true) (by rw [lat42 m0 m1])⟩
theorem lau_o27 (m0 m1 m2 : Nat → Bool) (Q : Exit → Act → World → Prop) (a0 : Act) (w0 : World)  : Obl Try.prog lau_ops (lau_S m0 m1 m2) Q a0 w0 27 :=
  obl_val (.pick (.tmp 36) (.tmp 42) (.const (.bool false))) none rfl (by kernel_rfl) fun a w N H D => ⟨(fun _ _ hg => by cases hg), fun _ ho => wp_pick (b := true) ho (fact_eq (c := .bool true) (D 20 (by kernel_rfl)) rfl (by kernel_rfl)) (fact_eq (c := .bool true) (D 26 (by kernel_rfl)) rfl (by kernel_rfl))⟩
theorem lau_o28 (m0 m1 m2 : Nat → Bool) (Q : Exit → Act → World → Prop) (a0 : Act) (w0 : World)  : Obl Try.prog lau_ops (lau_S m0 m1 m2) Q a0 w0 28 :=
  obl_val (.move (.tmp 43)) none rfl (by kernel_rfl) fun a w N H D => ⟨(fun _ _ hg => by cases hg), fun _ ho => wp_move (.inl ho) (fact_eq (c := .bool true) (D 27 (by kernel_rfl)) rfl (by kernel_rfl))⟩
theorem lau_o29 (m0 m1 m2 : Nat → Bool) (b : Nat) (Q : Exit → Act → World → Prop) (a0 : Act) (w0 : World) (hs3 : a0.tmps.getD 3 undef = .pointer (some ⟨b, 0, none⟩)) (hB3 : Blk w0 b 24 (setL m0)) : Obl Try.prog lau_ops (lau_S m0 m1 m2) Q a0 w0 29 :=
  obl_load_old 3 (b) rfl (some (28, true)) (by kernel_rfl) (by kernel_rfl) hs3 hB3 (fun a w N H D => (fun _ _ hg => by cases hg; exact ⟨44, by kernel_rfl, fact_eq (D 28 (by kernel_rfl)) rfl (by kernel_rfl)⟩))
theorem lau_o30 (m0 m1 m2 : Nat → Bool) (b : Nat) (Q : Exit → Act → World → Prop) (a0 : Act) (w0 : World) (hs4 : a0.tmps.getD 4 undef = .pointer (some ⟨b + 1, 0, none⟩)) (hB4 : Blk w0 (b + 1) 24 (setL m1)) : Obl Try.prog lau_ops (lau_S m0 m1 m2) Q a0 w0 30 :=
  obl_load_old 4 ((b + 1)) rfl (some (28, true)) (by kernel_rfl) (by kernel_rfl) hs4 hB4 (fun a w N H D => (fun _ _ hg => by cases hg; exact ⟨44, by kernel_rfl, fact_eq (D 28 (by kernel_rfl)) rfl (by kernel_rfl)⟩))
theorem lau_o31 (m0 m1 m2 : Nat → Bool) (b : Nat) (Q : Exit → Act → World → Prop) (a0 : Act) (w0 : World) (hs5 : a0.tmps.getD 5 undef = .pointer (some ⟨b + 1 + 1, 0, none⟩)) (hB5 : Blk w0 (b + 1 + 1) 24 (setL m2)) : Obl Try.prog lau_ops (lau_S m0 m1 m2) Q a0 w0 31 :=
  obl_load_old 5 ((b + 1 + 1)) rfl (some (28, true)) (by kernel_rfl) (by kernel_rfl) hs5 hB5 (fun a w N H D => (fun _ _ hg => by cases hg; exact ⟨44, by kernel_rfl, fact_eq (D 28 (by kernel_rfl)) rfl (by kernel_rfl)⟩))
theorem lau_o32 (m0 m1 m2 : Nat → Bool) (Q : Exit → Act → World → Prop) (a0 : Act) (w0 : World)  : Obl Try.prog lau_ops (lau_S m0 m1 m2) Q a0 w0 32 :=
  obl_val (.buildSlice 42 2 #[(0, .tmp 46), (1, .tmp 47)]) (some (28, true)) rfl (by kernel_rfl) fun a w N H D => ⟨(fun _ _ hg => by cases hg; exact ⟨44, by kernel_rfl, fact_eq (D 28 (by kernel_rfl)) rfl (by kernel_rfl)⟩), fun _ ho => wp_build2 ho (fact_eq (c := setV m1) (D 30 (by kernel_rfl)) rfl (by kernel_rfl)) (fact_eq (c := setV m2) (D 31 (by kernel_rfl)) rfl (by kernel_rfl))⟩
theorem lau_o33 (m0 m1 m2 : Nat → Bool) (Q : Exit → Act → World → Prop) (a0 : Act) (w0 : World)  : Obl Try.prog lau_ops (lau_S m0 m1 m2) Q a0 w0 33 :=
  obl_val (.call { callee := .value (.func 7), args := #[.tmp 48], argTypes := #[42] }) (some (28, true)) rfl (by kernel_rfl) fun a w N H D => ⟨(fun _ _ hg => by cases hg; exact ⟨44, by kernel_rfl, fact_eq (D 28 (by kernel_rfl)) rfl (by kernel_rfl)⟩), fun _ ho => wp_call_eq (xs := #[a.eval (.tmp 48)]) ho (fun xs w => by kernel_rfl) (by simp only [List.map_toArray, List.map_cons, List.map_nil]) (union_any [m1, m2] _ _ (RG.sets_rd (fact_val (D 32 (by kernel_rfl)) rfl (by kernel_rfl))))⟩
theorem lau_o34 (m0 m1 m2 : Nat → Bool) (Q : Exit → Act → World → Prop) (a0 : Act) (w0 : World)  : Obl Try.prog lau_ops (lau_S m0 m1 m2) Q a0 w0 34 :=
  obl_val (.call { callee := .value (.func 8), args := #[.tmp 45, .tmp 49], argTypes := #[24, 24] }) (some (28, true)) rfl (by kernel_rfl) fun a w N H D => ⟨(fun _ _ hg => by cases hg; exact ⟨44, by kernel_rfl, fact_eq (D 28 (by kernel_rfl)) rfl (by kernel_rfl)⟩), fun _ ho => wp_call_eq ho (fun xs w => by kernel_rfl) (by simp only [List.map_toArray, List.map_cons, List.map_nil]; rw [(fact_eq (c := setV m0) (D 29 (by kernel_rfl)) rfl (by kernel_rfl)), (fact_eq (c := setV (anyM [m1, m2])) (D 33 (by kernel_rfl)) rfl (by kernel_rfl))]) (meet_any (m0) ((anyM [m1, m2])) _)⟩
theorem lau_o35 (m0 m1 m2 : Nat → Bool) (d : Nat) (Q : Exit → Act → World → Prop) (a0 : Act) (w0 : World) (hs8 : a0.tmps.getD 8 undef = .pointer (some ⟨d, 0, none⟩)) (hB8 : Blk w0 d 24 (setL (fun x => m0 x && m1 x))) : Obl Try.prog lau_ops (lau_S m0 m1 m2) Q a0 w0 35 :=
  obl_load_old 8 (d) rfl (some (28, true)) (by kernel_rfl) (by kernel_rfl) hs8 hB8 (fun a w N H D => (fun _ _ hg => by cases hg; exact ⟨44, by kernel_rfl, fact_eq (D 28 (by kernel_rfl)) rfl (by kernel_rfl)⟩))
theorem lau_o36 (m0 m1 m2 : Nat → Bool) (b : Nat) (Q : Exit → Act → World → Prop) (a0 : Act) (w0 : World) (hs3 : a0.tmps.getD 3 undef = .pointer (some ⟨b, 0, none⟩)) (hB3 : Blk w0 b 24 (setL m0)) : Obl Try.prog lau_ops (lau_S m0 m1 m2) Q a0 w0 36 :=
  obl_load_old 3 (b) rfl (some (28, true)) (by kernel_rfl) (by kernel_rfl) hs3 hB3 (fun a w N H D => (fun _ _ hg => by cases hg; exact ⟨44, by kernel_rfl, fact_eq (D 28 (by kernel_rfl)) rfl (by kernel_rfl)⟩))
theorem lau_o37 (m0 m1 m2 : Nat → Bool) (b : Nat) (Q : Exit → Act → World → Prop) (a0 : Act) (w0 : World) (hs5 : a0.tmps.getD 5 undef = .pointer (some ⟨b + 1 + 1, 0, none⟩)) (hB5 : Blk w0 (b + 1 + 1) 24 (setL m2)) : Obl Try.prog lau_ops (lau_S m0 m1 m2) Q a0 w0 37 :=
  obl_load_old 5 ((b + 1 + 1)) rfl (some (28, true)) (by kernel_rfl) (by kernel_rfl) hs5 hB5 (fun a w N H D => (fun _ _ hg => by cases hg; exact ⟨44, by kernel_rfl, fact_eq (D 28 (by kernel_rfl)) rfl (by kernel_rfl)⟩))
theorem lau_o38 (m0 m1 m2 : Nat → Bool) (Q : Exit → Act → World → Prop) (a0 : Act) (w0 : World)  : Obl Try.prog lau_ops (lau_S m0 m1 m2) Q a0 w0 38 :=
  obl_val (.call { callee := .value (.func 8), args := #[.tmp 52, .tmp 53], argTypes := #[24, 24] }) (some (28, true)) rfl (by kernel_rfl) fun a w N H D => ⟨(fun _ _ hg => by cases hg; exact ⟨44, by kernel_rfl, fact_eq (D 28 (by kernel_rfl)) rfl (by kernel_rfl)⟩), fun _ ho => wp_call_eq ho (fun xs w => by kernel_rfl) (by simp only [List.map_toArray, List.map_cons, List.map_nil]; rw [(fact_eq (c := setV m0) (D 36 (by kernel_rfl)) rfl (by kernel_rfl)), (fact_eq (c := setV m2) (D 37 (by kernel_rfl)) rfl (by kernel_rfl))]) (meet_any (m0) (m2) _)⟩
theorem lau_o39 (m0 m1 m2 : Nat → Bool) (Q : Exit → Act → World → Prop) (a0 : Act) (w0 : World)  : Obl Try.prog lau_ops (lau_S m0 m1 m2) Q a0 w0 39 :=
  obl_val (.buildSlice 42 2 #[(0, .tmp 51), (1, .tmp 54)]) (some (28, true)) rfl (by kernel_rfl) fun a w N H D => ⟨(fun _ _ hg => by cases hg; exact ⟨44, by kernel_rfl, fact_eq (D 28 (by kernel_rfl)) rfl (by kernel_rfl)⟩), fun _ ho => wp_build2 ho (fact_eq (c := setV (fun x => m0 x && m1 x)) (D 35 (by kernel_rfl)) rfl (by kernel_rfl)) (fact_eq (c := setV (fun x => m0 x && m2 x)) (D 38 (by kernel_rfl)) rfl (by kernel_rfl))⟩
theorem lau_o40 (m0 m1 m2 : Nat → Bool) (Q : Exit → Act → World → Prop) (a0 : Act) (w0 : World)  : Obl Try.prog lau_ops (lau_S m0 m1 m2) Q a0 w0 40 :=
  obl_val (.call { callee := .value (.func 7), args := #[.tmp 55], argTypes := #[42] }) (some (28, true)) rfl (by kernel_rfl) fun a w N H D => ⟨(fun _ _ hg => by cases hg; exact ⟨44, by kernel_rfl, fact_eq (D 28 (by kernel_rfl)) rfl (by kernel_rfl)⟩), fun _ ho => wp_call_eq (xs := #[a.eval (.tmp 55)]) ho (fun xs w => by kernel_rfl) (by simp only [List.map_toArray, List.map_cons, List.map_nil]) (union_any [(fun x => m0 x && m1 x), (fun x => m0 x && m2 x)] _ _ (RG.sets_rd (fact_val (D 39 (by kernel_rfl)) rfl (by kernel_rfl))))⟩
theorem lau_o41 (m0 m1 m2 : Nat → Bool) (Q : Exit → Act → World → Prop) (a0 : Act) (w0 : World)  : Obl Try.prog lau_ops (lau_S m0 m1 m2) Q a0 w0 41 :=
  obl_val (.binOp .eql 24 (.tmp 50) (.tmp 56) 24) (some (28, true)) rfl (by kernel_rfl) fun a w N H D => ⟨(fun _ _ hg => by cases hg; exact ⟨44, by kernel_rfl, fact_eq (D 28 (by kernel_rfl)) rfl (by kernel_rfl)⟩), fun _ ho => wp_of_eq (wp_eq_set (m := (fun x => m0 x && (anyM [m1, m2]) x)) (m' := (anyM [(fun x => m0 x && m1 x), (fun x => m0 x && m2 x)])) ho (fact_eq (c := setV (fun x => m0 x && (anyM [m1, m2]) x)) (D 34 (by kernel_rfl)) rfl (by kernel_rfl)) (fact_eq (c := setV (anyM [(fun x => m0 x && m1 x), (fun x => m0 x && m2 x)])) (D 40 (by kernel_rfl)) rfl (by kernel_rfl))) (.bool true) (by rw [lat57 m0 m1 m2])⟩
theorem lau_o42 (m0 m1 m2 : Nat → Bool) (Q : Exit → Act → World → Prop) (a0 : Act) (w0 : World)  : Obl Try.prog lau_ops (lau_S m0 m1 m2) Q a0 w0 42 :=
  obl_val (.pick (.tmp 44) (.tmp 57) (.const (.bool false))) none rfl (by kernel_rfl) fun a w N H D => ⟨(fun _ _ hg => by cases hg), fun _ ho => wp_pick (b := true) ho (fact_eq (c := .bool true) (D 28 (by kernel_rfl)) rfl (by kernel_rfl)) (fact_eq (c := .bool true) (D 41 (by kernel_rfl)) rfl (by kernel_rfl))⟩
theorem lau_o43 (m0 m1 m2 : Nat → Bool) (Q : Exit → Act → World → Prop) (a0 : Act) (w0 : World)  : Obl Try.prog lau_ops (lau_S m0 m1 m2) Q a0 w0 43 :=
  obl_val (.move (.tmp 58)) none rfl (by kernel_rfl) fun a w N H D => ⟨(fun _ _ hg => by cases hg), fun _ ho => wp_move (.inl ho) (fact_eq (c := .bool true) (D 42 (by kernel_rfl)) rfl (by kernel_rfl))⟩
theorem lau_o44 (m0 m1 m2 : Nat → Bool) (c : Nat) (Q : Exit → Act → World → Prop) (a0 : Act) (w0 : World) (hs7 : a0.tmps.getD 7 undef = .pointer (some ⟨c, 0, none⟩)) (hB7 : Blk w0 c 24 (setL (anyM [m0, m1]))) : Obl Try.prog lau_ops (lau_S m0 m1 m2) Q a0 w0 44 :=
  obl_load_old 7 (c) rfl (some (43, true)) (by kernel_rfl) (by kernel_rfl) hs7 hB7 (fun a w N H D => (fun _ _ hg => by cases hg; exact ⟨59, by kernel_rfl, fact_eq (D 43 (by kernel_rfl)) rfl (by kernel_rfl)⟩))
theorem lau_o45 (m0 m1 m2 : Nat → Bool) (Q : Exit → Act → World → Prop) (a0 : Act) (w0 : World)  : Obl Try.prog lau_ops (lau_S m0 m1 m2) Q a0 w0 45 :=
  obl_val (.call { callee := .value (.func 9), args := #[.tmp 60], argTypes := #[24] }) (some (43, true)) rfl (by kernel_rfl) fun a w N H D => ⟨(fun _ _ hg => by cases hg; exact ⟨59, by kernel_rfl, fact_eq (D 43 (by kernel_rfl)) rfl (by kernel_rfl)⟩), fun _ ho => wp_call_eq ho (fun xs w => by kernel_rfl) (by simp only [List.map_toArray, List.map_cons, List.map_nil]; rw [(fact_eq (c := setV (anyM [m0, m1])) (D 44 (by kernel_rfl)) rfl (by kernel_rfl))]) (not_any ((anyM [m0, m1])) _)⟩
theorem lau_o46 (m0 m1 m2 : Nat → Bool) (b : Nat) (Q : Exit → Act → World → Prop) (a0 : Act) (w0 : World) (hs3 : a0.tmps.getD 3 undef = .pointer (some ⟨b, 0, none⟩)) (hB3 : Blk w0 b 24 (setL m0)) : Obl Try.prog lau_ops (lau_S m0 m1 m2) Q a0 w0 46 :=
  obl_load_old 3 (b) rfl (some (43, true)) (by kernel_rfl) (by kernel_rfl) hs3 hB3 (fun a w N H D => (fun _ _ hg => by cases hg; exact ⟨59, by kernel_rfl, fact_eq (D 43 (by kernel_rfl)) rfl (by kernel_rfl)⟩))
theorem lau_o47 (m0 m1 m2 : Nat → Bool) (Q : Exit → Act → World → Prop) (a0 : Act) (w0 : World)  : Obl Try.prog lau_ops (lau_S m0 m1 m2) Q a0 w0 47 :=
  obl_val (.call { callee := .value (.func 9), args := #[.tmp 62], argTypes := #[24] }) (some (43, true)) rfl (by kernel_rfl) fun a w N H D => ⟨(fun _ _ hg => by cases hg; exact ⟨59, by kernel_rfl, fact_eq (D 43 (by kernel_rfl)) rfl (by kernel_rfl)⟩), fun _ ho => wp_call_eq ho (fun xs w => by kernel_rfl) (by simp only [List.map_toArray, List.map_cons, List.map_nil]; rw [(fact_eq (c := setV m0) (D 46 (by kernel_rfl)) rfl (by kernel_rfl))]) (not_any (m0) _)⟩
theorem lau_o48 (m0 m1 m2 : Nat → Bool) (b : Nat) (Q : Exit → Act → World → Prop) (a0 : Act) (w0 : World) (hs4 : a0.tmps.getD 4 undef = .pointer (some ⟨b + 1, 0, none⟩)) (hB4 : Blk w0 (b + 1) 24 (setL m1)) : Obl Try.prog lau_ops (lau_S m0 m1 m2) Q a0 w0 48 :=
  obl_load_old 4 ((b + 1)) rfl (some (43, true)) (by kernel_rfl) (by kernel_rfl) hs4 hB4 (fun a w N H D => (fun _ _ hg => by cases hg; exact ⟨59, by kernel_rfl, fact_eq (D 43 (by kernel_rfl)) rfl (by kernel_rfl)⟩))
theorem lau_o49 (m0 m1 m2 : Nat → Bool) (Q : Exit → Act → World → Prop) (a0 : Act) (w0 : World)  : Obl Try.prog lau_ops (lau_S m0 m1 m2) Q a0 w0 49 :=
  obl_val (.call { callee := .value (.func 9), args := #[.tmp 64], argTypes := #[24] }) (some (43, true)) rfl (by kernel_rfl) fun a w N H D => ⟨(fun _ _ hg => by cases hg; exact ⟨59, by kernel_rfl, fact_eq (D 43 (by kernel_rfl)) rfl (by kernel_rfl)⟩), fun _ ho => wp_call_eq ho (fun xs w => by kernel_rfl) (by simp only [List.map_toArray, List.map_cons, List.map_nil]; rw [(fact_eq (c := setV m1) (D 48 (by kernel_rfl)) rfl (by kernel_rfl))]) (not_any (m1) _)⟩
theorem lau_o50 (m0 m1 m2 : Nat → Bool) (Q : Exit → Act → World → Prop) (a0 : Act) (w0 : World)  : Obl Try.prog lau_ops (lau_S m0 m1 m2) Q a0 w0 50 :=
  obl_val (.call { callee := .value (.func 8), args := #[.tmp 63, .tmp 65], argTypes := #[24, 24] }) (some (43, true)) rfl (by kernel_rfl) fun a w N H D => ⟨(fun _ _ hg => by cases hg; exact ⟨59, by kernel_rfl, fact_eq (D 43 (by kernel_rfl)) rfl (by kernel_rfl)⟩), fun _ ho => wp_call_eq ho (fun xs w => by kernel_rfl) (by simp only [List.map_toArray, List.map_cons, List.map_nil]; rw [(fact_eq (c := setV (fun x => !m0 x)) (D 47 (by kernel_rfl)) rfl (by kernel_rfl)), (fact_eq (c := setV (fun x => !m1 x)) (D 49 (by kernel_rfl)) rfl (by kernel_rfl))]) (meet_any ((fun x => !m0 x)) ((fun x => !m1 x)) _)⟩
theorem lau_o51 (m0 m1 m2 : Nat → Bool) (Q : Exit → Act → World → Prop) (a0 : Act) (w0 : World)  : Obl Try.prog lau_ops (lau_S m0 m1 m2) Q a0 w0 51 :=
  obl_val (.binOp .eql 24 (.tmp 61) (.tmp 66) 24) (some (43, true)) rfl (by kernel_rfl) fun a w N H D => ⟨(fun _ _ hg => by cases hg; exact ⟨59, by kernel_rfl, fact_eq (D 43 (by kernel_rfl)) rfl (by kernel_rfl)⟩), fun _ ho => wp_of_eq (wp_eq_set (m := (fun x => !(anyM [m0, m1]) x)) (m' := (fun x => (fun x => !m0 x) x && (fun x => !m1 x) x)) ho (fact_eq (c := setV (fun x => !(anyM [m0, m1]) x)) (D 45 (by kernel_rfl)) rfl (by kernel_rfl)) (fact_eq (c := setV (fun x => (fun x => !m0 x) x && (fun x => !m1 x) x)) (D 50 (by kernel_rfl)) rfl (by kernel_rfl))) (.bool true) (by rw [lat67 m0 m1])⟩
theorem lau_o52 (m0 m1 m2 : Nat → Bool) (Q : Exit → Act → World → Prop) (a0 : Act) (w0 : World)  : Obl Try.prog lau_ops (lau_S m0 m1 m2) Q a0 w0 52 :=
  obl_val (.pick (.tmp 59) (.tmp 67) (.const (.bool false))) none rfl (by kernel_rfl) fun a w N H D => ⟨(fun _ _ hg => by cases hg), fun _ ho => wp_pick (b := true) ho (fact_eq (c := .bool true) (D 43 (by kernel_rfl)) rfl (by kernel_rfl)) (fact_eq (c := .bool true) (D 51 (by kernel_rfl)) rfl (by kernel_rfl))⟩
theorem lau_o53 (m0 m1 m2 : Nat → Bool) (Q : Exit → Act → World → Prop) (a0 : Act) (w0 : World)  : Obl Try.prog lau_ops (lau_S m0 m1 m2) Q a0 w0 53 :=
  obl_val (.move (.tmp 68)) none rfl (by kernel_rfl) fun a w N H D => ⟨(fun _ _ hg => by cases hg), fun _ ho => wp_move (.inl ho) (fact_eq (c := .bool true) (D 52 (by kernel_rfl)) rfl (by kernel_rfl))⟩
theorem lau_o54 (m0 m1 m2 : Nat → Bool) (c : Nat) (Q : Exit → Act → World → Prop) (a0 : Act) (w0 : World) (hs7 : a0.tmps.getD 7 undef = .pointer (some ⟨c, 0, none⟩)) (hB7 : Blk w0 c 24 (setL (anyM [m0, m1]))) : Obl Try.prog lau_ops (lau_S m0 m1 m2) Q a0 w0 54 :=
  obl_load_old 7 (c) rfl (some (53, true)) (by kernel_rfl) (by kernel_rfl) hs7 hB7 (fun a w N H D => (fun _ _ hg => by cases hg; exact ⟨69, by kernel_rfl, fact_eq (D 53 (by kernel_rfl)) rfl (by kernel_rfl)⟩))
theorem lau_o55 (m0 m1 m2 : Nat → Bool) (Q : Exit → Act → World → Prop) (a0 : Act) (w0 : World)  : Obl Try.prog lau_ops (lau_S m0 m1 m2) Q a0 w0 55 :=
  obl_val (.call { callee := .value (.func 10), args := #[.tmp 70], argTypes := #[24] }) (some (53, true)) rfl (by kernel_rfl) fun a w N H D => ⟨(fun _ _ hg => by cases hg; exact ⟨69, by kernel_rfl, fact_eq (D 53 (by kernel_rfl)) rfl (by kernel_rfl)⟩), fun _ ho => wp_call_eq ho (fun xs w => by kernel_rfl) (by simp only [List.map_toArray, List.map_cons, List.map_nil]; rw [(fact_eq (c := setV (anyM [m0, m1])) (D 54 (by kernel_rfl)) rfl (by kernel_rfl))]) (count_any ((anyM [m0, m1])) _)⟩
theorem lau_o56 (m0 m1 m2 : Nat → Bool) (d : Nat) (Q : Exit → Act → World → Prop) (a0 : Act) (w0 : World) (hs8 : a0.tmps.getD 8 undef = .pointer (some ⟨d, 0, none⟩)) (hB8 : Blk w0 d 24 (setL (fun x => m0 x && m1 x))) : Obl Try.prog lau_ops (lau_S m0 m1 m2) Q a0 w0 56 :=
  obl_load_old 8 (d) rfl (some (53, true)) (by kernel_rfl) (by kernel_rfl) hs8 hB8 (fun a w N H D => (fun _ _ hg => by cases hg; exact ⟨69, by kernel_rfl, fact_eq (D 53 (by kernel_rfl)) rfl (by kernel_rfl)⟩))
theorem lau_o57 (m0 m1 m2 : Nat → Bool) (Q : Exit → Act → World → Prop) (a0 : Act) (w0 : World)  : Obl Try.prog lau_ops (lau_S m0 m1 m2) Q a0 w0 57 :=
  obl_val (.call { callee := .value (.func 10), args := #[.tmp 72], argTypes := #[24] }) (some (53, true)) rfl (by kernel_rfl) fun a w N H D => ⟨(fun _ _ hg => by cases hg; exact ⟨69, by kernel_rfl, fact_eq (D 53 (by kernel_rfl)) rfl (by kernel_rfl)⟩), fun _ ho => wp_call_eq ho (fun xs w => by kernel_rfl) (by simp only [List.map_toArray, List.map_cons, List.map_nil]; rw [(fact_eq (c := setV (fun x => m0 x && m1 x)) (D 56 (by kernel_rfl)) rfl (by kernel_rfl))]) (count_any ((fun x => m0 x && m1 x)) _)⟩
theorem lau_o58 (m0 m1 m2 : Nat → Bool) (Q : Exit → Act → World → Prop) (a0 : Act) (w0 : World)  : Obl Try.prog lau_ops (lau_S m0 m1 m2) Q a0 w0 58 :=
  obl_val (.binOp .add 3 (.tmp 71) (.tmp 73) 3) (some (53, true)) rfl (by kernel_rfl) fun a w N H D => ⟨(fun _ _ hg => by cases hg; exact ⟨69, by kernel_rfl, fact_eq (D 53 (by kernel_rfl)) rfl (by kernel_rfl)⟩), fun _ ho => wp_addi ho (fact_eq (c := .int .i64 (cnt ((anyM [m0, m1])) 256)) (D 55 (by kernel_rfl)) rfl (by kernel_rfl)) (fact_eq (c := .int .i64 (cnt ((fun x => m0 x && m1 x)) 256)) (D 57 (by kernel_rfl)) rfl (by kernel_rfl))⟩
theorem lau_o59 (m0 m1 m2 : Nat → Bool) (b : Nat) (Q : Exit → Act → World → Prop) (a0 : Act) (w0 : World) (hs3 : a0.tmps.getD 3 undef = .pointer (some ⟨b, 0, none⟩)) (hB3 : Blk w0 b 24 (setL m0)) : Obl Try.prog lau_ops (lau_S m0 m1 m2) Q a0 w0 59 :=
  obl_load_old 3 (b) rfl (some (53, true)) (by kernel_rfl) (by kernel_rfl) hs3 hB3 (fun a w N H D => (fun _ _ hg => by cases hg; exact ⟨69, by kernel_rfl, fact_eq (D 53 (by kernel_rfl)) rfl (by kernel_rfl)⟩))
theorem lau_o60 (m0 m1 m2 : Nat → Bool) (Q : Exit → Act → World → Prop) (a0 : Act) (w0 : World)  : Obl Try.prog lau_ops (lau_S m0 m1 m2) Q a0 w0 60 :=
  obl_val (.call { callee := .value (.func 10), args := #[.tmp 75], argTypes := #[24] }) (some (53, true)) rfl (by kernel_rfl) fun a w N H D => ⟨(fun _ _ hg => by cases hg; exact ⟨69, by kernel_rfl, fact_eq (D 53 (by kernel_rfl)) rfl (by kernel_rfl)⟩), fun _ ho => wp_call_eq ho (fun xs w => by kernel_rfl) (by simp only [List.map_toArray, List.map_cons, List.map_nil]; rw [(fact_eq (c := setV m0) (D 59 (by kernel_rfl)) rfl (by kernel_rfl))]) (count_any (m0) _)⟩
theorem lau_o61 (m0 m1 m2 : Nat → Bool) (b : Nat) (Q : Exit → Act → World → Prop) (a0 : Act) (w0 : World) (hs4 : a0.tmps.getD 4 undef = .pointer (some ⟨b + 1, 0, none⟩)) (hB4 : Blk w0 (b + 1) 24 (setL m1)) : Obl Try.prog lau_ops (lau_S m0 m1 m2) Q a0 w0 61 :=
  obl_load_old 4 ((b + 1)) rfl (some (53, true)) (by kernel_rfl) (by kernel_rfl) hs4 hB4 (fun a w N H D => (fun _ _ hg => by cases hg; exact ⟨69, by kernel_rfl, fact_eq (D 53 (by kernel_rfl)) rfl (by kernel_rfl)⟩))
theorem lau_o62 (m0 m1 m2 : Nat → Bool) (Q : Exit → Act → World → Prop) (a0 : Act) (w0 : World)  : Obl Try.prog lau_ops (lau_S m0 m1 m2) Q a0 w0 62 :=
  obl_val (.call { callee := .value (.func 10), args := #[.tmp 77], argTypes := #[24] }) (some (53, true)) rfl (by kernel_rfl) fun a w N H D => ⟨(fun _ _ hg => by cases hg; exact ⟨69, by kernel_rfl, fact_eq (D 53 (by kernel_rfl)) rfl (by kernel_rfl)⟩), fun _ ho => wp_call_eq ho (fun xs w => by kernel_rfl) (by simp only [List.map_toArray, List.map_cons, List.map_nil]; rw [(fact_eq (c := setV m1) (D 61 (by kernel_rfl)) rfl (by kernel_rfl))]) (count_any (m1) _)⟩
theorem lau_o63 (m0 m1 m2 : Nat → Bool) (Q : Exit → Act → World → Prop) (a0 : Act) (w0 : World)  : Obl Try.prog lau_ops (lau_S m0 m1 m2) Q a0 w0 63 :=
  obl_val (.binOp .add 3 (.tmp 76) (.tmp 78) 3) (some (53, true)) rfl (by kernel_rfl) fun a w N H D => ⟨(fun _ _ hg => by cases hg; exact ⟨69, by kernel_rfl, fact_eq (D 53 (by kernel_rfl)) rfl (by kernel_rfl)⟩), fun _ ho => wp_addi ho (fact_eq (c := .int .i64 (cnt (m0) 256)) (D 60 (by kernel_rfl)) rfl (by kernel_rfl)) (fact_eq (c := .int .i64 (cnt (m1) 256)) (D 62 (by kernel_rfl)) rfl (by kernel_rfl))⟩
theorem lau_o64 (m0 m1 m2 : Nat → Bool) (Q : Exit → Act → World → Prop) (a0 : Act) (w0 : World)  : Obl Try.prog lau_ops (lau_S m0 m1 m2) Q a0 w0 64 :=
  obl_val (.binOp .eql 3 (.tmp 74) (.tmp 79) 3) (some (53, true)) rfl (by kernel_rfl) fun a w N H D => ⟨(fun _ _ hg => by cases hg; exact ⟨69, by kernel_rfl, fact_eq (D 53 (by kernel_rfl)) rfl (by kernel_rfl)⟩), fun _ ho => wp_of_eq (wp_eqi ho (fact_eq (c := .int .i64 (wrap64 ((cnt ((anyM [m0, m1])) 256) + (cnt ((fun x => m0 x && m1 x)) 256)))) (D 58 (by kernel_rfl)) rfl (by kernel_rfl)) (fact_eq (c := .int .i64 (wrap64 ((cnt (m0) 256) + (cnt (m1) 256)))) (D 63 (by kernel_rfl)) rfl (by kernel_rfl))) (.bool true) (by rw [lat80 m0 m1])⟩
theorem lau_o65 (m0 m1 m2 : Nat → Bool) (Q : Exit → Act → World → Prop) (a0 : Act) (w0 : World)  : Obl Try.prog lau_ops (lau_S m0 m1 m2) Q a0 w0 65 :=
  obl_val (.pick (.tmp 69) (.tmp 80) (.const (.bool false))) none rfl (by kernel_rfl) fun a w N H D => ⟨(fun _ _ hg => by cases hg), fun _ ho => wp_pick (b := true) ho (fact_eq (c := .bool true) (D 53 (by kernel_rfl)) rfl (by kernel_rfl)) (fact_eq (c := .bool true) (D 64 (by kernel_rfl)) rfl (by kernel_rfl))⟩
theorem lau_o66 (m0 m1 m2 : Nat → Bool) (Q : Exit → Act → World → Prop) (a0 : Act) (w0 : World)  : Obl Try.prog lau_ops (lau_S m0 m1 m2) Q a0 w0 66 :=
  obl_val (.move (.tmp 81)) none rfl (by kernel_rfl) fun a w N H D => ⟨(fun _ _ hg => by cases hg), fun _ ho => wp_move (.inl ho) (fact_eq (c := .bool true) (D 65 (by kernel_rfl)) rfl (by kernel_rfl))⟩
theorem lau_o67 (m0 m1 m2 : Nat → Bool) (b : Nat) (Q : Exit → Act → World → Prop) (a0 : Act) (w0 : World) (hs3 : a0.tmps.getD 3 undef = .pointer (some ⟨b, 0, none⟩)) (hB3 : Blk w0 b 24 (setL m0)) : Obl Try.prog lau_ops (lau_S m0 m1 m2) Q a0 w0 67 :=
  obl_load_old 3 (b) rfl (some (66, true)) (by kernel_rfl) (by kernel_rfl) hs3 hB3 (fun a w N H D => (fun _ _ hg => by cases hg; exact ⟨82, by kernel_rfl, fact_eq (D 66 (by kernel_rfl)) rfl (by kernel_rfl)⟩))
theorem lau_o68 (m0 m1 m2 : Nat → Bool) (Q : Exit → Act → World → Prop) (a0 : Act) (w0 : World)  : Obl Try.prog lau_ops (lau_S m0 m1 m2) Q a0 w0 68 :=
  obl_val (.call { callee := .value (.func 11), args := #[.tmp 83], argTypes := #[24] }) (some (66, true)) rfl (by kernel_rfl) fun a w N H D => ⟨(fun _ _ hg => by cases hg; exact ⟨82, by kernel_rfl, fact_eq (D 66 (by kernel_rfl)) rfl (by kernel_rfl)⟩), fun _ ho => wp_call_eq ho (fun xs w => by kernel_rfl) (by simp only [List.map_toArray, List.map_cons, List.map_nil]; rw [(fact_eq (c := setV m0) (D 67 (by kernel_rfl)) rfl (by kernel_rfl))]) (fold_any (m0) _)⟩
theorem lau_o69 (m0 m1 m2 : Nat → Bool) (Q : Exit → Act → World → Prop) (a0 : Act) (w0 : World)  : Obl Try.prog lau_ops (lau_S m0 m1 m2) Q a0 w0 69 :=
  obl_val (.call { callee := .value (.func 11), args := #[.tmp 84], argTypes := #[24] }) (some (66, true)) rfl (by kernel_rfl) fun a w N H D => ⟨(fun _ _ hg => by cases hg; exact ⟨82, by kernel_rfl, fact_eq (D 66 (by kernel_rfl)) rfl (by kernel_rfl)⟩), fun _ ho => wp_call_eq ho (fun xs w => by kernel_rfl) (by simp only [List.map_toArray, List.map_cons, List.map_nil]; rw [(fact_eq (c := setV (foldM (m0))) (D 68 (by kernel_rfl)) rfl (by kernel_rfl))]) (fold_any ((foldM (m0))) _)⟩
theorem lau_o70 (m0 m1 m2 : Nat → Bool) (b : Nat) (Q : Exit → Act → World → Prop) (a0 : Act) (w0 : World) (hs3 : a0.tmps.getD 3 undef = .pointer (some ⟨b, 0, none⟩)) (hB3 : Blk w0 b 24 (setL m0)) : Obl Try.prog lau_ops (lau_S m0 m1 m2) Q a0 w0 70 :=
  obl_load_old 3 (b) rfl (some (66, true)) (by kernel_rfl) (by kernel_rfl) hs3 hB3 (fun a w N H D => (fun _ _ hg => by cases hg; exact ⟨82, by kernel_rfl, fact_eq (D 66 (by kernel_rfl)) rfl (by kernel_rfl)⟩))
theorem lau_o71 (m0 m1 m2 : Nat → Bool) (Q : Exit → Act → World → Prop) (a0 : Act) (w0 : World)  : Obl Try.prog lau_ops (lau_S m0 m1 m2) Q a0 w0 71 :=
  obl_val (.call { callee := .value (.func 11), args := #[.tmp 86], argTypes := #[24] }) (some (66, true)) rfl (by kernel_rfl) fun a w N H D => ⟨(fun _ _ hg => by cases hg; exact ⟨82, by kernel_rfl, fact_eq (D 66 (by kernel_rfl)) rfl (by kernel_rfl)⟩), fun _ ho => wp_call_eq ho (fun xs w => by kernel_rfl) (by simp only [List.map_toArray, List.map_cons, List.map_nil]; rw [(fact_eq (c := setV m0) (D 70 (by kernel_rfl)) rfl (by kernel_rfl))]) (fold_any (m0) _)⟩
theorem lau_o72 (m0 m1 m2 : Nat → Bool) (Q : Exit → Act → World → Prop) (a0 : Act) (w0 : World)  : Obl Try.prog lau_ops (lau_S m0 m1 m2) Q a0 w0 72 :=
  obl_val (.binOp .eql 24 (.tmp 85) (.tmp 87) 24) (some (66, true)) rfl (by kernel_rfl) fun a w N H D => ⟨(fun _ _ hg => by cases hg; exact ⟨82, by kernel_rfl, fact_eq (D 66 (by kernel_rfl)) rfl (by kernel_rfl)⟩), fun _ ho => wp_of_eq (wp_eq_set (m := (foldM ((foldM (m0))))) (m' := (foldM (m0))) ho (fact_eq (c := setV (foldM ((foldM (m0))))) (D 69 (by kernel_rfl)) rfl (by kernel_rfl)) (fact_eq (c := setV (foldM (m0))) (D 71 (by kernel_rfl)) rfl (by kernel_rfl))) (.bool true) (by rw [lat88 m0])⟩
theorem lau_o73 (m0 m1 m2 : Nat → Bool) (Q : Exit → Act → World → Prop) (a0 : Act) (w0 : World)  : Obl Try.prog lau_ops (lau_S m0 m1 m2) Q a0 w0 73 :=
  obl_val (.pick (.tmp 82) (.tmp 88) (.const (.bool false))) none rfl (by kernel_rfl) fun a w N H D => ⟨(fun _ _ hg => by cases hg), fun _ ho => wp_pick (b := true) ho (fact_eq (c := .bool true) (D 66 (by kernel_rfl)) rfl (by kernel_rfl)) (fact_eq (c := .bool true) (D 72 (by kernel_rfl)) rfl (by kernel_rfl))⟩
theorem lau_o74 (m0 m1 m2 : Nat → Bool) (Q : Exit → Act → World → Prop) (a0 : Act) (w0 : World)  : Obl Try.prog lau_ops (lau_S m0 m1 m2) Q a0 w0 74 :=
  obl_val (.move (.tmp 89)) none rfl (by kernel_rfl) fun a w N H D => ⟨(fun _ _ hg => by cases hg), fun _ ho => wp_move (.inl ho) (fact_eq (c := .bool true) (D 73 (by kernel_rfl)) rfl (by kernel_rfl))⟩
theorem lau_o75 (m0 m1 m2 : Nat → Bool) (Q : Exit → Act → World → Prop) (a0 : Act) (w0 : World)  : Obl Try.prog lau_ops (lau_S m0 m1 m2) Q a0 w0 75 :=
  obl_val (.call { callee := .value (.func 12), args := #[], argTypes := #[] }) (some (74, true)) rfl (by kernel_rfl) fun a w N H D => ⟨(fun _ _ hg => by cases hg; exact ⟨90, by kernel_rfl, fact_eq (D 74 (by kernel_rfl)) rfl (by kernel_rfl)⟩), fun _ ho => wp_call_eq ho (fun xs w => by kernel_rfl) (by simp) (awake_any _)⟩
theorem lau_o76 (m0 m1 m2 : Nat → Bool) (Q : Exit → Act → World → Prop) (a0 : Act) (w0 : World)  : Obl Try.prog lau_ops (lau_S m0 m1 m2) Q a0 w0 76 :=
  obl_val (.pick (.tmp 90) (.tmp 91) (.const (.bool false))) none rfl (by kernel_rfl) fun a w N H D => ⟨(fun _ _ hg => by cases hg), fun _ ho => wp_pick (b := true) ho (fact_eq (c := .bool true) (D 74 (by kernel_rfl)) rfl (by kernel_rfl)) (fact_eq (c := .bool true) (D 75 (by kernel_rfl)) rfl (by kernel_rfl))⟩
theorem lau_o77 (m0 m1 m2 : Nat → Bool) (Q : Exit → Act → World → Prop) (a0 : Act) (w0 : World)  : Obl Try.prog lau_ops (lau_S m0 m1 m2) Q a0 w0 77 :=
  obl_val (.assign (.tmp 92)) none rfl (by kernel_rfl) fun a w N H D => ⟨(fun _ _ hg => by cases hg), fun _ ho => wp_move (.inr ho) (fact_eq (c := .bool true) (D 76 (by kernel_rfl)) rfl (by kernel_rfl))⟩
theorem lau_all (m0 m1 m2 : Nat → Bool) (b : Nat) (c : Nat) (d : Nat) (Q : Exit → Act → World → Prop) (a0 : Act) (w0 : World) (hs3 : a0.tmps.getD 3 undef = .pointer (some ⟨b, 0, none⟩)) (hB3 : Blk w0 b 24 (setL m0)) (hs4 : a0.tmps.getD 4 undef = .pointer (some ⟨b + 1, 0, none⟩)) (hB4 : Blk w0 (b + 1) 24 (setL m1)) (hs5 : a0.tmps.getD 5 undef = .pointer (some ⟨b + 1 + 1, 0, none⟩)) (hB5 : Blk w0 (b + 1 + 1) 24 (setL m2)) (hs7 : a0.tmps.getD 7 undef = .pointer (some ⟨c, 0, none⟩)) (hB7 : Blk w0 c 24 (setL (anyM [m0, m1]))) (hs8 : a0.tmps.getD 8 undef = .pointer (some ⟨d, 0, none⟩)) (hB8 : Blk w0 d 24 (setL (fun x => m0 x && m1 x))) : ∀ i, i < lau_ops.size → Obl Try.prog lau_ops (lau_S m0 m1 m2) Q a0 w0 i := by
  intro i hi
  have hs : lau_ops.size = 78 := by kernel_rfl
  rw [hs] at hi
  clear hs
  match i, hi with
  | 0, _ => exact lau_o0 m0 m1 m2 c Q a0 w0 hs7 hB7
  | 1, _ => exact lau_o1 m0 m1 m2 b Q a0 w0 hs4 hB4
  | 2, _ => exact lau_o2 m0 m1 m2 b Q a0 w0 hs3 hB3
  | 3, _ => exact lau_o3 m0 m1 m2  Q a0 w0 
  | 4, _ => exact lau_o4 m0 m1 m2  Q a0 w0 
  | 5, _ => exact lau_o5 m0 m1 m2  Q a0 w0 
  | 6, _ => exact lau_o6 m0 m1 m2  Q a0 w0 
  | 7, _ => exact lau_o7 m0 m1 m2 d Q a0 w0 hs8 hB8
  | 8, _ => exact lau_o8 m0 m1 m2 b Q a0 w0 hs4 hB4
  | 9, _ => exact lau_o9 m0 m1 m2 b Q a0 w0 hs3 hB3
  | 10, _ => exact lau_o10 m0 m1 m2  Q a0 w0 
  | 11, _ => exact lau_o11 m0 m1 m2  Q a0 w0 
  | 12, _ => exact lau_o12 m0 m1 m2  Q a0 w0 
  | 13, _ => exact lau_o13 m0 m1 m2  Q a0 w0 
  | 14, _ => exact lau_o14 m0 m1 m2 b Q a0 w0 hs3 hB3
  | 15, _ => exact lau_o15 m0 m1 m2 c Q a0 w0 hs7 hB7
  | 16, _ => exact lau_o16 m0 m1 m2  Q a0 w0 
  | 17, _ => exact lau_o17 m0 m1 m2 b Q a0 w0 hs3 hB3
  | 18, _ => exact lau_o18 m0 m1 m2  Q a0 w0 
  | 19, _ => exact lau_o19 m0 m1 m2  Q a0 w0 
  | 20, _ => exact lau_o20 m0 m1 m2  Q a0 w0 
  | 21, _ => exact lau_o21 m0 m1 m2 b Q a0 w0 hs3 hB3
  | 22, _ => exact lau_o22 m0 m1 m2 d Q a0 w0 hs8 hB8
  | 23, _ => exact lau_o23 m0 m1 m2  Q a0 w0 
  | 24, _ => exact lau_o24 m0 m1 m2  Q a0 w0 
  | 25, _ => exact lau_o25 m0 m1 m2 b Q a0 w0 hs3 hB3
  | 26, _ => exact lau_o26 m0 m1 m2  Q a0 w0 
  | 27, _ => exact lau_o27 m0 m1 m2  Q a0 w0 
  | 28, _ => exact lau_o28 m0 m1 m2  Q a0 w0 
  | 29, _ => exact lau_o29 m0 m1 m2 b Q a0 w0 hs3 hB3
  | 30, _ => exact lau_o30 m0 m1 m2 b Q a0 w0 hs4 hB4
  | 31, _ => exact lau_o31 m0 m1 m2 b Q a0 w0 hs5 hB5
  | 32, _ => exact lau_o32 m0 m1 m2  Q a0 w0 
  | 33, _ => exact lau_o33 m0 m1 m2  Q a0 w0 
  | 34, _ => exact lau_o34 m0 m1 m2  Q a0 w0 
  | 35, _ => exact lau_o35 m0 m1 m2 d Q a0 w0 hs8 hB8
  | 36, _ => exact lau_o36 m0 m1 m2 b Q a0 w0 hs3 hB3
  | 37, _ => exact lau_o37 m0 m1 m2 b Q a0 w0 hs5 hB5
  | 38, _ => exact lau_o38 m0 m1 m2  Q a0 w0 
  | 39, _ => exact lau_o39 m0 m1 m2  Q a0 w0 
  | 40, _ => exact lau_o40 m0 m1 m2  Q a0 w0 
  | 41, _ => exact lau_o41 m0 m1 m2  Q a0 w0 
  | 42, _ => exact lau_o42 m0 m1 m2  Q a0 w0 
  | 43, _ => exact lau_o43 m0 m1 m2  Q a0 w0 
  | 44, _ => exact lau_o44 m0 m1 m2 c Q a0 w0 hs7 hB7
  | 45, _ => exact lau_o45 m0 m1 m2  Q a0 w0 
  | 46, _ => exact lau_o46 m0 m1 m2 b Q a0 w0 hs3 hB3
  | 47, _ => exact lau_o47 m0 m1 m2  Q a0 w0 
  | 48, _ => exact lau_o48 m0 m1 m2 b Q a0 w0 hs4 hB4
  | 49, _ => exact lau_o49 m0 m1 m2  Q a0 w0 
  | 50, _ => exact lau_o50 m0 m1 m2  Q a0 w0 
  | 51, _ => exact lau_o51 m0 m1 m2  Q a0 w0 
  | 52, _ => exact lau_o52 m0 m1 m2  Q a0 w0 
  | 53, _ => exact lau_o53 m0 m1 m2  Q a0 w0 
  | 54, _ => exact lau_o54 m0 m1 m2 c Q a0 w0 hs7 hB7
  | 55, _ => exact lau_o55 m0 m1 m2  Q a0 w0 
  | 56, _ => exact lau_o56 m0 m1 m2 d Q a0 w0 hs8 hB8
  | 57, _ => exact lau_o57 m0 m1 m2  Q a0 w0 
  | 58, _ => exact lau_o58 m0 m1 m2  Q a0 w0 
  | 59, _ => exact lau_o59 m0 m1 m2 b Q a0 w0 hs3 hB3
  | 60, _ => exact lau_o60 m0 m1 m2  Q a0 w0 
  | 61, _ => exact lau_o61 m0 m1 m2 b Q a0 w0 hs4 hB4
  | 62, _ => exact lau_o62 m0 m1 m2  Q a0 w0 
  | 63, _ => exact lau_o63 m0 m1 m2  Q a0 w0 
  | 64, _ => exact lau_o64 m0 m1 m2  Q a0 w0 
  | 65, _ => exact lau_o65 m0 m1 m2  Q a0 w0 
  | 66, _ => exact lau_o66 m0 m1 m2  Q a0 w0 
  | 67, _ => exact lau_o67 m0 m1 m2 b Q a0 w0 hs3 hB3
  | 68, _ => exact lau_o68 m0 m1 m2  Q a0 w0 
  | 69, _ => exact lau_o69 m0 m1 m2  Q a0 w0 
  | 70, _ => exact lau_o70 m0 m1 m2 b Q a0 w0 hs3 hB3
  | 71, _ => exact lau_o71 m0 m1 m2  Q a0 w0 
  | 72, _ => exact lau_o72 m0 m1 m2  Q a0 w0 
  | 73, _ => exact lau_o73 m0 m1 m2  Q a0 w0 
  | 74, _ => exact lau_o74 m0 m1 m2  Q a0 w0 
  | 75, _ => exact lau_o75 m0 m1 m2  Q a0 w0 
  | 76, _ => exact lau_o76 m0 m1 m2  Q a0 w0 
  | 77, _ => exact lau_o77 m0 m1 m2  Q a0 w0 
  | i + 78, h => exact absurd h (by omega)
set_option maxRecDepth 100000 in
set_option maxHeartbeats 1000000 in
theorem lattice_any (m0 m1 m2 : Nat → Bool) (w : World) :
    Calls Try.prog 3 #[setV m0, setV m1, setV m2] w fun e w' => e = .returned (.bool true) ∧ Below w.heap.size w w' := by
  unfold setV
  go_enter Try.func3, Try.ntmps3
  go_wp2
  have hb3 : Blk (((w.alloc (.cells (setL m0).toArray 24)).alloc (.cells (setL m1).toArray 24)).alloc (.cells (setL m2).toArray 24)) w.heap.size 24 (setL m0) := ((Blk.new w (setL m0) 24).alloc _).alloc _
  have hb4 : Blk (((w.alloc (.cells (setL m0).toArray 24)).alloc (.cells (setL m1).toArray 24)).alloc (.cells (setL m2).toArray 24)) (w.heap.size + 1) 24 (setL m1) := Blk.alloc (by simpa using Blk.new (w.alloc (.cells (setL m0).toArray 24)) (setL m1) 24) _
  have hb5 : Blk (((w.alloc (.cells (setL m0).toArray 24)).alloc (.cells (setL m1).toArray 24)).alloc (.cells (setL m2).toArray 24)) (w.heap.size + 1 + 1) 24 (setL m2) := by simpa using Blk.new ((w.alloc (.cells (setL m0).toArray 24)).alloc (.cells (setL m1).toArray 24)) (setL m2) 24
  have hbw : Below w.heap.size w (((w.alloc (.cells (setL m0).toArray 24)).alloc (.cells (setL m1).toArray 24)).alloc (.cells (setL m2).toArray 24)) := by go_grown
  have Hb := Lib.hid (And.intro hb3 (And.intro hb4 (And.intro hb5 hbw)))
  clear hb3 hb4 hb5 hbw
  refine region_named (ops' := lat_ops) (by kernel_rfl) (lat_S m0 m1) 93 rfl (by kernel_rfl) (by kernel_rfl) (lat_all m0 m1 w.heap.size _ _ _ rfl Hb.out.1.drew rfl Hb.out.2.1.drew) ?_
  rename_i hK
  intro a w1 N H hF
  obtain ⟨hb3, hb4, hb5, hbw⟩ := Hb.out
  obtain ⟨c, q7, hb7⟩ := fact_put (hF 9 (by kernel_rfl)) rfl rfl (by kernel_rfl)
  obtain ⟨d, q8, hb8⟩ := fact_put (hF 10 (by kernel_rfl)) rfl rfl (by kernel_rfl)
  have q3 : a.tmps.getD 3 undef = _ := held_base H 3 (by kernel_rfl) rfl
  have q4 : a.tmps.getD 4 undef = _ := held_base H 4 (by kernel_rfl) rfl
  have q5 : a.tmps.getD 5 undef = _ := held_base H 5 (by kernel_rfl) rfl
  have hd : a.defers = [] := H.defers
  have hw1 : Below w.heap.size w w1 := hbw.drew.trans (H.below.mono hbw.size)
  replace hb3 := hb3.drew.below H.below hb3.lt
  replace hb4 := hb4.drew.below H.below hb4.lt
  replace hb5 := hb5.drew.below H.below hb5.lt
  refine hK _ _ (wp_seq ?_)
  refine region_named (ops' := lau_ops) (by kernel_rfl) (lau_S m0 m1 m2) 93 H.size (by kernel_rfl) (by kernel_rfl) (lau_all m0 m1 m2 w.heap.size c d _ _ _ q3 hb3.drew q4 hb4.drew q5 hb5.drew q7 hb7.drew q8 hb8.drew) ?_
  intro a2 w2 N2 H2 hF2
  have q6 : a2.tmps.getD 6 undef = .bool true := fact_eq (hF2 77 (by kernel_rfl)) rfl (by kernel_rfl)
  refine wp_ret (bodyPost_ret (results_tmp rfl _ _ _) (H2.defers.trans hd) ⟨?_, hw1.drew.trans (H2.below.mono hw1.size)⟩)
  rw [q6]
end Go.Proofs.Ytanimknpnniabaa
