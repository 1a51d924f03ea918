/- Blocks.More: the blocks of one set more. -/
import Derived.Test.YtanimknpnniabaaDoorOps7
import Derived.Test.YtanimknpnniabaaDoorMeth
namespace Go.Proofs.YtanimknpnniabaaDoor
open Go.RowKit
noncomputable def mor_ops : Array Oper := regOf Tryd.f25 3
def mor_S (l : List (Nat → Bool)) (m : Nat → Bool) (x g n : Nat) : List RK := [RK.eq (.pointer (some ⟨x, 0, none⟩)), RK.eq (.pointer (some ⟨x, 0, none⟩)), RK.eq (.pointer (some ⟨x, 0, none⟩)), RK.eq (.agg (nums fun b => ((numL l b : Nat) : Int)).toArray), RK.eq (setV m), RK.eq (.tuple #[.agg (nums fun b => ((numL (l ++ [m]) b : Nat) : Int)).toArray, .int .i64 ((cntL (l ++ [m]) : Nat) : Int)]), RK.eq (.tuple #[.agg (nums fun b => ((numL (l ++ [m]) b : Nat) : Int)).toArray, .int .i64 ((cntL (l ++ [m]) : Nat) : Int)]), RK.eq (.agg (nums fun b => ((numL (l ++ [m]) b : Nat) : Int)).toArray), RK.eq (.int .i64 ((cntL (l ++ [m]) : Nat) : Int)), RK.new 58 256, RK.put 9 (nums fun b => ((numL (l ++ [m]) b : Nat) : Int)), RK.eq (.int .i64 ((cntL (l ++ [m]) : Nat) : Int))]
theorem mor_o0 (l : List (Nat → Bool)) (m : Nat → Bool) (x g n : Nat) (Q : Exit → Act → World → Prop) (a0 : Act) (w0 : World) (hs0 : a0.tmps.getD 0 undef = .pointer (some ⟨x, 0, none⟩)) : Obl Tryd.prog mor_ops (mor_S l m x g n) Q a0 w0 0 :=
  obl_val (.move (.tmp 0)) none rfl (by kernel_rfl) fun a w N H D => ⟨(fun _ _ hg => by cases hg), fun _ ho => wp_move (.inl ho) (held_base H 0 (by kernel_rfl) hs0)⟩
theorem mor_o1 (l : List (Nat → Bool)) (m : Nat → Bool) (x g n : Nat) (Q : Exit → Act → World → Prop) (a0 : Act) (w0 : World)  : Obl Tryd.prog mor_ops (mor_S l m x g n) Q a0 w0 1 :=
  obl_val (.nilCheck (.tmp 10)) none rfl (by kernel_rfl) fun a w N H D => ⟨(fun _ _ hg => by cases hg), fun _ ho => wp_nil ho (fact_eq (c := .pointer (some ⟨x, 0, none⟩)) (D 0 (by kernel_rfl)) rfl (by kernel_rfl))⟩
theorem mor_o2 (l : List (Nat → Bool)) (m : Nat → Bool) (x g n : Nat) (Q : Exit → Act → World → Prop) (a0 : Act) (w0 : World)  : Obl Tryd.prog mor_ops (mor_S l m x g n) Q a0 w0 2 :=
  obl_val (.fieldAddr 64 (.tmp 11) 0) none rfl (by kernel_rfl) fun a w N H D => ⟨(fun _ _ hg => by cases hg), fun _ ho => wp_field0 ho (fact_eq (c := .pointer (some ⟨x, 0, none⟩)) (D 1 (by kernel_rfl)) rfl (by kernel_rfl))⟩
theorem mor_o3 (l : List (Nat → Bool)) (m : Nat → Bool) (x g n : Nat) (b : Nat) (Q : Exit → Act → World → Prop) (a0 : Act) (w0 : World) (hX : Blk w0 x 64 (nums (fun b => ((numL l b : Nat) : Int)) ++ [.slice (some ⟨g, 0, none⟩) n n])) : Obl Tryd.prog mor_ops (mor_S l m x g n) Q a0 w0 3 :=
  obl_val (.load 58 (.tmp 12)) none rfl (by kernel_rfl) fun a w N H D => ⟨(fun _ _ hg => by cases hg), fun _ ho => wp_load_mid256 ho (fact_eq (c := .pointer (some ⟨x, 0, none⟩)) (D 2 (by kernel_rfl)) rfl (by kernel_rfl)) (hX.below H.below hX.lt) (nums_length _)⟩
theorem mor_o4 (l : List (Nat → Bool)) (m : Nat → Bool) (x g n : Nat) (b : Nat) (Q : Exit → Act → World → Prop) (a0 : Act) (w0 : World) (hs3 : a0.tmps.getD 3 undef = .pointer (some ⟨b, 0, none⟩)) (hB3 : Blk w0 b 35 (setL m)) : Obl Tryd.prog mor_ops (mor_S l m x g n) Q a0 w0 4 :=
  obl_load_old 3 (b) rfl none (by kernel_rfl) (by kernel_rfl) hs3 hB3 (fun a w N H D => (fun _ _ hg => by cases hg))
theorem mor_o5 (l : List (Nat → Bool)) (m : Nat → Bool) (x g n : Nat) (Q : Exit → Act → World → Prop) (a0 : Act) (w0 : World)  : Obl Tryd.prog mor_ops (mor_S l m x g n) Q a0 w0 5 :=
  obl_val (.call { callee := .value (.func 31), args := #[.tmp 13, .tmp 14], argTypes := #[58, 35] }) none rfl (by kernel_rfl) fun a w N H D => ⟨(fun _ _ hg => by cases hg), fun _ ho => wp_call_eq ho enter_split (by simp only [List.map_toArray, List.map_cons, List.map_nil]; rw [(fact_eq (c := .agg (nums fun b => ((numL l b : Nat) : Int)).toArray) (D 3 (by kernel_rfl)) rfl (by kernel_rfl)), (fact_eq (c := setV m) (D 4 (by kernel_rfl)) rfl (by kernel_rfl))]) (split_l l m _)⟩
theorem mor_o6 (l : List (Nat → Bool)) (m : Nat → Bool) (x g n : Nat) (Q : Exit → Act → World → Prop) (a0 : Act) (w0 : World)  : Obl Tryd.prog mor_ops (mor_S l m x g n) Q a0 w0 6 :=
  obl_val (.move (.tmp 15)) none rfl (by kernel_rfl) fun a w N H D => ⟨(fun _ _ hg => by cases hg), fun _ ho => wp_move (.inl ho) (fact_eq (c := .tuple #[.agg (nums fun b => ((numL (l ++ [m]) b : Nat) : Int)).toArray, .int .i64 ((cntL (l ++ [m]) : Nat) : Int)]) (D 5 (by kernel_rfl)) rfl (by kernel_rfl))⟩
theorem mor_o7 (l : List (Nat → Bool)) (m : Nat → Bool) (x g n : Nat) (Q : Exit → Act → World → Prop) (a0 : Act) (w0 : World)  : Obl Tryd.prog mor_ops (mor_S l m x g n) Q a0 w0 7 :=
  obl_val (.extract (.tmp 9) 0) none rfl (by kernel_rfl) fun a w N H D => ⟨(fun _ _ hg => by cases hg), fun _ ho => wp_extract0 ho (fact_eq (c := .tuple #[.agg (nums fun b => ((numL (l ++ [m]) b : Nat) : Int)).toArray, .int .i64 ((cntL (l ++ [m]) : Nat) : Int)]) (D 6 (by kernel_rfl)) rfl (by kernel_rfl))⟩
theorem mor_o8 (l : List (Nat → Bool)) (m : Nat → Bool) (x g n : Nat) (Q : Exit → Act → World → Prop) (a0 : Act) (w0 : World)  : Obl Tryd.prog mor_ops (mor_S l m x g n) Q a0 w0 8 :=
  obl_val (.extract (.tmp 9) 1) none rfl (by kernel_rfl) fun a w N H D => ⟨(fun _ _ hg => by cases hg), fun _ ho => wp_extract1 ho (fact_eq (c := .tuple #[.agg (nums fun b => ((numL (l ++ [m]) b : Nat) : Int)).toArray, .int .i64 ((cntL (l ++ [m]) : Nat) : Int)]) (D 6 (by kernel_rfl)) rfl (by kernel_rfl))⟩
theorem mor_o9 (l : List (Nat → Bool)) (m : Nat → Bool) (x g n : Nat) (Q : Exit → Act → World → Prop) (a0 : Act) (w0 : World)  : Obl Tryd.prog mor_ops (mor_S l m x g n) Q a0 w0 9 :=
  obl_new_arr rfl (by kernel_rfl)
theorem mor_o10 (l : List (Nat → Bool)) (m : Nat → Bool) (x g n : Nat) (Q : Exit → Act → World → Prop) (a0 : Act) (w0 : World)  : Obl Tryd.prog mor_ops (mor_S l m x g n) Q a0 w0 10 :=
  obl_put_arr (nums_length _) (one_arr _) 5 9 16 7 rfl (by kernel_rfl) (by kernel_rfl) rfl (by kernel_rfl) rfl (by kernel_rfl) (by kernel_rfl) (by kernel_rfl)
theorem mor_o11 (l : List (Nat → Bool)) (m : Nat → Bool) (x g n : Nat) (Q : Exit → Act → World → Prop) (a0 : Act) (w0 : World)  : Obl Tryd.prog mor_ops (mor_S l m x g n) Q a0 w0 11 :=
  obl_val (.assign (.tmp 17)) none rfl (by kernel_rfl) fun a w N H D => ⟨(fun _ _ hg => by cases hg), fun _ ho => wp_move (.inr ho) (fact_eq (c := .int .i64 ((cntL (l ++ [m]) : Nat) : Int)) (D 8 (by kernel_rfl)) rfl (by kernel_rfl))⟩
theorem mor_all (l : List (Nat → Bool)) (m : Nat → Bool) (x g n : Nat) (b : Nat) (Q : Exit → Act → World → Prop) (a0 : Act) (w0 : World) (hs0 : a0.tmps.getD 0 undef = .pointer (some ⟨x, 0, none⟩)) (hX : Blk w0 x 64 (nums (fun b => ((numL l b : Nat) : Int)) ++ [.slice (some ⟨g, 0, none⟩) n n])) (hs3 : a0.tmps.getD 3 undef = .pointer (some ⟨b, 0, none⟩)) (hB3 : Blk w0 b 35 (setL m)) : ∀ i, i < mor_ops.size → Obl Tryd.prog mor_ops (mor_S l m x g n) Q a0 w0 i := by
  intro i hi_
  have hs : mor_ops.size = 12 := by kernel_rfl
  rw [hs] at hi_
  clear hs
  match i, hi_ with
  | 0, _ => exact mor_o0 l m x g n  Q a0 w0 hs0
  | 1, _ => exact mor_o1 l m x g n  Q a0 w0 
  | 2, _ => exact mor_o2 l m x g n  Q a0 w0 
  | 3, _ => exact mor_o3 l m x g n b Q a0 w0 hX
  | 4, _ => exact mor_o4 l m x g n b Q a0 w0 hs3 hB3
  | 5, _ => exact mor_o5 l m x g n  Q a0 w0 
  | 6, _ => exact mor_o6 l m x g n  Q a0 w0 
  | 7, _ => exact mor_o7 l m x g n  Q a0 w0 
  | 8, _ => exact mor_o8 l m x g n  Q a0 w0 
  | 9, _ => exact mor_o9 l m x g n  Q a0 w0 
  | 10, _ => exact mor_o10 l m x g n  Q a0 w0 
  | 11, _ => exact mor_o11 l m x g n  Q a0 w0 
  | i + 12, h => exact absurd h (by omega)
set_option maxRecDepth 100000 in
set_option maxHeartbeats 2000000 in
theorem more_at (l : List (Nat → Bool)) (m : Nat → Bool) {x g : Nat} (w : World) (h : BlksAt w x g (numL l) (cntL l)) :
    Calls Tryd.prog 25 #[.pointer (some ⟨x, 0, none⟩), setV m] w fun e w' => ∃ x' g', e = .returned (.pointer (some ⟨x', 0, none⟩)) ∧ BlksAt w' x' g' (numL (l ++ [m])) (cntL (l ++ [m])) ∧ w.heap.size ≤ x' ∧ w.heap.size ≤ g' ∧ Below w.heap.size w w' := by
  unfold setV
  go_enter Tryd.func25, Tryd.ntmps25
  go_wp2_with fail
  have hB := Blk.new w (setL m) 35
  have hX := h.st.alloc (.cells (setL m).toArray 35)
  refine region_named (ops' := mor_ops) (by kernel_rfl) (mor_S l m x g (cntL l)) 21 rfl (by kernel_rfl) (by kernel_rfl) (mor_all l m x g (cntL l) w.heap.size _ _ _ rfl hX.drew rfl hB.drew) ?_
  rename_i hK
  intro a w1 N H hF
  have q0 : a.tmps.getD 0 undef = .pointer (some ⟨x, 0, none⟩) := held_base H 0 (by kernel_rfl) rfl
  have q3 : a.tmps.getD 3 undef = .pointer (some ⟨w.heap.size, 0, none⟩) := held_base H 3 (by kernel_rfl) rfl
  have q4 : a.tmps.getD 4 undef = .pointer none := held_base H 4 (by kernel_rfl) rfl
  obtain ⟨bb, q5, hA⟩ : ∃ b, a.tmps.getD 5 undef = .pointer (some ⟨b, 0, none⟩) ∧ Blk w1 b 58 (nums fun b => ((numL (l ++ [m]) b : Nat) : Int)) := fact_put (hF 10 (by kernel_rfl)) rfl rfl (by kernel_rfl)
  have q6 : a.tmps.getD 6 undef = .int .i64 ((cntL (l ++ [m]) : Nat) : Int) := fact_eq (hF 11 (by kernel_rfl)) rfl (by kernel_rfl)
  have hd : a.defers = [] := H.defers
  have Hsz : a.tmps.size = 21 := H.size
  have hbw : Below w.heap.size w w1 := (((Below.refl w.heap.size w).alloc (Nat.le_refl _) (.cells (setL m).toArray 35)).drew).trans (H.below.mono (by simp))
  clear hF H hX hB
  refine hK _ _ ?_
  rw [act_eq a 21 Hsz, show List.range 21 = [0, 1, 2, 3, 4, 5, 6, 7, 8, 9, 10, 11, 12, 13, 14, 15, 16, 17, 18, 19, 20] from rfl]
  simp only [List.map_cons, List.map_nil, q0, q3, q4, q5, q6, hd]
  generalize a.tmps.getD 1 undef = z1
  generalize a.tmps.getD 2 undef = z2
  generalize a.tmps.getD 7 undef = z7
  generalize a.tmps.getD 8 undef = z8
  generalize a.tmps.getD 9 undef = z9
  generalize a.tmps.getD 10 undef = z10
  generalize a.tmps.getD 11 undef = z11
  generalize a.tmps.getD 12 undef = z12
  generalize a.tmps.getD 13 undef = z13
  generalize a.tmps.getD 14 undef = z14
  generalize a.tmps.getD 15 undef = z15
  generalize a.tmps.getD 16 undef = z16
  generalize a.tmps.getD 17 undef = z17
  generalize a.tmps.getD 18 undef = z18
  generalize a.tmps.getD 19 undef = z19
  generalize a.tmps.getD 20 undef = z20
  clear hd Hsz q0 q3 q4 q5 q6 hK a
  have hi : Option.map (fun x => x.size) (Tryd.prog.info? 58) = some (nums fun b => ((numL (l ++ [m]) b : Nat) : Int)).toArray.size := by
    rw [info_arr]
    simp [nums_length]
  go_wp2_with fail
  rename_i hK
  refine wp_load_row 58 (.tmp 5) rfl _ rfl _ _ _ _ hA Tryd.underlying58 rfl hi ?_
  refine hK _ _ ?_
  clear hK hi
  go_wp2_with fail
  refine (build_any (numL (l ++ [m])) (cntL (l ++ [m])) (by have := cntL_le (l ++ [m]); omega) (numL_lt (l ++ [m])) _).mono ?_
  rintro e w2 ⟨x', g', rfl, hx, h5, h6, hb⟩
  go_wp2
  go_returns
  exact ⟨x', g', rfl, hx, Nat.le_trans hbw.size h5, Nat.le_trans hbw.size h6, hbw.trans (hb.mono hbw.size)⟩
end Go.Proofs.YtanimknpnniabaaDoor
