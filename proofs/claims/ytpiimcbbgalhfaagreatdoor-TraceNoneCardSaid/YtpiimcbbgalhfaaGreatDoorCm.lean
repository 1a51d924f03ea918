/- Operations of do's region: two places laid in new variables. -/
import Derived.Test.YtpiimcbbgalhfaaGreatDoorCl
import Derived.Test.YtpiimcbbgalhfaaGreatDoorBb
import Derived.Test.YtpiimcbbgalhfaaGreatDoorCh
namespace Go.Proofs.YtpiimcbbgalhfaaGreatDoor
set_option maxRecDepth 100000
open Go.RowKit
section
variable {ops : Array Oper} {S : List RK} {Q : Exit → Act → World → Prop} {a0 : Act} {w0 : World} {a : Act} {w : World} {N : Nat → Prop}
theorem obl_new_place {i : Nat} (hs : specOf S i = RK.new 179 2) (hop : (ops[i]?).map (fun o => (o.op, o.guard)) = some (.alloc 179, none)) : Obl Tryz.prog ops S Q a0 w0 i := by
  intro a w N H D
  cases ho : ops[i]? with
  | none => rw [ho] at hop; cases hop
  | some o =>
    rw [ho] at hop
    simp only [Option.map_some, Option.some.injEq, Prod.mk.injEq] at hop
    have hdst : dstOf ops i = o.dst := by unfold dstOf; rw [ho]; rfl
    unfold wpOp
    simp only [ho]
    rw [if_pos (by unfold Region.wanted; rw [hop.2])]
    left
    refine wp_of_run (v := .pointer (some ⟨w.heap.size, 0, none⟩)) (w' := w.alloc (.cells [Value.pointer none, .int .i64 0].toArray 179)) (by simp [execOp, hop.1, go_sem]) ?_
    refine ⟨_, by rw [hdst], ?_⟩
    unfold Does
    rw [hs]
    exact ⟨_, rfl, rfl, rfl⟩
theorem obl_put_place {i : Nat} {p : Option Addr} {q : Int} (s pi x j : Nat) (hs : specOf S i = RK.put pi [.pointer p, .int .i64 q]) (hop : (ops[i]?).map (fun o => (o.op, o.guard)) = some (.store 179 (.tmp s) (.tmp x), none)) (_hnone : dstOf ops i = none)
    (hp : specOf S pi = RK.new 179 2) (hd : dstOf ops pi = some s) (hj : specOf S j = RK.eq (.agg #[.pointer p, .int .i64 q])) (hdj : dstOf ops j = some x) (hdep : (depsOf ops i).contains j = true) (hdep2 : (depsOf ops i).contains pi = true) : Obl Tryz.prog ops S Q a0 w0 i := by
  intro a w N H D
  cases ho : ops[i]? with
  | none => rw [ho] at hop; cases hop
  | some o =>
    rw [ho] at hop
    simp only [Option.map_some, Option.some.injEq, Prod.mk.injEq] at hop
    have hdst : dstOf ops i = o.dst := by unfold dstOf; rw [ho]; rfl
    have D' : ∀ j, j ∈ depsOf ops i → Fact ops S j a w N := fun j hj => by
      unfold depsOf at hj
      rw [ho] at hj
      simp only [Option.map_some, Option.getD_some, List.mem_map, List.mem_filter] at hj
      obtain ⟨e, ⟨he, hb⟩, rfl⟩ := hj
      exact D o ho e (by simpa using he) hb
    have hx := fact_eq (D' j (by simpa using hdep)) hj hdj
    have hf := D' pi (by simpa using hdep2)
    unfold Fact at hf
    rw [hp] at hf
    simp only [RK.new] at hf
    obtain ⟨b, cs, hb, hNb, hblk, hlen⟩ := hf
    have hv : valOf ops pi a = a.eval (.tmp s) := by unfold valOf; rw [hd]; rfl
    obtain ⟨v0, v1, rfl⟩ : ∃ v0 v1, cs = [v0, v1] := by
      match cs, hlen with
      | [v0, v1], _ => exact ⟨v0, v1, rfl⟩
    have c0 := hblk.cell 0
    have c1 := hblk.cell 1
    have f0 := hblk.frozen 0
    have f1 := hblk.frozen 1
    simp only [List.getElem?_cons_zero, List.getElem?_cons_succ] at c0 c1
    unfold wpOp
    simp only [ho]
    rw [if_pos (by unfold Region.wanted; rw [hop.2])]
    left
    have hpx : a.eval (.tmp s) = .pointer (some ⟨b, 0, none⟩) := hv.symm.trans hb
    have hrun : (execOp a.eval o).run Tryz.prog w = .ok .skip ((w.setCell ⟨b, 0, none⟩ (.pointer p)).setCell ⟨b, 1, none⟩ (.int .i64 q)) := by
      simp only [execOp, hop.1, hx, hpx]
      simp [go_sem, c0, c1, f0, f1]
    unfold Oper.wp
    rw [hrun]
    show ∃ v, a.put o.dst undef = a.put (dstOf ops i) v ∧ _
    refine ⟨undef, by rw [hdst], ?_⟩
    unfold Does
    rw [hs]
    simp only [RK.put, hp, RK.new]
    exact ⟨b, hb, only_setCell (only_setCell (World.grownBy.refl _ _) 0 _) 1 _, by simp [World.setCell], (hblk.set 0 _).set 1 _⟩
theorem wp_build_place {o : Oper} {x y : Operand} {p : Option Addr} {q : Int} (ho : o.op = .build 179 #[(0, x), (1, y)]) (hx : a.eval x = .pointer p) (hy : a.eval y = .int .i64 q) :
    o.wp Tryz.prog a w (fun a' w' => ∃ u, a' = a.put o.dst u ∧ Below w.heap.size w w' ∧ ∀ N' : Nat → Prop, (∀ k, k < w.heap.size → N k → N' k) → (∀ k, w.heap.size ≤ k → N' k) → (RG.eq (.agg #[.pointer p, .int .i64 q])).g u w' N') Q := by
  refine wp_quiet ?_
  simp only [execOp, ho, List.map_toArray, List.map_cons, List.map_nil, hx, hy]
  simp [go_sem]
theorem wp_load_i {o : Oper} {x : Operand} {p : Addr} {b : Int} (ho : o.op = .load 3 x) (hx : a.eval x = .pointer (some p)) (hc : w.cell? p = some (.int .i64 b)) :
    o.wp Tryz.prog a w (fun a' w' => ∃ u, a' = a.put o.dst u ∧ Below w.heap.size w w' ∧ ∀ N' : Nat → Prop, (∀ k, k < w.heap.size → N k → N' k) → (∀ k, w.heap.size ≤ k → N' k) → (RG.eq (.int .i64 b)).g u w' N') Q := by
  refine wp_quiet ?_
  simp only [execOp, ho, hx]
  simp [go_sem, hc]
theorem wp_load_p {o : Oper} {x : Operand} {p : Addr} {b : Option Addr} (ho : o.op = .load 47 x) (hx : a.eval x = .pointer (some p)) (hc : w.cell? p = some (.pointer b)) :
    o.wp Tryz.prog a w (fun a' w' => ∃ u, a' = a.put o.dst u ∧ Below w.heap.size w w' ∧ ∀ N' : Nat → Prop, (∀ k, k < w.heap.size → N k → N' k) → (∀ k, w.heap.size ≤ k → N' k) → (RG.eq (.pointer b)).g u w' N') Q := by
  refine wp_quiet ?_
  simp only [execOp, ho, hx]
  simp [go_sem, hc]
theorem wp_nilp {o : Oper} {x : Operand} {p : Addr} (ho : o.op = .nilCheck x) (hx : a.eval x = .pointer (some p)) :
    o.wp Tryz.prog a w (fun a' w' => ∃ u, a' = a.put o.dst u ∧ Below w.heap.size w w' ∧ ∀ N' : Nat → Prop, (∀ k, k < w.heap.size → N k → N' k) → (∀ k, w.heap.size ≤ k → N' k) → (RG.eq (.pointer (some p))).g u w' N') Q := by
  refine wp_quiet ?_
  simp only [execOp, ho, hx]
  simp [go_sem]
theorem wp_fw0 {o : Oper} {x : Operand} {b : Nat} (ho : o.op = .fieldAddr 181 x 0) (hx : a.eval x = .pointer (some ⟨b, 0, none⟩)) :
    o.wp Tryz.prog a w (fun a' w' => ∃ u, a' = a.put o.dst u ∧ Below w.heap.size w w' ∧ ∀ N' : Nat → Prop, (∀ k, k < w.heap.size → N k → N' k) → (∀ k, w.heap.size ≤ k → N' k) → (RG.eq (.pointer (some ⟨b, 0, none⟩))).g u w' N') Q := by
  refine wp_quiet ?_
  simp only [execOp, ho, hx]
  simp [go_sem]
theorem wp_fp0 {o : Oper} {x : Operand} {b : Nat} (ho : o.op = .fieldAddr 179 x 0) (hx : a.eval x = .pointer (some ⟨b, 0, none⟩)) :
    o.wp Tryz.prog a w (fun a' w' => ∃ u, a' = a.put o.dst u ∧ Below w.heap.size w w' ∧ ∀ N' : Nat → Prop, (∀ k, k < w.heap.size → N k → N' k) → (∀ k, w.heap.size ≤ k → N' k) → (RG.eq (.pointer (some ⟨b, 0, none⟩))).g u w' N') Q := by
  refine wp_quiet ?_
  simp only [execOp, ho, hx]
  simp [go_sem]
theorem wp_fp1 {o : Oper} {x : Operand} {b : Nat} (ho : o.op = .fieldAddr 179 x 1) (hx : a.eval x = .pointer (some ⟨b, 0, none⟩)) :
    o.wp Tryz.prog a w (fun a' w' => ∃ u, a' = a.put o.dst u ∧ Below w.heap.size w w' ∧ ∀ N' : Nat → Prop, (∀ k, k < w.heap.size → N k → N' k) → (∀ k, w.heap.size ≤ k → N' k) → (RG.eq (.pointer (some ⟨b, 1, none⟩))).g u w' N') Q := by
  refine wp_quiet ?_
  simp only [execOp, ho, hx]
  simp [go_sem]
theorem wp_fn3 {o : Oper} {x : Operand} {b : Nat} (ho : o.op = .fieldAddr 148 x 3) (hx : a.eval x = .pointer (some ⟨b, 0, none⟩)) :
    o.wp Tryz.prog a w (fun a' w' => ∃ u, a' = a.put o.dst u ∧ Below w.heap.size w w' ∧ ∀ N' : Nat → Prop, (∀ k, k < w.heap.size → N k → N' k) → (∀ k, w.heap.size ≤ k → N' k) → (RG.eq (.pointer (some ⟨b, 6, none⟩))).g u w' N') Q := by
  refine wp_quiet ?_
  simp only [execOp, ho, hx]
  simp [go_sem]
theorem wp_fn4 {o : Oper} {x : Operand} {b : Nat} (ho : o.op = .fieldAddr 148 x 4) (hx : a.eval x = .pointer (some ⟨b, 0, none⟩)) :
    o.wp Tryz.prog a w (fun a' w' => ∃ u, a' = a.put o.dst u ∧ Below w.heap.size w w' ∧ ∀ N' : Nat → Prop, (∀ k, k < w.heap.size → N k → N' k) → (∀ k, w.heap.size ≤ k → N' k) → (RG.eq (.pointer (some ⟨b, 7, none⟩))).g u w' N') Q := by
  refine wp_quiet ?_
  simp only [execOp, ho, hx]
  simp [go_sem]
theorem wp_width {o : Oper} {x : Operand} {ts : Array TypeId} {p : Option Addr} {A : Nat} (ho : o.op = .call { callee := .value (.func 155), args := #[x], argTypes := ts }) (hx : a.eval x = .pointer p)
    (hc : Calls Tryz.prog 155 #[.pointer p] w fun v w' => v = .returned (.int .i64 ((A : Nat) : Int)) ∧ ∃ n, w' = w.drewN n) :
    o.wp Tryz.prog a w (fun a' w' => ∃ u, a' = a.put o.dst u ∧ Below w.heap.size w w' ∧ ∀ N' : Nat → Prop, (∀ k, k < w.heap.size → N k → N' k) → (∀ k, w.heap.size ≤ k → N' k) → (RG.eq (.int .i64 ((A : Nat) : Int))).g u w' N') Q :=
  wp_call_eq (xs := #[.pointer p]) ho (fun xs w => by kernel_rfl) (by simp only [List.map_toArray, List.map_cons, List.map_nil]; rw [hx]) (hc.mono fun e w' ⟨h1, n, h2⟩ => ⟨h1, by rw [h2]; exact below_drewN (Below.refl _ _) n⟩)
end
end Go.Proofs.YtpiimcbbgalhfaaGreatDoor
/- trace's do: its region that lays two places. -/
namespace Go.Proofs.YtpiimcbbgalhfaaGreatDoor
set_option maxRecDepth 100000
open Go.RowKit
noncomputable def tdo_ops : Array Oper := regOf Tryz.f106 5
def tdo_S (d g f A : Nat) (oa ob : Option Addr) : List RK := [RK.eq (.pointer (some ⟨d, 0, none⟩)), RK.eq (.pointer (some ⟨d, 0, none⟩)), RK.eq (.pointer (some ⟨d, 0, none⟩)), RK.eq (.pointer (some ⟨d, 0, none⟩)), RK.eq (.pointer (some ⟨g, 0, none⟩)), RK.eq (.pointer (some ⟨g, 0, none⟩)), RK.eq (.pointer (some ⟨g, 6, none⟩)), RK.eq (.pointer oa), RK.eq (.pointer (some ⟨d, 0, none⟩)), RK.eq (.pointer (some ⟨d, 0, none⟩)), RK.eq (.pointer (some ⟨d, 0, none⟩)), RK.eq (.pointer (some ⟨d, 1, none⟩)), RK.eq (.int .i64 ((f : Nat) : Int)), RK.eq (.agg #[.pointer oa, .int .i64 ((f : Nat) : Int)]), RK.eq (.pointer (some ⟨d, 0, none⟩)), RK.eq (.pointer (some ⟨d, 0, none⟩)), RK.eq (.pointer (some ⟨d, 0, none⟩)), RK.eq (.pointer (some ⟨d, 0, none⟩)), RK.eq (.pointer (some ⟨g, 0, none⟩)), RK.eq (.pointer (some ⟨g, 0, none⟩)), RK.eq (.pointer (some ⟨g, 7, none⟩)), RK.eq (.pointer ob), RK.eq (.pointer (some ⟨d, 0, none⟩)), RK.eq (.pointer (some ⟨d, 0, none⟩)), RK.eq (.pointer (some ⟨d, 0, none⟩)), RK.eq (.pointer (some ⟨d, 1, none⟩)), RK.eq (.int .i64 ((f : Nat) : Int)), RK.eq (.pointer (some ⟨d, 0, none⟩)), RK.eq (.pointer (some ⟨d, 0, none⟩)), RK.eq (.pointer (some ⟨d, 0, none⟩)), RK.eq (.pointer (some ⟨d, 0, none⟩)), RK.eq (.pointer (some ⟨g, 0, none⟩)), RK.eq (.pointer (some ⟨g, 0, none⟩)), RK.eq (.pointer (some ⟨g, 6, none⟩)), RK.eq (.pointer oa), RK.eq (.int .i64 ((A : Nat) : Int)), RK.eq (.int .i64 (wrap64 (((f : Nat) : Int) + ((A : Nat) : Int)))), RK.eq (.agg #[.pointer ob, .int .i64 (wrap64 (((f : Nat) : Int) + ((A : Nat) : Int)))]), RK.new 179 2, RK.new 179 2, RK.put 38 [.pointer oa, .int .i64 ((f : Nat) : Int)], RK.put 39 [.pointer ob, .int .i64 (wrap64 (((f : Nat) : Int) + ((A : Nat) : Int)))]]
theorem tdo_o0 (d g f A : Nat) (oa ob : Option Addr) (Q : Exit → Act → World → Prop) (a0 : Act) (w0 : World) (hs2 : a0.tmps.getD 2 undef = .pointer (some ⟨d, 0, none⟩)) : Obl Tryz.prog tdo_ops (tdo_S d g f A oa ob) Q a0 w0 0 :=
  obl_val (.move (.tmp 2)) none rfl (by kernel_rfl) fun a w N H D => ⟨(fun _ _ hg => by cases hg), fun _ ho => wp_move (.inl ho) (held_base H 2 (by kernel_rfl) hs2)⟩
theorem tdo_o1 (d g f A : Nat) (oa ob : Option Addr) (Q : Exit → Act → World → Prop) (a0 : Act) (w0 : World)  : Obl Tryz.prog tdo_ops (tdo_S d g f A oa ob) Q a0 w0 1 :=
  obl_val (.nilCheck (.tmp 34)) none rfl (by kernel_rfl) fun a w N H D => ⟨(fun _ _ hg => by cases hg), fun _ ho => wp_nilp ho (fact_eq (c := .pointer (some ⟨d, 0, none⟩)) (D 0 (by kernel_rfl)) rfl (by kernel_rfl))⟩
theorem tdo_o2 (d g f A : Nat) (oa ob : Option Addr) (Q : Exit → Act → World → Prop) (a0 : Act) (w0 : World)  : Obl Tryz.prog tdo_ops (tdo_S d g f A oa ob) Q a0 w0 2 :=
  obl_val (.fieldAddr 181 (.tmp 35) 0) none rfl (by kernel_rfl) fun a w N H D => ⟨(fun _ _ hg => by cases hg), fun _ ho => wp_fw0 ho (fact_eq (c := .pointer (some ⟨d, 0, none⟩)) (D 1 (by kernel_rfl)) rfl (by kernel_rfl))⟩
theorem tdo_o3 (d g f A : Nat) (oa ob : Option Addr) (Q : Exit → Act → World → Prop) (a0 : Act) (w0 : World)  : Obl Tryz.prog tdo_ops (tdo_S d g f A oa ob) Q a0 w0 3 :=
  obl_val (.fieldAddr 179 (.tmp 36) 0) none rfl (by kernel_rfl) fun a w N H D => ⟨(fun _ _ hg => by cases hg), fun _ ho => wp_fp0 ho (fact_eq (c := .pointer (some ⟨d, 0, none⟩)) (D 2 (by kernel_rfl)) rfl (by kernel_rfl))⟩
theorem tdo_o4 (d g f A : Nat) (oa ob : Option Addr) (Q : Exit → Act → World → Prop) (a0 : Act) (w0 : World) (hd0 : w0.cell? ⟨d, 0, none⟩ = some (.pointer (some ⟨g, 0, none⟩)) ∧ d < w0.heap.size) : Obl Tryz.prog tdo_ops (tdo_S d g f A oa ob) Q a0 w0 4 :=
  obl_val (.load 47 (.tmp 37)) none rfl (by kernel_rfl) fun a w N H D => ⟨(fun _ _ hg => by cases hg), fun _ ho => wp_load_p ho (fact_eq (c := .pointer (some ⟨d, 0, none⟩)) (D 3 (by kernel_rfl)) rfl (by kernel_rfl)) ((H.below.cell hd0.2).trans hd0.1)⟩
theorem tdo_o5 (d g f A : Nat) (oa ob : Option Addr) (Q : Exit → Act → World → Prop) (a0 : Act) (w0 : World)  : Obl Tryz.prog tdo_ops (tdo_S d g f A oa ob) Q a0 w0 5 :=
  obl_val (.nilCheck (.tmp 38)) none rfl (by kernel_rfl) fun a w N H D => ⟨(fun _ _ hg => by cases hg), fun _ ho => wp_nilp ho (fact_eq (c := .pointer (some ⟨g, 0, none⟩)) (D 4 (by kernel_rfl)) rfl (by kernel_rfl))⟩
theorem tdo_o6 (d g f A : Nat) (oa ob : Option Addr) (Q : Exit → Act → World → Prop) (a0 : Act) (w0 : World)  : Obl Tryz.prog tdo_ops (tdo_S d g f A oa ob) Q a0 w0 6 :=
  obl_val (.fieldAddr 148 (.tmp 39) 3) none rfl (by kernel_rfl) fun a w N H D => ⟨(fun _ _ hg => by cases hg), fun _ ho => wp_fn3 ho (fact_eq (c := .pointer (some ⟨g, 0, none⟩)) (D 5 (by kernel_rfl)) rfl (by kernel_rfl))⟩
theorem tdo_o7 (d g f A : Nat) (oa ob : Option Addr) (Q : Exit → Act → World → Prop) (a0 : Act) (w0 : World) (hg6 : w0.cell? ⟨g, 6, none⟩ = some (.pointer oa) ∧ g < w0.heap.size) : Obl Tryz.prog tdo_ops (tdo_S d g f A oa ob) Q a0 w0 7 :=
  obl_val (.load 47 (.tmp 40)) none rfl (by kernel_rfl) fun a w N H D => ⟨(fun _ _ hg => by cases hg), fun _ ho => wp_load_p ho (fact_eq (c := .pointer (some ⟨g, 6, none⟩)) (D 6 (by kernel_rfl)) rfl (by kernel_rfl)) ((H.below.cell hg6.2).trans hg6.1)⟩
theorem tdo_o8 (d g f A : Nat) (oa ob : Option Addr) (Q : Exit → Act → World → Prop) (a0 : Act) (w0 : World) (hs2 : a0.tmps.getD 2 undef = .pointer (some ⟨d, 0, none⟩)) : Obl Tryz.prog tdo_ops (tdo_S d g f A oa ob) Q a0 w0 8 :=
  obl_val (.move (.tmp 2)) none rfl (by kernel_rfl) fun a w N H D => ⟨(fun _ _ hg => by cases hg), fun _ ho => wp_move (.inl ho) (held_base H 2 (by kernel_rfl) hs2)⟩
theorem tdo_o9 (d g f A : Nat) (oa ob : Option Addr) (Q : Exit → Act → World → Prop) (a0 : Act) (w0 : World)  : Obl Tryz.prog tdo_ops (tdo_S d g f A oa ob) Q a0 w0 9 :=
  obl_val (.nilCheck (.tmp 42)) none rfl (by kernel_rfl) fun a w N H D => ⟨(fun _ _ hg => by cases hg), fun _ ho => wp_nilp ho (fact_eq (c := .pointer (some ⟨d, 0, none⟩)) (D 8 (by kernel_rfl)) rfl (by kernel_rfl))⟩
theorem tdo_o10 (d g f A : Nat) (oa ob : Option Addr) (Q : Exit → Act → World → Prop) (a0 : Act) (w0 : World)  : Obl Tryz.prog tdo_ops (tdo_S d g f A oa ob) Q a0 w0 10 :=
  obl_val (.fieldAddr 181 (.tmp 43) 0) none rfl (by kernel_rfl) fun a w N H D => ⟨(fun _ _ hg => by cases hg), fun _ ho => wp_fw0 ho (fact_eq (c := .pointer (some ⟨d, 0, none⟩)) (D 9 (by kernel_rfl)) rfl (by kernel_rfl))⟩
theorem tdo_o11 (d g f A : Nat) (oa ob : Option Addr) (Q : Exit → Act → World → Prop) (a0 : Act) (w0 : World)  : Obl Tryz.prog tdo_ops (tdo_S d g f A oa ob) Q a0 w0 11 :=
  obl_val (.fieldAddr 179 (.tmp 44) 1) none rfl (by kernel_rfl) fun a w N H D => ⟨(fun _ _ hg => by cases hg), fun _ ho => wp_fp1 ho (fact_eq (c := .pointer (some ⟨d, 0, none⟩)) (D 10 (by kernel_rfl)) rfl (by kernel_rfl))⟩
theorem tdo_o12 (d g f A : Nat) (oa ob : Option Addr) (Q : Exit → Act → World → Prop) (a0 : Act) (w0 : World) (hd1 : w0.cell? ⟨d, 1, none⟩ = some (.int .i64 ((f : Nat) : Int)) ∧ d < w0.heap.size) : Obl Tryz.prog tdo_ops (tdo_S d g f A oa ob) Q a0 w0 12 :=
  obl_val (.load 3 (.tmp 45)) none rfl (by kernel_rfl) fun a w N H D => ⟨(fun _ _ hg => by cases hg), fun _ ho => wp_load_i ho (fact_eq (c := .pointer (some ⟨d, 1, none⟩)) (D 11 (by kernel_rfl)) rfl (by kernel_rfl)) ((H.below.cell hd1.2).trans hd1.1)⟩
theorem tdo_o13 (d g f A : Nat) (oa ob : Option Addr) (Q : Exit → Act → World → Prop) (a0 : Act) (w0 : World)  : Obl Tryz.prog tdo_ops (tdo_S d g f A oa ob) Q a0 w0 13 :=
  obl_val (.build 179 #[(0, .tmp 41), (1, .tmp 46)]) none rfl (by kernel_rfl) fun a w N H D => ⟨(fun _ _ hg => by cases hg), fun _ ho => wp_build_place ho (fact_eq (c := .pointer oa) (D 7 (by kernel_rfl)) rfl (by kernel_rfl)) (fact_eq (c := .int .i64 ((f : Nat) : Int)) (D 12 (by kernel_rfl)) rfl (by kernel_rfl))⟩
theorem tdo_o14 (d g f A : Nat) (oa ob : Option Addr) (Q : Exit → Act → World → Prop) (a0 : Act) (w0 : World) (hs2 : a0.tmps.getD 2 undef = .pointer (some ⟨d, 0, none⟩)) : Obl Tryz.prog tdo_ops (tdo_S d g f A oa ob) Q a0 w0 14 :=
  obl_val (.move (.tmp 2)) none rfl (by kernel_rfl) fun a w N H D => ⟨(fun _ _ hg => by cases hg), fun _ ho => wp_move (.inl ho) (held_base H 2 (by kernel_rfl) hs2)⟩
theorem tdo_o15 (d g f A : Nat) (oa ob : Option Addr) (Q : Exit → Act → World → Prop) (a0 : Act) (w0 : World)  : Obl Tryz.prog tdo_ops (tdo_S d g f A oa ob) Q a0 w0 15 :=
  obl_val (.nilCheck (.tmp 48)) none rfl (by kernel_rfl) fun a w N H D => ⟨(fun _ _ hg => by cases hg), fun _ ho => wp_nilp ho (fact_eq (c := .pointer (some ⟨d, 0, none⟩)) (D 14 (by kernel_rfl)) rfl (by kernel_rfl))⟩
theorem tdo_o16 (d g f A : Nat) (oa ob : Option Addr) (Q : Exit → Act → World → Prop) (a0 : Act) (w0 : World)  : Obl Tryz.prog tdo_ops (tdo_S d g f A oa ob) Q a0 w0 16 :=
  obl_val (.fieldAddr 181 (.tmp 49) 0) none rfl (by kernel_rfl) fun a w N H D => ⟨(fun _ _ hg => by cases hg), fun _ ho => wp_fw0 ho (fact_eq (c := .pointer (some ⟨d, 0, none⟩)) (D 15 (by kernel_rfl)) rfl (by kernel_rfl))⟩
theorem tdo_o17 (d g f A : Nat) (oa ob : Option Addr) (Q : Exit → Act → World → Prop) (a0 : Act) (w0 : World)  : Obl Tryz.prog tdo_ops (tdo_S d g f A oa ob) Q a0 w0 17 :=
  obl_val (.fieldAddr 179 (.tmp 50) 0) none rfl (by kernel_rfl) fun a w N H D => ⟨(fun _ _ hg => by cases hg), fun _ ho => wp_fp0 ho (fact_eq (c := .pointer (some ⟨d, 0, none⟩)) (D 16 (by kernel_rfl)) rfl (by kernel_rfl))⟩
theorem tdo_o18 (d g f A : Nat) (oa ob : Option Addr) (Q : Exit → Act → World → Prop) (a0 : Act) (w0 : World) (hd0 : w0.cell? ⟨d, 0, none⟩ = some (.pointer (some ⟨g, 0, none⟩)) ∧ d < w0.heap.size) : Obl Tryz.prog tdo_ops (tdo_S d g f A oa ob) Q a0 w0 18 :=
  obl_val (.load 47 (.tmp 51)) none rfl (by kernel_rfl) fun a w N H D => ⟨(fun _ _ hg => by cases hg), fun _ ho => wp_load_p ho (fact_eq (c := .pointer (some ⟨d, 0, none⟩)) (D 17 (by kernel_rfl)) rfl (by kernel_rfl)) ((H.below.cell hd0.2).trans hd0.1)⟩
theorem tdo_o19 (d g f A : Nat) (oa ob : Option Addr) (Q : Exit → Act → World → Prop) (a0 : Act) (w0 : World)  : Obl Tryz.prog tdo_ops (tdo_S d g f A oa ob) Q a0 w0 19 :=
  obl_val (.nilCheck (.tmp 52)) none rfl (by kernel_rfl) fun a w N H D => ⟨(fun _ _ hg => by cases hg), fun _ ho => wp_nilp ho (fact_eq (c := .pointer (some ⟨g, 0, none⟩)) (D 18 (by kernel_rfl)) rfl (by kernel_rfl))⟩
theorem tdo_o20 (d g f A : Nat) (oa ob : Option Addr) (Q : Exit → Act → World → Prop) (a0 : Act) (w0 : World)  : Obl Tryz.prog tdo_ops (tdo_S d g f A oa ob) Q a0 w0 20 :=
  obl_val (.fieldAddr 148 (.tmp 53) 4) none rfl (by kernel_rfl) fun a w N H D => ⟨(fun _ _ hg => by cases hg), fun _ ho => wp_fn4 ho (fact_eq (c := .pointer (some ⟨g, 0, none⟩)) (D 19 (by kernel_rfl)) rfl (by kernel_rfl))⟩
theorem tdo_o21 (d g f A : Nat) (oa ob : Option Addr) (Q : Exit → Act → World → Prop) (a0 : Act) (w0 : World) (hg7 : w0.cell? ⟨g, 7, none⟩ = some (.pointer ob) ∧ g < w0.heap.size) : Obl Tryz.prog tdo_ops (tdo_S d g f A oa ob) Q a0 w0 21 :=
  obl_val (.load 47 (.tmp 54)) none rfl (by kernel_rfl) fun a w N H D => ⟨(fun _ _ hg => by cases hg), fun _ ho => wp_load_p ho (fact_eq (c := .pointer (some ⟨g, 7, none⟩)) (D 20 (by kernel_rfl)) rfl (by kernel_rfl)) ((H.below.cell hg7.2).trans hg7.1)⟩
theorem tdo_o22 (d g f A : Nat) (oa ob : Option Addr) (Q : Exit → Act → World → Prop) (a0 : Act) (w0 : World) (hs2 : a0.tmps.getD 2 undef = .pointer (some ⟨d, 0, none⟩)) : Obl Tryz.prog tdo_ops (tdo_S d g f A oa ob) Q a0 w0 22 :=
  obl_val (.move (.tmp 2)) none rfl (by kernel_rfl) fun a w N H D => ⟨(fun _ _ hg => by cases hg), fun _ ho => wp_move (.inl ho) (held_base H 2 (by kernel_rfl) hs2)⟩
theorem tdo_o23 (d g f A : Nat) (oa ob : Option Addr) (Q : Exit → Act → World → Prop) (a0 : Act) (w0 : World)  : Obl Tryz.prog tdo_ops (tdo_S d g f A oa ob) Q a0 w0 23 :=
  obl_val (.nilCheck (.tmp 56)) none rfl (by kernel_rfl) fun a w N H D => ⟨(fun _ _ hg => by cases hg), fun _ ho => wp_nilp ho (fact_eq (c := .pointer (some ⟨d, 0, none⟩)) (D 22 (by kernel_rfl)) rfl (by kernel_rfl))⟩
theorem tdo_o24 (d g f A : Nat) (oa ob : Option Addr) (Q : Exit → Act → World → Prop) (a0 : Act) (w0 : World)  : Obl Tryz.prog tdo_ops (tdo_S d g f A oa ob) Q a0 w0 24 :=
  obl_val (.fieldAddr 181 (.tmp 57) 0) none rfl (by kernel_rfl) fun a w N H D => ⟨(fun _ _ hg => by cases hg), fun _ ho => wp_fw0 ho (fact_eq (c := .pointer (some ⟨d, 0, none⟩)) (D 23 (by kernel_rfl)) rfl (by kernel_rfl))⟩
theorem tdo_o25 (d g f A : Nat) (oa ob : Option Addr) (Q : Exit → Act → World → Prop) (a0 : Act) (w0 : World)  : Obl Tryz.prog tdo_ops (tdo_S d g f A oa ob) Q a0 w0 25 :=
  obl_val (.fieldAddr 179 (.tmp 58) 1) none rfl (by kernel_rfl) fun a w N H D => ⟨(fun _ _ hg => by cases hg), fun _ ho => wp_fp1 ho (fact_eq (c := .pointer (some ⟨d, 0, none⟩)) (D 24 (by kernel_rfl)) rfl (by kernel_rfl))⟩
theorem tdo_o26 (d g f A : Nat) (oa ob : Option Addr) (Q : Exit → Act → World → Prop) (a0 : Act) (w0 : World) (hd1 : w0.cell? ⟨d, 1, none⟩ = some (.int .i64 ((f : Nat) : Int)) ∧ d < w0.heap.size) : Obl Tryz.prog tdo_ops (tdo_S d g f A oa ob) Q a0 w0 26 :=
  obl_val (.load 3 (.tmp 59)) none rfl (by kernel_rfl) fun a w N H D => ⟨(fun _ _ hg => by cases hg), fun _ ho => wp_load_i ho (fact_eq (c := .pointer (some ⟨d, 1, none⟩)) (D 25 (by kernel_rfl)) rfl (by kernel_rfl)) ((H.below.cell hd1.2).trans hd1.1)⟩
theorem tdo_o27 (d g f A : Nat) (oa ob : Option Addr) (Q : Exit → Act → World → Prop) (a0 : Act) (w0 : World) (hs2 : a0.tmps.getD 2 undef = .pointer (some ⟨d, 0, none⟩)) : Obl Tryz.prog tdo_ops (tdo_S d g f A oa ob) Q a0 w0 27 :=
  obl_val (.move (.tmp 2)) none rfl (by kernel_rfl) fun a w N H D => ⟨(fun _ _ hg => by cases hg), fun _ ho => wp_move (.inl ho) (held_base H 2 (by kernel_rfl) hs2)⟩
theorem tdo_o28 (d g f A : Nat) (oa ob : Option Addr) (Q : Exit → Act → World → Prop) (a0 : Act) (w0 : World)  : Obl Tryz.prog tdo_ops (tdo_S d g f A oa ob) Q a0 w0 28 :=
  obl_val (.nilCheck (.tmp 61)) none rfl (by kernel_rfl) fun a w N H D => ⟨(fun _ _ hg => by cases hg), fun _ ho => wp_nilp ho (fact_eq (c := .pointer (some ⟨d, 0, none⟩)) (D 27 (by kernel_rfl)) rfl (by kernel_rfl))⟩
theorem tdo_o29 (d g f A : Nat) (oa ob : Option Addr) (Q : Exit → Act → World → Prop) (a0 : Act) (w0 : World)  : Obl Tryz.prog tdo_ops (tdo_S d g f A oa ob) Q a0 w0 29 :=
  obl_val (.fieldAddr 181 (.tmp 62) 0) none rfl (by kernel_rfl) fun a w N H D => ⟨(fun _ _ hg => by cases hg), fun _ ho => wp_fw0 ho (fact_eq (c := .pointer (some ⟨d, 0, none⟩)) (D 28 (by kernel_rfl)) rfl (by kernel_rfl))⟩
theorem tdo_o30 (d g f A : Nat) (oa ob : Option Addr) (Q : Exit → Act → World → Prop) (a0 : Act) (w0 : World)  : Obl Tryz.prog tdo_ops (tdo_S d g f A oa ob) Q a0 w0 30 :=
  obl_val (.fieldAddr 179 (.tmp 63) 0) none rfl (by kernel_rfl) fun a w N H D => ⟨(fun _ _ hg => by cases hg), fun _ ho => wp_fp0 ho (fact_eq (c := .pointer (some ⟨d, 0, none⟩)) (D 29 (by kernel_rfl)) rfl (by kernel_rfl))⟩
theorem tdo_o31 (d g f A : Nat) (oa ob : Option Addr) (Q : Exit → Act → World → Prop) (a0 : Act) (w0 : World) (hd0 : w0.cell? ⟨d, 0, none⟩ = some (.pointer (some ⟨g, 0, none⟩)) ∧ d < w0.heap.size) : Obl Tryz.prog tdo_ops (tdo_S d g f A oa ob) Q a0 w0 31 :=
  obl_val (.load 47 (.tmp 64)) none rfl (by kernel_rfl) fun a w N H D => ⟨(fun _ _ hg => by cases hg), fun _ ho => wp_load_p ho (fact_eq (c := .pointer (some ⟨d, 0, none⟩)) (D 30 (by kernel_rfl)) rfl (by kernel_rfl)) ((H.below.cell hd0.2).trans hd0.1)⟩
theorem tdo_o32 (d g f A : Nat) (oa ob : Option Addr) (Q : Exit → Act → World → Prop) (a0 : Act) (w0 : World)  : Obl Tryz.prog tdo_ops (tdo_S d g f A oa ob) Q a0 w0 32 :=
  obl_val (.nilCheck (.tmp 65)) none rfl (by kernel_rfl) fun a w N H D => ⟨(fun _ _ hg => by cases hg), fun _ ho => wp_nilp ho (fact_eq (c := .pointer (some ⟨g, 0, none⟩)) (D 31 (by kernel_rfl)) rfl (by kernel_rfl))⟩
theorem tdo_o33 (d g f A : Nat) (oa ob : Option Addr) (Q : Exit → Act → World → Prop) (a0 : Act) (w0 : World)  : Obl Tryz.prog tdo_ops (tdo_S d g f A oa ob) Q a0 w0 33 :=
  obl_val (.fieldAddr 148 (.tmp 66) 3) none rfl (by kernel_rfl) fun a w N H D => ⟨(fun _ _ hg => by cases hg), fun _ ho => wp_fn3 ho (fact_eq (c := .pointer (some ⟨g, 0, none⟩)) (D 32 (by kernel_rfl)) rfl (by kernel_rfl))⟩
theorem tdo_o34 (d g f A : Nat) (oa ob : Option Addr) (Q : Exit → Act → World → Prop) (a0 : Act) (w0 : World) (hg6 : w0.cell? ⟨g, 6, none⟩ = some (.pointer oa) ∧ g < w0.heap.size) : Obl Tryz.prog tdo_ops (tdo_S d g f A oa ob) Q a0 w0 34 :=
  obl_val (.load 47 (.tmp 67)) none rfl (by kernel_rfl) fun a w N H D => ⟨(fun _ _ hg => by cases hg), fun _ ho => wp_load_p ho (fact_eq (c := .pointer (some ⟨g, 6, none⟩)) (D 33 (by kernel_rfl)) rfl (by kernel_rfl)) ((H.below.cell hg6.2).trans hg6.1)⟩
theorem tdo_o35 (d g f A : Nat) (oa ob : Option Addr) (Q : Exit → Act → World → Prop) (a0 : Act) (w0 : World) (hx : ∀ W, Below w0.heap.size w0 W → Calls Tryz.prog 155 #[.pointer oa] W fun v w' => v = .returned (.int .i64 ((A : Nat) : Int)) ∧ ∃ n, w' = W.drewN n) : Obl Tryz.prog tdo_ops (tdo_S d g f A oa ob) Q a0 w0 35 :=
  obl_val (.call { callee := .value (.func 155), args := #[.tmp 68], argTypes := #[47] }) none rfl (by kernel_rfl) fun a w N H D => ⟨(fun _ _ hg => by cases hg), fun _ ho => wp_width ho (fact_eq (c := .pointer oa) (D 34 (by kernel_rfl)) rfl (by kernel_rfl)) (hx _ H.below)⟩
theorem tdo_o36 (d g f A : Nat) (oa ob : Option Addr) (Q : Exit → Act → World → Prop) (a0 : Act) (w0 : World)  : Obl Tryz.prog tdo_ops (tdo_S d g f A oa ob) Q a0 w0 36 :=
  obl_val (.binOp .add 3 (.tmp 60) (.tmp 69) 3) none rfl (by kernel_rfl) fun a w N H D => ⟨(fun _ _ hg => by cases hg), fun _ ho => wp_addi ho (fact_eq (c := .int .i64 ((f : Nat) : Int)) (D 26 (by kernel_rfl)) rfl (by kernel_rfl)) (fact_eq (c := .int .i64 ((A : Nat) : Int)) (D 35 (by kernel_rfl)) rfl (by kernel_rfl))⟩
theorem tdo_o37 (d g f A : Nat) (oa ob : Option Addr) (Q : Exit → Act → World → Prop) (a0 : Act) (w0 : World)  : Obl Tryz.prog tdo_ops (tdo_S d g f A oa ob) Q a0 w0 37 :=
  obl_val (.build 179 #[(0, .tmp 55), (1, .tmp 70)]) none rfl (by kernel_rfl) fun a w N H D => ⟨(fun _ _ hg => by cases hg), fun _ ho => wp_build_place ho (fact_eq (c := .pointer ob) (D 21 (by kernel_rfl)) rfl (by kernel_rfl)) (fact_eq (c := .int .i64 (wrap64 (((f : Nat) : Int) + ((A : Nat) : Int)))) (D 36 (by kernel_rfl)) rfl (by kernel_rfl))⟩
theorem tdo_o38 (d g f A : Nat) (oa ob : Option Addr) (Q : Exit → Act → World → Prop) (a0 : Act) (w0 : World)  : Obl Tryz.prog tdo_ops (tdo_S d g f A oa ob) Q a0 w0 38 :=
  obl_new_place rfl (by kernel_rfl)
theorem tdo_o39 (d g f A : Nat) (oa ob : Option Addr) (Q : Exit → Act → World → Prop) (a0 : Act) (w0 : World)  : Obl Tryz.prog tdo_ops (tdo_S d g f A oa ob) Q a0 w0 39 :=
  obl_new_place rfl (by kernel_rfl)
theorem tdo_o40 (d g f A : Nat) (oa ob : Option Addr) (Q : Exit → Act → World → Prop) (a0 : Act) (w0 : World)  : Obl Tryz.prog tdo_ops (tdo_S d g f A oa ob) Q a0 w0 40 :=
  obl_put_place 6 38 47 13 rfl (by kernel_rfl) (by kernel_rfl) rfl (by kernel_rfl) rfl (by kernel_rfl) (by kernel_rfl) (by kernel_rfl)
theorem tdo_o41 (d g f A : Nat) (oa ob : Option Addr) (Q : Exit → Act → World → Prop) (a0 : Act) (w0 : World)  : Obl Tryz.prog tdo_ops (tdo_S d g f A oa ob) Q a0 w0 41 :=
  obl_put_place 7 39 71 37 rfl (by kernel_rfl) (by kernel_rfl) rfl (by kernel_rfl) rfl (by kernel_rfl) (by kernel_rfl) (by kernel_rfl)
theorem tdo_all (d g f A : Nat) (oa ob : Option Addr) (Q : Exit → Act → World → Prop) (a0 : Act) (w0 : World) (hs2 : a0.tmps.getD 2 undef = .pointer (some ⟨d, 0, none⟩)) (hd0 : w0.cell? ⟨d, 0, none⟩ = some (.pointer (some ⟨g, 0, none⟩)) ∧ d < w0.heap.size) (hd1 : w0.cell? ⟨d, 1, none⟩ = some (.int .i64 ((f : Nat) : Int)) ∧ d < w0.heap.size) (hg6 : w0.cell? ⟨g, 6, none⟩ = some (.pointer oa) ∧ g < w0.heap.size) (hg7 : w0.cell? ⟨g, 7, none⟩ = some (.pointer ob) ∧ g < w0.heap.size) (hx : ∀ W, Below w0.heap.size w0 W → Calls Tryz.prog 155 #[.pointer oa] W fun v w' => v = .returned (.int .i64 ((A : Nat) : Int)) ∧ ∃ n, w' = W.drewN n) : ∀ i, i < tdo_ops.size → Obl Tryz.prog tdo_ops (tdo_S d g f A oa ob) Q a0 w0 i := by
  intro i hi_
  have hs : tdo_ops.size = 42 := by kernel_rfl
  rw [hs] at hi_
  clear hs
  match i, hi_ with
  | 0, _ => exact tdo_o0 d g f A oa ob  Q a0 w0 hs2
  | 1, _ => exact tdo_o1 d g f A oa ob  Q a0 w0 
  | 2, _ => exact tdo_o2 d g f A oa ob  Q a0 w0 
  | 3, _ => exact tdo_o3 d g f A oa ob  Q a0 w0 
  | 4, _ => exact tdo_o4 d g f A oa ob  Q a0 w0 hd0
  | 5, _ => exact tdo_o5 d g f A oa ob  Q a0 w0 
  | 6, _ => exact tdo_o6 d g f A oa ob  Q a0 w0 
  | 7, _ => exact tdo_o7 d g f A oa ob  Q a0 w0 hg6
  | 8, _ => exact tdo_o8 d g f A oa ob  Q a0 w0 hs2
  | 9, _ => exact tdo_o9 d g f A oa ob  Q a0 w0 
  | 10, _ => exact tdo_o10 d g f A oa ob  Q a0 w0 
  | 11, _ => exact tdo_o11 d g f A oa ob  Q a0 w0 
  | 12, _ => exact tdo_o12 d g f A oa ob  Q a0 w0 hd1
  | 13, _ => exact tdo_o13 d g f A oa ob  Q a0 w0 
  | 14, _ => exact tdo_o14 d g f A oa ob  Q a0 w0 hs2
  | 15, _ => exact tdo_o15 d g f A oa ob  Q a0 w0 
  | 16, _ => exact tdo_o16 d g f A oa ob  Q a0 w0 
  | 17, _ => exact tdo_o17 d g f A oa ob  Q a0 w0 
  | 18, _ => exact tdo_o18 d g f A oa ob  Q a0 w0 hd0
  | 19, _ => exact tdo_o19 d g f A oa ob  Q a0 w0 
  | 20, _ => exact tdo_o20 d g f A oa ob  Q a0 w0 
  | 21, _ => exact tdo_o21 d g f A oa ob  Q a0 w0 hg7
  | 22, _ => exact tdo_o22 d g f A oa ob  Q a0 w0 hs2
  | 23, _ => exact tdo_o23 d g f A oa ob  Q a0 w0 
  | 24, _ => exact tdo_o24 d g f A oa ob  Q a0 w0 
  | 25, _ => exact tdo_o25 d g f A oa ob  Q a0 w0 
  | 26, _ => exact tdo_o26 d g f A oa ob  Q a0 w0 hd1
  | 27, _ => exact tdo_o27 d g f A oa ob  Q a0 w0 hs2
  | 28, _ => exact tdo_o28 d g f A oa ob  Q a0 w0 
  | 29, _ => exact tdo_o29 d g f A oa ob  Q a0 w0 
  | 30, _ => exact tdo_o30 d g f A oa ob  Q a0 w0 
  | 31, _ => exact tdo_o31 d g f A oa ob  Q a0 w0 hd0
  | 32, _ => exact tdo_o32 d g f A oa ob  Q a0 w0 
  | 33, _ => exact tdo_o33 d g f A oa ob  Q a0 w0 
  | 34, _ => exact tdo_o34 d g f A oa ob  Q a0 w0 hg6
  | 35, _ => exact tdo_o35 d g f A oa ob  Q a0 w0 hx
  | 36, _ => exact tdo_o36 d g f A oa ob  Q a0 w0 
  | 37, _ => exact tdo_o37 d g f A oa ob  Q a0 w0 
  | 38, _ => exact tdo_o38 d g f A oa ob  Q a0 w0 
  | 39, _ => exact tdo_o39 d g f A oa ob  Q a0 w0 
  | 40, _ => exact tdo_o40 d g f A oa ob  Q a0 w0 
  | 41, _ => exact tdo_o41 d g f A oa ob  Q a0 w0 
  | i + 42, h => exact absurd h (by omega)
end Go.Proofs.YtpiimcbbgalhfaaGreatDoor
/- Traces: do, a case a kind of node. -/
namespace Go.Proofs.YtpiimcbbgalhfaaGreatDoor
open Go.RowKit
theorem fact_put' {ops : Array Oper} {S : List RK} {a : Act} {w : World} {N : Nat → Prop} {i p s : Nat} {cs : List Value} {t : TypeId} {n : Nat} (h : Fact ops S i a w N) (hs : specOf S i = RK.put p cs) (hp : specOf S p = RK.new t n) (hd : dstOf ops p = some s) :
    ∃ b, a.tmps.getD s undef = .pointer (some ⟨b, 0, none⟩) ∧ ¬N b ∧ Blk w b t cs := by
  unfold Fact at h
  rw [hs] at h
  simp only [RK.put] at h
  obtain ⟨b, hb, hn, hblk⟩ := h
  rw [hp] at hblk
  unfold valOf at hb
  rw [hd] at hb
  exact ⟨b, hb, hn, hblk⟩
set_option maxRecDepth 100000 in
set_option maxHeartbeats 8000000 in
theorem tdo_empty {w0 w : World} {fb : Nat} {s : ByteArray} {limit : Nat} {T : Td} {lv bv : Value} {cs : List Value} (h : TraAt w0 w fb s limit T lv bv cs) {f pos d g : Nat} {rest : List It} {v : Value}
    (hSd : SX fb lv bv d) (hbd : Blk w d 181 [cptr g, .int .i64 ((f : Nat) : Int), .bool false, .int .i64 ((0 : Nat) : Int), v]) (hc : CoreAt w (SX fb lv bv) (CT.empty) g) (hv : TodoAt 181 w (SX fb lv bv) rest v)
    (hlen : T.back.length + 1 ≤ 1000000000) (hll : T.l.length + 1 ≤ 1000000000) (hs : s.size ≤ 1000000000) (hl : limit ≤ 1000000000) (hp : pos ≤ s.size) (hsm : f + placesC (CT.empty) ≤ 1000000000) :
    Calls Tryz.prog 106 #[.pointer (some ⟨fb, 0, none⟩), .int .i64 ((pos : Nat) : Int), cptr d] w fun e w' => (∃ r, e = .returned r) ∧ TraIs w0 w w' fb s limit (T.later [⟨pos, rest⟩]) lv bv := by
  obtain ⟨vo, rfl, -⟩ := hv.form
  have d2 : w.cell? ⟨d, 2, none⟩ = some (.bool false) := hbd.cell 2
  have dl := hbd.lt
  have H := Lib.hid h
  have HV := Lib.hid hv
  have HD := Lib.hid (And.intro hSd hbd)
  have HN := Lib.hid hlen
  have HSZ := Lib.hid (And.intro hll (And.intro hs (And.intro hl hp)))
  obtain ⟨hSg, hbg⟩ := hc
  have HG := Lib.hid (And.intro hSg hbg)
  have HW := Lib.hid (fun W (_ : Below w.heap.size w W) => width_nil W)
  simp only [placesC] at hsm
  clear hSg hbg
  clear h hv hSd hbd hlen hll hs hl hp
  go_enter Tryz.func106, Tryz.ntmps106
  go_upto_region 5 with fail
  refine region_named (ops' := tdo_ops) (by kernel_rfl) (tdo_S d g f 0 none none) 150 rfl (by kernel_rfl) (by kernel_rfl) (tdo_all d g f 0 none none _ _ _ rfl ⟨HD.out.2.cell 0, dl⟩ ⟨HD.out.2.cell 1, dl⟩ ⟨HG.out.2.cell 6, HG.out.2.lt⟩ ⟨HG.out.2.cell 7, HG.out.2.lt⟩ (fun W hW => HW.out W ((Below.refl _ w).drew.trans hW))) ?_
  rename_i hKK
  intro a w4 N H1 hF
  obtain ⟨na, q6, hna, hba⟩ : ∃ b, a.tmps.getD 6 undef = .pointer (some ⟨b, 0, none⟩) ∧ ¬N b ∧ Blk w4 b 179 [.pointer none, .int .i64 ((f : Nat) : Int)] := fact_put' (hF 40 (by kernel_rfl)) rfl rfl (by kernel_rfl)
  obtain ⟨nb, q7, hnb, hbb⟩ : ∃ b, a.tmps.getD 7 undef = .pointer (some ⟨b, 0, none⟩) ∧ ¬N b ∧ Blk w4 b 179 [.pointer none, .int .i64 (wrap64 (((f : Nat) : Int) + ((0 : Nat) : Int)))] := fact_put' (hF 41 (by kernel_rfl)) rfl rfl (by kernel_rfl)
  have hna1 : w.heap.size ≤ na := Nat.le_of_not_lt fun e => hna (H1.old na e)
  have hnb1 : w.heap.size ≤ nb := Nat.le_of_not_lt fun e => hnb (H1.old nb e)
  rw [show wrap64 (((f : Nat) : Int) + ((0 : Nat) : Int)) = ((f : Nat) : Int) + ((0 : Nat) : Int) from by unfold wrap64; omega] at hbb
  have HB4 := Lib.hid (show Below w.heap.size w w4 from (Below.refl _ w).drew.trans H1.below)
  refine hKK _ _ ?_
  rw [held_frame H1 [6, 7, 34, 35, 36, 37, 38, 39, 40, 41, 42, 43, 44, 45, 46, 47, 48, 49, 50, 51, 52, 53, 54, 55, 56, 57, 58, 59, 60, 61, 62, 63, 64, 65, 66, 67, 68, 69, 70, 71] (by kernel_rfl)]
  simp only [putAll, List.map_cons, List.map_nil, List.foldl_cons, List.foldl_nil, List.setIfInBounds_toArray, List.set_cons_zero, List.set_cons_succ, q6, q7]
  generalize a.tmps.getD 34 undef = z34
  generalize a.tmps.getD 35 undef = z35
  generalize a.tmps.getD 36 undef = z36
  generalize a.tmps.getD 37 undef = z37
  generalize a.tmps.getD 38 undef = z38
  generalize a.tmps.getD 39 undef = z39
  generalize a.tmps.getD 40 undef = z40
  generalize a.tmps.getD 41 undef = z41
  generalize a.tmps.getD 42 undef = z42
  generalize a.tmps.getD 43 undef = z43
  generalize a.tmps.getD 44 undef = z44
  generalize a.tmps.getD 45 undef = z45
  generalize a.tmps.getD 46 undef = z46
  generalize a.tmps.getD 47 undef = z47
  generalize a.tmps.getD 48 undef = z48
  generalize a.tmps.getD 49 undef = z49
  generalize a.tmps.getD 50 undef = z50
  generalize a.tmps.getD 51 undef = z51
  generalize a.tmps.getD 52 undef = z52
  generalize a.tmps.getD 53 undef = z53
  generalize a.tmps.getD 54 undef = z54
  generalize a.tmps.getD 55 undef = z55
  generalize a.tmps.getD 56 undef = z56
  generalize a.tmps.getD 57 undef = z57
  generalize a.tmps.getD 58 undef = z58
  generalize a.tmps.getD 59 undef = z59
  generalize a.tmps.getD 60 undef = z60
  generalize a.tmps.getD 61 undef = z61
  generalize a.tmps.getD 62 undef = z62
  generalize a.tmps.getD 63 undef = z63
  generalize a.tmps.getD 64 undef = z64
  generalize a.tmps.getD 65 undef = z65
  generalize a.tmps.getD 66 undef = z66
  generalize a.tmps.getD 67 undef = z67
  generalize a.tmps.getD 68 undef = z68
  generalize a.tmps.getD 69 undef = z69
  generalize a.tmps.getD 70 undef = z70
  generalize a.tmps.getD 71 undef = z71
  clear hF H1 q6 q7 hna hnb hKK
  have HSA := Lib.hid (H.out.new hna1)
  have HSB := Lib.hid (H.out.new hnb1)
  have HSD := Lib.hid HD.out.1
  have a0 := hba.cell 0
  have a1 := hba.cell 1
  have al := hba.lt
  have b0 := hbb.cell 0
  have b1 := hbb.cell 1
  have bl := hbb.lt
  simp only [List.getElem?_cons_zero, List.getElem?_cons_succ] at a0 a1 b0 b1
  have hbd4 := HD.out.2.below HB4.out HD.out.2.lt
  have d0 : w4.cell? ⟨d, 0, none⟩ = some (cptr g) := hbd4.cell 0
  have d1 : w4.cell? ⟨d, 1, none⟩ = some (.int .i64 ((f : Nat) : Int)) := hbd4.cell 1
  have d4 : w4.cell? ⟨d, 4, none⟩ = some (.pointer vo) := hbd4.cell 4
  clear dl d2
  have dl := hbd4.lt
  have hbg4 := HG.out.2.below HB4.out HG.out.2.lt
  have k0 : w4.cell? ⟨g, 0, none⟩ = some (.int .i64 0) := hbg4.cell 0
  have hgl := hbg4.lt
  have HK4 := Lib.hid (Keep.below (S := SX fb lv bv) HB4.out)
  have HF4 := Lib.hid (H.out.under HB4.out)
  have HV4 := Lib.hid (HV.out.keep HK4.out)
  clear hba hbb hna1 hnb1 hbd4 hbg4 HW
  go_wp2_with fail
  have HK11 := Lib.hid HK4.out
  have hF11 := HF4.out
  have HPU := Lib.hid (later_at (p := ⟨pos, rest⟩) hF11 HV4.out (by have := HN.out; omega))
  clear hF11 hsm
  refine HPU.out.mono ?_
  rintro e w12 ⟨⟨r12, rfl⟩, lv12, bv12, cs12, hF12, hK12⟩
  have HF12 := Lib.hid hF12
  have HK12 := Lib.hid hK12
  clear hF12 hK12 HPU a0 a1 al b0 b1 bl d0 d1 d4 dl k0 hgl
  all_goals
    go_wp2
    go_returns
    exact ⟨⟨_, rfl⟩, _, _, _, HF12.out, HK11.out.trans HK12.out⟩
set_option maxRecDepth 100000 in
set_option maxHeartbeats 8000000 in
theorem tdo_set {w0 w : World} {fb : Nat} {s : ByteArray} {limit : Nat} {T : Td} {lv bv : Value} {cs : List Value} (h : TraAt w0 w fb s limit T lv bv cs) {m : Nat → Bool} {f pos d g : Nat} {rest : List It} {v : Value}
    (hSd : SX fb lv bv d) (hbd : Blk w d 181 [cptr g, .int .i64 ((f : Nat) : Int), .bool false, .int .i64 ((0 : Nat) : Int), v]) (hc : CoreAt w (SX fb lv bv) (CT.set m) g) (hv : TodoAt 181 w (SX fb lv bv) rest v)
    (hlen : T.back.length + 1 ≤ 1000000000) (hll : T.l.length + 1 ≤ 1000000000) (hs : s.size ≤ 1000000000) (hl : limit ≤ 1000000000) (hp : pos ≤ s.size) (hsm : f + placesC (CT.set m) ≤ 1000000000) :
    Calls Tryz.prog 106 #[.pointer (some ⟨fb, 0, none⟩), .int .i64 ((pos : Nat) : Int), cptr d] w fun e w' => (∃ r, e = .returned r) ∧ TraIs w0 w w' fb s limit (readT s.data.toList limit m f pos rest T) lv bv := by
  obtain ⟨vo, rfl, -⟩ := hv.form
  have d2 : w.cell? ⟨d, 2, none⟩ = some (.bool false) := hbd.cell 2
  have dl := hbd.lt
  have H := Lib.hid h
  have HV := Lib.hid hv
  have HD := Lib.hid (And.intro hSd hbd)
  have HN := Lib.hid hlen
  have HSZ := Lib.hid (And.intro hll (And.intro hs (And.intro hl hp)))
  have HCR := Lib.hid hc
  obtain ⟨hSg, hbg⟩ := hc
  have HG := Lib.hid (And.intro hSg hbg)
  have HW := Lib.hid (fun W (_ : Below w.heap.size w W) => width_nil W)
  simp only [placesC] at hsm
  clear hSg hbg
  clear h hv hSd hbd hlen hll hs hl hp
  go_enter Tryz.func106, Tryz.ntmps106
  go_upto_region 5 with fail
  refine region_named (ops' := tdo_ops) (by kernel_rfl) (tdo_S d g f 0 none none) 150 rfl (by kernel_rfl) (by kernel_rfl) (tdo_all d g f 0 none none _ _ _ rfl ⟨HD.out.2.cell 0, dl⟩ ⟨HD.out.2.cell 1, dl⟩ ⟨HG.out.2.cell 6, HG.out.2.lt⟩ ⟨HG.out.2.cell 7, HG.out.2.lt⟩ (fun W hW => HW.out W ((Below.refl _ w).drew.trans hW))) ?_
  rename_i hKK
  intro a w4 N H1 hF
  obtain ⟨na, q6, hna, hba⟩ : ∃ b, a.tmps.getD 6 undef = .pointer (some ⟨b, 0, none⟩) ∧ ¬N b ∧ Blk w4 b 179 [.pointer none, .int .i64 ((f : Nat) : Int)] := fact_put' (hF 40 (by kernel_rfl)) rfl rfl (by kernel_rfl)
  obtain ⟨nb, q7, hnb, hbb⟩ : ∃ b, a.tmps.getD 7 undef = .pointer (some ⟨b, 0, none⟩) ∧ ¬N b ∧ Blk w4 b 179 [.pointer none, .int .i64 (wrap64 (((f : Nat) : Int) + ((0 : Nat) : Int)))] := fact_put' (hF 41 (by kernel_rfl)) rfl rfl (by kernel_rfl)
  have hna1 : w.heap.size ≤ na := Nat.le_of_not_lt fun e => hna (H1.old na e)
  have hnb1 : w.heap.size ≤ nb := Nat.le_of_not_lt fun e => hnb (H1.old nb e)
  rw [show wrap64 (((f : Nat) : Int) + ((0 : Nat) : Int)) = ((f : Nat) : Int) + ((0 : Nat) : Int) from by unfold wrap64; omega] at hbb
  have HB4 := Lib.hid (show Below w.heap.size w w4 from (Below.refl _ w).drew.trans H1.below)
  refine hKK _ _ ?_
  rw [held_frame H1 [6, 7, 34, 35, 36, 37, 38, 39, 40, 41, 42, 43, 44, 45, 46, 47, 48, 49, 50, 51, 52, 53, 54, 55, 56, 57, 58, 59, 60, 61, 62, 63, 64, 65, 66, 67, 68, 69, 70, 71] (by kernel_rfl)]
  simp only [putAll, List.map_cons, List.map_nil, List.foldl_cons, List.foldl_nil, List.setIfInBounds_toArray, List.set_cons_zero, List.set_cons_succ, q6, q7]
  generalize a.tmps.getD 34 undef = z34
  generalize a.tmps.getD 35 undef = z35
  generalize a.tmps.getD 36 undef = z36
  generalize a.tmps.getD 37 undef = z37
  generalize a.tmps.getD 38 undef = z38
  generalize a.tmps.getD 39 undef = z39
  generalize a.tmps.getD 40 undef = z40
  generalize a.tmps.getD 41 undef = z41
  generalize a.tmps.getD 42 undef = z42
  generalize a.tmps.getD 43 undef = z43
  generalize a.tmps.getD 44 undef = z44
  generalize a.tmps.getD 45 undef = z45
  generalize a.tmps.getD 46 undef = z46
  generalize a.tmps.getD 47 undef = z47
  generalize a.tmps.getD 48 undef = z48
  generalize a.tmps.getD 49 undef = z49
  generalize a.tmps.getD 50 undef = z50
  generalize a.tmps.getD 51 undef = z51
  generalize a.tmps.getD 52 undef = z52
  generalize a.tmps.getD 53 undef = z53
  generalize a.tmps.getD 54 undef = z54
  generalize a.tmps.getD 55 undef = z55
  generalize a.tmps.getD 56 undef = z56
  generalize a.tmps.getD 57 undef = z57
  generalize a.tmps.getD 58 undef = z58
  generalize a.tmps.getD 59 undef = z59
  generalize a.tmps.getD 60 undef = z60
  generalize a.tmps.getD 61 undef = z61
  generalize a.tmps.getD 62 undef = z62
  generalize a.tmps.getD 63 undef = z63
  generalize a.tmps.getD 64 undef = z64
  generalize a.tmps.getD 65 undef = z65
  generalize a.tmps.getD 66 undef = z66
  generalize a.tmps.getD 67 undef = z67
  generalize a.tmps.getD 68 undef = z68
  generalize a.tmps.getD 69 undef = z69
  generalize a.tmps.getD 70 undef = z70
  generalize a.tmps.getD 71 undef = z71
  clear hF H1 q6 q7 hna hnb hKK
  have HSA := Lib.hid (H.out.new hna1)
  have HSB := Lib.hid (H.out.new hnb1)
  have HSD := Lib.hid HD.out.1
  have a0 := hba.cell 0
  have a1 := hba.cell 1
  have al := hba.lt
  have b0 := hbb.cell 0
  have b1 := hbb.cell 1
  have bl := hbb.lt
  simp only [List.getElem?_cons_zero, List.getElem?_cons_succ] at a0 a1 b0 b1
  have hbd4 := HD.out.2.below HB4.out HD.out.2.lt
  have d0 : w4.cell? ⟨d, 0, none⟩ = some (cptr g) := hbd4.cell 0
  have d1 : w4.cell? ⟨d, 1, none⟩ = some (.int .i64 ((f : Nat) : Int)) := hbd4.cell 1
  have d4 : w4.cell? ⟨d, 4, none⟩ = some (.pointer vo) := hbd4.cell 4
  clear dl d2
  have dl := hbd4.lt
  have hbg4 := HG.out.2.below HB4.out HG.out.2.lt
  have k0 : w4.cell? ⟨g, 0, none⟩ = some (.int .i64 1) := hbg4.cell 0
  have hgl := hbg4.lt
  have HK4 := Lib.hid (Keep.below (S := SX fb lv bv) HB4.out)
  have HF4 := Lib.hid (H.out.under HB4.out)
  have HV4 := Lib.hid (HV.out.keep HK4.out)
  clear hba hbb hna1 hnb1 hbd4 hbg4 HW
  go_wp2_with fail
  have hb11 : Below w4.heap.size w4 w4.drew := (Below.refl _ w4).drew
  have HB11 := Lib.hid hb11
  have HK11 := Lib.hid (HK4.out.trans (Keep.below (S := SX fb lv bv) hb11))
  have hF11 := HF4.out.under hb11
  clear hb11
  have HPU := Lib.hid (tread_at (pos := pos) (f := f) hF11 ((HCR.out.keep HK4.out).keep (Keep.below (S := SX fb lv bv) HB11.out)) (HV4.out.keep (Keep.below (S := SX fb lv bv) HB11.out)) (by have := HN.out; omega) HSZ.out.1 HSZ.out.2.1 HSZ.out.2.2.1 HSZ.out.2.2.2)
  clear hF11 hsm
  go_region_held3 (fun xw => xw.cell? ⟨d, 0, none⟩ = some (cptr g) ∧ xw.cell? ⟨d, 1, none⟩ = some (.int .i64 ((f : Nat) : Int)) ∧ xw.cell? ⟨d, 4, none⟩ = some (.pointer vo)) (go_keep)
    (first | (go_at_call 156; refine HPU.out.mono ?_; rintro e w12 ⟨⟨r12, rfl⟩, lv12, bv12, cs12, hF12, hK12⟩; have HF12 := Lib.hid hF12; have HK12 := Lib.hid hK12; have z_d0 := hK12.cell HSD.out (Nat.lt_of_lt_of_le dl HB11.out.size) ((HB11.out.cell (p := ⟨d, 0, none⟩) dl).trans d0); have z_d1 := hK12.cell HSD.out (Nat.lt_of_lt_of_le dl HB11.out.size) ((HB11.out.cell (p := ⟨d, 1, none⟩) dl).trans d1); have z_d4 := hK12.cell HSD.out (Nat.lt_of_lt_of_le dl HB11.out.size) ((HB11.out.cell (p := ⟨d, 4, none⟩) dl).trans d4); clear hF12 hK12))
  all_goals
    go_wp2
    go_returns
    exact ⟨⟨_, rfl⟩, _, _, _, HF12.out, HK11.out.trans HK12.out⟩
set_option maxRecDepth 100000 in
set_option maxHeartbeats 8000000 in
theorem tdo_star {w0 w : World} {fb : Nat} {s : ByteArray} {limit : Nat} {T : Td} {lv bv : Value} {cs : List Value} (h : TraAt w0 w fb s limit T lv bv cs) {z : Bool} {x : CT} {f pos d g : Nat} {rest : List It} {v : Value}
    (hSd : SX fb lv bv d) (hbd : Blk w d 181 [cptr g, .int .i64 ((f : Nat) : Int), .bool false, .int .i64 ((0 : Nat) : Int), v]) (hc : CoreAt w (SX fb lv bv) (CT.star z x) g) (hv : TodoAt 181 w (SX fb lv bv) rest v)
    (hlen : T.back.length + 1 ≤ 1000000000) (hll : T.l.length + 1 ≤ 1000000000) (hs : s.size ≤ 1000000000) (hl : limit ≤ 1000000000) (hp : pos ≤ s.size) (hsm : f + placesC (CT.star z x) ≤ 1000000000) :
    Calls Tryz.prog 106 #[.pointer (some ⟨fb, 0, none⟩), .int .i64 ((pos : Nat) : Int), cptr d] w fun e w' => (∃ r, e = .returned r) ∧ TraIs w0 w w' fb s limit (T.later (starB z x f pos rest)) lv bv := by
  obtain ⟨vo, rfl, -⟩ := hv.form
  have d2 : w.cell? ⟨d, 2, none⟩ = some (.bool false) := hbd.cell 2
  have dl := hbd.lt
  have H := Lib.hid h
  have HV := Lib.hid hv
  have HD := Lib.hid (And.intro hSd hbd)
  have HN := Lib.hid hlen
  have HSZ := Lib.hid (And.intro hll (And.intro hs (And.intro hl hp)))
  obtain ⟨hSg, pa, hbg, hx⟩ := hc
  have HCR := Lib.hid (show CoreAt w (SX fb lv bv) (.star z x) g from ⟨hSg, pa, hbg, hx⟩)
  simp only [placesC] at hsm
  have HG := Lib.hid (And.intro hSg hbg)
  have HW := Lib.hid (fun W (hW : Below w.heap.size w W) => width_at x (hx.under hW) (by omega))
  clear hSg hbg hx
  clear h hv hSd hbd hlen hll hs hl hp
  go_enter Tryz.func106, Tryz.ntmps106
  go_upto_region 5 with fail
  refine region_named (ops' := tdo_ops) (by kernel_rfl) (tdo_S d g f (placesC x) (some ⟨pa, 0, none⟩) none) 150 rfl (by kernel_rfl) (by kernel_rfl) (tdo_all d g f (placesC x) (some ⟨pa, 0, none⟩) none _ _ _ rfl ⟨HD.out.2.cell 0, dl⟩ ⟨HD.out.2.cell 1, dl⟩ ⟨HG.out.2.cell 6, HG.out.2.lt⟩ ⟨HG.out.2.cell 7, HG.out.2.lt⟩ (fun W hW => HW.out W ((Below.refl _ w).drew.trans hW))) ?_
  rename_i hKK
  intro a w4 N H1 hF
  obtain ⟨na, q6, hna, hba⟩ : ∃ b, a.tmps.getD 6 undef = .pointer (some ⟨b, 0, none⟩) ∧ ¬N b ∧ Blk w4 b 179 [cptr pa, .int .i64 ((f : Nat) : Int)] := fact_put' (hF 40 (by kernel_rfl)) rfl rfl (by kernel_rfl)
  obtain ⟨nb, q7, hnb, hbb⟩ : ∃ b, a.tmps.getD 7 undef = .pointer (some ⟨b, 0, none⟩) ∧ ¬N b ∧ Blk w4 b 179 [.pointer none, .int .i64 (wrap64 (((f : Nat) : Int) + (((placesC x) : Nat) : Int)))] := fact_put' (hF 41 (by kernel_rfl)) rfl rfl (by kernel_rfl)
  have hna1 : w.heap.size ≤ na := Nat.le_of_not_lt fun e => hna (H1.old na e)
  have hnb1 : w.heap.size ≤ nb := Nat.le_of_not_lt fun e => hnb (H1.old nb e)
  rw [show wrap64 (((f : Nat) : Int) + (((placesC x) : Nat) : Int)) = ((f : Nat) : Int) + (((placesC x) : Nat) : Int) from by unfold wrap64; omega] at hbb
  have HB4 := Lib.hid (show Below w.heap.size w w4 from (Below.refl _ w).drew.trans H1.below)
  refine hKK _ _ ?_
  rw [held_frame H1 [6, 7, 34, 35, 36, 37, 38, 39, 40, 41, 42, 43, 44, 45, 46, 47, 48, 49, 50, 51, 52, 53, 54, 55, 56, 57, 58, 59, 60, 61, 62, 63, 64, 65, 66, 67, 68, 69, 70, 71] (by kernel_rfl)]
  simp only [putAll, List.map_cons, List.map_nil, List.foldl_cons, List.foldl_nil, List.setIfInBounds_toArray, List.set_cons_zero, List.set_cons_succ, q6, q7]
  generalize a.tmps.getD 34 undef = z34
  generalize a.tmps.getD 35 undef = z35
  generalize a.tmps.getD 36 undef = z36
  generalize a.tmps.getD 37 undef = z37
  generalize a.tmps.getD 38 undef = z38
  generalize a.tmps.getD 39 undef = z39
  generalize a.tmps.getD 40 undef = z40
  generalize a.tmps.getD 41 undef = z41
  generalize a.tmps.getD 42 undef = z42
  generalize a.tmps.getD 43 undef = z43
  generalize a.tmps.getD 44 undef = z44
  generalize a.tmps.getD 45 undef = z45
  generalize a.tmps.getD 46 undef = z46
  generalize a.tmps.getD 47 undef = z47
  generalize a.tmps.getD 48 undef = z48
  generalize a.tmps.getD 49 undef = z49
  generalize a.tmps.getD 50 undef = z50
  generalize a.tmps.getD 51 undef = z51
  generalize a.tmps.getD 52 undef = z52
  generalize a.tmps.getD 53 undef = z53
  generalize a.tmps.getD 54 undef = z54
  generalize a.tmps.getD 55 undef = z55
  generalize a.tmps.getD 56 undef = z56
  generalize a.tmps.getD 57 undef = z57
  generalize a.tmps.getD 58 undef = z58
  generalize a.tmps.getD 59 undef = z59
  generalize a.tmps.getD 60 undef = z60
  generalize a.tmps.getD 61 undef = z61
  generalize a.tmps.getD 62 undef = z62
  generalize a.tmps.getD 63 undef = z63
  generalize a.tmps.getD 64 undef = z64
  generalize a.tmps.getD 65 undef = z65
  generalize a.tmps.getD 66 undef = z66
  generalize a.tmps.getD 67 undef = z67
  generalize a.tmps.getD 68 undef = z68
  generalize a.tmps.getD 69 undef = z69
  generalize a.tmps.getD 70 undef = z70
  generalize a.tmps.getD 71 undef = z71
  clear hF H1 q6 q7 hna hnb hKK
  have HSA := Lib.hid (H.out.new hna1)
  have HSB := Lib.hid (H.out.new hnb1)
  have HSD := Lib.hid HD.out.1
  have a0 := hba.cell 0
  have a1 := hba.cell 1
  have al := hba.lt
  have b0 := hbb.cell 0
  have b1 := hbb.cell 1
  have bl := hbb.lt
  simp only [List.getElem?_cons_zero, List.getElem?_cons_succ] at a0 a1 b0 b1
  have hbd4 := HD.out.2.below HB4.out HD.out.2.lt
  have d0 : w4.cell? ⟨d, 0, none⟩ = some (cptr g) := hbd4.cell 0
  have d1 : w4.cell? ⟨d, 1, none⟩ = some (.int .i64 ((f : Nat) : Int)) := hbd4.cell 1
  have d4 : w4.cell? ⟨d, 4, none⟩ = some (.pointer vo) := hbd4.cell 4
  clear dl d2
  have dl := hbd4.lt
  have hbg4 := HG.out.2.below HB4.out HG.out.2.lt
  have k0 : w4.cell? ⟨g, 0, none⟩ = some (.int .i64 4) := hbg4.cell 0
  have hgl := hbg4.lt
  have HK4 := Lib.hid (Keep.below (S := SX fb lv bv) HB4.out)
  have HF4 := Lib.hid (H.out.under HB4.out)
  have HV4 := Lib.hid (HV.out.keep HK4.out)
  clear hba hbb hna1 hnb1 hbd4 hbg4 HW
  go_wp2_with fail
  have hb11 : Below w4.heap.size w4 w4.drew := (Below.refl _ w4).drew
  have HB11 := Lib.hid hb11
  have HK11 := Lib.hid (HK4.out.trans (Keep.below (S := SX fb lv bv) hb11))
  have hF11 := HF4.out.under hb11
  clear hb11
  have HPU := Lib.hid (tstar_at (pos := pos) (f := f) hF11 ((HCR.out.keep HK4.out).keep (Keep.below (S := SX fb lv bv) HB11.out)) (HV4.out.keep (Keep.below (S := SX fb lv bv) HB11.out)) HN.out)
  clear hF11 hsm
  go_region_held3 (fun xw => xw.cell? ⟨d, 0, none⟩ = some (cptr g) ∧ xw.cell? ⟨d, 1, none⟩ = some (.int .i64 ((f : Nat) : Int)) ∧ xw.cell? ⟨d, 4, none⟩ = some (.pointer vo)) (go_keep)
    (first | (go_at_call 154; refine HPU.out.mono ?_; rintro e w12 ⟨⟨r12, rfl⟩, lv12, bv12, cs12, hF12, hK12⟩; have HF12 := Lib.hid hF12; have HK12 := Lib.hid hK12; have z_d0 := hK12.cell HSD.out (Nat.lt_of_lt_of_le dl HB11.out.size) ((HB11.out.cell (p := ⟨d, 0, none⟩) dl).trans d0); have z_d1 := hK12.cell HSD.out (Nat.lt_of_lt_of_le dl HB11.out.size) ((HB11.out.cell (p := ⟨d, 1, none⟩) dl).trans d1); have z_d4 := hK12.cell HSD.out (Nat.lt_of_lt_of_le dl HB11.out.size) ((HB11.out.cell (p := ⟨d, 4, none⟩) dl).trans d4); clear hF12 hK12))
  all_goals
    go_wp2
    go_returns
    exact ⟨⟨_, rfl⟩, _, _, _, HF12.out, HK11.out.trans HK12.out⟩
end Go.Proofs.YtpiimcbbgalhfaaGreatDoor
