/- Operations of split's region: a mark made, laid in a new variable; a number of an array. -/
import Derived.Test.YtanimknpnniabaaDoorOps
import Derived.Test.YtanimknpnniabaaDoorMark
namespace Go.Proofs.YtanimknpnniabaaDoor
open Go.RowKit
section
variable {ops : Array Oper} {S : List RK} {Q : Exit → Act → World → Prop} {a0 : Act} {w0 : World} {a : Act} {w : World} {N : Nat → Prop}
theorem obl_new_mark {i : Nat} (hs : specOf S i = RK.new 74 2) (hop : (ops[i]?).map (fun o => (o.op, o.guard)) = some (.alloc 74, none)) : Obl Tryd.prog ops S Q a0 w0 i := by
  intro a w N H D
  cases ho : ops[i]? with
  | none => rw [ho] at hop; cases hop
  | some o =>
    rw [ho] at hop
    simp only [Option.map_some, Option.some.injEq, Prod.mk.injEq] at hop
    have hdst : dstOf ops i = o.dst := by unfold dstOf; rw [ho]; rfl
    unfold wpOp
    simp only [ho]
    rw [if_pos (by unfold Region.wanted; rw [hop.2])]
    left
    refine wp_of_run (v := .pointer (some ⟨w.heap.size, 0, none⟩)) (w' := w.alloc (.cells [Value.int .i64 0, .bool false].toArray 74)) (by simp [execOp, hop.1, go_sem]) ?_
    refine ⟨_, by rw [hdst], ?_⟩
    unfold Does
    rw [hs]
    exact ⟨_, rfl, rfl, rfl⟩
theorem wp_build_mark {o : Oper} {x y : Operand} {p : Int} {q : Bool} (ho : o.op = .build 74 #[(0, x), (1, y)]) (hx : a.eval x = .int .i64 p) (hy : a.eval y = .bool q) :
    o.wp Tryd.prog a w (fun a' w' => ∃ u, a' = a.put o.dst u ∧ Below w.heap.size w w' ∧ ∀ N' : Nat → Prop, (∀ k, k < w.heap.size → N k → N' k) → (∀ k, w.heap.size ≤ k → N' k) → (RG.eq (.agg #[.int .i64 p, .bool q])).g u w' N') Q := by
  refine wp_quiet ?_
  simp only [execOp, ho, List.map_toArray, List.map_cons, List.map_nil, hx, hy]
  simp [go_sem]
theorem wp_index256 {o : Oper} {x y : Operand} {b : Nat} {j : Int} (ho : o.op = .indexAddr 58 x y) (hx : a.eval x = .pointer (some ⟨b, 0, none⟩)) (hy : a.eval y = .int .i64 j) (h0 : 0 ≤ j) (h1 : j < 256) :
    o.wp Tryd.prog a w (fun a' w' => ∃ u, a' = a.put o.dst u ∧ Below w.heap.size w w' ∧ ∀ N' : Nat → Prop, (∀ k, k < w.heap.size → N k → N' k) → (∀ k, w.heap.size ≤ k → N' k) → (RG.eq (.pointer (some ((⟨b, 0, none⟩ : Addr).add j.toNat)))).g u w' N') Q := by
  refine wp_quiet ?_
  simp only [execOp, ho, hx, hy]
  simp [go_sem, h0, h1]
theorem wp_load_int {o : Oper} {x : Operand} {p : Addr} {b : Int} (ho : o.op = .load 3 x) (hx : a.eval x = .pointer (some p)) (hc : w.cell? p = some (.int .i64 b)) :
    o.wp Tryd.prog a w (fun a' w' => ∃ u, a' = a.put o.dst u ∧ Below w.heap.size w w' ∧ ∀ N' : Nat → Prop, (∀ k, k < w.heap.size → N k → N' k) → (∀ k, w.heap.size ≤ k → N' k) → (RG.eq (.int .i64 b)).g u w' N') Q := by
  refine wp_quiet ?_
  simp only [execOp, ho, hx]
  simp [go_sem, hc]
theorem obl_put_mark {i : Nat} {p : Int} {q : Bool} (s pi x j : Nat) (hs : specOf S i = RK.put pi [.int .i64 p, .bool q]) (hop : (ops[i]?).map (fun o => (o.op, o.guard)) = some (.store 74 (.tmp s) (.tmp x), none)) (_hnone : dstOf ops i = none)
    (hp : specOf S pi = RK.new 74 2) (hd : dstOf ops pi = some s) (hj : specOf S j = RK.eq (.agg #[.int .i64 p, .bool q])) (hdj : dstOf ops j = some x) (hdep : (depsOf ops i).contains j = true) (hdep2 : (depsOf ops i).contains pi = true) : Obl Tryd.prog ops S Q a0 w0 i := by
  intro a w N H D
  cases ho : ops[i]? with
  | none => rw [ho] at hop; cases hop
  | some o =>
    rw [ho] at hop
    simp only [Option.map_some, Option.some.injEq, Prod.mk.injEq] at hop
    have hdst : dstOf ops i = o.dst := by unfold dstOf; rw [ho]; rfl
    have D' : ∀ j, j ∈ depsOf ops i → Fact ops S j a w N := fun j hj => by
      unfold depsOf at hj
      rw [ho] at hj
      simp only [Option.map_some, Option.getD_some, List.mem_map, List.mem_filter] at hj
      obtain ⟨e, ⟨he, hb⟩, rfl⟩ := hj
      exact D o ho e (by simpa using he) hb
    have hx := fact_eq (D' j (by simpa using hdep)) hj hdj
    have hf := D' pi (by simpa using hdep2)
    unfold Fact at hf
    rw [hp] at hf
    simp only [RK.new] at hf
    obtain ⟨b, cs, hb, hNb, hblk, hlen⟩ := hf
    have hv : valOf ops pi a = a.eval (.tmp s) := by unfold valOf; rw [hd]; rfl
    obtain ⟨v0, v1, rfl⟩ : ∃ v0 v1, cs = [v0, v1] := by
      match cs, hlen with
      | [v0, v1], _ => exact ⟨v0, v1, rfl⟩
    have c0 := hblk.cell 0
    have c1 := hblk.cell 1
    have f0 := hblk.frozen 0
    have f1 := hblk.frozen 1
    simp only [List.getElem?_cons_zero, List.getElem?_cons_succ] at c0 c1
    unfold wpOp
    simp only [ho]
    rw [if_pos (by unfold Region.wanted; rw [hop.2])]
    left
    have hpx : a.eval (.tmp s) = .pointer (some ⟨b, 0, none⟩) := hv.symm.trans hb
    have hrun : (execOp a.eval o).run Tryd.prog w = .ok .skip ((w.setCell ⟨b, 0, none⟩ (.int .i64 p)).setCell ⟨b, 1, none⟩ (.bool q)) := by
      simp only [execOp, hop.1, hx, hpx]
      simp [go_sem, c0, c1, f0, f1]
    unfold Oper.wp
    rw [hrun]
    show ∃ v, a.put o.dst undef = a.put (dstOf ops i) v ∧ _
    refine ⟨undef, by rw [hdst], ?_⟩
    unfold Does
    rw [hs]
    simp only [RK.put, hp, RK.new]
    exact ⟨b, hb, only_setCell (only_setCell (World.grownBy.refl _ _) 0 _) 1 _, by simp [World.setCell], (hblk.set 0 _).set 1 _⟩
end
end Go.Proofs.YtanimknpnniabaaDoor
