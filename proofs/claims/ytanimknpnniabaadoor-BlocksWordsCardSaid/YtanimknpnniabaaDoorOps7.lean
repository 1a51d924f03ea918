/- Operations of More's region: an array loaded out of the midst of a struct, an array's own variable; a tuple's parts. -/
import Derived.Test.YtanimknpnniabaaDoorNew
import Derived.Test.YtanimknpnniabaaDoorBuild
import Derived.Deep.MidRow
namespace Go.Proofs.YtanimknpnniabaaDoor
open Go.RowKit
section
variable {ops : Array Oper} {S : List RK} {Q : Exit → Act → World → Prop} {a0 : Act} {w0 : World} {a : Act} {w : World} {N : Nat → Prop}
theorem zero_arr (w : World) : (zeroValue 58).run Tryd.prog w = .ok (.agg (nums fun _ => 0).toArray) w := by kernel_rfl
theorem obl_new_arr {i : Nat} (hs : specOf S i = RK.new 58 256) (hop : (ops[i]?).map (fun o => (o.op, o.guard)) = some (.alloc 58, none)) : Obl Tryd.prog ops S Q a0 w0 i := by
  intro a w N H D
  cases ho : ops[i]? with
  | none => rw [ho] at hop; cases hop
  | some o =>
    rw [ho] at hop
    simp only [Option.map_some, Option.some.injEq, Prod.mk.injEq] at hop
    have hdst : dstOf ops i = o.dst := by unfold dstOf; rw [ho]; rfl
    unfold wpOp
    simp only [ho]
    rw [if_pos (by unfold Region.wanted; rw [hop.2])]
    left
    have hz := zero_arr
    refine wp_of_run (v := .pointer (some ⟨w.heap.size, 0, none⟩)) (w' := w.alloc (.cells (nums fun _ => 0).toArray 58)) (by
      generalize (nums fun _ => 0).toArray = zs at hz
      simp [execOp, hop.1, go_sem, hz]) ?_
    refine ⟨_, by rw [hdst], ?_⟩
    unfold Does
    rw [hs]
    exact ⟨_, rfl, rfl, nums_length _⟩
theorem obl_put_arr {i : Nat} {l : List Value} (hl : l.length = 256) (h1 : l.toArray.all (·.oneCell') = true) (s pi x j : Nat) (hs : specOf S i = RK.put pi l) (hop : (ops[i]?).map (fun o => (o.op, o.guard)) = some (.store 58 (.tmp s) (.tmp x), none)) (_hnone : dstOf ops i = none)
    (hp : specOf S pi = RK.new 58 256) (hd : dstOf ops pi = some s) (hj : specOf S j = RK.eq (.agg l.toArray)) (hdj : dstOf ops j = some x) (hdep : (depsOf ops i).contains j = true) (hdep2 : (depsOf ops i).contains pi = true) : Obl Tryd.prog ops S Q a0 w0 i := by
  intro a w N H D
  cases ho : ops[i]? with
  | none => rw [ho] at hop; cases hop
  | some o =>
    rw [ho] at hop
    simp only [Option.map_some, Option.some.injEq, Prod.mk.injEq] at hop
    have hdst : dstOf ops i = o.dst := by unfold dstOf; rw [ho]; rfl
    have D' : ∀ j, j ∈ depsOf ops i → Fact ops S j a w N := fun j hj => by
      unfold depsOf at hj
      rw [ho] at hj
      simp only [Option.map_some, Option.getD_some, List.mem_map, List.mem_filter] at hj
      obtain ⟨e, ⟨he, hb⟩, rfl⟩ := hj
      exact D o ho e (by simpa using he) hb
    have hx := fact_eq (D' j (by simpa using hdep)) hj hdj
    have hf := D' pi (by simpa using hdep2)
    unfold Fact at hf
    rw [hp] at hf
    simp only [RK.new] at hf
    obtain ⟨b, cs, hb, hNb, hblk, hlen⟩ := hf
    have hv : valOf ops pi a = a.eval (.tmp s) := by unfold valOf; rw [hd]; rfl
    unfold wpOp
    simp only [ho]
    rw [if_pos (by unfold Region.wanted; rw [hop.2])]
    left
    have hpx : a.eval (.tmp s) = .pointer (some ⟨b, 0, none⟩) := hv.symm.trans hb
    have hst := store_arr hblk hlen hl h1
    have hrun : (execOp a.eval o).run Tryd.prog w = .ok .skip (w.setRow b l.toArray) := by
      simp only [execOp, hop.1, hx, hpx, Instr.storeAt, Instr.sureAddr, Sem.run_bind, Sem.run_pure, Result.andThen_ok, hst]
    unfold Oper.wp
    rw [hrun]
    show ∃ v, a.put o.dst undef = a.put (dstOf ops i) v ∧ _
    refine ⟨undef, by rw [hdst], ?_⟩
    unfold Does
    rw [hs]
    simp only [RK.put, hp, RK.new]
    exact ⟨b, hb, ⟨rfl, rfl, rfl, by simp, fun k _ hk => setRow_other _ _ _ _ (by simpa using hk)⟩, by simp, hblk.setRow⟩
theorem wp_field0 {o : Oper} {x : Operand} {b : Nat} (ho : o.op = .fieldAddr 64 x 0) (hx : a.eval x = .pointer (some ⟨b, 0, none⟩)) :
    o.wp Tryd.prog a w (fun a' w' => ∃ u, a' = a.put o.dst u ∧ Below w.heap.size w w' ∧ ∀ N' : Nat → Prop, (∀ k, k < w.heap.size → N k → N' k) → (∀ k, w.heap.size ≤ k → N' k) → (RG.eq (.pointer (some ⟨b, 0, none⟩))).g u w' N') Q := by
  refine wp_quiet ?_
  simp only [execOp, ho, hx]
  simp [go_sem]
theorem load_mid {w : World} {b t : Nat} {l r : List Value} (h : Blk w b t (l ++ r)) (hl : l.length = 256) : (loadVar 58 ⟨b, 0, none⟩).run Tryd.prog w = .ok (.agg l.toArray) w :=
  run_loadVar_mid w b 0 _ l _ (fun j v hv => by
    rw [Nat.zero_add, h.cell, List.getElem?_append_left (List.getElem?_eq_some_iff.1 hv).1]
    exact hv) Tryd.underlying58 rfl (by rw [info_arr, hl])
theorem wp_load_mid256 {o : Oper} {x : Operand} {b t : Nat} {l r : List Value} (ho : o.op = .load 58 x) (hx : a.eval x = .pointer (some ⟨b, 0, none⟩)) (hb : Blk w b t (l ++ r)) (hl : l.length = 256) :
    o.wp Tryd.prog a w (fun a' w' => ∃ u, a' = a.put o.dst u ∧ Below w.heap.size w w' ∧ ∀ N' : Nat → Prop, (∀ k, k < w.heap.size → N k → N' k) → (∀ k, w.heap.size ≤ k → N' k) → (RG.eq (.agg l.toArray)).g u w' N') Q := by
  refine wp_quiet ?_
  simp only [execOp, ho, hx, Instr.loadAt, Instr.sureAddr, Sem.run_bind, Sem.run_pure, Result.andThen_ok, load_mid hb hl]
theorem wp_extract0 {o : Oper} {x : Operand} {u0 u1 : Value} (ho : o.op = .extract x 0) (hx : a.eval x = .tuple #[u0, u1]) :
    o.wp Tryd.prog a w (fun a' w' => ∃ u, a' = a.put o.dst u ∧ Below w.heap.size w w' ∧ ∀ N' : Nat → Prop, (∀ k, k < w.heap.size → N k → N' k) → (∀ k, w.heap.size ≤ k → N' k) → (RG.eq u0).g u w' N') Q := by
  refine wp_quiet ?_
  simp only [execOp, ho, hx]
  simp [go_sem]
theorem wp_extract1 {o : Oper} {x : Operand} {u0 u1 : Value} (ho : o.op = .extract x 1) (hx : a.eval x = .tuple #[u0, u1]) :
    o.wp Tryd.prog a w (fun a' w' => ∃ u, a' = a.put o.dst u ∧ Below w.heap.size w w' ∧ ∀ N' : Nat → Prop, (∀ k, k < w.heap.size → N k → N' k) → (∀ k, w.heap.size ≤ k → N' k) → (RG.eq u1).g u w' N') Q := by
  refine wp_quiet ?_
  simp only [execOp, ho, hx]
  simp [go_sem]
theorem enter_split (xs : Array Value) (w : World) : (callFunc 31 xs).run Tryd.prog w = .ok (.enter 31 xs) w := by kernel_rfl
end
end Go.Proofs.YtanimknpnniabaaDoor
