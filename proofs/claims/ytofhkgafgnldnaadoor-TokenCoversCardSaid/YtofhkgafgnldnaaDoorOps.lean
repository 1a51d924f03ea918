/- Single operations, for regions that draw their order: what each leaves, out of what its operands hold. -/
import Derived.Test.YtofhkgafgnldnaaDoorRows
import Derived.Test.YtofhkgafgnldnaaDoorBytes
import Derived.Test.YtofhkgafgnldnaaDoorRegion
namespace Go.Proofs.YtofhkgafgnldnaaDoor
open Go.RowKit

/-- What an operation hangs on. -/
def depsOf (ops : Array Oper) (i : Nat) : List Nat := ((ops[i]?).map fun o => (o.after.toList.filter fun e => Region.binds .any e).map (·.on)).getD []
def regionsOf : Code → List (Array Oper)
  | .region _ ops _ => [ops]
  | .seq a b => regionsOf a ++ regionsOf b
  | .cond _ a b => regionsOf a ++ regionsOf b
  | .block _ b => regionsOf b
  | .loop b => regionsOf b
  | .scope b => regionsOf b
  | .rangeFunc _ _ x b => regionsOf x ++ regionsOf b
  | _ => []
/-- Region k of a function, in the text's order. -/
def regOf (f : Func) (k : Nat) : Array Oper := ((f.body.map regionsOf).getD []).getD k #[]
def notDst (ops : Array Oper) (s : Nat) : Bool := (List.range ops.size).all fun i => dstOf ops i != some s
section
variable {P : Program} {ops : Array Oper} {S : List RK} {Q : Exit → Act → World → Prop} {a0 : Act} {w0 : World} {a : Act} {w : World} {N : Nat → Prop}
theorem held_base (H : Held ops a0 w0 a w N) (s : Nat) (hs : notDst ops s = true) {v : Value} (hv : a0.tmps.getD s undef = v) : a.eval (.tmp s) = v := by
  subst hv
  refine H.base s fun i hi => ?_
  have hlt : i < ops.size := by
    unfold dstOf at hi
    cases h : ops[i]? with
    | none => rw [h] at hi; cases hi
    | some o => exact (Array.getElem?_eq_some_iff.1 h).1
  have := List.all_eq_true.1 hs i (List.mem_range.2 hlt)
  rw [hi] at this
  simp at this
theorem fact_val {j s : Nat} {G : RG} (h : Fact ops S j a w N) (hs : specOf S j = RK.val G) (hd : dstOf ops j = some s) : G.g (a.eval (.tmp s)) w N := by
  unfold Fact at h
  rw [hs] at h
  unfold valOf at h
  rw [hd] at h
  exact h
theorem fact_eq {j s : Nat} {c : Value} (h : Fact ops S j a w N) (hs : specOf S j = RK.eq c) (hd : dstOf ops j = some s) : a.eval (.tmp s) = c := fact_val (G := RG.eq c) h hs hd
theorem obl_val {i : Nat} {G : RG} (op : Op) (g : Option (Nat × Bool)) (hs : specOf S i = RK.val G) (hop : (ops[i]?).map (fun o => (o.op, o.guard)) = some (op, g))
    (h : ∀ a w N, Held ops a0 w0 a w N → (∀ j, (depsOf ops i).contains j = true → Fact ops S j a w N) → (∀ j b, g = some (j, b) → ∃ d, dstOf ops j = some d ∧ a.eval (.tmp d) = .bool b) ∧
      ∀ o : Oper, o.op = op → o.wp P a w (fun a' w' => ∃ v, a' = a.put o.dst v ∧ Below w.heap.size w w' ∧ ∀ N' : Nat → Prop, (∀ k, k < w.heap.size → N k → N' k) → (∀ k, w.heap.size ≤ k → N' k) → G.g v w' N') Q) : Obl P ops S Q a0 w0 i := by
  intro a w N H D
  cases ho : ops[i]? with
  | none => rw [ho] at hop; cases hop
  | some o =>
    rw [ho] at hop
    simp only [Option.map_some, Option.some.injEq, Prod.mk.injEq] at hop
    obtain ⟨hg, hwp⟩ := h a w N H (fun j hj => by
      replace hj : j ∈ depsOf ops i := by simpa using hj
      unfold depsOf at hj
      rw [ho] at hj
      simp only [Option.map_some, Option.getD_some, List.mem_map, List.mem_filter] at hj
      obtain ⟨e, ⟨he, hb⟩, rfl⟩ := hj
      exact D o ho e (by simpa using he) hb)
    have hdst : dstOf ops i = o.dst := by unfold dstOf; rw [ho]; rfl
    unfold wpOp
    simp only [ho]
    have hw : Region.wanted o (yielded ops a.tmps) = true := by
      unfold Region.wanted
      rw [hop.2]
      cases g with
      | none => rfl
      | some jb =>
        obtain ⟨j, b⟩ := jb
        obtain ⟨d, hd, hv⟩ := hg j b rfl
        unfold dstOf at hd
        simp only [yielded, hd, Option.bind_some]
        change a.tmps.getD d undef = .bool b at hv
        have : a.tmps[d]? = some (.bool b) := by
          rcases Nat.lt_or_ge d a.tmps.size with hl | hl
          · simp only [Array.getD_eq_getD_getElem?, Array.getElem?_eq_getElem hl, Option.getD_some] at hv ⊢
            rw [hv]
          · simp only [Array.getD_eq_getD_getElem?, Array.getElem?_eq_none hl, Option.getD_none] at hv
            cases hv
        rw [this]
        simp
    rw [if_pos hw]
    refine .inl (Oper.wp_mono ?_ (hwp o hop.1))
    rintro a' w' ⟨v, rfl, hb, hg'⟩
    refine ⟨v, by rw [hdst], ?_⟩
    unfold Does
    rw [hs]
    exact ⟨hb, hg'⟩
/-- An operation whose guard says no. -/
theorem obl_skip {i : Nat} (op : Op) (j : Nat) (b : Bool) (hs : specOf S i = RK.eq undef) (hop : (ops[i]?).map (fun o => (o.op, o.guard)) = some (op, some (j, b)))
    (h : ∀ a w N, Held ops a0 w0 a w N → (∀ j, (depsOf ops i).contains j = true → Fact ops S j a w N) → ∃ d v, dstOf ops j = some d ∧ a.eval (.tmp d) = v ∧ v ≠ .bool b) : Obl P ops S Q a0 w0 i := by
  intro a w N H D
  cases ho : ops[i]? with
  | none => rw [ho] at hop; cases hop
  | some o =>
    rw [ho] at hop
    simp only [Option.map_some, Option.some.injEq, Prod.mk.injEq] at hop
    obtain ⟨d, v, hd, hv, hne⟩ := h a w N H (fun j hj => by
      replace hj : j ∈ depsOf ops i := by simpa using hj
      unfold depsOf at hj
      rw [ho] at hj
      simp only [Option.map_some, Option.getD_some, List.mem_map, List.mem_filter] at hj
      obtain ⟨e, ⟨he, hb⟩, rfl⟩ := hj
      exact D o ho e (by simpa using he) hb)
    have hdst : dstOf ops i = o.dst := by unfold dstOf; rw [ho]; rfl
    unfold wpOp
    simp only [ho]
    have hw : ¬Region.wanted o (yielded ops a.tmps) = true := by
      unfold Region.wanted
      rw [hop.2]
      unfold dstOf at hd
      simp only [yielded, hd, Option.bind_some]
      change a.tmps.getD d undef = v at hv
      rcases Nat.lt_or_ge d a.tmps.size with hl | hl
      · simp only [Array.getD_eq_getD_getElem?, Array.getElem?_eq_getElem hl, Option.getD_some] at hv ⊢
        rw [hv]
        cases v <;> simp_all
      · simp [Array.getElem?_eq_none hl]
    rw [if_neg hw]
    refine ⟨undef, by rw [hdst], ?_⟩
    unfold Does
    rw [hs]
    exact ⟨Below.refl _ _, fun _ _ _ => rfl⟩
theorem wp_of_run {o : Oper} {K : Act → World → Prop} {v : Value} {w' : World} (h : (execOp a.eval o).run P w = .ok (.value v) w') (hK : K (a.put o.dst v) w') : o.wp P a w K Q := by
  unfold Oper.wp
  rw [h]
  exact hK
/-- A value that needs no memory, and makes none. -/
theorem wp_quiet {o : Oper} {v : Value} (h : (execOp a.eval o).run P w = .ok (.value v) w) :
    o.wp P a w (fun a' w' => ∃ u, a' = a.put o.dst u ∧ Below w.heap.size w w' ∧ ∀ N' : Nat → Prop, (∀ k, k < w.heap.size → N k → N' k) → (∀ k, w.heap.size ≤ k → N' k) → (RG.eq v).g u w' N') Q :=
  wp_of_run h ⟨v, rfl, Below.refl _ _, fun _ _ _ => rfl⟩
theorem wp_move {o : Oper} {x : Operand} {v : Value} (ho : o.op = .move x ∨ o.op = .assign x) (hx : a.eval x = v) :
    o.wp P a w (fun a' w' => ∃ u, a' = a.put o.dst u ∧ Below w.heap.size w w' ∧ ∀ N' : Nat → Prop, (∀ k, k < w.heap.size → N k → N' k) → (∀ k, w.heap.size ≤ k → N' k) → (RG.eq v).g u w' N') Q := by
  subst hx
  rcases ho with ho | ho <;> exact wp_quiet (by simp [execOp, ho])
theorem wp_pick {o : Oper} {c x y : Operand} {b : Bool} {v : Value} (ho : o.op = .pick c x y) (hc : a.eval c = .bool b) (hx : (if b then a.eval x else a.eval y) = v) :
    o.wp P a w (fun a' w' => ∃ u, a' = a.put o.dst u ∧ Below w.heap.size w w' ∧ ∀ N' : Nat → Prop, (∀ k, k < w.heap.size → N k → N' k) → (∀ k, w.heap.size ≤ k → N' k) → (RG.eq v).g u w' N') Q := by
  subst hx
  refine wp_quiet ?_
  cases b <;> simp [execOp, ho, hc, asBool]
/-- A call of a function that is met by its contract. -/
theorem wp_callee {o : Oper} {f : FuncId} {args : Array Operand} {ts : Array TypeId} {K : Act → World → Prop} (ho : o.op = .call { callee := .value (.func f), args := args, argTypes := ts })
    (hf : ∀ (xs : Array Value) (w : World), (callFunc f xs).run P w = .ok (.enter f xs) w) (hc : Calls P f (args.map a.eval) w fun e w' => ∃ v, e = .returned v ∧ K (a.put o.dst v) w') : o.wp P a w K Q := by
  unfold Oper.wp
  have hr : (execOp a.eval o).run P w = .ok (.enter f (args.map a.eval)) w := by
    simp [execOp, ho, resolve, Act.eval, Deferred.ofValue, invoke, hf]
  rw [hr]
  refine hc.mono ?_
  rintro e w' ⟨v, rfl, hK⟩
  exact hK
end
/-! sets -/
section
variable {ops : Array Oper} {S : List RK} {Q : Exit → Act → World → Prop} {a0 : Act} {w0 : World} {a : Act} {w : World} {N : Nat → Prop}
/-- It reads as the sets l, in blocks within N. -/
def RG.sets (l : List (Nat → Bool)) : RG where
  g v w N := ∃ A c, v = .slice A l.length c ∧ l.length ≤ c ∧ l.length ≤ 140737488355328 ∧ ∀ i m, l[i]? = some m → ∃ ad, A = some ad ∧ N ad.block ∧ ad.block < w.heap.size ∧
    w.cell? (ad.add (i * 4)) = some (.int .u64 (word m 0)) ∧ w.cell? ⟨(ad.add (i * 4)).block, (ad.add (i * 4)).off + 1, none⟩ = some (.int .u64 (word m 1)) ∧
    w.cell? ⟨(ad.add (i * 4)).block, (ad.add (i * 4)).off + 2, none⟩ = some (.int .u64 (word m 2)) ∧ w.cell? ⟨(ad.add (i * 4)).block, (ad.add (i * 4)).off + 3, none⟩ = some (.int .u64 (word m 3))
  mono := by
    rintro v w w' N N' ⟨A, c, rfl, h1, h2, h3⟩ hs hk
    refine ⟨A, c, rfl, h1, h2, fun i x hi => ?_⟩
    obtain ⟨ad, rfl, hN, hlt, c0, c1, c2, c3⟩ := h3 i x hi
    have hb : w'.heap[ad.block]? = w.heap[ad.block]? := (hk _ hlt hN).2
    have hl : ∀ p : Addr, p.block = ad.block → w'.cell? p = w.cell? p := fun p hp => World.cell?_of_block (by rw [hp]; exact hb)
    have hl2 : ∀ o, w'.cell? ⟨(ad.add (i * 4)).block, o, none⟩ = w.cell? ⟨(ad.add (i * 4)).block, o, none⟩ := fun o => hl ⟨(ad.add (i * 4)).block, o, none⟩ (add_block _ _)
    exact ⟨ad, rfl, (hk _ hlt hN).1, Nat.lt_of_lt_of_le hlt hs, (hl _ (add_block _ _)).trans c0, (hl2 _).trans c1, (hl2 _).trans c2, (hl2 _).trans c3⟩
theorem RG.sets_rd {v : Value} {l : List (Nat → Bool)} (h : (RG.sets l).g v w N) : RdS w v l := by
  obtain ⟨A, c, rfl, h1, h2, h3⟩ := h
  refine ⟨A, c, rfl, h1, h2, fun i x hi => ?_⟩
  obtain ⟨ad, rfl, _, hlt, hc⟩ := h3 i x hi
  exact ⟨ad, rfl, hlt, hc⟩
theorem RG.sets_own {v : Value} {l : List (Nat → Bool)} {w' : World} {base : Nat} {e : TypeId} {n : Nat} (h : w'.ownsRow base e 4 v n (setsC l)) (hn : n ≤ 140737488355328) {N' : Nat → Prop} (hN : ∀ k, base ≤ k → N' k) : (RG.sets l).g v w' N' := by
  obtain ⟨A, c, rfl, h1, h2, h3⟩ := own_rdS h hn
  refine ⟨A, c, rfl, h1, h2, fun i x hi => ?_⟩
  obtain ⟨ad, rfl, hlt, hc⟩ := h3 i x hi
  refine ⟨ad, rfl, hN _ ?_, hlt, hc⟩
  have := h.lt ad.block rfl
  exact this.1
theorem wp_load_set {o : Oper} {x : Operand} {b : Nat} {u0 u1 u2 u3 : Value} (ho : o.op = .load 32 x) (hx : a.eval x = .pointer (some ⟨b, 0, none⟩)) (hb : Blk w b 32 [u0, u1, u2, u3]) :
    o.wp Tryd.prog a w (fun a' w' => ∃ u, a' = a.put o.dst u ∧ Below w.heap.size w w' ∧ ∀ N' : Nat → Prop, (∀ k, k < w.heap.size → N k → N' k) → (∀ k, w.heap.size ≤ k → N' k) → (RG.eq (.agg #[u0, u1, u2, u3])).g u w' N') Q := by
  obtain ⟨c0, c1, c2, c3, _⟩ := hb.four
  refine wp_quiet ?_
  simp only [execOp, ho, hx]
  simp [go_sem, c0, c1, c2, c3]
/-- A load out of a block that stood there ahead of the region. -/
theorem obl_load_old {i : Nat} {m : Nat → Bool} (s : Nat) (b : Nat) (hs : specOf S i = RK.eq (setV m)) (g : Option (Nat × Bool)) (hop : (ops[i]?).map (fun o => (o.op, o.guard)) = some (.load 32 (.tmp s), g)) (hnd : notDst ops s = true)
    (hv : a0.tmps.getD s undef = .pointer (some ⟨b, 0, none⟩)) (hb : Blk w0 b 32 (setL m))
    (hg : ∀ a w N, Held ops a0 w0 a w N → (∀ j, (depsOf ops i).contains j = true → Fact ops S j a w N) → (∀ j b, g = some (j, b) → ∃ d, dstOf ops j = some d ∧ a.eval (.tmp d) = .bool b)) : Obl Tryd.prog ops S Q a0 w0 i :=
  obl_val _ g hs hop fun a w N H D => ⟨hg a w N H D, fun _ ho => wp_load_set ho (held_base H s hnd hv) (hb.below H.below hb.lt)⟩
/-- A load out of a block of the region's own. -/
theorem obl_load_new {i : Nat} {u0 u1 u2 u3 : Value} (s p j : Nat) (hs : specOf S i = RK.eq (.agg #[u0, u1, u2, u3])) (g : Option (Nat × Bool)) (hop : (ops[i]?).map (fun o => (o.op, o.guard)) = some (.load 32 (.tmp s), g))
    (hp : specOf S p = RK.new 32 4) (hd : dstOf ops p = some s) (hj : specOf S j = RK.put p [u0, u1, u2, u3]) (hdep : (depsOf ops i).contains j = true)
    (hg : ∀ a w N, Held ops a0 w0 a w N → (∀ j, (depsOf ops i).contains j = true → Fact ops S j a w N) → (∀ j b, g = some (j, b) → ∃ d, dstOf ops j = some d ∧ a.eval (.tmp d) = .bool b)) : Obl Tryd.prog ops S Q a0 w0 i :=
  obl_val _ g hs hop fun a w N H D => ⟨hg a w N H D, fun _ ho => by
    have hf := D j hdep
    unfold Fact at hf
    rw [hj] at hf
    simp only [RK.put] at hf
    obtain ⟨b, hb, _, hblk⟩ := hf
    rw [hp] at hblk
    unfold valOf at hb
    rw [hd] at hb
    exact wp_load_set ho hb hblk⟩
theorem obl_new {i : Nat} (hs : specOf S i = RK.new 32 4) (hop : (ops[i]?).map (fun o => (o.op, o.guard)) = some (.alloc 32, none)) : Obl Tryd.prog ops S Q a0 w0 i := by
  intro a w N H D
  cases ho : ops[i]? with
  | none => rw [ho] at hop; cases hop
  | some o =>
    rw [ho] at hop
    simp only [Option.map_some, Option.some.injEq, Prod.mk.injEq] at hop
    have hdst : dstOf ops i = o.dst := by unfold dstOf; rw [ho]; rfl
    unfold wpOp
    simp only [ho]
    rw [if_pos (by unfold Region.wanted; rw [hop.2])]
    left
    refine wp_of_run (v := .pointer (some ⟨w.heap.size, 0, none⟩)) (w' := w.alloc (.cells [Value.int .u64 0, .int .u64 0, .int .u64 0, .int .u64 0].toArray 32)) (by simp [execOp, hop.1, go_sem]) ?_
    refine ⟨_, by rw [hdst], ?_⟩
    unfold Does
    rw [hs]
    exact ⟨_, rfl, rfl, rfl⟩
theorem obl_put {i : Nat} {m : Nat → Bool} (s p x j : Nat) (hs : specOf S i = RK.put p (setL m)) (hop : (ops[i]?).map (fun o => (o.op, o.guard)) = some (.store 32 (.tmp s) (.tmp x), none)) (_hnone : dstOf ops i = none)
    (hp : specOf S p = RK.new 32 4) (hd : dstOf ops p = some s) (hj : specOf S j = RK.eq (setV m)) (hdj : dstOf ops j = some x) (hdep : (depsOf ops i).contains j = true) (hdep2 : (depsOf ops i).contains p = true) : Obl Tryd.prog ops S Q a0 w0 i := by
  intro a w N H D
  cases ho : ops[i]? with
  | none => rw [ho] at hop; cases hop
  | some o =>
    rw [ho] at hop
    simp only [Option.map_some, Option.some.injEq, Prod.mk.injEq] at hop
    have hdst : dstOf ops i = o.dst := by unfold dstOf; rw [ho]; rfl
    have D' : ∀ j, j ∈ depsOf ops i → Fact ops S j a w N := fun j hj => by
      unfold depsOf at hj
      rw [ho] at hj
      simp only [Option.map_some, Option.getD_some, List.mem_map, List.mem_filter] at hj
      obtain ⟨e, ⟨he, hb⟩, rfl⟩ := hj
      exact D o ho e (by simpa using he) hb
    have hx := fact_eq (D' j (by simpa using hdep)) hj hdj
    have hf := D' p (by simpa using hdep2)
    unfold Fact at hf
    rw [hp] at hf
    simp only [RK.new] at hf
    obtain ⟨b, cs, hb, hNb, hblk, hlen⟩ := hf
    have hv : valOf ops p a = a.eval (.tmp s) := by unfold valOf; rw [hd]; rfl
    obtain ⟨v0, v1, v2, v3, rfl⟩ : ∃ v0 v1 v2 v3, cs = [v0, v1, v2, v3] := by
      match cs, hlen with
      | [v0, v1, v2, v3], _ => exact ⟨v0, v1, v2, v3, rfl⟩
    obtain ⟨c0, c1, c2, c3, f0, f1, f2, f3⟩ := hblk.four
    unfold wpOp
    simp only [ho]
    rw [if_pos (by unfold Region.wanted; rw [hop.2])]
    left
    have hpx : a.eval (.tmp s) = .pointer (some ⟨b, 0, none⟩) := hv.symm.trans hb
    have hrun : (execOp a.eval o).run Tryd.prog w = .ok .skip ((((w.setCell ⟨b, 0, none⟩ (.int .u64 (word m 0))).setCell ⟨b, 1, none⟩ (.int .u64 (word m 1))).setCell ⟨b, 2, none⟩ (.int .u64 (word m 2))).setCell ⟨b, 3, none⟩ (.int .u64 (word m 3))) := by
      simp only [execOp, hop.1, hx, hpx]
      simp [go_sem, c0, c1, c2, c3, f0, f1, f2, f3]
    unfold Oper.wp
    rw [hrun]
    show ∃ v, a.put o.dst undef = a.put (dstOf ops i) v ∧ _
    refine ⟨undef, by rw [hdst], ?_⟩
    unfold Does
    rw [hs]
    simp only [RK.put, hp, RK.new]
    exact ⟨b, hb, only_set4 (World.grownBy.refl _ _) _ _ _ _, by simp [World.setCell], hblk.set4 _ _ _ _⟩
/-- Equality of two sets. -/
theorem wp_eq_set {o : Oper} {x y : Operand} {m m' : Nat → Bool} {t : TypeId} (ho : o.op = .binOp .eql 32 x y t) (hx : a.eval x = setV m) (hy : a.eval y = setV m') :
    o.wp Tryd.prog a w (fun a' w' => ∃ u, a' = a.put o.dst u ∧ Below w.heap.size w w' ∧ ∀ N' : Nat → Prop, (∀ k, k < w.heap.size → N k → N' k) → (∀ k, w.heap.size ≤ k → N' k) → (RG.eq (.bool (eqB m m'))).g u w' N') Q := by
  refine wp_quiet ?_
  simp only [execOp, ho, hx, hy]
  simp [go_sem, eq_words, eqB_words]
theorem wp_neq_set {o : Oper} {x y : Operand} {m m' : Nat → Bool} {t : TypeId} (ho : o.op = .binOp .neq 32 x y t) (hx : a.eval x = setV m) (hy : a.eval y = setV m') :
    o.wp Tryd.prog a w (fun a' w' => ∃ u, a' = a.put o.dst u ∧ Below w.heap.size w w' ∧ ∀ N' : Nat → Prop, (∀ k, k < w.heap.size → N k → N' k) → (∀ k, w.heap.size ≤ k → N' k) → (RG.eq (.bool (!eqB m m'))).g u w' N') Q := by
  refine wp_quiet ?_
  simp only [execOp, ho, hx, hy]
  simp [go_sem, eq_words, eqB_words]
theorem wp_of_eq {o : Oper} {c : Value} (h : o.wp Tryd.prog a w (fun a' w' => ∃ u, a' = a.put o.dst u ∧ Below w.heap.size w w' ∧ ∀ N' : Nat → Prop, (∀ k, k < w.heap.size → N k → N' k) → (∀ k, w.heap.size ≤ k → N' k) → (RG.eq c).g u w' N') Q) (c' : Value) (hc : c = c') :
    o.wp Tryd.prog a w (fun a' w' => ∃ u, a' = a.put o.dst u ∧ Below w.heap.size w w' ∧ ∀ N' : Nat → Prop, (∀ k, k < w.heap.size → N k → N' k) → (∀ k, w.heap.size ≤ k → N' k) → (RG.eq c').g u w' N') Q := by
  subst hc
  exact h
theorem wp_sub8 {o : Oper} {x y : Operand} {p q r : Int} {t : TypeId} (ho : o.op = .binOp .sub 5 x y t) (hx : a.eval x = .int .u8 p) (hy : a.eval y = .int .u8 q) (hr : p - q = r) (h0 : 0 ≤ r ∧ r < 256) :
    o.wp Tryd.prog a w (fun a' w' => ∃ u, a' = a.put o.dst u ∧ Below w.heap.size w w' ∧ ∀ N' : Nat → Prop, (∀ k, k < w.heap.size → N k → N' k) → (∀ k, w.heap.size ≤ k → N' k) → (RG.eq (.int .u8 r)).g u w' N') Q := by
  have hw : IntKind.u8.wrap (p - q) = r := by rw [IntKind.wrap_u8']; omega
  refine wp_quiet ?_
  simp only [execOp, ho, hx, hy]
  simp [go_sem, hw]
theorem wp_eqb {o : Oper} {x y : Operand} {p q : Bool} {t : TypeId} (ho : o.op = .binOp .eql 4 x y t) (hx : a.eval x = .bool p) (hy : a.eval y = .bool q) :
    o.wp Tryd.prog a w (fun a' w' => ∃ u, a' = a.put o.dst u ∧ Below w.heap.size w w' ∧ ∀ N' : Nat → Prop, (∀ k, k < w.heap.size → N k → N' k) → (∀ k, w.heap.size ≤ k → N' k) → (RG.eq (.bool (p == q))).g u w' N') Q := by
  refine wp_quiet ?_
  simp only [execOp, ho, hx, hy]
  simp [go_sem]
theorem wp_not {o : Oper} {x : Operand} {p : Bool} {t : TypeId} (ho : o.op = .unOp .not t x) (hx : a.eval x = .bool p) :
    o.wp Tryd.prog a w (fun a' w' => ∃ u, a' = a.put o.dst u ∧ Below w.heap.size w w' ∧ ∀ N' : Nat → Prop, (∀ k, k < w.heap.size → N k → N' k) → (∀ k, w.heap.size ≤ k → N' k) → (RG.eq (.bool (!p))).g u w' N') Q := by
  refine wp_quiet ?_
  simp only [execOp, ho, hx]
  simp [go_sem]
/-- A frame, written out. -/
theorem act_eq (a : Act) (n : Nat) (h : a.tmps.size = n) : a = ⟨((List.range n).map fun k => a.tmps.getD k undef).toArray, a.defers⟩ := by
  obtain ⟨t, d⟩ := a
  simp only at h
  congr 1
  apply Array.ext
  · simp [h]
  · intro i h1 h2
    simp [h1]
theorem wp_addi {o : Oper} {x y : Operand} {p q : Int} {t : TypeId} (ho : o.op = .binOp .add 3 x y t) (hx : a.eval x = .int .i64 p) (hy : a.eval y = .int .i64 q) :
    o.wp Tryd.prog a w (fun a' w' => ∃ u, a' = a.put o.dst u ∧ Below w.heap.size w w' ∧ ∀ N' : Nat → Prop, (∀ k, k < w.heap.size → N k → N' k) → (∀ k, w.heap.size ≤ k → N' k) → (RG.eq (.int .i64 (wrap64 (p + q)))).g u w' N') Q := by
  refine wp_quiet ?_
  simp only [execOp, ho, hx, hy]
  simp [go_sem, wrap64, IntKind.wrap_i64]
theorem wp_eqi {o : Oper} {x y : Operand} {p q : Int} {t : TypeId} (ho : o.op = .binOp .eql 3 x y t) (hx : a.eval x = .int .i64 p) (hy : a.eval y = .int .i64 q) :
    o.wp Tryd.prog a w (fun a' w' => ∃ u, a' = a.put o.dst u ∧ Below w.heap.size w w' ∧ ∀ N' : Nat → Prop, (∀ k, k < w.heap.size → N k → N' k) → (∀ k, w.heap.size ≤ k → N' k) → (RG.eq (.bool (p == q))).g u w' N') Q := by
  refine wp_quiet ?_
  simp only [execOp, ho, hx, hy]
  simp [go_sem]
/-- A call that answers a value known ahead. -/
theorem wp_call_eq {o : Oper} {f : FuncId} {args : Array Operand} {ts : Array TypeId} {c : Value} (ho : o.op = .call { callee := .value (.func f), args := args, argTypes := ts })
    (hf : ∀ (xs : Array Value) (w : World), (callFunc f xs).run Tryd.prog w = .ok (.enter f xs) w) {xs : Array Value} (hx : args.map a.eval = xs) (hc : Calls Tryd.prog f xs w fun e w' => e = .returned c ∧ Below w.heap.size w w') :
    o.wp Tryd.prog a w (fun a' w' => ∃ u, a' = a.put o.dst u ∧ Below w.heap.size w w' ∧ ∀ N' : Nat → Prop, (∀ k, k < w.heap.size → N k → N' k) → (∀ k, w.heap.size ≤ k → N' k) → (RG.eq c).g u w' N') Q := by
  subst hx
  refine wp_callee ho hf (hc.mono ?_)
  rintro e w' ⟨rfl, hb⟩
  exact ⟨c, rfl, c, rfl, hb, fun _ _ _ => rfl⟩
theorem run_build2 (m0 m1 : Nat → Bool) (w : World) : (Instr.buildSlice 89 2 #[(0, setV m0), (1, setV m1)]).run Tryd.prog w = .ok (.slice (some ⟨w.heap.size, 0, none⟩) 2 2) (w.alloc (.cells (setsC [m0, m1]).toArray 32)) := by kernel_rfl
theorem wp_build2 {o : Oper} {x0 x1 : Operand} {m0 m1 : Nat → Bool} (ho : o.op = .buildSlice 89 2 #[(0, x0), (1, x1)]) (h0 : a.eval x0 = setV m0) (h1 : a.eval x1 = setV m1) :
    o.wp Tryd.prog a w (fun a' w' => ∃ u, a' = a.put o.dst u ∧ Below w.heap.size w w' ∧ ∀ N' : Nat → Prop, (∀ k, k < w.heap.size → N k → N' k) → (∀ k, w.heap.size ≤ k → N' k) → (RG.sets [m0, m1]).g u w' N') Q := by
  have hr := run_build2 m0 m1 w
  refine wp_of_run (v := .slice (some ⟨w.heap.size, 0, none⟩) 2 2) (w' := w.alloc (.cells (setsC [m0, m1]).toArray 32)) (by simp only [execOp, ho, List.map_toArray, List.map_cons, List.map_nil, h0, h1]; simp [hr]) ⟨_, rfl, (Below.refl _ _).alloc (Nat.le_refl _) _, fun N' _ hN => ?_⟩
  exact RG.sets_own (World.ownsRow_lit (base := w.heap.size) (e := 32) (size := 4) w (setsC [m0, m1]).toArray 2 (Nat.le_refl _) (by unfold maxLen; omega) rfl) (by omega) hN
end
theorem enter_union (xs : Array Value) (w : World) : (callFunc 36 xs).run Tryd.prog w = .ok (.enter 36 xs) w := by kernel_rfl
end Go.Proofs.YtofhkgafgnldnaaDoor
