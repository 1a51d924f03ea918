/- Weights: operations of regions that make what is known. -/
import Derived.Test.YtpiimcbbgalhfaaGreatDoorDd
namespace Go.Proofs.YtpiimcbbgalhfaaGreatDoor
set_option maxRecDepth 100000
open Go.RowKit Go.Maps
/-- A bag in a map made since block B. -/
def RG.bag (B n : Nat) (β : Bag) : RG where
  g v w N := ∃ b, v = mapV b ∧ B ≤ b ∧ N b ∧ BagAt w n b β
  mono := by
    rintro v w w' N N' ⟨b, rfl, h0, hN, hb⟩ hs hk
    exact ⟨b, rfl, h0, (hk b hb.lt hN).1, hb.heap (hk b hb.lt hN).2⟩
def RG.known (B n : Nat) (k : Kn) : RG where
  g v w N := ∃ a b, v = .agg #[.int .i64 k.void, mapV a, mapV b] ∧ B ≤ a ∧ B ≤ b ∧ N a ∧ N b ∧ BagAt w n a k.first ∧ BagAt w n b k.last
  mono := by
    rintro v w w' N N' ⟨a, b, rfl, h0, h1, hN, hM, ha, hb⟩ hs hk
    exact ⟨a, b, rfl, h0, h1, (hk a ha.lt hN).1, (hk b hb.lt hM).1, ha.heap (hk a ha.lt hN).2, hb.heap (hk b hb.lt hM).2⟩
section
variable {ops : Array Oper} {S : List RK} {Q : Exit → Act → World → Prop} {a0 : Act} {w0 : World} {a : Act} {w : World} {N : Nat → Prop}
theorem wp_fk0 {o : Oper} {x : Operand} {b : Nat} (ho : o.op = .fieldAddr 137 x 0) (hx : a.eval x = .pointer (some ⟨b, 0, none⟩)) :
    o.wp Tryz.prog a w (fun a' w' => ∃ u, a' = a.put o.dst u ∧ Below w.heap.size w w' ∧ ∀ N' : Nat → Prop, (∀ k, k < w.heap.size → N k → N' k) → (∀ k, w.heap.size ≤ k → N' k) → (RG.eq (.pointer (some ⟨b, 0, none⟩))).g u w' N') Q := by
  refine wp_quiet ?_
  simp only [execOp, ho, hx]
  simp [go_sem]
theorem wp_fk1 {o : Oper} {x : Operand} {b : Nat} (ho : o.op = .fieldAddr 137 x 1) (hx : a.eval x = .pointer (some ⟨b, 0, none⟩)) :
    o.wp Tryz.prog a w (fun a' w' => ∃ u, a' = a.put o.dst u ∧ Below w.heap.size w w' ∧ ∀ N' : Nat → Prop, (∀ k, k < w.heap.size → N k → N' k) → (∀ k, w.heap.size ≤ k → N' k) → (RG.eq (.pointer (some ⟨b, 1, none⟩))).g u w' N') Q := by
  refine wp_quiet ?_
  simp only [execOp, ho, hx]
  simp [go_sem]
theorem wp_fk2 {o : Oper} {x : Operand} {b : Nat} (ho : o.op = .fieldAddr 137 x 2) (hx : a.eval x = .pointer (some ⟨b, 0, none⟩)) :
    o.wp Tryz.prog a w (fun a' w' => ∃ u, a' = a.put o.dst u ∧ Below w.heap.size w w' ∧ ∀ N' : Nat → Prop, (∀ k, k < w.heap.size → N k → N' k) → (∀ k, w.heap.size ≤ k → N' k) → (RG.eq (.pointer (some ⟨b, 2, none⟩))).g u w' N') Q := by
  refine wp_quiet ?_
  simp only [execOp, ho, hx]
  simp [go_sem]
theorem wp_lkI {o : Oper} {x : Operand} {p : Addr} {b : Int} (ho : o.op = .load 3 x) (hx : a.eval x = .pointer (some p)) (hc : w.cell? p = some (.int .i64 b)) :
    o.wp Tryz.prog a w (fun a' w' => ∃ u, a' = a.put o.dst u ∧ Below w.heap.size w w' ∧ ∀ N' : Nat → Prop, (∀ k, k < w.heap.size → N k → N' k) → (∀ k, w.heap.size ≤ k → N' k) → (RG.eq (.int .i64 b)).g u w' N') Q := by
  refine wp_quiet ?_
  simp only [execOp, ho, hx]
  simp [go_sem, hc]
theorem wp_lkM {o : Oper} {x : Operand} {p : Addr} {b : Nat} (ho : o.op = .load 135 x) (hx : a.eval x = .pointer (some p)) (hc : w.cell? p = some (mapV b)) :
    o.wp Tryz.prog a w (fun a' w' => ∃ u, a' = a.put o.dst u ∧ Below w.heap.size w w' ∧ ∀ N' : Nat → Prop, (∀ k, k < w.heap.size → N k → N' k) → (∀ k, w.heap.size ≤ k → N' k) → (RG.eq (mapV b)).g u w' N') Q := by
  refine wp_quiet ?_
  simp only [execOp, ho, hx]
  simp [go_sem, hc]
theorem wp_sum {o : Oper} {x y z : Operand} {ts : Array TypeId} {B n A M : Nat} {α μ : Bag} {k : Int} (ho : o.op = .call { callee := .value (.func 141), args := #[x, y, z], argTypes := ts }) (hx : a.eval x = mapV A) (hy : a.eval y = mapV M) (hz : a.eval z = .int .i64 k)
    (hα : BagAt w n A α) (hμ : BagAt w n M μ) (hn : n ≤ 1000) (hk : 0 ≤ k ∧ k ≤ mostI) (hB : B ≤ w.heap.size) :
    o.wp Tryz.prog a w (fun a' w' => ∃ u, a' = a.put o.dst u ∧ Below w.heap.size w w' ∧ ∀ N' : Nat → Prop, (∀ k, k < w.heap.size → N k → N' k) → (∀ k, w.heap.size ≤ k → N' k) → (RG.bag B n (sumB α μ k)).g u w' N') Q := by
  refine wp_callee ho (fun xs w => by kernel_rfl) ?_
  simp only [List.map_toArray, List.map_cons, List.map_nil, hx, hy, hz]
  refine (bsum_at hα hμ hn k hk).mono ?_
  rintro e w' ⟨b, rfl, hb, hbag, hw⟩
  exact ⟨_, rfl, _, rfl, hw, fun N' _ hN => ⟨b, rfl, Nat.le_trans hB hb, hN b hb, hbag⟩⟩
theorem wp_build_known {o : Oper} {x y z : Operand} {B n : Nat} {k : Kn} (ho : o.op = .build 137 #[(0, x), (1, y), (2, z)]) (hx : a.eval x = .int .i64 k.void) (hy : (RG.bag B n k.first).g (a.eval y) w N) (hz : (RG.bag B n k.last).g (a.eval z) w N) :
    o.wp Tryz.prog a w (fun a' w' => ∃ u, a' = a.put o.dst u ∧ Below w.heap.size w w' ∧ ∀ N' : Nat → Prop, (∀ k, k < w.heap.size → N k → N' k) → (∀ k, w.heap.size ≤ k → N' k) → (RG.known B n k).g u w' N') Q := by
  obtain ⟨c, hc, c0, hcN, hcB⟩ := hy
  obtain ⟨d, hd, d0, hdN, hdB⟩ := hz
  refine wp_of_run (v := .agg #[.int .i64 k.void, mapV c, mapV d]) (w' := w) ?_ ⟨_, rfl, Below.refl _ _, fun N' h1 _ => ⟨c, d, rfl, c0, d0, h1 c hcB.lt hcN, h1 d hdB.lt hdN, hcB, hdB⟩⟩
  simp only [execOp, ho, List.map_toArray, List.map_cons, List.map_nil, hx, hc, hd]
  simp [go_sem]
end
theorem wpOp_put_known {ops : Array Oper} {Q : Exit → Act → World → Prop} {K : Nat} {a : Act} {w : World} {b : Nat} {x : Int} {y z : Nat} {u0 u1 u2 : Value} (s t : Nat) {Kc : Act → World → Prop}
    (hop : (ops[K]?).map (fun o => (o.op, o.guard)) = some (.store 137 (.tmp s) (.tmp t), none)) (hd : dstOf ops K = none)
    (hs : a.eval (.tmp s) = .pointer (some ⟨b, 0, none⟩)) (hx : a.eval (.tmp t) = .agg #[.int .i64 x, mapV y, mapV z]) (hb : Blk w b 137 [u0, u1, u2])
    (hK : Kc a (((w.setCell ⟨b, 0, none⟩ (.int .i64 x)).setCell ⟨b, 1, none⟩ (mapV y)).setCell ⟨b, 2, none⟩ (mapV z))) : wpOp Tryz.prog ops Q K Kc a w := by
  cases ho : ops[K]? with
  | none => rw [ho] at hop; cases hop
  | some o =>
    rw [ho] at hop
    simp only [Option.map_some, Option.some.injEq, Prod.mk.injEq] at hop
    have hdst : dstOf ops K = o.dst := by unfold dstOf; rw [ho]; rfl
    have c0 : w.cell? ⟨b, 0, none⟩ = some u0 := hb.cell 0
    have c1 : w.cell? ⟨b, 1, none⟩ = some u1 := hb.cell 1
    have c2 : w.cell? ⟨b, 2, none⟩ = some u2 := hb.cell 2
    have f0 := hb.frozen 0
    have f1 := hb.frozen 1
    have f2 := hb.frozen 2
    unfold wpOp
    simp only [ho]
    rw [if_pos (by unfold Region.wanted; rw [hop.2])]
    left
    have hrun : (execOp a.eval o).run Tryz.prog w = .ok .skip (((w.setCell ⟨b, 0, none⟩ (.int .i64 x)).setCell ⟨b, 1, none⟩ (mapV y)).setCell ⟨b, 2, none⟩ (mapV z)) := by
      simp only [execOp, hop.1, hx, hs]
      simp [go_sem, c0, c1, c2, f0, f1, f2]
    unfold Oper.wp
    rw [hrun]
    show Kc (a.put o.dst undef) _
    rw [show a.put o.dst undef = a by rw [← hdst, hd]; rfl]
    exact hK
end Go.Proofs.YtpiimcbbgalhfaaGreatDoor
/- weigh's cat, walk: their regions. -/
namespace Go.Proofs.YtpiimcbbgalhfaaGreatDoor
open Go.RowKit
theorem kn_i64 {x : Int} (h : 0 ≤ x ∧ x ≤ mostI) : I64 x := ⟨by omega, by have := h.2; unfold mostI at this; omega⟩
theorem kn_one : (0 : Int) ≤ 1 ∧ (1 : Int) ≤ mostI := by unfold mostI; omega
noncomputable def wct_ops : Array Oper := regOf Tryz.f140 2
def wct_S (B n p q a1 a2 c1 c2 : Nat) (x y : Int) (βa1 βa2 βc1 βc2 : Bag) : List RK := [RK.eq (.pointer (some ⟨p, 0, none⟩)), RK.eq (.int .i64 x), RK.eq (.pointer (some ⟨q, 0, none⟩)), RK.eq (.int .i64 y), RK.val (RG.ints [x, y]), RK.eq (.int .i64 (mulL [x, y])), RK.eq (.pointer (some ⟨p, 1, none⟩)), RK.eq (mapV a1), RK.eq (.pointer (some ⟨q, 1, none⟩)), RK.eq (mapV c1), RK.eq (.pointer (some ⟨p, 0, none⟩)), RK.eq (.int .i64 x), RK.val (RG.bag B n (sumB βa1 βc1 x)), RK.eq (.pointer (some ⟨q, 2, none⟩)), RK.eq (mapV c2), RK.eq (.pointer (some ⟨p, 2, none⟩)), RK.eq (mapV a2), RK.eq (.pointer (some ⟨q, 0, none⟩)), RK.eq (.int .i64 y), RK.val (RG.bag B n (sumB βc2 βa2 y)), RK.val (RG.known B n ⟨(mulL [x, y]), (sumB βa1 βc1 x), (sumB βc2 βa2 y)⟩)]
theorem wct_o0 (B n p q a1 a2 c1 c2 : Nat) (x y : Int) (βa1 βa2 βc1 βc2 : Bag) (Q : Exit → Act → World → Prop) (a0 : Act) (w0 : World) (hsp : a0.tmps.getD 4 undef = .pointer (some ⟨p, 0, none⟩)) : Obl Tryz.prog wct_ops (wct_S B n p q a1 a2 c1 c2 x y βa1 βa2 βc1 βc2) Q a0 w0 0 :=
  obl_val (.fieldAddr 137 (.tmp 4) 0) none rfl (by kernel_rfl) fun a w N H D => ⟨(fun _ _ hg => by cases hg), fun _ ho => wp_fk0 ho (held_base H 4 (by kernel_rfl) hsp)⟩
theorem wct_o1 (B n p q a1 a2 c1 c2 : Nat) (x y : Int) (βa1 βa2 βc1 βc2 : Bag) (Q : Exit → Act → World → Prop) (a0 : Act) (w0 : World) (hp0 : w0.cell? ⟨p, 0, none⟩ = some (.int .i64 x) ∧ p < w0.heap.size) : Obl Tryz.prog wct_ops (wct_S B n p q a1 a2 c1 c2 x y βa1 βa2 βc1 βc2) Q a0 w0 1 :=
  obl_val (.load 3 (.tmp 13)) none rfl (by kernel_rfl) fun a w N H D => ⟨(fun _ _ hg => by cases hg), fun _ ho => wp_lkI ho (fact_eq (c := .pointer (some ⟨p, 0, none⟩)) (D 0 (by kernel_rfl)) rfl (by kernel_rfl)) ((H.below.cell hp0.2).trans hp0.1)⟩
theorem wct_o2 (B n p q a1 a2 c1 c2 : Nat) (x y : Int) (βa1 βa2 βc1 βc2 : Bag) (Q : Exit → Act → World → Prop) (a0 : Act) (w0 : World) (hsq : a0.tmps.getD 5 undef = .pointer (some ⟨q, 0, none⟩)) : Obl Tryz.prog wct_ops (wct_S B n p q a1 a2 c1 c2 x y βa1 βa2 βc1 βc2) Q a0 w0 2 :=
  obl_val (.fieldAddr 137 (.tmp 5) 0) none rfl (by kernel_rfl) fun a w N H D => ⟨(fun _ _ hg => by cases hg), fun _ ho => wp_fk0 ho (held_base H 5 (by kernel_rfl) hsq)⟩
theorem wct_o3 (B n p q a1 a2 c1 c2 : Nat) (x y : Int) (βa1 βa2 βc1 βc2 : Bag) (Q : Exit → Act → World → Prop) (a0 : Act) (w0 : World) (hq0 : w0.cell? ⟨q, 0, none⟩ = some (.int .i64 y) ∧ q < w0.heap.size) : Obl Tryz.prog wct_ops (wct_S B n p q a1 a2 c1 c2 x y βa1 βa2 βc1 βc2) Q a0 w0 3 :=
  obl_val (.load 3 (.tmp 15)) none rfl (by kernel_rfl) fun a w N H D => ⟨(fun _ _ hg => by cases hg), fun _ ho => wp_lkI ho (fact_eq (c := .pointer (some ⟨q, 0, none⟩)) (D 2 (by kernel_rfl)) rfl (by kernel_rfl)) ((H.below.cell hq0.2).trans hq0.1)⟩
theorem wct_o4 (B n p q a1 a2 c1 c2 : Nat) (x y : Int) (βa1 βa2 βc1 βc2 : Bag) (Q : Exit → Act → World → Prop) (a0 : Act) (w0 : World)  : Obl Tryz.prog wct_ops (wct_S B n p q a1 a2 c1 c2 x y βa1 βa2 βc1 βc2) Q a0 w0 4 :=
  obl_val (.buildSlice 52 2 #[(0, .tmp 14), (1, .tmp 16)]) none rfl (by kernel_rfl) fun a w N H D => ⟨(fun _ _ hg => by cases hg), fun _ ho => wp_build2i ho (fact_eq (c := .int .i64 x) (D 1 (by kernel_rfl)) rfl (by kernel_rfl)) (fact_eq (c := .int .i64 y) (D 3 (by kernel_rfl)) rfl (by kernel_rfl))⟩
theorem wct_o5 (B n p q a1 a2 c1 c2 : Nat) (x y : Int) (βa1 βa2 βc1 βc2 : Bag) (Q : Exit → Act → World → Prop) (a0 : Act) (w0 : World) (hx : 0 ≤ x ∧ x ≤ mostI) (hy : 0 ≤ y ∧ y ≤ mostI) : Obl Tryz.prog wct_ops (wct_S B n p q a1 a2 c1 c2 x y βa1 βa2 βc1 βc2) Q a0 w0 5 :=
  obl_val (.call { callee := .value (.func 185), args := #[.tmp 17], argTypes := #[52] }) none rfl (by kernel_rfl) fun a w N H D => ⟨(fun _ _ hg => by cases hg), fun _ ho => wp_mul2 ho (fact_val (D 4 (by kernel_rfl)) rfl (by kernel_rfl)) (kn_i64 hx) (kn_i64 hy)⟩
theorem wct_o6 (B n p q a1 a2 c1 c2 : Nat) (x y : Int) (βa1 βa2 βc1 βc2 : Bag) (Q : Exit → Act → World → Prop) (a0 : Act) (w0 : World) (hsp : a0.tmps.getD 4 undef = .pointer (some ⟨p, 0, none⟩)) : Obl Tryz.prog wct_ops (wct_S B n p q a1 a2 c1 c2 x y βa1 βa2 βc1 βc2) Q a0 w0 6 :=
  obl_val (.fieldAddr 137 (.tmp 4) 1) none rfl (by kernel_rfl) fun a w N H D => ⟨(fun _ _ hg => by cases hg), fun _ ho => wp_fk1 ho (held_base H 4 (by kernel_rfl) hsp)⟩
theorem wct_o7 (B n p q a1 a2 c1 c2 : Nat) (x y : Int) (βa1 βa2 βc1 βc2 : Bag) (Q : Exit → Act → World → Prop) (a0 : Act) (w0 : World) (hp1 : w0.cell? ⟨p, 1, none⟩ = some (mapV a1) ∧ p < w0.heap.size) : Obl Tryz.prog wct_ops (wct_S B n p q a1 a2 c1 c2 x y βa1 βa2 βc1 βc2) Q a0 w0 7 :=
  obl_val (.load 135 (.tmp 19)) none rfl (by kernel_rfl) fun a w N H D => ⟨(fun _ _ hg => by cases hg), fun _ ho => wp_lkM ho (fact_eq (c := .pointer (some ⟨p, 1, none⟩)) (D 6 (by kernel_rfl)) rfl (by kernel_rfl)) ((H.below.cell hp1.2).trans hp1.1)⟩
theorem wct_o8 (B n p q a1 a2 c1 c2 : Nat) (x y : Int) (βa1 βa2 βc1 βc2 : Bag) (Q : Exit → Act → World → Prop) (a0 : Act) (w0 : World) (hsq : a0.tmps.getD 5 undef = .pointer (some ⟨q, 0, none⟩)) : Obl Tryz.prog wct_ops (wct_S B n p q a1 a2 c1 c2 x y βa1 βa2 βc1 βc2) Q a0 w0 8 :=
  obl_val (.fieldAddr 137 (.tmp 5) 1) none rfl (by kernel_rfl) fun a w N H D => ⟨(fun _ _ hg => by cases hg), fun _ ho => wp_fk1 ho (held_base H 5 (by kernel_rfl) hsq)⟩
theorem wct_o9 (B n p q a1 a2 c1 c2 : Nat) (x y : Int) (βa1 βa2 βc1 βc2 : Bag) (Q : Exit → Act → World → Prop) (a0 : Act) (w0 : World) (hq1 : w0.cell? ⟨q, 1, none⟩ = some (mapV c1) ∧ q < w0.heap.size) : Obl Tryz.prog wct_ops (wct_S B n p q a1 a2 c1 c2 x y βa1 βa2 βc1 βc2) Q a0 w0 9 :=
  obl_val (.load 135 (.tmp 21)) none rfl (by kernel_rfl) fun a w N H D => ⟨(fun _ _ hg => by cases hg), fun _ ho => wp_lkM ho (fact_eq (c := .pointer (some ⟨q, 1, none⟩)) (D 8 (by kernel_rfl)) rfl (by kernel_rfl)) ((H.below.cell hq1.2).trans hq1.1)⟩
theorem wct_o10 (B n p q a1 a2 c1 c2 : Nat) (x y : Int) (βa1 βa2 βc1 βc2 : Bag) (Q : Exit → Act → World → Prop) (a0 : Act) (w0 : World) (hsp : a0.tmps.getD 4 undef = .pointer (some ⟨p, 0, none⟩)) : Obl Tryz.prog wct_ops (wct_S B n p q a1 a2 c1 c2 x y βa1 βa2 βc1 βc2) Q a0 w0 10 :=
  obl_val (.fieldAddr 137 (.tmp 4) 0) none rfl (by kernel_rfl) fun a w N H D => ⟨(fun _ _ hg => by cases hg), fun _ ho => wp_fk0 ho (held_base H 4 (by kernel_rfl) hsp)⟩
theorem wct_o11 (B n p q a1 a2 c1 c2 : Nat) (x y : Int) (βa1 βa2 βc1 βc2 : Bag) (Q : Exit → Act → World → Prop) (a0 : Act) (w0 : World) (hp0 : w0.cell? ⟨p, 0, none⟩ = some (.int .i64 x) ∧ p < w0.heap.size) : Obl Tryz.prog wct_ops (wct_S B n p q a1 a2 c1 c2 x y βa1 βa2 βc1 βc2) Q a0 w0 11 :=
  obl_val (.load 3 (.tmp 23)) none rfl (by kernel_rfl) fun a w N H D => ⟨(fun _ _ hg => by cases hg), fun _ ho => wp_lkI ho (fact_eq (c := .pointer (some ⟨p, 0, none⟩)) (D 10 (by kernel_rfl)) rfl (by kernel_rfl)) ((H.below.cell hp0.2).trans hp0.1)⟩
theorem wct_o12 (B n p q a1 a2 c1 c2 : Nat) (x y : Int) (βa1 βa2 βc1 βc2 : Bag) (Q : Exit → Act → World → Prop) (a0 : Act) (w0 : World) (ba1 : BagAt w0 n a1 βa1) (bc1 : BagAt w0 n c1 βc1) (hx : 0 ≤ x ∧ x ≤ mostI) (hn : n ≤ 1000) (hB : B ≤ w0.heap.size) : Obl Tryz.prog wct_ops (wct_S B n p q a1 a2 c1 c2 x y βa1 βa2 βc1 βc2) Q a0 w0 12 :=
  obl_val (.call { callee := .value (.func 141), args := #[.tmp 20, .tmp 22, .tmp 24], argTypes := #[135, 135, 3] }) none rfl (by kernel_rfl) fun a w N H D => ⟨(fun _ _ hg => by cases hg), fun _ ho => wp_sum ho (fact_eq (c := mapV a1) (D 7 (by kernel_rfl)) rfl (by kernel_rfl)) (fact_eq (c := mapV c1) (D 9 (by kernel_rfl)) rfl (by kernel_rfl)) (fact_eq (c := .int .i64 x) (D 11 (by kernel_rfl)) rfl (by kernel_rfl)) (ba1.heap (H.below.block _ ba1.lt)) (bc1.heap (H.below.block _ bc1.lt)) hn hx (Nat.le_trans hB H.below.size)⟩
theorem wct_o13 (B n p q a1 a2 c1 c2 : Nat) (x y : Int) (βa1 βa2 βc1 βc2 : Bag) (Q : Exit → Act → World → Prop) (a0 : Act) (w0 : World) (hsq : a0.tmps.getD 5 undef = .pointer (some ⟨q, 0, none⟩)) : Obl Tryz.prog wct_ops (wct_S B n p q a1 a2 c1 c2 x y βa1 βa2 βc1 βc2) Q a0 w0 13 :=
  obl_val (.fieldAddr 137 (.tmp 5) 2) none rfl (by kernel_rfl) fun a w N H D => ⟨(fun _ _ hg => by cases hg), fun _ ho => wp_fk2 ho (held_base H 5 (by kernel_rfl) hsq)⟩
theorem wct_o14 (B n p q a1 a2 c1 c2 : Nat) (x y : Int) (βa1 βa2 βc1 βc2 : Bag) (Q : Exit → Act → World → Prop) (a0 : Act) (w0 : World) (hq2 : w0.cell? ⟨q, 2, none⟩ = some (mapV c2) ∧ q < w0.heap.size) : Obl Tryz.prog wct_ops (wct_S B n p q a1 a2 c1 c2 x y βa1 βa2 βc1 βc2) Q a0 w0 14 :=
  obl_val (.load 135 (.tmp 26)) none rfl (by kernel_rfl) fun a w N H D => ⟨(fun _ _ hg => by cases hg), fun _ ho => wp_lkM ho (fact_eq (c := .pointer (some ⟨q, 2, none⟩)) (D 13 (by kernel_rfl)) rfl (by kernel_rfl)) ((H.below.cell hq2.2).trans hq2.1)⟩
theorem wct_o15 (B n p q a1 a2 c1 c2 : Nat) (x y : Int) (βa1 βa2 βc1 βc2 : Bag) (Q : Exit → Act → World → Prop) (a0 : Act) (w0 : World) (hsp : a0.tmps.getD 4 undef = .pointer (some ⟨p, 0, none⟩)) : Obl Tryz.prog wct_ops (wct_S B n p q a1 a2 c1 c2 x y βa1 βa2 βc1 βc2) Q a0 w0 15 :=
  obl_val (.fieldAddr 137 (.tmp 4) 2) none rfl (by kernel_rfl) fun a w N H D => ⟨(fun _ _ hg => by cases hg), fun _ ho => wp_fk2 ho (held_base H 4 (by kernel_rfl) hsp)⟩
theorem wct_o16 (B n p q a1 a2 c1 c2 : Nat) (x y : Int) (βa1 βa2 βc1 βc2 : Bag) (Q : Exit → Act → World → Prop) (a0 : Act) (w0 : World) (hp2 : w0.cell? ⟨p, 2, none⟩ = some (mapV a2) ∧ p < w0.heap.size) : Obl Tryz.prog wct_ops (wct_S B n p q a1 a2 c1 c2 x y βa1 βa2 βc1 βc2) Q a0 w0 16 :=
  obl_val (.load 135 (.tmp 28)) none rfl (by kernel_rfl) fun a w N H D => ⟨(fun _ _ hg => by cases hg), fun _ ho => wp_lkM ho (fact_eq (c := .pointer (some ⟨p, 2, none⟩)) (D 15 (by kernel_rfl)) rfl (by kernel_rfl)) ((H.below.cell hp2.2).trans hp2.1)⟩
theorem wct_o17 (B n p q a1 a2 c1 c2 : Nat) (x y : Int) (βa1 βa2 βc1 βc2 : Bag) (Q : Exit → Act → World → Prop) (a0 : Act) (w0 : World) (hsq : a0.tmps.getD 5 undef = .pointer (some ⟨q, 0, none⟩)) : Obl Tryz.prog wct_ops (wct_S B n p q a1 a2 c1 c2 x y βa1 βa2 βc1 βc2) Q a0 w0 17 :=
  obl_val (.fieldAddr 137 (.tmp 5) 0) none rfl (by kernel_rfl) fun a w N H D => ⟨(fun _ _ hg => by cases hg), fun _ ho => wp_fk0 ho (held_base H 5 (by kernel_rfl) hsq)⟩
theorem wct_o18 (B n p q a1 a2 c1 c2 : Nat) (x y : Int) (βa1 βa2 βc1 βc2 : Bag) (Q : Exit → Act → World → Prop) (a0 : Act) (w0 : World) (hq0 : w0.cell? ⟨q, 0, none⟩ = some (.int .i64 y) ∧ q < w0.heap.size) : Obl Tryz.prog wct_ops (wct_S B n p q a1 a2 c1 c2 x y βa1 βa2 βc1 βc2) Q a0 w0 18 :=
  obl_val (.load 3 (.tmp 30)) none rfl (by kernel_rfl) fun a w N H D => ⟨(fun _ _ hg => by cases hg), fun _ ho => wp_lkI ho (fact_eq (c := .pointer (some ⟨q, 0, none⟩)) (D 17 (by kernel_rfl)) rfl (by kernel_rfl)) ((H.below.cell hq0.2).trans hq0.1)⟩
theorem wct_o19 (B n p q a1 a2 c1 c2 : Nat) (x y : Int) (βa1 βa2 βc1 βc2 : Bag) (Q : Exit → Act → World → Prop) (a0 : Act) (w0 : World) (ba2 : BagAt w0 n a2 βa2) (bc2 : BagAt w0 n c2 βc2) (hy : 0 ≤ y ∧ y ≤ mostI) (hn : n ≤ 1000) (hB : B ≤ w0.heap.size) : Obl Tryz.prog wct_ops (wct_S B n p q a1 a2 c1 c2 x y βa1 βa2 βc1 βc2) Q a0 w0 19 :=
  obl_val (.call { callee := .value (.func 141), args := #[.tmp 27, .tmp 29, .tmp 31], argTypes := #[135, 135, 3] }) none rfl (by kernel_rfl) fun a w N H D => ⟨(fun _ _ hg => by cases hg), fun _ ho => wp_sum ho (fact_eq (c := mapV c2) (D 14 (by kernel_rfl)) rfl (by kernel_rfl)) (fact_eq (c := mapV a2) (D 16 (by kernel_rfl)) rfl (by kernel_rfl)) (fact_eq (c := .int .i64 y) (D 18 (by kernel_rfl)) rfl (by kernel_rfl)) (bc2.heap (H.below.block _ bc2.lt)) (ba2.heap (H.below.block _ ba2.lt)) hn hy (Nat.le_trans hB H.below.size)⟩
theorem wct_o20 (B n p q a1 a2 c1 c2 : Nat) (x y : Int) (βa1 βa2 βc1 βc2 : Bag) (Q : Exit → Act → World → Prop) (a0 : Act) (w0 : World)  : Obl Tryz.prog wct_ops (wct_S B n p q a1 a2 c1 c2 x y βa1 βa2 βc1 βc2) Q a0 w0 20 :=
  obl_val (.build 137 #[(0, .tmp 18), (1, .tmp 25), (2, .tmp 32)]) none rfl (by kernel_rfl) fun a w N H D => ⟨(fun _ _ hg => by cases hg), fun _ ho => wp_build_known (k := ⟨(mulL [x, y]), (sumB βa1 βc1 x), (sumB βc2 βa2 y)⟩) ho (fact_eq (c := .int .i64 (mulL [x, y])) (D 5 (by kernel_rfl)) rfl (by kernel_rfl)) (fact_val (D 12 (by kernel_rfl)) rfl (by kernel_rfl)) (fact_val (D 19 (by kernel_rfl)) rfl (by kernel_rfl))⟩
theorem wct_all (B n p q a1 a2 c1 c2 : Nat) (x y : Int) (βa1 βa2 βc1 βc2 : Bag) (Q : Exit → Act → World → Prop) (a0 : Act) (w0 : World) (hsp : a0.tmps.getD 4 undef = .pointer (some ⟨p, 0, none⟩)) (hsq : a0.tmps.getD 5 undef = .pointer (some ⟨q, 0, none⟩)) (hp0 : w0.cell? ⟨p, 0, none⟩ = some (.int .i64 x) ∧ p < w0.heap.size) (hp1 : w0.cell? ⟨p, 1, none⟩ = some (mapV a1) ∧ p < w0.heap.size) (hp2 : w0.cell? ⟨p, 2, none⟩ = some (mapV a2) ∧ p < w0.heap.size) (hq0 : w0.cell? ⟨q, 0, none⟩ = some (.int .i64 y) ∧ q < w0.heap.size) (hq1 : w0.cell? ⟨q, 1, none⟩ = some (mapV c1) ∧ q < w0.heap.size) (hq2 : w0.cell? ⟨q, 2, none⟩ = some (mapV c2) ∧ q < w0.heap.size) (ba1 : BagAt w0 n a1 βa1) (ba2 : BagAt w0 n a2 βa2) (bc1 : BagAt w0 n c1 βc1) (bc2 : BagAt w0 n c2 βc2) (hx : 0 ≤ x ∧ x ≤ mostI) (hy : 0 ≤ y ∧ y ≤ mostI) (hn : n ≤ 1000) (hB : B ≤ w0.heap.size) : ∀ i, i < 21 → Obl Tryz.prog wct_ops (wct_S B n p q a1 a2 c1 c2 x y βa1 βa2 βc1 βc2) Q a0 w0 i := by
  intro i hi_
  match i, hi_ with
  | 0, _ => exact wct_o0 B n p q a1 a2 c1 c2 x y βa1 βa2 βc1 βc2  Q a0 w0 hsp
  | 1, _ => exact wct_o1 B n p q a1 a2 c1 c2 x y βa1 βa2 βc1 βc2  Q a0 w0 hp0
  | 2, _ => exact wct_o2 B n p q a1 a2 c1 c2 x y βa1 βa2 βc1 βc2  Q a0 w0 hsq
  | 3, _ => exact wct_o3 B n p q a1 a2 c1 c2 x y βa1 βa2 βc1 βc2  Q a0 w0 hq0
  | 4, _ => exact wct_o4 B n p q a1 a2 c1 c2 x y βa1 βa2 βc1 βc2  Q a0 w0 
  | 5, _ => exact wct_o5 B n p q a1 a2 c1 c2 x y βa1 βa2 βc1 βc2  Q a0 w0 hx hy
  | 6, _ => exact wct_o6 B n p q a1 a2 c1 c2 x y βa1 βa2 βc1 βc2  Q a0 w0 hsp
  | 7, _ => exact wct_o7 B n p q a1 a2 c1 c2 x y βa1 βa2 βc1 βc2  Q a0 w0 hp1
  | 8, _ => exact wct_o8 B n p q a1 a2 c1 c2 x y βa1 βa2 βc1 βc2  Q a0 w0 hsq
  | 9, _ => exact wct_o9 B n p q a1 a2 c1 c2 x y βa1 βa2 βc1 βc2  Q a0 w0 hq1
  | 10, _ => exact wct_o10 B n p q a1 a2 c1 c2 x y βa1 βa2 βc1 βc2  Q a0 w0 hsp
  | 11, _ => exact wct_o11 B n p q a1 a2 c1 c2 x y βa1 βa2 βc1 βc2  Q a0 w0 hp0
  | 12, _ => exact wct_o12 B n p q a1 a2 c1 c2 x y βa1 βa2 βc1 βc2  Q a0 w0 ba1 bc1 hx hn hB
  | 13, _ => exact wct_o13 B n p q a1 a2 c1 c2 x y βa1 βa2 βc1 βc2  Q a0 w0 hsq
  | 14, _ => exact wct_o14 B n p q a1 a2 c1 c2 x y βa1 βa2 βc1 βc2  Q a0 w0 hq2
  | 15, _ => exact wct_o15 B n p q a1 a2 c1 c2 x y βa1 βa2 βc1 βc2  Q a0 w0 hsp
  | 16, _ => exact wct_o16 B n p q a1 a2 c1 c2 x y βa1 βa2 βc1 βc2  Q a0 w0 hp2
  | 17, _ => exact wct_o17 B n p q a1 a2 c1 c2 x y βa1 βa2 βc1 βc2  Q a0 w0 hsq
  | 18, _ => exact wct_o18 B n p q a1 a2 c1 c2 x y βa1 βa2 βc1 βc2  Q a0 w0 hq0
  | 19, _ => exact wct_o19 B n p q a1 a2 c1 c2 x y βa1 βa2 βc1 βc2  Q a0 w0 ba2 bc2 hy hn hB
  | 20, _ => exact wct_o20 B n p q a1 a2 c1 c2 x y βa1 βa2 βc1 βc2  Q a0 w0 
  | i + 21, h => exact absurd h (by omega)
noncomputable def wal_ops : Array Oper := regOf Tryz.f94 10
def wal_S (B n p q a1 a2 c1 c2 : Nat) (x y : Int) (βa1 βa2 βc1 βc2 : Bag) : List RK := [RK.eq (.pointer (some ⟨p, 0, none⟩)), RK.eq (.int .i64 x), RK.eq (.pointer (some ⟨q, 0, none⟩)), RK.eq (.int .i64 y), RK.val (RG.ints [x, y]), RK.eq (.int .i64 (addL [x, y])), RK.eq (.pointer (some ⟨p, 1, none⟩)), RK.eq (mapV a1), RK.eq (.pointer (some ⟨q, 1, none⟩)), RK.eq (mapV c1), RK.val (RG.bag B n (sumB βa1 βc1 1)), RK.eq (.pointer (some ⟨p, 2, none⟩)), RK.eq (mapV a2), RK.eq (.pointer (some ⟨q, 2, none⟩)), RK.eq (mapV c2), RK.val (RG.bag B n (sumB βa2 βc2 1)), RK.val (RG.known B n ⟨(addL [x, y]), (sumB βa1 βc1 1), (sumB βa2 βc2 1)⟩)]
theorem wal_o0 (B n p q a1 a2 c1 c2 : Nat) (x y : Int) (βa1 βa2 βc1 βc2 : Bag) (Q : Exit → Act → World → Prop) (a0 : Act) (w0 : World) (hsp : a0.tmps.getD 6 undef = .pointer (some ⟨p, 0, none⟩)) : Obl Tryz.prog wal_ops (wal_S B n p q a1 a2 c1 c2 x y βa1 βa2 βc1 βc2) Q a0 w0 0 :=
  obl_val (.fieldAddr 137 (.tmp 6) 0) none rfl (by kernel_rfl) fun a w N H D => ⟨(fun _ _ hg => by cases hg), fun _ ho => wp_fk0 ho (held_base H 6 (by kernel_rfl) hsp)⟩
theorem wal_o1 (B n p q a1 a2 c1 c2 : Nat) (x y : Int) (βa1 βa2 βc1 βc2 : Bag) (Q : Exit → Act → World → Prop) (a0 : Act) (w0 : World) (hp0 : w0.cell? ⟨p, 0, none⟩ = some (.int .i64 x) ∧ p < w0.heap.size) : Obl Tryz.prog wal_ops (wal_S B n p q a1 a2 c1 c2 x y βa1 βa2 βc1 βc2) Q a0 w0 1 :=
  obl_val (.load 3 (.tmp 52)) none rfl (by kernel_rfl) fun a w N H D => ⟨(fun _ _ hg => by cases hg), fun _ ho => wp_lkI ho (fact_eq (c := .pointer (some ⟨p, 0, none⟩)) (D 0 (by kernel_rfl)) rfl (by kernel_rfl)) ((H.below.cell hp0.2).trans hp0.1)⟩
theorem wal_o2 (B n p q a1 a2 c1 c2 : Nat) (x y : Int) (βa1 βa2 βc1 βc2 : Bag) (Q : Exit → Act → World → Prop) (a0 : Act) (w0 : World) (hsq : a0.tmps.getD 7 undef = .pointer (some ⟨q, 0, none⟩)) : Obl Tryz.prog wal_ops (wal_S B n p q a1 a2 c1 c2 x y βa1 βa2 βc1 βc2) Q a0 w0 2 :=
  obl_val (.fieldAddr 137 (.tmp 7) 0) none rfl (by kernel_rfl) fun a w N H D => ⟨(fun _ _ hg => by cases hg), fun _ ho => wp_fk0 ho (held_base H 7 (by kernel_rfl) hsq)⟩
theorem wal_o3 (B n p q a1 a2 c1 c2 : Nat) (x y : Int) (βa1 βa2 βc1 βc2 : Bag) (Q : Exit → Act → World → Prop) (a0 : Act) (w0 : World) (hq0 : w0.cell? ⟨q, 0, none⟩ = some (.int .i64 y) ∧ q < w0.heap.size) : Obl Tryz.prog wal_ops (wal_S B n p q a1 a2 c1 c2 x y βa1 βa2 βc1 βc2) Q a0 w0 3 :=
  obl_val (.load 3 (.tmp 54)) none rfl (by kernel_rfl) fun a w N H D => ⟨(fun _ _ hg => by cases hg), fun _ ho => wp_lkI ho (fact_eq (c := .pointer (some ⟨q, 0, none⟩)) (D 2 (by kernel_rfl)) rfl (by kernel_rfl)) ((H.below.cell hq0.2).trans hq0.1)⟩
theorem wal_o4 (B n p q a1 a2 c1 c2 : Nat) (x y : Int) (βa1 βa2 βc1 βc2 : Bag) (Q : Exit → Act → World → Prop) (a0 : Act) (w0 : World)  : Obl Tryz.prog wal_ops (wal_S B n p q a1 a2 c1 c2 x y βa1 βa2 βc1 βc2) Q a0 w0 4 :=
  obl_val (.buildSlice 52 2 #[(0, .tmp 53), (1, .tmp 55)]) none rfl (by kernel_rfl) fun a w N H D => ⟨(fun _ _ hg => by cases hg), fun _ ho => wp_build2i ho (fact_eq (c := .int .i64 x) (D 1 (by kernel_rfl)) rfl (by kernel_rfl)) (fact_eq (c := .int .i64 y) (D 3 (by kernel_rfl)) rfl (by kernel_rfl))⟩
theorem wal_o5 (B n p q a1 a2 c1 c2 : Nat) (x y : Int) (βa1 βa2 βc1 βc2 : Bag) (Q : Exit → Act → World → Prop) (a0 : Act) (w0 : World) (hx : 0 ≤ x ∧ x ≤ mostI) (hy : 0 ≤ y ∧ y ≤ mostI) : Obl Tryz.prog wal_ops (wal_S B n p q a1 a2 c1 c2 x y βa1 βa2 βc1 βc2) Q a0 w0 5 :=
  obl_val (.call { callee := .value (.func 99), args := #[.tmp 56], argTypes := #[52] }) none rfl (by kernel_rfl) fun a w N H D => ⟨(fun _ _ hg => by cases hg), fun _ ho => wp_add2 ho (fact_val (D 4 (by kernel_rfl)) rfl (by kernel_rfl)) (kn_i64 hx) (kn_i64 hy)⟩
theorem wal_o6 (B n p q a1 a2 c1 c2 : Nat) (x y : Int) (βa1 βa2 βc1 βc2 : Bag) (Q : Exit → Act → World → Prop) (a0 : Act) (w0 : World) (hsp : a0.tmps.getD 6 undef = .pointer (some ⟨p, 0, none⟩)) : Obl Tryz.prog wal_ops (wal_S B n p q a1 a2 c1 c2 x y βa1 βa2 βc1 βc2) Q a0 w0 6 :=
  obl_val (.fieldAddr 137 (.tmp 6) 1) none rfl (by kernel_rfl) fun a w N H D => ⟨(fun _ _ hg => by cases hg), fun _ ho => wp_fk1 ho (held_base H 6 (by kernel_rfl) hsp)⟩
theorem wal_o7 (B n p q a1 a2 c1 c2 : Nat) (x y : Int) (βa1 βa2 βc1 βc2 : Bag) (Q : Exit → Act → World → Prop) (a0 : Act) (w0 : World) (hp1 : w0.cell? ⟨p, 1, none⟩ = some (mapV a1) ∧ p < w0.heap.size) : Obl Tryz.prog wal_ops (wal_S B n p q a1 a2 c1 c2 x y βa1 βa2 βc1 βc2) Q a0 w0 7 :=
  obl_val (.load 135 (.tmp 58)) none rfl (by kernel_rfl) fun a w N H D => ⟨(fun _ _ hg => by cases hg), fun _ ho => wp_lkM ho (fact_eq (c := .pointer (some ⟨p, 1, none⟩)) (D 6 (by kernel_rfl)) rfl (by kernel_rfl)) ((H.below.cell hp1.2).trans hp1.1)⟩
theorem wal_o8 (B n p q a1 a2 c1 c2 : Nat) (x y : Int) (βa1 βa2 βc1 βc2 : Bag) (Q : Exit → Act → World → Prop) (a0 : Act) (w0 : World) (hsq : a0.tmps.getD 7 undef = .pointer (some ⟨q, 0, none⟩)) : Obl Tryz.prog wal_ops (wal_S B n p q a1 a2 c1 c2 x y βa1 βa2 βc1 βc2) Q a0 w0 8 :=
  obl_val (.fieldAddr 137 (.tmp 7) 1) none rfl (by kernel_rfl) fun a w N H D => ⟨(fun _ _ hg => by cases hg), fun _ ho => wp_fk1 ho (held_base H 7 (by kernel_rfl) hsq)⟩
theorem wal_o9 (B n p q a1 a2 c1 c2 : Nat) (x y : Int) (βa1 βa2 βc1 βc2 : Bag) (Q : Exit → Act → World → Prop) (a0 : Act) (w0 : World) (hq1 : w0.cell? ⟨q, 1, none⟩ = some (mapV c1) ∧ q < w0.heap.size) : Obl Tryz.prog wal_ops (wal_S B n p q a1 a2 c1 c2 x y βa1 βa2 βc1 βc2) Q a0 w0 9 :=
  obl_val (.load 135 (.tmp 60)) none rfl (by kernel_rfl) fun a w N H D => ⟨(fun _ _ hg => by cases hg), fun _ ho => wp_lkM ho (fact_eq (c := .pointer (some ⟨q, 1, none⟩)) (D 8 (by kernel_rfl)) rfl (by kernel_rfl)) ((H.below.cell hq1.2).trans hq1.1)⟩
theorem wal_o10 (B n p q a1 a2 c1 c2 : Nat) (x y : Int) (βa1 βa2 βc1 βc2 : Bag) (Q : Exit → Act → World → Prop) (a0 : Act) (w0 : World) (ba1 : BagAt w0 n a1 βa1) (bc1 : BagAt w0 n c1 βc1) (hn : n ≤ 1000) (hB : B ≤ w0.heap.size) : Obl Tryz.prog wal_ops (wal_S B n p q a1 a2 c1 c2 x y βa1 βa2 βc1 βc2) Q a0 w0 10 :=
  obl_val (.call { callee := .value (.func 141), args := #[.tmp 59, .tmp 61, .const (.int .i64 1)], argTypes := #[135, 135, 3] }) none rfl (by kernel_rfl) fun a w N H D => ⟨(fun _ _ hg => by cases hg), fun _ ho => wp_sum ho (fact_eq (c := mapV a1) (D 7 (by kernel_rfl)) rfl (by kernel_rfl)) (fact_eq (c := mapV c1) (D 9 (by kernel_rfl)) rfl (by kernel_rfl)) rfl (ba1.heap (H.below.block _ ba1.lt)) (bc1.heap (H.below.block _ bc1.lt)) hn kn_one (Nat.le_trans hB H.below.size)⟩
theorem wal_o11 (B n p q a1 a2 c1 c2 : Nat) (x y : Int) (βa1 βa2 βc1 βc2 : Bag) (Q : Exit → Act → World → Prop) (a0 : Act) (w0 : World) (hsp : a0.tmps.getD 6 undef = .pointer (some ⟨p, 0, none⟩)) : Obl Tryz.prog wal_ops (wal_S B n p q a1 a2 c1 c2 x y βa1 βa2 βc1 βc2) Q a0 w0 11 :=
  obl_val (.fieldAddr 137 (.tmp 6) 2) none rfl (by kernel_rfl) fun a w N H D => ⟨(fun _ _ hg => by cases hg), fun _ ho => wp_fk2 ho (held_base H 6 (by kernel_rfl) hsp)⟩
theorem wal_o12 (B n p q a1 a2 c1 c2 : Nat) (x y : Int) (βa1 βa2 βc1 βc2 : Bag) (Q : Exit → Act → World → Prop) (a0 : Act) (w0 : World) (hp2 : w0.cell? ⟨p, 2, none⟩ = some (mapV a2) ∧ p < w0.heap.size) : Obl Tryz.prog wal_ops (wal_S B n p q a1 a2 c1 c2 x y βa1 βa2 βc1 βc2) Q a0 w0 12 :=
  obl_val (.load 135 (.tmp 63)) none rfl (by kernel_rfl) fun a w N H D => ⟨(fun _ _ hg => by cases hg), fun _ ho => wp_lkM ho (fact_eq (c := .pointer (some ⟨p, 2, none⟩)) (D 11 (by kernel_rfl)) rfl (by kernel_rfl)) ((H.below.cell hp2.2).trans hp2.1)⟩
theorem wal_o13 (B n p q a1 a2 c1 c2 : Nat) (x y : Int) (βa1 βa2 βc1 βc2 : Bag) (Q : Exit → Act → World → Prop) (a0 : Act) (w0 : World) (hsq : a0.tmps.getD 7 undef = .pointer (some ⟨q, 0, none⟩)) : Obl Tryz.prog wal_ops (wal_S B n p q a1 a2 c1 c2 x y βa1 βa2 βc1 βc2) Q a0 w0 13 :=
  obl_val (.fieldAddr 137 (.tmp 7) 2) none rfl (by kernel_rfl) fun a w N H D => ⟨(fun _ _ hg => by cases hg), fun _ ho => wp_fk2 ho (held_base H 7 (by kernel_rfl) hsq)⟩
theorem wal_o14 (B n p q a1 a2 c1 c2 : Nat) (x y : Int) (βa1 βa2 βc1 βc2 : Bag) (Q : Exit → Act → World → Prop) (a0 : Act) (w0 : World) (hq2 : w0.cell? ⟨q, 2, none⟩ = some (mapV c2) ∧ q < w0.heap.size) : Obl Tryz.prog wal_ops (wal_S B n p q a1 a2 c1 c2 x y βa1 βa2 βc1 βc2) Q a0 w0 14 :=
  obl_val (.load 135 (.tmp 65)) none rfl (by kernel_rfl) fun a w N H D => ⟨(fun _ _ hg => by cases hg), fun _ ho => wp_lkM ho (fact_eq (c := .pointer (some ⟨q, 2, none⟩)) (D 13 (by kernel_rfl)) rfl (by kernel_rfl)) ((H.below.cell hq2.2).trans hq2.1)⟩
theorem wal_o15 (B n p q a1 a2 c1 c2 : Nat) (x y : Int) (βa1 βa2 βc1 βc2 : Bag) (Q : Exit → Act → World → Prop) (a0 : Act) (w0 : World) (ba2 : BagAt w0 n a2 βa2) (bc2 : BagAt w0 n c2 βc2) (hn : n ≤ 1000) (hB : B ≤ w0.heap.size) : Obl Tryz.prog wal_ops (wal_S B n p q a1 a2 c1 c2 x y βa1 βa2 βc1 βc2) Q a0 w0 15 :=
  obl_val (.call { callee := .value (.func 141), args := #[.tmp 64, .tmp 66, .const (.int .i64 1)], argTypes := #[135, 135, 3] }) none rfl (by kernel_rfl) fun a w N H D => ⟨(fun _ _ hg => by cases hg), fun _ ho => wp_sum ho (fact_eq (c := mapV a2) (D 12 (by kernel_rfl)) rfl (by kernel_rfl)) (fact_eq (c := mapV c2) (D 14 (by kernel_rfl)) rfl (by kernel_rfl)) rfl (ba2.heap (H.below.block _ ba2.lt)) (bc2.heap (H.below.block _ bc2.lt)) hn kn_one (Nat.le_trans hB H.below.size)⟩
theorem wal_o16 (B n p q a1 a2 c1 c2 : Nat) (x y : Int) (βa1 βa2 βc1 βc2 : Bag) (Q : Exit → Act → World → Prop) (a0 : Act) (w0 : World)  : Obl Tryz.prog wal_ops (wal_S B n p q a1 a2 c1 c2 x y βa1 βa2 βc1 βc2) Q a0 w0 16 :=
  obl_val (.build 137 #[(0, .tmp 57), (1, .tmp 62), (2, .tmp 67)]) none rfl (by kernel_rfl) fun a w N H D => ⟨(fun _ _ hg => by cases hg), fun _ ho => wp_build_known (k := ⟨(addL [x, y]), (sumB βa1 βc1 1), (sumB βa2 βc2 1)⟩) ho (fact_eq (c := .int .i64 (addL [x, y])) (D 5 (by kernel_rfl)) rfl (by kernel_rfl)) (fact_val (D 10 (by kernel_rfl)) rfl (by kernel_rfl)) (fact_val (D 15 (by kernel_rfl)) rfl (by kernel_rfl))⟩
theorem wal_all (B n p q a1 a2 c1 c2 : Nat) (x y : Int) (βa1 βa2 βc1 βc2 : Bag) (Q : Exit → Act → World → Prop) (a0 : Act) (w0 : World) (hsp : a0.tmps.getD 6 undef = .pointer (some ⟨p, 0, none⟩)) (hsq : a0.tmps.getD 7 undef = .pointer (some ⟨q, 0, none⟩)) (hp0 : w0.cell? ⟨p, 0, none⟩ = some (.int .i64 x) ∧ p < w0.heap.size) (hp1 : w0.cell? ⟨p, 1, none⟩ = some (mapV a1) ∧ p < w0.heap.size) (hp2 : w0.cell? ⟨p, 2, none⟩ = some (mapV a2) ∧ p < w0.heap.size) (hq0 : w0.cell? ⟨q, 0, none⟩ = some (.int .i64 y) ∧ q < w0.heap.size) (hq1 : w0.cell? ⟨q, 1, none⟩ = some (mapV c1) ∧ q < w0.heap.size) (hq2 : w0.cell? ⟨q, 2, none⟩ = some (mapV c2) ∧ q < w0.heap.size) (ba1 : BagAt w0 n a1 βa1) (ba2 : BagAt w0 n a2 βa2) (bc1 : BagAt w0 n c1 βc1) (bc2 : BagAt w0 n c2 βc2) (hx : 0 ≤ x ∧ x ≤ mostI) (hy : 0 ≤ y ∧ y ≤ mostI) (hn : n ≤ 1000) (hB : B ≤ w0.heap.size) : ∀ i, i < 17 → Obl Tryz.prog wal_ops (wal_S B n p q a1 a2 c1 c2 x y βa1 βa2 βc1 βc2) Q a0 w0 i := by
  intro i hi_
  match i, hi_ with
  | 0, _ => exact wal_o0 B n p q a1 a2 c1 c2 x y βa1 βa2 βc1 βc2  Q a0 w0 hsp
  | 1, _ => exact wal_o1 B n p q a1 a2 c1 c2 x y βa1 βa2 βc1 βc2  Q a0 w0 hp0
  | 2, _ => exact wal_o2 B n p q a1 a2 c1 c2 x y βa1 βa2 βc1 βc2  Q a0 w0 hsq
  | 3, _ => exact wal_o3 B n p q a1 a2 c1 c2 x y βa1 βa2 βc1 βc2  Q a0 w0 hq0
  | 4, _ => exact wal_o4 B n p q a1 a2 c1 c2 x y βa1 βa2 βc1 βc2  Q a0 w0 
  | 5, _ => exact wal_o5 B n p q a1 a2 c1 c2 x y βa1 βa2 βc1 βc2  Q a0 w0 hx hy
  | 6, _ => exact wal_o6 B n p q a1 a2 c1 c2 x y βa1 βa2 βc1 βc2  Q a0 w0 hsp
  | 7, _ => exact wal_o7 B n p q a1 a2 c1 c2 x y βa1 βa2 βc1 βc2  Q a0 w0 hp1
  | 8, _ => exact wal_o8 B n p q a1 a2 c1 c2 x y βa1 βa2 βc1 βc2  Q a0 w0 hsq
  | 9, _ => exact wal_o9 B n p q a1 a2 c1 c2 x y βa1 βa2 βc1 βc2  Q a0 w0 hq1
  | 10, _ => exact wal_o10 B n p q a1 a2 c1 c2 x y βa1 βa2 βc1 βc2  Q a0 w0 ba1 bc1 hn hB
  | 11, _ => exact wal_o11 B n p q a1 a2 c1 c2 x y βa1 βa2 βc1 βc2  Q a0 w0 hsp
  | 12, _ => exact wal_o12 B n p q a1 a2 c1 c2 x y βa1 βa2 βc1 βc2  Q a0 w0 hp2
  | 13, _ => exact wal_o13 B n p q a1 a2 c1 c2 x y βa1 βa2 βc1 βc2  Q a0 w0 hsq
  | 14, _ => exact wal_o14 B n p q a1 a2 c1 c2 x y βa1 βa2 βc1 βc2  Q a0 w0 hq2
  | 15, _ => exact wal_o15 B n p q a1 a2 c1 c2 x y βa1 βa2 βc1 βc2  Q a0 w0 ba2 bc2 hn hB
  | 16, _ => exact wal_o16 B n p q a1 a2 c1 c2 x y βa1 βa2 βc1 βc2  Q a0 w0 
  | i + 17, h => exact absurd h (by omega)
end Go.Proofs.YtpiimcbbgalhfaaGreatDoor
