/- Operations for regions: bytes in a row, a set of some bytes, four sets in a row. -/
import Derived.Test.YtofhkgafgnldnaaDoorOps
import Derived.Test.YtofhkgafgnldnaaDoorOf
import Derived.Test.YtofhkgafgnldnaaDoorUnion
namespace Go.Proofs.YtofhkgafgnldnaaDoor
open Go.RowKit
section
variable {ops : Array Oper} {S : List RK} {Q : Exit → Act → World → Prop} {a0 : Act} {w0 : World} {a : Act} {w : World} {N : Nat → Prop}
/-- It reads as the numbers l, in blocks within N. -/
def RG.rd (k : IntKind) (l : List Int) : RG where
  g v w N := ∃ A c, v = .slice A l.length c ∧ l.length ≤ c ∧ l.length ≤ 140737488355328 ∧ ∀ i x, l[i]? = some x → ∃ ad, A = some ad ∧ N ad.block ∧ ad.block < w.heap.size ∧ w.cell? (ad.add i) = some (.int k x)
  mono := by
    rintro v w w' N N' ⟨A, c, rfl, h1, h2, h3⟩ hs hk
    refine ⟨A, c, rfl, h1, h2, fun i x hi => ?_⟩
    obtain ⟨ad, rfl, hN, hlt, hc⟩ := h3 i x hi
    have hb : w'.heap[ad.block]? = w.heap[ad.block]? := (hk _ hlt hN).2
    exact ⟨ad, rfl, (hk _ hlt hN).1, Nat.lt_of_lt_of_le hlt hs, (World.cell?_of_block (by rw [add_block]; exact hb)).trans hc⟩
theorem RG.rd_rd {k : IntKind} {v : Value} {l : List Int} (h : (RG.rd k l).g v w N) : Rd w k v l := by
  obtain ⟨A, c, rfl, h1, h2, h3⟩ := h
  refine ⟨A, c, rfl, h1, h2, fun i x hi => ?_⟩
  obtain ⟨ad, rfl, _, hlt, hc⟩ := h3 i x hi
  exact ⟨ad, rfl, hlt, hc⟩
theorem wp_build_u8 {o : Oper} {x : Operand} {p : Int} (ho : o.op = .buildSlice 38 1 #[(0, x)]) (hx : a.eval x = .int .u8 p) :
    o.wp Tryd.prog a w (fun a' w' => ∃ u, a' = a.put o.dst u ∧ Below w.heap.size w w' ∧ ∀ N' : Nat → Prop, (∀ k, k < w.heap.size → N k → N' k) → (∀ k, w.heap.size ≤ k → N' k) → (RG.rd .u8 [p]).g u w' N') Q := by
  have hr : (Instr.buildSlice 38 1 #[(0, .int .u8 p)]).run Tryd.prog w = .ok (.slice (some ⟨w.heap.size, 0, none⟩) 1 1) (w.alloc (.cells [.int .u8 p].toArray 5)) := by kernel_rfl
  refine wp_of_run (v := .slice (some ⟨w.heap.size, 0, none⟩) 1 1) (w' := w.alloc (.cells [.int .u8 p].toArray 5)) (by simp [execOp, ho, hx, hr, Result.andThen]) ?_
  refine ⟨_, rfl, (Below.refl _ w).alloc (Nat.le_refl _) _, fun N' _ hN => ⟨_, _, rfl, Nat.le_refl _, by simp, fun i x hi => ⟨_, rfl, hN _ (Nat.le_refl _), (Blk.new w [.int .u8 p] 5).lt, ?_⟩⟩⟩
  match i, hi with
  | 0, hi =>
    simp only [List.getElem?_cons_zero, Option.some.injEq] at hi
    subst hi
    exact (Blk.new w [.int .u8 p] 5).cell 0
  | i + 1, hi => simp at hi
theorem wp_of {o : Oper} {x : Operand} {ts : Array TypeId} {l : List Int} (ho : o.op = .call { callee := .value (.func 29), args := #[x], argTypes := ts }) (hx : (RG.rd .u8 l).g (a.eval x) w N) (hl : ∀ x ∈ l, 0 ≤ x ∧ x < 256) :
    o.wp Tryd.prog a w (fun a' w' => ∃ u, a' = a.put o.dst u ∧ Below w.heap.size w w' ∧ ∀ N' : Nat → Prop, (∀ k, k < w.heap.size → N k → N' k) → (∀ k, w.heap.size ≤ k → N' k) → (RG.eq (setV (ofM l))).g u w' N') Q :=
  wp_call_eq (xs := #[a.eval x]) ho (fun xs w => by kernel_rfl) (by simp only [List.map_toArray, List.map_cons, List.map_nil]) (of_any l _ w (RG.rd_rd hx) hl)
theorem run_build4 (m0 m1 m2 m3 : Nat → Bool) (w : World) : (Instr.buildSlice 89 4 #[(0, setV m0), (1, setV m1), (2, setV m2), (3, setV m3)]).run Tryd.prog w = .ok (.slice (some ⟨w.heap.size, 0, none⟩) 4 4) (w.alloc (.cells (setsC [m0, m1, m2, m3]).toArray 32)) := by kernel_rfl
theorem wp_build4 {o : Oper} {x0 x1 x2 x3 : Operand} {m0 m1 m2 m3 : Nat → Bool} (ho : o.op = .buildSlice 89 4 #[(0, x0), (1, x1), (2, x2), (3, x3)]) (h0 : a.eval x0 = setV m0) (h1 : a.eval x1 = setV m1) (h2 : a.eval x2 = setV m2) (h3 : a.eval x3 = setV m3) :
    o.wp Tryd.prog a w (fun a' w' => ∃ u, a' = a.put o.dst u ∧ Below w.heap.size w w' ∧ ∀ N' : Nat → Prop, (∀ k, k < w.heap.size → N k → N' k) → (∀ k, w.heap.size ≤ k → N' k) → (RG.sets [m0, m1, m2, m3]).g u w' N') Q := by
  have hr := run_build4 m0 m1 m2 m3 w
  refine wp_of_run (v := .slice (some ⟨w.heap.size, 0, none⟩) 4 4) (w' := w.alloc (.cells (setsC [m0, m1, m2, m3]).toArray 32)) (by simp only [execOp, ho, List.map_toArray, List.map_cons, List.map_nil, h0, h1, h2, h3]; simp [hr]) ⟨_, rfl, (Below.refl _ _).alloc (Nat.le_refl _) _, fun N' _ hN => ?_⟩
  exact RG.sets_own (World.ownsRow_lit (base := w.heap.size) (e := 32) (size := 4) w (setsC [m0, m1, m2, m3]).toArray 4 (Nat.le_refl _) (by unfold maxLen; omega) rfl) (by omega) hN
end
end Go.Proofs.YtofhkgafgnldnaaDoor
