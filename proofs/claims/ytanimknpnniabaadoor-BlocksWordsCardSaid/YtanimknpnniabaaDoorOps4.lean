/- More operations for regions that draw their order: numbers, lists of bytes. -/
import Derived.Test.YtanimknpnniabaaDoorOps
import Derived.Test.YtanimknpnniabaaDoorList
import Derived.Test.YtanimknpnniabaaDoorRefBytes
namespace Go.Proofs.YtanimknpnniabaaDoor
open Go.RowKit
section
variable {ops : Array Oper} {S : List RK} {Q : Exit → Act → World → Prop} {a0 : Act} {w0 : World} {a : Act} {w : World} {N : Nat → Prop}
/-- It reads as the numbers l, in blocks within N. -/
def RG.rd (k : IntKind) (l : List Int) : RG where
  g v w N := ∃ A c, v = .slice A l.length c ∧ l.length ≤ c ∧ l.length ≤ 140737488355328 ∧ ∀ i x, l[i]? = some x → ∃ ad, A = some ad ∧ N ad.block ∧ ad.block < w.heap.size ∧ w.cell? (ad.add i) = some (.int k x)
  mono := by
    rintro v w w' N N' ⟨A, c, rfl, h1, h2, h3⟩ hs hk
    refine ⟨A, c, rfl, h1, h2, fun i x hi => ?_⟩
    obtain ⟨ad, rfl, hN, hlt, hc⟩ := h3 i x hi
    have hb : w'.heap[ad.block]? = w.heap[ad.block]? := (hk _ hlt hN).2
    exact ⟨ad, rfl, (hk _ hlt hN).1, Nat.lt_of_lt_of_le hlt hs, (World.cell?_of_block (by rw [add_block]; exact hb)).trans hc⟩
theorem RG.rd_rd {k : IntKind} {v : Value} {l : List Int} (h : (RG.rd k l).g v w N) : Rd w k v l := by
  obtain ⟨A, c, rfl, h1, h2, h3⟩ := h
  refine ⟨A, c, rfl, h1, h2, fun i x hi => ?_⟩
  obtain ⟨ad, rfl, _, hlt, hc⟩ := h3 i x hi
  exact ⟨ad, rfl, hlt, hc⟩
theorem wp_list {o : Oper} {x : Operand} {ts : Array TypeId} {m : Nat → Bool} (ho : o.op = .call { callee := .value (.func 23), args := #[x], argTypes := ts }) (hx : a.eval x = setV m) :
    o.wp Tryd.prog a w (fun a' w' => ∃ u, a' = a.put o.dst u ∧ Below w.heap.size w w' ∧ ∀ N' : Nat → Prop, (∀ k, k < w.heap.size → N k → N' k) → (∀ k, w.heap.size ≤ k → N' k) → (RG.rd .u8 (listM m 256)).g u w' N') Q := by
  refine wp_callee ho (fun xs w => by kernel_rfl) ?_
  simp only [List.map_toArray, List.map_cons, List.map_nil, hx]
  refine (list_any m w).mono ?_
  rintro e w' ⟨v, rfl, hown, hw⟩
  refine ⟨_, rfl, _, rfl, hw, fun N' _ hN => ?_⟩
  have hle := listM_length m 256
  obtain ⟨A, c, rfl, h1, h3⟩ := own_cells hown
  refine ⟨A, c, rfl, h1, by omega, fun i x hi => ?_⟩
  obtain ⟨ad, rfl, hlo, hlt, hc⟩ := h3 i x hi
  exact ⟨ad, rfl, hN _ hlo, hlt, hc⟩
theorem wp_refbytes {o : Oper} {x y : Operand} {ts : Array TypeId} {v' : Value} (l : List Int) (ho : o.op = .call { callee := .value (.func 22), args := #[x, y], argTypes := ts }) (hx : (RG.rd .u8 l).g (a.eval x) w N) (hy : a.eval y = v') (hr : Rd w .u8 v' l) :
    o.wp Tryd.prog a w (fun a' w' => ∃ u, a' = a.put o.dst u ∧ Below w.heap.size w w' ∧ ∀ N' : Nat → Prop, (∀ k, k < w.heap.size → N k → N' k) → (∀ k, w.heap.size ≤ k → N' k) → (RG.eq (.bool true)).g u w' N') Q :=
  wp_call_eq (xs := #[a.eval x, v']) ho (fun xs w => by kernel_rfl) (by simp only [List.map_toArray, List.map_cons, List.map_nil, hy]) (refbytes_any l (a.eval x) v' w (RG.rd_rd hx) hr)
theorem wp_len {o : Oper} {x : Operand} {A : Option Addr} {n c : Nat} (ho : o.op = .call { callee := .builtin .len, args := #[x], argTypes := #[39] }) (hx : a.eval x = .slice A n c) :
    o.wp Tryd.prog a w (fun a' w' => ∃ u, a' = a.put o.dst u ∧ Below w.heap.size w w' ∧ ∀ N' : Nat → Prop, (∀ k, k < w.heap.size → N k → N' k) → (∀ k, w.heap.size ≤ k → N' k) → (RG.eq (.int .i64 n)).g u w' N') Q := by
  refine wp_quiet ?_
  have he : (#[x] : Array Operand).map a.eval = #[.slice A n c] := by simp only [List.map_toArray, List.map_cons, List.map_nil, hx]
  simp only [execOp, ho, resolve, he]
  simp [go_sem]
theorem wp_maxi {o : Oper} {x y : Operand} {p q : Int} (ho : o.op = .call { callee := .builtin .max, args := #[x, y], argTypes := #[3, 3] }) (hx : a.eval x = .int .i64 p) (hy : a.eval y = .int .i64 q) :
    o.wp Tryd.prog a w (fun a' w' => ∃ u, a' = a.put o.dst u ∧ Below w.heap.size w w' ∧ ∀ N' : Nat → Prop, (∀ k, k < w.heap.size → N k → N' k) → (∀ k, w.heap.size ≤ k → N' k) → (RG.eq (.int .i64 (max p q))).g u w' N') Q := by
  refine wp_quiet ?_
  have he : (#[x, y] : Array Operand).map a.eval = #[.int .i64 p, .int .i64 q] := by simp only [List.map_toArray, List.map_cons, List.map_nil, hx, hy]
  simp only [execOp, ho, resolve, he]
  simp [go_sem]
  split <;> omega
theorem wp_geqi {o : Oper} {x y : Operand} {p q : Int} {t : TypeId} (ho : o.op = .binOp .geq 3 x y t) (hx : a.eval x = .int .i64 p) (hy : a.eval y = .int .i64 q) :
    o.wp Tryd.prog a w (fun a' w' => ∃ u, a' = a.put o.dst u ∧ Below w.heap.size w w' ∧ ∀ N' : Nat → Prop, (∀ k, k < w.heap.size → N k → N' k) → (∀ k, w.heap.size ≤ k → N' k) → (RG.eq (.bool (decide (q ≤ p)))).g u w' N') Q := by
  refine wp_quiet ?_
  simp only [execOp, ho, hx, hy]
  simp [go_sem]
theorem wp_conv8 {o : Oper} {x : Operand} {p : Int} (ho : o.op = .convert 5 3 x) (hx : a.eval x = .int .u8 p) (h0 : 0 ≤ p) (h1 : p < 256) :
    o.wp Tryd.prog a w (fun a' w' => ∃ u, a' = a.put o.dst u ∧ Below w.heap.size w w' ∧ ∀ N' : Nat → Prop, (∀ k, k < w.heap.size → N k → N' k) → (∀ k, w.heap.size ≤ k → N' k) → (RG.eq (.int .i64 p)).g u w' N') Q := by
  have hw : IntKind.i64.wrap p = p := by rw [IntKind.wrap_i64]; omega
  refine wp_quiet ?_
  simp only [execOp, ho, hx]
  simp [go_sem, hw]
end
end Go.Proofs.YtanimknpnniabaaDoor
