/- Single operations: tests of numbers, a byte of a string, a number of a row. -/
import Derived.Test.YtanimknpnniabaaDoorOps5
namespace Go.Proofs.YtanimknpnniabaaDoor
open Go.RowKit
section
variable {Q : Exit → Act → World → Prop} {a : Act} {w : World} {N : Nat → Prop}
theorem wp_lssi {o : Oper} {x y : Operand} {p q : Int} {t : TypeId} (ho : o.op = .binOp .lss 3 x y t) (hx : a.eval x = .int .i64 p) (hy : a.eval y = .int .i64 q) :
    o.wp Tryd.prog a w (fun a' w' => ∃ u, a' = a.put o.dst u ∧ Below w.heap.size w w' ∧ ∀ N' : Nat → Prop, (∀ k, k < w.heap.size → N k → N' k) → (∀ k, w.heap.size ≤ k → N' k) → (RG.eq (.bool (decide (p < q)))).g u w' N') Q := by
  refine wp_quiet ?_
  simp only [execOp, ho, hx, hy]
  simp [go_sem]
  all_goals rfl
theorem wp_neqi {o : Oper} {x y : Operand} {p q : Int} {t : TypeId} (ho : o.op = .binOp .neq 3 x y t) (hx : a.eval x = .int .i64 p) (hy : a.eval y = .int .i64 q) :
    o.wp Tryd.prog a w (fun a' w' => ∃ u, a' = a.put o.dst u ∧ Below w.heap.size w w' ∧ ∀ N' : Nat → Prop, (∀ k, k < w.heap.size → N k → N' k) → (∀ k, w.heap.size ≤ k → N' k) → (RG.eq (.bool (!(p == q)))).g u w' N') Q := by
  refine wp_quiet ?_
  simp only [execOp, ho, hx, hy]
  simp [go_sem]
  all_goals rfl
theorem wp_gtr8 {o : Oper} {x y : Operand} {p q : Int} {t : TypeId} (ho : o.op = .binOp .gtr 5 x y t) (hx : a.eval x = .int .u8 p) (hy : a.eval y = .int .u8 q) :
    o.wp Tryd.prog a w (fun a' w' => ∃ u, a' = a.put o.dst u ∧ Below w.heap.size w w' ∧ ∀ N' : Nat → Prop, (∀ k, k < w.heap.size → N k → N' k) → (∀ k, w.heap.size ≤ k → N' k) → (RG.eq (.bool (decide (q < p)))).g u w' N') Q := by
  refine wp_quiet ?_
  simp only [execOp, ho, hx, hy]
  simp [go_sem]
  all_goals rfl
theorem wp_index_str {o : Oper} {x y : Operand} {s : ByteArray} {k : Nat} {b : UInt8} (ho : o.op = .index 9 x y) (hx : a.eval x = .string s) (hy : a.eval y = .int .i64 k) (hb : s.data[k]? = some b) :
    o.wp Tryd.prog a w (fun a' w' => ∃ u, a' = a.put o.dst u ∧ Below w.heap.size w w' ∧ ∀ N' : Nat → Prop, (∀ k, k < w.heap.size → N k → N' k) → (∀ k, w.heap.size ≤ k → N' k) → (RG.eq (.int .u8 ((b.toNat : Nat) : Int))).g u w' N') Q := by
  obtain ⟨hlt, hk⟩ := Array.getElem?_eq_some_iff.1 hb
  subst hk
  have hlt' : k < s.size := hlt
  refine wp_quiet ?_
  simp only [execOp, ho, hx, hy]
  simp [go_sem, hlt', ByteArray.getElem_eq_getElem_data]
theorem wp_index_ints {o : Oper} {x y : Operand} {ad : Addr} {n c k : Nat} (ho : o.op = .indexAddr 26 x y) (hx : a.eval x = .slice (some ad) n c) (hy : a.eval y = .int .i64 k) (h1 : k < n) :
    o.wp Tryd.prog a w (fun a' w' => ∃ u, a' = a.put o.dst u ∧ Below w.heap.size w w' ∧ ∀ N' : Nat → Prop, (∀ k, k < w.heap.size → N k → N' k) → (∀ k, w.heap.size ≤ k → N' k) → (RG.eq (.pointer (some (ad.add k)))).g u w' N') Q := by
  refine wp_quiet ?_
  simp only [execOp, ho, hx, hy]
  simp [go_sem, h1]
end
end Go.Proofs.YtanimknpnniabaaDoor
