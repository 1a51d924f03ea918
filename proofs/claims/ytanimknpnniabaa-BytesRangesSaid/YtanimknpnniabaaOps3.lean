/- More operations for regions that draw their order: pairs of bytes; a set stored by the last operation. -/
import Derived.Test.YtanimknpnniabaaOps
import Derived.Test.YtanimknpnniabaaRegLast
import Derived.Test.YtanimknpnniabaaPairs
namespace Go.Proofs.Ytanimknpnniabaa
open Go.RowKit
section
variable {ops : Array Oper} {S : List RK} {Q : Exit → Act → World → Prop} {a0 : Act} {w0 : World} {a : Act} {w : World} {N : Nat → Prop}
theorem wp_index_pair {o : Oper} {x y : Operand} {b : Nat} {j : Int} (ho : o.op = .indexAddr 40 x y) (hx : a.eval x = .pointer (some ⟨b, 0, none⟩)) (hy : a.eval y = .int .i64 j) (h0 : 0 ≤ j) (h1 : j < 2) :
    o.wp Try.prog a w (fun a' w' => ∃ u, a' = a.put o.dst u ∧ Below w.heap.size w w' ∧ ∀ N' : Nat → Prop, (∀ k, k < w.heap.size → N k → N' k) → (∀ k, w.heap.size ≤ k → N' k) → (RG.eq (.pointer (some ⟨b, j.toNat, none⟩))).g u w' N') Q := by
  refine wp_quiet ?_
  have hj : j = 0 ∨ j = 1 := by omega
  rcases hj with rfl | rfl
  · simp only [execOp, ho, hx, hy]
    simp [go_sem]
  · simp only [execOp, ho, hx, hy]
    simp [go_sem]
theorem wp_load_u8 {o : Oper} {x : Operand} {p : Addr} {b : Int} (ho : o.op = .load 5 x) (hx : a.eval x = .pointer (some p)) (hc : w.cell? p = some (.int .u8 b)) :
    o.wp Try.prog a w (fun a' w' => ∃ u, a' = a.put o.dst u ∧ Below w.heap.size w w' ∧ ∀ N' : Nat → Prop, (∀ k, k < w.heap.size → N k → N' k) → (∀ k, w.heap.size ≤ k → N' k) → (RG.eq (.int .u8 b)).g u w' N') Q := by
  refine wp_quiet ?_
  simp only [execOp, ho, hx]
  simp [go_sem, hc]
end
theorem wpOp_store_set {ops : Array Oper} {Q : Exit → Act → World → Prop} {K : Nat} {a : Act} {w : World} {b : Nat} {m old : Nat → Bool} (s x : Nat) {Kc : Act → World → Prop}
    (hop : (ops[K]?).map (fun o => (o.op, o.guard)) = some (.store 24 (.tmp s) (.tmp x), none)) (hd : dstOf ops K = none)
    (hs : a.eval (.tmp s) = .pointer (some ⟨b, 0, none⟩)) (hx : a.eval (.tmp x) = setV m) (hb : Blk w b 24 (setL old))
    (hK : Kc a ((((w.setCell ⟨b, 0, none⟩ (.int .u64 (word m 0))).setCell ⟨b, 1, none⟩ (.int .u64 (word m 1))).setCell ⟨b, 2, none⟩ (.int .u64 (word m 2))).setCell ⟨b, 3, none⟩ (.int .u64 (word m 3)))) : wpOp Try.prog ops Q K Kc a w := by
  cases ho : ops[K]? with
  | none => rw [ho] at hop; cases hop
  | some o =>
    rw [ho] at hop
    simp only [Option.map_some, Option.some.injEq, Prod.mk.injEq] at hop
    have hdst : dstOf ops K = o.dst := by unfold dstOf; rw [ho]; rfl
    obtain ⟨c0, c1, c2, c3, f0, f1, f2, f3⟩ := hb.four
    unfold wpOp
    simp only [ho]
    rw [if_pos (by unfold Region.wanted; rw [hop.2])]
    left
    have hrun : (execOp a.eval o).run Try.prog w = .ok .skip ((((w.setCell ⟨b, 0, none⟩ (.int .u64 (word m 0))).setCell ⟨b, 1, none⟩ (.int .u64 (word m 1))).setCell ⟨b, 2, none⟩ (.int .u64 (word m 2))).setCell ⟨b, 3, none⟩ (.int .u64 (word m 3))) := by
      simp only [execOp, hop.1, hx, hs]
      simp [go_sem, c0, c1, c2, c3, f0, f1, f2, f3]
    unfold Oper.wp
    rw [hrun]
    show Kc (a.put o.dst undef) _
    rw [show a.put o.dst undef = a by rw [← hdst, hd]; rfl]
    exact hK
end Go.Proofs.Ytanimknpnniabaa
