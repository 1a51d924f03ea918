/- More operations for regions that draw their order: rows of Bools, the reference's functions of layer 1. -/
import Derived.Test.YtofhkgafgnldnaaDoorOps
import Derived.Test.YtofhkgafgnldnaaDoorRef01
namespace Go.Proofs.YtofhkgafgnldnaaDoor
open Go.RowKit
section
variable {ops : Array Oper} {S : List RK} {Q : Exit → Act → World → Prop} {a0 : Act} {w0 : World} {a : Act} {w : World} {N : Nat → Prop}
/-- What is known of a value, handed on. -/
theorem wp_move_g {o : Oper} {x : Operand} {G : RG} (ho : o.op = .move x ∨ o.op = .assign x) (hx : G.g (a.eval x) w N) :
    o.wp Tryd.prog a w (fun a' w' => ∃ u, a' = a.put o.dst u ∧ Below w.heap.size w w' ∧ ∀ N' : Nat → Prop, (∀ k, k < w.heap.size → N k → N' k) → (∀ k, w.heap.size ≤ k → N' k) → G.g u w' N') Q := by
  refine wp_of_run (v := a.eval x) (w' := w) (by rcases ho with ho | ho <;> simp [execOp, ho]) ⟨_, rfl, Below.refl _ _, fun N' hN _ => G.mono _ _ _ _ _ hx (Nat.le_refl _) fun k hk hNk => ⟨hN k hk hNk, rfl⟩⟩
/-- The 256 Bools of a set. -/
def RG.bools (m : Nat → Bool) : RG where
  g v w N := ∃ g, v = .slice (some ⟨g, 0, none⟩) 256 256 ∧ N g ∧ Blk w g 4 (boolsL m 256)
  mono := by
    rintro v w w' N N' ⟨g, rfl, hN, hb⟩ hs hk
    exact ⟨g, rfl, (hk g hb.lt hN).1, ((hk g hb.lt hN).2).trans hb⟩
theorem wp_make {o : Oper} {x : Operand} {ts : Array TypeId} {v : Value} (l : List Bool) (ho : o.op = .call { callee := .value (.func 23), args := #[x], argTypes := ts }) (hx : a.eval x = v) (hr : RdV w v (l.map .bool)) :
    o.wp Tryd.prog a w (fun a' w' => ∃ u, a' = a.put o.dst u ∧ Below w.heap.size w w' ∧ ∀ N' : Nat → Prop, (∀ k, k < w.heap.size → N k → N' k) → (∀ k, w.heap.size ≤ k → N' k) → (RG.eq (setV (makeM (l.take 256)))).g u w' N') Q :=
  wp_call_eq (xs := #[v]) ho (fun xs w => by kernel_rfl) (by simp only [List.map_toArray, List.map_cons, List.map_nil, hx]) (make_any l v w hr)
theorem wp_index8 {o : Oper} {x y : Operand} {g n c : Nat} {k : Int} (ho : o.op = .indexAddr 58 x y) (hx : a.eval x = .slice (some ⟨g, 0, none⟩) n c) (hy : a.eval y = .int .u8 k) (h0 : 0 ≤ k) (h1 : k < n) :
    o.wp Tryd.prog a w (fun a' w' => ∃ u, a' = a.put o.dst u ∧ Below w.heap.size w w' ∧ ∀ N' : Nat → Prop, (∀ k, k < w.heap.size → N k → N' k) → (∀ k, w.heap.size ≤ k → N' k) → (RG.eq (.pointer (some ⟨g, k.toNat, none⟩))).g u w' N') Q := by
  refine wp_quiet ?_
  simp only [execOp, ho, hx, hy]
  simp [go_sem, h0, h1]
theorem wp_load_bool {o : Oper} {x : Operand} {p : Addr} {b : Bool} (ho : o.op = .load 4 x) (hx : a.eval x = .pointer (some p)) (hc : w.cell? p = some (.bool b)) :
    o.wp Tryd.prog a w (fun a' w' => ∃ u, a' = a.put o.dst u ∧ Below w.heap.size w w' ∧ ∀ N' : Nat → Prop, (∀ k, k < w.heap.size → N k → N' k) → (∀ k, w.heap.size ≤ k → N' k) → (RG.eq (.bool b)).g u w' N') Q := by
  refine wp_quiet ?_
  simp only [execOp, ho, hx]
  simp [go_sem, hc]
theorem wp_union_nil {o : Oper} {ts : Array TypeId} (ho : o.op = .call { callee := .value (.func 36), args := #[.const (.slice none 0 0)], argTypes := ts }) :
    o.wp Tryd.prog a w (fun a' w' => ∃ u, a' = a.put o.dst u ∧ Below w.heap.size w w' ∧ ∀ N' : Nat → Prop, (∀ k, k < w.heap.size → N k → N' k) → (∀ k, w.heap.size ≤ k → N' k) → (RG.eq (setV (anyM []))).g u w' N') Q :=
  wp_call_eq (xs := #[.slice none 0 0]) ho (fun xs w => by kernel_rfl) (by simp only [List.map_toArray, List.map_cons, List.map_nil, Act.eval]) (union_any [] _ _ ⟨none, 0, rfl, Nat.le_refl _, Nat.zero_le _, fun i m h => by simp at h⟩)
theorem run_build0 (w : World) : (Instr.build 32 #[]).run Tryd.prog w = .ok (setV (fun _ => false)) w := by
  have h : setV (fun _ => false) = .agg #[.int .u64 0, .int .u64 0, .int .u64 0, .int .u64 0] := by
    simp only [setV, word_none]
  rw [h]
  exact (by kernel_rfl : (Instr.build 32 #[]).run Tryd.prog w = .ok (.agg #[.int .u64 0, .int .u64 0, .int .u64 0, .int .u64 0]) w)
theorem wp_build0 {o : Oper} (ho : o.op = .build 32 #[]) :
    o.wp Tryd.prog a w (fun a' w' => ∃ u, a' = a.put o.dst u ∧ Below w.heap.size w w' ∧ ∀ N' : Nat → Prop, (∀ k, k < w.heap.size → N k → N' k) → (∀ k, w.heap.size ≤ k → N' k) → (RG.eq (setV (fun _ => false))).g u w' N') Q := by
  have hr := run_build0 w
  refine wp_quiet ?_
  simp only [execOp, ho]
  simp [hr]
end
theorem one_bool (b : Bool) : ∀ u ∈ [Value.bool b], u.oneCell' = true := by
  intro u hu
  obtain rfl := List.mem_singleton.1 hu
  rfl
theorem elem_bool : Elem Tryd.prog 58 4 1 1 := by
  obtain ⟨i, hi, h0, h1, h2⟩ := info_parts (by kernel_rfl : (Tryd.prog.info? 4).map (fun i => (i.zero, i.size, i.bytes)) = some (some (.bool false), 1, 1))
  exact ⟨i, _, Tryd.underlying58, hi, h0, h1, h2, rfl, by decide⟩
/-- Bools, one behind the other. -/
def upL (f : Nat → Bool) (k : Nat) : List Value := (List.range k).map fun x => .bool (f x)
theorem upL_succ (f : Nat → Bool) (k : Nat) : upL f (k + 1) = upL f k ++ [.bool (f k)] := by
  unfold upL
  rw [List.range_succ, List.map_append]
  rfl
theorem upL_length (f : Nat → Bool) (k : Nat) : (upL f k).length = k := by simp [upL]
theorem upL_take (f : Nat → Bool) (k : Nat) (x : Nat) (h : x < k) : makeM ((List.range k).map f) x = f x := by
  simp [makeM, List.getD_eq_getElem?_getD, h]
theorem own_rdV {w : World} {base : Nat} {e : TypeId} {v : Value} {n : Nat} {cs : List Value} (h : w.ownsRow base e 1 v n cs) (hn : n ≤ 140737488355328) : RdV w v cs := by
  have hlen : cs.length = n := by have := h.1; simpa using this
  rcases h.2 with ⟨rfl, h0⟩ | ⟨g, cap, cur, rfl, hb, hg, h1, h2, h3, h4⟩
  · refine ⟨none, 0, by rw [hlen, h0], by omega, by omega, fun i x hi => ?_⟩
    rw [List.eq_nil_of_length_eq_zero (by omega : cs.length = 0)] at hi
    simp at hi
  · exact ⟨some ⟨g, 0, none⟩, cap, by rw [hlen], by omega, by omega, fun i x hi => ⟨_, rfl, (Array.getElem?_eq_some_iff.1 hg).1, h.cells (g := g) rfl i _ hi⟩⟩
theorem blk_rdV {w : World} {g : Nat} {t : TypeId} {cs : List Value} (h : Blk w g t cs) (hn : cs.length ≤ 140737488355328) : RdV w (.slice (some ⟨g, 0, none⟩) cs.length cs.length) cs :=
  ⟨some ⟨g, 0, none⟩, cs.length, rfl, Nat.le_refl _, hn, fun i u hi => ⟨_, rfl, h.lt, by
    rw [show (⟨g, 0, none⟩ : Addr).add i = ⟨g, i, none⟩ by unfold Addr.add; split <;> simp_all]
    rw [h.cell, hi]⟩⟩
theorem upL_map (f : Nat → Bool) (k : Nat) : upL f k = ((List.range k).map f).map .bool := by simp [upL]
theorem make_up (f : Nat → Bool) (x : Nat) (h : x < 256) : makeM (((List.range 256).map f).take 256) x = f x := by
  rw [List.take_of_length_le (by simp)]
  exact upL_take f 256 x h
/-- The Bools of the folded set behind k rounds. -/
def foldB (m : Nat → Bool) (k : Nat) (x : Nat) : Bool := m x || (decide (65 ≤ x ∧ x ≤ 90 ∧ x + 32 < k) && m (x + 32)) || (decide (97 ≤ x ∧ x ≤ 122 ∧ x - 32 < k) && m (x - 32))
def foldV (m : Nat → Bool) (k : Nat) : List Value := (List.range 256).map fun x => .bool (foldB m k x)
theorem foldV_zero (m : Nat → Bool) : foldV m 0 = boolsL m 256 := by
  unfold foldV boolsL
  apply List.map_congr_left
  intro x hx
  rw [List.mem_range] at hx
  simp [foldB, hx]
theorem foldV_length (m : Nat → Bool) (k : Nat) : (foldV m k).length = 256 := by simp [foldV]
theorem foldV_same (m : Nat → Bool) (k : Nat) (h : m k = false ∨ (¬(97 ≤ k ∧ k ≤ 122) ∧ ¬(65 ≤ k ∧ k ≤ 90))) : foldV m (k + 1) = foldV m k := by
  unfold foldV
  apply List.map_congr_left
  intro x _
  congr 1
  unfold foldB
  congr 1
  · congr 1
    by_cases hx : x + 32 = k
    · subst hx
      rcases h with h | h
      · rw [h]; simp
      · have : ¬(65 ≤ x ∧ x ≤ 90) := by omega
        have h1 : decide (65 ≤ x ∧ x ≤ 90 ∧ x + 32 < x + 32 + 1) = false := by simp; omega
        have h2 : decide (65 ≤ x ∧ x ≤ 90 ∧ x + 32 < x + 32) = false := by simp
        rw [h1, h2]
    · congr 1
      simp only [decide_eq_decide]
      omega
  · by_cases hx : 97 ≤ x ∧ x ≤ 122 ∧ x - 32 = k
    · obtain ⟨hx1, hx2, rfl⟩ := hx
      rcases h with h | h
      · rw [h]; simp
      · omega
    · congr 1
      simp only [decide_eq_decide]
      omega
theorem foldV_put (m : Nat → Bool) (k j : Nat) (hm : m k = true) (h : (97 ≤ k ∧ k ≤ 122 ∧ j = k - 32) ∨ (65 ≤ k ∧ k ≤ 90 ∧ j = k + 32)) : foldV m (k + 1) = (foldV m k).set j (.bool true) := by
  apply List.ext_getElem
  · simp [foldV]
  · intro x h1 h2
    simp only [foldV, List.length_map, List.length_range] at h1
    simp only [foldV, List.getElem_map, List.getElem_range, List.getElem_set]
    by_cases hx : j = x
    · subst hx
      rw [if_pos rfl]
      congr 1
      unfold foldB
      rcases h with ⟨a, b, rfl⟩ | ⟨a, b, rfl⟩
      · have : decide (65 ≤ k - 32 ∧ k - 32 ≤ 90 ∧ k - 32 + 32 < k + 1) = true := by simp; omega
        rw [this, show k - 32 + 32 = k by omega, hm]
        simp
      · have : decide (97 ≤ k + 32 ∧ k + 32 ≤ 122 ∧ k + 32 - 32 < k + 1) = true := by simp; omega
        rw [this, show k + 32 - 32 = k by omega, hm]
        simp
    · rw [if_neg hx]
      congr 1
      unfold foldB
      congr 1
      · congr 2
        simp only [decide_eq_decide]
        omega
      · congr 1
        simp only [decide_eq_decide]
        omega
end Go.Proofs.YtofhkgafgnldnaaDoor
