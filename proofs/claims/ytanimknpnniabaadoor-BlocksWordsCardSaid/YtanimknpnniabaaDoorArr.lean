/- Whole arrays, by value. -/
import Derived.Test.YtanimknpnniabaaDoorOps5
import Derived.Test.YtanimknpnniabaaDoorMarkMap
import Derived.Deep.WholeRow
import Derived.Laws.CopyOwn
namespace Go.Proofs.YtanimknpnniabaaDoor
open Go.RowKit
/-- 256 numbers. -/
def nums (k : Nat → Int) : List Value := (List.range 256).map fun b => .int .i64 (k b)
theorem nums_length (k : Nat → Int) : (nums k).length = 256 := by simp [nums]
theorem nums_at (k : Nat → Int) (n : Nat) (h : n < 256) : (nums k)[n]? = some (.int .i64 (k n)) := by
  unfold nums
  rw [List.getElem?_map, List.getElem?_range h]
  rfl
theorem nums_congr {k k' : Nat → Int} (h : ∀ b, b < 256 → k b = k' b) : nums k = nums k' := by
  unfold nums
  exact List.map_congr_left fun b hb => by rw [h b (List.mem_range.1 hb)]
theorem ofAt_zero (k0 : Nat → Int) (m : Nat → Bool) : ofAt k0 m 0 = nums k0 := by
  unfold ofAt nums
  simp
theorem ofAt_all (k0 : Nat → Int) (m : Nat → Bool) : ofAt k0 m 256 = nums fun b => ((numOf (fun c => (k0 c, m c)) b : Nat) : Int) := by
  unfold ofAt nums
  exact List.map_congr_left fun b hb => by rw [if_pos (List.mem_range.1 hb)]
theorem ofAt_one (k0 : Nat → Int) (m : Nat → Bool) (n : Nat) : (ofAt k0 m n).toArray.all (·.oneCell') = true := by
  rw [Array.all_eq_true_iff_forall_mem]
  intro v hv
  rw [List.mem_toArray] at hv
  unfold ofAt at hv
  obtain ⟨b, _, rfl⟩ := List.mem_map.1 hv
  rfl
theorem info_arr : (Tryd.prog.info? 58).map (·.size) = some 256 := by kernel_rfl
theorem load_arr {w : World} {b t : Nat} {l : List Value} (h : Blk w b t l) (hl : l.length = 256) : (loadVar 58 ⟨b, 0, none⟩).run Tryd.prog w = .ok (.agg l.toArray) w :=
  run_loadVar_row w b t _ l.toArray (0, 0) _ h Tryd.underlying58 rfl (by rw [info_arr]; simp [hl])
theorem store_arr {w : World} {b t : Nat} {l l' : List Value} (h : Blk w b t l) (hl : l.length = 256) (hl' : l'.length = 256) (h1 : l'.toArray.all (·.oneCell') = true) :
    (storeVar 58 ⟨b, 0, none⟩ (.agg l'.toArray)).run Tryd.prog w = .ok () (w.setRow b l'.toArray) :=
  run_storeVar_row w b t _ l.toArray l'.toArray h (by rw [info_arr]; simp [hl']) (by simp [hl, hl']) h1
theorem Blk.setRow {w : World} {b t : Nat} {l l' : List Value} (h : Blk w b t l) : Blk (w.setRow b l'.toArray) b t l' := setRow_heap w b _ _ t _ h
theorem Blk.farRow {w : World} {b g t : Nat} {l : List Value} (h : Blk w b t l) (hg : b ≠ g) (cs : Array Value) : Blk (w.setRow g cs) b t l := (setRow_other w g b cs hg).trans h
theorem wf_i64 {n : Int} (h0 : -9223372036854775808 ≤ n) (h1 : n ≤ 9223372036854775807) : (Lit.int .i64 n).wf = true := by
  have e0 : IntKind.i64.min = -9223372036854775808 := by decide
  have e1 : IntKind.i64.max = 9223372036854775807 := by decide
  show (decide (IntKind.i64.min ≤ n) && decide (n ≤ IntKind.i64.max)) = true
  rw [e0, e1]
  simp only [Bool.and_eq_true, decide_eq_true_eq]
  exact ⟨h0, h1⟩
theorem cells_arr {w : World} {b t : Nat} {l l' : List Value} (h : Blk w b t l) (hl : l.length = 256) (hl' : l'.length = 256) (h1 : l'.toArray.all (·.oneCell') = true) :
    (storeCells ⟨b, 0, none⟩ l' 0).run Tryd.prog w = .ok () (w.setRow b l'.toArray) := by
  have := run_storeCells_from (P := Tryd.prog) b t l' 0 l.toArray w h (by simp [hl, hl']) (fun v hv => (Array.all_eq_true_iff_forall_mem.1 h1) v (by simpa using hv))
  simpa using this
/-- A return of an array that lies in a block that is known whole, and of a number. -/
theorem ret_arr {fn : Func} {R : Ending → World → Prop} {a : Act} {w : World} {b r s : Nat} {l : List Value} {v : Value} (hres : fn.results = #[.cell r 58, .tmp s])
    (hr : a.tmps.getD r undef = .pointer (some ⟨b, 0, none⟩)) (hs : a.tmps.getD s undef = v) (h : Blk w b 58 l) (hl : l.length = 256) (hd : a.defers = []) (hR : R (.returned (.tuple #[.agg l.toArray, v])) w) : bodyPost Tryd.prog fn R .ret a w := by
  have hld := load_arr h hl
  refine bodyPost_ret (v := .tuple #[.agg l.toArray, v]) ?_ hd hR
  have hr' : a.tmps[r]?.getD undef = .pointer (some ⟨b, 0, none⟩) := by simpa using hr
  have hs' : a.tmps[s]?.getD undef = v := by simpa using hs
  simp [results, hres, hr', hs', hld, asAddr, Result.andThen]
def CellAt (w : World) (p : Addr) (v : Value) : Prop := w.cell? p = some v ∧ p.block < w.heap.size
theorem CellAt.below {w w' : World} {p : Addr} {v : Value} (h : CellAt w p v) (hb : Below w.heap.size w w') : w'.cell? p = some v := (hb.cell h.2).trans h.1
section
variable {a : Act} {w : World} {N : Nat → Prop}
theorem wp_toU8 {Q : Exit → Act → World → Prop} {o : Oper} {x : Operand} {p : Int} (ho : o.op = .convert 3 5 x) (hx : a.eval x = .int .i64 p) (h0 : 0 ≤ p) (h1 : p < 256) :
    o.wp Tryd.prog a w (fun a' w' => ∃ u, a' = a.put o.dst u ∧ Below w.heap.size w w' ∧ ∀ N' : Nat → Prop, (∀ k, k < w.heap.size → N k → N' k) → (∀ k, w.heap.size ≤ k → N' k) → (RG.eq (.int .u8 p)).g u w' N') Q := by
  have hw : IntKind.u8.wrap p = p := by rw [IntKind.wrap_u8']; omega
  refine wp_quiet ?_
  simp only [execOp, ho, hx]
  simp [go_sem, hw]
end
/-- What a map's turn leaves. -/
theorem Blk.turned {w w' : World} {b g t : Nat} {l : List Value} (h : Blk w b t l) (hg : w.grownBy w' (some g)) (hne : b ≠ g) : Blk w' b t l := (hg.block b h.lt (by simpa using hne)).trans h
theorem below_turned {B g : Nat} {w0 w w' : World} (hb : Below B w0 w) (hg : w.grownBy w' (some g)) (hB : B ≤ g) (hBw : B ≤ w.heap.size) : Below B w0 w' :=
  ⟨hg.os.trans hb.os, hg.tape.trans hb.tape, hg.output.trans hb.output, Nat.le_trans hb.size hg.size, fun i hi => (hg.block i (Nat.lt_of_lt_of_le hi hBw) (by simp; omega)).trans (hb.block i hi)⟩
theorem below_grown {w w' : World} (hb : Below w.heap.size w w') : w.grownBy w' none := ⟨hb.os, hb.tape, hb.output, hb.size, fun k hk _ => hb.block k hk⟩
end Go.Proofs.YtanimknpnniabaaDoor
