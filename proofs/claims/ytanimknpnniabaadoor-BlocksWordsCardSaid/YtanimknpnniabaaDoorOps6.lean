/- Operations of build's regions: an array loaded whole, sets made, a struct of an array and a slice made and boxed; its fields. -/
import Derived.Test.YtanimknpnniabaaDoorArr
import Derived.Test.YtanimknpnniabaaDoorOps4
import Derived.Test.YtanimknpnniabaaDoorRegLast
import Derived.Test.YtanimknpnniabaaDoorUnion
import Derived.Test.YtanimknpnniabaaDoorOf
namespace Go.Proofs.YtanimknpnniabaaDoor
open Go.RowKit
theorem fold_set (l : List Value) : ∀ (k : Nat) (cs : Array Value), k + l.length ≤ cs.size → ((l.zipIdx k).foldl (fun cs (p : Value × Nat) => cs.setIfInBounds (0 + p.2) p.1) cs).toList = cs.toList.take k ++ l ++ cs.toList.drop (k + l.length) := by
  induction l with
  | nil => intro k cs h; simp
  | cons x l ih =>
    intro k cs h
    simp only [List.length_cons] at h
    rw [List.zipIdx_cons, List.foldl_cons, ih (k + 1) _ (by simp; omega)]
    simp only [Nat.zero_add, Array.toList_setIfInBounds]
    have hk : (cs.toList.take k).length = k := by simp; omega
    have hset : cs.toList.set k x = cs.toList.take k ++ x :: cs.toList.drop (k + 1) := by
      rw [List.set_eq_take_append_cons_drop, if_pos (by simp; omega)]
    have t1 : (cs.toList.set k x).take (k + 1) = cs.toList.take k ++ [x] := by
      rw [hset, List.take_append, hk, List.take_of_length_le (by omega)]
      simp
    have t2 : (cs.toList.set k x).drop (k + 1 + l.length) = cs.toList.drop (k + (l.length + 1)) := by
      rw [hset, List.drop_append, hk, List.drop_of_length_le (by omega), show k + 1 + l.length - k = l.length + 1 by omega]
      simp only [List.nil_append, List.drop_succ_cons, List.drop_drop]
      congr 1
      omega
    rw [t1, t2]
    simp
theorem built_blocks {l : List Value} (hl : l.length = 256) (p : Option Addr) (n c : Nat) : Tryd.prog.built 64 [(0, .agg l.toArray), (1, .slice p n c)] = some (l ++ [Value.slice p n c]).toArray := by
  have h1 : ((Tryd.prog.info? 64).bind (·.zero)).map (·.cells.size) = some 257 := by kernel_rfl
  have h3 : (match Tryd.prog.underlying 64 with | some (.struct fs) => fs.toList.mapM (fun f => (Tryd.prog.info? f.type).map fun i => (f.offset, i.size)) | _ => none) = some [(0, 256), (256, 1)] := by kernel_rfl
  unfold Program.built
  cases hi : Tryd.prog.info? 64 with
  | none => rw [hi] at h1; cases h1
  | some it =>
    rw [hi] at h1
    simp only [Option.bind_some] at h1
    cases hz : it.zero with
    | none => rw [hz] at h1; cases h1
    | some z =>
      rw [hz] at h1
      simp only [Option.map_some, Option.some.injEq] at h1
      cases hu : Tryd.prog.underlying 64 with
      | none => rw [hu] at h3; cases h3
      | some d =>
        rw [hu] at h3
        cases d <;> try (cases h3; done)
        rename_i fs
        simp only [] at h3 ⊢
        rw [h3]
        simp only [hz, Instr.fill, List.getElem?_toArray, List.getElem?_cons_zero, List.getElem?_cons_succ]
        have c0 : (Value.agg l.toArray).cells = l.toArray := rfl
        have c1 : (Value.slice p n c).cells = #[.slice p n c] := rfl
        have hf : (l.toArray.zipIdx.foldl (fun (cs : Array Value) (x : Value × Nat) => cs.setIfInBounds (0 + x.2) x.1) z.cells).toList = l ++ z.cells.toList.drop 256 := by
          have := fold_set l 0 z.cells (by omega)
          rw [← Array.foldl_toList, Array.toList_zipIdx]
          simpa [hl] using this
        generalize hF : l.toArray.zipIdx.foldl (fun (cs : Array Value) (x : Value × Nat) => cs.setIfInBounds (0 + x.2) x.1) z.cells = F at hf
        have hF' : l.toArray.zipIdx.foldl (fun (cs : Array Value) (x : Value × Nat) => match x with | (c, j) => cs.setIfInBounds (0 + j) c) z.cells = F := hF
        have hs : F.size = 257 := by
          rw [← Array.length_toList, hf]
          simp [hl, h1]
        simp only [c0, c1, hF']
        simp [hl, h1, hs]
        apply Array.ext'
        simp [hf, hl]
        obtain ⟨y, hy⟩ : ∃ y, z.cells.toList.drop 256 = [y] := by
          have : (z.cells.toList.drop 256).length = 1 := by simp [h1]
          exact List.length_eq_one_iff.1 this
        rw [hy]
        rfl
/-- A slice of n sets, none of which has a byte, in a block that is new. -/
def RG.made (B n : Nat) : RG where
  g v w N := ∃ g, v = .slice (some ⟨g, 0, none⟩) n n ∧ B ≤ g ∧ N g ∧ Blk w g 35 (setsC (List.replicate n fun _ => false))
  mono := by
    rintro v w w' N N' ⟨g, rfl, hB, hN, hb⟩ hs hk
    exact ⟨g, rfl, hB, (hk g hb.lt hN).1, ((hk g hb.lt hN).2).trans hb⟩
/-- .. within a struct's value .. -/
def RG.blks (B n : Nat) (l : List Value) : RG where
  g v w N := ∃ g, v = .agg (l ++ [Value.slice (some ⟨g, 0, none⟩) n n]).toArray ∧ B ≤ g ∧ N g ∧ Blk w g 35 (setsC (List.replicate n fun _ => false))
  mono := by
    rintro v w w' N N' ⟨g, rfl, hB, hN, hb⟩ hs hk
    exact ⟨g, rfl, hB, (hk g hb.lt hN).1, ((hk g hb.lt hN).2).trans hb⟩
/-- .. within a struct that lies in a new block. -/
def RG.boxed (B n : Nat) (l : List Value) : RG where
  g v w N := ∃ x g, v = .pointer (some ⟨x, 0, none⟩) ∧ B ≤ x ∧ B ≤ g ∧ x ≠ g ∧ N x ∧ N g ∧ Blk w x 64 (l ++ [Value.slice (some ⟨g, 0, none⟩) n n]) ∧ Blk w g 35 (setsC (List.replicate n fun _ => false))
  mono := by
    rintro v w w' N N' ⟨x, g, rfl, hBx, hB, hne, hNx, hN, hx, hb⟩ hs hk
    exact ⟨x, g, rfl, hBx, hB, hne, (hk x hx.lt hNx).1, (hk g hb.lt hN).1, ((hk x hx.lt hNx).2).trans hx, ((hk g hb.lt hN).2).trans hb⟩
section
variable {ops : Array Oper} {S : List RK} {Q : Exit → Act → World → Prop} {a0 : Act} {w0 : World} {a : Act} {w : World} {N : Nat → Prop}
theorem wp_load_arr {o : Oper} {x : Operand} {b t : Nat} {l : List Value} (ho : o.op = .load 58 x) (hx : a.eval x = .pointer (some ⟨b, 0, none⟩)) (hb : Blk w b t l) (hl : l.length = 256) :
    o.wp Tryd.prog a w (fun a' w' => ∃ u, a' = a.put o.dst u ∧ Below w.heap.size w w' ∧ ∀ N' : Nat → Prop, (∀ k, k < w.heap.size → N k → N' k) → (∀ k, w.heap.size ≤ k → N' k) → (RG.eq (.agg l.toArray)).g u w' N') Q :=
  wp_load_row 58 x ho b hx t l.toArray (0, 0) _ hb Tryd.underlying58 rfl (by rw [info_arr]; simp [hl]) ⟨_, rfl, Below.refl _ _, fun _ _ _ => rfl⟩
theorem made_sets (n : Nat) (s : Array Value) (hs : s = #[.int .u64 0, .int .u64 0, .int .u64 0, .int .u64 0]) : madeCells s (n * 4) = (setsC (List.replicate n fun _ => false)).toArray := by
  subst hs
  apply Array.ext'
  apply List.ext_getElem?
  intro i
  unfold madeCells
  have hz : setL (fun _ => false) = [.int .u64 0, .int .u64 0, .int .u64 0, .int .u64 0] := by unfold setL; simp only [word_none]
  by_cases hi : i < n * 4
  · have h4 : i % 4 < 4 := Nat.mod_lt _ (by omega)
    have hat := setsC_at (List.replicate n fun _ => false) (i / 4) (fun _ => false) (by rw [List.getElem?_replicate, if_pos (by omega)]) (i % 4) h4
    rw [show i / 4 * 4 + i % 4 = i by omega, hz] at hat
    rw [hat]
    simp only [Array.toList_map, Array.toList_range, List.getElem?_map, List.getElem?_range hi, Option.map_some]
    have : i % 4 = 0 ∨ i % 4 = 1 ∨ i % 4 = 2 ∨ i % 4 = 3 := by omega
    rcases this with h | h | h | h <;> (rw [h]; simp [h])
  · have h1 : (setsC (List.replicate n fun _ => false)).length ≤ i := by rw [setsC_length, List.length_replicate]; omega
    rw [List.getElem?_eq_none h1, List.getElem?_eq_none (by simp; omega)]
theorem run_make_sets (n : Nat) (hn : n ≤ 1000) (w : World) : (Instr.makeSlice 22 (.int .i64 n) (.int .i64 n)).run Tryd.prog w = .ok (.slice (some ⟨w.heap.size, 0, none⟩) n n) (w.alloc (.cells (setsC (List.replicate n fun _ => false)).toArray 35)) := by
  obtain ⟨i, hi, h0, h1, h2⟩ := info_parts (by kernel_rfl : (Tryd.prog.info? 35).map (fun i => (i.zero, i.size, i.bytes)) = some (some (.agg #[.int .u64 0, .int .u64 0, .int .u64 0, .int .u64 0]), 4, 32))
  have := run_make (P := Tryd.prog) w 22 35 i _ Tryd.underlying22 hi h0 .i64 .i64 n n (by omega) (by omega) (by rw [h2]; omega) (by omega)
  rw [h1] at this
  rw [← made_sets n _ rfl]
  exact this
theorem wp_make_sets {B : Nat} {o : Oper} {x y : Operand} {n : Nat} (ho : o.op = .makeSlice 22 x y) (hx : a.eval x = .int .i64 n) (hy : a.eval y = .int .i64 n) (hn : n ≤ 1000) (hB : B ≤ w.heap.size) :
    o.wp Tryd.prog a w (fun a' w' => ∃ u, a' = a.put o.dst u ∧ Below w.heap.size w w' ∧ ∀ N' : Nat → Prop, (∀ k, k < w.heap.size → N k → N' k) → (∀ k, w.heap.size ≤ k → N' k) → (RG.made B n).g u w' N') Q := by
  refine wp_of_run (v := .slice (some ⟨w.heap.size, 0, none⟩) n n) (w' := w.alloc (.cells (setsC (List.replicate n fun _ => false)).toArray 35)) (by simp [execOp, ho, hx, hy, run_make_sets n hn w, Result.andThen]) ?_
  exact ⟨_, rfl, (Below.refl _ w).alloc (Nat.le_refl _) _, fun N' _ hN => ⟨_, rfl, hB, hN _ (Nat.le_refl _), Blk.new w _ _⟩⟩
theorem wp_build_blocks {B : Nat} {o : Oper} {x y : Operand} {n : Nat} {l : List Value} (ho : o.op = .build 64 #[(0, x), (1, y)]) (hl : l.length = 256) (hx : a.eval x = .agg l.toArray) (hy : (RG.made B n).g (a.eval y) w N) :
    o.wp Tryd.prog a w (fun a' w' => ∃ u, a' = a.put o.dst u ∧ Below w.heap.size w w' ∧ ∀ N' : Nat → Prop, (∀ k, k < w.heap.size → N k → N' k) → (∀ k, w.heap.size ≤ k → N' k) → (RG.blks B n l).g u w' N') Q := by
  obtain ⟨g, hg, hB, hN, hb⟩ := hy
  refine wp_of_run (v := .agg (l ++ [Value.slice (some ⟨g, 0, none⟩) n n]).toArray) (w' := w) ?_ ⟨_, rfl, Below.refl _ _, fun N' hk _ => ⟨g, rfl, hB, hk g hb.lt hN, hb⟩⟩
  have hr := run_build (P := Tryd.prog) w 64 #[(0, .agg l.toArray), (1, .slice (some ⟨g, 0, none⟩) n n)] _ (built_blocks hl _ _ _)
  simp only [execOp, ho, List.map_toArray, List.map_cons, List.map_nil, hx, hg, Sem.run_bind, hr, Result.andThen_ok, Sem.run_pure]
theorem wp_box_blocks {B : Nat} {o : Oper} {x : Operand} {n : Nat} {l : List Value} (ho : o.op = .box 64 x) (_hl : l.length = 256) (hx : (RG.blks B n l).g (a.eval x) w N) (hB : B ≤ w.heap.size) :
    o.wp Tryd.prog a w (fun a' w' => ∃ u, a' = a.put o.dst u ∧ Below w.heap.size w w' ∧ ∀ N' : Nat → Prop, (∀ k, k < w.heap.size → N k → N' k) → (∀ k, w.heap.size ≤ k → N' k) → (RG.boxed B n l).g u w' N') Q := by
  obtain ⟨g, hg, hBg, hN, hb⟩ := hx
  refine wp_of_run (v := .pointer (some ⟨w.heap.size, 0, none⟩)) (w' := w.alloc (.cells (l ++ [Value.slice (some ⟨g, 0, none⟩) n n]).toArray 64)) ?_ ?_
  · simp [execOp, ho, hg, Instr.box, newVar, newRow, Value.cells, Result.andThen]
  · exact ⟨_, rfl, (Below.refl _ w).alloc (Nat.le_refl _) _, fun N' hk hn => ⟨_, g, rfl, hB, hBg, Nat.ne_of_gt hb.lt, hn _ (Nat.le_refl _), hk g hb.lt hN, Blk.new w _ _, hb.alloc _⟩⟩
theorem wp_nil {o : Oper} {x : Operand} {p : Addr} (ho : o.op = .nilCheck x) (hx : a.eval x = .pointer (some p)) :
    o.wp Tryd.prog a w (fun a' w' => ∃ u, a' = a.put o.dst u ∧ Below w.heap.size w w' ∧ ∀ N' : Nat → Prop, (∀ k, k < w.heap.size → N k → N' k) → (∀ k, w.heap.size ≤ k → N' k) → (RG.eq (.pointer (some p))).g u w' N') Q := by
  refine wp_quiet ?_
  simp only [execOp, ho, hx]
  simp [go_sem]
theorem wp_field1 {o : Oper} {x : Operand} {b : Nat} (ho : o.op = .fieldAddr 64 x 1) (hx : a.eval x = .pointer (some ⟨b, 0, none⟩)) :
    o.wp Tryd.prog a w (fun a' w' => ∃ u, a' = a.put o.dst u ∧ Below w.heap.size w w' ∧ ∀ N' : Nat → Prop, (∀ k, k < w.heap.size → N k → N' k) → (∀ k, w.heap.size ≤ k → N' k) → (RG.eq (.pointer (some ⟨b, 256, none⟩))).g u w' N') Q := by
  refine wp_quiet ?_
  simp only [execOp, ho, hx]
  simp [go_sem]
theorem wp_load_sl {o : Oper} {x : Operand} {p : Addr} {v : Value} (ho : o.op = .load 22 x) (hx : a.eval x = .pointer (some p)) (hc : CellAt w p v) :
    o.wp Tryd.prog a w (fun a' w' => ∃ u, a' = a.put o.dst u ∧ Below w.heap.size w w' ∧ ∀ N' : Nat → Prop, (∀ k, k < w.heap.size → N k → N' k) → (∀ k, w.heap.size ≤ k → N' k) → (RG.eq v).g u w' N') Q := by
  refine wp_quiet ?_
  simp only [execOp, ho, hx]
  simp [go_sem, hc.1]
theorem wp_index_sets {o : Oper} {x y : Operand} {g n c k : Nat} (ho : o.op = .indexAddr 22 x y) (hx : a.eval x = .slice (some ⟨g, 0, none⟩) n c) (hy : a.eval y = .int .i64 k) (h1 : k < n) :
    o.wp Tryd.prog a w (fun a' w' => ∃ u, a' = a.put o.dst u ∧ Below w.heap.size w w' ∧ ∀ N' : Nat → Prop, (∀ k, k < w.heap.size → N k → N' k) → (∀ k, w.heap.size ≤ k → N' k) → (RG.eq (.pointer (some ⟨g, k * 4, none⟩))).g u w' N') Q := by
  refine wp_quiet ?_
  have hk : ((k : Nat) : Int) < n := by omega
  simp only [execOp, ho, hx, hy]
  simp [go_sem, h1]
theorem cells_set {w : World} {g k : Nat} {rows : List (Nat → Bool)} {m : Nat → Bool} (hb : Blk w g 35 (setsC rows)) (hr : rows[k]? = some m) :
    w.cell? ⟨g, k * 4, none⟩ = some (.int .u64 (word m 0)) ∧ w.cell? ⟨g, k * 4 + 1, none⟩ = some (.int .u64 (word m 1)) ∧ w.cell? ⟨g, k * 4 + 2, none⟩ = some (.int .u64 (word m 2)) ∧ w.cell? ⟨g, k * 4 + 3, none⟩ = some (.int .u64 (word m 3)) :=
  ⟨(hb.cell _).trans (setsC_at rows k m hr 0 (by omega)), (hb.cell _).trans (setsC_at rows k m hr 1 (by omega)), (hb.cell _).trans (setsC_at rows k m hr 2 (by omega)), (hb.cell _).trans (setsC_at rows k m hr 3 (by omega))⟩
theorem wp_load_set_at {o : Oper} {x : Operand} {g k : Nat} {rows : List (Nat → Bool)} {m : Nat → Bool} (ho : o.op = .load 35 x) (hx : a.eval x = .pointer (some ⟨g, k * 4, none⟩)) (hb : Blk w g 35 (setsC rows)) (hr : rows[k]? = some m) :
    o.wp Tryd.prog a w (fun a' w' => ∃ u, a' = a.put o.dst u ∧ Below w.heap.size w w' ∧ ∀ N' : Nat → Prop, (∀ k, k < w.heap.size → N k → N' k) → (∀ k, w.heap.size ≤ k → N' k) → (RG.eq (setV m)).g u w' N') Q := by
  obtain ⟨c0, c1, c2, c3⟩ := cells_set hb hr
  refine wp_quiet ?_
  simp only [execOp, ho, hx]
  simp [go_sem, c0, c1, c2, c3, setV]
theorem wp_build_u8 {o : Oper} {x : Operand} {p : Int} (ho : o.op = .buildSlice 39 1 #[(0, x)]) (hx : a.eval x = .int .u8 p) :
    o.wp Tryd.prog a w (fun a' w' => ∃ u, a' = a.put o.dst u ∧ Below w.heap.size w w' ∧ ∀ N' : Nat → Prop, (∀ k, k < w.heap.size → N k → N' k) → (∀ k, w.heap.size ≤ k → N' k) → (RG.rd .u8 [p]).g u w' N') Q := by
  have hr : (Instr.buildSlice 39 1 #[(0, .int .u8 p)]).run Tryd.prog w = .ok (.slice (some ⟨w.heap.size, 0, none⟩) 1 1) (w.alloc (.cells [.int .u8 p].toArray 5)) := by kernel_rfl
  refine wp_of_run (v := .slice (some ⟨w.heap.size, 0, none⟩) 1 1) (w' := w.alloc (.cells [.int .u8 p].toArray 5)) (by simp [execOp, ho, hx, hr, Result.andThen]) ?_
  refine ⟨_, rfl, (Below.refl _ w).alloc (Nat.le_refl _) _, fun N' _ hN => ⟨_, _, rfl, Nat.le_refl _, by simp, fun i x hi => ⟨_, rfl, hN _ (Nat.le_refl _), (Blk.new w [.int .u8 p] 5).lt, ?_⟩⟩⟩
  match i, hi with
  | 0, hi =>
    simp only [List.getElem?_cons_zero, Option.some.injEq] at hi
    subst hi
    exact (Blk.new w [.int .u8 p] 5).cell 0
  | i + 1, hi => simp at hi
theorem wp_of {o : Oper} {x : Operand} {ts : Array TypeId} {l : List Int} (ho : o.op = .call { callee := .value (.func 18), args := #[x], argTypes := ts }) (hx : (RG.rd .u8 l).g (a.eval x) w N) (hl : ∀ x ∈ l, 0 ≤ x ∧ x < 256) :
    o.wp Tryd.prog a w (fun a' w' => ∃ u, a' = a.put o.dst u ∧ Below w.heap.size w w' ∧ ∀ N' : Nat → Prop, (∀ k, k < w.heap.size → N k → N' k) → (∀ k, w.heap.size ≤ k → N' k) → (RG.eq (setV (ofM l))).g u w' N') Q :=
  wp_call_eq (xs := #[a.eval x]) ho (fun xs w => by kernel_rfl) (by simp only [List.map_toArray, List.map_cons, List.map_nil]) (of_any l _ w (RG.rd_rd hx) hl)
end
/-- A set within a row of sets, written anew. -/
theorem setsC_get (l : List (Nat → Bool)) (i : Nat) (h : i < l.length * 4) : (setsC l)[i]? = (setL (l[i / 4]'(by omega)))[i % 4]? := by
  have := setsC_at l (i / 4) (l[i / 4]'(by omega)) (List.getElem?_eq_getElem _) (i % 4) (Nat.mod_lt _ (by omega))
  rwa [show i / 4 * 4 + i % 4 = i by omega] at this
theorem setsC_set (l : List (Nat → Bool)) (k : Nat) (m : Nat → Bool) (hk : k < l.length) :
    ((((setsC l).set (k * 4) (.int .u64 (word m 0))).set (k * 4 + 1) (.int .u64 (word m 1))).set (k * 4 + 2) (.int .u64 (word m 2))).set (k * 4 + 3) (.int .u64 (word m 3)) = setsC (l.set k m) := by
  apply List.ext_getElem?
  intro i
  by_cases hi : i < l.length * 4
  · rw [setsC_get (l.set k m) i (by simpa using hi)]
    simp only [List.getElem?_set, List.length_set, setsC_length, List.getElem_set]
    by_cases e : k = i / 4
    · subst e
      have h4 : i % 4 = 0 ∨ i % 4 = 1 ∨ i % 4 = 2 ∨ i % 4 = 3 := by omega
      rw [if_pos rfl]
      rcases h4 with h | h | h | h
      · have e0 : i / 4 * 4 = i := by omega
        rw [if_neg (by omega), if_neg (by omega), if_neg (by omega), if_pos e0, if_pos (by omega), h]
        rfl
      · have e0 : i / 4 * 4 + 1 = i := by omega
        rw [if_neg (by omega), if_neg (by omega), if_pos e0, if_pos (by omega), h]
        rfl
      · have e0 : i / 4 * 4 + 2 = i := by omega
        rw [if_neg (by omega), if_pos e0, if_pos (by omega), h]
        rfl
      · have e0 : i / 4 * 4 + 3 = i := by omega
        rw [if_pos e0, if_pos (by omega), h]
        rfl
    · rw [if_neg (by omega), if_neg (by omega), if_neg (by omega), if_neg (by omega), if_neg e]
      exact setsC_get l i hi
  · rw [List.getElem?_eq_none (by simp [setsC_length]; omega), List.getElem?_eq_none (by simp [setsC_length]; omega)]
theorem wpOp_store_set_at {ops : Array Oper} {Q : Exit → Act → World → Prop} {K : Nat} {a : Act} {w : World} {g k : Nat} {m : Nat → Bool} {rows : List (Nat → Bool)} (s x : Nat) {Kc : Act → World → Prop}
    (hop : (ops[K]?).map (fun o => (o.op, o.guard)) = some (.store 35 (.tmp s) (.tmp x), none)) (hd : dstOf ops K = none)
    (hs : a.eval (.tmp s) = .pointer (some ⟨g, k * 4, none⟩)) (hx : a.eval (.tmp x) = setV m) (hb : Blk w g 35 (setsC rows)) (hk : k < rows.length)
    (hK : ∀ w', Blk w' g 35 (setsC (rows.set k m)) → w.grownBy w' (some g) → w'.heap.size = w.heap.size → Kc a w') : wpOp Tryd.prog ops Q K Kc a w := by
  cases ho : ops[K]? with
  | none => rw [ho] at hop; cases hop
  | some o =>
    rw [ho] at hop
    simp only [Option.map_some, Option.some.injEq, Prod.mk.injEq] at hop
    have hdst : dstOf ops K = o.dst := by unfold dstOf; rw [ho]; rfl
    obtain ⟨c0, c1, c2, c3⟩ := cells_set hb (List.getElem?_eq_getElem hk)
    have f0 := hb.frozen (k * 4)
    have f1 := hb.frozen (k * 4 + 1)
    have f2 := hb.frozen (k * 4 + 2)
    have f3 := hb.frozen (k * 4 + 3)
    unfold wpOp
    simp only [ho]
    rw [if_pos (by unfold Region.wanted; rw [hop.2])]
    left
    have hrun : (execOp a.eval o).run Tryd.prog w = .ok .skip ((((w.setCell ⟨g, k * 4, none⟩ (.int .u64 (word m 0))).setCell ⟨g, k * 4 + 1, none⟩ (.int .u64 (word m 1))).setCell ⟨g, k * 4 + 2, none⟩ (.int .u64 (word m 2))).setCell ⟨g, k * 4 + 3, none⟩ (.int .u64 (word m 3))) := by
      simp only [execOp, hop.1, hx, hs, setV]
      simp [go_sem, c0, c1, c2, c3, f0, f1, f2, f3]
    unfold Oper.wp
    rw [hrun]
    show Kc (a.put o.dst undef) _
    rw [show a.put o.dst undef = a by rw [← hdst, hd]; rfl]
    refine hK _ ?_ (only_setCell (only_setCell (only_setCell (only_setCell (World.grownBy.refl _ _) _ _) _ _) _ _) _ _) (by simp [World.setCell])
    rw [← setsC_set rows k m hk]
    exact (((hb.set _ _).set _ _).set _ _).set _ _
end Go.Proofs.YtanimknpnniabaaDoor
