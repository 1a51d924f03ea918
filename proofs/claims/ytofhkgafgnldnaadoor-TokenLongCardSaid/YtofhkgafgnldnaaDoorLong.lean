/- TokenLong: the walk. -/
import Derived.Test.YtofhkgafgnldnaaDoorAwake05
import Derived.Laws.IdiomStrings
import Derived.Laws.BytesArg
namespace Go.Proofs.YtofhkgafgnldnaaDoor
open Go.RowKit
theorem make_long (w : World) : ∃ cs : List Value, cs.length = 1048576 ∧ (∀ u ∈ cs, u = .int .u8 0) ∧ (Instr.makeSlice 38 (.int .i64 1048576) (.int .i64 1048576)).run Tryd.prog w = .ok (.slice (some ⟨w.heap.size, 0, none⟩) 1048576 1048576) (w.alloc (.cells cs.toArray 5)) := by
  obtain ⟨i, hi, h0, h1, h2⟩ := info_parts (by kernel_rfl : (Tryd.prog.info? 5).map (fun i => (i.zero, i.size, i.bytes)) = some (some (.int .u8 0), 1, 1))
  have := run_make (P := Tryd.prog) w 38 5 i _ Tryd.underlying38 hi h0 .i64 .i64 1048576 1048576 (by omega) (by omega) (by rw [h2]; omega) (by omega)
  rw [h1] at this
  refine ⟨(madeCells (Value.int .u8 0).cells ((1048576 : Int).toNat * 1)).toList, ?_, ?_, ?_⟩
  · rw [Array.length_toList, size_madeCells]; rfl
  · intro u hu
    unfold madeCells at hu
    rw [Array.toList_map, List.mem_map] at hu
    obtain ⟨j, _, rfl⟩ := hu
    show (#[Value.int .u8 0])[j % 1]! = _
    rw [Nat.mod_one]
    rfl
  · rw [Array.toArray_toList]
    exact this
theorem u8_elem : Elem Tryd.prog 38 5 1 1 := by
  obtain ⟨i, hi, h0, h1, h2⟩ := info_parts (by kernel_rfl : (Tryd.prog.info? 5).map (fun i => (i.zero, i.size, i.bytes)) = some (some (.int .u8 0), 1, 1))
  exact ⟨i, _, Tryd.underlying38, hi, h0, h1, h2, rfl, by omega⟩
theorem step_long {P : Program} {o : Oper} {a : Act} {w : World} {K : Act → World → Prop} {Q : Exit → Act → World → Prop} (s x : Operand) (t : TypeId)
    (ho : o.op = .call { callee := .builtin .append, args := #[s, x], argTypes := #[t, t] }) (e : TypeId) (he : Elem P t e 1 1) (n : Nat) (cs : List Value) (hn : cs.length = n) (v : Value)
    (hs : a.eval s = .slice (some ⟨w.heap.size, 0, none⟩) n n) (hx : a.eval x = .slice (some ⟨w.heap.size + 1, 0, none⟩) 1 1) (hn1 : n + 1 ≤ 2000000) (h1 : v.oneCell' = true)
    (hK : ∀ v' w', w'.ownsRow w.heap.size e 1 v' (n + 1) (cs ++ [v]) → Below w.heap.size w w' → K (a.put o.dst v') w') :
    Oper.wp P o a ((w.alloc (.cells cs.toArray e)).alloc (.cells #[v] e)) K Q := by
  obtain ⟨i, z, ht, hi, hz, hsize, hby, hzs, hsz⟩ := he
  have hown : ((w.alloc (.cells cs.toArray e)).alloc (.cells #[v] e)).ownsRow w.heap.size e 1 (.slice (some ⟨w.heap.size, 0, none⟩) n n) n cs := by
    refine World.ownsRow.alloc ?_ _
    refine ⟨by omega, .inr ⟨w.heap.size, n, cs.toArray, rfl, Nat.le_refl _, ?_, Nat.le_refl _, by unfold maxLen; omega, by simp; omega, ?_⟩⟩
    · show (w.heap.push _)[w.heap.size]? = _
      simp
    · rw [Nat.mul_one, ← hn]
      exact List.take_length
  have hsz1 : (w.alloc (.cells cs.toArray e)).heap.size = w.heap.size + 1 := by simp
  refine wp_append_own _ s x t ho w.heap.size e i z 1 1 ht hi hz hsize hby hzs hsz _ n cs hs hown ⟨w.heap.size + 1, 0, none⟩ 1 1 [v] hx rfl ?_ (by simpa using h1) (by unfold maxLen; omega) (by omega) (by simp; omega) ?_
  · intro j u hu
    rw [show (⟨w.heap.size + 1, 0, none⟩ : Addr).add j = ⟨w.heap.size + 1, j, none⟩ by unfold Addr.add; split <;> simp_all]
    rw [← hsz1, (Blk.new (w.alloc (.cells cs.toArray e)) [v] e).cell j, hu]
  · intro v' w' hown' hgr _
    refine hK v' w' hown' ?_
    exact (((Below.refl _ w).alloc (Nat.le_refl _) _).alloc (by simp) _).grown hgr (by simp; omega) (fun k hk => ((hown.lt) k hk).1)
/-- The text behind the conversion. -/
theorem back_long {P : Program} {w : World} {src e : TypeId} {n g c base : Nat} {cs : List Value} {b : Int} (hs : P.underlying src = some (.slice e)) (he : P.underlying e = some (.int .u8)) (hcu : ∀ u ∈ cs, u = .int .u8 0)
    (h : w.ownsRow base e 1 (.slice (some ⟨g, 0, none⟩) (n + 1) c) (n + 1) (cs ++ [.int .u8 b])) (dst : TypeId) (hd : P.underlying dst = some .string) :
    ∃ s : ByteArray, s.size = n + 1 ∧ (convert src dst (.slice (some ⟨g, 0, none⟩) (n + 1) c)).run P w = .ok (.string s) w := by
  have hl : cs.length = n := by have := h.1; simp at this; omega
  refine ⟨strOfNums ((List.replicate n 0) ++ [b]), ?_, run_convert_bytes_arg w src e hs he g 0 (n + 1) c _ (by simp) ?_ dst hd⟩
  · unfold strOfNums; simp [ByteArray.size]
  · intro i hi
    rw [Nat.zero_add]
    refine own_cell h i _ ?_
    rcases Nat.lt_or_ge i n with hlt | hge
    · rw [List.getElem?_append_left (by omega), List.getElem?_eq_getElem (by omega), hcu _ (List.getElem_mem _)]
      congr 2
      rw [List.getD_eq_getElem?_getD, List.getElem?_append_left (by simpa using hlt), List.getElem?_replicate, if_pos hlt]
      rfl
    · obtain rfl : i = n := by omega
      rw [List.getElem?_append_right (by omega), hl, Nat.sub_self]
      rw [List.getD_eq_getElem?_getD, List.getElem?_append_right (by simp)]
      simp
set_option maxRecDepth 100000 in
set_option maxHeartbeats 2000000 in
theorem long_law (a0 : Int) (w : World) (hT : TabOk w) :
    Calls Tryd.prog 5 #[.int .u8 a0] w fun e w' => e = .returned (.bool true) ∧ Below w.heap.size w w' := by
  obtain ⟨cs, hcs, hcu, hrun⟩ := make_long w
  go_enter Tryd.func5, Tryd.ntmps5
  go_wp2_with fail
  refine step_long (.tmp 7) (.tmp 9) 38 rfl 5 u8_elem 1048576 cs hcs (.int .u8 a0) rfl rfl (by omega) rfl ?_
  intro v1 w1 hown hb
  obtain ⟨g, c, rfl⟩ := own_some hown (by omega)
  obtain ⟨s, hs, hcv⟩ := back_long (n := 1048576) Tryd.underlying38 Tryd.underlying5 hcu hown 9 Tryd.underlying9
  clear hown hrun hcu hcs
  go_wp2_with fail
  have hT1 := hT.below hb
  refine (scan_at s w1 hT1).mono ?_
  rintro v w2 ⟨lv, n, e, rfl, his, hb2⟩
  unfold ScanIs at his
  rw [if_pos (by omega)] at his
  obtain ⟨rfl, rfl, rfl⟩ := his
  have hT2 := hT1.below hb2
  replace hb := hb.trans (hb2.mono hb.size)
  clear hcv hT hT1 hb2 hs
  go_wp2_with fail
  refine (awake_at w2 hT2).mono ?_
  rintro v w3 ⟨rfl, hb3⟩
  replace hb := hb.trans (hb3.mono hb.size)
  clear hb3
  go_wp2
  go_returns
  exact ⟨rfl, hb⟩
end Go.Proofs.YtofhkgafgnldnaaDoor
