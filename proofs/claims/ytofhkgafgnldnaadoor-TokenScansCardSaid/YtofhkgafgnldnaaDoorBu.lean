/- TokenScans: the walk. -/
import Derived.Test.YtofhkgafgnldnaaDoorBr
import Derived.Test.YtofhkgafgnldnaaDoorBh
import Derived.Laws.StructEq
namespace Go.Proofs.YtofhkgafgnldnaaDoor
open Go.RowKit
theorem cell_lt {w : World} {b o : Nat} {v : Value} (h : w.cell? ⟨b, o, none⟩ = some v) : b < w.heap.size := by
  unfold World.cell? at h
  rcases Nat.lt_or_ge b w.heap.size with hl | hl
  · exact hl
  · simp only [] at h
    rw [Array.getElem?_eq_none hl] at h
    cases h
/-- Two tokens that are the same are told the same. -/
theorem run_eq_tok (d : Nat) (x : Tok) (f t : Nat) (w : World) : (Op.equalIn (d + 3) 35 (tokV x f t) (tokV x f t)).run Tryd.prog w = .ok true w := by
  have h : (Tryd.prog.fieldsOf 35).toList.map (fun f => (f.name, f.type, f.offset)) = [("Kind", 3, 0), ("From", 3, 1), ("To", 3, 2), ("Set", 32, 3), ("Min", 3, 7), ("Max", 3, 8), ("Lazy", 4, 9)] := by kernel_rfl
  rw [run_equalIn_struct w (d + 2) 35 _ _ (by kernel_rfl) (by kernel_rfl)]
  generalize (Tryd.prog.fieldsOf 35).toList = L at h
  have hi : ∀ w, (isAgg 3).run Tryd.prog w = .ok false w := fun _ => by kernel_rfl
  have hb : ∀ w, (isAgg 4).run Tryd.prog w = .ok false w := fun _ => by kernel_rfl
  have hs : ∀ w, (isAgg 32).run Tryd.prog w = .ok true w := fun _ => by kernel_rfl
  have hz : ∀ w, (sizeOf 32).run Tryd.prog w = .ok 4 w := fun _ => by kernel_rfl
  have hl : L.length = 7 := by have := congrArg List.length h; simpa using this
  match L, hl, h with
  | [f0, f1, f2, f3, f4, f5, f6], _, h =>
    simp only [List.map_cons, List.map_nil, List.cons.injEq, Prod.mk.injEq] at h
    obtain ⟨⟨n0, t0, o0⟩, ⟨n1, t1, o1⟩, ⟨n2, t2, o2⟩, ⟨n3, t3, o3⟩, ⟨n4, t4, o4⟩, ⟨n5, t5, o5⟩, ⟨n6, t6, o6⟩, -⟩ := h
    have he : ∀ (a : Int) (w : World), (Op.equalIn (d + 2) 3 (.int .i64 a) (.int .i64 a)).run Tryd.prog w = .ok true w := by
      intro a w
      simp [Op.equalIn, run_underlying Tryd.underlying3]
    have heb : ∀ (a : Bool) (w : World), (Op.equalIn (d + 2) 4 (.bool a) (.bool a)).run Tryd.prog w = .ok true w := by
      intro a w
      simp [Op.equalIn, run_underlying Tryd.underlying4]
    have hes : ∀ w, (Op.equalIn (d + 2) 32 (setV x.set) (setV x.set)).run Tryd.prog w = .ok true w := by
      intro w
      unfold setV
      rw [run_eq_words d]
      simp
    simp [Op.eqFields, n0, n1, n2, n3, n4, n5, n6, t0, t1, t2, t3, t4, t5, t6, o0, o1, o2, o3, o4, o5, o6, part, hi, hb, hs, hz, he, heb, hes]
theorem eq_tok (x : Tok) (f t : Nat) (w : World) : (Op.equalIn 10000 35 (tokV x f t) (tokV x f t)).run Tryd.prog w = .ok true w := run_eq_tok 9997 x f t w
set_option maxRecDepth 100000 in
set_option maxHeartbeats 4000000 in
theorem scans_law (s : ByteArray) (w : World) (hT : TabOk w) :
    Calls Tryd.prog 3 #[.string s] w fun e w' => e = .returned (.bool true) ∧ Below w.heap.size w w' := by
  by_cases h1 : 300 < s.size
  · go_enter Tryd.func3, Tryd.ntmps3
    go_wp2_with fail
    refine (awake_at w hT).mono ?_
    rintro v w1 ⟨rfl, hb⟩
    go_wp2
    go_returns
    exact ⟨rfl, hb⟩
  · have htl := tab_lt hT
    have HT := Lib.hid hT
    clear hT
    go_enter Tryd.func3, Tryd.ntmps3
    go_wp2_with fail
    refine (scan_at s w HT.out).mono ?_
    rintro v w1 ⟨lv, n, e, rfl, his, hb1⟩
    unfold ScanIs at his
    rw [if_neg (by omega)] at his
    have HI := Lib.hid his
    clear his
    go_wp2_with fail
    refine (refscan_at s (by omega) w1).mono ?_
    rintro v w2 ⟨lv2, n2, e2, rfl, his2, hb2⟩
    have HB := Lib.hid (hb1.trans (hb2.mono hb1.size))
    have his := HI.out
    unfold RScanIs at his2
    cases hs : scanM (bytesN s) with
    | err j k =>
      rw [hs] at his his2
      obtain ⟨rfl, rfl, rfl, hk⟩ := his
      obtain ⟨rfl, rfl, rfl, _⟩ := his2
      have hTz := tab_far HT.out HB.out htl
      clear hs hk HI hb1 hb2
      go_wp2_with fail
      go_loopw [9] (fun iv wr => iv = .int .i64 0 ∧ wr = w2) (fun _ _ => 0)
      case atStart => exact ⟨rfl, rfl⟩
      case round =>
        obtain ⟨rfl, rfl⟩ := hrel
        go_wp2_with fail
        refine (awake_at wr hTz).mono ?_
        rintro v w3 ⟨rfl, hb⟩
        go_wp2
        go_returns
        exact ⟨rfl, HB.out.trans (hb.mono HB.out.size)⟩
    | ok L m =>
      rw [hs] at his his2
      obtain ⟨hown, rfl, rfl⟩ := his
      obtain ⟨hown2, rfl, rfl⟩ := his2
      replace hown := own_below hown hb2
      obtain ⟨o1, c1, rfl, ho1⟩ := own_form' hown
      obtain ⟨o2, c2, rfl, ho2⟩ := own_form' hown2
      have HO1 := Lib.hid hown
      have HO2 := Lib.hid hown2
      have HF1 := Lib.hid ho1
      have HF2 := Lib.hid ho2
      have hTz := Lib.hid (tab_far HT.out HB.out htl)
      have hlen : L.length ≤ 300 := by
        have := chain_le (chain_of hs)
        rw [bytesN_length] at this
        omega
      clear hs HI hb1 hb2 hown hown2 ho1 ho2
      go_wp2_with fail
      go_loopw [9] (fun iv wr => ∃ k : Nat, iv = .int .i64 ((k : Nat) : Int) ∧ k ≤ L.length ∧ Hid (Below w2.heap.size w2 wr)) (fun iv _ => L.length - (intOf iv).toNat)
      case atStart => exact ⟨0, rfl, Nat.zero_le _, Lib.hid (Below.refl _ _)⟩
      case round =>
        obtain ⟨k, rfl, hk, HW⟩ := hrel
        by_cases hlt : k < L.length
        · obtain ⟨x, f, t, hx⟩ : ∃ x f t, L[k]? = some (x, f, t) := ⟨_, _, _, List.getElem?_eq_getElem hlt⟩
          obtain ⟨g1, rfl⟩ := HF1.out (by omega)
          obtain ⟨g2, rfl⟩ := HF2.out (by omega)
          have q1 := own_below HO1.out HW.out
          have q2 := own_below HO2.out HW.out
          have d0 := own_cell q2 _ _ (toksC_get (r := 0) hx rfl)
          have e0 := own_cell q1 _ _ (toksC_get (r := 0) hx rfl)
          have d1 := own_cell q2 _ _ (toksC_get (r := 1) hx rfl)
          have e1 := own_cell q1 _ _ (toksC_get (r := 1) hx rfl)
          have d2 := own_cell q2 _ _ (toksC_get (r := 2) hx rfl)
          have e2 := own_cell q1 _ _ (toksC_get (r := 2) hx rfl)
          have d3 := own_cell q2 _ _ (toksC_get (r := 3) hx rfl)
          have e3 := own_cell q1 _ _ (toksC_get (r := 3) hx rfl)
          have d4 := own_cell q2 _ _ (toksC_get (r := 4) hx rfl)
          have e4 := own_cell q1 _ _ (toksC_get (r := 4) hx rfl)
          have d5 := own_cell q2 _ _ (toksC_get (r := 5) hx rfl)
          have e5 := own_cell q1 _ _ (toksC_get (r := 5) hx rfl)
          have d6 := own_cell q2 _ _ (toksC_get (r := 6) hx rfl)
          have e6 := own_cell q1 _ _ (toksC_get (r := 6) hx rfl)
          have d7 := own_cell q2 _ _ (toksC_get (r := 7) hx rfl)
          have e7 := own_cell q1 _ _ (toksC_get (r := 7) hx rfl)
          have d8 := own_cell q2 _ _ (toksC_get (r := 8) hx rfl)
          have e8 := own_cell q1 _ _ (toksC_get (r := 8) hx rfl)
          have d9 := own_cell q2 _ _ (toksC_get (r := 9) hx rfl)
          have e9 := own_cell q1 _ _ (toksC_get (r := 9) hx rfl)
          rw [Nat.add_zero] at d0 e0
          have hg1 : g1 < wr.heap.size := cell_lt e0
          have hg2 : g2 < wr.heap.size := cell_lt d0
          have HX := Lib.hid (eq_tok x f t)
          have heq : ∀ w, (Op.equalIn 10000 35 (.agg #[.int .i64 ((x.kind : Nat) : Int), .int .i64 ((f : Nat) : Int), .int .i64 ((t : Nat) : Int), .int .u64 (word x.set 0), .int .u64 (word x.set 1), .int .u64 (word x.set 2), .int .u64 (word x.set 3), .int .i64 ((x.lo : Nat) : Int), .int .i64 x.hi, .bool x.lazy]) (.agg #[.int .i64 ((x.kind : Nat) : Int), .int .i64 ((f : Nat) : Int), .int .i64 ((t : Nat) : Int), .int .u64 (word x.set 0), .int .u64 (word x.set 1), .int .u64 (word x.set 2), .int .u64 (word x.set 3), .int .i64 ((x.lo : Nat) : Int), .int .i64 x.hi, .bool x.lazy])).run Tryd.prog w = .ok true w := HX.out
          clear hx q1 q2 HX
          go_wp2_with fail
          go_quiet (fail)
          go_wp2
          go_roundw
          case rel => exact ⟨k + 1, by go_num, hlt, Lib.hid (below_drewN (HW.out.alloc HW.out.size _) _)⟩
          case measure => simp [intOf]; omega
        · obtain rfl : k = L.length := by omega
          have hTw := tab_far hTz.out HW.out (by have := HB.out.size; omega)
          go_wp2_with fail
          refine (awake_at wr hTw).mono ?_
          rintro v w3 ⟨rfl, hb⟩
          go_wp2
          go_returns
          exact ⟨rfl, (HB.out.trans (HW.out.mono HB.out.size)).trans (hb.mono (by have := HB.out.size; have := HW.out.size; omega))⟩
end Go.Proofs.YtofhkgafgnldnaaDoor
