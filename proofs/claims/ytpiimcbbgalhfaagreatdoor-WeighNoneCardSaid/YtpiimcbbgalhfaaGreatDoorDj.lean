/- Weights: what comes behind a position. -/
import Derived.Test.YtpiimcbbgalhfaaGreatDoorDi
import Derived.Test.YtpiimcbbgalhfaaGreatDoorBu
namespace Go.Proofs.YtpiimcbbgalhfaaGreatDoor
set_option maxRecDepth 100000
open Go.RowKit Go.Maps
theorem has_at {w : World} {W n : Nat} {r : Kn × Wg} {fb : List Nat} {sv fv : Value} {A B : Nat} (h : NewAt w W n r fb sv fv A B) (p : Nat) (hp : p < r.2.ms.length) :
    Calls Tryz.prog 96 #[.pointer (some ⟨W, 0, none⟩), .int .i64 ((p : Nat) : Int)] w fun v w' => v = .returned (.bool true) ∧ w' = w := by
  have HP := Lib.hid (wplaces_at h)
  clear h
  go_enter Tryz.func96, Tryz.ntmps96
  go_wp2_with fail
  refine HP.out.mono ?_
  rintro v w1 ⟨rfl, rfl⟩
  go_wp2
  go_returns
  exact ⟨rfl, rfl⟩
set_option maxHeartbeats 2000000 in
theorem follow_at {w : World} {W n b : Nat} {r : Kn × Wg} {fb : List Nat} {sv fv : Value} {A B : Nat} {β : Bag} (h : NewAt w W n r fb sv fv A B) (p : Nat) (hp : p < r.2.ms.length) (hb : fb[p]? = some b) (hβ : r.2.fol[p]? = some β) (hl : r.2.ms.length ≤ 1000) (hin : ∀ q, β q ≠ 0 → q < r.2.ms.length) :
    Calls Tryz.prog 30 #[.pointer (some ⟨W, 0, none⟩), .int .i64 ((p : Nat) : Int)] w fun v w' => ∃ g, v = .returned (.slice (some ⟨g, 0, none⟩) r.2.ms.length r.2.ms.length) ∧ w.heap.size ≤ g ∧ Blk w' g 3 (rowC r.2.ms.length β) ∧ Below w.heap.size w w' := by
  have HH := Lib.hid (has_at h p hp)
  have HR := Lib.hid (row_at h (h.bags p b β hb hβ) hl hin)
  have hpl : p < r.2.fol.length := (List.getElem?_eq_some_iff.1 hβ).1
  have c4 : w.cell? ⟨W, 4, none⟩ = some fv := h.blk.cell 4
  have hWl := h.blk.lt
  have hf := h.fol
  obtain ⟨g, c, rfl⟩ : ∃ g c, fv = .slice (some ⟨g, 0, none⟩) r.2.fol.length c := by
    rcases hf.2 with ⟨_, e⟩ | ⟨g, cap, cur, e, _⟩
    · omega
    · exact ⟨g, cap, e⟩
  have ce : w.cell? ⟨g, p, none⟩ = some (mapV b) := own_cell1 hf p _ (mapsC_get fb p b hb)
  have hgl := (hf.lt g rfl).2
  clear h hb hβ hin hf
  go_enter Tryz.func30, Tryz.ntmps30
  go_wp2_with fail
  refine HH.out.mono ?_
  rintro v w1 ⟨rfl, rfl⟩
  go_wp2_with fail
  refine HR.out.mono ?_
  rintro v w2 ⟨g2, rfl, h1, h2, h3⟩
  have H2 := Lib.hid h2
  have H3 := Lib.hid h3
  clear h2 h3
  go_wp2
  go_returns
  exact ⟨g2, rfl, h1, H2.out, H3.out⟩
end Go.Proofs.YtpiimcbbgalhfaaGreatDoor
/- WeighNone: the document's example. -/
namespace Go.Proofs.YtpiimcbbgalhfaaGreatDoor
set_option maxRecDepth 100000
open Go.RowKit Go.Maps
def treeOf : PRes → Tree
  | .ok n _ => n
  | .err _ _ => .mk 0 noSet 0 0 false [] 0 0
theorem cparse9_ok {s : ByteArray} {n : Tree} {j : Nat} (hp : parseB s = .ok n j) (hz : ¬4096 < sizeM n 0) (w : World) (hT : TabOk w) :
    Calls Tryz.prog 24 #[.string s, .int .i64 0] w fun v w' => (∃ c, v = .returned (.tuple #[cptr c, .int .i64 0, .int .i64 0]) ∧ CoreAt w' (From w) (wrapC 0 (coreT n)) c) ∧ Below w.heap.size w w' := by
  refine (cparse_at s 0 w hT).mono ?_
  rintro v w' ⟨h, hb⟩
  unfold CoreIs at h
  rw [if_pos (by omega), hp] at h
  simp only [] at h
  rw [if_neg hz] at h
  exact ⟨h, hb⟩
def a9S : ByteArray := { data := #[40, 97, 42, 41, 42] }
def b9S : ByteArray := { data := #[97, 123, 54, 48, 48, 125] }
def c9S : ByteArray := { data := #[97, 123, 54, 48, 49, 125] }
theorem a9_parse : parseB a9S = .ok (treeOf (parseB a9S)) 5 := by rfl
theorem b9_parse : parseB b9S = .ok (treeOf (parseB b9S)) 2 := by rfl
theorem c9_parse : parseB c9S = .ok (treeOf (parseB c9S)) 2 := by rfl
theorem a9_size : ¬4096 < sizeM (treeOf (parseB a9S)) 0 := by decide
theorem b9_size : ¬4096 < sizeM (treeOf (parseB b9S)) 0 := by decide
theorem c9_size : ¬4096 < sizeM (treeOf (parseB c9S)) 0 := by decide
def a9C : CT := wrapC 0 (coreT (treeOf (parseB a9S)))
theorem a9_sets : setsN8 a9C = 1 := by rfl
theorem b9_sets : setsN8 (wrapC 0 (coreT (treeOf (parseB b9S)))) = 600 := by rfl
theorem c9_sets : setsN8 (wrapC 0 (coreT (treeOf (parseB c9S)))) = 601 := by rfl
theorem a9_ms : (walkK a9C wg0).2.ms.length = 1 := by rfl
theorem a9_void : (walkK a9C wg0).1.void = 1 := by rfl
def a9B : Bag := ((walkK a9C wg0).2.fol[0]?).getD zeroB
theorem a9_fol : (walkK a9C wg0).2.fol[0]? = some a9B := by rfl
theorem a9_two : a9B 0 = 2 := by rfl
theorem a9_in (q : Nat) (h : a9B q ≠ 0) : q < (walkK a9C wg0).2.ms.length := ((walk_ok a9C wg0 fol0).2 a9B (List.mem_iff_getElem?.2 ⟨0, a9_fol⟩) q).2.2 h
set_option maxHeartbeats 4000000 in
theorem awake09_at (w : World) (hT : TabOk w) :
    Calls Tryz.prog 33 #[] w fun e w' => e = .returned (.bool true) ∧ Below w.heap.size w w' := by
  have HP := Lib.hid (cparse9_ok a9_parse a9_size w hT)
  clear hT
  go_enter Tryz.func33, Tryz.ntmps33
  go_wp2_with fail
  refine HP.out.mono ?_
  rintro v w1 ⟨⟨c, rfl, hc⟩, hb1⟩
  have HN := Lib.hid (new_at (c := a9C) hc (by rw [a9_sets]; omega))
  have HB1 := Lib.hid hb1
  clear hc hb1
  go_wp2_with fail
  refine HN.out.mono ?_
  rintro v w2 ⟨W, fb, sv, fv, A, B, rfl, hW, hb2⟩
  have hlen : fb.length = (walkK a9C wg0).2.fol.length := hW.len
  have hfl : 0 < (walkK a9C wg0).2.fol.length := (List.getElem?_eq_some_iff.1 a9_fol).1
  have HF := Lib.hid (follow_at hW 0 (by rw [a9_ms]; omega) (List.getElem?_eq_getElem (by omega)) a9_fol (by rw [a9_ms]; omega) a9_in)
  have HW := Lib.hid hW
  have HB2 := Lib.hid (HB1.out.trans (hb2.mono HB1.out.size))
  clear hW hb2 hlen hfl
  rw [a9_ms] at HF
  go_wp2_with fail
  refine HF.out.mono ?_
  rintro v w3 ⟨g, rfl, hg1, hg2, hb3⟩
  have c0 : w3.cell? ⟨g, 0, none⟩ = some (.int .i64 2) := by rw [← a9_two]; exact (hg2.cell 0).trans (rowC_get (by omega) a9B)
  have hgl := hg2.lt
  have HW3 := Lib.hid (HW.out.under hb3)
  have HB3 := Lib.hid (HB2.out.trans (hb3.mono HB2.out.size))
  clear hg1 hg2 hb3
  have HPL := Lib.hid (wplaces_at HW3.out)
  have HVO := Lib.hid (void_at HW3.out)
  rw [a9_ms] at HPL
  rw [a9_void] at HVO
  go_wp2_with fail
  refine HPL.out.mono ?_
  rintro v w4 ⟨rfl, rfl⟩
  rename World => w3
  go_wp2_with fail
  refine HVO.out.mono ?_
  rintro v w4 ⟨rfl, rfl⟩
  rename World => w3
  go_wp2
  go_returns
  exact ⟨rfl, HB3.out⟩
end Go.Proofs.YtpiimcbbgalhfaaGreatDoor
/- WeighNone: the walk. -/
namespace Go.Proofs.YtpiimcbbgalhfaaGreatDoor
set_option maxRecDepth 100000
open Go.RowKit Go.Maps
set_option maxHeartbeats 8000000 in
theorem weighnone_law (p : Int) (w : World) (hT : TabOk w) :
    Calls Tryz.prog 5 #[.int .i64 p] w fun e w' => e = .returned (.bool true) ∧ Below w.heap.size w w' := by
  have HP := Lib.hid (cparse9_ok c9_parse c9_size w hT)
  have HQ := Lib.hid (fun W (hW : Below w.heap.size w W) => cparse9_ok b9_parse b9_size W (hT.below hW))
  have HA := Lib.hid (fun W (hW : Below w.heap.size w W) => awake09_at W (hT.below hW))
  have heq : ∀ w : World, (Op.equalIn 10000 24 (.agg #[.int .u64 0, .int .u64 0, .int .u64 0, .int .u64 0]) (.agg #[.int .u64 0, .int .u64 0, .int .u64 0, .int .u64 0])).run Tryz.prog w = .ok true w := fun w => by kernel_rfl
  clear hT
  go_enter Tryz.func5, Tryz.ntmps5
  go_wp2_with fail
  refine (new_nil w).mono ?_
  rintro v w1 ⟨rfl, rfl⟩
  rename World => w
  go_wp2_with fail
  refine HP.out.mono ?_
  rintro v w1 ⟨⟨c, rfl, hc⟩, hb1⟩
  have HN := Lib.hid (new_long hc (by rw [c9_sets]; omega) (by rw [c9_sets]; omega))
  have HB1 := Lib.hid hb1
  clear hc hb1
  go_wp2_with fail
  refine HN.out.mono ?_
  rintro v w2 ⟨rfl, hb2⟩
  have HB2 := Lib.hid (HB1.out.trans (hb2.mono HB1.out.size))
  clear hb2
  go_wp2_with fail
  refine (HQ.out w2 HB2.out).mono ?_
  rintro v w3 ⟨⟨d, rfl, hd⟩, hb3⟩
  have HM := Lib.hid (new_at hd (by rw [b9_sets]; omega))
  have HB3 := Lib.hid (HB2.out.trans (hb3.mono HB2.out.size))
  clear hd hb3
  go_wp2_with fail
  refine HM.out.mono ?_
  rintro v w4 ⟨W, fb, sv, fv, A, B, rfl, hW, hb4⟩
  have HPL := Lib.hid (wplaces_at hW)
  have HB4 := Lib.hid (HB3.out.trans (hb4.mono HB3.out.size))
  have hlen : (walkK (wrapC 0 (coreT (treeOf (parseB b9S)))) wg0).2.ms.length = 600 := by rw [walk_len, b9_sets]; rfl
  rw [hlen] at HPL
  clear hW hb4 hlen
  go_wp2_with fail
  refine HPL.out.mono ?_
  rintro v w5 ⟨rfl, rfl⟩
  rename World => w4
  go_wp2_with fail
  refine (wplaces_nil w4).mono ?_
  rintro v w5 ⟨rfl, rfl⟩
  rename World => w4
  go_wp2_with fail
  refine (set_nil w4 p).mono ?_
  rintro v w5 ⟨rfl, hb5⟩
  have HB5 := Lib.hid (HB4.out.trans (hb5.mono HB4.out.size))
  clear hb5
  rw [show setV noSet = .agg #[.int .u64 (word (fun _ => false) 0), .int .u64 (word (fun _ => false) 1), .int .u64 (word (fun _ => false) 2), .int .u64 (word (fun _ => false) 3)] from rfl]
  simp only [word_none]
  go_wp2_with fail
  refine (void_nil w5).mono ?_
  rintro v w6 ⟨rfl, rfl⟩
  rename World => w5
  go_wp2_with fail
  refine (first_nil w5).mono ?_
  rintro v w6 ⟨rfl, rfl⟩
  rename World => w5
  go_wp2_with fail
  refine (last_nil w5).mono ?_
  rintro v w6 ⟨rfl, rfl⟩
  rename World => w5
  go_wp2_with fail
  refine (follow_nil w5 p).mono ?_
  rintro v w6 ⟨rfl, rfl⟩
  rename World => w5
  go_wp2_with fail
  refine (edges_nil w5).mono ?_
  rintro v w6 ⟨rfl, rfl⟩
  rename World => w5
  go_wp2_with fail
  refine (heavy_nil w5).mono ?_
  rintro v w6 ⟨rfl, rfl⟩
  rename World => w5
  go_wp2_with fail
  refine (HA.out w5 HB5.out).mono ?_
  rintro v w6 ⟨rfl, hb6⟩
  have HB6 := Lib.hid (HB5.out.trans (hb6.mono HB5.out.size))
  clear hb6
  go_wp2
  go_returns
  exact ⟨rfl, HB6.out⟩
end Go.Proofs.YtpiimcbbgalhfaaGreatDoor
