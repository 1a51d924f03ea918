/- bytes.From: its region, its walk. -/
import Derived.Test.YtanimknpnniabaaOps3
namespace Go.Proofs.Ytanimknpnniabaa
open Go.RowKit
attribute [local go_sem] eq_words eqB_words eqB_zero
noncomputable def frm_ops : Array Oper := regOf Try.f19 5
def frm_S (m : Nat → Bool) (lo hi : Int) (_hlo : 0 ≤ lo ∧ lo < 256) (_hhi : 0 ≤ hi ∧ hi < 256) (pB : Nat) : List RK := [RK.eq (setV m), RK.eq (.pointer (some ⟨pB, 0, none⟩)), RK.eq (.int .u8 lo), RK.eq (.pointer (some ⟨pB, 1, none⟩)), RK.eq (.int .u8 hi), RK.eq (setV (rangeM lo hi)), RK.val (RG.sets [m, (rangeM lo hi)]), RK.eq (setV (anyM [m, (rangeM lo hi)]))]
theorem frm_o0 (m : Nat → Bool) (lo hi : Int) (_hlo : 0 ≤ lo ∧ lo < 256) (_hhi : 0 ≤ hi ∧ hi < 256) (pB : Nat) (b : Nat) (Q : Exit → Act → World → Prop) (a0 : Act) (w0 : World) (hs3 : a0.tmps.getD 3 undef = .pointer (some ⟨b, 0, none⟩)) (hB3 : Blk w0 b 24 (setL m)) : Obl Try.prog frm_ops (frm_S m lo hi _hlo _hhi pB) Q a0 w0 0 :=
  obl_load_old 3 (b) rfl none (by kernel_rfl) (by kernel_rfl) hs3 hB3 (fun a w N H D => (fun _ _ hg => by cases hg))
theorem frm_o1 (m : Nat → Bool) (lo hi : Int) (_hlo : 0 ≤ lo ∧ lo < 256) (_hhi : 0 ≤ hi ∧ hi < 256) (pB : Nat) (Q : Exit → Act → World → Prop) (a0 : Act) (w0 : World) (hs5 : a0.tmps.getD 5 undef = .pointer (some ⟨pB, 0, none⟩)) : Obl Try.prog frm_ops (frm_S m lo hi _hlo _hhi pB) Q a0 w0 1 :=
  obl_val (.indexAddr 40 (.tmp 5) (.const (.int .i64 0))) none rfl (by kernel_rfl) fun a w N H D => ⟨(fun _ _ hg => by cases hg), fun _ ho => wp_index_pair ho (held_base H 5 (by kernel_rfl) hs5) rfl (by decide) (by decide)⟩
theorem frm_o2 (m : Nat → Bool) (lo hi : Int) (_hlo : 0 ≤ lo ∧ lo < 256) (_hhi : 0 ≤ hi ∧ hi < 256) (pB : Nat) (Q : Exit → Act → World → Prop) (a0 : Act) (w0 : World) (hB5 : Blk w0 pB 40 [.int .u8 lo, .int .u8 hi]) : Obl Try.prog frm_ops (frm_S m lo hi _hlo _hhi pB) Q a0 w0 2 :=
  obl_val (.load 5 (.tmp 13)) none rfl (by kernel_rfl) fun a w N H D => ⟨(fun _ _ hg => by cases hg), fun _ ho => wp_load_u8 (b := lo) ho (fact_eq (c := .pointer (some ⟨pB, 0, none⟩)) (D 1 (by kernel_rfl)) rfl (by kernel_rfl)) (((hB5.below H.below hB5.lt).cell 0).trans rfl)⟩
theorem frm_o3 (m : Nat → Bool) (lo hi : Int) (_hlo : 0 ≤ lo ∧ lo < 256) (_hhi : 0 ≤ hi ∧ hi < 256) (pB : Nat) (Q : Exit → Act → World → Prop) (a0 : Act) (w0 : World) (hs5 : a0.tmps.getD 5 undef = .pointer (some ⟨pB, 0, none⟩)) : Obl Try.prog frm_ops (frm_S m lo hi _hlo _hhi pB) Q a0 w0 3 :=
  obl_val (.indexAddr 40 (.tmp 5) (.const (.int .i64 1))) none rfl (by kernel_rfl) fun a w N H D => ⟨(fun _ _ hg => by cases hg), fun _ ho => wp_index_pair ho (held_base H 5 (by kernel_rfl) hs5) rfl (by decide) (by decide)⟩
theorem frm_o4 (m : Nat → Bool) (lo hi : Int) (_hlo : 0 ≤ lo ∧ lo < 256) (_hhi : 0 ≤ hi ∧ hi < 256) (pB : Nat) (Q : Exit → Act → World → Prop) (a0 : Act) (w0 : World) (hB5 : Blk w0 pB 40 [.int .u8 lo, .int .u8 hi]) : Obl Try.prog frm_ops (frm_S m lo hi _hlo _hhi pB) Q a0 w0 4 :=
  obl_val (.load 5 (.tmp 15)) none rfl (by kernel_rfl) fun a w N H D => ⟨(fun _ _ hg => by cases hg), fun _ ho => wp_load_u8 (b := hi) ho (fact_eq (c := .pointer (some ⟨pB, 1, none⟩)) (D 3 (by kernel_rfl)) rfl (by kernel_rfl)) (((hB5.below H.below hB5.lt).cell 1).trans rfl)⟩
theorem frm_o5 (m : Nat → Bool) (lo hi : Int) (_hlo : 0 ≤ lo ∧ lo < 256) (_hhi : 0 ≤ hi ∧ hi < 256) (pB : Nat) (Q : Exit → Act → World → Prop) (a0 : Act) (w0 : World)  : Obl Try.prog frm_ops (frm_S m lo hi _hlo _hhi pB) Q a0 w0 5 :=
  obl_val (.call { callee := .value (.func 30), args := #[.tmp 14, .tmp 16], argTypes := #[5, 5] }) none rfl (by kernel_rfl) fun a w N H D => ⟨(fun _ _ hg => by cases hg), fun _ ho => wp_call_eq ho (fun xs w => by kernel_rfl) (by simp only [List.map_toArray, List.map_cons, List.map_nil]; rw [(fact_eq (c := .int .u8 lo) (D 2 (by kernel_rfl)) rfl (by kernel_rfl)), (fact_eq (c := .int .u8 hi) (D 4 (by kernel_rfl)) rfl (by kernel_rfl))]) (range_any lo hi _hlo _hhi _)⟩
theorem frm_o6 (m : Nat → Bool) (lo hi : Int) (_hlo : 0 ≤ lo ∧ lo < 256) (_hhi : 0 ≤ hi ∧ hi < 256) (pB : Nat) (Q : Exit → Act → World → Prop) (a0 : Act) (w0 : World)  : Obl Try.prog frm_ops (frm_S m lo hi _hlo _hhi pB) Q a0 w0 6 :=
  obl_val (.buildSlice 42 2 #[(0, .tmp 12), (1, .tmp 17)]) none rfl (by kernel_rfl) fun a w N H D => ⟨(fun _ _ hg => by cases hg), fun _ ho => wp_build2 ho (fact_eq (c := setV m) (D 0 (by kernel_rfl)) rfl (by kernel_rfl)) (fact_eq (c := setV (rangeM lo hi)) (D 5 (by kernel_rfl)) rfl (by kernel_rfl))⟩
theorem frm_o7 (m : Nat → Bool) (lo hi : Int) (_hlo : 0 ≤ lo ∧ lo < 256) (_hhi : 0 ≤ hi ∧ hi < 256) (pB : Nat) (Q : Exit → Act → World → Prop) (a0 : Act) (w0 : World)  : Obl Try.prog frm_ops (frm_S m lo hi _hlo _hhi pB) Q a0 w0 7 :=
  obl_val (.call { callee := .value (.func 7), args := #[.tmp 18], argTypes := #[42] }) none rfl (by kernel_rfl) fun a w N H D => ⟨(fun _ _ hg => by cases hg), fun _ ho => wp_call_eq (xs := #[a.eval (.tmp 18)]) ho (fun xs w => by kernel_rfl) (by simp only [List.map_toArray, List.map_cons, List.map_nil]) (union_any [m, (rangeM lo hi)] _ _ (RG.sets_rd (fact_val (D 6 (by kernel_rfl)) rfl (by kernel_rfl))))⟩
theorem frm_all (m : Nat → Bool) (lo hi : Int) (_hlo : 0 ≤ lo ∧ lo < 256) (_hhi : 0 ≤ hi ∧ hi < 256) (pB : Nat) (b : Nat) (Q : Exit → Act → World → Prop) (a0 : Act) (w0 : World) (hs3 : a0.tmps.getD 3 undef = .pointer (some ⟨b, 0, none⟩)) (hB3 : Blk w0 b 24 (setL m)) (hs5 : a0.tmps.getD 5 undef = .pointer (some ⟨pB, 0, none⟩)) (hB5 : Blk w0 pB 40 [.int .u8 lo, .int .u8 hi]) : ∀ i, i < 8 → Obl Try.prog frm_ops (frm_S m lo hi _hlo _hhi pB) Q a0 w0 i := by
  intro i hi_
  match i, hi_ with
  | 0, _ => exact frm_o0 m lo hi _hlo _hhi pB b Q a0 w0 hs3 hB3
  | 1, _ => exact frm_o1 m lo hi _hlo _hhi pB  Q a0 w0 hs5
  | 2, _ => exact frm_o2 m lo hi _hlo _hhi pB  Q a0 w0 hB5
  | 3, _ => exact frm_o3 m lo hi _hlo _hhi pB  Q a0 w0 hs5
  | 4, _ => exact frm_o4 m lo hi _hlo _hhi pB  Q a0 w0 hB5
  | 5, _ => exact frm_o5 m lo hi _hlo _hhi pB  Q a0 w0 
  | 6, _ => exact frm_o6 m lo hi _hlo _hhi pB  Q a0 w0 
  | 7, _ => exact frm_o7 m lo hi _hlo _hhi pB  Q a0 w0 
  | i + 8, h => exact absurd h (by omega)
set_option maxRecDepth 100000 in
set_option maxHeartbeats 1000000 in
theorem from_any (l : List (Int × Int)) (hin : ∀ p ∈ l, (0 ≤ p.1 ∧ p.1 < 256) ∧ 0 ≤ p.2 ∧ p.2 < 256) (v : Value) (w : World) (hv : RdP w v l) :
    Calls Try.prog 19 #[v] w fun e w' => e = .returned (setV (fromM l)) ∧ Below w.heap.size w w' := by
  obtain ⟨A, c, rfl, h1, h2, h3⟩ := hv
  have H3 := Lib.hid h3
  have HI := Lib.hid hin
  clear h3 hin
  go_enter Try.func19, Try.ntmps19
  go_wp2
  go_loopw [8] (fun i wr => ∃ k : Nat, k ≤ l.length ∧ i = .int .i64 k ∧ Blk wr w.heap.size 24 (setL (fun _ => false)) ∧ Blk wr (w.heap.size + 1) 24 (setL (fromM (l.take k))) ∧ Below w.heap.size w wr) (fun i _ => l.length - (intOf i).toNat)
  case atStart =>
    refine ⟨0, Nat.zero_le _, rfl, ?_, ?_, by go_grown⟩
    · rw [setL, word_none, word_none, word_none, word_none]
      exact (Blk.new w _ _).alloc _
    · rw [show fromM (l.take 0) = fun _ => false from rfl, setL, word_none, word_none, word_none, word_none]
      exact blk_new2 w _ _ _
  case round =>
    obtain ⟨k, hk, rfl, hb0, hb1, hbw⟩ := hrel
    by_cases hlt : k < l.length
    · obtain ⟨ad, rfl, had, e0, e1⟩ := H3.out k l[k] (List.getElem?_eq_getElem hlt)
      have hl : (ad.add (k * 2)).block < w.heap.size := by rw [add_block]; exact had
      have d0 := (hbw.cell hl).trans e0
      have d1 := (hbw.cell (p := ⟨(ad.add (k * 2)).block, (ad.add (k * 2)).off + 1, none⟩) hl).trans e1
      have hx := HI.out l[k] (List.getElem_mem hlt)
      have hsn := List.take_succ_eq_append_getElem hlt
      have HS := Lib.hid ((fromM_snoc (l.take k) l[k]).trans (congrArg fromM hsn.symm))
      clear e0 e1 hsn
      generalize hpq : l[k] = p at *
      clear hpq
      obtain ⟨lo, hi⟩ := p
      obtain ⟨hx0, hx1⟩ := hx
      simp only [] at d0 d1 hx0 hx1
      have hz := hb1.lt
      generalize fromM (l.take k) = m at *
      go_wp2_with fail
      have hb5 := Blk.new wr [.int .u8 lo, .int .u8 hi] 40
      have hb1a := hb1.alloc (.cells #[.int .u8 lo, .int .u8 hi] 40)
      have hb0a := hb0.alloc (.cells #[.int .u8 lo, .int .u8 hi] 40)
      have hbwa := hbw.alloc (by omega) (.cells #[.int .u8 lo, .int .u8 hi] 40)
      refine region_last (ops' := frm_ops) (by kernel_rfl) (frm_S m lo hi hx0 hx1 wr.heap.size) 22 8 rfl (by kernel_rfl) (by kernel_rfl) (by kernel_rfl) (frm_all m lo hi hx0 hx1 wr.heap.size (w.heap.size + 1) _ _ _ rfl hb1a.drew rfl hb5.drew) ?_
      rename_i hK
      intro a w1 N H hF
      have q0 : a.tmps.getD 0 undef = .slice (some ad) l.length c := held_base H 0 (by kernel_rfl) rfl
      have q1 : a.tmps.getD 1 undef = undef := held_base H 1 (by kernel_rfl) rfl
      have q4 : a.tmps.getD 4 undef = undef := held_base H 4 (by kernel_rfl) rfl
      have q21 : a.tmps.getD 21 undef = undef := held_base H 21 (by kernel_rfl) rfl
      have q2 : a.tmps.getD 2 undef = .pointer (some ⟨w.heap.size, 0, none⟩) := held_base H 2 (by kernel_rfl) rfl
      have q3 : a.tmps.getD 3 undef = .pointer (some ⟨w.heap.size + 1, 0, none⟩) := held_base H 3 (by kernel_rfl) rfl
      have q6 : a.tmps.getD 6 undef = .slice (some ad) l.length c := held_base H 6 (by kernel_rfl) rfl
      have q7 : a.tmps.getD 7 undef = .int .i64 l.length := held_base H 7 (by kernel_rfl) rfl
      have q8 : a.tmps.getD 8 undef = .int .i64 k := held_base H 8 (by kernel_rfl) rfl
      have q19 : a.tmps.getD 19 undef = setV (anyM [m, rangeM lo hi]) := fact_eq (hF 7 (by kernel_rfl)) rfl (by kernel_rfl)
      have hd : a.defers = [] := H.defers
      have Hsz : a.tmps.size = 22 := H.size
      replace hb1 := hb1a.drew.below H.below hb1a.lt
      replace hb0 := hb0a.drew.below H.below hb0a.lt
      replace hbw := hbwa.drew.trans (H.below.mono hbwa.size)
      clear hF hb5 hb1a hb0a hbwa H
      refine wpOp_store_set 3 19 (by kernel_rfl) (by kernel_rfl) q3 q19 hb1 ?_
      have hb1' := hb1.set4 (.int .u64 (word (anyM [m, rangeM lo hi]) 0)) (.int .u64 (word (anyM [m, rangeM lo hi]) 1)) (.int .u64 (word (anyM [m, rangeM lo hi]) 2)) (.int .u64 (word (anyM [m, rangeM lo hi]) 3))
      have hb0' := hb0.far4 (g := w.heap.size + 1) (by omega) (.int .u64 (word (anyM [m, rangeM lo hi]) 0)) (.int .u64 (word (anyM [m, rangeM lo hi]) 1)) (.int .u64 (word (anyM [m, rangeM lo hi]) 2)) (.int .u64 (word (anyM [m, rangeM lo hi]) 3))
      have hbw' := below_set4 (g := w.heap.size + 1) hbw (by omega) (.int .u64 (word (anyM [m, rangeM lo hi]) 0)) (.int .u64 (word (anyM [m, rangeM lo hi]) 1)) (.int .u64 (word (anyM [m, rangeM lo hi]) 2)) (.int .u64 (word (anyM [m, rangeM lo hi]) 3))
      generalize (((w1.setCell _ _).setCell _ _).setCell _ _).setCell _ _ = w2 at *
      clear hb1 hb0 hbw
      refine hK _ _ ?_
      rw [act_eq a 22 Hsz, show List.range 22 = [0, 1, 2, 3, 4, 5, 6, 7, 8, 9, 10, 11, 12, 13, 14, 15, 16, 17, 18, 19, 20, 21] from rfl]
      simp only [List.map_cons, List.map_nil, q0, q1, q2, q3, q4, q6, q7, q8, q19, q21, hd]
      generalize a.tmps.getD 5 undef = z5
      generalize a.tmps.getD 9 undef = z9
      generalize a.tmps.getD 10 undef = z10
      generalize a.tmps.getD 11 undef = z11
      generalize a.tmps.getD 12 undef = z12
      generalize a.tmps.getD 13 undef = z13
      generalize a.tmps.getD 14 undef = z14
      generalize a.tmps.getD 15 undef = z15
      generalize a.tmps.getD 16 undef = z16
      generalize a.tmps.getD 17 undef = z17
      generalize a.tmps.getD 18 undef = z18
      generalize a.tmps.getD 20 undef = z20
      go_wp2
      go_roundw
      case rel =>
        refine ⟨k + 1, by omega, by go_num, hb0', ?_, hbw'⟩
        rw [← HS.out]
        exact hb1'
      case measure => simp [intOf]; omega
    · obtain rfl : k = l.length := by omega
      obtain ⟨c0, c1, c2, c3, _, _, _, _⟩ := hb1.four
      obtain ⟨_, _, _, _, f0, f1, f2, f3⟩ := hb0.four
      go_wp2
      refine ret_set (b := w.heap.size) rfl rfl (hb0.set4 _ _ _ _) rfl ⟨?_, below_set4 hbw (Nat.le_refl _) _ _ _ _⟩
      rfl
end Go.Proofs.Ytanimknpnniabaa
