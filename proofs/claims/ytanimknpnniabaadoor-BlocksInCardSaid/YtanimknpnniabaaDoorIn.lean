/- Blocks.In: the blocks of a set. -/
import Derived.Test.YtanimknpnniabaaDoorOps6
import Derived.Test.YtanimknpnniabaaDoorFirsts
import Derived.Test.YtanimknpnniabaaDoorOps2
namespace Go.Proofs.YtanimknpnniabaaDoor
open Go.RowKit
attribute [local go_sem] eq_words eqB_words eqB_zero
/-- All of a block's bytes are in the set; none is. -/
def hitB (q : Nat → Nat) (m : Nat → Bool) (k : Nat) : Bool := eqB (fun x => clsZ q ((k : Nat) : Int) x && m x) (clsZ q ((k : Nat) : Int))
def missB (q : Nat → Nat) (m : Nat → Bool) (k : Nat) : Bool := eqB (fun x => clsZ q ((k : Nat) : Int) x && m x) (fun _ => false)
def inL (q : Nat → Nat) (m : Nat → Bool) (n : Nat) : List Int := ((List.range n).filter (hitB q m)).map fun k => ((k : Nat) : Int)
def inOk (q : Nat → Nat) (m : Nat → Bool) (n : Nat) : Bool := (List.range n).all fun k => hitB q m k || missB q m k
theorem inL_succ (q : Nat → Nat) (m : Nat → Bool) (n : Nat) : inL q m (n + 1) = if hitB q m n then inL q m n ++ [((n : Nat) : Int)] else inL q m n := by
  unfold inL
  rw [List.range_succ, List.filter_append]
  by_cases h : hitB q m n <;> simp [h]
theorem inL_length (q : Nat → Nat) (m : Nat → Bool) (n : Nat) : (inL q m n).length ≤ n := by
  unfold inL
  rw [List.length_map]
  exact Nat.le_trans (List.length_filter_le _ _) (by simp)
theorem inOk_succ (q : Nat → Nat) (m : Nat → Bool) (n : Nat) : inOk q m (n + 1) = (inOk q m n && (hitB q m n || missB q m n)) := by
  unfold inOk
  rw [List.range_succ, List.all_append]
  simp
theorem inOk_not (q : Nat → Nat) (m : Nat → Bool) (k n : Nat) (hk : k < n) (h1 : hitB q m k = false) (h2 : missB q m k = false) : inOk q m n = false := by
  rw [Bool.eq_false_iff]
  intro h
  have := List.all_eq_true.1 h k (List.mem_range.2 hk)
  rw [h1, h2] at this
  cases this
noncomputable def inn_ops : Array Oper := regOf Tryd.f26 5
def inn_S (x g n k : Nat) (rows : List (Nat → Bool)) (mk m : Nat → Bool) (hk : k < n) (hm : rows[k]? = some mk) : List RK := [RK.eq (.pointer (some ⟨x, 0, none⟩)), RK.eq (.pointer (some ⟨x, 0, none⟩)), RK.eq (.pointer (some ⟨x, 256, none⟩)), RK.eq (.slice (some ⟨g, 0, none⟩) n n), RK.eq (.int .i64 ((k : Nat) : Int)), RK.eq (.pointer (some ⟨g, k * 4, none⟩)), RK.eq (setV mk), RK.eq (setV m), RK.eq (setV (fun x => mk x && m x)), RK.new 35 4, RK.put 9 (setL (fun x => mk x && m x))]
theorem inn_o0 (x g n k : Nat) (rows : List (Nat → Bool)) (mk m : Nat → Bool) (hk : k < n) (hm : rows[k]? = some mk) (Q : Exit → Act → World → Prop) (a0 : Act) (w0 : World) (hs0 : a0.tmps.getD 0 undef = .pointer (some ⟨x, 0, none⟩)) : Obl Tryd.prog inn_ops (inn_S x g n k rows mk m hk hm) Q a0 w0 0 :=
  obl_val (.move (.tmp 0)) none rfl (by kernel_rfl) fun a w N H D => ⟨(fun _ _ hg => by cases hg), fun _ ho => wp_move (.inl ho) (held_base H 0 (by kernel_rfl) hs0)⟩
theorem inn_o1 (x g n k : Nat) (rows : List (Nat → Bool)) (mk m : Nat → Bool) (hk : k < n) (hm : rows[k]? = some mk) (Q : Exit → Act → World → Prop) (a0 : Act) (w0 : World)  : Obl Tryd.prog inn_ops (inn_S x g n k rows mk m hk hm) Q a0 w0 1 :=
  obl_val (.nilCheck (.tmp 14)) none rfl (by kernel_rfl) fun a w N H D => ⟨(fun _ _ hg => by cases hg), fun _ ho => wp_nil ho (fact_eq (c := .pointer (some ⟨x, 0, none⟩)) (D 0 (by kernel_rfl)) rfl (by kernel_rfl))⟩
theorem inn_o2 (x g n k : Nat) (rows : List (Nat → Bool)) (mk m : Nat → Bool) (hk : k < n) (hm : rows[k]? = some mk) (Q : Exit → Act → World → Prop) (a0 : Act) (w0 : World)  : Obl Tryd.prog inn_ops (inn_S x g n k rows mk m hk hm) Q a0 w0 2 :=
  obl_val (.fieldAddr 64 (.tmp 15) 1) none rfl (by kernel_rfl) fun a w N H D => ⟨(fun _ _ hg => by cases hg), fun _ ho => wp_field1 ho (fact_eq (c := .pointer (some ⟨x, 0, none⟩)) (D 1 (by kernel_rfl)) rfl (by kernel_rfl))⟩
theorem inn_o3 (x g n k : Nat) (rows : List (Nat → Bool)) (mk m : Nat → Bool) (hk : k < n) (hm : rows[k]? = some mk) (Q : Exit → Act → World → Prop) (a0 : Act) (w0 : World) (hF : CellAt w0 ⟨x, 256, none⟩ (.slice (some ⟨g, 0, none⟩) n n)) : Obl Tryd.prog inn_ops (inn_S x g n k rows mk m hk hm) Q a0 w0 3 :=
  obl_val (.load 22 (.tmp 16)) none rfl (by kernel_rfl) fun a w N H D => ⟨(fun _ _ hg => by cases hg), fun _ ho => wp_load_sl ho (fact_eq (c := .pointer (some ⟨x, 256, none⟩)) (D 2 (by kernel_rfl)) rfl (by kernel_rfl)) (hF.at_ H.below)⟩
theorem inn_o4 (x g n k : Nat) (rows : List (Nat → Bool)) (mk m : Nat → Bool) (hk : k < n) (hm : rows[k]? = some mk) (Q : Exit → Act → World → Prop) (a0 : Act) (w0 : World) (hs7 : a0.tmps.getD 7 undef = .int .i64 ((k : Nat) : Int)) : Obl Tryd.prog inn_ops (inn_S x g n k rows mk m hk hm) Q a0 w0 4 :=
  obl_val (.move (.tmp 7)) none rfl (by kernel_rfl) fun a w N H D => ⟨(fun _ _ hg => by cases hg), fun _ ho => wp_move (.inl ho) (held_base H 7 (by kernel_rfl) hs7)⟩
theorem inn_o5 (x g n k : Nat) (rows : List (Nat → Bool)) (mk m : Nat → Bool) (hk : k < n) (hm : rows[k]? = some mk) (Q : Exit → Act → World → Prop) (a0 : Act) (w0 : World)  : Obl Tryd.prog inn_ops (inn_S x g n k rows mk m hk hm) Q a0 w0 5 :=
  obl_val (.indexAddr 22 (.tmp 17) (.tmp 18)) none rfl (by kernel_rfl) fun a w N H D => ⟨(fun _ _ hg => by cases hg), fun _ ho => wp_index_sets ho (fact_eq (c := .slice (some ⟨g, 0, none⟩) n n) (D 3 (by kernel_rfl)) rfl (by kernel_rfl)) (fact_eq (c := .int .i64 ((k : Nat) : Int)) (D 4 (by kernel_rfl)) rfl (by kernel_rfl)) hk⟩
theorem inn_o6 (x g n k : Nat) (rows : List (Nat → Bool)) (mk m : Nat → Bool) (hk : k < n) (hm : rows[k]? = some mk) (Q : Exit → Act → World → Prop) (a0 : Act) (w0 : World) (hG : Blk w0 g 35 (setsC rows)) : Obl Tryd.prog inn_ops (inn_S x g n k rows mk m hk hm) Q a0 w0 6 :=
  obl_val (.load 35 (.tmp 19)) none rfl (by kernel_rfl) fun a w N H D => ⟨(fun _ _ hg => by cases hg), fun _ ho => wp_load_set_at ho (fact_eq (c := .pointer (some ⟨g, k * 4, none⟩)) (D 5 (by kernel_rfl)) rfl (by kernel_rfl)) (hG.below H.below hG.lt) hm⟩
theorem inn_o7 (x g n k : Nat) (rows : List (Nat → Bool)) (mk m : Nat → Bool) (hk : k < n) (hm : rows[k]? = some mk) (b : Nat) (Q : Exit → Act → World → Prop) (a0 : Act) (w0 : World) (hs3 : a0.tmps.getD 3 undef = .pointer (some ⟨b, 0, none⟩)) (hB3 : Blk w0 b 35 (setL m)) : Obl Tryd.prog inn_ops (inn_S x g n k rows mk m hk hm) Q a0 w0 7 :=
  obl_load_old 3 (b) rfl none (by kernel_rfl) (by kernel_rfl) hs3 hB3 (fun a w N H D => (fun _ _ hg => by cases hg))
theorem inn_o8 (x g n k : Nat) (rows : List (Nat → Bool)) (mk m : Nat → Bool) (hk : k < n) (hm : rows[k]? = some mk) (Q : Exit → Act → World → Prop) (a0 : Act) (w0 : World)  : Obl Tryd.prog inn_ops (inn_S x g n k rows mk m hk hm) Q a0 w0 8 :=
  obl_val (.call { callee := .value (.func 40), args := #[.tmp 20, .tmp 21], argTypes := #[35, 35] }) none rfl (by kernel_rfl) fun a w N H D => ⟨(fun _ _ hg => by cases hg), fun _ ho => wp_call_eq ho (fun xs w => by kernel_rfl) (by simp only [List.map_toArray, List.map_cons, List.map_nil]; rw [(fact_eq (c := setV mk) (D 6 (by kernel_rfl)) rfl (by kernel_rfl)), (fact_eq (c := setV m) (D 7 (by kernel_rfl)) rfl (by kernel_rfl))]) (meet_any (mk) (m) _)⟩
theorem inn_o9 (x g n k : Nat) (rows : List (Nat → Bool)) (mk m : Nat → Bool) (hk : k < n) (hm : rows[k]? = some mk) (Q : Exit → Act → World → Prop) (a0 : Act) (w0 : World)  : Obl Tryd.prog inn_ops (inn_S x g n k rows mk m hk hm) Q a0 w0 9 :=
  obl_new rfl (by kernel_rfl)
theorem inn_o10 (x g n k : Nat) (rows : List (Nat → Bool)) (mk m : Nat → Bool) (hk : k < n) (hm : rows[k]? = some mk) (Q : Exit → Act → World → Prop) (a0 : Act) (w0 : World)  : Obl Tryd.prog inn_ops (inn_S x g n k rows mk m hk hm) Q a0 w0 10 :=
  obl_put 8 9 22 8 rfl (by kernel_rfl) (by kernel_rfl) rfl (by kernel_rfl) rfl (by kernel_rfl) (by kernel_rfl) (by kernel_rfl)
theorem inn_all (x g n k : Nat) (rows : List (Nat → Bool)) (mk m : Nat → Bool) (hk : k < n) (hm : rows[k]? = some mk) (b : Nat) (Q : Exit → Act → World → Prop) (a0 : Act) (w0 : World) (hs0 : a0.tmps.getD 0 undef = .pointer (some ⟨x, 0, none⟩)) (hs7 : a0.tmps.getD 7 undef = .int .i64 ((k : Nat) : Int)) (hF : CellAt w0 ⟨x, 256, none⟩ (.slice (some ⟨g, 0, none⟩) n n)) (hG : Blk w0 g 35 (setsC rows)) (hs3 : a0.tmps.getD 3 undef = .pointer (some ⟨b, 0, none⟩)) (hB3 : Blk w0 b 35 (setL m)) : ∀ i, i < inn_ops.size → Obl Tryd.prog inn_ops (inn_S x g n k rows mk m hk hm) Q a0 w0 i := by
  intro i hi_
  have hs : inn_ops.size = 11 := by kernel_rfl
  rw [hs] at hi_
  clear hs
  match i, hi_ with
  | 0, _ => exact inn_o0 x g n k rows mk m hk hm  Q a0 w0 hs0
  | 1, _ => exact inn_o1 x g n k rows mk m hk hm  Q a0 w0 
  | 2, _ => exact inn_o2 x g n k rows mk m hk hm  Q a0 w0 
  | 3, _ => exact inn_o3 x g n k rows mk m hk hm  Q a0 w0 hF
  | 4, _ => exact inn_o4 x g n k rows mk m hk hm  Q a0 w0 hs7
  | 5, _ => exact inn_o5 x g n k rows mk m hk hm  Q a0 w0 
  | 6, _ => exact inn_o6 x g n k rows mk m hk hm  Q a0 w0 hG
  | 7, _ => exact inn_o7 x g n k rows mk m hk hm b Q a0 w0 hs3 hB3
  | 8, _ => exact inn_o8 x g n k rows mk m hk hm  Q a0 w0 
  | 9, _ => exact inn_o9 x g n k rows mk m hk hm  Q a0 w0 
  | 10, _ => exact inn_o10 x g n k rows mk m hk hm  Q a0 w0 
  | i + 11, h => exact absurd h (by omega)
set_option maxRecDepth 100000 in
set_option maxHeartbeats 2000000 in
theorem in_at {x g n : Nat} {q : Nat → Nat} (m : Nat → Bool) (w : World) (h : BlksAt w x g q n) (hn : n ≤ 1000) :
    Calls Tryd.prog 26 #[.pointer (some ⟨x, 0, none⟩), setV m] w fun e w' => ∃ v, e = .returned (.tuple #[v, .bool (inOk q m n)]) ∧ (inOk q m n = true → w'.ownsRow w.heap.size 3 1 v (inL q m n).length ((inL q m n).map (.int .i64))) ∧ (inOk q m n = false → v = .slice none 0 0) ∧ Below w.heap.size w w' := by
  unfold setV
  go_enter Tryd.func26, Tryd.ntmps26
  go_wp2_with fail
  have hB := Blk.new w (setL m) 35
  have hw0 : Below w.heap.size w (w.alloc (.cells (setL m).toArray 35)) := (Below.refl _ w).alloc (Nat.le_refl _) _
  refine (count_at _ (h.below hw0)).mono ?_
  rintro e w1 ⟨rfl, hb⟩
  have hw1 := hw0.trans (hb.mono hw0.size)
  have hB1 := hB.below hb hB.lt
  have HH := Lib.hid h
  clear hB hw0 hb h
  go_wp2
  go_loopw [6, 11] (fun v i wr => ∃ k : Nat, k ≤ n ∧ i = .int .i64 ((k : Nat) : Int) ∧ wr.ownsRow (w.heap.size + 1) 3 1 v (inL q m k).length ((inL q m k).map (.int .i64)) ∧ inOk q m k = true ∧ Blk wr w.heap.size 35 (setL m) ∧ Below w.heap.size w wr) (fun _ i _ => n - (intOf i).toNat)
  case atStart => exact ⟨0, Nat.zero_le _, rfl, World.ownsRow_nil _ _ _ _, rfl, hB1, hw1⟩
  case round =>
    clear hB1 hw1
    obtain ⟨k, hk, rfl, hown, hok, hB, hbw⟩ := hrel
    have hsz := hB.lt
    by_cases hlt : k < n
    · obtain ⟨A, n6, rfl⟩ := own_shape hown
      have hln := inL_length q m k
      generalize hc : (inL q m k).length = c at *
      have HC := Lib.hid hc
      have HO := Lib.hid hok
      have HX := Lib.hid (HH.out.below hbw)
      have Hm := Lib.hid (rows_at q n k hlt)
      have Hown := Lib.hid hown
      have HL := Lib.hid (inL_succ q m k)
      have HS := Lib.hid (inOk_succ q m k)
      have HN := Lib.hid (inOk_not q m k n hlt)
      clear hc hok hown
      generalize hmk : clsZ q ((k : Nat) : Int) = mk at *
      have h1 : hitB q m k = eqB (fun x => mk x && m x) mk := by unfold hitB; rw [hmk]
      have h2 : missB q m k = eqB (fun x => mk x && m x) (fun _ => false) := by unfold missB; rw [hmk]
      clear hmk
      rw [h1, h2] at HS HN
      rw [h1] at HL
      clear h1 h2
      go_wp2_with fail
      have hF : CellAt wr.drew ⟨x, 256, none⟩ (.slice (some ⟨g, 0, none⟩) n n) := ⟨HX.out.slice, HX.out.st.lt⟩
      refine region_named (ops' := inn_ops) (by kernel_rfl) (inn_S x g n k (rowsAt q n 256) mk m hlt Hm.out) 44 rfl (by kernel_rfl) (by kernel_rfl) (inn_all x g n k (rowsAt q n 256) mk m hlt Hm.out w.heap.size _ _ _ rfl rfl hF HX.out.sets.drew rfl hB.drew) ?_
      rename_i hK
      intro a w2 N H hF'
      have q0 : a.tmps.getD 0 undef = .pointer (some ⟨x, 0, none⟩) := held_base H 0 (by kernel_rfl) rfl
      have q1 : a.tmps.getD 1 undef = .agg #[.int .u64 (word m 0), .int .u64 (word m 1), .int .u64 (word m 2), .int .u64 (word m 3)] := held_base H 1 (by kernel_rfl) rfl
      have q2 : a.tmps.getD 2 undef = undef := held_base H 2 (by kernel_rfl) rfl
      have q3 : a.tmps.getD 3 undef = .pointer (some ⟨w.heap.size, 0, none⟩) := held_base H 3 (by kernel_rfl) rfl
      have q6 : a.tmps.getD 6 undef = .slice A c n6 := held_base H 6 (by kernel_rfl) rfl
      have q7 : a.tmps.getD 7 undef = .int .i64 ((k : Nat) : Int) := held_base H 7 (by kernel_rfl) rfl
      have q9 : a.tmps.getD 9 undef = .pointer (some ⟨x, 0, none⟩) := held_base H 9 (by kernel_rfl) rfl
      have q10 : a.tmps.getD 10 undef = .int .i64 ((n : Nat) : Int) := held_base H 10 (by kernel_rfl) rfl
      have q11 : a.tmps.getD 11 undef = .int .i64 ((k : Nat) : Int) := held_base H 11 (by kernel_rfl) rfl
      have q41 : a.tmps.getD 41 undef = undef := held_base H 41 (by kernel_rfl) rfl
      have q42 : a.tmps.getD 42 undef = undef := held_base H 42 (by kernel_rfl) rfl
      have q43 : a.tmps.getD 43 undef = undef := held_base H 43 (by kernel_rfl) rfl
      obtain ⟨bm, q8, hM⟩ : ∃ b, a.tmps.getD 8 undef = .pointer (some ⟨b, 0, none⟩) ∧ Blk w2 b 35 (setL (fun x => mk x && m x)) := fact_put (hF' 10 (by kernel_rfl)) rfl rfl (by kernel_rfl)
      have hd : a.defers = [] := H.defers
      have Hsz : a.tmps.size = 44 := H.size
      have hb2 := H.below
      have Hown2 := Lib.hid (own_below Hown.out ((Below.refl _ _).drew.trans hb2))
      replace hB := hB.drew.below hb2 hB.drew.lt
      have HX2 := Lib.hid (HX.out.below ((Below.refl _ _).drew.trans hb2))
      replace hbw : Below w.heap.size w w2 := hbw.drew.trans (hb2.mono (by have := hbw.size; simpa using this))
      clear hF hF' H hb2 Hown HX
      refine hK _ _ ?_
      rw [act_eq a 44 Hsz, show List.range 44 = [0, 1, 2, 3, 4, 5, 6, 7, 8, 9, 10, 11, 12, 13, 14, 15, 16, 17, 18, 19, 20, 21, 22, 23, 24, 25, 26, 27, 28, 29, 30, 31, 32, 33, 34, 35, 36, 37, 38, 39, 40, 41, 42, 43] from rfl]
      simp only [List.map_cons, List.map_nil, q0, q1, q2, q3, q6, q7, q8, q9, q10, q11, q41, q42, q43, hd]
      generalize a.tmps.getD 4 undef = z4
      generalize a.tmps.getD 5 undef = z5
      generalize a.tmps.getD 12 undef = z12
      generalize a.tmps.getD 13 undef = z13
      generalize a.tmps.getD 14 undef = z14
      generalize a.tmps.getD 15 undef = z15
      generalize a.tmps.getD 16 undef = z16
      generalize a.tmps.getD 17 undef = z17
      generalize a.tmps.getD 18 undef = z18
      generalize a.tmps.getD 19 undef = z19
      generalize a.tmps.getD 20 undef = z20
      generalize a.tmps.getD 21 undef = z21
      generalize a.tmps.getD 22 undef = z22
      generalize a.tmps.getD 23 undef = z23
      generalize a.tmps.getD 24 undef = z24
      generalize a.tmps.getD 25 undef = z25
      generalize a.tmps.getD 26 undef = z26
      generalize a.tmps.getD 27 undef = z27
      generalize a.tmps.getD 28 undef = z28
      generalize a.tmps.getD 29 undef = z29
      generalize a.tmps.getD 30 undef = z30
      generalize a.tmps.getD 31 undef = z31
      generalize a.tmps.getD 32 undef = z32
      generalize a.tmps.getD 33 undef = z33
      generalize a.tmps.getD 34 undef = z34
      generalize a.tmps.getD 35 undef = z35
      generalize a.tmps.getD 36 undef = z36
      generalize a.tmps.getD 37 undef = z37
      generalize a.tmps.getD 38 undef = z38
      generalize a.tmps.getD 39 undef = z39
      generalize a.tmps.getD 40 undef = z40
      clear hd Hsz q0 q1 q2 q3 q6 q7 q9 q10 q11 q41 q42 q43 q8 hK a
      obtain ⟨c0, c1, c2, c3, _, _, _, _⟩ := hM.four
      obtain ⟨d0, d1, d2, d3⟩ := cells_set HX2.out.sets Hm.out
      have hsl := HX2.out.slice
      have hat : (⟨g, 0, none⟩ : Addr).add (k * 4) = ⟨g, k * 4, none⟩ := by unfold Addr.add; split <;> simp_all
      cases hc1 : eqB (fun x => mk x && m x) mk with
      | true =>
        have H1 := Lib.hid hc1
        have hsz2 := hB.lt
        have hown2 := Hown2.out
        go_wp2_with (at_builtin; refine append_one rfl (.tmp 33) (.tmp 35) 26 rfl (w.heap.size + 1) 3 1 8 elem_int _ _ _ rfl hown2 [.int .i64 ((k : Nat) : Int)] rfl rfl (one_int _ _) ?h1 ?h2 ?h3 ?h4; (case h1 => omega); (case h2 => omega); (case h3 => omega); intro v2 w3 hown3 hb3)
        go_roundw
        case rel =>
          refine ⟨k + 1, by omega, by go_num, ?_, ?_, hB.below hb3 (by omega), hbw.trans (hb3.mono (by omega))⟩
          · rw [HL.out, H1.out, if_pos rfl, List.length_append, List.map_append, HC.out]
            exact hown3
          · rw [HS.out, HO.out, H1.out]
            rfl
        case measure => simp [intOf]; omega
      | false =>
        have H1 := Lib.hid hc1
        cases hc2 : eqB (fun x => mk x && m x) (fun _ => false) with
        | true =>
          have H2 := Lib.hid hc2
          go_wp2
          go_roundw
          case rel =>
            refine ⟨k + 1, by omega, by go_num, ?_, ?_, hB, hbw⟩
            · rw [HL.out, H1.out, if_neg (by simp), HC.out]
              exact Hown2.out
            · rw [HS.out, HO.out, H1.out, H2.out]
              rfl
          case measure => simp [intOf]; omega
        | false =>
          have H2 := Lib.hid hc2
          go_wp2
          go_returns
          have hno := HN.out H1.out H2.out
          exact ⟨.slice none 0 0, by rw [hno]; rfl, fun h => Bool.noConfusion (hno.symm.trans h), fun _ => rfl, hbw⟩
    · obtain rfl : k = n := by omega
      have Hown := Lib.hid hown
      have HO := Lib.hid hok
      clear hown hok
      go_wp2
      go_returns
      exact ⟨u6, by rw [HO.out]; rfl, fun _ => own_base Hown.out (by omega), fun h => (Bool.noConfusion (HO.out.symm.trans h)), hbw⟩
end Go.Proofs.YtanimknpnniabaaDoor
