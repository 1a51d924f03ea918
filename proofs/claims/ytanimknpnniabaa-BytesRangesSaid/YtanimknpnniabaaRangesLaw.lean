/- BytesRanges: its regions, its loops, and the whole. -/
import Derived.Test.YtanimknpnniabaaOps2
import Derived.Test.YtanimknpnniabaaFrom
import Derived.Test.YtanimknpnniabaaRanges
import Derived.Test.YtanimknpnniabaaAwake01
import Derived.BigQuiet
namespace Go.Proofs.Ytanimknpnniabaa
open Go.RowKit
attribute [local go_sem] eq_words eqB_words eqB_zero
theorem raUp (f : Nat → Bool) : eqB f (makeM (((List.range 256).map f).take 256)) = true := eqB_true fun x h => (make_up f x h).symm
theorem upL_set (f : Nat → Bool) (n j : Nat) : (upL f n).set j (.bool true) = upL (fun x => f x || x == j) n := by
  unfold upL
  apply List.ext_getElem
  · simp
  · intro x h1 h2
    simp only [List.getElem_set, List.getElem_map, List.getElem_range]
    by_cases e : j = x
    · subst e
      simp
    · have : (x == j) = false := by simp; omega
      simp [e, this]
/-- What is asked of a set's runs. -/
theorem runs_bytes (m : Nat → Bool) : ∃ rs, rs = runsM (listM m 256) ∧ (∀ p ∈ rs, (0 ≤ p.1 ∧ p.1 < 256) ∧ 0 ≤ p.2 ∧ p.2 < 256) ∧ rs.length ≤ 256 ∧ eqB (fromM rs) m = true ∧ (∀ (i : Nat) p, rs[i]? = some p → p.1 ≤ p.2) ∧ ∀ (i : Nat) p q, rs[i]? = some p → rs[i + 1]? = some q → p.2 + 1 < q.1 := by
  have h := runs_ok (listM m 256) (listM m 256).length (listM_rise m 256) (Nat.le_refl _)
  rw [List.take_length] at h
  have hb : ∀ x, x ∈ listM m 256 → 0 ≤ x ∧ x < 256 := fun x hx => by have := (mem_listM m 256 x).1 hx; omega
  refine ⟨_, rfl, fun p hp => ?_, Nat.le_trans h.short (listM_length m 256), eqB_true fun x hx => ?_, fun i p hi => h.le p (List.mem_of_getElem? hi), fun i p q hi hj => ?_⟩
  · have hle := h.le p hp
    exact ⟨hb p.1 ((h.has p.1).1 ⟨p, hp, Int.le_refl _, hle⟩), hb p.2 ((h.has p.2).1 ⟨p, hp, hle, Int.le_refl _⟩)⟩
  · have h1 := h.has x
    rw [mem_listM] at h1
    rw [Bool.eq_iff_iff]
    unfold fromM rangeM
    simp only [List.any_eq_true, decide_eq_true_eq]
    rw [h1]
    simp
    omega
  · have hg := List.pairwise_iff_getElem.1 h.gap
    obtain ⟨hi', rfl⟩ := List.getElem?_eq_some_iff.1 hi
    obtain ⟨hj', rfl⟩ := List.getElem?_eq_some_iff.1 hj
    exact hg i (i + 1) hi' hj' (by omega)
noncomputable def ra1_ops : Array Oper := regOf Try.f6 4
def ra1_S (m : Nat → Bool) (rs : List (Int × Int)) (v5 : Value) (_hin : ∀ p ∈ rs, (0 ≤ p.1 ∧ p.1 < 256) ∧ 0 ≤ p.2 ∧ p.2 < 256) (_hE : eqB (fromM rs) m = true) : List RK := [RK.eq (v5), RK.eq (setV (fromM rs)), RK.eq (setV m), RK.eq (.bool false)]
theorem ra1_o0 (m : Nat → Bool) (rs : List (Int × Int)) (v5 : Value) (_hin : ∀ p ∈ rs, (0 ≤ p.1 ∧ p.1 < 256) ∧ 0 ≤ p.2 ∧ p.2 < 256) (_hE : eqB (fromM rs) m = true) (Q : Exit → Act → World → Prop) (a0 : Act) (w0 : World) (hs5 : a0.tmps.getD 5 undef = v5) : Obl Try.prog ra1_ops (ra1_S m rs v5 _hin _hE) Q a0 w0 0 :=
  obl_val (.move (.tmp 5)) none rfl (by kernel_rfl) fun a w N H D => ⟨(fun _ _ hg => by cases hg), fun _ ho => wp_move (.inl ho) (held_base H 5 (by kernel_rfl) hs5)⟩
theorem ra1_o1 (m : Nat → Bool) (rs : List (Int × Int)) (v5 : Value) (_hin : ∀ p ∈ rs, (0 ≤ p.1 ∧ p.1 < 256) ∧ 0 ≤ p.2 ∧ p.2 < 256) (_hE : eqB (fromM rs) m = true) (Q : Exit → Act → World → Prop) (a0 : Act) (w0 : World) (hr5 : RdP w0 v5 rs) : Obl Try.prog ra1_ops (ra1_S m rs v5 _hin _hE) Q a0 w0 1 :=
  obl_val (.call { callee := .value (.func 19), args := #[.tmp 16], argTypes := #[37] }) none rfl (by kernel_rfl) fun a w N H D => ⟨(fun _ _ hg => by cases hg), fun _ ho => wp_call_eq ho (fun xs w => by kernel_rfl) (by simp only [List.map_toArray, List.map_cons, List.map_nil]; rw [(fact_eq (c := v5) (D 0 (by kernel_rfl)) rfl (by kernel_rfl))]) (from_any rs _hin _ _ (hr5.below H.below))⟩
theorem ra1_o2 (m : Nat → Bool) (rs : List (Int × Int)) (v5 : Value) (_hin : ∀ p ∈ rs, (0 ≤ p.1 ∧ p.1 < 256) ∧ 0 ≤ p.2 ∧ p.2 < 256) (_hE : eqB (fromM rs) m = true) (b : Nat) (Q : Exit → Act → World → Prop) (a0 : Act) (w0 : World) (hs2 : a0.tmps.getD 2 undef = .pointer (some ⟨b, 0, none⟩)) (hB2 : Blk w0 b 24 (setL m)) : Obl Try.prog ra1_ops (ra1_S m rs v5 _hin _hE) Q a0 w0 2 :=
  obl_load_old 2 (b) rfl none (by kernel_rfl) (by kernel_rfl) hs2 hB2 (fun a w N H D => (fun _ _ hg => by cases hg))
theorem ra1_o3 (m : Nat → Bool) (rs : List (Int × Int)) (v5 : Value) (_hin : ∀ p ∈ rs, (0 ≤ p.1 ∧ p.1 < 256) ∧ 0 ≤ p.2 ∧ p.2 < 256) (_hE : eqB (fromM rs) m = true) (Q : Exit → Act → World → Prop) (a0 : Act) (w0 : World)  : Obl Try.prog ra1_ops (ra1_S m rs v5 _hin _hE) Q a0 w0 3 :=
  obl_val (.binOp .neq 24 (.tmp 17) (.tmp 18) 24) none rfl (by kernel_rfl) fun a w N H D => ⟨(fun _ _ hg => by cases hg), fun _ ho => wp_of_eq (wp_neq_set (m := (fromM rs)) (m' := m) ho (fact_eq (c := setV (fromM rs)) (D 1 (by kernel_rfl)) rfl (by kernel_rfl)) (fact_eq (c := setV m) (D 2 (by kernel_rfl)) rfl (by kernel_rfl))) (.bool false) (by rw [_hE]; rfl)⟩
theorem ra1_all (m : Nat → Bool) (rs : List (Int × Int)) (v5 : Value) (_hin : ∀ p ∈ rs, (0 ≤ p.1 ∧ p.1 < 256) ∧ 0 ≤ p.2 ∧ p.2 < 256) (_hE : eqB (fromM rs) m = true) (b : Nat) (Q : Exit → Act → World → Prop) (a0 : Act) (w0 : World) (hs2 : a0.tmps.getD 2 undef = .pointer (some ⟨b, 0, none⟩)) (hB2 : Blk w0 b 24 (setL m)) (hs5 : a0.tmps.getD 5 undef = v5) (hr5 : RdP w0 v5 rs) : ∀ i, i < ra1_ops.size → Obl Try.prog ra1_ops (ra1_S m rs v5 _hin _hE) Q a0 w0 i := by
  intro i hi_
  have hs : ra1_ops.size = 4 := by kernel_rfl
  rw [hs] at hi_
  clear hs
  match i, hi_ with
  | 0, _ => exact ra1_o0 m rs v5 _hin _hE  Q a0 w0 hs5
  | 1, _ => exact ra1_o1 m rs v5 _hin _hE  Q a0 w0 hr5
  | 2, _ => exact ra1_o2 m rs v5 _hin _hE b Q a0 w0 hs2 hB2
  | 3, _ => exact ra1_o3 m rs v5 _hin _hE  Q a0 w0 
  | i + 4, h => exact absurd h (by omega)
set_option maxRecDepth 100000 in
set_option maxHeartbeats 4000000 in
theorem ranges_law (m : Nat → Bool) (l : List (Int × Int)) (hin : ∀ p ∈ l, (0 ≤ p.1 ∧ p.1 < 256) ∧ 0 ≤ p.2 ∧ p.2 < 256) (v : Value) (w : World) (hv : RdP w v l) :
    Calls Try.prog 6 #[setV m, v] w fun e w' => e = .returned (.bool true) ∧ Below w.heap.size w w' := by
  have hv' := hv
  obtain ⟨A, c, rfl, h1, h2, h3⟩ := hv'
  have HV := Lib.hid hv
  have H3 := Lib.hid h3
  have HI := Lib.hid hin
  obtain ⟨row, hrow, hmk0⟩ : ∃ row : List Value, row = List.replicate 256 (Value.bool false) ∧ ∀ w, (Instr.makeSlice 34 (.int .i64 256) (.int .i64 256)).run Try.prog w = .ok (.slice (some ⟨w.heap.size, 0, none⟩) 256 256) (w.alloc (.cells row.toArray 4)) := ⟨_, rfl, make_bools⟩
  have hmk := Lib.hid hmk0
  clear hmk0
  have HR := Lib.hid hrow
  clear hrow
  clear h3 hv hin
  have hb2 := Blk.new w (setL m) 24
  obtain ⟨d0, d1, d2, d3, _, _, _, _⟩ := hb2.four
  unfold setV
  go_enter Try.func6, Try.ntmps6
  by_cases h300 : 300 < l.length
  · go_wp2_with fail
    refine (awake_any _).mono ?_
    rintro e w1 ⟨rfl, hb⟩
    go_wp2
    go_returns
    exact ⟨rfl, Below.trans (by go_grown) (hb.mono (by simp))⟩
  · go_wp2_with fail
    refine (ranges_any m _).mono ?_
    rintro e w1 ⟨v5, rfl, hown, hb⟩
    obtain ⟨rs, hrs, hrin, hrlen, hrE, hrle, hrgap⟩ := runs_bytes m
    rw [← hrs] at hown
    clear hrs d0 d1 d2 d3
    have hr5 := own_rdP hown (by omega)
    have hw1 : Below w.heap.size w w1 := Below.trans (by go_grown) (hb.mono (by simp))
    replace hb2 : Blk w1 w.heap.size 24 (setL m) := hb2.below hb (by simp)
    clear hown hb
    go_wp2_with fail
    refine region_named (ops' := ra1_ops) (by kernel_rfl) (ra1_S m rs v5 hrin hrE) 92 rfl (by kernel_rfl) (by kernel_rfl) (ra1_all m rs v5 hrin hrE w.heap.size _ _ _ rfl hb2.drew rfl (hr5.below (Below.refl _ _).drew)) ?_
    rename_i hK
    intro a w2 N H hF
    have q1 : a.tmps.getD 1 undef = .slice A l.length c := held_base H 1 (by kernel_rfl) rfl
    have q2 : a.tmps.getD 2 undef = .pointer (some ⟨w.heap.size, 0, none⟩) := held_base H 2 (by kernel_rfl) rfl
    have q5 : a.tmps.getD 5 undef = v5 := held_base H 5 (by kernel_rfl) rfl
    have q4 : a.tmps.getD 4 undef = .bool false := held_base H 4 (by kernel_rfl) rfl
    have q19 : a.tmps.getD 19 undef = .bool false := fact_eq (hF 3 (by kernel_rfl)) rfl (by kernel_rfl)
    have hd : a.defers = [] := H.defers
    have Hsz : a.tmps.size = 92 := H.size
    have hw2 : Below w.heap.size w w2 := hw1.drew.trans (H.below.mono hw1.size)
    replace hr5 : RdP w2 v5 rs := hr5.below ((Below.refl _ _).drew.trans H.below)
    clear hF hb2 H hw1
    refine hK _ _ ?_
    rw [act_eq a 92 Hsz, show List.range 92 = [0, 1, 2, 3, 4, 5, 6, 7, 8, 9, 10, 11, 12, 13, 14, 15, 16, 17, 18, 19, 20, 21, 22, 23, 24, 25, 26, 27, 28, 29, 30, 31, 32, 33, 34, 35, 36, 37, 38, 39, 40, 41, 42, 43, 44, 45, 46, 47, 48, 49, 50, 51, 52, 53, 54, 55, 56, 57, 58, 59, 60, 61, 62, 63, 64, 65, 66, 67, 68, 69, 70, 71, 72, 73, 74, 75, 76, 77, 78, 79, 80, 81, 82, 83, 84, 85, 86, 87, 88, 89, 90, 91] from rfl]
    simp only [List.map_cons, List.map_nil, q1, q2, q4, q5, q19, hd]
    generalize a.tmps.getD 0 undef = z0
    generalize a.tmps.getD 3 undef = z3
    generalize a.tmps.getD 6 undef = z6
    generalize a.tmps.getD 7 undef = z7
    generalize a.tmps.getD 8 undef = z8
    generalize a.tmps.getD 9 undef = z9
    generalize a.tmps.getD 10 undef = z10
    generalize a.tmps.getD 11 undef = z11
    generalize a.tmps.getD 12 undef = z12
    generalize a.tmps.getD 13 undef = z13
    generalize a.tmps.getD 14 undef = z14
    generalize a.tmps.getD 15 undef = z15
    generalize a.tmps.getD 16 undef = z16
    generalize a.tmps.getD 17 undef = z17
    generalize a.tmps.getD 18 undef = z18
    generalize a.tmps.getD 20 undef = z20
    generalize a.tmps.getD 21 undef = z21
    generalize a.tmps.getD 22 undef = z22
    generalize a.tmps.getD 23 undef = z23
    generalize a.tmps.getD 24 undef = z24
    generalize a.tmps.getD 25 undef = z25
    generalize a.tmps.getD 26 undef = z26
    generalize a.tmps.getD 27 undef = z27
    generalize a.tmps.getD 28 undef = z28
    generalize a.tmps.getD 29 undef = z29
    generalize a.tmps.getD 30 undef = z30
    generalize a.tmps.getD 31 undef = z31
    generalize a.tmps.getD 32 undef = z32
    generalize a.tmps.getD 33 undef = z33
    generalize a.tmps.getD 34 undef = z34
    generalize a.tmps.getD 35 undef = z35
    generalize a.tmps.getD 36 undef = z36
    generalize a.tmps.getD 37 undef = z37
    generalize a.tmps.getD 38 undef = z38
    generalize a.tmps.getD 39 undef = z39
    generalize a.tmps.getD 40 undef = z40
    generalize a.tmps.getD 41 undef = z41
    generalize a.tmps.getD 42 undef = z42
    generalize a.tmps.getD 43 undef = z43
    generalize a.tmps.getD 44 undef = z44
    generalize a.tmps.getD 45 undef = z45
    generalize a.tmps.getD 46 undef = z46
    generalize a.tmps.getD 47 undef = z47
    generalize a.tmps.getD 48 undef = z48
    generalize a.tmps.getD 49 undef = z49
    generalize a.tmps.getD 50 undef = z50
    generalize a.tmps.getD 51 undef = z51
    generalize a.tmps.getD 52 undef = z52
    generalize a.tmps.getD 53 undef = z53
    generalize a.tmps.getD 54 undef = z54
    generalize a.tmps.getD 55 undef = z55
    generalize a.tmps.getD 56 undef = z56
    generalize a.tmps.getD 57 undef = z57
    generalize a.tmps.getD 58 undef = z58
    generalize a.tmps.getD 59 undef = z59
    generalize a.tmps.getD 60 undef = z60
    generalize a.tmps.getD 61 undef = z61
    generalize a.tmps.getD 62 undef = z62
    generalize a.tmps.getD 63 undef = z63
    generalize a.tmps.getD 64 undef = z64
    generalize a.tmps.getD 65 undef = z65
    generalize a.tmps.getD 66 undef = z66
    generalize a.tmps.getD 67 undef = z67
    generalize a.tmps.getD 68 undef = z68
    generalize a.tmps.getD 69 undef = z69
    generalize a.tmps.getD 70 undef = z70
    generalize a.tmps.getD 71 undef = z71
    generalize a.tmps.getD 72 undef = z72
    generalize a.tmps.getD 73 undef = z73
    generalize a.tmps.getD 74 undef = z74
    generalize a.tmps.getD 75 undef = z75
    generalize a.tmps.getD 76 undef = z76
    generalize a.tmps.getD 77 undef = z77
    generalize a.tmps.getD 78 undef = z78
    generalize a.tmps.getD 79 undef = z79
    generalize a.tmps.getD 80 undef = z80
    generalize a.tmps.getD 81 undef = z81
    generalize a.tmps.getD 82 undef = z82
    generalize a.tmps.getD 83 undef = z83
    generalize a.tmps.getD 84 undef = z84
    generalize a.tmps.getD 85 undef = z85
    generalize a.tmps.getD 86 undef = z86
    generalize a.tmps.getD 87 undef = z87
    generalize a.tmps.getD 88 undef = z88
    generalize a.tmps.getD 89 undef = z89
    generalize a.tmps.getD 90 undef = z90
    generalize a.tmps.getD 91 undef = z91
    clear hd Hsz q1 q2 q4 q5 q19
    clear a N
    obtain ⟨A5, c5, rfl, k1, k2, k3⟩ := hr5
    have K3 := Lib.hid k3
    have KI := Lib.hid hrin
    have KL := Lib.hid hrle
    have KG := Lib.hid hrgap
    clear k3 hrin hrle hrgap hrE
    go_wp2
    go_loopw [6] (fun i wr => ∃ k : Nat, k ≤ rs.length ∧ i = .int .i64 k ∧ Below w2.heap.size w2 wr) (fun i _ => rs.length - (intOf i).toNat)
    case atStart => exact ⟨0, Nat.zero_le _, rfl, Below.refl _ _⟩
    case round =>
      obtain ⟨k, hk, rfl, hbl⟩ := hrel
      by_cases hlt : k < rs.length
      · obtain ⟨ad, rfl, had, e0, e1⟩ := K3.out k rs[k] (List.getElem?_eq_getElem hlt)
        have hl : (ad.add (k * 2)).block < w2.heap.size := by rw [add_block]; exact had
        have g0 := (hbl.cell hl).trans e0
        have g1 := (hbl.cell (p := ⟨(ad.add (k * 2)).block, (ad.add (k * 2)).off + 1, none⟩) hl).trans e1
        have hx := KI.out rs[k] (List.getElem_mem hlt)
        have hle := KL.out k rs[k] (List.getElem?_eq_getElem hlt)
        have hpq : rs[k]? = some rs[k] := List.getElem?_eq_getElem hlt
        clear e0 e1
        generalize rs[k] = p at *
        have HP := Lib.hid hpq
        clear hpq
        obtain ⟨lo, hi⟩ := p
        obtain ⟨hx0, hx1⟩ := hx
        simp only [] at g0 g1 hx0 hx1 hle
        have d36 : decide (hi < lo) = false := by simp; omega
        by_cases hk0 : 0 < k
        · obtain ⟨ad', had', hlt', e0, e1⟩ := K3.out (k - 1) rs[k - 1] (List.getElem?_eq_getElem (by omega))
          obtain rfl : ad = ad' := by injection had'
          have hl' : (ad.add ((k - 1) * 2)).block < w2.heap.size := by rw [add_block]; exact had
          have g2 := (hbl.cell (p := ⟨(ad.add ((k - 1) * 2)).block, (ad.add ((k - 1) * 2)).off + 1, none⟩) hl').trans e1
          have hy := (KI.out rs[k - 1] (List.getElem_mem (by omega))).2
          have hgap := KG.out (k - 1) rs[k - 1] (lo, hi) (List.getElem?_eq_getElem (by omega)) (by rw [show k - 1 + 1 = k by omega]; exact HP.out)
          simp only [] at hgap
          generalize rs[k - 1].2 = ph at *
          clear e0 e1 had' hlt'
          have d39 : decide (0 < (k : Int)) = true := by simp; omega
          have d55 : decide (lo ≤ ph + 1) = false := by simp; omega
          go_wp2_with fail
          go_quiet (fail)
          go_wp2
          go_roundw
          case rel => exact ⟨k + 1, by omega, by go_num, below_drewN hbl _⟩
          case measure => simp [intOf]; omega
        · have d39 : decide (0 < (k : Int)) = false := by simp; omega
          go_wp2_with fail
          go_quiet (fail)
          go_wp2
          go_roundw
          case rel => exact ⟨k + 1, by omega, by go_num, below_drewN hbl _⟩
          case measure => simp [intOf]; omega
      · obtain rfl : k = rs.length := by omega
        have hw3 := hw2.trans (hbl.mono hw2.size)
        have hsz := hw3.size
        clear K3 KI KL KG hbl hw2 k1 k2 hk hlt
        have hmk' := hmk.out
        go_wp2
        clear hmk
        clear hmk'
        generalize hW : wr.alloc (.cells row.toArray 4) = w4
        have hw4 : Below w.heap.size w w4 := by
          rw [← hW]
          exact hw3.alloc hsz _
        have hg0 : Blk w4 wr.heap.size 4 row := by
          rw [← hW]
          exact Blk.new wr row 4
        clear hW
        generalize wr.heap.size = g at *
        clear hw3
        go_loopw [8] (fun i wq => ∃ k : Nat, k ≤ l.length ∧ i = .int .i64 k ∧ Blk wq g 4 (upL (fromM (l.take k)) 256) ∧ Below w.heap.size w wq) (fun i _ => l.length - (intOf i).toNat)
        case atStart =>
          refine ⟨0, Nat.zero_le _, rfl, ?_, hw4⟩
          rw [show upL (fromM (l.take 0)) 256 = row by rw [HR.out]; simp only [upL, fromM, List.take_zero, List.any_nil]; exact List.map_const'.trans (by rw [List.length_range])]
          exact hg0
        case round =>
          clear hg0 hw4
          obtain ⟨k, hk, rfl, hbg, hbq⟩ := hrel
          by_cases hlt : k < l.length
          · obtain ⟨ad, rfl, had, e0, e1⟩ := H3.out k l[k] (List.getElem?_eq_getElem hlt)
            have hl : (ad.add (k * 2)).block < w.heap.size := by rw [add_block]; exact had
            have g0 := (hbq.cell hl).trans e0
            have g1 := (hbq.cell (p := ⟨(ad.add (k * 2)).block, (ad.add (k * 2)).off + 1, none⟩) hl).trans e1
            have hx := HI.out l[k] (List.getElem_mem hlt)
            have hsn := List.take_succ_eq_append_getElem hlt
            have HS := Lib.hid ((fromM_snoc (l.take k) l[k]).trans (congrArg fromM hsn.symm))
            have G1 := Lib.hid e1
            clear e0 e1 hsn
            generalize l[k] = p at *
            obtain ⟨lo, hi⟩ := p
            obtain ⟨hx0, hx1⟩ := hx
            simp only [] at g0 g1 hx0 hx1
            generalize hfm : fromM (l.take k) = fm at *
            clear hfm
            go_wp2
            clear g0 g1
            go_loopw [9] (fun i wp => ∃ n : Int, lo ≤ n ∧ (n ≤ hi + 1 ∨ n = lo) ∧ i = .int .i64 n ∧ Blk wp g 4 (upL (fun x => fm x || rangeM lo (n - 1) x) 256) ∧ Below w.heap.size w wp) (fun i _ => (hi + 1 - intOf i).toNat)
            case atStart =>
              refine ⟨lo, Int.le_refl _, .inr rfl, rfl, ?_, hbq⟩
              rw [show (fun x => fm x || rangeM lo (lo - 1) x) = fm by rw [rangeM_nil _ _ (by omega)]; simp]
              exact hbg
            case round =>
              clear hbg hbq
              obtain ⟨n, hn, hn2, rfl, hbg, hbq⟩ := hrel
              have g1 := (hbq.cell (p := ⟨(ad.add (k * 2)).block, (ad.add (k * 2)).off + 1, none⟩) hl).trans G1.out
              by_cases hnh : n ≤ hi
              · obtain ⟨uz, hz⟩ : ∃ uz, (upL (fun x => fm x || rangeM lo (n - 1) x) 256)[n.toNat]? = some uz := ⟨_, List.getElem?_eq_getElem (by rw [upL_length]; omega)⟩
                have cz := (hbg.cell n.toNat).trans hz
                have fz := hbg.frozen n.toNat
                clear hz
                go_wp2
                go_roundw
                case rel =>
                  refine ⟨n + 1, by omega, .inl (by omega), by go_num, ?_, hbq.setCell (p := ⟨g, n.toNat, none⟩) hsz _⟩
                  have := hbg.set n.toNat (.bool true)
                  rw [upL_set] at this
                  rw [show (fun x => fm x || rangeM lo (n + 1 - 1) x) = fun x => fm x || rangeM lo (n - 1) x || x == n.toNat by
                    funext x
                    rw [Bool.or_assoc, show n + 1 - 1 = n by omega, ← rangeM_snoc lo n hn]
                    simp only [putM]
                    congr 2
                    rw [Bool.eq_iff_iff]; simp; omega]
                  exact this
                case measure => simp [intOf]; omega
              · have e : rangeM lo (n - 1) = rangeM lo hi := by
                  rcases hn2 with h | h
                  · rw [show n - 1 = hi by omega]
                  · rw [rangeM_nil _ _ (by omega), rangeM_nil _ _ (by omega)]
                rw [e] at hbg
                go_wp2
                go_roundw
                case rel =>
                  refine ⟨k + 1, by omega, by go_num, ?_, hbq⟩
                  rw [← HS.out]
                  rw [show anyM [fm, rangeM lo hi] = fun x => fm x || rangeM lo hi x by funext x; simp [anyM]]
                  exact hbg
                case measure => simp [intOf]; omega
          · obtain rfl : k = l.length := by omega
            rw [List.take_length] at hbg
            have hr7 := blk_rdV hbg (by rw [upL_length]; omega)
            simp only [upL_length] at hr7
            rw [upL_map] at hr7
            have hr1 := HV.out.below hbq
            clear hbg
            go_wp2_with fail
            refine (from_any l HI.out _ _ hr1).mono ?_
            rintro e w5 ⟨rfl, hb5⟩
            unfold setV
            have hr7' := hr7.below hb5
            have hw5 := hbq.trans (hb5.mono hbq.size)
            clear hr7 hr1 hb5 hbq
            go_wp2_with fail
            have hmk2 := make_any ((List.range 256).map (fromM l)) _ _ hr7'
            have hE := raUp (fromM l)
            generalize makeM (((List.range 256).map (fromM l)).take 256) = mm at hmk2 hE
            have HE := Lib.hid hE
            clear hE
            unfold setV at hmk2
            refine hmk2.mono ?_
            clear hmk2
            rintro e w6 ⟨rfl, hb6⟩
            have hw6 := hw5.trans (hb6.mono hw5.size)
            have hE := HE.out
            clear hr7' hb6 hw5
            go_wp2_with fail
            refine (awake_any _).mono ?_
            rintro e w7 ⟨rfl, hb7⟩
            go_wp2
            go_returns
            exact ⟨rfl, hw6.trans (hb7.mono hw6.size)⟩
end Go.Proofs.Ytanimknpnniabaa
