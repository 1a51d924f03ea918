/- blocks.split: its region. -/
import Derived.Test.YtanimknpnniabaaDoorOps5
import Derived.Test.YtanimknpnniabaaDoorArr
namespace Go.Proofs.YtanimknpnniabaaDoor
open Go.RowKit
theorem zint (w : World) : (zeroValue 3).run Tryd.prog w = .ok (.int .i64 0) w := by kernel_rfl
theorem zintR : plainElem (H := Unit) Tryd.prog 3 (.int .i64 0) = some (.lit (.int .i64 0), []) := plainElem_int Tryd.underlying3 (by decide)
noncomputable def spl_ops : Array Oper := regOf Tryd.f31 5
def spl_S (m : Nat → Bool) (ab : Nat) (kx : Int) (n : Nat) (_hn : n < 256) : List RK := [RK.eq (.int .i64 ((n : Nat) : Int)), RK.eq (.pointer (some ((⟨ab, 0, none⟩ : Addr).add ((n : Nat) : Int).toNat))), RK.eq (.int .i64 kx), RK.eq (setV m), RK.eq (.int .i64 ((n : Nat) : Int)), RK.eq (.int .u8 ((n : Nat) : Int)), RK.eq (.bool (m (((n : Nat) : Int)).toNat)), RK.eq (.agg #[.int .i64 kx, .bool (m (((n : Nat) : Int)).toNat)]), RK.new 74 2, RK.put 8 [.int .i64 kx, .bool (m (((n : Nat) : Int)).toNat)]]
theorem spl_o0 (m : Nat → Bool) (ab : Nat) (kx : Int) (n : Nat) (_hn : n < 256) (Q : Exit → Act → World → Prop) (a0 : Act) (w0 : World) (hs7 : a0.tmps.getD 7 undef = .int .i64 ((n : Nat) : Int)) : Obl Tryd.prog spl_ops (spl_S m ab kx n _hn) Q a0 w0 0 :=
  obl_val (.move (.tmp 7)) none rfl (by kernel_rfl) fun a w N H D => ⟨(fun _ _ hg => by cases hg), fun _ ho => wp_move (.inl ho) (held_base H 7 (by kernel_rfl) hs7)⟩
theorem spl_o1 (m : Nat → Bool) (ab : Nat) (kx : Int) (n : Nat) (_hn : n < 256) (Q : Exit → Act → World → Prop) (a0 : Act) (w0 : World) (hs2 : a0.tmps.getD 2 undef = .pointer (some ⟨ab, 0, none⟩)) : Obl Tryd.prog spl_ops (spl_S m ab kx n _hn) Q a0 w0 1 :=
  obl_val (.indexAddr 58 (.tmp 2) (.tmp 15)) none rfl (by kernel_rfl) fun a w N H D => ⟨(fun _ _ hg => by cases hg), fun _ ho => wp_index256 ho (held_base H 2 (by kernel_rfl) hs2) (fact_eq (c := .int .i64 ((n : Nat) : Int)) (D 0 (by kernel_rfl)) rfl (by kernel_rfl)) (by omega) (by omega)⟩
theorem spl_o2 (m : Nat → Bool) (ab : Nat) (kx : Int) (n : Nat) (_hn : n < 256) (Q : Exit → Act → World → Prop) (a0 : Act) (w0 : World) (hA2 : CellAt w0 ((⟨ab, 0, none⟩ : Addr).add ((n : Nat) : Int).toNat) (.int .i64 kx)) : Obl Tryd.prog spl_ops (spl_S m ab kx n _hn) Q a0 w0 2 :=
  obl_val (.load 3 (.tmp 16)) none rfl (by kernel_rfl) fun a w N H D => ⟨(fun _ _ hg => by cases hg), fun _ ho => wp_load_int ho (fact_eq (c := .pointer (some ((⟨ab, 0, none⟩ : Addr).add ((n : Nat) : Int).toNat))) (D 1 (by kernel_rfl)) rfl (by kernel_rfl)) (hA2.below H.below)⟩
theorem spl_o3 (m : Nat → Bool) (ab : Nat) (kx : Int) (n : Nat) (_hn : n < 256) (b : Nat) (Q : Exit → Act → World → Prop) (a0 : Act) (w0 : World) (hs3 : a0.tmps.getD 3 undef = .pointer (some ⟨b, 0, none⟩)) (hB3 : Blk w0 b 35 (setL m)) : Obl Tryd.prog spl_ops (spl_S m ab kx n _hn) Q a0 w0 3 :=
  obl_load_old 3 (b) rfl none (by kernel_rfl) (by kernel_rfl) hs3 hB3 (fun a w N H D => (fun _ _ hg => by cases hg))
theorem spl_o4 (m : Nat → Bool) (ab : Nat) (kx : Int) (n : Nat) (_hn : n < 256) (Q : Exit → Act → World → Prop) (a0 : Act) (w0 : World) (hs7 : a0.tmps.getD 7 undef = .int .i64 ((n : Nat) : Int)) : Obl Tryd.prog spl_ops (spl_S m ab kx n _hn) Q a0 w0 4 :=
  obl_val (.move (.tmp 7)) none rfl (by kernel_rfl) fun a w N H D => ⟨(fun _ _ hg => by cases hg), fun _ ho => wp_move (.inl ho) (held_base H 7 (by kernel_rfl) hs7)⟩
theorem spl_o5 (m : Nat → Bool) (ab : Nat) (kx : Int) (n : Nat) (_hn : n < 256) (Q : Exit → Act → World → Prop) (a0 : Act) (w0 : World)  : Obl Tryd.prog spl_ops (spl_S m ab kx n _hn) Q a0 w0 5 :=
  obl_val (.convert 3 5 (.tmp 19)) none rfl (by kernel_rfl) fun a w N H D => ⟨(fun _ _ hg => by cases hg), fun _ ho => wp_toU8 ho (fact_eq (c := .int .i64 ((n : Nat) : Int)) (D 4 (by kernel_rfl)) rfl (by kernel_rfl)) (by omega) (by omega)⟩
theorem spl_o6 (m : Nat → Bool) (ab : Nat) (kx : Int) (n : Nat) (_hn : n < 256) (Q : Exit → Act → World → Prop) (a0 : Act) (w0 : World)  : Obl Tryd.prog spl_ops (spl_S m ab kx n _hn) Q a0 w0 6 :=
  obl_val (.call { callee := .value (.func 38), args := #[.tmp 18, .tmp 20], argTypes := #[35, 5] }) none rfl (by kernel_rfl) fun a w N H D => ⟨(fun _ _ hg => by cases hg), fun _ ho => wp_call_eq ho (fun xs w => by kernel_rfl) (by simp only [List.map_toArray, List.map_cons, List.map_nil]; rw [(fact_eq (c := setV m) (D 3 (by kernel_rfl)) rfl (by kernel_rfl)), (fact_eq (c := .int .u8 ((n : Nat) : Int)) (D 5 (by kernel_rfl)) rfl (by kernel_rfl))]) (has_any m (((n : Nat) : Int)) (by omega) (by omega) _)⟩
theorem spl_o7 (m : Nat → Bool) (ab : Nat) (kx : Int) (n : Nat) (_hn : n < 256) (Q : Exit → Act → World → Prop) (a0 : Act) (w0 : World)  : Obl Tryd.prog spl_ops (spl_S m ab kx n _hn) Q a0 w0 7 :=
  obl_val (.build 74 #[(0, .tmp 17), (1, .tmp 21)]) none rfl (by kernel_rfl) fun a w N H D => ⟨(fun _ _ hg => by cases hg), fun _ ho => wp_build_mark ho (fact_eq (c := .int .i64 kx) (D 2 (by kernel_rfl)) rfl (by kernel_rfl)) (fact_eq (c := .bool (m (((n : Nat) : Int)).toNat)) (D 6 (by kernel_rfl)) rfl (by kernel_rfl))⟩
theorem spl_o8 (m : Nat → Bool) (ab : Nat) (kx : Int) (n : Nat) (_hn : n < 256) (Q : Exit → Act → World → Prop) (a0 : Act) (w0 : World)  : Obl Tryd.prog spl_ops (spl_S m ab kx n _hn) Q a0 w0 8 :=
  obl_new_mark rfl (by kernel_rfl)
theorem spl_o9 (m : Nat → Bool) (ab : Nat) (kx : Int) (n : Nat) (_hn : n < 256) (Q : Exit → Act → World → Prop) (a0 : Act) (w0 : World)  : Obl Tryd.prog spl_ops (spl_S m ab kx n _hn) Q a0 w0 9 :=
  obl_put_mark 8 8 22 7 rfl (by kernel_rfl) (by kernel_rfl) rfl (by kernel_rfl) rfl (by kernel_rfl) (by kernel_rfl) (by kernel_rfl)
theorem spl_all (m : Nat → Bool) (ab : Nat) (kx : Int) (n : Nat) (_hn : n < 256) (b : Nat) (Q : Exit → Act → World → Prop) (a0 : Act) (w0 : World) (hs2 : a0.tmps.getD 2 undef = .pointer (some ⟨ab, 0, none⟩)) (hA2 : CellAt w0 ((⟨ab, 0, none⟩ : Addr).add ((n : Nat) : Int).toNat) (.int .i64 kx)) (hs3 : a0.tmps.getD 3 undef = .pointer (some ⟨b, 0, none⟩)) (hB3 : Blk w0 b 35 (setL m)) (hs7 : a0.tmps.getD 7 undef = .int .i64 ((n : Nat) : Int)) : ∀ i, i < spl_ops.size → Obl Tryd.prog spl_ops (spl_S m ab kx n _hn) Q a0 w0 i := by
  intro i hi_
  have hs : spl_ops.size = 10 := by kernel_rfl
  rw [hs] at hi_
  clear hs
  match i, hi_ with
  | 0, _ => exact spl_o0 m ab kx n _hn  Q a0 w0 hs7
  | 1, _ => exact spl_o1 m ab kx n _hn  Q a0 w0 hs2
  | 2, _ => exact spl_o2 m ab kx n _hn  Q a0 w0 hA2
  | 3, _ => exact spl_o3 m ab kx n _hn b Q a0 w0 hs3 hB3
  | 4, _ => exact spl_o4 m ab kx n _hn  Q a0 w0 hs7
  | 5, _ => exact spl_o5 m ab kx n _hn  Q a0 w0 
  | 6, _ => exact spl_o6 m ab kx n _hn  Q a0 w0 
  | 7, _ => exact spl_o7 m ab kx n _hn  Q a0 w0 
  | 8, _ => exact spl_o8 m ab kx n _hn  Q a0 w0 
  | 9, _ => exact spl_o9 m ab kx n _hn  Q a0 w0 
  | i + 10, h => exact absurd h (by omega)
set_option maxRecDepth 100000 in
set_option maxHeartbeats 2000000 in
theorem split_any (k0 : Nat → Int) (m : Nat → Bool) (hw0 : ∀ c, c < 256 → wfK (k0 c, m c)) (w : World) :
    Calls Tryd.prog 31 #[.agg (ofAt k0 m 0).toArray, setV m] w fun e w' => e = .returned (.tuple #[.agg (ofAt k0 m 256).toArray, .int .i64 ((cntOf (fun c => (k0 c, m c)) 256 : Nat) : Int)]) ∧ Below w.heap.size w w' := by
  obtain ⟨zs, hzs, hz⟩ : ∃ zs : Array Value, zs.size = 256 ∧ ∀ w, (zeroValue 58).run Tryd.prog w = .ok (.agg zs) w := ⟨Array.replicate 256 (.int .i64 0), by simp, fun w => by kernel_rfl⟩
  have hmm : ∀ w, (Instr.makeMap 72 none).run Tryd.prog w = .ok (.map (some w.heap.size)) (w.alloc (.map #[] 0)) := fun w => by kernel_rfl
  unfold setV
  generalize hl0 : (ofAt k0 m 0).toArray = ka
  have HL0 := Lib.hid hl0
  clear hl0
  go_enter Tryd.func31, Tryd.ntmps31
  go_wp2
  go_loopw [12] (fun i wr => ∃ n : Nat, n ≤ 256 ∧ i = .int .i64 n ∧ Blk wr w.heap.size 58 (ofAt k0 m n) ∧ Blk wr (w.heap.size + 1) 35 (setL m) ∧ Blk wr (w.heap.size + 1 + 1) 58 zs.toList ∧
    (∃ D, wr.ownsMap Tryd.prog 74 (plainElem Tryd.prog 3) (w.heap.size + 1 + 1 + 1) n D ∧ MarkD D (fun c => (k0 c, m c)) n) ∧ Below w.heap.size w wr) (fun i _ => 256 - (intOf i).toNat)
  case atStart =>
    refine ⟨0, by omega, rfl, ?_, ?_, ?_, ⟨.map [], ?_, MarkD.nil _⟩, by go_grown⟩
    · obtain rfl := HL0.out
      exact (((Blk.new w _ _).alloc _).alloc _).alloc _
    · exact ((blk_new2 w _ _ _).alloc _).alloc _
    · rw [show zs = zs.toList.toArray by simp]
      generalize hW : (w.alloc _).alloc _ = W
      have := Blk.new W zs.toList 58
      rw [show W.heap.size = w.heap.size + 1 + 1 by subst hW; simp] at this
      exact this.alloc _
    · generalize hW : ((w.alloc _).alloc _).alloc _ = W
      have := World.ownsMap_made (H := Unit) W Tryd.prog 74 (plainElem Tryd.prog 3)
      rwa [show W.heap.size = w.heap.size + 1 + 1 + 1 by subst hW; simp] at this
  case round =>
    obtain ⟨n, hn, rfl, hA, hB, hZ, ⟨D, hown, hD⟩, hbw⟩ := hrel
    by_cases hlt : n < 256
    · go_wp2_with fail
      have hcell : CellAt wr.drew ((⟨w.heap.size, 0, none⟩ : Addr).add ((n : Nat) : Int).toNat) (.int .i64 (k0 n)) := by
        rw [Int.toNat_natCast, show (⟨w.heap.size, 0, none⟩ : Addr).add n = ⟨w.heap.size, n, none⟩ by unfold Addr.add; split <;> simp_all]
        exact ⟨(hA.drew.cell n).trans (ofAt_at k0 m n hlt), hA.drew.lt⟩
      refine region_named (ops' := spl_ops) (by kernel_rfl) (spl_S m w.heap.size (k0 n) n hlt) 43 rfl (by kernel_rfl) (by kernel_rfl) (spl_all m w.heap.size (k0 n) n hlt (w.heap.size + 1) _ _ _ rfl hcell rfl hB.drew rfl) ?_
      rename_i hK
      intro a w1 N H hF
      have q0 : a.tmps.getD 0 undef = .agg ka := held_base H 0 (by kernel_rfl) rfl
      have q1 : a.tmps.getD 1 undef = .agg #[.int .u64 (word m 0), .int .u64 (word m 1), .int .u64 (word m 2), .int .u64 (word m 3)] := held_base H 1 (by kernel_rfl) rfl
      have q5 : a.tmps.getD 5 undef = .int .i64 0 := held_base H 5 (by kernel_rfl) rfl
      have q11 : a.tmps.getD 11 undef = .map (some (w.heap.size + 1 + 1 + 1)) := held_base H 11 (by kernel_rfl) rfl
      have q40 : a.tmps.getD 40 undef = undef := held_base H 40 (by kernel_rfl) rfl
      have q41 : a.tmps.getD 41 undef = undef := held_base H 41 (by kernel_rfl) rfl
      have q42 : a.tmps.getD 42 undef = undef := held_base H 42 (by kernel_rfl) rfl
      have q2 : a.tmps.getD 2 undef = .pointer (some ⟨w.heap.size, 0, none⟩) := held_base H 2 (by kernel_rfl) rfl
      have q3 : a.tmps.getD 3 undef = .pointer (some ⟨w.heap.size + 1, 0, none⟩) := held_base H 3 (by kernel_rfl) rfl
      have q4 : a.tmps.getD 4 undef = .pointer (some ⟨w.heap.size + 1 + 1, 0, none⟩) := held_base H 4 (by kernel_rfl) rfl
      have q6 : a.tmps.getD 6 undef = .map (some (w.heap.size + 1 + 1 + 1)) := held_base H 6 (by kernel_rfl) rfl
      have q7 : a.tmps.getD 7 undef = .int .i64 n := held_base H 7 (by kernel_rfl) rfl
      have q12 : a.tmps.getD 12 undef = .int .i64 n := held_base H 12 (by kernel_rfl) rfl
      obtain ⟨bm, q8, hM⟩ : ∃ b, a.tmps.getD 8 undef = .pointer (some ⟨b, 0, none⟩) ∧ Blk w1 b 74 [.int .i64 (k0 n), .bool (m n)] := fact_put (hF 9 (by kernel_rfl)) rfl rfl (by kernel_rfl)
      have hd : a.defers = [] := H.defers
      have Hsz : a.tmps.size = 43 := H.size
      have hb1 := H.below
      have hown1 := hown.drew.kept (below_grown hb1) (by simp)
      replace hA := hA.drew.below hb1 hA.drew.lt
      replace hB := hB.drew.below hb1 hB.drew.lt
      replace hZ := hZ.drew.below hb1 hZ.drew.lt
      replace hbw : Below w.heap.size w w1 := hbw.drew.trans (hb1.mono (by have := hbw.size; simpa using this))
      clear hF hcell H hb1 hown
      have hkl := mkL_key (hw0 n hlt)
      obtain ⟨v, ps, hlook, hv⟩ := hown1.look_ok mark_keyed Tryd.underlying72 (zint w1) (zintR) hkl
      obtain ⟨c, rfl, hc, hwc⟩ := plainElem_int_inv Tryd.underlying3 hv
      simp only [Prod.mk.injEq] at hc
      replace hc := hc.1
      obtain ⟨e0, e1⟩ : w1.cell? ⟨bm, 0, none⟩ = some (.int .i64 (k0 n)) ∧ w1.cell? ⟨bm, 1, none⟩ = some (.bool (m n)) := ⟨hM.cell 0, hM.cell 1⟩
      have hat : (⟨w.heap.size, 0, none⟩ : Addr).add n = ⟨w.heap.size, n, none⟩ := by unfold Addr.add; split <;> simp_all
      refine hK _ _ ?_
      rw [act_eq a 43 Hsz, show List.range 43 = [0, 1, 2, 3, 4, 5, 6, 7, 8, 9, 10, 11, 12, 13, 14, 15, 16, 17, 18, 19, 20, 21, 22, 23, 24, 25, 26, 27, 28, 29, 30, 31, 32, 33, 34, 35, 36, 37, 38, 39, 40, 41, 42] from rfl]
      simp only [List.map_cons, List.map_nil, q0, q1, q2, q3, q4, q5, q6, q7, q8, q11, q12, q40, q41, q42, hd]
      generalize a.tmps.getD 9 undef = z9
      generalize a.tmps.getD 10 undef = z10
      generalize a.tmps.getD 13 undef = z13
      generalize a.tmps.getD 14 undef = z14
      generalize a.tmps.getD 15 undef = z15
      generalize a.tmps.getD 16 undef = z16
      generalize a.tmps.getD 17 undef = z17
      generalize a.tmps.getD 18 undef = z18
      generalize a.tmps.getD 19 undef = z19
      generalize a.tmps.getD 20 undef = z20
      generalize a.tmps.getD 21 undef = z21
      generalize a.tmps.getD 22 undef = z22
      generalize a.tmps.getD 23 undef = z23
      generalize a.tmps.getD 24 undef = z24
      generalize a.tmps.getD 25 undef = z25
      generalize a.tmps.getD 26 undef = z26
      generalize a.tmps.getD 27 undef = z27
      generalize a.tmps.getD 28 undef = z28
      generalize a.tmps.getD 29 undef = z29
      generalize a.tmps.getD 30 undef = z30
      generalize a.tmps.getD 31 undef = z31
      generalize a.tmps.getD 32 undef = z32
      generalize a.tmps.getD 33 undef = z33
      generalize a.tmps.getD 34 undef = z34
      generalize a.tmps.getD 35 undef = z35
      generalize a.tmps.getD 36 undef = z36
      generalize a.tmps.getD 37 undef = z37
      generalize a.tmps.getD 38 undef = z38
      generalize a.tmps.getD 39 undef = z39
      cases hhas : Maps.has D (mkL (k0 n, m n)) with
      | true =>
        obtain ⟨c0, hc0, hce⟩ := (hD.has _ (hw0 n hlt)).1 hhas
        have hcn : c = ((numOf (fun c => (k0 c, m c)) n : Nat) : Int) := by
          have := hD.at_ c0 hc0 (.lit (.int .i64 0))
          rw [hce] at this
          rw [hc] at this
          simp only [DataW.lit.injEq, Lit.int.injEq, true_and] at this
          rw [this]
          congr 1
          exact num_congr (key := fun c => (k0 c, m c)) hce
        subst hcn
        have HD := Lib.hid (hD.old (fun h => h c0 hc0 hce))
        clear hc hwc hv hce
        rw [hhas] at hlook
        generalize hnu : numOf (fun c => (k0 c, m c)) n = nu at *
        have HN := Lib.hid hnu
        clear hnu
        have cz := (hA.cell n).trans (ofAt_at k0 m n hlt)
        have fz := hA.frozen n
        go_wp2
        go_roundw
        case rel =>
          refine ⟨n + 1, by omega, by go_num, ?_, hB.far (p := ⟨w.heap.size, n, none⟩) (by simp) _, hZ.far (p := ⟨w.heap.size, n, none⟩) (by simp; omega) _, ⟨D, (hown1.setCell (a := ⟨w.heap.size, n, none⟩) (by simp; omega) _).mono (by omega), HD.out⟩, hbw.setCell (p := ⟨w.heap.size, n, none⟩) (Nat.le_refl _) _⟩
          rw [ofAt_succ, HN.out]
          exact hA.set n _
        case measure => simp [intOf]; omega
      | false =>
        have hno : ∀ c, c < n → (k0 c, m c) ≠ (k0 n, m n) := fun c hc e => by
          rw [(hD.has _ (hw0 n hlt)).2 ⟨c, hc, e⟩] at hhas
          cases hhas
        have hlen := fun ty => hown1.len Tryd.underlying72 ty
        have hle := hown1.size_le
        rw [hD.size] at hle
        rw [hD.size] at hlen
        have HD := Lib.hid (hD.new (hown1.tidy mark_keyed) (fun c hc => hw0 c (by omega)) hno)
        have HN := Lib.hid (ofAt_succ k0 m n)
        rw [num_first (key := fun c => (k0 c, m c)) hno] at HN
        rw [hhas] at hlook
        clear hc hwc hv hD
        generalize cntOf (fun c => (k0 c, m c)) n = nu at *
        obtain ⟨w2, hst, hown2, hturn⟩ := hown1.store mark_keyed Tryd.underlying72 (by unfold maxLen; omega) hkl (d := .lit (.int .i64 nu)) (plainElem_int Tryd.underlying3 (wf_i64 (by omega) (by omega)))
        have hg := hturn.grown
        have hl1 := hA.lt
        have hA2 := hA.turned hg (by omega)
        have hB2 := hB.turned hg (by omega)
        have hZ2 := hZ.turned hg (by omega)
        have hbw2 := below_turned hbw hg (by omega) (by omega)
        have cz := (hA2.cell n).trans (ofAt_at k0 m n hlt)
        have fz := hA2.frozen n
        clear hg hturn hno hkl
        go_wp2
        go_roundw
        case rel =>
          refine ⟨n + 1, by omega, by go_num, ?_, hB2.far (p := ⟨w.heap.size, n, none⟩) (by simp) _, hZ2.far (p := ⟨w.heap.size, n, none⟩) (by simp; omega) _, ⟨_, (hown2.setCell (a := ⟨w.heap.size, n, none⟩) (by simp; omega) _), HD.out⟩, hbw2.setCell (p := ⟨w.heap.size, n, none⟩) (Nat.le_refl _) _⟩
          rw [HN.out]
          exact hA2.set n _
        case measure => simp [intOf]; omega
    · obtain rfl : n = 256 := by omega
      have hlen := fun ty => hown.len Tryd.underlying72 ty
      rw [hD.size] at hlen
      have hi := info_arr
      have hA' := hA
      unfold Blk at hA'
      have hsa : (ofAt k0 m 256).toArray.size = 256 := by simp [ofAt_length]
      rw [← hsa] at hi
      have hst := cells_arr hZ (by simp [hzs]) (ofAt_length k0 m 256) (ofAt_one k0 m 256)
      rw [show (storeCells ⟨w.heap.size + 1 + 1, 0, none⟩ (ofAt k0 m 256) 0) = storeCells ⟨w.heap.size + 1 + 1, 0, none⟩ (ofAt k0 m 256).toArray.toList 0 by simp] at hst
      have hld2 := load_arr (hZ.setRow (l' := ofAt k0 m 256)) (ofAt_length _ _ _)
      have hbw2 := below_setRow (g := w.heap.size + 1 + 1) hbw (by omega) (ofAt k0 m 256).toArray
      have hlen2 := fun ty => (hown.kept (w' := wr.setRow (w.heap.size + 1 + 1) (ofAt k0 m 256).toArray) (row := some (w.heap.size + 1 + 1)) ⟨rfl, rfl, rfl, by simp, fun k _ hk => setRow_other _ _ _ _ (by simpa using hk)⟩ (by simp)).len Tryd.underlying72 ty
      rw [hD.size] at hlen2
      clear hown hD hA hB
      have hZ2 := hZ.setRow (l' := ofAt k0 m 256)
      have HZ := Lib.hid hZ2
      clear hZ hZ2
      have HL := Lib.hid (ofAt_length k0 m 256)
      generalize hnu : cntOf (fun c => (k0 c, m c)) 256 = nu at *
      have HN := Lib.hid hnu
      clear hnu
      generalize hra : (ofAt k0 m 256).toArray = ra at *
      have HR := Lib.hid hra
      clear hra
      go_wp2_with fail
      rename_i hK
      refine wp_load_row 58 (.tmp 2) rfl _ rfl _ _ _ _ hA' Tryd.underlying58 rfl hi ?_
      refine hK _ _ ?_
      go_wp2
      refine ret_arr (b := w.heap.size + 1 + 1) (r := 4) (s := 5) rfl rfl rfl HZ.out HL.out rfl ⟨?_, hbw2⟩
      rw [HN.out]
      rfl
/-- Numbered classes, split. -/
theorem split_num {κ : Type} [DecidableEq κ] (key : Nat → κ) (m : Nat → Bool) (w : World) :
    Calls Tryd.prog 31 #[.agg (nums fun b => ((numOf key b : Nat) : Int)).toArray, setV m] w fun e w' => e = .returned (.tuple #[.agg (nums fun b => ((numOf (fun c => (key c, m c)) b : Nat) : Int)).toArray, .int .i64 ((cntOf (fun c => (key c, m c)) 256 : Nat) : Int)]) ∧ Below w.heap.size w w' := by
  have hk : ∀ a b, (((numOf key a : Nat) : Int), m a) = (((numOf key b : Nat) : Int), m b) ↔ (key a, m a) = (key b, m b) := fun a b => by
    rw [Prod.mk.injEq, Prod.mk.injEq, Int.ofNat_inj, num_iff]
  have := split_any (fun b => ((numOf key b : Nat) : Int)) m (fun c hc => wf_i64 (by omega) (by have := num_le key c; omega)) w
  rw [ofAt_zero, ofAt_all, cntOf_alike hk, show (fun b => ((numOf (fun c => (((numOf key c : Nat) : Int), m c)) b : Nat) : Int)) = fun b => ((numOf (fun c => (key c, m c)) b : Nat) : Int) from funext fun b => by rw [num_alike hk b]] at this
  exact this
end Go.Proofs.YtanimknpnniabaaDoor
