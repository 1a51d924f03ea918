/- syntax.Same, of two trees. -/
import Derived.Test.YtpiimcbbgalhfaaGreatDoorBq
import Derived.Test.YtpiimcbbgalhfaaGreatDoorBl
import Derived.Deep.QuietTactic
import Derived.BigQuiet
import Derived.Test.YtpiimcbbgalhfaaGreatDoorBj
namespace Go.Proofs.YtpiimcbbgalhfaaGreatDoor
set_option maxRecDepth 100000
open Go.RowKit
attribute [local go_sem] eq_words eqB_words eqB_zero
/-- Two rows of pointers compared, part by part. -/
def Pairs (w : World) (A A' : Option Addr) (l r : List Tree) : Prop := ∀ i, (hi : i < l.length) → (hi' : i < r.length) → ∃ ga g ga' g', A = some ⟨ga, 0, none⟩ ∧ A' = some ⟨ga', 0, none⟩ ∧ w.cell? ⟨ga, i, none⟩ = some (ptrV g) ∧ w.cell? ⟨ga', i, none⟩ = some (ptrV g') ∧
  ∀ w', Below w.heap.size w w' → Calls Tryz.prog 21 #[ptrV g, ptrV g'] w' fun v w'' => v = .returned (.bool (sameT l[i] r[i])) ∧ ∃ q, w'' = w'.drewN q
theorem Pairs.drewN {w : World} {A A' : Option Addr} {l r : List Tree} (h : Pairs w A A' l r) (q : Nat) : Pairs (w.drewN q) A A' l r := fun i hi hi' => by
  obtain ⟨ga, g, ga', g', h1, h2, h3, h4, h5⟩ := h i hi hi'
  exact ⟨ga, g, ga', g', h1, h2, h3, h4, fun w' hb => h5 w' ((below_drewN (Below.refl w.heap.size w) q).trans hb)⟩
set_option maxHeartbeats 4000000 in
theorem equalf_at {w : World} {A A' : Option Addr} {c c' : Nat} {l r : List Tree} (hP : Pairs w A A' l r) (hl : l.length ≤ 1048577) (hr : r.length ≤ 1048577) :
    Calls Tryz.prog 91 #[.slice A l.length c, .slice A' r.length c', .func (.func 21) #[] #[]] w fun v w' => v = .returned (.bool (sameL l r)) ∧ ∃ q, w' = w.drewN q := by
  have HP := Lib.hid hP
  clear hP
  by_cases hlen : l.length = r.length
  · have n6 : (((l.length : Nat) : Int) != ((r.length : Nat) : Int)) = false := by rw [hlen]; simp
    have HLEN := Lib.hid hlen
    clear hlen
    go_enter Tryz.func91, Tryz.ntmps91
    go_wp2_with fail
    go_loopw [17] (fun iv wr => ∃ i : Nat, i ≤ l.length ∧ iv = .int .i64 ((i : Nat) : Int) ∧ Hid (sameL l r = sameL (l.drop i) (r.drop i)) ∧ ∃ q, wr = w.drewN q) (fun iv _ => l.length - (intOf iv).toNat)
    case atStart => exact ⟨0, Nat.zero_le _, rfl, Lib.hid rfl, 0, rfl⟩
    case round =>
      clear n6
      obtain ⟨i, hik, rfl, HS, nq, rfl⟩ := hrel
      have HB := Lib.hid (below_drewN (Below.refl w.heap.size w) nq)
      by_cases hlt : i < l.length
      · have hlt' : i < r.length := by rw [← HLEN.out]; exact hlt
        obtain ⟨ga, g, ga', g', rfl, rfl, c1, c2, hcall⟩ := HP.out i hlt hlt'
        have d1 := (World.cell?_of_block (HB.out.block _ (cell_lt0 c1))).trans c1
        have d2 := (World.cell?_of_block (HB.out.block _ (cell_lt0 c2))).trans c2
        have HCALL := Lib.hid (hcall _ HB.out)
        have HT := Lib.hid (HS.out.trans (same_step hlt hlt'))
        clear c1 c2 hcall
        generalize l[i] = n at *
        generalize r[i] = m at *
        go_wp2_with fail
        refine HCALL.out.mono ?_
        rintro v w3 ⟨rfl, nq2, rfl⟩
        rw [World.drewN_drewN]
        clear d1 d2
        cases hsm : sameT n m with
        | false =>
          have HSM := Lib.hid hsm
          go_wp2
          go_returns
          exact ⟨by rw [HT.out, HSM.out]; rfl, _, rfl⟩
        | true =>
          have HSM := Lib.hid hsm
          go_wp2_with fail
          go_roundw
          case rel => exact ⟨i + 1, by omega, by go_num, Lib.hid (by rw [HT.out, HSM.out, Bool.true_and]), _, rfl⟩
          case measure => simp [intOf]; omega
      · obtain rfl : i = l.length := by omega
        have HF := Lib.hid (show sameL l r = true by rw [HS.out, List.drop_length, HLEN.out, List.drop_length]; rfl)
        go_wp2
        go_returns
        exact ⟨by rw [HF.out]; rfl, _, rfl⟩
  · have n6 : (((l.length : Nat) : Int) != ((r.length : Nat) : Int)) = true := by rw [bne_iff_ne]; omega
    have HF := Lib.hid (sameL_len hlen)
    clear hlen
    go_enter Tryz.func91, Tryz.ntmps91
    go_wp2
    go_returns
    exact ⟨by rw [HF.out]; rfl, 0, rfl⟩
set_option maxHeartbeats 8000000 in
theorem same_at {w : World} {S : Nat → Prop} {n : Tree} {b : Nat} (h : TreeAt w S n b) : ∀ (m : Tree) (b' : Nat) (S' : Nat → Prop), TreeAt w S' m b' → ∀ w', Below w.heap.size w w' →
    Calls Tryz.prog 21 #[ptrV b, ptrV b'] w' fun v w'' => v = .returned (.bool (sameT n m)) ∧ ∃ q, w'' = w'.drewN q := by
  induction h with
  | @mk k set lo hi lazy kids f t b ga c A bs hSb hb hl hm hA hc hk ih =>
    intro m b' S' h' w' hw
    cases h' with
    | @mk k' set' lo' hi' lazy' kids' f' t' b' ga' c' A' bs' hSb' hb' hl' hm' hA' hc' hk' =>
      have HZ := Lib.hid (show sameT (.mk k set lo hi lazy kids f t) (.mk k' set' lo' hi' lazy' kids' f' t') = (k == k' && (eqB set set' && (lo == lo' && (hi == hi' && (lazy == lazy' && sameL kids kids'))))) by simp only [sameT])
      have hp : Pairs w' A A' kids kids' := fun i hi hi' => by
        have hne : kids ≠ [] := by intro e; rw [e] at hi; exact absurd hi (Nat.not_lt_zero _)
        have hne' : kids' ≠ [] := by intro e; rw [e] at hi'; exact absurd hi' (Nat.not_lt_zero _)
        have hib : i < bs.length := by omega
        have hib' : i < bs'.length := by omega
        have c1 := hc i _ (List.getElem?_eq_getElem hib)
        have c2 := hc' i _ (List.getElem?_eq_getElem hib')
        exact ⟨ga, bs[i], ga', bs'[i], (hA hne).1, (hA' hne').1, (World.cell?_of_block (hw.block _ (cell_lt0 c1))).trans c1, (World.cell?_of_block (hw.block _ (cell_lt0 c2))).trans c2,
          fun w'' h'' => ih i _ _ (List.getElem?_eq_getElem hi) (List.getElem?_eq_getElem hib) _ _ S' (hk' i _ _ (List.getElem?_eq_getElem hi') (List.getElem?_eq_getElem hib')) w'' (hw.trans (h''.mono hw.size))⟩
      have HP := Lib.hid (fun q => equalf_at (c := c) (c' := c') (Pairs.drewN hp q) hm hm')
      have hb2 := hb.below hw hb.lt
      have hb2' := hb'.below hw hb'.lt
      obtain ⟨⟨a0, a1, a2, a3, a4, a5, a6, a7, a8, -, -⟩, -⟩ := hb2.eleven
      obtain ⟨⟨b0, b1, b2, b3, b4, b5, b6, b7, b8, -, -⟩, -⟩ := hb2'.eleven
      have hbl := hb2.lt
      have hbl' := hb2'.lt
      clear hc hk ih hA hw hc' hk' hA' hp hb hb' hb2 hb2'
      rename World => w'
      go_enter Tryz.func21, Tryz.ntmps21
      go_wp2_with fail
      simp only [List.append_eq, List.cons_append, List.nil_append]
      cases e1 : (k == k') with
      | false =>
        have HF := Lib.hid (show sameT (.mk k set lo hi lazy kids f t) (.mk k' set' lo' hi' lazy' kids' f' t') = false by rw [HZ.out, e1]; rfl)
        go_quiet (fail)
        go_wp2
        go_returns
        exact ⟨by rw [HF.out]; rfl, _, rfl⟩
      | true =>
        have HE1 := Lib.hid e1
        cases e2 : eqB set set' with
        | false =>
          have HF := Lib.hid (show sameT (.mk k set lo hi lazy kids f t) (.mk k' set' lo' hi' lazy' kids' f' t') = false by rw [HZ.out, HE1.out, e2]; rfl)
          go_quiet (fail)
          go_wp2
          go_returns
          exact ⟨by rw [HF.out]; rfl, _, rfl⟩
        | true =>
          have HE2 := Lib.hid e2
          cases e3 : (lo == lo') with
          | false =>
            have HF := Lib.hid (show sameT (.mk k set lo hi lazy kids f t) (.mk k' set' lo' hi' lazy' kids' f' t') = false by rw [HZ.out, HE1.out, HE2.out, e3]; rfl)
            go_quiet (fail)
            go_wp2
            go_returns
            exact ⟨by rw [HF.out]; rfl, _, rfl⟩
          | true =>
            have HE3 := Lib.hid e3
            cases e4 : (hi == hi') with
            | false =>
              have HF := Lib.hid (show sameT (.mk k set lo hi lazy kids f t) (.mk k' set' lo' hi' lazy' kids' f' t') = false by rw [HZ.out, HE1.out, HE2.out, HE3.out, e4]; rfl)
              go_quiet (fail)
              go_wp2
              go_returns
              exact ⟨by rw [HF.out]; rfl, _, rfl⟩
            | true =>
              have HE4 := Lib.hid e4
              cases e5 : (lazy == lazy') with
              | false =>
                have HF := Lib.hid (show sameT (.mk k set lo hi lazy kids f t) (.mk k' set' lo' hi' lazy' kids' f' t') = false by rw [HZ.out, HE1.out, HE2.out, HE3.out, HE4.out, e5]; rfl)
                have hzz : (lazy = true ∧ lazy' = false) ∨ (lazy = false ∧ lazy' = true) := by
                  revert e5
                  cases lazy <;> cases lazy' <;> simp
                clear e5
                rcases hzz with ⟨rfl, rfl⟩ | ⟨rfl, rfl⟩
                · go_quiet (fail)
                  go_wp2
                  go_returns
                  exact ⟨by rw [HF.out]; rfl, _, rfl⟩
                · go_quiet (fail)
                  go_wp2
                  go_returns
                  exact ⟨by rw [HF.out]; rfl, _, rfl⟩
              | true =>
                obtain rfl : lazy = lazy' := eq_of_beq e5
                have n5 : (lazy == lazy) = true := by simp
                have HF := Lib.hid (show sameT (.mk k set lo hi lazy kids f t) (.mk k' set' lo' hi' lazy kids' f' t') = sameL kids kids' by rw [HZ.out, HE1.out, HE2.out, HE3.out, HE4.out, n5]; rfl)
                go_quiet ((go_at_call 91; exact Calls.quiet_of (HP.out _)))
                go_wp2
                go_returns
                exact ⟨by rw [HF.out]; rfl, _, rfl⟩
end Go.Proofs.YtpiimcbbgalhfaaGreatDoor
/- A tree gone through: each, Size, Groups, Sets. -/
namespace Go.Proofs.YtpiimcbbgalhfaaGreatDoor
set_option maxRecDepth 100000
open Go.RowKit
mutual
/-- All nodes, the first one first. -/
def preT : Tree → List Tree
  | .mk k s lo hi z kids f t => .mk k s lo hi z kids f t :: preL kids
def preL : List Tree → List Tree
  | [] => []
  | n :: l => preT n ++ preL l
end
theorem preL_snoc (l : List Tree) (n : Tree) : preL (l ++ [n]) = preL l ++ preT n := by
  induction l with
  | nil => simp [preL]
  | cons m l ih => simp only [List.cons_append, preL, ih, List.append_assoc]
theorem preL_take {l : List Tree} {i : Nat} (h : i < l.length) : preL (l.take (i + 1)) = preL (l.take i) ++ preT l[i] := by rw [List.take_succ_eq_append_getElem h, preL_snoc]
mutual
theorem pre_size : ∀ t : Tree, (preT t).length = sizeT t
  | .mk _ _ _ _ _ kids _ _ => by
    have := pre_sizeL kids
    simp only [preT, sizeT, List.length_cons]
    omega
theorem pre_sizeL : ∀ l : List Tree, (preL l).length = sizeL l
  | [] => by simp [preL, sizeL]
  | n :: l => by
    have := pre_size n
    have := pre_sizeL l
    simp only [preL, sizeL, List.length_append]
    omega
end
/-- How many of a kind. -/
def kindsN (k : Int) (l : List Tree) : Nat := (l.filter fun n => n.kind == k).length
theorem kindsN_append (k : Int) (a b : List Tree) : kindsN k (a ++ b) = kindsN k a + kindsN k b := by simp [kindsN]
mutual
theorem pre_count (k : Int) : ∀ t : Tree, kindsN k (preT t) = countT k t
  | .mk kind s lo hi z kids f t => by
    have := pre_countL k kids
    simp only [preT, countT]
    rw [show (Tree.mk kind s lo hi z kids f t :: preL kids) = [Tree.mk kind s lo hi z kids f t] ++ preL kids from rfl, kindsN_append, this]
    congr 1
    unfold kindsN
    by_cases h : kind = k
    · rw [if_pos h, List.filter_cons_of_pos (by simp [Tree.kind, h])]; rfl
    · rw [if_neg h, List.filter_cons_of_neg (by simp [Tree.kind, h])]; rfl
theorem pre_countL (k : Int) : ∀ l : List Tree, kindsN k (preL l) = countL k l
  | [] => by simp [preL, countL, kindsN]
  | n :: l => by
    have := pre_count k n
    have := pre_countL k l
    simp only [preL, countL]
    rw [kindsN_append]
    omega
end
/-- The sets of some nodes. -/
def setsN (l : List Tree) : List (Nat → Bool) := l.flatMap fun n => if n.kind = 1 then [n.set] else []
theorem setsN_append (a b : List Tree) : setsN (a ++ b) = setsN a ++ setsN b := by simp [setsN]
mutual
theorem pre_sets : ∀ t : Tree, setsN (preT t) = setsT t
  | .mk kind s lo hi z kids f t => by
    have := pre_setsL kids
    simp only [preT, setsT]
    rw [show (Tree.mk kind s lo hi z kids f t :: preL kids) = [Tree.mk kind s lo hi z kids f t] ++ preL kids from rfl, setsN_append, this]
    congr 1
    by_cases h : kind = 1 <;> simp [setsN, Tree.kind, Tree.set, h]
theorem pre_setsL : ∀ l : List Tree, setsN (preL l) = setsL l
  | [] => by simp [preL, setsL, setsN]
  | n :: l => by
    have := pre_sets n
    have := pre_setsL l
    simp only [preL, setsL]
    rw [setsN_append, this, pre_sets n]
end
/-- A call without a result: what it leaves. -/
def Leaves (w0 : World) (cb : Nat) (P : List Tree → World → Prop) (l : List Tree) (v : Ending) (w : World) : Prop := (∃ u, v = .returned u) ∧ w0.grownBy w (some cb) ∧ P l w
set_option maxHeartbeats 4000000 in
theorem each1_at {w0 : World} {cb : Nat} {S : Nat → Prop} {P : List Tree → World → Prop} (hS : ∀ k, S k → k ≠ cb)
    (hdo : ∀ (l : List Tree) (n : Tree) (b : Nat) (w' : World), w0.grownBy w' (some cb) → P l w' → TreeAt w' S n b → l.length ≤ 1000000 → Calls Tryz.prog 83 #[ptrV b, ptrV cb] w' (Leaves w0 cb P (l ++ [n])))
    {n : Tree} {b : Nat} (h : TreeAt w0 S n b) : ∀ (l : List Tree) (w' : World), w0.grownBy w' (some cb) → P l w' → l.length + sizeT n ≤ 1000000 →
    Calls Tryz.prog 82 #[ptrV b, .func (.func 83) #[] #[ptrV cb]] w' (Leaves w0 cb P (l ++ preT n)) := by
  have htree := h
  induction h with
  | @mk k set lo hi lazy kids f t b ga c A bs hSb hb hl hm hA hc hk ih =>
    intro l w' hg hP hz
    simp only [sizeT] at hz
    have HT := Lib.hid htree
    have HZ := Lib.hid (show preT (.mk k set lo hi lazy kids f t) = .mk k set lo hi lazy kids f t :: preL kids by simp only [preT])
    have HI := Lib.hid ih
    have HK := Lib.hid hk
    have HC := Lib.hid hc
    have HA := Lib.hid hA
    have HB := Lib.hid hb
    have hSbn := hS b hSb
    have HDO := Lib.hid (hdo l _ b w' hg hP (htree.only hg hS) (by omega))
    have HD := Lib.hid hdo
    have HS := Lib.hid hS
    clear htree ih hk hc hA hb hdo hg hP hS
    rename World => w'
    go_enter Tryz.func82, Tryz.ntmps82
    go_wp2_with fail
    refine HDO.out.mono ?_
    rintro v w1 ⟨⟨u, rfl⟩, hg1, hP1⟩
    have hblk1 : Blk w1 b 34 (nodeL k set lo hi lazy (.slice A kids.length c) f t) := (hg1.block b HB.out.lt (fun e => hSbn (by injection e))).trans HB.out
    have c8 : w1.cell? ⟨b, 8, none⟩ = some (.slice A kids.length c) := hblk1.cell 8
    have HG1 := Lib.hid hg1
    have HP1 := Lib.hid hP1
    clear hg1 hP1 hblk1
    go_wp2_with fail
    go_loopw [16] (fun iv wr => ∃ i : Nat, i ≤ kids.length ∧ iv = .int .i64 ((i : Nat) : Int) ∧ Hid (w0.grownBy wr (some cb)) ∧ Hid (P (l ++ [.mk k set lo hi lazy kids f t] ++ preL (kids.take i)) wr)) (fun iv _ => kids.length - (intOf iv).toNat)
    case atStart => exact ⟨0, Nat.zero_le _, rfl, HG1, Lib.hid (by simpa [preL] using HP1.out)⟩
    case round =>
      clear c8
      obtain ⟨i, hik, rfl, HG, HP⟩ := hrel
      by_cases hlt : i < kids.length
      · have hne : kids ≠ [] := by intro e; rw [e] at hlt; exact absurd hlt (Nat.not_lt_zero _)
        have hib : i < bs.length := by omega
        have hki := List.getElem?_eq_getElem hlt
        have hbi := List.getElem?_eq_getElem hib
        obtain ⟨rfl, hSg⟩ := HA.out hne
        have hcell := HC.out i _ hbi
        have hcw : wr.cell? ⟨ga, i, none⟩ = some (ptrV bs[i]) := (World.cell?_of_block (HG.out.block ga (cell_lt0 hcell) (fun e => HS.out ga hSg (by injection e)))).trans hcell
        have hsm := sizeL_mem (List.getElem_mem hlt)
        have hle := sizeL_le (l := kids) i
        have hlen : (l ++ [Tree.mk k set lo hi lazy kids f t] ++ preL (kids.take i)).length + sizeT kids[i] ≤ 1000000 := by
          rw [List.length_append, List.length_append, List.length_singleton, pre_sizeL]
          have := sizeL_take hlt
          have := sizeL_le (l := kids) (i + 1)
          omega
        have HCALL := Lib.hid (HI.out i _ _ hki hbi (HK.out i _ _ hki hbi) _ wr HG.out HP.out hlen)
        have HN := Lib.hid (preL_take hlt)
        generalize bs[i] = kb at *
        generalize kids[i] = kn at *
        clear hki hbi hcell hSg hlen
        go_wp2_with fail
        refine HCALL.out.mono ?_
        rintro v w2 ⟨⟨u2, rfl⟩, hg2, hP2⟩
        have HG2 := Lib.hid hg2
        have HP2 := Lib.hid hP2
        clear hg2 hP2 hcw
        go_wp2_with fail
        go_roundw
        case rel => exact ⟨i + 1, by omega, by go_num, HG2, Lib.hid (by rw [HN.out, ← List.append_assoc]; exact HP2.out)⟩
        case measure => simp [intOf]; omega
      · obtain rfl : i = kids.length := by omega
        have HTL := Lib.hid (List.take_length (l := kids))
        go_wp2
        go_returns
        refine ⟨⟨_, rfl⟩, HG.out, ?_⟩
        have := HP.out
        rw [HTL.out] at this
        rw [HZ.out]
        simpa using this
set_option maxHeartbeats 4000000 in
theorem each2_at {w0 : World} {cb : Nat} {S : Nat → Prop} {P : List Tree → World → Prop} (hS : ∀ k, S k → k ≠ cb)
    (hdo : ∀ (l : List Tree) (n : Tree) (b : Nat) (w' : World), w0.grownBy w' (some cb) → P l w' → TreeAt w' S n b → l.length ≤ 1000000 → Calls Tryz.prog 92 #[ptrV b, ptrV cb] w' (Leaves w0 cb P (l ++ [n])))
    {n : Tree} {b : Nat} (h : TreeAt w0 S n b) : ∀ (l : List Tree) (w' : World), w0.grownBy w' (some cb) → P l w' → l.length + sizeT n ≤ 1000000 →
    Calls Tryz.prog 82 #[ptrV b, .func (.func 92) #[] #[ptrV cb]] w' (Leaves w0 cb P (l ++ preT n)) := by
  have htree := h
  induction h with
  | @mk k set lo hi lazy kids f t b ga c A bs hSb hb hl hm hA hc hk ih =>
    intro l w' hg hP hz
    simp only [sizeT] at hz
    have HT := Lib.hid htree
    have HZ := Lib.hid (show preT (.mk k set lo hi lazy kids f t) = .mk k set lo hi lazy kids f t :: preL kids by simp only [preT])
    have HI := Lib.hid ih
    have HK := Lib.hid hk
    have HC := Lib.hid hc
    have HA := Lib.hid hA
    have HB := Lib.hid hb
    have hSbn := hS b hSb
    have HDO := Lib.hid (hdo l _ b w' hg hP (htree.only hg hS) (by omega))
    have HD := Lib.hid hdo
    have HS := Lib.hid hS
    clear htree ih hk hc hA hb hdo hg hP hS
    rename World => w'
    go_enter Tryz.func82, Tryz.ntmps82
    go_wp2_with fail
    refine HDO.out.mono ?_
    rintro v w1 ⟨⟨u, rfl⟩, hg1, hP1⟩
    have hblk1 : Blk w1 b 34 (nodeL k set lo hi lazy (.slice A kids.length c) f t) := (hg1.block b HB.out.lt (fun e => hSbn (by injection e))).trans HB.out
    have c8 : w1.cell? ⟨b, 8, none⟩ = some (.slice A kids.length c) := hblk1.cell 8
    have HG1 := Lib.hid hg1
    have HP1 := Lib.hid hP1
    clear hg1 hP1 hblk1
    go_wp2_with fail
    go_loopw [16] (fun iv wr => ∃ i : Nat, i ≤ kids.length ∧ iv = .int .i64 ((i : Nat) : Int) ∧ Hid (w0.grownBy wr (some cb)) ∧ Hid (P (l ++ [.mk k set lo hi lazy kids f t] ++ preL (kids.take i)) wr)) (fun iv _ => kids.length - (intOf iv).toNat)
    case atStart => exact ⟨0, Nat.zero_le _, rfl, HG1, Lib.hid (by simpa [preL] using HP1.out)⟩
    case round =>
      clear c8
      obtain ⟨i, hik, rfl, HG, HP⟩ := hrel
      by_cases hlt : i < kids.length
      · have hne : kids ≠ [] := by intro e; rw [e] at hlt; exact absurd hlt (Nat.not_lt_zero _)
        have hib : i < bs.length := by omega
        have hki := List.getElem?_eq_getElem hlt
        have hbi := List.getElem?_eq_getElem hib
        obtain ⟨rfl, hSg⟩ := HA.out hne
        have hcell := HC.out i _ hbi
        have hcw : wr.cell? ⟨ga, i, none⟩ = some (ptrV bs[i]) := (World.cell?_of_block (HG.out.block ga (cell_lt0 hcell) (fun e => HS.out ga hSg (by injection e)))).trans hcell
        have hsm := sizeL_mem (List.getElem_mem hlt)
        have hle := sizeL_le (l := kids) i
        have hlen : (l ++ [Tree.mk k set lo hi lazy kids f t] ++ preL (kids.take i)).length + sizeT kids[i] ≤ 1000000 := by
          rw [List.length_append, List.length_append, List.length_singleton, pre_sizeL]
          have := sizeL_take hlt
          have := sizeL_le (l := kids) (i + 1)
          omega
        have HCALL := Lib.hid (HI.out i _ _ hki hbi (HK.out i _ _ hki hbi) _ wr HG.out HP.out hlen)
        have HN := Lib.hid (preL_take hlt)
        generalize bs[i] = kb at *
        generalize kids[i] = kn at *
        clear hki hbi hcell hSg hlen
        go_wp2_with fail
        refine HCALL.out.mono ?_
        rintro v w2 ⟨⟨u2, rfl⟩, hg2, hP2⟩
        have HG2 := Lib.hid hg2
        have HP2 := Lib.hid hP2
        clear hg2 hP2 hcw
        go_wp2_with fail
        go_roundw
        case rel => exact ⟨i + 1, by omega, by go_num, HG2, Lib.hid (by rw [HN.out, ← List.append_assoc]; exact HP2.out)⟩
        case measure => simp [intOf]; omega
      · obtain rfl : i = kids.length := by omega
        have HTL := Lib.hid (List.take_length (l := kids))
        go_wp2
        go_returns
        refine ⟨⟨_, rfl⟩, HG.out, ?_⟩
        have := HP.out
        rw [HTL.out] at this
        rw [HZ.out]
        simpa using this
end Go.Proofs.YtpiimcbbgalhfaaGreatDoor
/- syntax.Size, Groups, Sets: what they answer of a tree. -/
namespace Go.Proofs.YtpiimcbbgalhfaaGreatDoor
open Go.RowKit
theorem size1_at {w : World} {cb b n : Nat} (h : Blk w cb 3 [.int .i64 ((n : Nat) : Int)]) (hn : n ≤ 1000000) :
    Calls Tryz.prog 83 #[ptrV b, ptrV cb] w fun v w' => (∃ u, v = .returned u) ∧ Blk w' cb 3 [.int .i64 ((n + 1 : Nat) : Int)] ∧ w.grownBy w' (some cb) := by
  have c0 := h.cell 0
  have f0 := h.frozen 0
  change w.cell? ⟨cb, 0, none⟩ = some (.int .i64 ((n : Nat) : Int)) at c0
  have HB := Lib.hid h
  clear h
  go_enter Tryz.func83, Tryz.ntmps83
  go_wp2
  go_returns
  exact ⟨⟨_, rfl⟩, by have := HB.out.set 0 (.int .i64 ((n + 1 : Nat) : Int)); simpa using this, only_setCell (only_refl w cb) 0 _⟩
theorem groups1_at {w : World} {cb b n : Nat} {k : Int} (h : Blk w cb 3 [.int .i64 ((n : Nat) : Int)]) (hn : n ≤ 1000000) (hk : w.cell? ⟨b, 0, none⟩ = some (.int .i64 k)) :
    Calls Tryz.prog 92 #[ptrV b, ptrV cb] w fun v w' => (∃ u, v = .returned u) ∧ Blk w' cb 3 [.int .i64 ((n + (if k == 2 then 1 else 0) : Nat) : Int)] ∧ w.grownBy w' (some cb) := by
  have c0 := h.cell 0
  have f0 := h.frozen 0
  change w.cell? ⟨cb, 0, none⟩ = some (.int .i64 ((n : Nat) : Int)) at c0
  have HB := Lib.hid h
  clear h
  cases hk2 : (k == 2) with
  | false =>
    go_enter Tryz.func92, Tryz.ntmps92
    go_wp2
    go_returns
    exact ⟨⟨_, rfl⟩, by simpa using HB.out, only_refl w cb⟩
  | true =>
    go_enter Tryz.func92, Tryz.ntmps92
    go_wp2
    go_returns
    exact ⟨⟨_, rfl⟩, by have := HB.out.set 0 (.int .i64 ((n + 1 : Nat) : Int)); simpa using this, only_setCell (only_refl w cb) 0 _⟩
theorem grown_below {w0 w w' : World} {cb base : Nat} (hg : w0.grownBy w (some cb)) (hb : Below base w.drew w') (h0 : w0.heap.size ≤ base) : w0.grownBy w' (some cb) :=
  ⟨hb.os.trans hg.os, hb.tape.trans hg.tape, hb.output.trans hg.output, Nat.le_trans hg.size hb.size, fun i hi hne => (hb.block i (Nat.lt_of_lt_of_le hi h0)).trans (hg.block i hi hne)⟩
set_option maxHeartbeats 4000000 in
theorem ssize_at {w : World} {S : Nat → Prop} {n : Tree} {b : Nat} (h : TreeAt w S n b) (hz : sizeT n ≤ 1000000) :
    Calls Tryz.prog 16 #[ptrV b] w fun v w' => v = .returned (.int .i64 ((sizeT n : Nat) : Int)) ∧ Below w.heap.size w w' := by
  have hbl := Blk.new w [.int .i64 0] 3
  have hb1 : Below w.heap.size w (w.alloc (.cells #[.int .i64 0] 3)) := (Below.refl _ w).alloc (Nat.le_refl _) _
  have htr := (h.mono (S' := fun k => k < w.heap.size) (fun k _ hk => hk)).under hb1
  have HE := Lib.hid (each1_at (w0 := w.alloc (.cells #[.int .i64 0] 3)) (cb := w.heap.size) (P := fun l W => Blk W w.heap.size 3 [.int .i64 ((l.length : Nat) : Int)]) (fun k hk e => by omega)
    (fun l n b w' hg hP ht hl => (size1_at (b := b) hP hl).mono fun v w'' ⟨h1, h2, h3⟩ => ⟨h1, only_trans hg h3, by dsimp only; rw [List.length_append, List.length_singleton]; exact h2⟩) htr [] _ (only_refl _ _) hbl (by simpa using hz))
  have HB1 := Lib.hid hb1
  have HPS := Lib.hid (pre_size n)
  clear hbl hb1 htr h
  go_enter Tryz.func16, Tryz.ntmps16
  go_wp2_with fail
  refine HE.out.mono ?_
  rintro v w2 ⟨⟨u, rfl⟩, hg, hP⟩
  rw [List.nil_append, HPS.out] at hP
  have c0 : w2.cell? ⟨w.heap.size, 0, none⟩ = some (.int .i64 ((sizeT n : Nat) : Int)) := hP.cell 0
  have hb2 := below_turned HB1.out hg (Nat.le_refl _) HB1.out.size
  clear hP hg
  go_wp2
  go_returns
  exact ⟨rfl, hb2⟩
set_option maxHeartbeats 4000000 in
theorem sgroups_at {w : World} {S : Nat → Prop} {n : Tree} {b : Nat} (h : TreeAt w S n b) (hz : sizeT n ≤ 1000000) :
    Calls Tryz.prog 22 #[ptrV b] w fun v w' => v = .returned (.int .i64 ((countT 2 n : Nat) : Int)) ∧ Below w.heap.size w w' := by
  have hbl := Blk.new w [.int .i64 0] 3
  have hb1 : Below w.heap.size w (w.alloc (.cells #[.int .i64 0] 3)) := (Below.refl _ w).alloc (Nat.le_refl _) _
  have htr := (h.mono (S' := fun k => k < w.heap.size) (fun k _ hk => hk)).under hb1
  have hlen : ∀ l : List Tree, kindsN 2 l ≤ l.length := fun l => List.length_filter_le _ _
  have HE := Lib.hid (each2_at (w0 := w.alloc (.cells #[.int .i64 0] 3)) (cb := w.heap.size) (P := fun l W => Blk W w.heap.size 3 [.int .i64 ((kindsN 2 l : Nat) : Int)]) (fun k hk e => by omega)
    (fun l n b w' hg hP ht hl => by
      obtain ⟨A, c, hn, -, -⟩ := ht.node
      refine (groups1_at hP (Nat.le_trans (hlen l) hl) (hn.cell 0)).mono fun v w'' ⟨h1, h2, h3⟩ => ⟨h1, only_trans hg h3, ?_⟩
      dsimp only
      rw [kindsN_append]
      have : kindsN 2 [n] = if n.kind == 2 then 1 else 0 := by
        unfold kindsN
        rw [List.filter_cons]
        split <;> simp
      rw [this]
      exact h2) htr [] _ (only_refl _ _) hbl (by simpa using hz))
  have HB1 := Lib.hid hb1
  have HPS := Lib.hid (pre_count 2 n)
  clear hbl hb1 htr h hlen
  go_enter Tryz.func22, Tryz.ntmps22
  go_wp2_with fail
  refine HE.out.mono ?_
  rintro v w2 ⟨⟨u, rfl⟩, hg, hP⟩
  rw [List.nil_append, HPS.out] at hP
  have c0 : w2.cell? ⟨w.heap.size, 0, none⟩ = some (.int .i64 ((countT 2 n : Nat) : Int)) := hP.cell 0
  have hb2 := below_turned HB1.out hg (Nat.le_refl _) HB1.out.size
  clear hP hg
  go_wp2
  go_returns
  exact ⟨rfl, hb2⟩
end Go.Proofs.YtpiimcbbgalhfaaGreatDoor
