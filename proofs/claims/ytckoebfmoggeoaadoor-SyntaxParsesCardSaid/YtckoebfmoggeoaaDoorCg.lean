/- syntax.Same, of two trees. -/
import Derived.Test.YtckoebfmoggeoaaDoorCe
import Derived.Test.YtckoebfmoggeoaaDoorBl
import Derived.Deep.QuietTactic
import Derived.BigQuiet
namespace Go.Proofs.YtckoebfmoggeoaaDoor
set_option maxRecDepth 100000
open Go.RowKit
attribute [local go_sem] eq_words eqB_words eqB_zero
/-- Two rows of pointers compared, part by part. -/
def Pairs (w : World) (A A' : Option Addr) (l r : List Tree) : Prop := ∀ i, (hi : i < l.length) → (hi' : i < r.length) → ∃ ga g ga' g', A = some ⟨ga, 0, none⟩ ∧ A' = some ⟨ga', 0, none⟩ ∧ w.cell? ⟨ga, i, none⟩ = some (ptrV g) ∧ w.cell? ⟨ga', i, none⟩ = some (ptrV g') ∧
  ∀ w', Below w.heap.size w w' → Calls Tryd.prog 10 #[ptrV g, ptrV g'] w' fun v w'' => v = .returned (.bool (sameT l[i] r[i])) ∧ ∃ q, w'' = w'.drewN q
theorem Pairs.drewN {w : World} {A A' : Option Addr} {l r : List Tree} (h : Pairs w A A' l r) (q : Nat) : Pairs (w.drewN q) A A' l r := fun i hi hi' => by
  obtain ⟨ga, g, ga', g', h1, h2, h3, h4, h5⟩ := h i hi hi'
  exact ⟨ga, g, ga', g', h1, h2, h3, h4, fun w' hb => h5 w' ((below_drewN (Below.refl w.heap.size w) q).trans hb)⟩
set_option maxHeartbeats 4000000 in
theorem equalf_at {w : World} {A A' : Option Addr} {c c' : Nat} {l r : List Tree} (hP : Pairs w A A' l r) (hl : l.length ≤ 1048577) (hr : r.length ≤ 1048577) :
    Calls Tryd.prog 29 #[.slice A l.length c, .slice A' r.length c', .func (.func 10) #[] #[]] w fun v w' => v = .returned (.bool (sameL l r)) ∧ ∃ q, w' = w.drewN q := by
  have HP := Lib.hid hP
  clear hP
  by_cases hlen : l.length = r.length
  · have n6 : (((l.length : Nat) : Int) != ((r.length : Nat) : Int)) = false := by rw [hlen]; simp
    have HLEN := Lib.hid hlen
    clear hlen
    go_enter Tryd.func29, Tryd.ntmps29
    go_wp2_with fail
    go_loopw [17] (fun iv wr => ∃ i : Nat, i ≤ l.length ∧ iv = .int .i64 ((i : Nat) : Int) ∧ Hid (sameL l r = sameL (l.drop i) (r.drop i)) ∧ ∃ q, wr = w.drewN q) (fun iv _ => l.length - (intOf iv).toNat)
    case atStart => exact ⟨0, Nat.zero_le _, rfl, Lib.hid rfl, 0, rfl⟩
    case round =>
      clear n6
      obtain ⟨i, hik, rfl, HS, nq, rfl⟩ := hrel
      have HB := Lib.hid (below_drewN (Below.refl w.heap.size w) nq)
      by_cases hlt : i < l.length
      · have hlt' : i < r.length := by rw [← HLEN.out]; exact hlt
        obtain ⟨ga, g, ga', g', rfl, rfl, c1, c2, hcall⟩ := HP.out i hlt hlt'
        have d1 := (World.cell?_of_block (HB.out.block _ (cell_lt0 c1))).trans c1
        have d2 := (World.cell?_of_block (HB.out.block _ (cell_lt0 c2))).trans c2
        have HCALL := Lib.hid (hcall _ HB.out)
        have HT := Lib.hid (HS.out.trans (same_step hlt hlt'))
        clear c1 c2 hcall
        generalize l[i] = n at *
        generalize r[i] = m at *
        go_wp2_with fail
        refine HCALL.out.mono ?_
        rintro v w3 ⟨rfl, nq2, rfl⟩
        rw [World.drewN_drewN]
        clear d1 d2
        cases hsm : sameT n m with
        | false =>
          have HSM := Lib.hid hsm
          go_wp2
          go_returns
          exact ⟨by rw [HT.out, HSM.out]; rfl, _, rfl⟩
        | true =>
          have HSM := Lib.hid hsm
          go_wp2_with fail
          go_roundw
          case rel => exact ⟨i + 1, by omega, by go_num, Lib.hid (by rw [HT.out, HSM.out, Bool.true_and]), _, rfl⟩
          case measure => simp [intOf]; omega
      · obtain rfl : i = l.length := by omega
        have HF := Lib.hid (show sameL l r = true by rw [HS.out, List.drop_length, HLEN.out, List.drop_length]; rfl)
        go_wp2
        go_returns
        exact ⟨by rw [HF.out]; rfl, _, rfl⟩
  · have n6 : (((l.length : Nat) : Int) != ((r.length : Nat) : Int)) = true := by rw [bne_iff_ne]; omega
    have HF := Lib.hid (sameL_len hlen)
    clear hlen
    go_enter Tryd.func29, Tryd.ntmps29
    go_wp2
    go_returns
    exact ⟨by rw [HF.out]; rfl, 0, rfl⟩
set_option maxHeartbeats 8000000 in
theorem same_at {w : World} {S : Nat → Prop} {n : Tree} {b : Nat} (h : TreeAt w S n b) : ∀ (m : Tree) (b' : Nat) (S' : Nat → Prop), TreeAt w S' m b' → ∀ w', Below w.heap.size w w' →
    Calls Tryd.prog 10 #[ptrV b, ptrV b'] w' fun v w'' => v = .returned (.bool (sameT n m)) ∧ ∃ q, w'' = w'.drewN q := by
  induction h with
  | @mk k set lo hi lazy kids f t b ga c A bs hSb hb hl hm hA hc hk ih =>
    intro m b' S' h' w' hw
    cases h' with
    | @mk k' set' lo' hi' lazy' kids' f' t' b' ga' c' A' bs' hSb' hb' hl' hm' hA' hc' hk' =>
      have HZ := Lib.hid (show sameT (.mk k set lo hi lazy kids f t) (.mk k' set' lo' hi' lazy' kids' f' t') = (k == k' && (eqB set set' && (lo == lo' && (hi == hi' && (lazy == lazy' && sameL kids kids'))))) by simp only [sameT])
      have hp : Pairs w' A A' kids kids' := fun i hi hi' => by
        have hne : kids ≠ [] := by intro e; rw [e] at hi; exact absurd hi (Nat.not_lt_zero _)
        have hne' : kids' ≠ [] := by intro e; rw [e] at hi'; exact absurd hi' (Nat.not_lt_zero _)
        have hib : i < bs.length := by omega
        have hib' : i < bs'.length := by omega
        have c1 := hc i _ (List.getElem?_eq_getElem hib)
        have c2 := hc' i _ (List.getElem?_eq_getElem hib')
        exact ⟨ga, bs[i], ga', bs'[i], (hA hne).1, (hA' hne').1, (World.cell?_of_block (hw.block _ (cell_lt0 c1))).trans c1, (World.cell?_of_block (hw.block _ (cell_lt0 c2))).trans c2,
          fun w'' h'' => ih i _ _ (List.getElem?_eq_getElem hi) (List.getElem?_eq_getElem hib) _ _ S' (hk' i _ _ (List.getElem?_eq_getElem hi') (List.getElem?_eq_getElem hib')) w'' (hw.trans (h''.mono hw.size))⟩
      have HP := Lib.hid (fun q => equalf_at (c := c) (c' := c') (Pairs.drewN hp q) hm hm')
      have hb2 := hb.below hw hb.lt
      have hb2' := hb'.below hw hb'.lt
      obtain ⟨⟨a0, a1, a2, a3, a4, a5, a6, a7, a8, -, -⟩, -⟩ := hb2.eleven
      obtain ⟨⟨b0, b1, b2, b3, b4, b5, b6, b7, b8, -, -⟩, -⟩ := hb2'.eleven
      have hbl := hb2.lt
      have hbl' := hb2'.lt
      clear hc hk ih hA hw hc' hk' hA' hp hb hb' hb2 hb2'
      rename World => w'
      go_enter Tryd.func10, Tryd.ntmps10
      go_wp2_with fail
      simp only [List.append_eq, List.cons_append, List.nil_append]
      cases e1 : (k == k') with
      | false =>
        have HF := Lib.hid (show sameT (.mk k set lo hi lazy kids f t) (.mk k' set' lo' hi' lazy' kids' f' t') = false by rw [HZ.out, e1]; rfl)
        go_quiet (fail)
        go_wp2
        go_returns
        exact ⟨by rw [HF.out]; rfl, _, rfl⟩
      | true =>
        have HE1 := Lib.hid e1
        cases e2 : eqB set set' with
        | false =>
          have HF := Lib.hid (show sameT (.mk k set lo hi lazy kids f t) (.mk k' set' lo' hi' lazy' kids' f' t') = false by rw [HZ.out, HE1.out, e2]; rfl)
          go_quiet (fail)
          go_wp2
          go_returns
          exact ⟨by rw [HF.out]; rfl, _, rfl⟩
        | true =>
          have HE2 := Lib.hid e2
          cases e3 : (lo == lo') with
          | false =>
            have HF := Lib.hid (show sameT (.mk k set lo hi lazy kids f t) (.mk k' set' lo' hi' lazy' kids' f' t') = false by rw [HZ.out, HE1.out, HE2.out, e3]; rfl)
            go_quiet (fail)
            go_wp2
            go_returns
            exact ⟨by rw [HF.out]; rfl, _, rfl⟩
          | true =>
            have HE3 := Lib.hid e3
            cases e4 : (hi == hi') with
            | false =>
              have HF := Lib.hid (show sameT (.mk k set lo hi lazy kids f t) (.mk k' set' lo' hi' lazy' kids' f' t') = false by rw [HZ.out, HE1.out, HE2.out, HE3.out, e4]; rfl)
              go_quiet (fail)
              go_wp2
              go_returns
              exact ⟨by rw [HF.out]; rfl, _, rfl⟩
            | true =>
              have HE4 := Lib.hid e4
              cases e5 : (lazy == lazy') with
              | false =>
                have HF := Lib.hid (show sameT (.mk k set lo hi lazy kids f t) (.mk k' set' lo' hi' lazy' kids' f' t') = false by rw [HZ.out, HE1.out, HE2.out, HE3.out, HE4.out, e5]; rfl)
                have hzz : (lazy = true ∧ lazy' = false) ∨ (lazy = false ∧ lazy' = true) := by
                  revert e5
                  cases lazy <;> cases lazy' <;> simp
                clear e5
                rcases hzz with ⟨rfl, rfl⟩ | ⟨rfl, rfl⟩
                · go_quiet (fail)
                  go_wp2
                  go_returns
                  exact ⟨by rw [HF.out]; rfl, _, rfl⟩
                · go_quiet (fail)
                  go_wp2
                  go_returns
                  exact ⟨by rw [HF.out]; rfl, _, rfl⟩
              | true =>
                obtain rfl : lazy = lazy' := eq_of_beq e5
                have n5 : (lazy == lazy) = true := by simp
                have HF := Lib.hid (show sameT (.mk k set lo hi lazy kids f t) (.mk k' set' lo' hi' lazy kids' f' t') = sameL kids kids' by rw [HZ.out, HE1.out, HE2.out, HE3.out, HE4.out, n5]; rfl)
                go_quiet ((go_at_call 29; exact Calls.quiet_of (HP.out _)))
                go_wp2
                go_returns
                exact ⟨by rw [HF.out]; rfl, _, rfl⟩
end Go.Proofs.YtckoebfmoggeoaaDoor
