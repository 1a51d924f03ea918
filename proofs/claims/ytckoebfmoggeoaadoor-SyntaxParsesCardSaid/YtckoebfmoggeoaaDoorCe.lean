/- The reference of layer 6: Same. -/
import Derived.Test.YtckoebfmoggeoaaDoorCd
import Derived.StillTailTactics
namespace Go.Proofs.YtckoebfmoggeoaaDoor
set_option maxRecDepth 100000
open Go.RowKit
attribute [local go_sem] eq_words eqB_words eqB_zero
mutual
def sameT : Tree → Tree → Bool
  | .mk k s lo hi z kids _ _, .mk k' s' lo' hi' z' kids' _ _ => k == k' && (eqB s s' && (lo == lo' && (hi == hi' && (z == z' && sameL kids kids'))))
def sameL : List Tree → List Tree → Bool
  | [], [] => true
  | n :: l, m :: r => sameT n m && sameL l r
  | _, _ => false
end
theorem sameL_len : ∀ {l r : List Tree}, l.length ≠ r.length → sameL l r = false := by
  intro l
  induction l with
  | nil =>
    intro r h
    cases r with
    | nil => exact absurd rfl h
    | cons m r => simp [sameL]
  | cons n l ih =>
    intro r h
    cases r with
    | nil => simp [sameL]
    | cons m r =>
      simp only [sameL]
      rw [ih (fun e => h (by simp [e]))]
      simp
theorem drop_step {l : List Tree} {i : Nat} (h : i < l.length) : l.drop i = l[i] :: l.drop (i + 1) := List.drop_eq_getElem_cons h
theorem same_step {l r : List Tree} {i : Nat} (h : i < l.length) (h' : i < r.length) : sameL (l.drop i) (r.drop i) = (sameT l[i] r[i] && sameL (l.drop (i + 1)) (r.drop (i + 1))) := by
  rw [drop_step h, drop_step h']
  simp only [sameL]
set_option maxHeartbeats 16000000 in
theorem rsame_at {w : World} {S : Nat → Prop} {n : Tree} {cs : List Value} (h : RefT w S n cs) : ∀ (m : Tree) (cs' : List Value) (S' : Nat → Prop), RefT w S' m cs' → ∀ w', Below w.heap.size w w' →
    Calls Tryd.prog 11 #[.agg cs.toArray, .agg cs'.toArray] w' fun v w'' => v = .returned (.bool (sameT n m)) ∧ Below w'.heap.size w' w'' := by
  induction h with
  | @mk k set lo hi lazy kids f t ga c A css hl hm hA hc hk ih =>
    intro m cs' S' h' w' hw
    cases h' with
    | @mk k' set' lo' hi' lazy' kids' f' t' ga' c' A' css' hl' hm' hA' hc' hk' =>
      have HZ := Lib.hid (show sameT (.mk k set lo hi lazy kids f t) (.mk k' set' lo' hi' lazy' kids' f' t') = (k == k' && (eqB set set' && (lo == lo' && (hi == hi' && (lazy == lazy' && sameL kids kids'))))) by simp only [sameT])
      have st := ((St.nil w').alloc rfl (nodeL k set lo hi lazy (.slice A kids.length c) f t) 32).alloc (n := w'.heap.size + 1) (by simp) (nodeL k' set' lo' hi' lazy' (.slice A' kids'.length c') f' t') 32
      have HC := Lib.hid hc
      have HK := Lib.hid hk
      have HI := Lib.hid ih
      have HA := Lib.hid hA
      have HW := Lib.hid hw
      have HC' := Lib.hid hc'
      have HK' := Lib.hid hk'
      have HA' := Lib.hid hA'
      clear hc hk ih hA hw hc' hk' hA'
      rename World => w'
      go_enter Tryd.func11, Tryd.ntmps11
      go_upto_region 1 with fail
      generalize (w'.alloc _).alloc _ = w1 at *
      have HST := Lib.hid st
      obtain ⟨⟨a0, a1, a2, a3, a4, a5, a6, a7, a8, -, -⟩, -⟩ := (st.get 1 rfl).eleven
      obtain ⟨⟨b0, b1, b2, b3, b4, b5, b6, b7, b8, -, -⟩, -⟩ := (st.get 0 rfl).eleven
      clear st
      cases e1 : (k == k') with
      | false =>
        have n1 : (k != k') = true := by simp [bne, e1]
        have HE := Lib.hid e1
        go_wp2
        go_returns
        exact ⟨by rw [HZ.out, HE.out]; rfl, HST.out.below⟩
      | true =>
        have n1 : (k != k') = false := by simp [bne, e1]
        have HE1 := Lib.hid e1
        clear e1
        cases e2 : eqB set set' with
        | false =>
          have HE := Lib.hid e2
          go_wp2
          go_returns
          exact ⟨by rw [HZ.out, HE1.out, HE.out]; rfl, HST.out.below⟩
        | true =>
          have HE2 := Lib.hid e2
          cases e3 : (lo == lo') with
          | false =>
            have n3 : (lo != lo') = true := by simp [bne, e3]
            have HE := Lib.hid e3
            go_wp2
            go_returns
            exact ⟨by rw [HZ.out, HE1.out, HE2.out, HE.out]; rfl, HST.out.below⟩
          | true =>
            have n3 : (lo != lo') = false := by simp [bne, e3]
            have HE3 := Lib.hid e3
            clear e3
            cases e4 : (hi == hi') with
            | false =>
              have n4 : (hi != hi') = true := by simp [bne, e4]
              have HE := Lib.hid e4
              go_wp2
              go_returns
              exact ⟨by rw [HZ.out, HE1.out, HE2.out, HE3.out, HE.out]; rfl, HST.out.below⟩
            | true =>
              have n4 : (hi != hi') = false := by simp [bne, e4]
              have HE4 := Lib.hid e4
              clear e4
              cases e5 : (lazy == lazy') with
              | false =>
                have HF := Lib.hid (show sameT (.mk k set lo hi lazy kids f t) (.mk k' set' lo' hi' lazy' kids' f' t') = false by rw [HZ.out, HE1.out, HE2.out, HE3.out, HE4.out, e5]; rfl)
                have hzz : (lazy = true ∧ lazy' = false) ∨ (lazy = false ∧ lazy' = true) := by
                  revert e5
                  cases lazy <;> cases lazy' <;> simp
                clear e5
                rcases hzz with ⟨rfl, rfl⟩ | ⟨rfl, rfl⟩
                · go_wp2
                  go_returns
                  exact ⟨by rw [HF.out]; rfl, HST.out.below⟩
                · go_wp2
                  go_returns
                  exact ⟨by rw [HF.out]; rfl, HST.out.below⟩
              | true =>
                obtain rfl : lazy = lazy' := eq_of_beq e5
                have n5 : (lazy != lazy) = false := by simp
                have HE5 := Lib.hid e5
                clear e5
                have HZ2 := Lib.hid (show sameT (.mk k set lo hi lazy kids f t) (.mk k' set' lo' hi' lazy kids' f' t') = sameL kids kids' by rw [HZ.out, HE1.out, HE2.out, HE3.out, HE4.out, HE5.out]; rfl)
                by_cases hlen : kids.length = kids'.length
                · have n6 : (((kids.length : Nat) : Int) != ((kids'.length : Nat) : Int)) = false := by rw [hlen]; simp
                  have HLEN := Lib.hid hlen
                  clear hlen
                  go_wp2_with fail
                  go_loopw [5] (fun iv wr => ∃ i : Nat, i ≤ kids.length ∧ iv = .int .i64 ((i : Nat) : Int) ∧ Hid (sameL kids kids' = sameL (kids.drop i) (kids'.drop i)) ∧ St w' wr [(w'.heap.size + 1, 32, nodeL k' set' lo' hi' lazy (.slice A' kids'.length c') f' t'), (w'.heap.size, 32, nodeL k set lo hi lazy (.slice A kids.length c) f t)]) (fun iv _ => kids.length - (intOf iv).toNat)
                  case atStart => exact ⟨0, Nat.zero_le _, rfl, Lib.hid rfl, HST.out⟩
                  case round =>
                    clear a0 a1 a2 a3 a4 a5 a6 a7 a8 b0 b1 b2 b3 b4 b5 b6 b7 b8 HST n1 n3 n4 n5 n6 e2
                    obtain ⟨i, hik, rfl, HS, st⟩ := hrel
                    have a8 : wr.cell? ⟨w'.heap.size, 8, none⟩ = some (.slice A kids.length c) := (st.get 1 rfl).cell 8
                    have b8 : wr.cell? ⟨w'.heap.size + 1, 8, none⟩ = some (.slice A' kids'.length c') := (st.get 0 rfl).cell 8
                    have HST := Lib.hid st
                    clear st
                    by_cases hlt : i < kids.length
                    · have hlt' : i < kids'.length := by rw [← HLEN.out]; exact hlt
                      have hne : kids ≠ [] := by intro e; rw [e] at hlt; exact absurd hlt (Nat.not_lt_zero _)
                      have hne' : kids' ≠ [] := by intro e; rw [e] at hlt'; exact absurd hlt' (Nat.not_lt_zero _)
                      have hci : i < css.length := by omega
                      have hci' : i < css'.length := by omega
                      have hcs := List.getElem?_eq_getElem hci
                      have hki := List.getElem?_eq_getElem hlt
                      have hcs' := List.getElem?_eq_getElem hci'
                      have hki' := List.getElem?_eq_getElem hlt'
                      obtain ⟨rfl, -⟩ := HA.out hne
                      obtain ⟨rfl, -⟩ := HA'.out hne'
                      have hb := HW.out.trans (HST.out.below.mono HW.out.size)
                      have hb2 : Below _ _ wr.drew := hb.drew
                      obtain ⟨A2, c2, hcs2, hgl, q0, q1, q2, q3, q4, q5, q6, q7, q8, q9, q10⟩ := ref_kid (HC.out i _ hcs) (HK.out i _ _ hki hcs) hb
                      obtain ⟨A3, c3, hcs3, hgl', p0, p1, p2, p3, p4, p5, p6, p7, p8, p9, p10⟩ := ref_kid (HC'.out i _ hcs') (HK'.out i _ _ hki' hcs') hb
                      have HCALL := Lib.hid (by have := HI.out i _ _ hki hcs _ _ _ (HK'.out i _ _ hki' hcs') wr.drew hb2; rwa [hcs2, hcs3] at this)
                      have HT := Lib.hid (HS.out.trans (same_step hlt hlt'))
                      clear hcs hki hcs2 hb hb2 hgl hcs' hki' hcs3 hgl'
                      generalize kids[i] = n at *
                      generalize kids'[i] = m at *
                      go_upto_region 6 with fail
                      go_still_tail 10, (by kernel_rfl)
                      change wpList _ _ _ _ _ wr.drew
                      have HST2 := Lib.hid HST.out.drew
                      clear a8 b8 q0 q1 q2 q3 q4 q5 q6 q7 q8 q9 q10 p0 p1 p2 p3 p4 p5 p6 p7 p8 p9 p10
                      generalize wr.drew = w2 at *
                      go_wp2_with fail
                      refine HCALL.out.mono ?_
                      rintro v w3 ⟨rfl, hb3⟩
                      have hst3 := HST2.out.below' hb3
                      clear hb3
                      cases hsm : sameT n m with
                      | false =>
                        have HSM := Lib.hid hsm
                        go_wp2
                        go_returns
                        exact ⟨by rw [HZ2.out, HT.out, HSM.out]; rfl, hst3.below⟩
                      | true =>
                        have HSM := Lib.hid hsm
                        go_wp2_with fail
                        go_roundw
                        case rel => exact ⟨i + 1, by omega, by go_num, Lib.hid (by rw [HT.out, HSM.out, Bool.true_and]), hst3⟩
                        case measure => simp [intOf]; omega
                    · obtain rfl : i = kids.length := by omega
                      have HF := Lib.hid (show sameL kids kids' = true by rw [HS.out, List.drop_length, HLEN.out, List.drop_length]; rfl)
                      go_wp2
                      go_returns
                      exact ⟨by rw [HZ2.out, HF.out]; rfl, HST.out.below⟩
                · have n6 : (((kids.length : Nat) : Int) != ((kids'.length : Nat) : Int)) = true := by rw [bne_iff_ne]; omega
                  have HF := Lib.hid (sameL_len hlen)
                  clear hlen
                  go_wp2
                  go_returns
                  exact ⟨by rw [HZ2.out, HF.out]; rfl, HST.out.below⟩
end Go.Proofs.YtckoebfmoggeoaaDoor
