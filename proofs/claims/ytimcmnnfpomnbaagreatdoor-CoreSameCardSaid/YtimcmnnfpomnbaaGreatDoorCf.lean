/- A core's text tells the core: plain. -/
import Derived.Test.YtimcmnnfpomnbaaGreatDoorCd
import Derived.Test.YtimcmnnfpomnbaaGreatDoorBw
import Derived.Test.YtimcmnnfpomnbaaGreatDoorBl
import Derived.Test.YtimcmnnfpomnbaaGreatDoorBx
import Derived.Deep.QuietTactic
import Derived.BigQuiet
import Derived.Test.YtimcmnnfpomnbaaGreatDoorCe
import Derived.Outline
namespace Go.Proofs.YtimcmnnfpomnbaaGreatDoor
set_option maxRecDepth 100000
open Go.RowKit
def sameC : CT → CT → Bool
  | .empty, .empty => true
  | .set m, .set m' => eqB m m'
  | .cat a b, .cat c d => sameC a c && sameC b d
  | .alt a b, .alt c d => sameC a c && sameC b d
  | .star z a, .star y c => z == y && sameC a c
  | _, _ => false
theorem flR_apart : ∀ (R R' : List (Int × Int)) (r r' : List UInt8), InB R → InB R' → flR R ++ r = flR R' ++ r' → R = R' ∧ r = r'
  | [], [], r, r', _, _, h => by
    injection h with _ h
    exact ⟨rfl, h⟩
  | [], p :: R', r, r', _, h', he => by
    obtain ⟨a, b, rfl, ha, hb⟩ := h' p (by simp)
    obtain ⟨c, x, h1, -, -, -, h5, -⟩ := bL_head ha
    rw [flR_cons, h1] at he
    injection he with e1 e2
    exact absurd e1.symm h5
  | p :: R, [], r, r', h, _, he => by
    obtain ⟨a, b, rfl, ha, hb⟩ := h p (by simp)
    obtain ⟨c, x, h1, -, -, -, h5, -⟩ := bL_head ha
    rw [flR_cons, h1] at he
    injection he with e1 e2
    exact absurd e1 h5
  | p :: R, q :: R', r, r', h, h', he => by
    have hR : InB R := fun x hx => h x (by simp [hx])
    have hR' : InB R' := fun x hx => h' x (by simp [hx])
    obtain ⟨a, b, rfl, ha, hb⟩ := h p (by simp)
    obtain ⟨c, d, rfl, hc, hd⟩ := h' q (by simp)
    rw [flR_cons, flR_cons] at he
    simp only [List.append_assoc] at he
    obtain ⟨rfl, he2⟩ := bL_apart ha hc he
    by_cases e1 : a = b
    · by_cases e2 : a = d
      · rw [if_pos e1, if_pos e2] at he2
        obtain ⟨e3, e4⟩ := flR_apart R R' r r' hR hR' he2
        rw [e3, ← e1, ← e2]
        exact ⟨rfl, e4⟩
      · rw [if_pos e1, if_neg e2] at he2
        obtain ⟨x, y, h1, h2, -⟩ := flR_head hR
        rw [List.nil_append, h1] at he2
        injection he2 with e3 e4
        exact absurd e3 h2
    · by_cases e2 : a = d
      · rw [if_neg e1, if_pos e2] at he2
        obtain ⟨x, y, h1, h2, -⟩ := flR_head hR'
        rw [List.nil_append, h1] at he2
        injection he2 with e3 e4
        exact absurd e3.symm h2
      · rw [if_neg e1, if_neg e2] at he2
        injection he2 with e3 e4
        obtain ⟨rfl, he5⟩ := bL_apart hb hd e4
        obtain ⟨e6, e7⟩ := flR_apart R R' r r' hR hR' he5
        rw [e6]
        exact ⟨rfl, e7⟩
theorem tag_app {l : List UInt8} (r : List UInt8) (h : 2 ≤ l.length) : tagL (l ++ r) = tagL l := by
  obtain ⟨a, b, l, rfl⟩ : ∃ a b l', l = a :: b :: l' := by
    match l, h with
    | a :: b :: l, _ => exact ⟨a, b, l, rfl⟩
  rw [List.cons_append, List.cons_append]
  by_cases h1 : a = 91
  · subst h1
    by_cases h2 : b = 94
    · subst h2
      rfl
    · unfold tagL
      simp [h2]
  · by_cases h2 : a = 46
    · subst h2
      rfl
    · unfold tagL
      simp [h1, h2]
theorem tag_byte' {b : Nat} (hb : b < 256) (r : List UInt8) : tagL (bL b ++ r) = 2 := by
  obtain ⟨c, x, h1, h2, h3, h4, h5, h6⟩ := bL_head hb
  rw [h1, List.cons_append]
  unfold tagL
  split <;> simp_all
theorem tag_class' {R : List (Int × Int)} (h : InB R) (r : List UInt8) : tagL (91 :: flR R ++ r) = 3 := by
  obtain ⟨c, x, h1, h2, h3⟩ := flR_head h
  rw [h1, List.cons_append, List.cons_append]
  unfold tagL
  split <;> simp_all
theorem set_apart {m m' : Nat → Bool} {r r' : List UInt8} (he : sL m ++ r = sL m' ++ r') : eqB m m' = true ∧ r = r' := by
  have ht : tagL (sL m ++ r) = tagL (sL m' ++ r') := by rw [he]
  have hin : ∀ q : Nat → Bool, InB (runsM (listM q 256)) := fun q => (runs_in q).2
  have t0 : ∀ x, tagL (nothingB.data.toList ++ x) = 0 := fun x => by rw [tag_app x (by decide)]; decide
  have t1 : ∀ x : List UInt8, tagL ([46] ++ x) = 1 := fun x => rfl
  rcases set_form m with ⟨f, e⟩ | ⟨f, e⟩ | ⟨b, f, hb, hc, e⟩ | e <;> rcases set_form m' with ⟨f', e'⟩ | ⟨f', e'⟩ | ⟨b', f', hb', hc', e'⟩ | e' <;> rw [e, e'] at ht <;> (try simp (disch := assumption) only [t0, t1, tag_byte', tag_class' (hin _), reduceCtorEq, Nat.reduceEqDiff] at ht) <;> rw [e, e'] at he
  · exact ⟨none_all f f', List.append_cancel_left he⟩
  · exact ⟨eqB_true fun x hx => by rw [(eqB_iff _ _).1 f x hx, (eqB_iff _ _).1 f' x hx], List.append_cancel_left he⟩
  · obtain ⟨rfl, h2⟩ := bL_apart hb hb' he
    exact ⟨eqB_mem fun x => by rw [one_list f hc, one_list f' hc'], h2⟩
  · injection he with e1 e2
    obtain ⟨e3, e4⟩ := flR_apart _ _ _ _ (hin m) (hin m') e2
    exact ⟨runs_tell e3, e4⟩
/-- What no set's text begins with. -/
def noHead : List UInt8 := [40, 41, 63, 123, 124, 125]
theorem bL_mark : ∀ b : Fin 256, (match bL b.val with | c :: _ => !noHead.contains c | [] => false) = true := by decide
theorem set_head (m : Nat → Bool) : ∃ c r, sL m = c :: r ∧ noHead.contains c = false := by
  rcases set_form m with ⟨f, e⟩ | ⟨f, e⟩ | ⟨b, f, hb, hc, e⟩ | e
  · exact ⟨91, _, e, by decide⟩
  · exact ⟨46, _, e, by decide⟩
  · have h := bL_mark ⟨b, hb⟩
    rw [e]
    simp only [] at h
    cases hl : bL b with
    | nil => rw [hl] at h; cases h
    | cons c r => rw [hl] at h; exact ⟨c, r, rfl, by simpa using h⟩
  · exact ⟨91, _, e, by decide⟩
abbrev tL (c : CT) : List UInt8 := (textC c).data.toList
theorem tL_empty : tL .empty = [40, 41] := rfl
theorem tL_set (m : Nat → Bool) : tL (.set m) = sL m := rfl
theorem tL_cat (a b : CT) : tL (.cat a b) = 40 :: (tL a ++ (tL b ++ [41])) := by
  simp only [tL, textC, ByteArray.data_append, Array.toList_append]
  simp
theorem tL_alt (a b : CT) : tL (.alt a b) = 40 :: (tL a ++ 124 :: (tL b ++ [41])) := by
  simp only [tL, textC, ByteArray.data_append, Array.toList_append]
  simp
theorem tL_star (z : Bool) (a : CT) : tL (.star z a) = 123 :: (tL a ++ (if z then [125, 63] else [125])) := by
  cases z <;> simp only [tL, textC, Bool.false_eq_true, if_false, if_true, ByteArray.data_append, Array.toList_append] <;> simp
theorem tL_head (c : CT) : ∃ x r, tL c = x :: r ∧ x ≠ 41 ∧ x ≠ 63 ∧ x ≠ 124 ∧ x ≠ 125 := by
  cases c with
  | empty => exact ⟨40, _, tL_empty, by decide, by decide, by decide, by decide⟩
  | set m =>
    obtain ⟨x, r, h1, h2⟩ := set_head m
    refine ⟨x, r, h1, ?_, ?_, ?_, ?_⟩ <;> (intro e; subst e; cases h2)
  | cat a b => exact ⟨40, _, tL_cat a b, by decide, by decide, by decide, by decide⟩
  | alt a b => exact ⟨40, _, tL_alt a b, by decide, by decide, by decide, by decide⟩
  | star z a => exact ⟨123, _, tL_star z a, by decide, by decide, by decide, by decide⟩
def NQ (r : List UInt8) : Prop := ∀ x, r ≠ 63 :: x
theorem nq_head (c : CT) (r : List UInt8) : NQ (tL c ++ r) := by
  obtain ⟨x, y, h1, h2, h3, h4, h5⟩ := tL_head c
  intro z e
  rw [h1] at e
  injection e with e _
  exact h3 e
theorem nq_cons {c : UInt8} (h : c ≠ 63) (r : List UInt8) : NQ (c :: r) := fun x e => by injection e with e _; exact h e
theorem set_no (m : Nat → Bool) {c : UInt8} (hc : noHead.contains c = true) (r r' : List UInt8) : sL m ++ r ≠ c :: r' := by
  obtain ⟨x, y, h1, h2⟩ := set_head m
  intro e
  rw [h1] at e
  injection e with e _
  rw [e, hc] at h2
  cases h2
theorem head_no (c : CT) {x : UInt8} (hx : x = 41 ∨ x = 124 ∨ x = 125) (r r' : List UInt8) : tL c ++ r ≠ x :: r' := by
  obtain ⟨y, z, h1, h2, h3, h4, h5⟩ := tL_head c
  intro e
  rw [h1] at e
  injection e with e _
  rcases hx with rfl | rfl | rfl
  · exact h2 e
  · exact h4 e
  · exact h5 e
theorem text_apart (c : CT) : ∀ (c' : CT) (r r' : List UInt8), NQ r → NQ r' → tL c ++ r = tL c' ++ r' → sameC c c' = true ∧ r = r' := by
  induction c with
  | empty =>
    intro c' r r' hr hr' h
    rw [tL_empty] at h
    cases c' with
    | empty => rw [tL_empty] at h; exact ⟨rfl, List.append_cancel_left h⟩
    | set m => rw [tL_set] at h; exact absurd h.symm (set_no m (by decide) _ _)
    | cat a b =>
      rw [tL_cat] at h
      simp only [List.cons_append, List.append_assoc, List.nil_append] at h
      injection h with _ h
      exact absurd h.symm (head_no a (.inl rfl) _ _)
    | alt a b =>
      rw [tL_alt] at h
      simp only [List.cons_append, List.append_assoc, List.nil_append] at h
      injection h with _ h
      exact absurd h.symm (head_no a (.inl rfl) _ _)
    | star z a => rw [tL_star] at h; injection h with h _; exact absurd h (by decide)
  | set m =>
    intro c' r r' hr hr' h
    rw [tL_set] at h
    cases c' with
    | empty => rw [tL_empty] at h; exact absurd h (set_no m (by decide) _ _)
    | set m' => rw [tL_set] at h; exact set_apart h
    | cat a b => rw [tL_cat] at h; exact absurd h (set_no m (by decide) _ _)
    | alt a b => rw [tL_alt] at h; exact absurd h (set_no m (by decide) _ _)
    | star z a => rw [tL_star] at h; exact absurd h (set_no m (by decide) _ _)
  | cat a b iha ihb =>
    intro c' r r' hr hr' h
    rw [tL_cat] at h
    simp only [List.cons_append, List.append_assoc, List.nil_append] at h
    cases c' with
    | empty =>
      rw [tL_empty] at h
      injection h with _ h
      exact absurd h (head_no a (.inl rfl) _ _)
    | set m => rw [tL_set] at h; exact absurd h.symm (set_no m (by decide) _ _)
    | cat a' b' =>
      rw [tL_cat] at h
      simp only [List.cons_append, List.append_assoc, List.nil_append] at h
      injection h with _ h
      obtain ⟨h1, h2⟩ := iha a' _ _ (nq_head b _) (nq_head b' _) h
      obtain ⟨h3, h4⟩ := ihb b' _ _ (nq_cons (by decide) _) (nq_cons (by decide) _) h2
      injection h4 with _ h4
      exact ⟨by simp [sameC, h1, h3], h4⟩
    | alt a' b' =>
      rw [tL_alt] at h
      simp only [List.cons_append, List.append_assoc, List.nil_append] at h
      injection h with _ h
      obtain ⟨h1, h2⟩ := iha a' _ _ (nq_head b _) (nq_cons (by decide) _) h
      exact absurd h2 (head_no b (.inr (.inl rfl)) _ _)
    | star z a' => rw [tL_star] at h; injection h with h _; exact absurd h (by decide)
  | alt a b iha ihb =>
    intro c' r r' hr hr' h
    rw [tL_alt] at h
    simp only [List.cons_append, List.append_assoc, List.nil_append] at h
    cases c' with
    | empty =>
      rw [tL_empty] at h
      injection h with _ h
      exact absurd h (head_no a (.inl rfl) _ _)
    | set m => rw [tL_set] at h; exact absurd h.symm (set_no m (by decide) _ _)
    | cat a' b' =>
      rw [tL_cat] at h
      simp only [List.cons_append, List.append_assoc, List.nil_append] at h
      injection h with _ h
      obtain ⟨h1, h2⟩ := iha a' _ _ (nq_cons (by decide) _) (nq_head b' _) h
      exact absurd h2.symm (head_no b' (.inr (.inl rfl)) _ _)
    | alt a' b' =>
      rw [tL_alt] at h
      simp only [List.cons_append, List.append_assoc, List.nil_append] at h
      injection h with _ h
      obtain ⟨h1, h2⟩ := iha a' _ _ (nq_cons (by decide) _) (nq_cons (by decide) _) h
      injection h2 with _ h2
      obtain ⟨h3, h4⟩ := ihb b' _ _ (nq_cons (by decide) _) (nq_cons (by decide) _) h2
      injection h4 with _ h4
      exact ⟨by simp [sameC, h1, h3], h4⟩
    | star z a' => rw [tL_star] at h; injection h with h _; exact absurd h (by decide)
  | star z a iha =>
    intro c' r r' hr hr' h
    rw [tL_star] at h
    simp only [List.cons_append, List.append_assoc, List.nil_append] at h
    cases c' with
    | empty => rw [tL_empty] at h; injection h with h _; exact absurd h (by decide)
    | set m => rw [tL_set] at h; exact absurd h.symm (set_no m (by decide) _ _)
    | cat a' b' => rw [tL_cat] at h; injection h with h _; exact absurd h (by decide)
    | alt a' b' => rw [tL_alt] at h; injection h with h _; exact absurd h (by decide)
    | star y a' =>
      rw [tL_star] at h
      simp only [List.cons_append, List.append_assoc, List.nil_append] at h
      injection h with _ h
      have hn : ∀ (q : Bool) (s : List UInt8), NQ ((if q then [125, 63] else [125]) ++ s) := fun q s => by cases q <;> exact nq_cons (by decide) _
      obtain ⟨h1, h2⟩ := iha a' _ _ (hn z r) (hn y r') h
      cases z <;> cases y <;> simp only [Bool.false_eq_true, if_false, if_true, List.cons_append, List.nil_append, List.cons.injEq, true_and] at h2
      · exact ⟨by simp [sameC, h1], h2⟩
      · exact absurd h2 (hr _)
      · exact absurd h2.symm (hr' _)
      · exact ⟨by simp [sameC, h1], h2⟩
theorem text_tells {c c' : CT} (h : textC c = textC c') : sameC c c' = true := by
  have hn : NQ [] := fun x e => by cases e
  exact (text_apart c c' [] [] hn hn (by unfold tL; rw [h])).1
theorem listM_cong {m m' : Nat → Bool} (h : eqB m m' = true) : listM m 256 = listM m' 256 := by
  unfold listM
  rw [List.filter_congr (fun x hx => (eqB_iff m m').1 h x (List.mem_range.1 hx))]
theorem firstM_cong {m m' : Nat → Bool} (h : eqB m m' = true) : firstM m = firstM m' := by
  unfold firstM
  rw [← List.head?_filter, ← List.head?_filter, List.filter_congr (fun x hx => (eqB_iff m m').1 h x (List.mem_range.1 hx))]
theorem eqB_dot {m m' : Nat → Bool} (h : eqB m m' = true) : eqB m dotM = eqB m' dotM := by
  rw [Bool.eq_iff_iff, eqB_iff, eqB_iff]
  have h' := (eqB_iff m m').1 h
  exact ⟨fun g x hx => (h' x hx).symm.trans (g x hx), fun g x hx => (h' x hx).trans (g x hx)⟩
theorem setS_cong {m m' : Nat → Bool} (h : eqB m m' = true) : setS m = setS m' := by
  unfold setS
  rw [firstM_cong h, eqB_dot h, ← cnt_listM m, ← cnt_listM m', listM_cong h]
  unfold classS classL
  rw [listM_cong h]
theorem same_text (c : CT) : ∀ c' : CT, sameC c c' = true → textC c = textC c' := by
  induction c with
  | empty => intro c' h; cases c' <;> first | rfl | cases h
  | set m => intro c' h; cases c' <;> first | exact setS_cong h | cases h
  | cat a b iha ihb =>
    intro c' h
    cases c' <;> first | (cases h; done) | skip
    simp only [sameC, Bool.and_eq_true] at h
    simp only [textC, iha _ h.1, ihb _ h.2]
  | alt a b iha ihb =>
    intro c' h
    cases c' <;> first | (cases h; done) | skip
    simp only [sameC, Bool.and_eq_true] at h
    simp only [textC, iha _ h.1, ihb _ h.2]
  | star z a iha =>
    intro c' h
    cases c' <;> first | (cases h; done) | skip
    simp only [sameC, Bool.and_eq_true, beq_iff_eq] at h
    simp only [textC, iha _ h.2, h.1]
theorem text_same (c c' : CT) : (textC c = textC c') ↔ sameC c c' = true := ⟨text_tells, same_text c c'⟩
end Go.Proofs.YtimcmnnfpomnbaaGreatDoor
/- core.Same, of two cores. -/
namespace Go.Proofs.YtimcmnnfpomnbaaGreatDoor
set_option maxRecDepth 100000
open Go.RowKit
attribute [local go_sem] eq_words eqB_words eqB_zero
set_option maxHeartbeats 8000000 in
theorem csame_node {w : World} {b b' : Nat} {k k' : Int} {m m' : Nat → Bool} {z z' x y : Bool} {oa ob oa' ob' : Option Addr}
    (hb : Blk w b 146 (coreV k m z (.pointer oa) (.pointer ob))) (hb' : Blk w b' 146 (coreV k' m' z' (.pointer oa') (.pointer ob')))
    (hx : k = k' → ∀ q, Calls Tryz.prog 30 #[.pointer oa, .pointer oa'] (w.drewN q) fun v w' => v = .returned (.bool x) ∧ ∃ n, w' = (w.drewN q).drewN n)
    (hy : k = k' → ∀ q, Calls Tryz.prog 30 #[.pointer ob, .pointer ob'] (w.drewN q) fun v w' => v = .returned (.bool y) ∧ ∃ n, w' = (w.drewN q).drewN n) :
    Calls Tryz.prog 30 #[cptr b, cptr b'] w fun v w' => v = .returned (.bool (k == k' && (eqB m m' && (z == z' && (x && y))))) ∧ ∃ n, w' = w.drewN n := by
  have HX := Lib.hid hx
  have HY := Lib.hid hy
  have a0 := hb.cell 0
  have b0 := hb'.cell 0
  have a1 := hb.cell 1
  have b1 := hb'.cell 1
  have a2 := hb.cell 2
  have b2 := hb'.cell 2
  have a3 := hb.cell 3
  have b3 := hb'.cell 3
  have a4 := hb.cell 4
  have b4 := hb'.cell 4
  have a5 := hb.cell 5
  have b5 := hb'.cell 5
  have a6 := hb.cell 6
  have b6 := hb'.cell 6
  have a7 := hb.cell 7
  have b7 := hb'.cell 7
  simp only [coreV, List.getElem?_cons_zero, List.getElem?_cons_succ] at a0 a1 a2 a3 a4 a5 a6 a7 b0 b1 b2 b3 b4 b5 b6 b7
  have hlt := hb.lt
  have hlt' := hb'.lt
  clear hb hb' hx hy
  obtain ⟨r, hr⟩ : ∃ r, (k == k' && (eqB m m' && (z == z' && (x && y)))) = r := ⟨_, rfl⟩
  rw [hr]
  have HR := Lib.hid hr
  clear hr
  go_enter Tryz.func30, Tryz.ntmps30
  go_wp2_with fail
  cases e1 : (k == k') with
  | false =>
    have HF := Lib.hid (show r = false by rw [← HR.out, e1]; rfl)
    go_quiet (fail)
    go_wp2
    go_returns
    exact ⟨by rw [HF.out]; rfl, _, rfl⟩
  | true =>
    have HE1 := Lib.hid e1
    cases e2 : eqB m m' with
    | false =>
      have HF := Lib.hid (show r = false by rw [← HR.out, HE1.out, e2]; rfl)
      go_quiet (fail)
      go_wp2
      go_returns
      exact ⟨by rw [HF.out]; rfl, _, rfl⟩
    | true =>
      have HE2 := Lib.hid e2
      cases e3 : (z == z') with
      | false =>
        have HF := Lib.hid (show r = false by rw [← HR.out, HE1.out, HE2.out, e3]; rfl)
        have hzz : (z = true ∧ z' = false) ∨ (z = false ∧ z' = true) := by
          revert e3
          cases z <;> cases z' <;> simp
        clear e3
        rcases hzz with ⟨rfl, rfl⟩ | ⟨rfl, rfl⟩
        · go_quiet (fail)
          go_wp2
          go_returns
          exact ⟨by rw [HF.out]; rfl, _, rfl⟩
        · go_quiet (fail)
          go_wp2
          go_returns
          exact ⟨by rw [HF.out]; rfl, _, rfl⟩
      | true =>
        obtain rfl : z = z' := eq_of_beq e3
        have hk : k = k' := eq_of_beq HE1.out
        have HX1 := Lib.hid (HX.out hk)
        have HY1 := Lib.hid (HY.out hk)
        have hzz : (z == z) = true := by simp
        clear hk HX HY e3
        cases x with
        | false =>
          have HF := Lib.hid (show r = false by rw [← HR.out, HE1.out, HE2.out, hzz]; rfl)
          go_quiet ((go_at_call 30; with_reducible exact Calls.quiet_of (HX1.out _)))
          go_wp2
          go_returns
          exact ⟨by rw [HF.out]; rfl, _, rfl⟩
        | true =>
          have HF := Lib.hid (show r = y by rw [← HR.out, HE1.out, HE2.out, hzz]; rfl)
          go_quiet ((go_at_call 30; first | with_reducible exact Calls.quiet_of (HX1.out _) | with_reducible exact Calls.quiet_of (HY1.out _)))
          go_wp2
          go_returns
          exact ⟨by rw [HF.out]; rfl, _, rfl⟩
theorem csame_nil' (w : World) (q : Nat) : Calls Tryz.prog 30 #[.pointer none, .pointer none] (w.drewN q) fun v w' => v = .returned (.bool true) ∧ ∃ n, w' = (w.drewN q).drewN n :=
  (csame_nil _).mono fun v w' ⟨h1, h2⟩ => ⟨h1, 0, by rw [h2]; rfl⟩
theorem eqB_no0 (m : Nat → Bool) : eqB m m = true := (eqB_iff _ _).2 fun _ _ => rfl
def CT.data (w : World) (S : Nat → Prop) (b : Nat) (c : CT) : Prop := CoreAt w S c b
/-- A core's node, as it lies, with what its parts' comparison gives. -/
theorem csame_at (c : CT) : ∀ (c' : CT) {w : World} {S S' : Nat → Prop} {b b' : Nat}, CoreAt w S c b → CoreAt w S' c' b' →
    Calls Tryz.prog 30 #[cptr b, cptr b'] w fun v w' => v = .returned (.bool (sameC c c')) ∧ ∃ n, w' = w.drewN n := by
  have hdr : ∀ {w : World} {S : Nat → Prop} {c : CT} {b : Nat} (q : Nat), CoreAt w S c b → CoreAt (w.drewN q) S c b := fun q h => h.under (below_drewN (Below.refl _ _) q)
  have far : ∀ {w : World} {k k' : Int} {m m' : Nat → Bool} {z z' : Bool} {oa ob oa' ob' : Option Addr} {b b' : Nat}, Blk w b 146 (coreV k m z (.pointer oa) (.pointer ob)) → Blk w b' 146 (coreV k' m' z' (.pointer oa') (.pointer ob')) → k ≠ k' →
      Calls Tryz.prog 30 #[cptr b, cptr b'] w fun v w' => v = .returned (.bool false) ∧ ∃ n, w' = w.drewN n := by
    intro w k k' m m' z z' oa ob oa' ob' b b' h h' hk
    refine (csame_node (x := true) (y := true) h h' (fun e => absurd e hk) (fun e => absurd e hk)).mono fun v w' ⟨h1, h2⟩ => ⟨?_, h2⟩
    rw [h1, beq_eq_false_iff_ne.2 hk]
    rfl
  induction c with
  | empty =>
    intro c' w S S' b b' h h'
    cases c' with
    | empty => exact (csame_node (x := true) (y := true) h.2 h'.2 (fun _ q => csame_nil' w q) (fun _ q => csame_nil' w q)).mono fun v w' ⟨h1, h2⟩ => ⟨by rw [h1]; rfl, h2⟩
    | set m => exact far h.2 h'.2 (by decide)
    | cat x y => obtain ⟨_, p, q, g, _⟩ := h'; exact far h.2 g (by decide)
    | alt x y => obtain ⟨_, p, q, g, _⟩ := h'; exact far h.2 g (by decide)
    | star z x => obtain ⟨_, p, g, _⟩ := h'; exact far h.2 g (by decide)
  | set m =>
    intro c' w S S' b b' h h'
    cases c' with
    | empty => exact far h.2 h'.2 (by decide)
    | set m' => exact (csame_node (x := true) (y := true) h.2 h'.2 (fun _ q => csame_nil' w q) (fun _ q => csame_nil' w q)).mono fun v w' ⟨h1, h2⟩ => ⟨by rw [h1]; simp [sameC], h2⟩
    | cat x y => obtain ⟨_, p, q, g, _⟩ := h'; exact far h.2 g (by decide)
    | alt x y => obtain ⟨_, p, q, g, _⟩ := h'; exact far h.2 g (by decide)
    | star z x => obtain ⟨_, p, g, _⟩ := h'; exact far h.2 g (by decide)
  | cat x y ihx ihy =>
    intro c' w S S' b b' h h'
    obtain ⟨_, p, q, g, hp, hq⟩ := h
    cases c' with
    | empty => exact far g h'.2 (by decide)
    | set m' => exact far g h'.2 (by decide)
    | alt x' y' => obtain ⟨_, p', q', g', _⟩ := h'; exact far g g' (by decide)
    | cat x' y' =>
      obtain ⟨_, p', q', g', hp', hq'⟩ := h'
      refine (csame_node (x := sameC x x') (y := sameC y y') g g' (fun _ n => ihx x' (hdr n hp) (hdr n hp')) (fun _ n => ihy y' (hdr n hq) (hdr n hq'))).mono fun v w' ⟨h1, h2⟩ => ⟨?_, h2⟩
      rw [h1, eqB_no0]
      rfl
    | star z x' => obtain ⟨_, p', g', _⟩ := h'; exact far g g' (by decide)
  | alt x y ihx ihy =>
    intro c' w S S' b b' h h'
    obtain ⟨_, p, q, g, hp, hq⟩ := h
    cases c' with
    | empty => exact far g h'.2 (by decide)
    | set m' => exact far g h'.2 (by decide)
    | cat x' y' => obtain ⟨_, p', q', g', _⟩ := h'; exact far g g' (by decide)
    | alt x' y' =>
      obtain ⟨_, p', q', g', hp', hq'⟩ := h'
      refine (csame_node (x := sameC x x') (y := sameC y y') g g' (fun _ n => ihx x' (hdr n hp) (hdr n hp')) (fun _ n => ihy y' (hdr n hq) (hdr n hq'))).mono fun v w' ⟨h1, h2⟩ => ⟨?_, h2⟩
      rw [h1, eqB_no0]
      rfl
    | star z x' => obtain ⟨_, p', g', _⟩ := h'; exact far g g' (by decide)
  | star z x ihx =>
    intro c' w S S' b b' h h'
    obtain ⟨_, p, g, hp⟩ := h
    cases c' with
    | empty => exact far g h'.2 (by decide)
    | set m' => exact far g h'.2 (by decide)
    | cat x' y' => obtain ⟨_, p', q', g', _⟩ := h'; exact far g g' (by decide)
    | alt x' y' => obtain ⟨_, p', q', g', _⟩ := h'; exact far g g' (by decide)
    | star z' x' =>
      obtain ⟨_, p', g', hp'⟩ := h'
      refine (csame_node (x := sameC x x') (y := true) g g' (fun _ n => ihx x' (hdr n hp) (hdr n hp')) (fun _ n => csame_nil' w n)).mono fun v w' ⟨h1, h2⟩ => ⟨?_, h2⟩
      rw [h1, eqB_no0]
      simp [sameC]
end Go.Proofs.YtimcmnnfpomnbaaGreatDoor
/- CoreSame: the walk, and the law. -/
namespace Go.Proofs.YtimcmnnfpomnbaaGreatDoor
set_option maxRecDepth 100000
open Go.RowKit
/-- What comes of a pattern, by mode. -/
inductive Out where
  | no (e : Nat)
  | yes (c : CT)
def coreO (s : ByteArray) (mode : Int) : Out := match parseB s with
  | .err _ e => .no e
  | .ok n _ => if 4096 < sizeM n mode then .no 3 else .yes (wrapC mode (coreT n))
def OutIs (w w' : World) (x : Out) (o : Option Addr) (e : Nat) : Prop := match x with
  | .no k => o = none ∧ e = k ∧ e ≠ 0
  | .yes t => e = 0 ∧ ∃ c, o = some ⟨c, 0, none⟩ ∧ CoreAt w' (From w) t c
theorem cparse_out (s : ByteArray) (mode : Int) (hm : 0 ≤ mode ∧ mode < 4) (w : World) (hT : TabOk w) :
    Calls Tryz.prog 34 #[.string s, .int .i64 mode] w fun v w' => ∃ o p e, v = .returned (.tuple #[.pointer o, .int .i64 ((p : Nat) : Int), .int .i64 ((e : Nat) : Int)]) ∧ OutIs w w' (coreO s mode) o e ∧ Below w.heap.size w w' := by
  refine (cparse_at s mode w hT).mono ?_
  rintro v w' ⟨h, hb⟩
  unfold CoreIs at h
  rw [if_pos hm] at h
  unfold coreO
  cases hp : parseB s with
  | err p e =>
    rw [hp] at h
    exact ⟨none, p, e, h.1, ⟨rfl, rfl, h.2⟩, hb⟩
  | ok n j =>
    rw [hp] at h
    simp only [] at h ⊢
    by_cases hz : 4096 < sizeM n mode
    · rw [if_pos hz] at h ⊢
      exact ⟨none, 0, 3, h, ⟨rfl, rfl, by decide⟩, hb⟩
    · rw [if_neg hz] at h ⊢
      obtain ⟨c, h1, h2⟩ := h
      exact ⟨some ⟨c, 0, none⟩, 0, 0, h1, ⟨rfl, c, rfl, h2⟩, hb⟩
theorem parseB_eq {s : ByteArray} (h : s.size ≤ 1048576) : parseB s = parseM s := by unfold parseB; rw [if_neg (by omega)]
/-- One more group: the same core. -/
theorem out_grp {s : ByteArray} {n : Tree} {j : Nat} {t : CT} {mode : Int} (hs : s.size ≤ 100) (hp : parseB s = .ok n j) (hd : deepT n < 200) (h : coreO s mode = .yes t) : coreO (grpB8 s) mode = .yes t := by
  have hp' := hp
  rw [parseB_eq (by omega)] at hp'
  obtain ⟨g, k, h1, h2, h3⟩ := parse_grp hp' hd
  have e1 : ({ data := #[40] } : ByteArray).size = 1 := rfl
  have e2 : ({ data := #[41] } : ByteArray).size = 1 := rfl
  have hg : parseB (grpB8 s) = .ok g k := by rw [parseB_eq (by unfold grpB8; simp only [ByteArray.size_append]; omega), h1]
  unfold coreO at h ⊢
  rw [hp] at h
  rw [hg]
  simp only [sizeM, h2, h3] at h ⊢
  exact h
theorem out_yes {s : ByteArray} {t : CT} {mode : Int} (h : coreO s mode = .yes t) (hm : 0 ≤ mode ∧ mode < 4) : (∃ n j, parseB s = .ok n j) ∧ (textC t).size ≤ 1000000000 := by
  unfold coreO at h
  cases hp : parseB s with
  | err p e => rw [hp] at h; cases h
  | ok n j =>
    rw [hp] at h
    simp only [] at h
    refine ⟨⟨n, j, rfl⟩, ?_⟩
    by_cases hz : 4096 < sizeM n mode
    · rw [if_pos hz] at h; cases h
    · rw [if_neg hz] at h
      injection h with h
      have hok := parseB_ok hp
      have h1 := measure_size hok.fit hz hm
      rw [h] at h1
      have h2 := text_size t
      omega
set_option maxHeartbeats 2000000 in
theorem syntaxOf_at {s : ByteArray} {n : Tree} {j : Nat} (hp : parseB s = .ok n j) (w : World) (hT : TabOk w) :
    Calls Tryz.prog 35 #[.string s] w fun v w' => v = .returned (.bool (decide (deepT n < 200))) ∧ Below w.heap.size w w' := by
  have HD := Lib.hid (parseB_ok hp).deep
  obtain ⟨d, hdd⟩ : ∃ d, deepT n = d := ⟨_, rfl⟩
  have HDD := Lib.hid hdd
  rw [hdd]
  clear hdd
  have HS := Lib.hid (sparse_at s w hT)
  unfold ParseIs at HS
  rw [hp] at HS
  clear hp hT
  go_enter Tryz.func35, Tryz.ntmps35
  go_wp2_with fail
  refine HS.out.mono ?_
  rintro v w1 ⟨⟨b, rfl, ht⟩, hb⟩
  have HX := Lib.hid (deep_at ht (Nat.le_trans HD.out (by omega)))
  rw [HDD.out] at HX
  clear ht
  by_cases hd : d < 200
  · have hd1 : decide (((d : Nat) : Int) < 200) = true := decide_eq_true (by omega)
    have HF := Lib.hid (show decide (d < 200) = true from decide_eq_true hd)
    clear hd
    go_wp2_with fail
    refine HX.out.mono ?_
    rintro v w2 ⟨rfl, rfl⟩
    go_wp2
    go_returns
    exact ⟨by rw [HF.out]; rfl, hb⟩
  · have hd1 : decide (((d : Nat) : Int) < 200) = false := decide_eq_false (by omega)
    have HF := Lib.hid (show decide (d < 200) = false from decide_eq_false hd)
    clear hd
    go_wp2_with fail
    refine HX.out.mono ?_
    rintro v w2 ⟨rfl, rfl⟩
    go_wp2
    go_returns
    exact ⟨by rw [HF.out]; rfl, hb⟩
theorem sameC_self : ∀ c : CT, sameC c c = true
  | .empty => rfl
  | .set m => eqB_no0 m
  | .cat a b => by simp [sameC, sameC_self a, sameC_self b]
  | .alt a b => by simp [sameC, sameC_self a, sameC_self b]
  | .star z a => by simp [sameC, sameC_self a]
/-- a yes, b yes: what is left of the law. -/
def LawAt (p q : ByteArray) (m : Nat) (w : World) : Prop := Calls Tryz.prog 8 #[.string p, .string q, .int .u8 ((m : Nat) : Int)] w fun e w' => e = .returned (.bool true) ∧ Below w.heap.size w w'
set_option maxHeartbeats 4000000 in
theorem law_long (p q : ByteArray) (m : Nat) (w : World) (hT : TabOk w) (h : 100 < p.size ∨ 100 < q.size) : LawAt p q m w := by
  unfold LawAt
  by_cases h1 : 100 < p.size
  · go_enter Tryz.func8, Tryz.ntmps8
    go_wp2_with fail
    refine (awake08_at w hT).mono ?_
    rintro v w1 ⟨rfl, hb⟩
    go_wp2
    go_returns
    exact ⟨rfl, hb⟩
  · have h2 : 100 < q.size := by omega
    clear h
    go_enter Tryz.func8, Tryz.ntmps8
    go_wp2_with fail
    refine (awake08_at w hT).mono ?_
    rintro v w1 ⟨rfl, hb⟩
    go_wp2
    go_returns
    exact ⟨rfl, hb⟩
set_option maxHeartbeats 8000000 in
theorem law_short (p q : ByteArray) (m : Nat) (w : World) (hT : TabOk w) (hm : m < 256) (hp : ¬100 < p.size) (hq : ¬100 < q.size) : LawAt p q m w := by
  unfold LawAt
  have hk0 : 0 ≤ ((m : Nat) : Int) % 4 := by omega
  have hk1 : ((m : Nat) : Int) % 4 < 4 := by omega
  have HT := Lib.hid hT
  have HA := Lib.hid (fun W (hW : Below w.heap.size w W) => awake08_at W (hT.below hW))
  have HP := Lib.hid (fun s W (hW : Below w.heap.size w W) => cparse_out s (((m : Nat) : Int) % 4) ⟨hk0, hk1⟩ W (hT.below hW))
  have HG := Lib.hid (fun n j t => @out_grp p n j t (((m : Nat) : Int) % 4) (by omega))
  have HY := Lib.hid (fun s t (h : coreO s (((m : Nat) : Int) % 4) = .yes t) => out_yes h ⟨hk0, hk1⟩)
  have n1 : ¬9223372036854775807 < 1 + p.size := by omega
  have n2 : ¬9223372036854775807 < 1 + p.size + 1 := by omega
  clear hT
  go_enter Tryz.func8, Tryz.ntmps8
  go_wp2_with fail
  refine (HP.out p w (Below.refl _ w)).mono ?_
  rintro v w1 ⟨o1, p1, e1, rfl, ho1, hb1⟩
  have HO1 := Lib.hid ho1
  have HB1 := Lib.hid hb1
  clear ho1 hb1
  go_wp2_with fail
  refine (HP.out q w1 HB1.out).mono ?_
  rintro v w2 ⟨o2, p2, e2, rfl, ho2, hb2⟩
  have HO2 := Lib.hid ho2
  have HB2 := Lib.hid (HB1.out.trans (hb2.mono HB1.out.size))
  have HB12 := Lib.hid hb2
  clear ho2 hb2
  go_wp2_with fail
  refine (HP.out (grpB8 p) w2 HB2.out).mono ?_
  rintro v w3 ⟨o3, p3, e3, rfl, ho3, hb3⟩
  have HO3 := Lib.hid ho3
  have HB3 := Lib.hid (HB2.out.trans (hb3.mono HB2.out.size))
  have HB23 := Lib.hid hb3
  clear ho3 hb3
  cases h1 : coreO p (((m : Nat) : Int) % 4) with
  | no k1 =>
    rw [h1] at HO1
    obtain ⟨rfl, -, ne1⟩ := HO1.out
    have z1 : (((e1 : Nat) : Int) == 0) = false := by rw [beq_eq_false_iff_ne]; omega
    have z1' : (((e1 : Nat) : Int) != 0) = true := by rw [bne_iff_ne]; omega
    have H1 := Lib.hid h1
    clear h1 ne1 HO1
    cases h2 : coreO q (((m : Nat) : Int) % 4) with
    | no k2 =>
      rw [h2] at HO2
      obtain ⟨rfl, -, ne2⟩ := HO2.out
      have z2 : (((e2 : Nat) : Int) == 0) = false := by rw [beq_eq_false_iff_ne]; omega
      have z2' : (((e2 : Nat) : Int) != 0) = true := by rw [bne_iff_ne]; omega
      clear h2 ne2 HO2
      go_wp2_with fail
      refine (HA.out w3 HB3.out).mono ?_
      rintro v w4 ⟨rfl, hb4⟩
      go_wp2
      go_returns
      exact ⟨rfl, HB3.out.trans (hb4.mono HB3.out.size)⟩
    | yes t2 =>
      rw [h2] at HO2
      obtain ⟨rfl, c2, rfl, -⟩ := HO2.out
      clear h2 HO2
      go_wp2_with fail
      refine (HA.out w3 HB3.out).mono ?_
      rintro v w4 ⟨rfl, hb4⟩
      go_wp2
      go_returns
      exact ⟨rfl, HB3.out.trans (hb4.mono HB3.out.size)⟩
  | yes t1 =>
    rw [h1] at HO1
    obtain ⟨rfl, c1, rfl, hc1⟩ := HO1.out
    have H1 := Lib.hid h1
    clear h1 HO1
    cases h2 : coreO q (((m : Nat) : Int) % 4) with
    | no k2 =>
      rw [h2] at HO2
      obtain ⟨rfl, -, ne2⟩ := HO2.out
      have z2 : (((e2 : Nat) : Int) == 0) = false := by rw [beq_eq_false_iff_ne]; omega
      have z2' : (((e2 : Nat) : Int) != 0) = true := by rw [bne_iff_ne]; omega
      clear h2 ne2 HO2
      go_wp2_with fail
      refine (HA.out w3 HB3.out).mono ?_
      rintro v w4 ⟨rfl, hb4⟩
      go_wp2
      go_returns
      exact ⟨rfl, HB3.out.trans (hb4.mono HB3.out.size)⟩
    | yes t2 =>
      rw [h2] at HO2
      obtain ⟨rfl, c2, rfl, hc2⟩ := HO2.out
      obtain ⟨⟨n, j, hpn⟩, hsz1⟩ := HY.out p t1 H1.out
      have hsz2 := (HY.out q t2 h2).2
      have hC1 := (hc1.under HB12.out).under HB23.out
      have hC2 := hc2.under HB23.out
      obtain ⟨z, hz⟩ : ∃ z, sameC t1 t2 = z := ⟨_, rfl⟩
      obtain ⟨S1, hS1⟩ : ∃ S, textC t1 = S := ⟨_, rfl⟩
      obtain ⟨S2, hS2⟩ : ∃ S, textC t2 = S := ⟨_, rfl⟩
      have hzz : (S1.toList == S2.toList) = z := by
        rw [← hS1, ← hS2, ← hz]
        cases hs : sameC t1 t2 with
        | true => rw [same_text t1 t2 hs]; exact beq_self_eq_true _
        | false => exact str_beq_ne fun e => by rw [text_tells e] at hs; cases hs
      have HS := Lib.hid (fun W (hW : Below w3.heap.size w3 W) => hz ▸ csame_at t1 t2 (hC1.under hW) (hC2.under hW) : ∀ W, Below w3.heap.size w3 W → Calls Tryz.prog 30 #[cptr c1, cptr c2] W fun v w' => v = .returned (.bool z) ∧ ∃ n, w' = W.drewN n)
      have HSS := Lib.hid (fun W (hW : Below w3.heap.size w3 W) => sameC_self t1 ▸ csame_at t1 t1 (hC1.under hW) (hC1.under hW) : ∀ W, Below w3.heap.size w3 W → Calls Tryz.prog 30 #[cptr c1, cptr c1] W fun v w' => v = .returned (.bool true) ∧ ∃ n, w' = W.drewN n)
      have HT1 := Lib.hid (fun W (hW : Below w3.heap.size w3 W) => hS1 ▸ text_at t1 (hC1.under hW) (fun m' _ => fun w hw => set_any m' w hw) (HT.out.below (HB3.out.trans (hW.mono HB3.out.size))) hsz1 : ∀ W, Below w3.heap.size w3 W → Calls Tryz.prog 32 #[cptr c1] W fun v w' => v = .returned (.string S1) ∧ Below W.heap.size W w')
      have HT2 := Lib.hid (fun W (hW : Below w3.heap.size w3 W) => hS2 ▸ text_at t2 (hC2.under hW) (fun m' _ => fun w hw => set_any m' w hw) (HT.out.below (HB3.out.trans (hW.mono HB3.out.size))) hsz2 : ∀ W, Below w3.heap.size w3 W → Calls Tryz.prog 32 #[cptr c2] W fun v w' => v = .returned (.string S2) ∧ Below W.heap.size W w')
      have HSY := Lib.hid (syntaxOf_at hpn w3 (HT.out.below HB3.out))
      have HC1 := Lib.hid hC1
      have HPN := Lib.hid hpn
      clear hc1 hc2 hC1 hC2 h2 HO2 hz hS1 hS2 hpn hsz1 hsz2
      by_cases hd : deepT n < 200
      · have hg := HG.out n j t1 HPN.out hd H1.out
        rw [hg] at HO3
        obtain ⟨rfl, c3, rfl, hc3⟩ := HO3.out
        rw [decide_eq_true hd] at HSY
        have HSG := Lib.hid (fun W (hW : Below w3.heap.size w3 W) => sameC_self t1 ▸ csame_at t1 t1 (HC1.out.under hW) (hc3.under hW) : ∀ W, Below w3.heap.size w3 W → Calls Tryz.prog 30 #[cptr c1, cptr c3] W fun v w' => v = .returned (.bool true) ∧ ∃ n, w' = W.drewN n)
        clear hg hd HO3 hc3
        go_wp2_with fail
        refine HSY.out.mono ?_
        rintro v w4 ⟨rfl, hb4⟩
        have HW4 := Lib.hid hb4
        clear hb4
        go_wp2_with fail
        refine (HSG.out w4 HW4.out).mono ?_
        rintro v w5 ⟨rfl, q5, hw5⟩
        have HW5 := Lib.hid (show Below w3.heap.size w3 w5 by rw [hw5]; exact below_drewN HW4.out q5)
        clear hw5
        go_wp2_with fail
        refine (HS.out w5 HW5.out).mono ?_
        rintro v w6 ⟨rfl, q6, hw6⟩
        have HW6 := Lib.hid (show Below w3.heap.size w3 w6 by rw [hw6]; exact below_drewN HW5.out q6)
        clear hw6
        go_wp2_with fail
        refine (HT1.out w6 HW6.out).mono ?_
        rintro v w7 ⟨rfl, hb7⟩
        have HW7 := Lib.hid (HW6.out.trans (hb7.mono HW6.out.size))
        clear hb7
        go_wp2_with fail
        refine (HT2.out w7 HW7.out).mono ?_
        rintro v w8 ⟨rfl, hb8⟩
        have HW8 := Lib.hid (HW7.out.trans (hb8.mono HW7.out.size))
        clear hb8
        go_wp2_with fail
        refine (HSS.out w8 HW8.out).mono ?_
        rintro v w9 ⟨rfl, q9, hw9⟩
        have HW9 := Lib.hid (show Below w3.heap.size w3 w9 by rw [hw9]; exact below_drewN HW8.out q9)
        clear hw9
        go_wp2_with fail
        refine (HA.out w9 (HB3.out.trans (HW9.out.mono HB3.out.size))).mono ?_
        rintro v w10 ⟨rfl, hb10⟩
        go_wp2
        go_returns
        exact ⟨rfl, (HB3.out.trans (HW9.out.mono HB3.out.size)).trans (hb10.mono (HB3.out.trans (HW9.out.mono HB3.out.size)).size)⟩
      · rw [decide_eq_false hd] at HSY
        clear hd HO3
        go_wp2_with fail
        refine HSY.out.mono ?_
        rintro v w5 ⟨rfl, hb5⟩
        have HW5 := Lib.hid hb5
        clear hb5
        go_wp2_with fail
        refine (HS.out w5 HW5.out).mono ?_
        rintro v w6 ⟨rfl, q6, hw6⟩
        have HW6 := Lib.hid (show Below w3.heap.size w3 w6 by rw [hw6]; exact below_drewN HW5.out q6)
        clear hw6
        go_wp2_with fail
        refine (HT1.out w6 HW6.out).mono ?_
        rintro v w7 ⟨rfl, hb7⟩
        have HW7 := Lib.hid (HW6.out.trans (hb7.mono HW6.out.size))
        clear hb7
        go_wp2_with fail
        refine (HT2.out w7 HW7.out).mono ?_
        rintro v w8 ⟨rfl, hb8⟩
        have HW8 := Lib.hid (HW7.out.trans (hb8.mono HW7.out.size))
        clear hb8
        go_wp2_with fail
        refine (HSS.out w8 HW8.out).mono ?_
        rintro v w9 ⟨rfl, q9, hw9⟩
        have HW9 := Lib.hid (show Below w3.heap.size w3 w9 by rw [hw9]; exact below_drewN HW8.out q9)
        clear hw9
        go_wp2_with fail
        refine (HA.out w9 (HB3.out.trans (HW9.out.mono HB3.out.size))).mono ?_
        rintro v w10 ⟨rfl, hb10⟩
        go_wp2
        go_returns
        exact ⟨rfl, (HB3.out.trans (HW9.out.mono HB3.out.size)).trans (hb10.mono (HB3.out.trans (HW9.out.mono HB3.out.size)).size)⟩
theorem coresame_law (p q : ByteArray) (m : Int) (hm : 0 ≤ m ∧ m < 256) (w : World) (hT : TabOk w) :
    Calls Tryz.prog 8 #[.string p, .string q, .int .u8 m] w fun e w' => e = .returned (.bool true) ∧ Below w.heap.size w w' := by
  obtain ⟨k, rfl⟩ := Int.eq_ofNat_of_zero_le hm.1
  by_cases h : 100 < p.size ∨ 100 < q.size
  · exact law_long p q k w hT h
  · exact law_short p q k w hT (by omega) (by omega) (by omega)
end Go.Proofs.YtimcmnnfpomnbaaGreatDoor
