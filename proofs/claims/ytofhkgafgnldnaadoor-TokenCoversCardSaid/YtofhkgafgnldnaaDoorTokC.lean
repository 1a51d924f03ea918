/- Tokens: a pattern that is taken is of the same tokens where a bar follows. No program in sight. -/
import Derived.Test.YtofhkgafgnldnaaDoorTokL
import Derived.Test.YtofhkgafgnldnaaDoorTokQ
namespace Go.Proofs.YtofhkgafgnldnaaDoor
abbrev bar (p q : List Nat) : List Nat := p ++ 124 :: q
theorem get_in {p q : List Nat} {i c : Nat} (h : p[i]? = some c) : (bar p q)[i]? = some c := by
  rw [List.getElem?_append_left (get_lt h)]
  exact h
theorem bar_end (p q : List Nat) : (bar p q)[p.length]? = some 124 := by
  rw [List.getElem?_append_right (Nat.le_refl _), Nat.sub_self]
  rfl
theorem eq_in {p q : List Nat} {i c : Nat} (hi : i ≤ p.length) (hc : c ≠ 124) : ((bar p q)[i]? = some c) = (p[i]? = some c) := by
  apply propext
  rcases Nat.lt_or_ge i p.length with h | h
  · rw [List.getElem?_append_left h]
  · obtain rfl : i = p.length := by omega
    rw [bar_end, List.getElem?_eq_none (Nat.le_refl _)]
    constructor
    · intro e
      injection e with e
      omega
    · intro e
      cases e
theorem hexAt_in {p q : List Nat} {i d : Nat} (h : hexAt p i = some d) : hexAt (bar p q) i = some d := by
  unfold hexAt at h ⊢
  cases hc : p[i]? with
  | none => rw [hc] at h; cases h
  | some c => rw [get_in hc, ← hc]; exact h
theorem escM_in {p q : List Nat} {i : Nat} {m : Nat → Bool} {j : Nat} (h : escM p i = .ok m j) : escM (bar p q) i = .ok m j := by
  unfold escM at h ⊢
  cases hc : p[i + 1]? with
  | none => rw [hc] at h; cases h
  | some c =>
    rw [hc] at h
    rw [get_in hc]
    dsimp only at h ⊢
    by_cases h1 : specialL.contains c = true
    · rw [if_pos h1] at h ⊢
      exact h
    · rw [if_neg h1] at h ⊢
      cases hn : namedM c with
      | some m' => rw [hn] at h; exact h
      | none =>
        rw [hn] at h
        dsimp only at h ⊢
        by_cases h2 : c = 120
        · rw [if_pos h2] at h ⊢
          cases h3 : hexAt p (i + 2) with
          | none => rw [h3] at h; cases h
          | some d =>
            rw [h3] at h
            rw [hexAt_in h3]
            dsimp only at h ⊢
            cases h4 : hexAt p (i + 3) with
            | none => rw [h4] at h; cases h
            | some d2 =>
              rw [h4] at h
              rw [hexAt_in h4]
              exact h
        · rw [if_neg h2] at h ⊢
          exact h
theorem itemM_in {p q : List Nat} {i : Nat} {m : Nat → Bool} {j : Nat} (h : itemM p i = .ok m j) : itemM (bar p q) i = .ok m j := by
  unfold itemM at h ⊢
  cases hc : p[i]? with
  | none => rw [hc] at h; cases h
  | some c =>
    rw [hc] at h
    rw [get_in hc]
    dsimp only at h ⊢
    split at h
    · cases h
    · rename_i h1
      rw [if_neg h1]
      split at h
      · rename_i h2
        rw [if_pos h2]
        exact escM_in h
      · rename_i h2
        rw [if_neg h2]
        exact h
theorem spanM_in {p q : List Nat} {i : Nat} {m : Nat → Bool} {j : Nat} (h : spanM p i = .ok m j) : spanM (bar p q) i = .ok m j := by
  unfold spanM at h ⊢
  cases h1 : itemM p i with
  | err k e => rw [h1] at h; cases h
  | ok lo k =>
    have hk := itemM_le h1
    rw [h1] at h
    rw [itemM_in h1]
    dsimp only at h ⊢
    simp only [eq_in (q := q) hk.2 (show 45 ≠ 124 by decide)]
    split at h
    · rename_i h45
      rw [if_pos h45]
      cases ha : onlyM lo with
      | none => rw [ha] at h; cases h
      | some a =>
        rw [ha] at h
        dsimp only at h ⊢
        cases h2 : itemM p (k + 1) with
        | err k e => rw [h2] at h; cases h
        | ok hi n =>
          rw [h2] at h
          rw [itemM_in h2]
          exact h
    · rename_i h45
      rw [if_neg h45]
      exact h
theorem classLoop_in {p q : List Nat} : ∀ (f f' i : Nat) (m m' : Nat → Bool) (j : Nat), f ≤ f' → i ≤ p.length → classLoop p f m i = .ok m' j → classLoop (bar p q) f' m i = .ok m' j := by
  intro f
  induction f with
  | zero => intro f' i m m' j _ _ h; cases h
  | succ f ih =>
    intro f' i m m' j hf hi h
    obtain ⟨f', rfl⟩ : ∃ g, f' = g + 1 := ⟨f' - 1, by omega⟩
    unfold classLoop at h ⊢
    simp only [eq_in (q := q) hi (show 93 ≠ 124 by decide)]
    split at h
    · rename_i h1
      rw [if_pos h1]
      exact h
    · rename_i h1
      rw [if_neg h1]
      cases hs : spanM p i with
      | err k e => rw [hs] at h; cases h
      | ok m2 k =>
        rw [hs] at h
        rw [spanM_in hs]
        exact ih f' k _ m' j (by omega) (spanM_le hs).2 h
theorem classBody_in {p q : List Nat} {i : Nat} {m : Nat → Bool} {j : Nat} (h : classBody p i = .ok m j) : classBody (bar p q) i = .ok m j := by
  unfold classBody at h ⊢
  cases hs : spanM p i with
  | err k e => rw [hs] at h; cases h
  | ok m2 k =>
    rw [hs] at h
    rw [spanM_in hs]
    exact classLoop_in _ _ k m2 m j (by simp; omega) (spanM_le hs).2 h
theorem classM_in {p q : List Nat} {i : Nat} {m : Nat → Bool} {j : Nat} (hi : i < p.length) (h : classM p i = .ok m j) : classM (bar p q) i = .ok m j := by
  unfold classM at h ⊢
  simp only [eq_in (q := q) (show i + 1 ≤ p.length from hi) (show 94 ≠ 124 by decide)]
  split at h
  · rename_i h1
    rw [if_pos h1]
    cases hb : classBody p (i + 2) with
    | err k e => rw [hb] at h; cases h
    | ok m2 k =>
      rw [hb] at h
      rw [classBody_in hb]
      exact h
  · rename_i h1
    rw [if_neg h1]
    exact classBody_in h
theorem digitAt_in {p q : List Nat} {i : Nat} (hi : i ≤ p.length) : digitAt (bar p q) i = digitAt p i := by
  unfold digitAt
  rcases Nat.lt_or_ge i p.length with h | h
  · rw [List.getElem?_append_left h]
  · obtain rfl : i = p.length := by omega
    rw [bar_end, List.getElem?_eq_none (Nat.le_refl _)]
    rfl
theorem numLoop_in {p q : List Nat} : ∀ (d i f f' n : Nat), p.length - i ≤ d → i ≤ p.length → d ≤ f → d ≤ f' → numLoop (bar p q) f' n i = numLoop p f n i := by
  intro d
  induction d with
  | zero =>
    intro i f f' n h hi _ _
    obtain rfl : i = p.length := by omega
    have hn : digitAt p p.length = none := by unfold digitAt; rw [List.getElem?_eq_none (Nat.le_refl _)]; rfl
    have hn' : digitAt (bar p q) p.length = none := by rw [digitAt_in (Nat.le_refl _), hn]
    cases f with
    | zero =>
      cases f' with
      | zero => rfl
      | succ f' => unfold numLoop; rw [hn']
    | succ f =>
      cases f' with
      | zero => unfold numLoop; rw [hn]
      | succ f' => unfold numLoop; rw [hn, hn']
  | succ d ih =>
    intro i f f' n h hi h1 h2
    obtain ⟨f, rfl⟩ : ∃ g, f = g + 1 := ⟨f - 1, by omega⟩
    obtain ⟨f', rfl⟩ : ∃ g, f' = g + 1 := ⟨f' - 1, by omega⟩
    unfold numLoop
    rw [digitAt_in hi]
    cases hd : digitAt p i with
    | none => rfl
    | some x =>
      have := digitAt_lt hd
      exact ih (i + 1) f f' _ (by omega) (by omega) (by omega) (by omega)
theorem numberM_in {p q : List Nat} {i : Nat} (hi : i ≤ p.length) : numberM (bar p q) i = numberM p i := by
  unfold numberM
  rw [digitAt_in hi]
  cases digitAt p i with
  | none => rfl
  | some d =>
    dsimp only
    rw [numLoop_in (p.length - i) i (p.length - i) ((bar p q).length - i) 0 (Nat.le_refl _) hi (Nat.le_refl _) (by simp; omega)]
theorem bracesM_in {p q : List Nat} {i : Nat} {v : Nat × Option Nat} {j : Nat} (hi : i ≤ p.length) (h : bracesM p i = .ok v j) : bracesM (bar p q) i = .ok v j := by
  unfold bracesM at h ⊢
  rw [numberM_in hi]
  cases h1 : numberM p i with
  | err k e => rw [h1] at h; cases h
  | ok lo k =>
    have hk := numberM_le h1
    rw [h1] at h
    dsimp only at h ⊢
    simp only [eq_in (q := q) hk.2 (show 44 ≠ 124 by decide), eq_in (q := q) hk.2 (show 125 ≠ 124 by decide)]
    split at h
    · rename_i h2
      have hk1 := get_lt h2
      rw [if_pos h2]
      simp only [eq_in (q := q) (show k + 1 ≤ p.length from hk1) (show 125 ≠ 124 by decide), numberM_in (q := q) (show k + 1 ≤ p.length from hk1)]
      split at h
      · rename_i h3
        rw [if_pos h3]
        exact h
      · rename_i h3
        rw [if_neg h3]
        cases h4 : numberM p (k + 1) with
        | err n e => rw [h4] at h; cases h
        | ok hi n =>
          have hn := numberM_le h4
          rw [h4] at h
          dsimp only at h ⊢
          simp only [eq_in (q := q) hn.2 (show 125 ≠ 124 by decide)]
          exact h
    · rename_i h2
      rw [if_neg h2]
      exact h
theorem lazyM_in {p q : List Nat} {lo : Nat} {hi : Int} {i : Nat} (hl : i ≤ p.length) : lazyM (bar p q) lo hi i = lazyM p lo hi i := by
  unfold lazyM
  simp only [eq_in (q := q) hl (show 63 ≠ 124 by decide)]
  by_cases h : p[i]? = some 63
  · have := get_lt h
    simp only [h, if_true, eq_in (q := q) (show i + 1 ≤ p.length from this) (show 43 ≠ 124 by decide)]
  · simp only [h, if_false, eq_in (q := q) hl (show 43 ≠ 124 by decide)]
theorem groupM_in {p q : List Nat} {i : Nat} (hi : i < p.length) : groupM (bar p q) i = groupM p i := by
  unfold groupM
  simp only [eq_in (q := q) (show i + 1 ≤ p.length from hi) (show 63 ≠ 124 by decide)]
  by_cases h : p[i + 1]? = some 63
  · have := get_lt h
    simp only [h, if_true, eq_in (q := q) (show i + 2 ≤ p.length from this) (show 58 ≠ 124 by decide)]
  · simp only [h, if_false]
theorem setRes_in {r r' : Res (Nat → Bool)} {x : Tok} {j : Nat} (h : setRes r = .ok x j) (hr : ∀ m k, r = .ok m k → r' = .ok m k) : setRes r' = .ok x j := by
  cases r with
  | err k e => cases h
  | ok m k => rw [hr m k rfl]; exact h
theorem tokM_in {p q : List Nat} {i : Nat} {x : Tok} {j : Nat} (h : tokM p i = .ok x j) : tokM (bar p q) i = .ok x j := by
  unfold tokM at h ⊢
  cases hc : p[i]? with
  | none => rw [hc] at h; cases h
  | some c =>
    have hl := get_lt hc
    rw [hc] at h
    rw [get_in hc]
    dsimp only at h ⊢
    simp only [lazyM_in (q := q) (show i + 1 ≤ p.length from hl), groupM_in (q := q) hl]
    by_cases h1 : c = 92
    · rw [if_pos h1] at h ⊢
      exact setRes_in h fun m k e => escM_in e
    rw [if_neg h1] at h ⊢
    by_cases h2 : c = 91
    · rw [if_pos h2] at h ⊢
      exact setRes_in h fun m k e => classM_in hl e
    rw [if_neg h2] at h ⊢
    by_cases h3 : c = 123
    · subst h3
      simp only [show ¬(123 : Nat) = 40 by decide, show ¬(123 : Nat) = 41 by decide, show ¬(123 : Nat) = 124 by decide, show ¬(123 : Nat) = 46 by decide, show ¬(123 : Nat) = 42 by decide, show ¬(123 : Nat) = 43 by decide, show ¬(123 : Nat) = 63 by decide, if_false, if_true] at h ⊢
      cases hb : bracesM p (i + 1) with
      | err k e => rw [hb] at h; cases h
      | ok v k =>
        rw [hb] at h
        rw [bracesM_in hl hb]
        obtain ⟨lo, hi⟩ := v
        dsimp only at h ⊢
        rw [lazyM_in (bracesM_le hb).2]
        exact h
    · simp only [if_neg h3] at h ⊢
      exact h
end Go.Proofs.YtofhkgafgnldnaaDoor
