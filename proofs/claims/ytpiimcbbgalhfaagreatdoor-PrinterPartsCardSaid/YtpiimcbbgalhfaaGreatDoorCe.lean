/- Tokens: what is read goes on forward, stands within the text, is the same further on, and is the same in a text that goes on with a bar. No program in sight. -/
import Derived.Test.YtpiimcbbgalhfaaGreatDoorBb
namespace Go.Proofs.YtpiimcbbgalhfaaGreatDoor
set_option maxRecDepth 100000
def Res.shift {α : Type} (k : Nat) : Res α → Res α
  | .ok v i => .ok v (k + i)
  | .err i e => .err (k + i) e
theorem get_shift (p s : List Nat) (i : Nat) : (p ++ s)[p.length + i]? = s[i]? := by
  rw [List.getElem?_append_right (by omega)]
  congr 1
  omega
theorem hexAt_shift (p s : List Nat) (i : Nat) : hexAt (p ++ s) (p.length + i) = hexAt s i := by unfold hexAt; rw [get_shift]
theorem escM_shift (p s : List Nat) (i : Nat) : escM (p ++ s) (p.length + i) = (escM s i).shift p.length := by
  unfold escM
  simp only [Nat.add_assoc, get_shift, hexAt_shift]
  cases s[i + 1]? with
  | none => rfl
  | some c =>
    simp only []
    split
    · rfl
    · cases namedM c with
      | some m => rfl
      | none =>
        simp only []
        split
        · cases hexAt s (i + 2) with
          | none => rfl
          | some hi =>
            simp only []
            cases hexAt s (i + 3) with
            | none => rfl
            | some lo => rfl
        · split <;> rfl
theorem itemM_shift (p s : List Nat) (i : Nat) : itemM (p ++ s) (p.length + i) = (itemM s i).shift p.length := by
  unfold itemM
  rw [get_shift]
  cases s[i]? with
  | none => rfl
  | some c =>
    simp only []
    split
    · rfl
    · split
      · exact escM_shift p s i
      · rfl
theorem spanM_shift (p s : List Nat) (i : Nat) : spanM (p ++ s) (p.length + i) = (spanM s i).shift p.length := by
  unfold spanM
  rw [itemM_shift]
  cases itemM s i with
  | err j e => rfl
  | ok lo j =>
    simp only [Res.shift, get_shift]
    split
    · cases onlyM lo with
      | none => rfl
      | some a =>
        simp only [Nat.add_assoc, itemM_shift]
        cases itemM s (j + 1) with
        | err k e => rfl
        | ok hi k =>
          simp only [Res.shift]
          cases onlyM hi with
          | none => rfl
          | some b =>
            simp only []
            split <;> rfl
    · rfl
theorem classLoop_shift (p s : List Nat) (f : Nat) : ∀ (m : Nat → Bool) (i : Nat), classLoop (p ++ s) f m (p.length + i) = (classLoop s f m i).shift p.length := by
  induction f with
  | zero => intro m i; rfl
  | succ f ih =>
    intro m i
    unfold classLoop
    rw [get_shift, spanM_shift]
    split
    · rfl
    · cases spanM s i with
      | err j e => rfl
      | ok m2 j => exact ih _ j
theorem classBody_shift (p s : List Nat) (i : Nat) : classBody (p ++ s) (p.length + i) = (classBody s i).shift p.length := by
  unfold classBody
  rw [spanM_shift]
  cases spanM s i with
  | err j e => rfl
  | ok m j =>
    simp only [Res.shift]
    rw [List.length_append, show p.length + s.length + 1 - (p.length + j) = s.length + 1 - j by omega]
    exact classLoop_shift p s _ _ j
theorem classM_shift (p s : List Nat) (i : Nat) : classM (p ++ s) (p.length + i) = (classM s i).shift p.length := by
  unfold classM
  simp only [Nat.add_assoc, get_shift, classBody_shift]
  split
  · cases classBody s (i + 2) with
    | err j e => rfl
    | ok m j => rfl
  · rfl
theorem digitAt_shift (p s : List Nat) (i : Nat) : digitAt (p ++ s) (p.length + i) = digitAt s i := by unfold digitAt; rw [get_shift]
theorem numLoop_shift (p s : List Nat) (f : Nat) : ∀ n i, numLoop (p ++ s) f n (p.length + i) = ((numLoop s f n i).1, p.length + (numLoop s f n i).2) := by
  induction f with
  | zero => intro n i; rfl
  | succ f ih =>
    intro n i
    unfold numLoop
    rw [digitAt_shift]
    cases digitAt s i with
    | none => rfl
    | some d => exact ih _ (i + 1)
theorem numberM_shift (p s : List Nat) (i : Nat) : numberM (p ++ s) (p.length + i) = (numberM s i).shift p.length := by
  unfold numberM
  rw [digitAt_shift]
  cases digitAt s i with
  | none => rfl
  | some d =>
    simp only []
    rw [List.length_append, show p.length + s.length - (p.length + i) = s.length - i by omega, numLoop_shift]
    simp only []
    split <;> rfl
theorem bracesM_shift (p s : List Nat) (i : Nat) : bracesM (p ++ s) (p.length + i) = (bracesM s i).shift p.length := by
  unfold bracesM
  rw [numberM_shift]
  cases numberM s i with
  | err j e => rfl
  | ok lo j =>
    simp only [Res.shift, Nat.add_assoc, get_shift, numberM_shift]
    split
    · split
      · rfl
      · cases numberM s (j + 1) with
        | err k e => rfl
        | ok hi k =>
          simp only [get_shift]
          split
          · rfl
          · split <;> rfl
    · split <;> rfl
theorem lazyM_shift (p s : List Nat) (lo : Nat) (hi : Int) (i : Nat) : lazyM (p ++ s) lo hi (p.length + i) = (lazyM s lo hi i).shift p.length := by
  unfold lazyM
  rw [get_shift]
  by_cases h : s[i]? = some 63
  · simp only [h, if_true, Nat.add_assoc, get_shift]
    split <;> rfl
  · simp only [h, if_false, get_shift]
    split <;> rfl
theorem groupM_shift (p s : List Nat) (i : Nat) : groupM (p ++ s) (p.length + i) = (groupM s i).shift p.length := by
  unfold groupM
  simp only [Nat.add_assoc, get_shift]
  split
  · split <;> rfl
  · rfl
theorem setRes_shift (k : Nat) (r : Res (Nat → Bool)) : setRes (r.shift k) = (setRes r).shift k := by cases r <;> rfl
theorem tokM_shift (p s : List Nat) (i : Nat) : tokM (p ++ s) (p.length + i) = (tokM s i).shift p.length := by
  unfold tokM
  rw [get_shift]
  cases s[i]? with
  | none => rfl
  | some c =>
    dsimp only
    by_cases h0 : c = 92
    · rw [if_pos h0, if_pos h0]
      rw [escM_shift, setRes_shift]
    rw [if_neg h0, if_neg h0]
    by_cases h1 : c = 91
    · rw [if_pos h1, if_pos h1]
      rw [classM_shift, setRes_shift]
    rw [if_neg h1, if_neg h1]
    by_cases h2 : c = 40
    · rw [if_pos h2, if_pos h2]
      exact groupM_shift p s i
    rw [if_neg h2, if_neg h2]
    by_cases h3 : c = 41
    · rw [if_pos h3, if_pos h3]
      first | done | rfl
    rw [if_neg h3, if_neg h3]
    by_cases h4 : c = 124
    · rw [if_pos h4, if_pos h4]
      first | done | rfl
    rw [if_neg h4, if_neg h4]
    by_cases h5 : c = 46
    · rw [if_pos h5, if_pos h5]
      first | done | rfl
    rw [if_neg h5, if_neg h5]
    by_cases h6 : c = 42
    · rw [if_pos h6, if_pos h6]
      exact lazyM_shift p s 0 (-1) (i + 1)
    rw [if_neg h6, if_neg h6]
    by_cases h7 : c = 43
    · rw [if_pos h7, if_pos h7]
      exact lazyM_shift p s 1 (-1) (i + 1)
    rw [if_neg h7, if_neg h7]
    by_cases h8 : c = 63
    · rw [if_pos h8, if_pos h8]
      exact lazyM_shift p s 0 1 (i + 1)
    rw [if_neg h8, if_neg h8]
    by_cases h9 : c = 123
    · rw [if_pos h9, if_pos h9]
      rw [show p.length + i + 1 = p.length + (i + 1) from rfl, bracesM_shift]
      cases bracesM s (i + 1) with
      | err j e => rfl
      | ok v j =>
        obtain ⟨lo, hi⟩ := v
        exact lazyM_shift p s lo (hiZ hi) j
    rw [if_neg h9, if_neg h9]
    by_cases h10 : c = 94 ∨ c = 36
    · rw [if_pos h10, if_pos h10]
      first | done | rfl
    rw [if_neg h10, if_neg h10]
    by_cases h11 : loneL.contains c = true
    · rw [if_pos h11, if_pos h11]
      first | done | rfl
    rw [if_neg h11, if_neg h11]
    first | done | rfl
end Go.Proofs.YtpiimcbbgalhfaaGreatDoor
/- Tokens: a pattern that is taken is of the same tokens where a par follows. No program in sight. -/
namespace Go.Proofs.YtpiimcbbgalhfaaGreatDoor
set_option maxRecDepth 100000
abbrev par (p q : List Nat) : List Nat := p ++ 41 :: q
theorem get_par {p q : List Nat} {i c : Nat} (h : p[i]? = some c) : (par p q)[i]? = some c := by
  rw [List.getElem?_append_left (get_lt h)]
  exact h
theorem par_end (p q : List Nat) : (par p q)[p.length]? = some 41 := by
  rw [List.getElem?_append_right (Nat.le_refl _), Nat.sub_self]
  rfl
theorem eq_par {p q : List Nat} {i c : Nat} (hi : i ≤ p.length) (hc : c ≠ 41) : ((par p q)[i]? = some c) = (p[i]? = some c) := by
  apply propext
  rcases Nat.lt_or_ge i p.length with h | h
  · rw [List.getElem?_append_left h]
  · obtain rfl : i = p.length := by omega
    rw [par_end, List.getElem?_eq_none (Nat.le_refl _)]
    constructor
    · intro e
      injection e with e
      omega
    · intro e
      cases e
theorem hexAt_par {p q : List Nat} {i d : Nat} (h : hexAt p i = some d) : hexAt (par p q) i = some d := by
  unfold hexAt at h ⊢
  cases hc : p[i]? with
  | none => rw [hc] at h; cases h
  | some c => rw [get_par hc, ← hc]; exact h
theorem escM_par {p q : List Nat} {i : Nat} {m : Nat → Bool} {j : Nat} (h : escM p i = .ok m j) : escM (par p q) i = .ok m j := by
  unfold escM at h ⊢
  cases hc : p[i + 1]? with
  | none => rw [hc] at h; cases h
  | some c =>
    rw [hc] at h
    rw [get_par hc]
    dsimp only at h ⊢
    by_cases h1 : specialL.contains c = true
    · rw [if_pos h1] at h ⊢
      exact h
    · rw [if_neg h1] at h ⊢
      cases hn : namedM c with
      | some m' => rw [hn] at h; exact h
      | none =>
        rw [hn] at h
        dsimp only at h ⊢
        by_cases h2 : c = 120
        · rw [if_pos h2] at h ⊢
          cases h3 : hexAt p (i + 2) with
          | none => rw [h3] at h; cases h
          | some d =>
            rw [h3] at h
            rw [hexAt_par h3]
            dsimp only at h ⊢
            cases h4 : hexAt p (i + 3) with
            | none => rw [h4] at h; cases h
            | some d2 =>
              rw [h4] at h
              rw [hexAt_par h4]
              exact h
        · rw [if_neg h2] at h ⊢
          exact h
theorem itemM_par {p q : List Nat} {i : Nat} {m : Nat → Bool} {j : Nat} (h : itemM p i = .ok m j) : itemM (par p q) i = .ok m j := by
  unfold itemM at h ⊢
  cases hc : p[i]? with
  | none => rw [hc] at h; cases h
  | some c =>
    rw [hc] at h
    rw [get_par hc]
    dsimp only at h ⊢
    split at h
    · cases h
    · rename_i h1
      rw [if_neg h1]
      split at h
      · rename_i h2
        rw [if_pos h2]
        exact escM_par h
      · rename_i h2
        rw [if_neg h2]
        exact h
theorem spanM_par {p q : List Nat} {i : Nat} {m : Nat → Bool} {j : Nat} (h : spanM p i = .ok m j) : spanM (par p q) i = .ok m j := by
  unfold spanM at h ⊢
  cases h1 : itemM p i with
  | err k e => rw [h1] at h; cases h
  | ok lo k =>
    have hk := itemM_le h1
    rw [h1] at h
    rw [itemM_par h1]
    dsimp only at h ⊢
    simp only [eq_par (q := q) hk.2 (show 45 ≠ 41 by decide)]
    split at h
    · rename_i h45
      rw [if_pos h45]
      cases ha : onlyM lo with
      | none => rw [ha] at h; cases h
      | some a =>
        rw [ha] at h
        dsimp only at h ⊢
        cases h2 : itemM p (k + 1) with
        | err k e => rw [h2] at h; cases h
        | ok hi n =>
          rw [h2] at h
          rw [itemM_par h2]
          exact h
    · rename_i h45
      rw [if_neg h45]
      exact h
theorem classLoop_par {p q : List Nat} : ∀ (f f' i : Nat) (m m' : Nat → Bool) (j : Nat), f ≤ f' → i ≤ p.length → classLoop p f m i = .ok m' j → classLoop (par p q) f' m i = .ok m' j := by
  intro f
  induction f with
  | zero => intro f' i m m' j _ _ h; cases h
  | succ f ih =>
    intro f' i m m' j hf hi h
    obtain ⟨f', rfl⟩ : ∃ g, f' = g + 1 := ⟨f' - 1, by omega⟩
    unfold classLoop at h ⊢
    simp only [eq_par (q := q) hi (show 93 ≠ 41 by decide)]
    split at h
    · rename_i h1
      rw [if_pos h1]
      exact h
    · rename_i h1
      rw [if_neg h1]
      cases hs : spanM p i with
      | err k e => rw [hs] at h; cases h
      | ok m2 k =>
        rw [hs] at h
        rw [spanM_par hs]
        exact ih f' k _ m' j (by omega) (spanM_le hs).2 h
theorem classBody_par {p q : List Nat} {i : Nat} {m : Nat → Bool} {j : Nat} (h : classBody p i = .ok m j) : classBody (par p q) i = .ok m j := by
  unfold classBody at h ⊢
  cases hs : spanM p i with
  | err k e => rw [hs] at h; cases h
  | ok m2 k =>
    rw [hs] at h
    rw [spanM_par hs]
    exact classLoop_par _ _ k m2 m j (by simp; omega) (spanM_le hs).2 h
theorem classM_par {p q : List Nat} {i : Nat} {m : Nat → Bool} {j : Nat} (hi : i < p.length) (h : classM p i = .ok m j) : classM (par p q) i = .ok m j := by
  unfold classM at h ⊢
  simp only [eq_par (q := q) (show i + 1 ≤ p.length from hi) (show 94 ≠ 41 by decide)]
  split at h
  · rename_i h1
    rw [if_pos h1]
    cases hb : classBody p (i + 2) with
    | err k e => rw [hb] at h; cases h
    | ok m2 k =>
      rw [hb] at h
      rw [classBody_par hb]
      exact h
  · rename_i h1
    rw [if_neg h1]
    exact classBody_par h
theorem digitAt_par {p q : List Nat} {i : Nat} (hi : i ≤ p.length) : digitAt (par p q) i = digitAt p i := by
  unfold digitAt
  rcases Nat.lt_or_ge i p.length with h | h
  · rw [List.getElem?_append_left h]
  · obtain rfl : i = p.length := by omega
    rw [par_end, List.getElem?_eq_none (Nat.le_refl _)]
    rfl
theorem numLoop_par {p q : List Nat} : ∀ (d i f f' n : Nat), p.length - i ≤ d → i ≤ p.length → d ≤ f → d ≤ f' → numLoop (par p q) f' n i = numLoop p f n i := by
  intro d
  induction d with
  | zero =>
    intro i f f' n h hi _ _
    obtain rfl : i = p.length := by omega
    have hn : digitAt p p.length = none := by unfold digitAt; rw [List.getElem?_eq_none (Nat.le_refl _)]; rfl
    have hn' : digitAt (par p q) p.length = none := by rw [digitAt_par (Nat.le_refl _), hn]
    cases f with
    | zero =>
      cases f' with
      | zero => rfl
      | succ f' => unfold numLoop; rw [hn']
    | succ f =>
      cases f' with
      | zero => unfold numLoop; rw [hn]
      | succ f' => unfold numLoop; rw [hn, hn']
  | succ d ih =>
    intro i f f' n h hi h1 h2
    obtain ⟨f, rfl⟩ : ∃ g, f = g + 1 := ⟨f - 1, by omega⟩
    obtain ⟨f', rfl⟩ : ∃ g, f' = g + 1 := ⟨f' - 1, by omega⟩
    unfold numLoop
    rw [digitAt_par hi]
    cases hd : digitAt p i with
    | none => rfl
    | some x =>
      have := digitAt_lt hd
      exact ih (i + 1) f f' _ (by omega) (by omega) (by omega) (by omega)
theorem numberM_par {p q : List Nat} {i : Nat} (hi : i ≤ p.length) : numberM (par p q) i = numberM p i := by
  unfold numberM
  rw [digitAt_par hi]
  cases digitAt p i with
  | none => rfl
  | some d =>
    dsimp only
    rw [numLoop_par (p.length - i) i (p.length - i) ((par p q).length - i) 0 (Nat.le_refl _) hi (Nat.le_refl _) (by simp; omega)]
theorem bracesM_par {p q : List Nat} {i : Nat} {v : Nat × Option Nat} {j : Nat} (hi : i ≤ p.length) (h : bracesM p i = .ok v j) : bracesM (par p q) i = .ok v j := by
  unfold bracesM at h ⊢
  rw [numberM_par hi]
  cases h1 : numberM p i with
  | err k e => rw [h1] at h; cases h
  | ok lo k =>
    have hk := numberM_le h1
    rw [h1] at h
    dsimp only at h ⊢
    simp only [eq_par (q := q) hk.2 (show 44 ≠ 41 by decide), eq_par (q := q) hk.2 (show 125 ≠ 41 by decide)]
    split at h
    · rename_i h2
      have hk1 := get_lt h2
      rw [if_pos h2]
      simp only [eq_par (q := q) (show k + 1 ≤ p.length from hk1) (show 125 ≠ 41 by decide), numberM_par (q := q) (show k + 1 ≤ p.length from hk1)]
      split at h
      · rename_i h3
        rw [if_pos h3]
        exact h
      · rename_i h3
        rw [if_neg h3]
        cases h4 : numberM p (k + 1) with
        | err n e => rw [h4] at h; cases h
        | ok hi n =>
          have hn := numberM_le h4
          rw [h4] at h
          dsimp only at h ⊢
          simp only [eq_par (q := q) hn.2 (show 125 ≠ 41 by decide)]
          exact h
    · rename_i h2
      rw [if_neg h2]
      exact h
theorem lazyM_par {p q : List Nat} {lo : Nat} {hi : Int} {i : Nat} (hl : i ≤ p.length) : lazyM (par p q) lo hi i = lazyM p lo hi i := by
  unfold lazyM
  simp only [eq_par (q := q) hl (show 63 ≠ 41 by decide)]
  by_cases h : p[i]? = some 63
  · have := get_lt h
    simp only [h, if_true, eq_par (q := q) (show i + 1 ≤ p.length from this) (show 43 ≠ 41 by decide)]
  · simp only [h, if_false, eq_par (q := q) hl (show 43 ≠ 41 by decide)]
theorem groupM_par {p q : List Nat} {i : Nat} (hi : i < p.length) : groupM (par p q) i = groupM p i := by
  unfold groupM
  simp only [eq_par (q := q) (show i + 1 ≤ p.length from hi) (show 63 ≠ 41 by decide)]
  by_cases h : p[i + 1]? = some 63
  · have := get_lt h
    simp only [h, if_true, eq_par (q := q) (show i + 2 ≤ p.length from this) (show 58 ≠ 41 by decide)]
  · simp only [h, if_false]
theorem setRes_par {r r' : Res (Nat → Bool)} {x : Tok} {j : Nat} (h : setRes r = .ok x j) (hr : ∀ m k, r = .ok m k → r' = .ok m k) : setRes r' = .ok x j := by
  cases r with
  | err k e => cases h
  | ok m k => rw [hr m k rfl]; exact h
theorem tokM_par {p q : List Nat} {i : Nat} {x : Tok} {j : Nat} (h : tokM p i = .ok x j) : tokM (par p q) i = .ok x j := by
  unfold tokM at h ⊢
  cases hc : p[i]? with
  | none => rw [hc] at h; cases h
  | some c =>
    have hl := get_lt hc
    rw [hc] at h
    rw [get_par hc]
    dsimp only at h ⊢
    simp only [lazyM_par (q := q) (show i + 1 ≤ p.length from hl), groupM_par (q := q) hl]
    by_cases h1 : c = 92
    · rw [if_pos h1] at h ⊢
      exact setRes_par h fun m k e => escM_par e
    rw [if_neg h1] at h ⊢
    by_cases h2 : c = 91
    · rw [if_pos h2] at h ⊢
      exact setRes_par h fun m k e => classM_par hl e
    rw [if_neg h2] at h ⊢
    by_cases h3 : c = 123
    · subst h3
      simp only [show ¬(123 : Nat) = 40 by decide, show ¬(123 : Nat) = 41 by decide, show ¬(123 : Nat) = 124 by decide, show ¬(123 : Nat) = 46 by decide, show ¬(123 : Nat) = 42 by decide, show ¬(123 : Nat) = 43 by decide, show ¬(123 : Nat) = 63 by decide, if_false, if_true] at h ⊢
      cases hb : bracesM p (i + 1) with
      | err k e => rw [hb] at h; cases h
      | ok v k =>
        rw [hb] at h
        rw [bracesM_par hl hb]
        obtain ⟨lo, hi⟩ := v
        dsimp only at h ⊢
        rw [lazyM_par (bracesM_le hb).2]
        exact h
    · simp only [if_neg h3] at h ⊢
      exact h
end Go.Proofs.YtpiimcbbgalhfaaGreatDoor
