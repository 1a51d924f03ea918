/- Tokens: what is read goes on forward, stands within the text, is the same further on, and is the same in a text that goes on with a bar. No program in sight. -/
import Derived.Test.YtimcmnnfpomnbaaGreatDoorBb
import Derived.Test.YtimcmnnfpomnbaaGreatDoorBq
import Derived.Test.YtimcmnnfpomnbaaGreatDoorBl
import Derived.Test.YtimcmnnfpomnbaaGreatDoorBu
import Derived.Test.YtimcmnnfpomnbaaGreatDoorBw
import Derived.Test.YtimcmnnfpomnbaaGreatDoorCc
namespace Go.Proofs.YtimcmnnfpomnbaaGreatDoor
set_option maxRecDepth 100000
def Res.shift {α : Type} (k : Nat) : Res α → Res α
  | .ok v i => .ok v (k + i)
  | .err i e => .err (k + i) e
theorem get_shift (p s : List Nat) (i : Nat) : (p ++ s)[p.length + i]? = s[i]? := by
  rw [List.getElem?_append_right (by omega)]
  congr 1
  omega
theorem hexAt_shift (p s : List Nat) (i : Nat) : hexAt (p ++ s) (p.length + i) = hexAt s i := by unfold hexAt; rw [get_shift]
theorem escM_shift (p s : List Nat) (i : Nat) : escM (p ++ s) (p.length + i) = (escM s i).shift p.length := by
  unfold escM
  simp only [Nat.add_assoc, get_shift, hexAt_shift]
  cases s[i + 1]? with
  | none => rfl
  | some c =>
    simp only []
    split
    · rfl
    · cases namedM c with
      | some m => rfl
      | none =>
        simp only []
        split
        · cases hexAt s (i + 2) with
          | none => rfl
          | some hi =>
            simp only []
            cases hexAt s (i + 3) with
            | none => rfl
            | some lo => rfl
        · split <;> rfl
theorem itemM_shift (p s : List Nat) (i : Nat) : itemM (p ++ s) (p.length + i) = (itemM s i).shift p.length := by
  unfold itemM
  rw [get_shift]
  cases s[i]? with
  | none => rfl
  | some c =>
    simp only []
    split
    · rfl
    · split
      · exact escM_shift p s i
      · rfl
theorem spanM_shift (p s : List Nat) (i : Nat) : spanM (p ++ s) (p.length + i) = (spanM s i).shift p.length := by
  unfold spanM
  rw [itemM_shift]
  cases itemM s i with
  | err j e => rfl
  | ok lo j =>
    simp only [Res.shift, get_shift]
    split
    · cases onlyM lo with
      | none => rfl
      | some a =>
        simp only [Nat.add_assoc, itemM_shift]
        cases itemM s (j + 1) with
        | err k e => rfl
        | ok hi k =>
          simp only [Res.shift]
          cases onlyM hi with
          | none => rfl
          | some b =>
            simp only []
            split <;> rfl
    · rfl
theorem classLoop_shift (p s : List Nat) (f : Nat) : ∀ (m : Nat → Bool) (i : Nat), classLoop (p ++ s) f m (p.length + i) = (classLoop s f m i).shift p.length := by
  induction f with
  | zero => intro m i; rfl
  | succ f ih =>
    intro m i
    unfold classLoop
    rw [get_shift, spanM_shift]
    split
    · rfl
    · cases spanM s i with
      | err j e => rfl
      | ok m2 j => exact ih _ j
theorem classBody_shift (p s : List Nat) (i : Nat) : classBody (p ++ s) (p.length + i) = (classBody s i).shift p.length := by
  unfold classBody
  rw [spanM_shift]
  cases spanM s i with
  | err j e => rfl
  | ok m j =>
    simp only [Res.shift]
    rw [List.length_append, show p.length + s.length + 1 - (p.length + j) = s.length + 1 - j by omega]
    exact classLoop_shift p s _ _ j
theorem classM_shift (p s : List Nat) (i : Nat) : classM (p ++ s) (p.length + i) = (classM s i).shift p.length := by
  unfold classM
  simp only [Nat.add_assoc, get_shift, classBody_shift]
  split
  · cases classBody s (i + 2) with
    | err j e => rfl
    | ok m j => rfl
  · rfl
theorem digitAt_shift (p s : List Nat) (i : Nat) : digitAt (p ++ s) (p.length + i) = digitAt s i := by unfold digitAt; rw [get_shift]
theorem numLoop_shift (p s : List Nat) (f : Nat) : ∀ n i, numLoop (p ++ s) f n (p.length + i) = ((numLoop s f n i).1, p.length + (numLoop s f n i).2) := by
  induction f with
  | zero => intro n i; rfl
  | succ f ih =>
    intro n i
    unfold numLoop
    rw [digitAt_shift]
    cases digitAt s i with
    | none => rfl
    | some d => exact ih _ (i + 1)
theorem numberM_shift (p s : List Nat) (i : Nat) : numberM (p ++ s) (p.length + i) = (numberM s i).shift p.length := by
  unfold numberM
  rw [digitAt_shift]
  cases digitAt s i with
  | none => rfl
  | some d =>
    simp only []
    rw [List.length_append, show p.length + s.length - (p.length + i) = s.length - i by omega, numLoop_shift]
    simp only []
    split <;> rfl
theorem bracesM_shift (p s : List Nat) (i : Nat) : bracesM (p ++ s) (p.length + i) = (bracesM s i).shift p.length := by
  unfold bracesM
  rw [numberM_shift]
  cases numberM s i with
  | err j e => rfl
  | ok lo j =>
    simp only [Res.shift, Nat.add_assoc, get_shift, numberM_shift]
    split
    · split
      · rfl
      · cases numberM s (j + 1) with
        | err k e => rfl
        | ok hi k =>
          simp only [get_shift]
          split
          · rfl
          · split <;> rfl
    · split <;> rfl
theorem lazyM_shift (p s : List Nat) (lo : Nat) (hi : Int) (i : Nat) : lazyM (p ++ s) lo hi (p.length + i) = (lazyM s lo hi i).shift p.length := by
  unfold lazyM
  rw [get_shift]
  by_cases h : s[i]? = some 63
  · simp only [h, if_true, Nat.add_assoc, get_shift]
    split <;> rfl
  · simp only [h, if_false, get_shift]
    split <;> rfl
theorem groupM_shift (p s : List Nat) (i : Nat) : groupM (p ++ s) (p.length + i) = (groupM s i).shift p.length := by
  unfold groupM
  simp only [Nat.add_assoc, get_shift]
  split
  · split <;> rfl
  · rfl
theorem setRes_shift (k : Nat) (r : Res (Nat → Bool)) : setRes (r.shift k) = (setRes r).shift k := by cases r <;> rfl
theorem tokM_shift (p s : List Nat) (i : Nat) : tokM (p ++ s) (p.length + i) = (tokM s i).shift p.length := by
  unfold tokM
  rw [get_shift]
  cases s[i]? with
  | none => rfl
  | some c =>
    dsimp only
    by_cases h0 : c = 92
    · rw [if_pos h0, if_pos h0]
      rw [escM_shift, setRes_shift]
    rw [if_neg h0, if_neg h0]
    by_cases h1 : c = 91
    · rw [if_pos h1, if_pos h1]
      rw [classM_shift, setRes_shift]
    rw [if_neg h1, if_neg h1]
    by_cases h2 : c = 40
    · rw [if_pos h2, if_pos h2]
      exact groupM_shift p s i
    rw [if_neg h2, if_neg h2]
    by_cases h3 : c = 41
    · rw [if_pos h3, if_pos h3]
      first | done | rfl
    rw [if_neg h3, if_neg h3]
    by_cases h4 : c = 124
    · rw [if_pos h4, if_pos h4]
      first | done | rfl
    rw [if_neg h4, if_neg h4]
    by_cases h5 : c = 46
    · rw [if_pos h5, if_pos h5]
      first | done | rfl
    rw [if_neg h5, if_neg h5]
    by_cases h6 : c = 42
    · rw [if_pos h6, if_pos h6]
      exact lazyM_shift p s 0 (-1) (i + 1)
    rw [if_neg h6, if_neg h6]
    by_cases h7 : c = 43
    · rw [if_pos h7, if_pos h7]
      exact lazyM_shift p s 1 (-1) (i + 1)
    rw [if_neg h7, if_neg h7]
    by_cases h8 : c = 63
    · rw [if_pos h8, if_pos h8]
      exact lazyM_shift p s 0 1 (i + 1)
    rw [if_neg h8, if_neg h8]
    by_cases h9 : c = 123
    · rw [if_pos h9, if_pos h9]
      rw [show p.length + i + 1 = p.length + (i + 1) from rfl, bracesM_shift]
      cases bracesM s (i + 1) with
      | err j e => rfl
      | ok v j =>
        obtain ⟨lo, hi⟩ := v
        exact lazyM_shift p s lo (hiZ hi) j
    rw [if_neg h9, if_neg h9]
    by_cases h10 : c = 94 ∨ c = 36
    · rw [if_pos h10, if_pos h10]
      first | done | rfl
    rw [if_neg h10, if_neg h10]
    by_cases h11 : loneL.contains c = true
    · rw [if_pos h11, if_pos h11]
      first | done | rfl
    rw [if_neg h11, if_neg h11]
    first | done | rfl
end Go.Proofs.YtimcmnnfpomnbaaGreatDoor
/- Tokens: a pattern that is taken is of the same tokens where a par follows. No program in sight. -/
namespace Go.Proofs.YtimcmnnfpomnbaaGreatDoor
set_option maxRecDepth 100000
abbrev par (p q : List Nat) : List Nat := p ++ 41 :: q
theorem get_par {p q : List Nat} {i c : Nat} (h : p[i]? = some c) : (par p q)[i]? = some c := by
  rw [List.getElem?_append_left (get_lt h)]
  exact h
theorem par_end (p q : List Nat) : (par p q)[p.length]? = some 41 := by
  rw [List.getElem?_append_right (Nat.le_refl _), Nat.sub_self]
  rfl
theorem eq_par {p q : List Nat} {i c : Nat} (hi : i ≤ p.length) (hc : c ≠ 41) : ((par p q)[i]? = some c) = (p[i]? = some c) := by
  apply propext
  rcases Nat.lt_or_ge i p.length with h | h
  · rw [List.getElem?_append_left h]
  · obtain rfl : i = p.length := by omega
    rw [par_end, List.getElem?_eq_none (Nat.le_refl _)]
    constructor
    · intro e
      injection e with e
      omega
    · intro e
      cases e
theorem hexAt_par {p q : List Nat} {i d : Nat} (h : hexAt p i = some d) : hexAt (par p q) i = some d := by
  unfold hexAt at h ⊢
  cases hc : p[i]? with
  | none => rw [hc] at h; cases h
  | some c => rw [get_par hc, ← hc]; exact h
theorem escM_par {p q : List Nat} {i : Nat} {m : Nat → Bool} {j : Nat} (h : escM p i = .ok m j) : escM (par p q) i = .ok m j := by
  unfold escM at h ⊢
  cases hc : p[i + 1]? with
  | none => rw [hc] at h; cases h
  | some c =>
    rw [hc] at h
    rw [get_par hc]
    dsimp only at h ⊢
    by_cases h1 : specialL.contains c = true
    · rw [if_pos h1] at h ⊢
      exact h
    · rw [if_neg h1] at h ⊢
      cases hn : namedM c with
      | some m' => rw [hn] at h; exact h
      | none =>
        rw [hn] at h
        dsimp only at h ⊢
        by_cases h2 : c = 120
        · rw [if_pos h2] at h ⊢
          cases h3 : hexAt p (i + 2) with
          | none => rw [h3] at h; cases h
          | some d =>
            rw [h3] at h
            rw [hexAt_par h3]
            dsimp only at h ⊢
            cases h4 : hexAt p (i + 3) with
            | none => rw [h4] at h; cases h
            | some d2 =>
              rw [h4] at h
              rw [hexAt_par h4]
              exact h
        · rw [if_neg h2] at h ⊢
          exact h
theorem itemM_par {p q : List Nat} {i : Nat} {m : Nat → Bool} {j : Nat} (h : itemM p i = .ok m j) : itemM (par p q) i = .ok m j := by
  unfold itemM at h ⊢
  cases hc : p[i]? with
  | none => rw [hc] at h; cases h
  | some c =>
    rw [hc] at h
    rw [get_par hc]
    dsimp only at h ⊢
    split at h
    · cases h
    · rename_i h1
      rw [if_neg h1]
      split at h
      · rename_i h2
        rw [if_pos h2]
        exact escM_par h
      · rename_i h2
        rw [if_neg h2]
        exact h
theorem spanM_par {p q : List Nat} {i : Nat} {m : Nat → Bool} {j : Nat} (h : spanM p i = .ok m j) : spanM (par p q) i = .ok m j := by
  unfold spanM at h ⊢
  cases h1 : itemM p i with
  | err k e => rw [h1] at h; cases h
  | ok lo k =>
    have hk := itemM_le h1
    rw [h1] at h
    rw [itemM_par h1]
    dsimp only at h ⊢
    simp only [eq_par (q := q) hk.2 (show 45 ≠ 41 by decide)]
    split at h
    · rename_i h45
      rw [if_pos h45]
      cases ha : onlyM lo with
      | none => rw [ha] at h; cases h
      | some a =>
        rw [ha] at h
        dsimp only at h ⊢
        cases h2 : itemM p (k + 1) with
        | err k e => rw [h2] at h; cases h
        | ok hi n =>
          rw [h2] at h
          rw [itemM_par h2]
          exact h
    · rename_i h45
      rw [if_neg h45]
      exact h
theorem classLoop_par {p q : List Nat} : ∀ (f f' i : Nat) (m m' : Nat → Bool) (j : Nat), f ≤ f' → i ≤ p.length → classLoop p f m i = .ok m' j → classLoop (par p q) f' m i = .ok m' j := by
  intro f
  induction f with
  | zero => intro f' i m m' j _ _ h; cases h
  | succ f ih =>
    intro f' i m m' j hf hi h
    obtain ⟨f', rfl⟩ : ∃ g, f' = g + 1 := ⟨f' - 1, by omega⟩
    unfold classLoop at h ⊢
    simp only [eq_par (q := q) hi (show 93 ≠ 41 by decide)]
    split at h
    · rename_i h1
      rw [if_pos h1]
      exact h
    · rename_i h1
      rw [if_neg h1]
      cases hs : spanM p i with
      | err k e => rw [hs] at h; cases h
      | ok m2 k =>
        rw [hs] at h
        rw [spanM_par hs]
        exact ih f' k _ m' j (by omega) (spanM_le hs).2 h
theorem classBody_par {p q : List Nat} {i : Nat} {m : Nat → Bool} {j : Nat} (h : classBody p i = .ok m j) : classBody (par p q) i = .ok m j := by
  unfold classBody at h ⊢
  cases hs : spanM p i with
  | err k e => rw [hs] at h; cases h
  | ok m2 k =>
    rw [hs] at h
    rw [spanM_par hs]
    exact classLoop_par _ _ k m2 m j (by simp; omega) (spanM_le hs).2 h
theorem classM_par {p q : List Nat} {i : Nat} {m : Nat → Bool} {j : Nat} (hi : i < p.length) (h : classM p i = .ok m j) : classM (par p q) i = .ok m j := by
  unfold classM at h ⊢
  simp only [eq_par (q := q) (show i + 1 ≤ p.length from hi) (show 94 ≠ 41 by decide)]
  split at h
  · rename_i h1
    rw [if_pos h1]
    cases hb : classBody p (i + 2) with
    | err k e => rw [hb] at h; cases h
    | ok m2 k =>
      rw [hb] at h
      rw [classBody_par hb]
      exact h
  · rename_i h1
    rw [if_neg h1]
    exact classBody_par h
theorem digitAt_par {p q : List Nat} {i : Nat} (hi : i ≤ p.length) : digitAt (par p q) i = digitAt p i := by
  unfold digitAt
  rcases Nat.lt_or_ge i p.length with h | h
  · rw [List.getElem?_append_left h]
  · obtain rfl : i = p.length := by omega
    rw [par_end, List.getElem?_eq_none (Nat.le_refl _)]
    rfl
theorem numLoop_par {p q : List Nat} : ∀ (d i f f' n : Nat), p.length - i ≤ d → i ≤ p.length → d ≤ f → d ≤ f' → numLoop (par p q) f' n i = numLoop p f n i := by
  intro d
  induction d with
  | zero =>
    intro i f f' n h hi _ _
    obtain rfl : i = p.length := by omega
    have hn : digitAt p p.length = none := by unfold digitAt; rw [List.getElem?_eq_none (Nat.le_refl _)]; rfl
    have hn' : digitAt (par p q) p.length = none := by rw [digitAt_par (Nat.le_refl _), hn]
    cases f with
    | zero =>
      cases f' with
      | zero => rfl
      | succ f' => unfold numLoop; rw [hn']
    | succ f =>
      cases f' with
      | zero => unfold numLoop; rw [hn]
      | succ f' => unfold numLoop; rw [hn, hn']
  | succ d ih =>
    intro i f f' n h hi h1 h2
    obtain ⟨f, rfl⟩ : ∃ g, f = g + 1 := ⟨f - 1, by omega⟩
    obtain ⟨f', rfl⟩ : ∃ g, f' = g + 1 := ⟨f' - 1, by omega⟩
    unfold numLoop
    rw [digitAt_par hi]
    cases hd : digitAt p i with
    | none => rfl
    | some x =>
      have := digitAt_lt hd
      exact ih (i + 1) f f' _ (by omega) (by omega) (by omega) (by omega)
theorem numberM_par {p q : List Nat} {i : Nat} (hi : i ≤ p.length) : numberM (par p q) i = numberM p i := by
  unfold numberM
  rw [digitAt_par hi]
  cases digitAt p i with
  | none => rfl
  | some d =>
    dsimp only
    rw [numLoop_par (p.length - i) i (p.length - i) ((par p q).length - i) 0 (Nat.le_refl _) hi (Nat.le_refl _) (by simp; omega)]
theorem bracesM_par {p q : List Nat} {i : Nat} {v : Nat × Option Nat} {j : Nat} (hi : i ≤ p.length) (h : bracesM p i = .ok v j) : bracesM (par p q) i = .ok v j := by
  unfold bracesM at h ⊢
  rw [numberM_par hi]
  cases h1 : numberM p i with
  | err k e => rw [h1] at h; cases h
  | ok lo k =>
    have hk := numberM_le h1
    rw [h1] at h
    dsimp only at h ⊢
    simp only [eq_par (q := q) hk.2 (show 44 ≠ 41 by decide), eq_par (q := q) hk.2 (show 125 ≠ 41 by decide)]
    split at h
    · rename_i h2
      have hk1 := get_lt h2
      rw [if_pos h2]
      simp only [eq_par (q := q) (show k + 1 ≤ p.length from hk1) (show 125 ≠ 41 by decide), numberM_par (q := q) (show k + 1 ≤ p.length from hk1)]
      split at h
      · rename_i h3
        rw [if_pos h3]
        exact h
      · rename_i h3
        rw [if_neg h3]
        cases h4 : numberM p (k + 1) with
        | err n e => rw [h4] at h; cases h
        | ok hi n =>
          have hn := numberM_le h4
          rw [h4] at h
          dsimp only at h ⊢
          simp only [eq_par (q := q) hn.2 (show 125 ≠ 41 by decide)]
          exact h
    · rename_i h2
      rw [if_neg h2]
      exact h
theorem lazyM_par {p q : List Nat} {lo : Nat} {hi : Int} {i : Nat} (hl : i ≤ p.length) : lazyM (par p q) lo hi i = lazyM p lo hi i := by
  unfold lazyM
  simp only [eq_par (q := q) hl (show 63 ≠ 41 by decide)]
  by_cases h : p[i]? = some 63
  · have := get_lt h
    simp only [h, if_true, eq_par (q := q) (show i + 1 ≤ p.length from this) (show 43 ≠ 41 by decide)]
  · simp only [h, if_false, eq_par (q := q) hl (show 43 ≠ 41 by decide)]
theorem groupM_par {p q : List Nat} {i : Nat} (hi : i < p.length) : groupM (par p q) i = groupM p i := by
  unfold groupM
  simp only [eq_par (q := q) (show i + 1 ≤ p.length from hi) (show 63 ≠ 41 by decide)]
  by_cases h : p[i + 1]? = some 63
  · have := get_lt h
    simp only [h, if_true, eq_par (q := q) (show i + 2 ≤ p.length from this) (show 58 ≠ 41 by decide)]
  · simp only [h, if_false]
theorem setRes_par {r r' : Res (Nat → Bool)} {x : Tok} {j : Nat} (h : setRes r = .ok x j) (hr : ∀ m k, r = .ok m k → r' = .ok m k) : setRes r' = .ok x j := by
  cases r with
  | err k e => cases h
  | ok m k => rw [hr m k rfl]; exact h
theorem tokM_par {p q : List Nat} {i : Nat} {x : Tok} {j : Nat} (h : tokM p i = .ok x j) : tokM (par p q) i = .ok x j := by
  unfold tokM at h ⊢
  cases hc : p[i]? with
  | none => rw [hc] at h; cases h
  | some c =>
    have hl := get_lt hc
    rw [hc] at h
    rw [get_par hc]
    dsimp only at h ⊢
    simp only [lazyM_par (q := q) (show i + 1 ≤ p.length from hl), groupM_par (q := q) hl]
    by_cases h1 : c = 92
    · rw [if_pos h1] at h ⊢
      exact setRes_par h fun m k e => escM_par e
    rw [if_neg h1] at h ⊢
    by_cases h2 : c = 91
    · rw [if_pos h2] at h ⊢
      exact setRes_par h fun m k e => classM_par hl e
    rw [if_neg h2] at h ⊢
    by_cases h3 : c = 123
    · subst h3
      simp only [show ¬(123 : Nat) = 40 by decide, show ¬(123 : Nat) = 41 by decide, show ¬(123 : Nat) = 124 by decide, show ¬(123 : Nat) = 46 by decide, show ¬(123 : Nat) = 42 by decide, show ¬(123 : Nat) = 43 by decide, show ¬(123 : Nat) = 63 by decide, if_false, if_true] at h ⊢
      cases hb : bracesM p (i + 1) with
      | err k e => rw [hb] at h; cases h
      | ok v k =>
        rw [hb] at h
        rw [bracesM_par hl hb]
        obtain ⟨lo, hi⟩ := v
        dsimp only at h ⊢
        rw [lazyM_par (bracesM_le hb).2]
        exact h
    · simp only [if_neg h3] at h ⊢
      exact h
end Go.Proofs.YtimcmnnfpomnbaaGreatDoor
/- A pattern in one more group: its tokens, its tree. Plain. -/
namespace Go.Proofs.YtimcmnnfpomnbaaGreatDoor
set_option maxRecDepth 100000
mutual
/-- A tree without its places. -/
def stripT : Tree → Tree
  | .mk k s lo hi z kids _ _ => .mk k s lo hi z (stripL kids) 0 0
def stripL : List Tree → List Tree
  | [] => []
  | n :: l => stripT n :: stripL l
end
theorem stripL_append (l r : List Tree) : stripL (l ++ r) = stripL l ++ stripL r := by
  induction l with
  | nil => rfl
  | cons n l ih => simp only [List.cons_append, stripL, ih]
mutual
theorem core_strip : ∀ n : Tree, coreT (stripT n) = coreT n
  | .mk k s lo hi z kids f t => by simp only [stripT, coreT, core_stripL kids]
theorem core_stripL : ∀ l : List Tree, coreL (stripL l) = coreL l
  | [] => rfl
  | n :: l => by simp only [stripL, coreL, core_strip n, core_stripL l]
end
mutual
theorem coreN_strip : ∀ n : Tree, coreN (stripT n) = coreN n
  | .mk k s lo hi z kids f t => by simp only [stripT, coreN, coreN_stripL kids]
theorem coreN_stripL : ∀ l : List Tree, coreNL (stripL l) = coreNL l
  | [] => rfl
  | n :: l => by simp only [stripL, coreNL, coreN_strip n, coreN_stripL l]
end
theorem core_same {n m : Tree} (h : stripT n = stripT m) : coreT n = coreT m := by rw [← core_strip n, h, core_strip]
theorem coreN_same {n m : Tree} (h : stripT n = stripT m) : coreN n = coreN m := by rw [← coreN_strip n, h, coreN_strip]
theorem many_strip {k : Int} {l r : List Tree} (h : stripL l = stripL r) : stripT (manyT k l) = stripT (manyT k r) := by
  unfold manyT
  match l, r, h with
  | [], [], _ => rfl
  | [], b :: r, h => cases h
  | a :: l, [], h => cases h
  | [a], [b], h =>
    simp only [stripL] at h
    injection h with h _
  | [a], b :: c :: r, h => simp [stripL] at h
  | a :: b :: l, [c], h => simp [stripL] at h
  | a :: b :: l, c :: d :: r, h => simp only [stripT, h]
theorem group_strip {x y : Tk} (hk : x.1.kind = y.1.kind) {n m : Tree} (h : stripT n = stripT m) (s t : Nat) : stripT (groupT x n s) = stripT (groupT y m t) := by
  unfold groupT
  simp only [stripT, stripL, h, hk]
theorem rep_strip {x y c : Tk} (d : Tk) (hc : c.1 = d.1) {n m : Tree} (h : stripT n = stripT m) : stripT (repT x c n) = stripT (repT y d m) := by
  unfold repT
  simp only [stripT, stripL, h, hc]
theorem strip_len : ∀ {l r : List Tree}, stripL l = stripL r → l.length = r.length
  | [], [], _ => rfl
  | [], b :: r, h => by cases h
  | a :: l, [], h => by cases h
  | a :: l, b :: r, h => by
    simp only [stripL] at h
    injection h with _ h
    simp only [List.length_cons, strip_len h]
/-- A token, one byte further. -/
def shK (x : Tk) : Tk := (x.1, x.2.1 + 1, x.2.2 + 1)
def wrapT (T : List Tk) (e : Nat) : List Tk := (kindTok 1, 0, 1) :: (T.map shK ++ [(kindTok 3, e, e + 1)])
section
variable {T : List Tk} {e size size' : Nat}
theorem wrap_length : (wrapT T e).length = T.length + 2 := by simp [wrapT]
theorem wrap_some {i : Nat} {x : Tk} (h : T[i]? = some x) : (wrapT T e)[i + 1]? = some (shK x) := by
  have hi := (List.getElem?_eq_some_iff.1 h).1
  unfold wrapT
  rw [List.getElem?_cons_succ, List.getElem?_append_left (by simpa using hi), List.getElem?_map, h]
  rfl
theorem wrap_end : (wrapT T e)[T.length + 1]? = some (kindTok 3, e, e + 1) := by
  unfold wrapT
  rw [List.getElem?_cons_succ, List.getElem?_append_right (by simp)]
  simp
theorem wrap_kind {i : Nat} (hi : i ≤ T.length) : kindAt (wrapT T e) (i + 1) = if i < T.length then kindAt T i else some 3 := by
  by_cases h : i < T.length
  · rw [if_pos h]
    have hx := List.getElem?_eq_getElem h
    unfold kindAt
    rw [wrap_some hx, hx]
    rfl
  · rw [if_neg h]
    obtain rfl : i = T.length := by omega
    unfold kindAt
    rw [wrap_end]
    rfl
def AltSh (T : List Tk) (e size size' n : Nat) : Prop := ∀ (d i j : Nat) (t : Tree), altF T size n d i = .ok t j → d + deepT t < 200 → i ≤ T.length → T.length - i < n →
  ∃ t', altF (wrapT T e) size' (n + 1) (d + 1) (i + 1) = .ok t' (j + 1) ∧ stripT t = stripT t'
theorem base_sh {n d q k0 : Nat} {x : Tk} {n0 : Tree} (hg : AltSh T e size size' n) (hb : baseW T size (altF T size n) d q x = .ok n0 k0) (hq : q < T.length) (hn : T.length - q ≤ n) (hd : d + deepT n0 < 200) :
    ∃ m0, baseW (wrapT T e) size' (altF (wrapT T e) size' (n + 1)) (d + 1) (q + 1) (shK x) = .ok m0 (k0 + 1) ∧ stripT n0 = stripT m0 := by
  rcases base_parts hb with ⟨h0, rfl, rfl⟩ | ⟨h12, n1, m, y, hr, hy, hy3, rfl, rfl⟩
  · refine ⟨leafT (shK x), ?_, rfl⟩
    unfold baseW
    rw [if_pos (show (shK x).1.kind = 0 from h0)]
  · have hgd : deepT (groupT x n1 y.2.2) = deepT n1 + 1 := by
      unfold groupT
      rw [deepT]
      split
      · rw [if_pos (.inr rfl)]; simp [deepL]
      · rw [if_pos (.inl rfl)]; simp [deepL]
    rw [hgd] at hd
    obtain ⟨t', ht, hs⟩ := hg (d + 1) (q + 1) m n1 hr (by omega) (by omega) (by omega)
    refine ⟨groupT (shK x) t' (shK y).2.2, ?_, group_strip (x := x) (y := shK x) rfl hs y.2.2 (shK y).2.2⟩
    have h12' : (shK x).1.kind = 1 ∨ (shK x).1.kind = 2 := h12
    unfold baseW
    rw [if_neg (by omega), if_pos h12']
    unfold groupW
    rw [if_neg (by omega), ht]
    simp only []
    rw [wrap_some hy]
    simp only []
    rw [if_pos (show (shK y).1.kind = 3 from hy3)]
theorem item_sh {n d q k : Nat} {x : Tk} {t : Tree} (hx : T[q]? = some x) (hg : AltSh T e size size' n) (hb : itemW T size (altF T size n) d q x = .ok t k) (hn : T.length - q ≤ n) (hkl : k ≤ T.length) (hd : d + deepT t < 200) :
    ∃ t', itemW (wrapT T e) size' (altF (wrapT T e) size' (n + 1)) (d + 1) (q + 1) (shK x) = .ok t' (k + 1) ∧ stripT t = stripT t' := by
  have hq := (List.getElem?_eq_some_iff.1 hx).1
  obtain ⟨n0, k0, hbase, hp⟩ := item_parts hb
  rcases hp with ⟨c, hc, hc5, rfl, rfl⟩ | ⟨hno, rfl, rfl⟩
  · have hrd : deepT (repT x c n0) = deepT n0 := by
      unfold repT
      rw [deepT, if_neg (by omega)]
      simp [deepL]
    rw [hrd] at hd
    obtain ⟨m0, hm, hs⟩ := base_sh hg hbase hq hn hd
    refine ⟨repT (shK x) (shK c) m0, ?_, rep_strip (x := x) (y := shK x) (c := c) (shK c) rfl hs⟩
    unfold itemW
    rw [hm]
    simp only []
    rw [wrap_some hc]
    simp only []
    rw [if_pos (show (shK c).1.kind = 5 from hc5)]
  · obtain ⟨m0, hm, hs⟩ := base_sh hg hbase hq hn hd
    refine ⟨m0, ?_, hs⟩
    unfold itemW
    rw [hm]
    simp only []
    rcases Nat.lt_or_ge k T.length with h | h
    · have hc := List.getElem?_eq_getElem h
      rw [wrap_some hc]
      simp only []
      rw [if_neg (show ¬(shK T[k]).1.kind = 5 from hno T[k] hc)]
    · obtain rfl : k = T.length := by omega
      rw [wrap_end]
      simp only []
      rw [if_neg (by simp [kindTok])]
theorem cat_pref {rec : Nat → Nat → PRes} {d : Nat} : ∀ (f q : Nat) (l L : List Tree) (J : Nat), catLoop T size rec d f l q = .ok L J → ∃ r, L = l ++ r := by
  intro f
  induction f with
  | zero =>
    intro q l L J h
    unfold catLoop at h
    injection h with h1 _
    exact ⟨[], by rw [h1, List.append_nil]⟩
  | succ f ih =>
    intro q l L J h
    unfold catLoop at h
    cases hx : T[q]? with
    | none => rw [hx] at h; injection h with h1 _; exact ⟨[], by rw [h1, List.append_nil]⟩
    | some x =>
      rw [hx] at h
      simp only [] at h
      split at h
      · injection h with h1 _
        exact ⟨[], by rw [h1, List.append_nil]⟩
      · cases hi : itemW T size rec d q x with
        | err p e => rw [hi] at h; cases h
        | ok t k =>
          rw [hi] at h
          obtain ⟨r, hr⟩ := ih k _ L J h
          exact ⟨t :: r, by rw [hr, List.append_assoc]; rfl⟩
theorem cat_sh {n d : Nat} (hg : AltSh T e size size' n) : ∀ (f f' q : Nat) (l l' L : List Tree) (J : Nat), q ≤ T.length → T.length - q ≤ n → T.length - q < f → f ≤ f' → stripL l = stripL l' → d + deepL L < 200 →
    catLoop T size (altF T size n) d f l q = .ok L J → ∃ L', catLoop (wrapT T e) size' (altF (wrapT T e) size' (n + 1)) (d + 1) f' l' (q + 1) = .ok L' (J + 1) ∧ stripL L = stripL L' := by
  intro f
  induction f with
  | zero => intro f' q l l' L J hq hn hf; omega
  | succ f ih =>
    intro f' q l l' L J hq hn hf hff hl hd hc
    obtain ⟨f', rfl⟩ : ∃ g, f' = g + 1 := ⟨f' - 1, by omega⟩
    have hpre := hc
    unfold catLoop at hc ⊢
    cases hx : T[q]? with
    | none =>
      rw [hx] at hc
      injection hc with h1 h2
      subst h1
      subst h2
      obtain rfl : q = T.length := by have := List.getElem?_eq_none_iff.1 hx; omega
      rw [wrap_end]
      simp only []
      rw [if_pos (by simp [kindTok])]
      exact ⟨l', rfl, hl⟩
    | some x =>
      rw [hx] at hc
      rw [wrap_some hx]
      simp only [] at hc ⊢
      have hql := (List.getElem?_eq_some_iff.1 hx).1
      have hsk : (shK x).1.kind = x.1.kind := rfl
      by_cases hk : x.1.kind = 4 ∨ x.1.kind = 3
      · rw [if_pos hk] at hc
        rw [if_pos (by rw [hsk]; exact hk)]
        injection hc with h1 h2
        subst h1
        subst h2
        exact ⟨l', rfl, hl⟩
      · rw [if_neg hk] at hc
        rw [if_neg (by rw [hsk]; exact hk)]
        cases hi : itemW T size (altF T size n) d q x with
        | err p e => rw [hi] at hc; cases hc
        | ok t k =>
          rw [hi] at hc
          simp only [] at hc
          have hrec : EvenA T (q + 1) (altF T size n (d + 1) (q + 1)) := altF_even n (d + 1) (q + 1) (by omega) (by omega)
          have he := item_even (size := size) hx (fun h => hk (.inr h)) (fun h => hk (.inl h)) hrec
          rw [hi] at he
          obtain ⟨r, hr⟩ := cat_pref f k (l ++ [t]) L J hc
          have hdt : deepT t ≤ deepL L := deepL_mem (by rw [hr]; simp)
          obtain ⟨t', h1, h2⟩ := item_sh hx hg hi hn he.2.1 (by omega)
          rw [h1]
          simp only []
          exact ih f' k (l ++ [t]) (l' ++ [t']) L J he.2.1 (by have := he.1; omega) (by have := he.1; omega) (by omega) (by rw [stripL_append, stripL_append, hl]; simp only [stripL, h2]) hd hc
theorem deep_many (k : Int) (hk : k ≠ 2 ∧ k ≠ 3) (l : List Tree) : deepT (manyT k l) = deepL l := by
  unfold manyT
  split
  · simp [deepL]
  · rw [deepT, if_neg (by omega)]
theorem catW_sh {n d i j : Nat} {t : Tree} (hg : AltSh T e size size' n) (hi : i ≤ T.length) (hn : T.length - i ≤ n) (hd : d + deepT t < 200) (h : catW T size (altF T size n) d i = .ok t j) :
    ∃ t', catW (wrapT T e) size' (altF (wrapT T e) size' (n + 1)) (d + 1) (i + 1) = .ok t' (j + 1) ∧ stripT t = stripT t' := by
  unfold catW at h ⊢
  cases hc : catLoop T size (altF T size n) d (T.length + 1 - i) [] i with
  | err p e => rw [hc] at h; cases h
  | ok L J =>
    rw [hc] at h
    have hf : (wrapT T e).length + 1 - (i + 1) = T.length + 2 - i := by rw [wrap_length]; omega
    cases L with
    | nil =>
      simp only [catEnd] at h
      injection h with h1 h2
      subst h1
      subst h2
      obtain ⟨L', h3, h4⟩ := cat_sh (d := d) hg (T.length + 1 - i) (T.length + 2 - i) i [] [] [] J hi hn (by omega) (by omega) rfl (by simpa [emptyT, deepT, deepL] using hd) hc
      rw [hf, h3]
      cases L' with
      | cons a L' => cases h4
      | nil => exact ⟨_, rfl, rfl⟩
    | cons a L =>
      simp only [catEnd] at h
      injection h with h1 h2
      subst h1
      subst h2
      rw [deep_many 4 (by omega)] at hd
      obtain ⟨L', h3, h4⟩ := cat_sh (d := d) hg (T.length + 1 - i) (T.length + 2 - i) i [] [] (a :: L) J hi hn (by omega) (by omega) rfl hd hc
      rw [hf, h3]
      cases L' with
      | nil => cases h4
      | cons b L' => exact ⟨_, rfl, many_strip h4⟩
theorem alt_pref {rec : Nat → Nat → PRes} {d : Nat} : ∀ (f q : Nat) (l L : List Tree) (J : Nat), altLoop T size rec d f l q = .ok L J → ∃ r, L = l ++ r := by
  intro f
  induction f with
  | zero =>
    intro q l L J h
    unfold altLoop at h
    injection h with h1 _
    exact ⟨[], by rw [h1, List.append_nil]⟩
  | succ f ih =>
    intro q l L J h
    unfold altLoop at h
    split at h
    · cases hi : catW T size rec d (q + 1) with
      | err p e => rw [hi] at h; cases h
      | ok t k =>
        rw [hi] at h
        obtain ⟨r, hr⟩ := ih k _ L J h
        exact ⟨t :: r, by rw [hr, List.append_assoc]; rfl⟩
    · injection h with h1 _
      exact ⟨[], by rw [h1, List.append_nil]⟩
theorem alt_sh {n d : Nat} (hg : AltSh T e size size' n) : ∀ (f f' q : Nat) (l l' L : List Tree) (J : Nat), q ≤ T.length → T.length - q ≤ n → T.length - q < f → f ≤ f' → stripL l = stripL l' → d + deepL L < 200 →
    altLoop T size (altF T size n) d f l q = .ok L J → ∃ L', altLoop (wrapT T e) size' (altF (wrapT T e) size' (n + 1)) (d + 1) f' l' (q + 1) = .ok L' (J + 1) ∧ stripL L = stripL L' := by
  intro f
  induction f with
  | zero => intro f' q l l' L J hq hn hf; omega
  | succ f ih =>
    intro f' q l l' L J hq hn hf hff hl hd hc
    obtain ⟨f', rfl⟩ : ∃ g, f' = g + 1 := ⟨f' - 1, by omega⟩
    unfold altLoop at hc ⊢
    rw [wrap_kind hq]
    by_cases hk : kindAt T q = some 4
    · have hql : q < T.length := by
        unfold kindAt at hk
        cases hx : T[q]? with
        | none => rw [hx] at hk; cases hk
        | some x => exact (List.getElem?_eq_some_iff.1 hx).1
      rw [if_pos hk] at hc
      rw [if_pos hql, if_pos hk]
      cases hcw : catW T size (altF T size n) d (q + 1) with
      | err p e => rw [hcw] at hc; cases hc
      | ok t k =>
        rw [hcw] at hc
        simp only [] at hc
        have he := catW_even (T := T) (size := size) (rec := altF T size n) (d := d) (i := q + 1) (by omega) (fun k h1 h2 => altF_even n (d + 1) (k + 1) h2 (by omega))
        rw [hcw] at he
        obtain ⟨r, hr⟩ := alt_pref f k (l ++ [t]) L J hc
        have hdt : deepT t ≤ deepL L := deepL_mem (by rw [hr]; simp)
        obtain ⟨t', h1, h2⟩ := catW_sh hg (by omega) (by omega) (by omega) hcw
        rw [h1]
        simp only []
        have hle : q + 1 ≤ k := he.2.1.le
        exact ih f' k (l ++ [t]) (l' ++ [t']) L J he.1 (by omega) (by omega) (by omega) (by rw [stripL_append, stripL_append, hl]; simp only [stripL, h2]) hd hc
    · rw [if_neg hk] at hc
      injection hc with h1 h2
      subst h1
      subst h2
      rw [if_neg (by split; exact hk; decide)]
      exact ⟨l', rfl, hl⟩
theorem altF_sh : ∀ n, AltSh T e size size' n := by
  intro n
  induction n with
  | zero => intro d i j t h hd hi hn; omega
  | succ n ih =>
    intro d i j t h hd hi hn
    change altW T size (altF T size n) d i = .ok t j at h
    show ∃ t', altW (wrapT T e) size' (altF (wrapT T e) size' (n + 1)) (d + 1) (i + 1) = .ok t' (j + 1) ∧ stripT t = stripT t'
    unfold altW at h ⊢
    cases hcw : catW T size (altF T size n) d i with
    | err p q => rw [hcw] at h; cases h
    | ok t0 k =>
      rw [hcw] at h
      simp only [] at h
      have he := catW_even (T := T) (size := size) (rec := altF T size n) (d := d) hi (fun k h1 h2 => altF_even n (d + 1) (k + 1) h2 (by omega))
      rw [hcw] at he
      have hle : i ≤ k := he.2.1.le
      cases ha : altLoop T size (altF T size n) d (T.length + 1 - k) [t0] k with
      | err p q => rw [ha] at h; cases h
      | ok L J =>
        rw [ha] at h
        simp only [altEnd] at h
        injection h with e1 e2
        subst e1
        subst e2
        rw [deep_many 5 (by omega)] at hd
        obtain ⟨r, hr⟩ := alt_pref _ _ _ _ _ ha
        have hdt : deepT t0 ≤ deepL L := deepL_mem (by rw [hr]; simp)
        obtain ⟨t0', h1, h2⟩ := catW_sh (size' := size') (e := e) ih hi (by omega) (by omega) hcw
        obtain ⟨L', h3, h4⟩ := alt_sh (size' := size') (e := e) ih (T.length + 1 - k) (T.length + 2 - k) k [t0] [t0'] L J he.1 (by omega) (by omega) (by omega) (by simp only [stripL, h2]) hd ha
        rw [h1]
        simp only []
        rw [show (wrapT T e).length + 1 - (k + 1) = T.length + 2 - k by rw [wrap_length]; omega, h3]
        exact ⟨_, rfl, many_strip h4⟩
/-- All tokens in one more group. -/
theorem tree_sh {t : Tree} {j : Nat} (h : treeM T size = .ok t j) (hd : deepT t < 200) : ∃ g k, treeM (wrapT T e) size' = .ok g k ∧ coreT g = coreT t ∧ coreN g = coreN t := by
  unfold treeM at h
  cases ha : altF T size (T.length + 1) 0 0 with
  | err p q => rw [ha] at h; cases h
  | ok t1 j1 =>
    rw [ha] at h
    simp only [] at h
    have he := altF_even (T := T) (size := size) (T.length + 1) 0 0 (Nat.zero_le _) (by omega)
    rw [ha] at he
    cases hx : T[j1]? with
    | some x => rw [hx] at h; cases h
    | none =>
      rw [hx] at h
      simp only [] at h
      injection h with h1 h2
      subst h1
      subst h2
      obtain rfl : j1 = T.length := by
        have := he.2.1
        have := List.getElem?_eq_none_iff.1 hx
        omega
      obtain ⟨t', h3, h4⟩ := altF_sh (e := e) (size' := size') (T.length + 1) 0 0 _ _ ha (by omega) (Nat.zero_le _) (by omega)
      have hend : (wrapT T e)[T.length + 2]? = none := List.getElem?_eq_none (by rw [wrap_length]; omega)
      have h0 : (wrapT T e)[0]? = some (kindTok 1, 0, 1) := rfl
      have hgrp : groupW (wrapT T e) size' (altF (wrapT T e) size' (T.length + 2)) 0 0 (kindTok 1, 0, 1) = .ok (groupT (kindTok 1, 0, 1) t' (e + 1)) (T.length + 2) := by
        unfold groupW
        rw [if_neg (by omega), h3]
        simp only []
        rw [wrap_end]
        simp only []
        rw [if_pos (show (kindTok 3).kind = 3 from rfl)]
      have hitem : itemW (wrapT T e) size' (altF (wrapT T e) size' (T.length + 2)) 0 0 (kindTok 1, 0, 1) = .ok (groupT (kindTok 1, 0, 1) t' (e + 1)) (T.length + 2) := by
        unfold itemW baseW
        rw [if_neg (by simp [kindTok]), if_pos (.inl rfl), hgrp]
        simp only []
        rw [hend]
      have hcat : catW (wrapT T e) size' (altF (wrapT T e) size' (T.length + 2)) 0 0 = .ok (groupT (kindTok 1, 0, 1) t' (e + 1)) (T.length + 2) := by
        unfold catW
        rw [wrap_length, show T.length + 2 + 1 - 0 = (T.length + 1) + 1 + 1 by omega]
        unfold catLoop
        rw [h0]
        simp only []
        rw [if_neg (by simp [kindTok]), hitem]
        simp only []
        unfold catLoop
        rw [hend]
        rfl
      have halt : altF (wrapT T e) size' ((wrapT T e).length + 1) 0 0 = .ok (groupT (kindTok 1, 0, 1) t' (e + 1)) (T.length + 2) := by
        rw [wrap_length]
        show altW (wrapT T e) size' (altF (wrapT T e) size' (T.length + 2)) 0 0 = _
        unfold altW
        rw [hcat]
        simp only []
        have hk : kindAt (wrapT T e) (T.length + 2) = none := by unfold kindAt; rw [hend]; rfl
        rw [wrap_length, show T.length + 2 + 1 - (T.length + 2) = 0 + 1 by omega]
        unfold altLoop
        rw [hk, if_neg (by simp)]
        rfl
      refine ⟨groupT (kindTok 1, 0, 1) t' (e + 1), T.length + 2, ?_, ?_, ?_⟩
      · unfold treeM
        rw [halt]
        simp only []
        rw [hend]
      · rw [← core_same h4.symm]
        simp [groupT, kindTok, coreT, coreL, nodeC]
      · rw [← coreN_same h4.symm]
        simp [groupT, kindTok, coreN, coreNL, nodeN]
theorem first_no5 {t : Tree} {j : Nat} (h : treeM T size = .ok t j) {x : Tk} (hx : T[0]? = some x) : x.1.kind ≠ 5 := by
  intro h5
  unfold treeM at h
  have : altF T size (T.length + 1) 0 0 = .err x.2.1 4 := by
    show altW T size (altF T size T.length) 0 0 = _
    unfold altW catW
    rw [show T.length + 1 - 0 = T.length + 1 by omega]
    unfold catLoop
    rw [hx]
    simp only []
    rw [if_neg (by omega)]
    unfold itemW baseW
    rw [if_neg (by omega), if_neg (by omega)]
    rfl
  rw [this] at h
  cases h
end
theorem scan_pref {t : List Nat} : ∀ (f i : Nat) (l L : List Tk) (n : Nat), scanLoop t f i l = .ok L n → ∃ r, L = l ++ r := by
  intro f
  induction f with
  | zero =>
    intro i l L n h
    unfold scanLoop at h
    injection h with h1 _
    exact ⟨[], by rw [h1, List.append_nil]⟩
  | succ f ih =>
    intro i l L n h
    unfold scanLoop at h
    split at h
    · cases ht : tokM t i with
      | err p q => rw [ht] at h; cases h
      | ok x j =>
        rw [ht] at h
        obtain ⟨r, hr⟩ := ih j _ L n h
        exact ⟨(x, i, j) :: r, by rw [hr, List.append_assoc]; rfl⟩
    · injection h with h1 _
      exact ⟨[], by rw [h1, List.append_nil]⟩
abbrev inGrp (p : List Nat) : List Nat := [40] ++ par p []
theorem grp_tok {p : List Nat} {i : Nat} {x : Tok} {j : Nat} (h : tokM p i = .ok x j) : tokM (inGrp p) (i + 1) = .ok x (j + 1) := by
  have := tokM_shift [40] (par p []) i
  rw [tokM_par h] at this
  rw [show i + 1 = [40].length + i by simp; omega, this]
  simp only [Res.shift, List.length_singleton]
  rw [Nat.add_comm]
theorem grp_end (p : List Nat) : tokM (inGrp p) (p.length + 1) = .ok (kindTok 3) (p.length + 2) := by
  have hg : (inGrp p)[p.length + 1]? = some 41 := by
    rw [show p.length + 1 = [40].length + p.length by simp; omega, get_shift, par_end]
  unfold tokM
  rw [hg]
  simp only [show ¬(41 : Nat) = 92 by decide, show ¬(41 : Nat) = 91 by decide, show ¬(41 : Nat) = 40 by decide, if_false, if_true]
theorem grp_len (p : List Nat) : (inGrp p).length = p.length + 2 := by simp
theorem scan_sh {p : List Nat} (o : Tk) : ∀ (f f' i : Nat) (l L : List Tk) (n : Nat), i ≤ p.length → p.length - i < f → p.length + 1 - i < f' → scanLoop p f i l = .ok L n →
    scanLoop (inGrp p) f' (i + 1) (o :: l.map shK) = .ok (o :: (L.map shK ++ [(kindTok 3, p.length + 1, p.length + 1 + 1)])) (p.length + 2) := by
  intro f
  induction f with
  | zero => intro f' i l L n hi hf; omega
  | succ f ih =>
    intro f' i l L n hi hf hf' h
    obtain ⟨f', rfl⟩ : ∃ g, f' = g + 1 := ⟨f' - 1, by omega⟩
    unfold scanLoop at h ⊢
    rw [grp_len, if_pos (by omega)]
    by_cases hl : i < p.length
    · rw [if_pos hl] at h
      cases ht : tokM p i with
      | err a b => rw [ht] at h; cases h
      | ok x j =>
        rw [ht] at h
        simp only [] at h
        have hle := tokM_le ht
        rw [grp_tok ht]
        simp only []
        have := ih f' j (l ++ [(x, i, j)]) L n hle.2 (by omega) (by omega) h
        rw [List.map_append] at this
        exact this
    · rw [if_neg hl] at h
      injection h with h1 _
      subst h1
      obtain rfl : i = p.length := by omega
      rw [grp_end]
      simp only []
      cases f' with
      | zero => omega
      | succ f' =>
        unfold scanLoop
        rw [grp_len, if_neg (by omega)]
        rfl
theorem scan_grp {p : List Nat} {L : List Tk} {n : Nat} (h : scanM p = .ok L n) (h0 : p[0]? ≠ some 63) : scanM (inGrp p) = .ok (wrapT L (p.length + 1)) (p.length + 2) := by
  unfold scanM at h ⊢
  rw [grp_len]
  unfold scanLoop
  rw [grp_len, if_pos (by omega)]
  have ht : tokM (inGrp p) 0 = .ok (kindTok 1) 1 := by
    have h1 : (inGrp p)[0 + 1]? ≠ some 63 := by
      cases p with
      | nil => simp
      | cons a p => simpa using h0
    unfold tokM
    rw [show (inGrp p)[0]? = some 40 from rfl]
    simp only [show ¬(40 : Nat) = 92 by decide, show ¬(40 : Nat) = 91 by decide, if_false, if_true]
    unfold groupM
    rw [if_neg h1]
  rw [ht]
  simp only [List.nil_append]
  exact scan_sh (kindTok 1, 0, 1) (p.length + 1) (p.length + 2) 0 [] L n (Nat.zero_le _) (by omega) (by omega) h
theorem lazy_kind {t : List Nat} {lo : Nat} {hi : Int} {i : Nat} {x : Tok} {j : Nat} (h : lazyM t lo hi i = .ok x j) : x.kind = 5 := by
  unfold lazyM at h
  by_cases h1 : t[if t[i]? = some 63 then i + 1 else i]? = some 43
  · simp only [h1, if_true] at h
    cases h
  · simp only [h1, if_false] at h
    injection h with h _
    rw [← h]
def grpB8 (s : ByteArray) : ByteArray := { data := #[40] } ++ s ++ { data := #[41] }
theorem grp_bytes (s : ByteArray) : bytesN (grpB8 s) = inGrp (bytesN s) := by simp [bytesN, grpB8, inGrp, par]
/-- A pattern in one more group has the same core. -/
theorem parse_grp {s : ByteArray} {t : Tree} {j : Nat} (h : parseM s = .ok t j) (hd : deepT t < 200) : ∃ g k, parseM (grpB8 s) = .ok g k ∧ coreT g = coreT t ∧ coreN g = coreN t := by
  unfold parseM at h ⊢
  rw [grp_bytes]
  cases hs : scanM (bytesN s) with
  | err a b => rw [hs] at h; cases h
  | ok L n =>
    rw [hs] at h
    simp only [] at h
    have h0 : (bytesN s)[0]? ≠ some 63 := by
      intro e
      have hl := (List.getElem?_eq_some_iff.1 e).1
      unfold scanM at hs
      unfold scanLoop at hs
      rw [if_pos hl] at hs
      have hk : ∀ x k, tokM (bytesN s) 0 = .ok x k → x.kind = 5 := by
        intro x k hx
        unfold tokM at hx
        rw [e] at hx
        simp only [show ¬(63 : Nat) = 92 by decide, show ¬(63 : Nat) = 91 by decide, show ¬(63 : Nat) = 40 by decide, show ¬(63 : Nat) = 41 by decide, show ¬(63 : Nat) = 124 by decide, show ¬(63 : Nat) = 46 by decide, show ¬(63 : Nat) = 42 by decide, show ¬(63 : Nat) = 43 by decide, if_false, if_true] at hx
        exact lazy_kind hx
      cases ht : tokM (bytesN s) 0 with
      | err a b => rw [ht] at hs; cases hs
      | ok x k =>
        rw [ht] at hs
        simp only [List.nil_append] at hs
        obtain ⟨r, hr⟩ := scan_pref _ _ _ _ _ hs
        exact first_no5 h (x := (x, 0, k)) (by rw [hr]; rfl) (hk x k ht)
    rw [scan_grp hs h0]
    simp only []
    exact tree_sh h hd
end Go.Proofs.YtimcmnnfpomnbaaGreatDoor
/- What is measured of a tree's core is its size, if that isn't too great; a core's text is not too long: plain. -/
namespace Go.Proofs.YtimcmnnfpomnbaaGreatDoor
set_option maxRecDepth 100000
open Go.RowKit
theorem satA_low {a b B : Int} (h : satA a b ≤ B) (hB : B < mostI) (ha : 0 ≤ a) (hb : 0 ≤ b) : satA a b = a + b := by
  unfold satA lstI at *
  omega
theorem satM_low {a b B : Int} (h : satM a b ≤ B) (hB : B < mostI) (ha : 0 ≤ a) (hb : 0 ≤ b) : satM a b = a * b := by
  unfold satM lstI at *
  rw [Int.max_eq_left ha, Int.max_eq_left hb] at *
  omega
theorem sum_nn {l : List Int} (h : ∀ x ∈ l, 0 ≤ x) : 0 ≤ l.sum := by
  induction l with
  | nil => simp
  | cons a l ih =>
    rw [List.sum_cons]
    have := h a (by simp)
    have := ih fun x hx => h x (by simp [hx])
    omega
theorem mem_sum {l : List Int} (h : ∀ x ∈ l, 0 ≤ x) {x : Int} (hx : x ∈ l) : x ≤ l.sum := by
  induction l with
  | nil => cases hx
  | cons a l ih =>
    rw [List.sum_cons]
    have ha := h a (by simp)
    have hs := sum_nn fun x hx => h x (List.mem_cons_of_mem a hx)
    rcases List.mem_cons.1 hx with rfl | hx
    · omega
    · have := ih (fun x hx => h x (List.mem_cons_of_mem a hx)) hx
      omega
theorem fold_low {B : Int} (hB : B < mostI) : ∀ (l : List Int) (a : Int), 0 ≤ a → (∀ x ∈ l, 0 ≤ x) → l.foldl satA a ≤ B → l.foldl satA a = a + l.sum
  | [], a, _, _, _ => by simp
  | x :: l, a, ha, h, hl => by
    have hx := h x (by simp)
    have hs := sum_nn fun y hy => h y (List.mem_cons_of_mem x hy)
    rw [List.foldl_cons] at hl ⊢
    have ih := fold_low hB l (satA a x) (satA_rng a x).1 (fun y hy => h y (List.mem_cons_of_mem x hy)) hl
    rw [ih] at hl ⊢
    rw [satA_low (B := B) (by omega) hB ha hx, List.sum_cons]
    omega
theorem addL_low {B : Int} {l : List Int} (hB : B < mostI) (h : ∀ x ∈ l, 0 ≤ x) (hl : addL l ≤ B) : addL l = l.sum := by
  have := fold_low hB l 0 (Int.le_refl 0) h hl
  unfold addL at *
  omega
theorem mulL_low {a b B : Int} (hB : B < mostI) (ha : 0 ≤ a) (hb : 0 ≤ b) (h : mulL [a, b] ≤ B) : mulL [a, b] = a * b := by
  unfold mulL at *
  simp only [List.any_cons, List.any_nil, Bool.or_false, Bool.or_eq_true, decide_eq_true_eq, List.foldl_cons, List.foldl_nil] at *
  by_cases hz : a ≤ 0 ∨ b ≤ 0
  · rw [if_pos hz]
    rcases hz with h0 | h0
    · rw [show a = 0 by omega, Int.zero_mul]
    · rw [show b = 0 by omega, Int.mul_zero]
  · rw [if_neg hz] at h ⊢
    rw [satM_low h hB (satM_rng 1 a).1 hb]
    have h1 : satM 1 a = a := by
      have hle : satM 1 a ≤ mostI := (satM_rng 1 a).2
      by_cases hm : a ≤ mostI
      · unfold satM lstI
        rw [Int.max_eq_left (by omega), Int.max_eq_left ha, Int.one_mul]
        omega
      · exfalso
        have e : satM 1 a = mostI := by
          unfold satM lstI
          rw [Int.max_eq_left (by omega), Int.max_eq_left ha, Int.one_mul]
          omega
        rw [e] at h
        have : satM mostI b = mostI := by
          unfold satM lstI
          rw [Int.max_eq_left (by unfold mostI; omega), Int.max_eq_left hb]
          have : mostI * 1 ≤ mostI * b := Int.mul_le_mul_of_nonneg_left (by omega) (by unfold mostI; omega)
          omega
        omega
    rw [h1]
/-- The sizes of several. -/
def sizes (l : List CT) : List Int := l.map fun c => ((sizeC c : Nat) : Int)
theorem fold_size (join : CT → CT → CT) (hj : ∀ a b, sizeC (join a b) = 1 + sizeC a + sizeC b) : ∀ l : List CT, l ≠ [] → ((sizeC (foldC join l) : Nat) : Int) = (sizes l).sum + (l.length : Int) - 1
  | [], h => absurd rfl h
  | [x], _ => by simp [foldC, sizes]
  | x :: y :: l, _ => by
    have ih := fold_size join hj (y :: l) (by simp)
    rw [foldC_cons join x (by simp), hj]
    simp only [sizes, List.map_cons, List.sum_cons, List.length_cons] at ih ⊢
    omega
theorem choice_size (c : CT) (z : Bool) : sizeC (choiceC c z) = sizeC c + 2 := by
  unfold choiceC
  cases z <;> simp [sizeC] <;> omega
theorem choices_size (c : CT) (z : Bool) : ∀ n : Nat, sizeC (choicesC c z n) = (n + 1) * (sizeC c + 2) + n
  | 0 => by simp [choicesC, choice_size]
  | n + 1 => by
    rw [choicesC, choice_size, sizeC, choices_size c z n, Nat.succ_mul (n + 1)]
    omega
theorem rep_sum (a : Int) : ∀ n : Nat, (List.replicate n a).sum = (n : Int) * a
  | 0 => by simp
  | n + 1 => by
    rw [List.replicate_succ, List.sum_cons, rep_sum a n, Int.natCast_add, Int.add_mul]
    simp
    omega
theorem repeat_size {lo hi size B : Int} {c : CT} {z : Bool} (h0 : 0 ≤ lo) (hs : 0 ≤ size) (hB : B < mostI) (h : repeatedN lo hi size ≤ B) (hc : size ≤ B → ((sizeC c : Nat) : Int) = size) : ((sizeC (repeatC lo hi z c) : Nat) : Int) = repeatedN lo hi size := by
  have hjc : ∀ a b, sizeC (CT.cat a b) = 1 + sizeC a + sizeC b := fun _ _ => rfl
  obtain ⟨n, rfl⟩ := Int.eq_ofNat_of_zero_le h0
  unfold repeatC
  rw [Int.toNat_natCast]
  unfold repeatedN partsN tailN tailL at *
  by_cases h1 : hi = -1
  · simp only [h1, if_true] at h ⊢
    rw [if_neg (by omega)] at h ⊢
    have hts := addL_rng [size, 1]
    have hms := mulL_rng [(n : Int), size]
    have e1 := addL_low hB (by intro x hx; simp only [List.mem_cons, List.not_mem_nil, or_false] at hx; rcases hx with rfl | rfl | rfl <;> omega) h
    rw [e1] at h ⊢
    simp only [List.sum_cons, List.sum_nil] at h ⊢
    have e2 := addL_low (B := B) (l := [size, 1]) hB (by intro x hx; simp only [List.mem_cons, List.not_mem_nil, or_false] at hx; rcases hx with rfl | rfl <;> omega) (by omega)
    simp only [List.sum_cons, List.sum_nil] at e2
    have e3 := mulL_low (B := B) hB (by omega) hs (show mulL [(n : Int), size] ≤ B by omega)
    rw [e2] at h ⊢
    have hcs := hc (by omega)
    rw [fold_size _ hjc _ (by simp), e3]
    simp only [sizes, List.map_append, List.map_replicate, List.sum_append, List.map_cons, List.map_nil, List.sum_cons, List.sum_nil, List.length_append, List.length_replicate, List.length_singleton, rep_sum, sizeC, hcs]
    simp only [Int.natCast_add, hcs]
    omega
  · by_cases h2 : (n : Int) < hi
    · simp only [if_neg h1, if_pos h2, if_pos (show 0 < hi - (n : Int) by omega)] at h ⊢
      rw [if_neg (by omega)] at h ⊢
      obtain ⟨k, hk⟩ : ∃ k : Nat, hi - (n : Int) = (k : Int) + 1 := ⟨(hi - (n : Int) - 1).toNat, by omega⟩
      rw [hk] at h ⊢
      rw [show ((k : Int) + 1 - 1).toNat = k by omega]
      rw [show ((k : Int) + 1 - 1) = (k : Int) by omega] at h ⊢
      have hms := mulL_rng [(n : Int), size]
      have hts := addL_rng [size, 2]
      have hmk := mulL_rng [(k : Int) + 1, addL [size, 2]]
      have htt := addL_rng [mulL [(k : Int) + 1, addL [size, 2]], (k : Int)]
      have e1 := addL_low hB (by intro x hx; simp only [List.mem_cons, List.not_mem_nil, or_false] at hx; rcases hx with rfl | rfl | rfl <;> omega) h
      rw [e1] at h ⊢
      simp only [List.sum_cons, List.sum_nil] at h ⊢
      have e2 := addL_low (B := B) (l := [mulL [(k : Int) + 1, addL [size, 2]], (k : Int)]) hB (by intro x hx; simp only [List.mem_cons, List.not_mem_nil, or_false] at hx; rcases hx with rfl | rfl <;> omega) (by omega)
      rw [e2] at h ⊢
      simp only [List.sum_cons, List.sum_nil] at h ⊢
      have e3 := mulL_low (B := B) hB (by omega) hts.1 (show mulL [(k : Int) + 1, addL [size, 2]] ≤ B by omega)
      have e4 := mulL_low (B := B) hB (by omega) hs (show mulL [(n : Int), size] ≤ B by omega)
      have h5 : addL [size, 2] ≤ B := by
        have h6 : 1 * addL [size, 2] ≤ ((k : Int) + 1) * addL [size, 2] := Int.mul_le_mul_of_nonneg_right (by omega) hts.1
        omega
      have e5 := addL_low (B := B) (l := [size, 2]) hB (by intro x hx; simp only [List.mem_cons, List.not_mem_nil, or_false] at hx; rcases hx with rfl | rfl <;> omega) h5
      simp only [List.sum_cons, List.sum_nil] at e5
      have hcs := hc (by omega)
      rw [fold_size _ hjc _ (by simp), e3, e4, e5]
      simp only [sizes, List.map_append, List.map_replicate, List.sum_append, List.map_cons, List.map_nil, List.sum_cons, List.sum_nil, List.length_append, List.length_replicate, List.length_singleton, rep_sum, choices_size, hcs]
      simp only [Int.natCast_add, Int.natCast_mul, hcs]
      have e6 : (size + (2 + 0)) = size + 2 := by omega
      have e7 : (((k : Int) + ((1 : Nat) : Int)) * (size + ((2 : Nat) : Int))) = ((k : Int) + 1) * (size + 2) := rfl
      rw [e6, e7]
      omega
    · simp only [if_neg h1, if_neg h2, if_neg (show ¬0 < hi - (n : Int) by omega)] at h ⊢
      by_cases hn : n = 0
      · subst hn
        simp [foldC, sizeC]
      · rw [if_neg (by omega)] at h ⊢
        have hms := mulL_rng [(n : Int), size]
        have e1 := addL_low hB (by intro x hx; simp only [List.mem_cons, List.not_mem_nil, or_false] at hx; rcases hx with rfl | rfl | rfl <;> omega) h
        rw [e1] at h ⊢
        simp only [List.sum_cons, List.sum_nil] at h ⊢
        have e4 := mulL_low (B := B) hB (by omega) hs (show mulL [(n : Int), size] ≤ B by omega)
        have h5 : size ≤ B := by
          have h6 : 1 * size ≤ (n : Int) * size := Int.mul_le_mul_of_nonneg_right (by omega) hs
          omega
        have hcs := hc h5
        rw [fold_size _ hjc _ (by simp; omega), e4]
        simp only [sizes, List.map_append, List.map_replicate, List.sum_append, List.map_nil, List.sum_nil, List.length_append, List.length_replicate, List.length_nil, rep_sum, hcs]
        omega
theorem folded_size {B : Int} {join : CT → CT → CT} (hj : ∀ a b, sizeC (join a b) = 1 + sizeC a + sizeC b) {l : List CT} {N : List Int} (hB : B < mostI) (hN : ∀ x ∈ N, 0 ≤ x) (hlen : l.length = N.length) (hone : 1 ≤ B) (he : join = join)
    (hl : (∀ x ∈ N, x ≤ B) → sizes l = N) (hemp : sizeC (foldC join []) = 1) (h : foldedN N ≤ B) : ((sizeC (foldC join l) : Nat) : Int) = foldedN N := by
  unfold foldedN at *
  by_cases h0 : N = []
  · subst h0
    obtain rfl : l = [] := List.eq_nil_of_length_eq_zero (by simpa using hlen)
    rw [hemp]
    simp
  · have hl0 : l ≠ [] := by
      intro e
      subst e
      exact h0 (List.eq_nil_of_length_eq_zero (by simpa using hlen.symm))
    have hpos : 0 < N.length := List.length_pos_iff.2 h0
    rw [if_neg h0] at h ⊢
    have hs := addL_rng N
    have e1 := addL_low hB (by intro x hx; simp only [List.mem_cons, List.not_mem_nil, or_false] at hx; rcases hx with rfl | rfl <;> omega) h
    rw [e1] at h ⊢
    simp only [List.sum_cons, List.sum_nil] at h ⊢
    have e2 := addL_low (B := B) hB hN (by omega)
    have hle : ∀ x ∈ N, x ≤ B := fun x hx => by have := mem_sum hN hx; omega
    rw [fold_size join hj l hl0, hl hle, e2, hlen]
    omega
theorem fold_nil (join : CT → CT → CT) : sizeC (foldC join []) = 1 := rfl
theorem fit_parts {k : Int} {set : Nat → Bool} {lo hi : Int} {z : Bool} {kids : List Tree} {f t : Nat} (h : fitT (.mk k set lo hi z kids f t) = true) :
    fitL kids = true ∧ (k = 2 ∨ k = 3 → kids.length = 1) ∧ (k = 6 → kids.length = 1 ∧ 0 ≤ lo) := by
  simp only [fitT, Bool.and_eq_true] at h
  refine ⟨h.2, ?_, ?_⟩
  · intro hk
    have h1 := h.1
    unfold formB at h1
    split at h1
    · cases h1
    · rw [if_neg (by omega)] at h1
      try rw [if_pos hk] at h1
      have := eq_of_beq h1
      omega
  · intro hk
    have h1 := h.1
    unfold formB at h1
    split at h1
    · cases h1
    · rw [if_neg (show ¬(k = 0 ∨ k = 1) by omega), if_neg (show ¬(k = 2 ∨ k = 3) by omega), if_neg (show ¬k = 4 by omega), if_neg (show ¬k = 5 by omega)] at h1
      try rw [if_pos hk] at h1
      simp only [Bool.and_eq_true, decide_eq_true_eq] at h1
      have := eq_of_beq h1.1.1
      exact ⟨by omega, h1.1.2.1.1⟩
mutual
theorem meas_tree {B : Int} (hB : B < mostI) (hone : 1 ≤ B) : ∀ n : Tree, fitT n = true → coreN n ≤ B → ((sizeC (coreT n) : Nat) : Int) = coreN n
  | .mk k set lo hi z kids f t, hf, h => by
    obtain ⟨hfl, h2, h6⟩ := fit_parts hf
    have hrow := meas_list hB hone kids hfl
    have hlen : (coreL kids).length = (coreNL kids).length := by rw [coreL_length, coreNL_length]
    have hN : ∀ x ∈ coreNL kids, 0 ≤ x := fun x hx => (coreNL_rng kids x hx).1
    simp only [coreN, coreT] at h ⊢
    generalize hl : coreL kids = l at *
    generalize hn : coreNL kids = N at *
    have hk1 : k = 2 ∨ k = 3 ∨ k = 6 → ∃ c x, l = [c] ∧ N = [x] := by
      intro hk
      have h1 : kids.length = 1 := by
        rcases hk with h | h | h
        · exact h2 (.inl h)
        · exact h2 (.inr h)
        · exact (h6 h).1
      have hl1 : l.length = 1 := by rw [← hl, coreL_length, h1]
      have hn1 : N.length = 1 := by rw [← hlen, hl1]
      obtain ⟨c, hc⟩ := List.length_eq_one_iff.1 hl1
      obtain ⟨x, hx⟩ := List.length_eq_one_iff.1 hn1
      exact ⟨c, x, hc, hx⟩
    unfold nodeN at h ⊢
    unfold nodeC
    by_cases e1 : k = 1
    · rw [if_pos e1, if_neg (by omega), if_neg (by omega), if_neg (by omega)]
      rfl
    rw [if_neg e1]
    by_cases e2 : k = 2 ∨ k = 3
    · rw [if_pos e2] at h
      rw [if_pos e2, if_pos e2]
      obtain ⟨c, x, rfl, rfl⟩ := hk1 (by omega)
      have := hrow (fun y hy => by rw [List.mem_singleton.1 hy]; exact h)
      simp only [sizes, List.map_cons, List.map_nil, List.cons.injEq, and_true] at this
      exact this
    rw [if_neg e2] at h
    rw [if_neg e2, if_neg e2]
    by_cases e4 : k = 4
    · rw [if_pos (.inl e4)] at h
      rw [if_pos e4, if_pos (.inl e4)]
      exact folded_size (fun _ _ => rfl) hB hN hlen hone rfl hrow rfl h
    rw [if_neg e4]
    by_cases e5 : k = 5
    · rw [if_pos (.inr e5)] at h
      rw [if_pos e5, if_pos (.inr e5)]
      exact folded_size (fun _ _ => rfl) hB hN hlen hone rfl hrow rfl h
    rw [if_neg (show ¬(k = 4 ∨ k = 5) by omega)] at h
    rw [if_neg e5, if_neg (show ¬(k = 4 ∨ k = 5) by omega)]
    by_cases e6 : k = 6
    · rw [if_pos e6] at h
      rw [if_pos e6, if_pos e6]
      obtain ⟨c, x, rfl, rfl⟩ := hk1 (by omega)
      exact repeat_size (h6 e6).2 (hN x (by simp)) hB h (fun hx => by
        have := hrow (fun y hy => by rw [List.mem_singleton.1 hy]; exact hx)
        simp only [sizes, List.map_cons, List.map_nil, List.cons.injEq, and_true] at this
        exact this)
    · rw [if_neg e6, if_neg e6]
      rfl
theorem meas_list {B : Int} (hB : B < mostI) (hone : 1 ≤ B) : ∀ l : List Tree, fitL l = true → (∀ x ∈ coreNL l, x ≤ B) → sizes (coreL l) = coreNL l
  | [], _, _ => rfl
  | n :: l, hf, h => by
    simp only [fitL, Bool.and_eq_true] at hf
    have h1 := meas_tree hB hone n hf.1 (h (coreN n) (by simp [coreNL]))
    have h2 := meas_list hB hone l hf.2 (fun x hx => h x (by simp [coreNL, hx]))
    simp only [sizes, coreL, coreNL, List.map_cons] at h2 ⊢
    rw [h1, h2]
end
/-- A core's size, by mode, is what is measured. -/
theorem measure_size {n : Tree} {mode : Int} (hf : fitT n = true) (h : ¬4096 < sizeM n mode) (hm : 0 ≤ mode ∧ mode < 4) : ((sizeC (wrapC mode (coreT n)) : Nat) : Int) = sizeM n mode := by
  have hB : (4096 : Int) < mostI := by unfold mostI; omega
  have hr := coreN_rng n
  unfold sizeM at h ⊢
  have hmd : modeN mode = 0 ∧ mode = 0 ∨ modeN mode = 3 ∧ mode = 1 ∨ modeN mode = 3 ∧ mode = 2 ∨ modeN mode = 6 ∧ mode = 3 := by
    rcases (show mode = 0 ∨ mode = 1 ∨ mode = 2 ∨ mode = 3 by omega) with rfl | rfl | rfl | rfl <;> decide
  have e1 := addL_low (B := 4096) hB (l := [coreN n, modeN mode]) (by intro x hx; simp only [List.mem_cons, List.not_mem_nil, or_false] at hx; rcases hx with rfl | rfl; exact hr.1; omega) (by omega)
  rw [e1] at h ⊢
  simp only [List.sum_cons, List.sum_nil] at h ⊢
  have e2 := meas_tree hB (by omega) n hf (by omega)
  rcases hmd with ⟨a, rfl⟩ | ⟨a, rfl⟩ | ⟨a, rfl⟩ | ⟨a, rfl⟩
  · rw [a, ← e2]; simp [wrapC]
  · rw [a, ← e2]; simp [wrapC, restC, sizeC]; omega
  · rw [a, ← e2]; simp [wrapC, restC, sizeC]; omega
  · rw [a, ← e2]; simp [wrapC, restC, sizeC]; omega
theorem setS_size (m : Nat → Bool) : (setS m).size ≤ 3000 := by
  unfold setS
  split
  · decide
  · split
    · decide
    · split
      · have := byteS_size ‹Nat›
        omega
      · unfold classS classL
        have hr := (runs_in m).1
        have hl : ((runsM (listM m 256)).flatMap fun p => (pairS p).data.toList).length ≤ 9 * (runsM (listM m 256)).length := by
          induction runsM (listM m 256) with
          | nil => simp
          | cons p R ih =>
            rw [List.flatMap_cons, List.length_append, List.length_cons]
            have h9 : ((pairS p).data.toList).length ≤ 9 := pairS_size p
            omega
        show ([91] ++ ((runsM (listM m 256)).flatMap fun p => (pairS p).data.toList) ++ [93]).toArray.size ≤ 3000
        rw [List.size_toArray, List.length_append, List.length_append, List.length_singleton, List.length_singleton]
        omega
theorem text_size : ∀ c : CT, (textC c).size ≤ 3000 * sizeC c
  | .empty => by decide
  | .set m => by have := setS_size m; simp only [textC, sizeC]; omega
  | .cat a b => by
    have := text_size a
    have := text_size b
    simp only [textC, sizeC, ByteArray.size_append]
    have e1 : ({ data := #[40] } : ByteArray).size = 1 := rfl
    have e2 : ({ data := #[41] } : ByteArray).size = 1 := rfl
    omega
  | .alt a b => by
    have := text_size a
    have := text_size b
    simp only [textC, sizeC, ByteArray.size_append]
    have e1 : ({ data := #[40] } : ByteArray).size = 1 := rfl
    have e2 : ({ data := #[41] } : ByteArray).size = 1 := rfl
    have e3 : ({ data := #[124] } : ByteArray).size = 1 := rfl
    omega
  | .star z a => by
    have := text_size a
    have e1 : ({ data := #[123] } : ByteArray).size = 1 := rfl
    have e2 : ({ data := #[125, 63] } : ByteArray).size = 2 := rfl
    have e3 : ({ data := #[125] } : ByteArray).size = 1 := rfl
    cases z <;> simp only [textC, sizeC, ByteArray.size_append, Bool.false_eq_true, if_false, if_true] <;> omega
end Go.Proofs.YtimcmnnfpomnbaaGreatDoor
