/- Tokens: what is read goes on forward, stands within the text, is the same further on, and is the same in a text that goes on with a bar. No program in sight. -/
import Derived.Test.YtofhkgafgnldnaaDoorTokP
namespace Go.Proofs.YtofhkgafgnldnaaDoor
def Res.shift {α : Type} (k : Nat) : Res α → Res α
  | .ok v i => .ok v (k + i)
  | .err i e => .err (k + i) e
theorem get_shift (p s : List Nat) (i : Nat) : (p ++ s)[p.length + i]? = s[i]? := by
  rw [List.getElem?_append_right (by omega)]
  congr 1
  omega
theorem hexAt_shift (p s : List Nat) (i : Nat) : hexAt (p ++ s) (p.length + i) = hexAt s i := by unfold hexAt; rw [get_shift]
theorem escM_shift (p s : List Nat) (i : Nat) : escM (p ++ s) (p.length + i) = (escM s i).shift p.length := by
  unfold escM
  simp only [Nat.add_assoc, get_shift, hexAt_shift]
  cases s[i + 1]? with
  | none => rfl
  | some c =>
    simp only []
    split
    · rfl
    · cases namedM c with
      | some m => rfl
      | none =>
        simp only []
        split
        · cases hexAt s (i + 2) with
          | none => rfl
          | some hi =>
            simp only []
            cases hexAt s (i + 3) with
            | none => rfl
            | some lo => rfl
        · split <;> rfl
theorem itemM_shift (p s : List Nat) (i : Nat) : itemM (p ++ s) (p.length + i) = (itemM s i).shift p.length := by
  unfold itemM
  rw [get_shift]
  cases s[i]? with
  | none => rfl
  | some c =>
    simp only []
    split
    · rfl
    · split
      · exact escM_shift p s i
      · rfl
theorem spanM_shift (p s : List Nat) (i : Nat) : spanM (p ++ s) (p.length + i) = (spanM s i).shift p.length := by
  unfold spanM
  rw [itemM_shift]
  cases itemM s i with
  | err j e => rfl
  | ok lo j =>
    simp only [Res.shift, get_shift]
    split
    · cases onlyM lo with
      | none => rfl
      | some a =>
        simp only [Nat.add_assoc, itemM_shift]
        cases itemM s (j + 1) with
        | err k e => rfl
        | ok hi k =>
          simp only [Res.shift]
          cases onlyM hi with
          | none => rfl
          | some b =>
            simp only []
            split <;> rfl
    · rfl
theorem classLoop_shift (p s : List Nat) (f : Nat) : ∀ (m : Nat → Bool) (i : Nat), classLoop (p ++ s) f m (p.length + i) = (classLoop s f m i).shift p.length := by
  induction f with
  | zero => intro m i; rfl
  | succ f ih =>
    intro m i
    unfold classLoop
    rw [get_shift, spanM_shift]
    split
    · rfl
    · cases spanM s i with
      | err j e => rfl
      | ok m2 j => exact ih _ j
theorem classBody_shift (p s : List Nat) (i : Nat) : classBody (p ++ s) (p.length + i) = (classBody s i).shift p.length := by
  unfold classBody
  rw [spanM_shift]
  cases spanM s i with
  | err j e => rfl
  | ok m j =>
    simp only [Res.shift]
    rw [List.length_append, show p.length + s.length + 1 - (p.length + j) = s.length + 1 - j by omega]
    exact classLoop_shift p s _ _ j
theorem classM_shift (p s : List Nat) (i : Nat) : classM (p ++ s) (p.length + i) = (classM s i).shift p.length := by
  unfold classM
  simp only [Nat.add_assoc, get_shift, classBody_shift]
  split
  · cases classBody s (i + 2) with
    | err j e => rfl
    | ok m j => rfl
  · rfl
theorem digitAt_shift (p s : List Nat) (i : Nat) : digitAt (p ++ s) (p.length + i) = digitAt s i := by unfold digitAt; rw [get_shift]
theorem numLoop_shift (p s : List Nat) (f : Nat) : ∀ n i, numLoop (p ++ s) f n (p.length + i) = ((numLoop s f n i).1, p.length + (numLoop s f n i).2) := by
  induction f with
  | zero => intro n i; rfl
  | succ f ih =>
    intro n i
    unfold numLoop
    rw [digitAt_shift]
    cases digitAt s i with
    | none => rfl
    | some d => exact ih _ (i + 1)
theorem numberM_shift (p s : List Nat) (i : Nat) : numberM (p ++ s) (p.length + i) = (numberM s i).shift p.length := by
  unfold numberM
  rw [digitAt_shift]
  cases digitAt s i with
  | none => rfl
  | some d =>
    simp only []
    rw [List.length_append, show p.length + s.length - (p.length + i) = s.length - i by omega, numLoop_shift]
    simp only []
    split <;> rfl
theorem bracesM_shift (p s : List Nat) (i : Nat) : bracesM (p ++ s) (p.length + i) = (bracesM s i).shift p.length := by
  unfold bracesM
  rw [numberM_shift]
  cases numberM s i with
  | err j e => rfl
  | ok lo j =>
    simp only [Res.shift, Nat.add_assoc, get_shift, numberM_shift]
    split
    · split
      · rfl
      · cases numberM s (j + 1) with
        | err k e => rfl
        | ok hi k =>
          simp only [Res.shift, get_shift]
          split
          · rfl
          · split <;> rfl
    · split <;> rfl
theorem lazyM_shift (p s : List Nat) (lo : Nat) (hi : Int) (i : Nat) : lazyM (p ++ s) lo hi (p.length + i) = (lazyM s lo hi i).shift p.length := by
  unfold lazyM
  rw [get_shift]
  by_cases h : s[i]? = some 63
  · simp only [h, if_true, Nat.add_assoc, get_shift]
    split <;> rfl
  · simp only [h, if_false, get_shift]
    split <;> rfl
theorem groupM_shift (p s : List Nat) (i : Nat) : groupM (p ++ s) (p.length + i) = (groupM s i).shift p.length := by
  unfold groupM
  simp only [Nat.add_assoc, get_shift]
  split
  · split <;> rfl
  · rfl
theorem setRes_shift (k : Nat) (r : Res (Nat → Bool)) : setRes (r.shift k) = (setRes r).shift k := by cases r <;> rfl
theorem tokM_shift (p s : List Nat) (i : Nat) : tokM (p ++ s) (p.length + i) = (tokM s i).shift p.length := by
  unfold tokM
  rw [get_shift]
  cases s[i]? with
  | none => rfl
  | some c =>
    dsimp only
    by_cases h0 : c = 92
    · rw [if_pos h0, if_pos h0]
      rw [escM_shift, setRes_shift]
    rw [if_neg h0, if_neg h0]
    by_cases h1 : c = 91
    · rw [if_pos h1, if_pos h1]
      rw [classM_shift, setRes_shift]
    rw [if_neg h1, if_neg h1]
    by_cases h2 : c = 40
    · rw [if_pos h2, if_pos h2]
      exact groupM_shift p s i
    rw [if_neg h2, if_neg h2]
    by_cases h3 : c = 41
    · rw [if_pos h3, if_pos h3]
      first | done | rfl
    rw [if_neg h3, if_neg h3]
    by_cases h4 : c = 124
    · rw [if_pos h4, if_pos h4]
      first | done | rfl
    rw [if_neg h4, if_neg h4]
    by_cases h5 : c = 46
    · rw [if_pos h5, if_pos h5]
      first | done | rfl
    rw [if_neg h5, if_neg h5]
    by_cases h6 : c = 42
    · rw [if_pos h6, if_pos h6]
      exact lazyM_shift p s 0 (-1) (i + 1)
    rw [if_neg h6, if_neg h6]
    by_cases h7 : c = 43
    · rw [if_pos h7, if_pos h7]
      exact lazyM_shift p s 1 (-1) (i + 1)
    rw [if_neg h7, if_neg h7]
    by_cases h8 : c = 63
    · rw [if_pos h8, if_pos h8]
      exact lazyM_shift p s 0 1 (i + 1)
    rw [if_neg h8, if_neg h8]
    by_cases h9 : c = 123
    · rw [if_pos h9, if_pos h9]
      rw [show p.length + i + 1 = p.length + (i + 1) from rfl, bracesM_shift]
      cases bracesM s (i + 1) with
      | err j e => rfl
      | ok v j =>
        obtain ⟨lo, hi⟩ := v
        exact lazyM_shift p s lo (hiZ hi) j
    rw [if_neg h9, if_neg h9]
    by_cases h10 : c = 94 ∨ c = 36
    · rw [if_pos h10, if_pos h10]
      first | done | rfl
    rw [if_neg h10, if_neg h10]
    by_cases h11 : loneL.contains c = true
    · rw [if_pos h11, if_pos h11]
      first | done | rfl
    rw [if_neg h11, if_neg h11]
    first | done | rfl
end Go.Proofs.YtofhkgafgnldnaaDoor
