/- Tokens: what is read goes forward and stays within the text; rounds enough are enough. No program in sight. -/
import Derived.Test.YtofhkgafgnldnaaDoorTokP
namespace Go.Proofs.YtofhkgafgnldnaaDoor
theorem get_lt {t : List Nat} {i c : Nat} (h : t[i]? = some c) : i < t.length := (List.getElem?_eq_some_iff.1 h).1
theorem hexAt_lt {t : List Nat} {i d : Nat} (h : hexAt t i = some d) : i < t.length := by
  unfold hexAt at h
  cases hc : t[i]? with
  | none => rw [hc] at h; cases h
  | some c => exact get_lt hc
theorem escM_le {t : List Nat} {i : Nat} {m : Nat → Bool} {j : Nat} (h : escM t i = .ok m j) : i < j ∧ j ≤ t.length := by
  unfold escM at h
  cases hc : t[i + 1]? with
  | none => rw [hc] at h; cases h
  | some c =>
    have hl := get_lt hc
    rw [hc] at h
    simp only [] at h
    split at h
    · injection h with _ h
      omega
    · cases hn : namedM c with
      | some m' =>
        rw [hn] at h
        injection h with _ h
        omega
      | none =>
        rw [hn] at h
        simp only [] at h
        split at h
        · cases h1 : hexAt t (i + 2) with
          | none => rw [h1] at h; cases h
          | some d =>
            rw [h1] at h
            simp only [] at h
            cases h2 : hexAt t (i + 3) with
            | none => rw [h2] at h; cases h
            | some d2 =>
              rw [h2] at h
              injection h with _ h
              have := hexAt_lt h2
              omega
        · split at h <;> cases h
theorem itemM_le {t : List Nat} {i : Nat} {m : Nat → Bool} {j : Nat} (h : itemM t i = .ok m j) : i < j ∧ j ≤ t.length := by
  unfold itemM at h
  cases hc : t[i]? with
  | none => rw [hc] at h; cases h
  | some c =>
    have hl := get_lt hc
    rw [hc] at h
    simp only [] at h
    split at h
    · cases h
    · split at h
      · exact escM_le h
      · injection h with _ h
        omega
theorem spanM_le {t : List Nat} {i : Nat} {m : Nat → Bool} {j : Nat} (h : spanM t i = .ok m j) : i < j ∧ j ≤ t.length := by
  unfold spanM at h
  cases h1 : itemM t i with
  | err k e => rw [h1] at h; cases h
  | ok lo k =>
    have hk := itemM_le h1
    rw [h1] at h
    simp only [] at h
    split at h
    · cases ha : onlyM lo with
      | none => rw [ha] at h; cases h
      | some a =>
        rw [ha] at h
        simp only [] at h
        cases h2 : itemM t (k + 1) with
        | err k e => rw [h2] at h; cases h
        | ok hi n =>
          have hn := itemM_le h2
          rw [h2] at h
          simp only [] at h
          cases hb : onlyM hi with
          | none => rw [hb] at h; cases h
          | some b2 =>
            rw [hb] at h
            simp only [] at h
            split at h
            · cases h
            · injection h with _ h
              omega
    · injection h with _ h
      omega
/-- Rounds enough are enough. -/
theorem class_fuel (t : List Nat) : ∀ (d i : Nat) (m : Nat → Bool) (f : Nat), t.length + 1 - i ≤ d → d ≤ f → classLoop t f m i = classLoop t d m i := by
  intro d
  induction d with
  | zero =>
    intro i m f h1 h2
    cases f with
    | zero => rfl
    | succ f =>
      have hn : t[i]? = none := List.getElem?_eq_none (by omega)
      unfold classLoop
      rw [if_neg (by rw [hn]; simp)]
      have : spanM t i = .err i 4 := by unfold spanM itemM; rw [hn]
      rw [this]
  | succ d ih =>
    intro i m f h1 h2
    obtain ⟨f, rfl⟩ : ∃ g, f = g + 1 := ⟨f - 1, by omega⟩
    unfold classLoop
    split
    · rfl
    · cases hs : spanM t i with
      | err j e => rfl
      | ok m2 j =>
        have := spanM_le hs
        exact ih j _ f (by omega) (by omega)
theorem classLoop_le (t : List Nat) : ∀ (f i : Nat) (m m' : Nat → Bool) (j : Nat), classLoop t f m i = .ok m' j → i < j ∧ j ≤ t.length := by
  intro f
  induction f with
  | zero => intro i m m' j h; cases h
  | succ f ih =>
    intro i m m' j h
    unfold classLoop at h
    split at h
    · rename_i hc
      have := get_lt hc
      injection h with _ h
      omega
    · cases hs : spanM t i with
      | err k e => rw [hs] at h; cases h
      | ok m2 k =>
        rw [hs] at h
        have h1 := spanM_le hs
        have h2 := ih k _ _ j h
        omega
theorem classBody_le {t : List Nat} {i : Nat} {m : Nat → Bool} {j : Nat} (h : classBody t i = .ok m j) : i < j ∧ j ≤ t.length := by
  unfold classBody at h
  cases hs : spanM t i with
  | err k e => rw [hs] at h; cases h
  | ok m2 k =>
    rw [hs] at h
    have h1 := spanM_le hs
    have h2 := classLoop_le t _ _ _ _ _ h
    omega
theorem classM_le {t : List Nat} {i : Nat} {m : Nat → Bool} {j : Nat} (h : classM t i = .ok m j) : i < j ∧ j ≤ t.length := by
  unfold classM at h
  split at h
  · cases hb : classBody t (i + 2) with
    | err k e => rw [hb] at h; cases h
    | ok m2 k =>
      rw [hb] at h
      injection h with _ h
      have := classBody_le hb
      omega
  · have := classBody_le h
    omega
/-- From place to place: what the rounds yet to come make of it. -/
def classFrom (t : List Nat) (m : Nat → Bool) (i : Nat) : Res (Nat → Bool) := classLoop t (t.length + 1 - i) m i
theorem classBody_from (t : List Nat) (i : Nat) : classBody t i = match spanM t i with | .err j e => .err j e | .ok m j => classFrom t m j := rfl
theorem classFrom_end {t : List Nat} {i : Nat} (m : Nat → Bool) (h : t[i]? = some 93) : classFrom t m i = .ok m (i + 1) := by
  have := get_lt h
  unfold classFrom
  obtain ⟨f, hf⟩ : ∃ f, t.length + 1 - i = f + 1 := ⟨t.length - i, by omega⟩
  rw [hf]
  unfold classLoop
  rw [if_pos h]
theorem classFrom_next {t : List Nat} {i : Nat} (m : Nat → Bool) (hi : i ≤ t.length) (h : t[i]? ≠ some 93) : classFrom t m i = match spanM t i with | .err j e => .err j e | .ok m2 j => classFrom t (anyM [m, m2]) j := by
  unfold classFrom
  obtain ⟨f, hf⟩ : ∃ f, t.length + 1 - i = f + 1 := ⟨t.length - i, by omega⟩
  rw [hf]
  conv => lhs; unfold classLoop
  rw [if_neg h]
  cases hs : spanM t i with
  | err j e => rfl
  | ok m2 j =>
    have := spanM_le hs
    exact class_fuel t _ j _ f (Nat.le_refl _) (by omega)
/-- Where a reading fails, it fails within the text, and the error isn't 0. -/
theorem digitAt_lt {t : List Nat} {i d : Nat} (h : digitAt t i = some d) : i < t.length ∧ d ≤ 9 := by
  unfold digitAt at h
  cases hc : t[i]? with
  | none => rw [hc] at h; cases h
  | some c =>
    rw [hc] at h
    simp only [Option.bind_some] at h
    split at h
    · injection h with h
      exact ⟨get_lt hc, by omega⟩
    · cases h
theorem num_fuel (t : List Nat) : ∀ (d n i f : Nat), t.length - i ≤ d → d ≤ f → numLoop t f n i = numLoop t d n i := by
  intro d
  induction d with
  | zero =>
    intro n i f h1 h2
    cases f with
    | zero => rfl
    | succ f =>
      have hn : digitAt t i = none := by unfold digitAt; rw [List.getElem?_eq_none (by omega)]; rfl
      unfold numLoop
      rw [hn]
  | succ d ih =>
    intro n i f h1 h2
    obtain ⟨f, rfl⟩ : ∃ g, f = g + 1 := ⟨f - 1, by omega⟩
    unfold numLoop
    cases hd : digitAt t i with
    | none => rfl
    | some x =>
      have := digitAt_lt hd
      exact ih _ (i + 1) f (by omega) (by omega)
def numFrom (t : List Nat) (n i : Nat) : Nat × Nat := numLoop t (t.length - i) n i
theorem numFrom_end {t : List Nat} {i : Nat} (n : Nat) (h : digitAt t i = none) : numFrom t n i = (n, i) := by
  unfold numFrom
  cases hf : t.length - i with
  | zero => rfl
  | succ f => unfold numLoop; rw [h]
theorem numFrom_next {t : List Nat} {i d : Nat} (n : Nat) (h : digitAt t i = some d) : numFrom t n i = numFrom t (10 * n + d) (i + 1) := by
  have := digitAt_lt h
  unfold numFrom
  obtain ⟨f, hf⟩ : ∃ f, t.length - i = f + 1 := ⟨t.length - i - 1, by omega⟩
  rw [hf]
  conv => lhs; unfold numLoop
  rw [h]
  exact num_fuel t _ _ _ _ (by omega) (by omega)
theorem numFrom_le (t : List Nat) : ∀ (d n i : Nat), t.length - i ≤ d → i ≤ t.length → i ≤ (numFrom t n i).2 ∧ (numFrom t n i).2 ≤ t.length ∧ n ≤ (numFrom t n i).1 := by
  intro d
  induction d with
  | zero =>
    intro n i h hi
    have hn : digitAt t i = none := by unfold digitAt; rw [List.getElem?_eq_none (by omega)]; rfl
    rw [numFrom_end n hn]
    exact ⟨Nat.le_refl _, hi, Nat.le_refl _⟩
  | succ d ih =>
    intro n i h hi
    cases hd : digitAt t i with
    | none =>
      rw [numFrom_end n hd]
      exact ⟨Nat.le_refl _, hi, Nat.le_refl _⟩
    | some x =>
      have hl := digitAt_lt hd
      rw [numFrom_next n hd]
      obtain ⟨h1, h2, h3⟩ := ih (10 * n + x) (i + 1) (by omega) (by omega)
      exact ⟨by omega, h2, by omega⟩
end Go.Proofs.YtofhkgafgnldnaaDoor
