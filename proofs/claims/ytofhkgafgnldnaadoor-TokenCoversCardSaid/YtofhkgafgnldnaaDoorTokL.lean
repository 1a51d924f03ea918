/- A token's end lies ahead, within the text. No program in sight. -/
import Derived.Test.YtofhkgafgnldnaaDoorTokR
namespace Go.Proofs.YtofhkgafgnldnaaDoor
theorem lazyM_le {t : List Nat} {lo : Nat} {hi : Int} {i : Nat} {x : Tok} {j : Nat} (hi0 : i ≤ t.length) (h : lazyM t lo hi i = .ok x j) : i ≤ j ∧ j ≤ t.length := by
  unfold lazyM at h
  by_cases h1 : t[i]? = some 63
  · have := get_lt h1
    simp only [h1, if_true] at h
    split at h
    · cases h
    · injection h with _ h
      omega
  · simp only [h1, if_false] at h
    split at h
    · cases h
    · injection h with _ h
      omega
theorem numberM_le {t : List Nat} {i n j : Nat} (h : numberM t i = .ok n j) : i < j ∧ j ≤ t.length := by
  unfold numberM at h
  cases hd : digitAt t i with
  | none => rw [hd] at h; cases h
  | some d =>
    have hl := digitAt_lt hd
    rw [hd] at h
    dsimp only at h
    have e : numLoop t (t.length - i) 0 i = numFrom t 0 i := rfl
    rw [e, numFrom_next 0 hd] at h
    have hm := numFrom_le t _ (10 * 0 + d) (i + 1) (Nat.le_refl _) (by omega)
    split at h
    · cases h
    · injection h with _ h
      omega
theorem bracesM_le {t : List Nat} {i : Nat} {v : Nat × Option Nat} {j : Nat} (h : bracesM t i = .ok v j) : i < j ∧ j ≤ t.length := by
  unfold bracesM at h
  cases h1 : numberM t i with
  | err k e => rw [h1] at h; cases h
  | ok lo k =>
    have hk := numberM_le h1
    rw [h1] at h
    dsimp only at h
    split at h
    · rename_i h2
      split at h
      · rename_i h3
        have := get_lt h3
        injection h with _ h
        omega
      · cases h4 : numberM t (k + 1) with
        | err n e => rw [h4] at h; cases h
        | ok hi n =>
          have hn := numberM_le h4
          rw [h4] at h
          dsimp only at h
          split at h
          · cases h
          · split at h
            · rename_i h5
              have := get_lt h5
              injection h with _ h
              omega
            · cases h
    · split at h
      · rename_i h3
        have := get_lt h3
        injection h with _ h
        omega
      · cases h
theorem setRes_le {r : Res (Nat → Bool)} {x : Tok} {j : Nat} (h : setRes r = .ok x j) : ∃ m, r = .ok m j := by
  cases r with
  | err k e => cases h
  | ok m k =>
    injection h with _ h
    exact ⟨m, by rw [h]⟩
theorem tokM_le {t : List Nat} {i : Nat} {x : Tok} {j : Nat} (h : tokM t i = .ok x j) : i < j ∧ j ≤ t.length := by
  unfold tokM at h
  cases hc : t[i]? with
  | none => rw [hc] at h; cases h
  | some c =>
    have hl := get_lt hc
    rw [hc] at h
    dsimp only at h
    by_cases h0 : c = 92
    · rw [if_pos h0] at h
      obtain ⟨m, hm⟩ := setRes_le h
      exact escM_le hm
    rw [if_neg h0] at h
    by_cases h1 : c = 91
    · rw [if_pos h1] at h
      obtain ⟨m, hm⟩ := setRes_le h
      exact classM_le hm
    rw [if_neg h1] at h
    by_cases h2 : c = 40
    · rw [if_pos h2] at h
      unfold groupM at h
      split at h
      · split at h
        · rename_i h3
          have := get_lt h3
          injection h with _ h
          omega
        · cases h
      · injection h with _ h
        omega
    rw [if_neg h2] at h
    by_cases h3 : c = 41
    · rw [if_pos h3] at h
      injection h with _ h
      omega
    rw [if_neg h3] at h
    by_cases h4 : c = 124
    · rw [if_pos h4] at h
      injection h with _ h
      omega
    rw [if_neg h4] at h
    by_cases h5 : c = 46
    · rw [if_pos h5] at h
      injection h with _ h
      omega
    rw [if_neg h5] at h
    by_cases h6 : c = 42
    · rw [if_pos h6] at h
      have := lazyM_le (by omega) h
      omega
    rw [if_neg h6] at h
    by_cases h7 : c = 43
    · rw [if_pos h7] at h
      have := lazyM_le (by omega) h
      omega
    rw [if_neg h7] at h
    by_cases h8 : c = 63
    · rw [if_pos h8] at h
      have := lazyM_le (by omega) h
      omega
    rw [if_neg h8] at h
    by_cases h9 : c = 123
    · rw [if_pos h9] at h
      cases hb : bracesM t (i + 1) with
      | err k e => rw [hb] at h; cases h
      | ok v k =>
        have hk := bracesM_le hb
        rw [hb] at h
        obtain ⟨lo, hi⟩ := v
        have := lazyM_le (by omega) h
        omega
    rw [if_neg h9] at h
    by_cases ha : c = 94 ∨ c = 36
    · rw [if_pos ha] at h
      cases h
    rw [if_neg ha] at h
    by_cases hlo : loneL.contains c = true
    · rw [if_pos hlo] at h
      cases h
    rw [if_neg hlo] at h
    injection h with _ h
    omega
end Go.Proofs.YtofhkgafgnldnaaDoor
