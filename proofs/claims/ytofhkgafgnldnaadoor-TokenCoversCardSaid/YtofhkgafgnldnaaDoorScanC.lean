/- Tokens of two patterns with a bar between; tokens one behind the other. -/
import Derived.Test.YtofhkgafgnldnaaDoorTokC
import Derived.Test.YtofhkgafgnldnaaDoorAwake05
namespace Go.Proofs.YtofhkgafgnldnaaDoor
theorem scan_in {p q : List Nat} : ∀ (d i : Nat) (l L : List (Tok × Nat × Nat)) (n : Nat), p.length - i ≤ d → i ≤ p.length → scanFrom p i l = .ok L n → scanFrom (bar p q) i l = scanFrom (bar p q) p.length L ∧ n = p.length := by
  intro d
  induction d with
  | zero =>
    intro i l L n h hi hs
    obtain rfl : i = p.length := by omega
    rw [scanFrom_end l (Nat.lt_irrefl _) (Nat.le_refl _)] at hs
    injection hs with h1 h2
    rw [h1, h2]
    exact ⟨rfl, rfl⟩
  | succ d ih =>
    intro i l L n h hi hs
    rcases Nat.lt_or_ge i p.length with hlt | hge
    · rw [scanFrom_next (tokM_fwd _) l hlt] at hs
      cases ht : tokM p i with
      | err j e => rw [ht] at hs; cases hs
      | ok x j =>
        have hj := tokM_le ht
        rw [ht] at hs
        rw [scanFrom_next (tokM_fwd _) l (show i < (bar p q).length by simp; omega), tokM_in ht]
        exact ih j _ L n (by omega) hj.2 hs
    · obtain rfl : i = p.length := by omega
      rw [scanFrom_end l (Nat.lt_irrefl _) (Nat.le_refl _)] at hs
      injection hs with h1 h2
      rw [h1, h2]
      exact ⟨rfl, rfl⟩
theorem scan_out {p q : List Nat} : ∀ (d i : Nat) (l L : List (Tok × Nat × Nat)) (n : Nat), q.length - i ≤ d → i ≤ q.length → scanFrom q i l = .ok L n → ∀ l', ∃ L', scanFrom (p ++ q) (p.length + i) l' = .ok L' (p ++ q).length ∧ L'.length + l.length = L.length + l'.length := by
  intro d
  induction d with
  | zero =>
    intro i l L n h hi hs l'
    obtain rfl : i = q.length := by omega
    rw [scanFrom_end l (Nat.lt_irrefl _) (Nat.le_refl _)] at hs
    injection hs with h1 h2
    refine ⟨l', ?_, by rw [h1]; omega⟩
    rw [scanFrom_end l' (by simp) (by simp)]
    simp
  | succ d ih =>
    intro i l L n h hi hs l'
    rcases Nat.lt_or_ge i q.length with hlt | hge
    · rw [scanFrom_next (tokM_fwd _) l hlt] at hs
      cases ht : tokM q i with
      | err j e => rw [ht] at hs; cases hs
      | ok x j =>
        have hj := tokM_le ht
        rw [ht] at hs
        have ht' : tokM (p ++ q) (p.length + i) = .ok x (p.length + j) := by rw [tokM_shift, ht]; rfl
        rw [scanFrom_next (tokM_fwd _) l' (show p.length + i < (p ++ q).length by simp; omega), ht']
        obtain ⟨L', h1, h2⟩ := ih j _ L n (by omega) hj.2 hs (l' ++ [(x, p.length + i, p.length + j)])
        exact ⟨L', h1, by simp at h2; omega⟩
    · obtain rfl : i = q.length := by omega
      rw [scanFrom_end l (Nat.lt_irrefl _) (Nat.le_refl _)] at hs
      injection hs with h1 h2
      refine ⟨l', ?_, by rw [h1]; omega⟩
      rw [scanFrom_end l' (by simp) (by simp)]
      simp
/-- Two patterns that are taken, a bar between them. -/
theorem scan_bar {p q : List Nat} {L M : List (Tok × Nat × Nat)} {n m : Nat} (hp : scanM p = .ok L n) (hq : scanM q = .ok M m) : ∃ R k, scanM (bar p q) = .ok R k ∧ R.length = L.length + 1 + M.length := by
  have h1 := (scan_in (q := q) p.length 0 [] L n (by omega) (Nat.zero_le _) hp).1
  have e : bar p q = (p ++ [124]) ++ q := by simp [bar]
  have ht : tokM (bar p q) p.length = .ok (kindTok 4) (p.length + 1) := by
    unfold tokM
    rw [bar_end]
    rfl
  rw [scanFrom_next (tokM_fwd _) L (show p.length < (bar p q).length by simp), ht] at h1
  obtain ⟨R, h2, h3⟩ := scan_out (p := p ++ [124]) q.length 0 [] M m (by omega) (Nat.zero_le _) hq (L ++ [(kindTok 4, p.length, p.length + 1)])
  refine ⟨R, (p ++ [124] ++ q).length, ?_, ?_⟩
  · show scanFrom (bar p q) 0 [] = _
    rw [h1]
    dsimp only
    rw [e]
    simpa using h2
  · simp at h3
    omega
/-- Tokens one behind the other. -/
def chainTo (b : Nat) : Nat → List (Tok × Nat × Nat) → Prop
  | a, [] => a = b
  | a, (_, f, t) :: r => f = a ∧ a < t ∧ chainTo b t r
theorem chain_snoc {b c : Nat} {x : Tok} (h : b < c) : ∀ {a : Nat} {l : List (Tok × Nat × Nat)}, chainTo b a l → chainTo c a (l ++ [(x, b, c)]) := by
  intro a l
  induction l generalizing a with
  | nil => rintro rfl; exact ⟨rfl, h, rfl⟩
  | cons u r ih =>
    obtain ⟨y, f, t⟩ := u
    rintro ⟨h1, h2, h3⟩
    exact ⟨h1, h2, ih h3⟩
theorem scan_chain {p : List Nat} : ∀ (d i : Nat) (l L : List (Tok × Nat × Nat)) (n : Nat), p.length - i ≤ d → i ≤ p.length → chainTo i 0 l → scanFrom p i l = .ok L n → chainTo p.length 0 L := by
  intro d
  induction d with
  | zero =>
    intro i l L n h hi hc hs
    obtain rfl : i = p.length := by omega
    rw [scanFrom_end l (Nat.lt_irrefl _) (Nat.le_refl _)] at hs
    injection hs with h1 h2
    rw [← h1]
    exact hc
  | succ d ih =>
    intro i l L n h hi hc hs
    rcases Nat.lt_or_ge i p.length with hlt | hge
    · rw [scanFrom_next (tokM_fwd _) l hlt] at hs
      cases ht : tokM p i with
      | err j e => rw [ht] at hs; cases hs
      | ok x j =>
        have hj := tokM_le ht
        rw [ht] at hs
        exact ih j _ L n (by omega) hj.2 (chain_snoc hj.1 hc) hs
    · obtain rfl : i = p.length := by omega
      rw [scanFrom_end l (Nat.lt_irrefl _) (Nat.le_refl _)] at hs
      injection hs with h1 h2
      rw [← h1]
      exact hc
theorem chain_of {p : List Nat} {L : List (Tok × Nat × Nat)} {n : Nat} (h : scanM p = .ok L n) : chainTo p.length 0 L := scan_chain p.length 0 [] L n (by omega) (Nat.zero_le _) rfl h
theorem chain_le {b : Nat} : ∀ {a : Nat} {l : List (Tok × Nat × Nat)}, chainTo b a l → a + l.length ≤ b := by
  intro a l
  induction l generalizing a with
  | nil => rintro rfl; simp
  | cons u r ih =>
    obtain ⟨y, f, t⟩ := u
    rintro ⟨_, h2, h3⟩
    have := ih h3
    simp only [List.length_cons]
    omega
theorem toksC_length (l : List (Tok × Nat × Nat)) : (toksC l).length = 10 * l.length := by
  induction l with
  | nil => rfl
  | cons u r ih => simp only [toksC, List.flatMap_cons, List.length_append, List.length_cons, List.length_nil] at ih ⊢; omega
theorem toksC_get {l : List (Tok × Nat × Nat)} {k r : Nat} {x : Tok} {f t : Nat} {v : Value} (h : l[k]? = some (x, f, t)) (hv : (tokL x f t)[r]? = some v) : (toksC l)[k * 10 + r]? = some v := by
  induction l generalizing k with
  | nil => cases h
  | cons u q ih =>
    have hr : r < 10 := (List.getElem?_eq_some_iff.1 hv).1
    obtain ⟨y, f', t'⟩ := u
    cases k with
    | zero =>
      injection h with h
      injection h with h1 h2
      injection h2 with h2 h3
      subst h1 h2 h3
      show (tokL y f' t' ++ toksC q)[0 * 10 + r]? = _
      rw [List.getElem?_append_left (by simp; omega)]
      simpa using hv
    | succ k =>
      show (tokL y f' t' ++ toksC q)[(k + 1) * 10 + r]? = _
      rw [List.getElem?_append_right (by simp; omega)]
      rw [show (k + 1) * 10 + r - (tokL y f' t').length = k * 10 + r by simp; omega]
      exact ih (by simpa using h)
theorem bytesN_bar (p q : ByteArray) : bytesN (p ++ ⟨#[124]⟩ ++ q) = bar (bytesN p) (bytesN q) := by
  simp [bytesN, bar, ByteArray.data_append]
end Go.Proofs.YtofhkgafgnldnaaDoor
