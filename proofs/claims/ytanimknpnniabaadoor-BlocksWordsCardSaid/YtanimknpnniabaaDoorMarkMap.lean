/- What split's map holds behind n bytes. No program in sight but for the keys' law. -/
import Derived.Test.YtanimknpnniabaaDoorMark
import Derived.Test.YtanimknpnniabaaDoorNumP
import Derived.Maps.Views
namespace Go.Proofs.YtanimknpnniabaaDoor
open Go.Maps
def mkL (k : Int × Bool) : Lit := .string (keyBytes [.int .i64 k.1, .bool k.2])
def wfK (k : Int × Bool) : Prop := (Lit.int .i64 k.1).wf = true
theorem mkL_key {k : Int × Bool} (h : wfK k) : keyOf Tryd.prog 74 (.agg #[.int .i64 k.1, .bool k.2]) = some (mkL k) := mark_key k.1 k.2 h
theorem mkL_inj {k k' : Int × Bool} (h : wfK k) (h' : wfK k') (e : mkL k = mkL k') : k = k' := by
  have h1 := mkL_key h
  rw [e] at h1
  have := mark_keyed.inj h1 (mkL_key h')
  obtain ⟨x, y⟩ := k
  obtain ⟨x', y'⟩ := k'
  simpa using this
structure MarkD (D : DataW Unit) (key : Nat → Int × Bool) (n : Nat) : Prop where
  size : Maps.size D = cntOf key n
  has : ∀ k, wfK k → (Maps.has D (mkL k) = true ↔ ∃ c, c < n ∧ key c = k)
  at_ : ∀ c, c < n → ∀ z, D.atKey (mkL (key c)) z = .lit (.int .i64 (numOf key c))
theorem MarkD.nil (key : Nat → Int × Bool) : MarkD (.map []) key 0 := ⟨rfl, fun k _ => by simp [Maps.has], fun c hc => by omega⟩
theorem MarkD.old {D : DataW Unit} {key : Nat → Int × Bool} {n : Nat} (h : MarkD D key n) (ho : ¬∀ c, c < n → key c ≠ key n) : MarkD D key (n + 1) := by
  obtain ⟨c0, hc0, he⟩ : ∃ c, c < n ∧ key c = key n := by
    simpa using ho
  refine ⟨by rw [h.size, cntOf_same ho], fun k hk => (h.has k hk).trans ⟨?_, ?_⟩, fun c hc z => ?_⟩
  · rintro ⟨c, hc, e⟩
    exact ⟨c, by omega, e⟩
  · rintro ⟨c, hc, e⟩
    rcases Nat.lt_succ_iff_lt_or_eq.1 hc with h | rfl
    · exact ⟨c, h, e⟩
    · exact ⟨c0, hc0, he.trans e⟩
  · rcases Nat.lt_succ_iff_lt_or_eq.1 hc with h' | rfl
    · exact h.at_ c h' z
    · rw [← he, h.at_ c0 hc0 z, num_congr he]
theorem MarkD.new {D : DataW Unit} {key : Nat → Int × Bool} {n : Nat} (h : MarkD D key n) (ht : Tidy D) (hw : ∀ c, c ≤ n → wfK (key c)) (hn : ∀ c, c < n → key c ≠ key n) : MarkD (D.put (mkL (key n)) (.lit (.int .i64 (cntOf key n)))) key (n + 1) := by
  have hne : ∀ k, wfK k → k ≠ key n → mkL k ≠ mkL (key n) := fun k hk h e => h (mkL_inj hk (hw n (Nat.le_refl _)) e)
  have hkl := mark_keyed.key (mkL_key (hw n (Nat.le_refl _)))
  have hno : Maps.has D (mkL (key n)) = false := by
    rw [Bool.eq_false_iff]
    intro hh
    obtain ⟨c, hc, e⟩ := (h.has _ (hw n (Nat.le_refl _))).1 hh
    exact hn c hc e
  refine ⟨?_, fun k hk => ?_, fun c hc z => ?_⟩
  · rw [size_put ht, hno, h.size, cntOf_first hn]
    rfl
  · by_cases e : k = key n
    · subst e
      rw [has_put_same ht.isMap hkl]
      exact ⟨fun _ => ⟨n, by omega, rfl⟩, fun _ => rfl⟩
    · rw [has_put_other (hne k hk e), h.has k hk]
      constructor
      · rintro ⟨c, hc, e'⟩
        exact ⟨c, by omega, e'⟩
      · rintro ⟨c, hc, e'⟩
        rcases Nat.lt_succ_iff_lt_or_eq.1 hc with h' | rfl
        · exact ⟨c, h', e'⟩
        · exact absurd e'.symm e
  · rcases Nat.lt_succ_iff_lt_or_eq.1 hc with h' | rfl
    · rw [atKey_put_other (hne _ (hw c (Nat.le_of_lt h')) (hn c h')), h.at_ c h' z]
    · rw [atKey_put_same ht.isMap hkl, num_first hn]
/-- The array of numbers behind n rounds. -/
def ofAt (k0 : Nat → Int) (m : Nat → Bool) (n : Nat) : List Value := (List.range 256).map fun b => .int .i64 (if b < n then ((numOf (fun c => (k0 c, m c)) b : Nat) : Int) else k0 b)
theorem ofAt_length (k0 : Nat → Int) (m : Nat → Bool) (n : Nat) : (ofAt k0 m n).length = 256 := by simp [ofAt]
theorem ofAt_at (k0 : Nat → Int) (m : Nat → Bool) (n : Nat) (h : n < 256) : (ofAt k0 m n)[n]? = some (.int .i64 (k0 n)) := by
  unfold ofAt
  rw [List.getElem?_map, List.getElem?_range h]
  simp
theorem ofAt_succ (k0 : Nat → Int) (m : Nat → Bool) (n : Nat) : ofAt k0 m (n + 1) = (ofAt k0 m n).set n (.int .i64 ((numOf (fun c => (k0 c, m c)) n : Nat) : Int)) := by
  apply List.ext_getElem
  · simp [ofAt]
  · intro x h1 h2
    simp only [ofAt, List.getElem_set, List.getElem_map, List.getElem_range]
    by_cases e : n = x
    · subst e
      simp
    · have : (x < n + 1) = (x < n) := by simp; omega
      simp [e, this]
end Go.Proofs.YtanimknpnniabaaDoor
