/- Which blocks a set has: the plain law. No program in sight. -/
import Derived.Test.YtanimknpnniabaaDoorIn
namespace Go.Proofs.YtanimknpnniabaaDoor
section
variable {κ κ' : Type} [DecidableEq κ] [DecidableEq κ'] {key : Nat → κ} {key' : Nat → κ'}
theorem firsts_alike_lt (n : Nat) (h : ∀ a b, a < n → b < n → (key a = key b ↔ key' a = key' b)) : firsts key n = firsts key' n := by
  induction n with
  | zero => rfl
  | succ n ih =>
    rw [firsts_succ, firsts_succ, ih fun a b ha hb => h a b (by omega) (by omega)]
    have : (∀ c, c < n → key c ≠ key n) ↔ ∀ c, c < n → key' c ≠ key' n := by
      constructor
      · exact fun g c hc e => g c hc ((h c n (by omega) (by omega)).2 e)
      · exact fun g c hc e => g c hc ((h c n (by omega) (by omega)).1 e)
    by_cases g : ∀ c, c < n → key c ≠ key n
    · rw [if_pos g, if_pos (this.1 g)]
    · rw [if_neg g, if_neg (fun g' => g (this.2 g'))]
theorem cnt_finer (hf : ∀ x y, key' x = key' y → key x = key y) (n : Nat) : cntOf key n ≤ cntOf key' n := by
  induction n with
  | zero => exact Nat.le_refl _
  | succ n ih =>
    by_cases g : ∀ c, c < n → key c ≠ key n
    · rw [cntOf_first g, cntOf_first fun c hc e => g c hc (hf _ _ e)]
      omega
    · rw [cntOf_same g]
      exact Nat.le_trans ih (cntOf_mono (by omega))
theorem cnt_finer_lt (hf : ∀ x y, key' x = key' y → key x = key y) (f : Nat) (h1 : ∀ d, d < f → key' d ≠ key' f) (h2 : ¬∀ d, d < f → key d ≠ key f) (n : Nat) (h : f < n) : cntOf key n < cntOf key' n := by
  induction n with
  | zero => omega
  | succ n ih =>
    rcases Nat.lt_or_ge f n with hlt | hge
    · have := ih hlt
      by_cases g : ∀ c, c < n → key c ≠ key n
      · rw [cntOf_first g, cntOf_first fun c hc e => g c hc (hf _ _ e)]
        omega
      · rw [cntOf_same g]
        exact Nat.lt_of_lt_of_le this (cntOf_mono (by omega))
    · obtain rfl : f = n := by omega
      rw [cntOf_same h2, cntOf_first h1]
      have := cnt_finer hf f
      omega
end
/-- Bytes that no set of l tells apart aren't told apart by m. -/
def Even (l : List (Nat → Bool)) (m : Nat → Bool) : Prop := ∀ a b, a < 256 → b < 256 → keyL l a = keyL l b → m a = m b
theorem hit_iff (q : Nat → Nat) (m : Nat → Bool) (k : Nat) : hitB q m k = true ↔ ∀ x, x < 256 → q x = k → m x = true := by
  unfold hitB
  rw [eqB_iff]
  constructor
  · intro h x hx hq
    have := h x hx
    simpa [clsZ, hx, hq] using this
  · intro h x hx
    by_cases hq : q x = k
    · simp [clsZ, hx, hq, h x hx hq]
    · have : ¬((q x : Int) = k) := by omega
      simp [clsZ, this]
theorem miss_iff (q : Nat → Nat) (m : Nat → Bool) (k : Nat) : missB q m k = true ↔ ∀ x, x < 256 → q x = k → m x = false := by
  unfold missB
  rw [eqB_iff]
  constructor
  · intro h x hx hq
    have := h x hx
    simpa [clsZ, hx, hq] using this
  · intro h x hx
    by_cases hq : q x = k
    · simp [clsZ, hx, hq, h x hx hq]
    · have : ¬((q x : Int) = k) := by omega
      simp [clsZ, this]
theorem even_iff (l : List (Nat → Bool)) (m : Nat → Bool) : inOk (numL l) m (cntL l) = true ↔ Even l m := by
  unfold inOk
  rw [List.all_eq_true]
  constructor
  · intro h a b ha hb e
    have hq : numL l a = numL l b := num_congr e
    have hk := h (numL l b) (List.mem_range.2 (numL_lt l b hb))
    rw [Bool.or_eq_true, hit_iff, miss_iff] at hk
    rcases hk with hk | hk
    · rw [hk a ha hq, hk b hb rfl]
    · rw [hk a ha hq, hk b hb rfl]
  · intro h k hk
    obtain ⟨c, _, hc, hn, _⟩ := firsts_get (key := keyL l) 256 k (List.mem_range.1 hk)
    rw [Bool.or_eq_true, hit_iff, miss_iff]
    have hx : ∀ x, x < 256 → numL l x = k → m x = m c := fun x hx hq => h x c hx hc (num_inj (hq.trans hn.symm))
    cases hm : m c with
    | true => exact .inl fun x h1 h2 => (hx x h1 h2).trans hm
    | false => exact .inr fun x h1 h2 => (hx x h1 h2).trans hm
theorem even_snoc (l : List (Nat → Bool)) (m : Nat → Bool) : Even (l ++ [m]) m := by
  intro a b _ _ h
  rw [← keyL_snoc, Prod.mk.injEq] at h
  exact h.2
theorem snoc_ok (l : List (Nat → Bool)) (m : Nat → Bool) : inOk (numL (l ++ [m])) m (cntL (l ++ [m])) = true := (even_iff _ _).2 (even_snoc l m)
theorem finer_snoc (l : List (Nat → Bool)) (m : Nat → Bool) (x y : Nat) (h : keyL (l ++ [m]) x = keyL (l ++ [m]) y) : keyL l x = keyL l y := by
  rw [← keyL_snoc, Prod.mk.injEq] at h
  exact h.1
theorem cnt_snoc_le (l : List (Nat → Bool)) (m : Nat → Bool) : cntL l ≤ cntL (l ++ [m]) := cnt_finer (finer_snoc l m) 256
theorem cnt_snoc_eq (l : List (Nat → Bool)) (m : Nat → Bool) (h : inOk (numL l) m (cntL l) = true) : cntL (l ++ [m]) = cntL l := by
  rw [even_iff] at h
  unfold cntL cntOf
  rw [firsts_alike_lt (key := keyL (l ++ [m])) (key' := keyL l) 256 fun a b ha hb => ⟨finer_snoc l m a b, fun e => (keyL_snoc l m a b).1 (by rw [e, h a b ha hb e])⟩]
theorem cnt_snoc_lt (l : List (Nat → Bool)) (m : Nat → Bool) (h : inOk (numL l) m (cntL l) = false) : cntL l < cntL (l ++ [m]) := by
  have hne : ¬Even l m := fun e => by
    rw [(even_iff l m).2 e] at h
    cases h
  obtain ⟨a, b, ha, hb, hk, hm⟩ : ∃ a b, a < 256 ∧ b < 256 ∧ keyL l a = keyL l b ∧ m a ≠ m b := by
    apply Classical.byContradiction
    intro g
    refine hne fun a b ha hb hk => ?_
    apply Classical.byContradiction
    exact fun hm => g ⟨a, b, ha, hb, hk, hm⟩
  obtain ⟨c, _, hca, hkc, hlc⟩ := first_of (key := keyL (l ++ [m])) a
  obtain ⟨d, _, hdb, hkd, hld⟩ := first_of (key := keyL (l ++ [m])) b
  have hcd : c ≠ d := by
    intro e
    rw [e] at hkc
    have := hkc.symm.trans hkd
    rw [← keyL_snoc, Prod.mk.injEq] at this
    exact hm this.2
  have hkk : keyL l c = keyL l d := (finer_snoc l m c a hkc).trans (hk.trans (finer_snoc l m d b hkd).symm)
  rcases Nat.lt_or_gt_of_ne hcd with hlt | hgt
  · exact cnt_finer_lt (finer_snoc l m) d (fun x hx => by rw [hkd]; exact hld x hx) (fun g => g c hlt hkk) 256 (by omega)
  · exact cnt_finer_lt (finer_snoc l m) c (fun x hx => by rw [hkc]; exact hlc x hx) (fun g => g d hgt hkk.symm) 256 (by omega)
end Go.Proofs.YtanimknpnniabaaDoor
