/- Classes of bytes, numbered by their least bytes. No program in sight. -/
import Derived.Test.YtanimknpnniabaaDoorSets
namespace Go.Proofs.YtanimknpnniabaaDoor
/-- The bytes below n that are the first of their key. -/
def firsts {κ : Type} [DecidableEq κ] (key : Nat → κ) (n : Nat) : List Nat := (List.range n).filter fun b => (List.range b).all fun c => decide (key c ≠ key b)
/-- How many classes lie ahead of the first byte of b's class: that class's number. -/
def numOf {κ : Type} [DecidableEq κ] (key : Nat → κ) (b : Nat) : Nat := (firsts key (((List.range (b + 1)).find? fun c => decide (key c = key b)).getD 0)).length
def cntOf {κ : Type} [DecidableEq κ] (key : Nat → κ) (n : Nat) : Nat := (firsts key n).length
section
variable {κ : Type} [DecidableEq κ] {key : Nat → κ}
theorem firsts_succ (n : Nat) : firsts key (n + 1) = if ∀ c, c < n → key c ≠ key n then firsts key n ++ [n] else firsts key n := by
  unfold firsts
  rw [List.range_succ, List.filter_append]
  by_cases h : ∀ c, c < n → key c ≠ key n
  · rw [if_pos h]
    congr 1
    have : ((List.range n).all fun c => decide (key c ≠ key n)) = true := by
      rw [List.all_eq_true]
      intro c hc
      exact decide_eq_true (h c (List.mem_range.1 hc))
    simp only [List.filter_cons, this, if_true, List.filter_nil]
  · rw [if_neg h]
    have : ((List.range n).all fun c => decide (key c ≠ key n)) = false := by
      rw [Bool.eq_false_iff]
      intro ha
      rw [List.all_eq_true] at ha
      exact h fun c hc => of_decide_eq_true (ha c (List.mem_range.2 hc))
    simp only [List.filter_cons, this, List.filter_nil]
    simp
theorem first_of (b : Nat) : ∃ c, (List.range (b + 1)).find? (fun c => decide (key c = key b)) = some c ∧ c ≤ b ∧ key c = key b ∧ ∀ d, d < c → key d ≠ key b := by
  cases h : (List.range (b + 1)).find? (fun c => decide (key c = key b)) with
  | none =>
    rw [List.find?_range_eq_none] at h
    have := h b (by omega)
    simp at this
  | some c =>
    have h' := h
    rw [List.find?_range_eq_some] at h'
    obtain ⟨h1, h2, h3⟩ := h'
    refine ⟨c, rfl, by have := List.mem_range.1 h2; omega, of_decide_eq_true h1, fun d hd he => ?_⟩
    have := h3 d hd
    simp [he] at this
theorem num_congr {a b : Nat} (h : key a = key b) : numOf key a = numOf key b := by
  obtain ⟨c, hc, hcb, hk, hl⟩ := first_of (key := key) a
  obtain ⟨d, hd, hdb, hk', hl'⟩ := first_of (key := key) b
  have : c = d := by
    rcases Nat.lt_trichotomy c d with hlt | he | hlt
    · exact absurd (hk.trans h) (hl' c hlt)
    · exact he
    · exact absurd (hk'.trans h.symm) (hl d hlt)
  unfold numOf
  rw [hc, hd, this]
/-- A byte that is the first of its class has as many classes ahead as there are firsts ahead. -/
theorem num_first {b : Nat} (h : ∀ c, c < b → key c ≠ key b) : numOf key b = cntOf key b := by
  obtain ⟨c, hc, hcb, hk, hl⟩ := first_of (key := key) b
  have : c = b := by
    rcases Nat.lt_or_ge c b with hlt | hge
    · exact absurd hk (h c hlt)
    · omega
  unfold numOf cntOf
  rw [hc, this]
  rfl
theorem cntOf_mono {a b : Nat} (h : a ≤ b) : cntOf key a ≤ cntOf key b := by
  induction b with
  | zero => have : a = 0 := by omega
            subst this; exact Nat.le_refl _
  | succ b ih =>
    rcases Nat.lt_or_ge a (b + 1) with hlt | hge
    · have := ih (by omega)
      unfold cntOf at *
      rw [firsts_succ]
      split
      · rw [List.length_append]; omega
      · exact this
    · have : a = b + 1 := by omega
      subst this; exact Nat.le_refl _
theorem num_eq {b c : Nat} (hk : key c = key b) (hl : ∀ d, d < c → key d ≠ key b) : numOf key b = cntOf key c := by
  rw [← num_congr hk]
  exact num_first fun d hd => by rw [hk]; exact hl d hd
theorem cntOf_first {c : Nat} (hl : ∀ d, d < c → key d ≠ key c) : cntOf key (c + 1) = cntOf key c + 1 := by
  unfold cntOf
  rw [firsts_succ, if_pos hl, List.length_append]
  rfl
theorem cntOf_same {c : Nat} (hl : ¬∀ d, d < c → key d ≠ key c) : cntOf key (c + 1) = cntOf key c := by
  unfold cntOf
  rw [firsts_succ, if_neg hl]
theorem numOf_lt {b n : Nat} (h : b < n) : numOf key b < cntOf key n := by
  obtain ⟨c, _, hcb, hk, hl⟩ := first_of (key := key) b
  rw [num_eq hk hl]
  have h1 := cntOf_first (key := key) (c := c) fun d hd => by rw [hk]; exact hl d hd
  have h2 := cntOf_mono (key := key) (a := c + 1) (b := n) (by omega)
  omega
theorem num_inj {a b : Nat} (h : numOf key a = numOf key b) : key a = key b := by
  obtain ⟨c, _, _, hk, hl⟩ := first_of (key := key) a
  obtain ⟨d, _, _, hk', hl'⟩ := first_of (key := key) b
  rw [num_eq hk hl, num_eq hk' hl'] at h
  have h1 := cntOf_first (key := key) (c := c) fun x hx => by rw [hk]; exact hl x hx
  have h2 := cntOf_first (key := key) (c := d) fun x hx => by rw [hk']; exact hl' x hx
  rcases Nat.lt_trichotomy c d with hlt | he | hlt
  · have := cntOf_mono (key := key) (a := c + 1) (b := d) (by omega)
    omega
  · rw [← hk, ← hk', he]
  · have := cntOf_mono (key := key) (a := d + 1) (b := c) (by omega)
    omega
theorem num_iff {a b : Nat} : numOf key a = numOf key b ↔ key a = key b := ⟨num_inj, num_congr⟩
/-- Keys that tell the same bytes apart number them alike. -/
theorem firsts_alike {κ' : Type} [DecidableEq κ'] {key' : Nat → κ'} (h : ∀ a b, key a = key b ↔ key' a = key' b) (n : Nat) : firsts key n = firsts key' n := by
  induction n with
  | zero => rfl
  | succ n ih =>
    rw [firsts_succ, firsts_succ, ih]
    have : (∀ c, c < n → key c ≠ key n) ↔ ∀ c, c < n → key' c ≠ key' n := by
      constructor
      · exact fun g c hc e => g c hc ((h c n).2 e)
      · exact fun g c hc e => g c hc ((h c n).1 e)
    by_cases g : ∀ c, c < n → key c ≠ key n
    · rw [if_pos g, if_pos (this.1 g)]
    · rw [if_neg g, if_neg (fun g' => g (this.2 g'))]
theorem num_alike {κ' : Type} [DecidableEq κ'] {key' : Nat → κ'} (h : ∀ a b, key a = key b ↔ key' a = key' b) (b : Nat) : numOf key b = numOf key' b := by
  obtain ⟨c, _, _, hk, hl⟩ := first_of (key := key) b
  rw [num_eq hk hl, num_eq ((h c b).1 hk) fun d hd e => hl d hd ((h d b).2 e)]
  unfold cntOf
  rw [firsts_alike h]
theorem cntOf_alike {κ' : Type} [DecidableEq κ'] {key' : Nat → κ'} (h : ∀ a b, key a = key b ↔ key' a = key' b) (n : Nat) : cntOf key n = cntOf key' n := by
  unfold cntOf
  rw [firsts_alike h]
theorem cntOf_le (key : Nat → κ) (n : Nat) : cntOf key n ≤ n := by
  unfold cntOf firsts
  exact Nat.le_trans (List.length_filter_le _ _) (by simp)
theorem num_le (key : Nat → κ) (b : Nat) : numOf key b ≤ b := by
  have := numOf_lt (key := key) (b := b) (n := b + 1) (by omega)
  have := cntOf_le key (b + 1)
  omega
end
end Go.Proofs.YtanimknpnniabaaDoor
