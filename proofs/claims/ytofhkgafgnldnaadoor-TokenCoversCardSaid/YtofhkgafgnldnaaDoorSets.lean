/- Sets of bytes as four words: a set is told by a function from numbers to Bools; what the operations on words make of it. No program in sight. -/
import Derived.WalkKit
namespace Go.Proofs.YtofhkgafgnldnaaDoor
open Go.RowKit

def bitsTo (f : Nat → Bool) : Nat → Nat
  | 0 => 0
  | n + 1 => bitsTo f n ||| (if f n then 2 ^ n else 0)
theorem testBit_bitsTo (f : Nat → Bool) (n j : Nat) : (bitsTo f n).testBit j = (decide (j < n) && f j) := by
  induction n with
  | zero => simp [bitsTo]
  | succ n ih =>
    simp only [bitsTo, Nat.testBit_or, ih]
    by_cases hf : f n
    · simp only [hf, if_true, Nat.testBit_two_pow]
      by_cases h : n = j
      · subst h; simp [hf]
      · by_cases h2 : j < n
        · simp [h, h2, show j < n + 1 by omega]
        · simp [h, h2, show ¬ j < n + 1 by omega]
    · simp only [hf, Bool.false_eq_true, if_false, Nat.zero_testBit, Bool.or_false]
      by_cases h : n = j
      · subst h; simp [hf]
      · by_cases h2 : j < n
        · simp [h2, show j < n + 1 by omega]
        · simp [h2, show ¬ j < n + 1 by omega]
theorem bitsTo_lt (f : Nat → Bool) (n : Nat) : bitsTo f n < 2 ^ n := by
  apply Nat.lt_pow_two_of_testBit
  intro i hi
  rw [testBit_bitsTo]
  simp [show ¬ i < n by omega]
/-- Word i of the set m. -/
def word (m : Nat → Bool) (i : Nat) : Int := (bitsTo (fun j => m (64 * i + j)) 64 : Nat)
theorem word_nonneg (m : Nat → Bool) (i : Nat) : 0 ≤ word m i := by unfold word; omega
theorem word_lt (m : Nat → Bool) (i : Nat) : word m i < 18446744073709551616 := by
  have := bitsTo_lt (fun j => m (64 * i + j)) 64
  unfold word
  simp only [show (2 : Nat) ^ 64 = 18446744073709551616 by decide] at this
  omega
theorem word_toNat (m : Nat → Bool) (i : Nat) : (word m i).toNat = bitsTo (fun j => m (64 * i + j)) 64 := by unfold word; omega
theorem testBit_word (m : Nat → Bool) (i j : Nat) : (word m i).toNat.testBit j = (decide (j < 64) && m (64 * i + j)) := by
  rw [word_toNat, testBit_bitsTo]
/-- A number is a word, if its bits are. -/
theorem word_of_bits (m : Nat → Bool) (i : Nat) (n : Nat) (hn : n < 18446744073709551616) (h : ∀ j, j < 64 → n.testBit j = m (64 * i + j)) : (n : Int) = word m i := by
  unfold word
  congr 1
  apply Nat.eq_of_testBit_eq
  intro j
  rw [testBit_bitsTo]
  by_cases hj : j < 64
  · simp [hj, h j hj]
  · simp only [hj, decide_false, Bool.false_and]
    apply Nat.testBit_lt_two_pow
    have : (18446744073709551616 : Nat) ≤ 2 ^ j := by
      rw [show (18446744073709551616 : Nat) = 2 ^ 64 by decide]
      exact Nat.pow_le_pow_right (by omega) (by omega)
    omega
theorem word_congr {m m' : Nat → Bool} (i : Nat) (h : ∀ j, j < 64 → m (64 * i + j) = m' (64 * i + j)) : word m i = word m' i := by
  have := word_of_bits m' i (word m i).toNat (by have := word_lt m i; omega) (fun j hj => by rw [testBit_word, h j hj]; simp [hj])
  have h0 := word_nonneg m i
  omega
theorem word_inj {m m' : Nat → Bool} {i : Nat} (h : word m i = word m' i) (j : Nat) (hj : j < 64) : m (64 * i + j) = m' (64 * i + j) := by
  have h1 := testBit_word m i j
  have h2 := testBit_word m' i j
  rw [h, h2] at h1
  simpa [hj] using h1.symm
/-- The value of a set. -/
abbrev setV (m : Nat → Bool) : Value := .agg #[.int .u64 (word m 0), .int .u64 (word m 1), .int .u64 (word m 2), .int .u64 (word m 3)]
/-- Its four cells. -/
abbrev setC (m : Nat → Bool) : Array Value := #[.int .u64 (word m 0), .int .u64 (word m 1), .int .u64 (word m 2), .int .u64 (word m 3)]
theorem words_congr {m m' : Nat → Bool} (h : ∀ x, x < 256 → m x = m' x) : word m 0 = word m' 0 ∧ word m 1 = word m' 1 ∧ word m 2 = word m' 2 ∧ word m 3 = word m' 3 :=
  ⟨word_congr 0 fun j hj => h _ (by omega), word_congr 1 fun j hj => h _ (by omega), word_congr 2 fun j hj => h _ (by omega), word_congr 3 fun j hj => h _ (by omega)⟩
theorem setV_congr {m m' : Nat → Bool} (h : ∀ x, x < 256 → m x = m' x) : setV m = setV m' := by
  obtain ⟨h0, h1, h2, h3⟩ := words_congr h
  simp only [setV, h0, h1, h2, h3]
theorem words_inj {m m' : Nat → Bool} (h0 : word m 0 = word m' 0) (h1 : word m 1 = word m' 1) (h2 : word m 2 = word m' 2) (h3 : word m 3 = word m' 3) (x : Nat) (hx : x < 256) : m x = m' x := by
  have e : x = 64 * (x / 64) + x % 64 := by omega
  have hj : x % 64 < 64 := by omega
  have hq : x / 64 = 0 ∨ x / 64 = 1 ∨ x / 64 = 2 ∨ x / 64 = 3 := by omega
  rw [e]
  rcases hq with h | h | h | h <;> rw [h]
  · exact word_inj h0 _ hj
  · exact word_inj h1 _ hj
  · exact word_inj h2 _ hj
  · exact word_inj h3 _ hj
/-- The set of four words. -/
def ofWords (a0 a1 a2 a3 : Int) (x : Nat) : Bool :=
  if x < 64 then a0.toNat.testBit x else if x < 128 then a1.toNat.testBit (x - 64) else if x < 192 then a2.toNat.testBit (x - 128) else a3.toNat.testBit (x - 192)
theorem ofWords_words (a0 a1 a2 a3 : Int) (h0 : 0 ≤ a0 ∧ a0 < 18446744073709551616) (h1 : 0 ≤ a1 ∧ a1 < 18446744073709551616) (h2 : 0 ≤ a2 ∧ a2 < 18446744073709551616) (h3 : 0 ≤ a3 ∧ a3 < 18446744073709551616) :
    a0 = word (ofWords a0 a1 a2 a3) 0 ∧ a1 = word (ofWords a0 a1 a2 a3) 1 ∧ a2 = word (ofWords a0 a1 a2 a3) 2 ∧ a3 = word (ofWords a0 a1 a2 a3) 3 := by
  have e0 : ∀ j, j < 64 → a0.toNat.testBit j = ofWords a0 a1 a2 a3 (64 * 0 + j) := by
    intro j hj
    unfold ofWords
    rw [if_pos (by omega), show 64 * 0 + j = j by omega]
  have e1 : ∀ j, j < 64 → a1.toNat.testBit j = ofWords a0 a1 a2 a3 (64 * 1 + j) := by
    intro j hj
    unfold ofWords
    rw [if_neg (by omega), if_pos (by omega), show 64 * 1 + j - 64 = j by omega]
  have e2 : ∀ j, j < 64 → a2.toNat.testBit j = ofWords a0 a1 a2 a3 (64 * 2 + j) := by
    intro j hj
    unfold ofWords
    rw [if_neg (by omega), if_neg (by omega), if_pos (by omega), show 64 * 2 + j - 128 = j by omega]
  have e3 : ∀ j, j < 64 → a3.toNat.testBit j = ofWords a0 a1 a2 a3 (64 * 3 + j) := by
    intro j hj
    unfold ofWords
    rw [if_neg (by omega), if_neg (by omega), if_neg (by omega), show 64 * 3 + j - 192 = j by omega]
  have k0 := word_of_bits _ 0 a0.toNat (by omega) e0
  have k1 := word_of_bits _ 1 a1.toNat (by omega) e1
  have k2 := word_of_bits _ 2 a2.toNat (by omega) e2
  have k3 := word_of_bits _ 3 a3.toNat (by omega) e3
  rw [← k0, ← k1, ← k2, ← k3]
  omega

/-! what the operations make of words -/
theorem or_word (m m' : Nat → Bool) (i : Nat) : bits .or .u64 (word m i) (word m' i) = word (fun x => m x || m' x) i := by
  rw [u64_or _ _ (word_nonneg _ _) (word_lt _ _) (word_nonneg _ _) (word_lt _ _)]
  apply word_of_bits
  · have h1 := word_lt m i; have h2 := word_lt m' i; have h3 := word_nonneg m i; have h4 := word_nonneg m' i
    rw [show (18446744073709551616 : Nat) = 2 ^ 64 by decide]
    exact Nat.or_lt_two_pow (by omega) (by omega)
  · intro j hj
    rw [Nat.testBit_or, testBit_word, testBit_word]; simp [hj]
theorem and_word (m m' : Nat → Bool) (i : Nat) : bits .and .u64 (word m i) (word m' i) = word (fun x => m x && m' x) i := by
  rw [u64_and _ _ (word_nonneg _ _) (word_lt _ _) (word_nonneg _ _) (word_lt _ _)]
  apply word_of_bits
  · have h1 := word_lt m i; have h3 := word_nonneg m i
    exact Nat.lt_of_le_of_lt Nat.and_le_left (by omega)
  · intro j hj
    rw [Nat.testBit_and, testBit_word, testBit_word]; simp [hj]
theorem andNot_word (m m' : Nat → Bool) (i : Nat) : bits .andNot .u64 (word m i) (word m' i) = word (fun x => m x && !m' x) i := by
  rw [u64_andNot _ _ (word_nonneg _ _) (word_lt _ _) (word_nonneg _ _) (word_lt _ _)]
  apply word_of_bits
  · have h1 := word_lt m i; have h3 := word_nonneg m i
    exact Nat.lt_of_le_of_lt Nat.and_le_left (by omega)
  · intro j hj
    have h1 := word_lt m' i; have h3 := word_nonneg m' i
    rw [Nat.testBit_and, testBit_word, show (18446744073709551615 : Nat) - (word m' i).toNat = 2 ^ 64 - ((word m' i).toNat + 1) by omega, Nat.testBit_two_pow_sub_succ (by omega), testBit_word]
    simp [hj]
theorem not_word (m : Nat → Bool) (i : Nat) : bits .xor .u64 IntKind.u64.max (word m i) = word (fun x => !m x) i := by
  rw [u64_xor _ _ (by decide) (by decide) (word_nonneg _ _) (word_lt _ _)]
  have hm : IntKind.u64.max.toNat = 2 ^ 64 - 1 := by decide
  rw [hm]
  have h1 := word_lt m i
  have h3 := word_nonneg m i
  apply word_of_bits
  · rw [show (18446744073709551616 : Nat) = 2 ^ 64 by decide]
    exact Nat.xor_lt_two_pow (by omega) (by omega)
  · intro j hj
    rw [Nat.testBit_xor, testBit_word, Nat.testBit_two_pow_sub_one]; simp [hj]
/-- The set with a byte more. -/
def putM (m : Nat → Bool) (b : Int) (x : Nat) : Bool := m x || decide ((x : Int) = b)
theorem put_word (m : Nat → Bool) (b : Int) (k : Nat) (_h0 : 0 ≤ b) (h : b / 64 = (k : Int)) : bits .or .u64 (word m k) (IntKind.u64.wrap (2 ^ (b % 64).toNat)) = word (putM m b) k := by
  have hlt : (b % 64).toNat < 64 := by omega
  have hp : (2 : Nat) ^ (b % 64).toNat < 18446744073709551616 := by
    rw [show (18446744073709551616 : Nat) = 2 ^ 64 by decide]
    exact Nat.pow_lt_pow_right (by omega) hlt
  have hw : IntKind.u64.wrap (2 ^ (b % 64).toNat) = ((2 ^ (b % 64).toNat : Nat) : Int) := by
    rw [IntKind.wrap_u64, show (2 : Int) ^ (b % 64).toNat = ((2 ^ (b % 64).toNat : Nat) : Int) by simp]
    generalize (2 : Nat) ^ (b % 64).toNat = p at hp
    omega
  have hq : ∀ p : Nat, p < 18446744073709551616 → 0 ≤ (p : Int) ∧ (p : Int) < 18446744073709551616 := fun p h => by omega
  rw [hw, u64_or _ _ (word_nonneg _ _) (word_lt _ _) (hq _ hp).1 (hq _ hp).2]
  apply word_of_bits
  · have h1 := word_lt m k; have h3 := word_nonneg m k
    rw [show (18446744073709551616 : Nat) = 2 ^ 64 by decide]
    exact Nat.or_lt_two_pow (by omega) (by omega)
  · intro j hj
    rw [Nat.testBit_or, testBit_word, Int.toNat_natCast, Nat.testBit_two_pow]
    simp only [hj, decide_true, Bool.true_and, putM]
    congr 1
    simp only [decide_eq_decide]
    omega
theorem put_other (m : Nat → Bool) (b : Int) (k : Nat) (_h0 : 0 ≤ b) (h : b / 64 ≠ (k : Int)) : word m k = word (putM m b) k := by
  apply word_congr
  intro j hj
  simp only [putM]
  rw [show decide (((64 * k + j : Nat) : Int) = b) = false by simp; omega]
  simp
theorem has_word (m : Nat → Bool) (b : Int) (k : Nat) (h0 : 0 ≤ b) (h : b / 64 = (k : Int)) : (bits BinOp.and IntKind.u64 (word m k / 2 ^ (b % 64).toNat) 1 == 1) = m b.toNat := by
  have h1 := word_lt m k
  have h3 := word_nonneg m k
  obtain ⟨n, hn⟩ := Int.eq_ofNat_of_zero_le h3
  have hd : word m k / 2 ^ (b % 64).toNat = ((n / 2 ^ (b % 64).toNat : Nat) : Int) := by
    rw [hn]; simp
  have hlt : n / 2 ^ (b % 64).toNat ≤ n := Nat.div_le_self _ _
  rw [hd, show (1 : Int) = ((1 : Nat) : Int) by rfl, u64_and_nat _ _ (by omega) (by omega), Nat.and_one_is_mod]
  have ht := testBit_word m k (b % 64).toNat
  rw [show (word m k).toNat = n by omega, Nat.testBit_eq_decide_div_mod_eq] at ht
  have hb : 64 * k + (b % 64).toNat = b.toNat := by omega
  rw [hb] at ht
  rw [show decide ((b % 64).toNat < 64) = true by simp; omega, Bool.true_and] at ht
  rw [← ht, Bool.eq_iff_iff]
  generalize n / 2 ^ (b % 64).toNat = q
  simp only [beq_iff_eq, decide_eq_true_eq]
  omega
/-- Are two sets the same? -/
def eqB (m m' : Nat → Bool) : Bool := (List.range 256).all fun x => m x == m' x
theorem eqB_iff (m m' : Nat → Bool) : eqB m m' = true ↔ ∀ x, x < 256 → m x = m' x := by simp [eqB]
theorem eqB_words (m m' : Nat → Bool) : (word m 0 == word m' 0 && (word m 1 == word m' 1 && (word m 2 == word m' 2 && word m 3 == word m' 3))) = eqB m m' := by
  rw [Bool.eq_iff_iff, eqB_iff]
  simp only [Bool.and_eq_true, beq_iff_eq]
  exact ⟨fun ⟨h0, h1, h2, h3⟩ => words_inj h0 h1 h2 h3, fun h => words_congr h⟩
theorem eqB_true {m m' : Nat → Bool} (h : ∀ x, x < 256 → m x = m' x) : eqB m m' = true := (eqB_iff m m').2 h
theorem eqB_zero (m : Nat → Bool) : (word m 0 == 0 && (word m 1 == 0 && (word m 2 == 0 && word m 3 == 0))) = eqB m (fun _ => false) := by
  have hz : ∀ i, word (fun _ => false) i = 0 := by
    intro i
    have := word_of_bits (fun _ => false) i 0 (by omega) (fun j _ => by simp)
    omega
  have := eqB_words m (fun _ => false)
  simpa only [hz] using this
/-- The set's bytes below n, rising. -/
def listM (m : Nat → Bool) (n : Nat) : List Int := ((List.range n).filter m).map fun (x : Nat) => (x : Int)
theorem listM_succ (m : Nat → Bool) (n : Nat) : listM m (n + 1) = if m n then listM m n ++ [(n : Int)] else listM m n := by
  unfold listM
  rw [List.range_succ, List.filter_append]
  by_cases h : m n <;> simp [h]
theorem listM_length (m : Nat → Bool) (n : Nat) : (listM m n).length ≤ n := by
  unfold listM
  rw [List.length_map]
  exact Nat.le_trans (List.length_filter_le _ _) (by simp)
theorem mem_listM (m : Nat → Bool) (n : Nat) (x : Int) : x ∈ listM m n ↔ 0 ≤ x ∧ x < n ∧ m x.toNat = true := by
  simp only [listM, List.mem_map, List.mem_filter, List.mem_range]
  constructor
  · rintro ⟨a, ⟨h1, h2⟩, rfl⟩
    exact ⟨by omega, by omega, by simpa using h2⟩
  · rintro ⟨h1, h2, h3⟩
    exact ⟨x.toNat, ⟨by omega, h3⟩, by omega⟩
end Go.Proofs.YtofhkgafgnldnaaDoor
