/- Sets of bytes as four words: a set is told by a function from numbers to Bools; what the operations on words make of it. No program in sight. -/
import Derived.WalkKit
import Derived.Handy
import Derived.Lib.Hide
import Derived.Test.YtpiimcbbgalhfaaGreatDoorRows
import Derived.WalkSpells
import Derived.WalkLawsBesides
import Derived.StillTailTactics
import Derived.Deep.RegionWith
import Derived.Deep.QuietTactic
import Derived.BigQuiet
import Derived.Deep.RegionHeld3
import Derived.Deep.RegionLaw
import Derived.RegionTactic
import Derived.BigRegion
import Derived.Lib.TrailingZeros
import Derived.Shelf.Spec.TrailingZeros
namespace Go.Proofs.YtpiimcbbgalhfaaGreatDoor
set_option maxRecDepth 100000
open Go.RowKit

def bitsTo (f : Nat → Bool) : Nat → Nat
  | 0 => 0
  | n + 1 => bitsTo f n ||| (if f n then 2 ^ n else 0)
theorem testBit_bitsTo (f : Nat → Bool) (n j : Nat) : (bitsTo f n).testBit j = (decide (j < n) && f j) := by
  induction n with
  | zero => simp [bitsTo]
  | succ n ih =>
    simp only [bitsTo, Nat.testBit_or, ih]
    by_cases hf : f n
    · simp only [hf, if_true, Nat.testBit_two_pow]
      by_cases h : n = j
      · subst h; simp [hf]
      · by_cases h2 : j < n
        · simp [h, h2, show j < n + 1 by omega]
        · simp [h, h2, show ¬ j < n + 1 by omega]
    · simp only [hf, Bool.false_eq_true, if_false, Nat.zero_testBit, Bool.or_false]
      by_cases h : n = j
      · subst h; simp [hf]
      · by_cases h2 : j < n
        · simp [h2, show j < n + 1 by omega]
        · simp [h2, show ¬ j < n + 1 by omega]
theorem bitsTo_lt (f : Nat → Bool) (n : Nat) : bitsTo f n < 2 ^ n := by
  apply Nat.lt_pow_two_of_testBit
  intro i hi
  rw [testBit_bitsTo]
  simp [show ¬ i < n by omega]
/-- Word i of the set m. -/
def word (m : Nat → Bool) (i : Nat) : Int := (bitsTo (fun j => m (64 * i + j)) 64 : Nat)
theorem word_nonneg (m : Nat → Bool) (i : Nat) : 0 ≤ word m i := by unfold word; omega
theorem word_lt (m : Nat → Bool) (i : Nat) : word m i < 18446744073709551616 := by
  have := bitsTo_lt (fun j => m (64 * i + j)) 64
  unfold word
  simp only [show (2 : Nat) ^ 64 = 18446744073709551616 by decide] at this
  omega
theorem word_toNat (m : Nat → Bool) (i : Nat) : (word m i).toNat = bitsTo (fun j => m (64 * i + j)) 64 := by unfold word; omega
theorem testBit_word (m : Nat → Bool) (i j : Nat) : (word m i).toNat.testBit j = (decide (j < 64) && m (64 * i + j)) := by
  rw [word_toNat, testBit_bitsTo]
/-- A number is a word, if its bits are. -/
theorem word_of_bits (m : Nat → Bool) (i : Nat) (n : Nat) (hn : n < 18446744073709551616) (h : ∀ j, j < 64 → n.testBit j = m (64 * i + j)) : (n : Int) = word m i := by
  unfold word
  congr 1
  apply Nat.eq_of_testBit_eq
  intro j
  rw [testBit_bitsTo]
  by_cases hj : j < 64
  · simp [hj, h j hj]
  · simp only [hj, decide_false, Bool.false_and]
    apply Nat.testBit_lt_two_pow
    have : (18446744073709551616 : Nat) ≤ 2 ^ j := by
      rw [show (18446744073709551616 : Nat) = 2 ^ 64 by decide]
      exact Nat.pow_le_pow_right (by omega) (by omega)
    omega
theorem word_congr {m m' : Nat → Bool} (i : Nat) (h : ∀ j, j < 64 → m (64 * i + j) = m' (64 * i + j)) : word m i = word m' i := by
  have := word_of_bits m' i (word m i).toNat (by have := word_lt m i; omega) (fun j hj => by rw [testBit_word, h j hj]; simp [hj])
  have h0 := word_nonneg m i
  omega
theorem word_inj {m m' : Nat → Bool} {i : Nat} (h : word m i = word m' i) (j : Nat) (hj : j < 64) : m (64 * i + j) = m' (64 * i + j) := by
  have h1 := testBit_word m i j
  have h2 := testBit_word m' i j
  rw [h, h2] at h1
  simpa [hj] using h1.symm
/-- The value of a set. -/
abbrev setV (m : Nat → Bool) : Value := .agg #[.int .u64 (word m 0), .int .u64 (word m 1), .int .u64 (word m 2), .int .u64 (word m 3)]
/-- Its four cells. -/
abbrev setC (m : Nat → Bool) : Array Value := #[.int .u64 (word m 0), .int .u64 (word m 1), .int .u64 (word m 2), .int .u64 (word m 3)]
theorem words_congr {m m' : Nat → Bool} (h : ∀ x, x < 256 → m x = m' x) : word m 0 = word m' 0 ∧ word m 1 = word m' 1 ∧ word m 2 = word m' 2 ∧ word m 3 = word m' 3 :=
  ⟨word_congr 0 fun j hj => h _ (by omega), word_congr 1 fun j hj => h _ (by omega), word_congr 2 fun j hj => h _ (by omega), word_congr 3 fun j hj => h _ (by omega)⟩
theorem setV_congr {m m' : Nat → Bool} (h : ∀ x, x < 256 → m x = m' x) : setV m = setV m' := by
  obtain ⟨h0, h1, h2, h3⟩ := words_congr h
  simp only [setV, h0, h1, h2, h3]
theorem words_inj {m m' : Nat → Bool} (h0 : word m 0 = word m' 0) (h1 : word m 1 = word m' 1) (h2 : word m 2 = word m' 2) (h3 : word m 3 = word m' 3) (x : Nat) (hx : x < 256) : m x = m' x := by
  have e : x = 64 * (x / 64) + x % 64 := by omega
  have hj : x % 64 < 64 := by omega
  have hq : x / 64 = 0 ∨ x / 64 = 1 ∨ x / 64 = 2 ∨ x / 64 = 3 := by omega
  rw [e]
  rcases hq with h | h | h | h <;> rw [h]
  · exact word_inj h0 _ hj
  · exact word_inj h1 _ hj
  · exact word_inj h2 _ hj
  · exact word_inj h3 _ hj
/-- The set of four words. -/
def ofWords (a0 a1 a2 a3 : Int) (x : Nat) : Bool :=
  if x < 64 then a0.toNat.testBit x else if x < 128 then a1.toNat.testBit (x - 64) else if x < 192 then a2.toNat.testBit (x - 128) else a3.toNat.testBit (x - 192)
theorem ofWords_words (a0 a1 a2 a3 : Int) (h0 : 0 ≤ a0 ∧ a0 < 18446744073709551616) (h1 : 0 ≤ a1 ∧ a1 < 18446744073709551616) (h2 : 0 ≤ a2 ∧ a2 < 18446744073709551616) (h3 : 0 ≤ a3 ∧ a3 < 18446744073709551616) :
    a0 = word (ofWords a0 a1 a2 a3) 0 ∧ a1 = word (ofWords a0 a1 a2 a3) 1 ∧ a2 = word (ofWords a0 a1 a2 a3) 2 ∧ a3 = word (ofWords a0 a1 a2 a3) 3 := by
  have e0 : ∀ j, j < 64 → a0.toNat.testBit j = ofWords a0 a1 a2 a3 (64 * 0 + j) := by
    intro j hj
    unfold ofWords
    rw [if_pos (by omega), show 64 * 0 + j = j by omega]
  have e1 : ∀ j, j < 64 → a1.toNat.testBit j = ofWords a0 a1 a2 a3 (64 * 1 + j) := by
    intro j hj
    unfold ofWords
    rw [if_neg (by omega), if_pos (by omega), show 64 * 1 + j - 64 = j by omega]
  have e2 : ∀ j, j < 64 → a2.toNat.testBit j = ofWords a0 a1 a2 a3 (64 * 2 + j) := by
    intro j hj
    unfold ofWords
    rw [if_neg (by omega), if_neg (by omega), if_pos (by omega), show 64 * 2 + j - 128 = j by omega]
  have e3 : ∀ j, j < 64 → a3.toNat.testBit j = ofWords a0 a1 a2 a3 (64 * 3 + j) := by
    intro j hj
    unfold ofWords
    rw [if_neg (by omega), if_neg (by omega), if_neg (by omega), show 64 * 3 + j - 192 = j by omega]
  have k0 := word_of_bits _ 0 a0.toNat (by omega) e0
  have k1 := word_of_bits _ 1 a1.toNat (by omega) e1
  have k2 := word_of_bits _ 2 a2.toNat (by omega) e2
  have k3 := word_of_bits _ 3 a3.toNat (by omega) e3
  rw [← k0, ← k1, ← k2, ← k3]
  omega

/-! what the operations make of words -/
theorem or_word (m m' : Nat → Bool) (i : Nat) : bits .or .u64 (word m i) (word m' i) = word (fun x => m x || m' x) i := by
  rw [u64_or _ _ (word_nonneg _ _) (word_lt _ _) (word_nonneg _ _) (word_lt _ _)]
  apply word_of_bits
  · have h1 := word_lt m i; have h2 := word_lt m' i; have h3 := word_nonneg m i; have h4 := word_nonneg m' i
    rw [show (18446744073709551616 : Nat) = 2 ^ 64 by decide]
    exact Nat.or_lt_two_pow (by omega) (by omega)
  · intro j hj
    rw [Nat.testBit_or, testBit_word, testBit_word]; simp [hj]
theorem and_word (m m' : Nat → Bool) (i : Nat) : bits .and .u64 (word m i) (word m' i) = word (fun x => m x && m' x) i := by
  rw [u64_and _ _ (word_nonneg _ _) (word_lt _ _) (word_nonneg _ _) (word_lt _ _)]
  apply word_of_bits
  · have h1 := word_lt m i; have h3 := word_nonneg m i
    exact Nat.lt_of_le_of_lt Nat.and_le_left (by omega)
  · intro j hj
    rw [Nat.testBit_and, testBit_word, testBit_word]; simp [hj]
theorem andNot_word (m m' : Nat → Bool) (i : Nat) : bits .andNot .u64 (word m i) (word m' i) = word (fun x => m x && !m' x) i := by
  rw [u64_andNot _ _ (word_nonneg _ _) (word_lt _ _) (word_nonneg _ _) (word_lt _ _)]
  apply word_of_bits
  · have h1 := word_lt m i; have h3 := word_nonneg m i
    exact Nat.lt_of_le_of_lt Nat.and_le_left (by omega)
  · intro j hj
    have h1 := word_lt m' i; have h3 := word_nonneg m' i
    rw [Nat.testBit_and, testBit_word, show (18446744073709551615 : Nat) - (word m' i).toNat = 2 ^ 64 - ((word m' i).toNat + 1) by omega, Nat.testBit_two_pow_sub_succ (by omega), testBit_word]
    simp [hj]
theorem not_word (m : Nat → Bool) (i : Nat) : bits .xor .u64 IntKind.u64.max (word m i) = word (fun x => !m x) i := by
  rw [u64_xor _ _ (by decide) (by decide) (word_nonneg _ _) (word_lt _ _)]
  have hm : IntKind.u64.max.toNat = 2 ^ 64 - 1 := by decide
  rw [hm]
  have h1 := word_lt m i
  have h3 := word_nonneg m i
  apply word_of_bits
  · rw [show (18446744073709551616 : Nat) = 2 ^ 64 by decide]
    exact Nat.xor_lt_two_pow (by omega) (by omega)
  · intro j hj
    rw [Nat.testBit_xor, testBit_word, Nat.testBit_two_pow_sub_one]; simp [hj]
/-- The set with a byte more. -/
def putM (m : Nat → Bool) (b : Int) (x : Nat) : Bool := m x || decide ((x : Int) = b)
theorem put_word (m : Nat → Bool) (b : Int) (k : Nat) (_h0 : 0 ≤ b) (h : b / 64 = (k : Int)) : bits .or .u64 (word m k) (IntKind.u64.wrap (2 ^ (b % 64).toNat)) = word (putM m b) k := by
  have hlt : (b % 64).toNat < 64 := by omega
  have hp : (2 : Nat) ^ (b % 64).toNat < 18446744073709551616 := by
    rw [show (18446744073709551616 : Nat) = 2 ^ 64 by decide]
    exact Nat.pow_lt_pow_right (by omega) hlt
  have hw : IntKind.u64.wrap (2 ^ (b % 64).toNat) = ((2 ^ (b % 64).toNat : Nat) : Int) := by
    rw [IntKind.wrap_u64, show (2 : Int) ^ (b % 64).toNat = ((2 ^ (b % 64).toNat : Nat) : Int) by simp]
    generalize (2 : Nat) ^ (b % 64).toNat = p at hp
    omega
  have hq : ∀ p : Nat, p < 18446744073709551616 → 0 ≤ (p : Int) ∧ (p : Int) < 18446744073709551616 := fun p h => by omega
  rw [hw, u64_or _ _ (word_nonneg _ _) (word_lt _ _) (hq _ hp).1 (hq _ hp).2]
  apply word_of_bits
  · have h1 := word_lt m k; have h3 := word_nonneg m k
    rw [show (18446744073709551616 : Nat) = 2 ^ 64 by decide]
    exact Nat.or_lt_two_pow (by omega) (by omega)
  · intro j hj
    rw [Nat.testBit_or, testBit_word, Int.toNat_natCast, Nat.testBit_two_pow]
    simp only [hj, decide_true, Bool.true_and, putM]
    congr 1
    simp only [decide_eq_decide]
    omega
theorem put_other (m : Nat → Bool) (b : Int) (k : Nat) (_h0 : 0 ≤ b) (h : b / 64 ≠ (k : Int)) : word m k = word (putM m b) k := by
  apply word_congr
  intro j hj
  simp only [putM]
  rw [show decide (((64 * k + j : Nat) : Int) = b) = false by simp; omega]
  simp
theorem has_word (m : Nat → Bool) (b : Int) (k : Nat) (h0 : 0 ≤ b) (h : b / 64 = (k : Int)) : (bits BinOp.and IntKind.u64 (word m k / 2 ^ (b % 64).toNat) 1 == 1) = m b.toNat := by
  have h1 := word_lt m k
  have h3 := word_nonneg m k
  obtain ⟨n, hn⟩ := Int.eq_ofNat_of_zero_le h3
  have hd : word m k / 2 ^ (b % 64).toNat = ((n / 2 ^ (b % 64).toNat : Nat) : Int) := by
    rw [hn]; simp
  have hlt : n / 2 ^ (b % 64).toNat ≤ n := Nat.div_le_self _ _
  rw [hd, show (1 : Int) = ((1 : Nat) : Int) by rfl, u64_and_nat _ _ (by omega) (by omega), Nat.and_one_is_mod]
  have ht := testBit_word m k (b % 64).toNat
  rw [show (word m k).toNat = n by omega, Nat.testBit_eq_decide_div_mod_eq] at ht
  have hb : 64 * k + (b % 64).toNat = b.toNat := by omega
  rw [hb] at ht
  rw [show decide ((b % 64).toNat < 64) = true by simp; omega, Bool.true_and] at ht
  rw [← ht, Bool.eq_iff_iff]
  generalize n / 2 ^ (b % 64).toNat = q
  simp only [beq_iff_eq, decide_eq_true_eq]
  omega
/-- Are two sets the same? -/
def eqB (m m' : Nat → Bool) : Bool := (List.range 256).all fun x => m x == m' x
theorem eqB_iff (m m' : Nat → Bool) : eqB m m' = true ↔ ∀ x, x < 256 → m x = m' x := by simp [eqB]
theorem eqB_words (m m' : Nat → Bool) : (word m 0 == word m' 0 && (word m 1 == word m' 1 && (word m 2 == word m' 2 && word m 3 == word m' 3))) = eqB m m' := by
  rw [Bool.eq_iff_iff, eqB_iff]
  simp only [Bool.and_eq_true, beq_iff_eq]
  exact ⟨fun ⟨h0, h1, h2, h3⟩ => words_inj h0 h1 h2 h3, fun h => words_congr h⟩
theorem eqB_true {m m' : Nat → Bool} (h : ∀ x, x < 256 → m x = m' x) : eqB m m' = true := (eqB_iff m m').2 h
theorem eqB_zero (m : Nat → Bool) : (word m 0 == 0 && (word m 1 == 0 && (word m 2 == 0 && word m 3 == 0))) = eqB m (fun _ => false) := by
  have hz : ∀ i, word (fun _ => false) i = 0 := by
    intro i
    have := word_of_bits (fun _ => false) i 0 (by omega) (fun j _ => by simp)
    omega
  have := eqB_words m (fun _ => false)
  simpa only [hz] using this
/-- The set's bytes below n, rising. -/
def listM (m : Nat → Bool) (n : Nat) : List Int := ((List.range n).filter m).map fun (x : Nat) => (x : Int)
theorem listM_succ (m : Nat → Bool) (n : Nat) : listM m (n + 1) = if m n then listM m n ++ [(n : Int)] else listM m n := by
  unfold listM
  rw [List.range_succ, List.filter_append]
  by_cases h : m n <;> simp [h]
theorem listM_length (m : Nat → Bool) (n : Nat) : (listM m n).length ≤ n := by
  unfold listM
  rw [List.length_map]
  exact Nat.le_trans (List.length_filter_le _ _) (by simp)
theorem mem_listM (m : Nat → Bool) (n : Nat) (x : Int) : x ∈ listM m n ↔ 0 ≤ x ∧ x < n ∧ m x.toNat = true := by
  simp only [listM, List.mem_map, List.mem_filter, List.mem_range]
  constructor
  · rintro ⟨a, ⟨h1, h2⟩, rfl⟩
    exact ⟨by omega, by omega, by simpa using h2⟩
  · rintro ⟨h1, h2, h3⟩
    exact ⟨x.toNat, ⟨by omega, h3⟩, by omega⟩
end Go.Proofs.YtpiimcbbgalhfaaGreatDoor
/- Small words on memory: a block that is known whole; a slice that reads as a list; what a call leaves as it was. No program in sight. -/
namespace Go.Proofs.YtpiimcbbgalhfaaGreatDoor
set_option maxRecDepth 100000
open Go.RowKit

theorem ret_congr {a b : Value} (h : a = b) : Ending.returned a = .returned b := by rw [h]
/-- Block b holds the cells cs of type t, and bears no mark. -/
def Blk (w : World) (b : Nat) (t : TypeId) (cs : List Value) : Prop := w.heap[b]? = some (.cells cs.toArray t (0, 0))
theorem Blk.lt {w : World} {b : Nat} {t : TypeId} {cs : List Value} (h : Blk w b t cs) : b < w.heap.size := (Array.getElem?_eq_some_iff.1 h).1
theorem Blk.cell {w : World} {b : Nat} {t : TypeId} {cs : List Value} (h : Blk w b t cs) (i : Nat) : w.cell? ⟨b, i, none⟩ = cs[i]? := by
  rw [cell_of_row w b i cs.toArray t (0, 0) h]; simp
theorem Blk.frozen {w : World} {b : Nat} {t : TypeId} {cs : List Value} (h : Blk w b t cs) (i : Nat) : w.frozen? ⟨b, i, none⟩ = false := by
  unfold Blk at h
  simp [World.frozen?, h]
theorem Blk.below {w w' : World} {b : Nat} {t : TypeId} {cs : List Value} (h : Blk w b t cs) {B : Nat} (hb : Below B w w') (hB : b < B) : Blk w' b t cs := (hb.block b hB).trans h
theorem Blk.new (w : World) (cs : List Value) (t : TypeId) : Blk (w.alloc (.cells cs.toArray t)) w.heap.size t cs := by
  show (w.heap.push _)[w.heap.size]? = _
  simp
theorem blk_new2 (w : World) (cs : List Value) (t : TypeId) (o : Obj) : Blk ((w.alloc o).alloc (.cells cs.toArray t)) (w.heap.size + 1) t cs := by
  have h := Blk.new (w.alloc o) cs t
  rwa [show (w.alloc o).heap.size = w.heap.size + 1 by simp] at h
theorem Blk.alloc {w : World} {b : Nat} {t : TypeId} {cs : List Value} (h : Blk w b t cs) (o : Obj) : Blk (w.alloc o) b t cs := (Below.heap_alloc w o b h.lt).trans h
theorem Blk.drew {w : World} {b : Nat} {t : TypeId} {cs : List Value} (h : Blk w b t cs) : Blk w.drew b t cs := h
theorem Blk.set {w : World} {b : Nat} {t : TypeId} {cs : List Value} (h : Blk w b t cs) (i : Nat) (u : Value) : Blk (w.setCell ⟨b, i, none⟩ u) b t (cs.set i u) := by
  unfold Blk at *
  simp only [World.setCell, Array.getElem?_modify, if_true, h, Option.map_some]
  simp
theorem Blk.far {w : World} {b : Nat} {t : TypeId} {cs : List Value} (h : Blk w b t cs) {p : Addr} (hp : b ≠ p.block) (u : Value) : Blk (w.setCell p u) b t cs := (Below.heap_setCell w p u b hp).trans h
/-- Four cells, four marks: what the walk wants of a set's block. -/
theorem Blk.four {w : World} {b : Nat} {t : TypeId} {u0 u1 u2 u3 : Value} (h : Blk w b t [u0, u1, u2, u3]) :
    w.cell? ⟨b, 0, none⟩ = some u0 ∧ w.cell? ⟨b, 1, none⟩ = some u1 ∧ w.cell? ⟨b, 2, none⟩ = some u2 ∧ w.cell? ⟨b, 3, none⟩ = some u3 ∧
    w.frozen? ⟨b, 0, none⟩ = false ∧ w.frozen? ⟨b, 1, none⟩ = false ∧ w.frozen? ⟨b, 2, none⟩ = false ∧ w.frozen? ⟨b, 3, none⟩ = false :=
  ⟨h.cell 0, h.cell 1, h.cell 2, h.cell 3, h.frozen 0, h.frozen 1, h.frozen 2, h.frozen 3⟩
theorem Blk.set4 {w : World} {b : Nat} {t : TypeId} {u0 u1 u2 u3 : Value} (h : Blk w b t [u0, u1, u2, u3]) (v0 v1 v2 v3 : Value) :
    Blk ((((w.setCell ⟨b, 0, none⟩ v0).setCell ⟨b, 1, none⟩ v1).setCell ⟨b, 2, none⟩ v2).setCell ⟨b, 3, none⟩ v3) b t [v0, v1, v2, v3] :=
  (((h.set 0 v0).set 1 v1).set 2 v2).set 3 v3
theorem Blk.far4 {w : World} {b : Nat} {t : TypeId} {cs : List Value} (h : Blk w b t cs) {g : Nat} (hg : b ≠ g) (v0 v1 v2 v3 : Value) :
    Blk ((((w.setCell ⟨g, 0, none⟩ v0).setCell ⟨g, 1, none⟩ v1).setCell ⟨g, 2, none⟩ v2).setCell ⟨g, 3, none⟩ v3) b t cs :=
  (((h.far (p := ⟨g, 0, none⟩) hg v0).far (p := ⟨g, 1, none⟩) hg v1).far (p := ⟨g, 2, none⟩) hg v2).far (p := ⟨g, 3, none⟩) hg v3
theorem below_set4 {B : Nat} {a w : World} (h : Below B a w) {g : Nat} (hg : B ≤ g) (v0 v1 v2 v3 : Value) :
    Below B a ((((w.setCell ⟨g, 0, none⟩ v0).setCell ⟨g, 1, none⟩ v1).setCell ⟨g, 2, none⟩ v2).setCell ⟨g, 3, none⟩ v3) :=
  (((h.setCell (p := ⟨g, 0, none⟩) hg v0).setCell (p := ⟨g, 1, none⟩) hg v1).setCell (p := ⟨g, 2, none⟩) hg v2).setCell (p := ⟨g, 3, none⟩) hg v3
/-- What a call leaves as it was: all cells and marks that were there. -/
theorem bcell {W w1 : World} (hb : Below W.heap.size W w1) : (∀ b o, b < W.heap.size → w1.cell? ⟨b, o, none⟩ = W.cell? ⟨b, o, none⟩) ∧ (∀ b o, b < W.heap.size → w1.frozen? ⟨b, o, none⟩ = W.frozen? ⟨b, o, none⟩) :=
  ⟨fun b o h => hb.cell (p := ⟨b, o, none⟩) h, fun b o h => hb.frozen (p := ⟨b, o, none⟩) h⟩
/-- The slice value v reads as the numbers l of kind k. -/
def Rd (w : World) (k : IntKind) (v : Value) (l : List Int) : Prop :=
  ∃ A c, v = .slice A l.length c ∧ l.length ≤ c ∧ l.length ≤ 140737488355328 ∧ ∀ i x, l[i]? = some x → ∃ ad, A = some ad ∧ ad.block < w.heap.size ∧ w.cell? (ad.add i) = some (.int k x)
theorem Rd.below {w w' : World} {k : IntKind} {v : Value} {l : List Int} (h : Rd w k v l) (hb : Below w.heap.size w w') : Rd w' k v l := by
  obtain ⟨A, c, rfl, h1, h2, h3⟩ := h
  refine ⟨A, c, rfl, h1, h2, fun i x hi => ?_⟩
  obtain ⟨ad, rfl, hlt, hc⟩ := h3 i x hi
  exact ⟨ad, rfl, Nat.lt_of_lt_of_le hlt hb.size, (hb.cell (p := ad.add i) (by unfold Addr.add; split <;> exact hlt)).trans hc⟩
/-- Four words of a set as a block's cells. -/
abbrev setL (m : Nat → Bool) : List Value := [.int .u64 (word m 0), .int .u64 (word m 1), .int .u64 (word m 2), .int .u64 (word m 3)]
theorem word_none (i : Nat) : word (fun _ => false) i = 0 := by
  have := word_of_bits (fun _ => false) i 0 (by omega) (fun j _ => by simp)
  omega
/-- What is known of a slice type t and its elements' type e: 'size' cells, 'bytes' bytes. -/
def Elem (P : Program) (t e : TypeId) (size bytes : Nat) : Prop :=
  ∃ i z, P.underlying t = some (.slice e) ∧ P.info? e = some i ∧ i.zero = some z ∧ i.size = size ∧ i.bytes = bytes ∧ z.cells.size = size ∧ 0 < size
/-- 'v = append(v, x)', v a row of the call's own, x's cells in a new block. -/
theorem append_one {P : Program} {W : World} {ops : Array Oper} {rest : List Oper} {o : Oper} {a : Act} {Q : Exit → Act → World → Prop} (hgd : o.guard = none) (s x : Operand) (t : TypeId)
    (ho : o.op = .call { callee := .builtin .append, args := #[s, x], argTypes := #[t, t] }) (base : Nat) (e : TypeId) (size bytes : Nat) (he : Elem P t e size bytes)
    (v : Value) (n : Nat) (xs : List Value) (hs : a.eval s = v) (hown : W.ownsRow base e size v n xs) (news : List Value) (hx : a.eval x = .slice (some ⟨W.heap.size, 0, none⟩) 1 1)
    (hl : news.length = size) (h1 : ∀ u ∈ news, u.oneCell' = true) (h63 : n + 1 ≤ 9223372036854775807) (hbytes : (n + 1) * bytes ≤ 140737488355328) (hbase : base ≤ W.heap.size)
    (h : ∀ v' w', w'.ownsRow base e size v' (n + 1) (xs ++ news) → Below base W w' → wpList P ops Q rest (a.put o.dst v') w') : wpList P ops Q (o :: rest) a (W.alloc (.cells news.toArray e)) := by
  obtain ⟨i, z, ht, hi, hz, hsize, hby, hzs, hsz⟩ := he
  refine wpList_append_own _ hgd s x t ho base e i z size bytes ht hi hz hsize hby hzs hsz v n xs hs (hown.alloc _) ⟨W.heap.size, 0, none⟩ 1 1 news hx (by omega) ?_ h1 h63 hbytes (by simp; omega) ?_
  · intro j u hu
    rw [show (⟨W.heap.size, 0, none⟩ : Addr).add j = ⟨W.heap.size, j, none⟩ by unfold Addr.add; split <;> simp_all]
    rw [(Blk.new W news e).cell j, hu]
  · intro v' w' hown' hg _
    refine h v' w' hown' ?_
    exact ((Below.refl base W).alloc hbase _).grown hg (by simp; omega) (fun k hk => ((hown.lt) k hk).1)
/-- A row of the call's own, read. -/
theorem own_rd {w : World} {base : Nat} {e : TypeId} {k : IntKind} {v : Value} {n : Nat} {l : List Int} (h : w.ownsRow base e 1 v n (l.map (.int k))) (hn : n ≤ 140737488355328) : Rd w k v l := by
  have hlen : l.length = n := by have := h.1; simpa using this
  rcases h.2 with ⟨rfl, h0⟩ | ⟨g, cap, cur, rfl, hb, hg, h1, h2, h3, h4⟩
  · refine ⟨none, 0, by rw [hlen, h0], by omega, by omega, fun i x hi => ?_⟩
    rw [List.eq_nil_of_length_eq_zero (by omega : l.length = 0)] at hi
    simp at hi
  · refine ⟨some ⟨g, 0, none⟩, cap, by rw [hlen], by omega, by omega, fun i x hi => ⟨_, rfl, (Array.getElem?_eq_some_iff.1 hg).1, ?_⟩⟩
    refine h.cells (g := g) rfl i _ ?_
    simp [hi]
theorem Rd.length {w : World} {k : IntKind} {v : Value} {l : List Int} (h : Rd w k v l) : l.length ≤ 140737488355328 := by
  obtain ⟨_, _, _, _, h, _⟩ := h
  exact h
theorem own_below {w w1 : World} {base : Nat} {e : TypeId} {size n : Nat} {v : Value} {xs : List Value} (h : w.ownsRow base e size v n xs) (hb : Below w.heap.size w w1) : w1.ownsRow base e size v n xs := by
  refine h.kept (row := none) ⟨hb.os, hb.tape, hb.output, hb.size, fun k hk _ => hb.block k hk⟩ ?_
  cases h' : v.ownBlock with
  | none => exact .inl rfl
  | some g => exact .inr (by simp)
theorem own_base {w : World} {base base' : Nat} {e : TypeId} {size n : Nat} {v : Value} {xs : List Value} (h : w.ownsRow base e size v n xs) (hb : base' ≤ base) : w.ownsRow base' e size v n xs := by
  obtain ⟨h1, h2⟩ := h
  refine ⟨h1, ?_⟩
  rcases h2 with h2 | ⟨g, cap, cur, h3, h4, h5⟩
  · exact .inl h2
  · exact .inr ⟨g, cap, cur, h3, by omega, h5⟩
theorem one_int (k : IntKind) (n : Int) : ∀ u ∈ [Value.int k n], u.oneCell' = true := by
  intro u hu
  obtain rfl := List.mem_singleton.1 hu
  rfl
theorem one_set (m : Nat → Bool) : ∀ u ∈ setL m, u.oneCell' = true := by
  intro u hu
  simp only [setL, List.mem_cons, List.not_mem_nil, or_false] at hu
  rcases hu with rfl | rfl | rfl | rfl <;> rfl
/-- The slice value v reads as the sets l. -/
def RdS (w : World) (v : Value) (l : List (Nat → Bool)) : Prop :=
  ∃ A c, v = .slice A l.length c ∧ l.length ≤ c ∧ l.length ≤ 140737488355328 ∧ ∀ i m, l[i]? = some m → ∃ ad, A = some ad ∧ ad.block < w.heap.size ∧
    w.cell? (ad.add (i * 4)) = some (.int .u64 (word m 0)) ∧ w.cell? ⟨(ad.add (i * 4)).block, (ad.add (i * 4)).off + 1, none⟩ = some (.int .u64 (word m 1)) ∧
    w.cell? ⟨(ad.add (i * 4)).block, (ad.add (i * 4)).off + 2, none⟩ = some (.int .u64 (word m 2)) ∧ w.cell? ⟨(ad.add (i * 4)).block, (ad.add (i * 4)).off + 3, none⟩ = some (.int .u64 (word m 3))
theorem add_block (ad : Addr) (i : Nat) : (ad.add i).block = ad.block := by unfold Addr.add; split <;> rfl
theorem RdS.below {w w' : World} {v : Value} {l : List (Nat → Bool)} (h : RdS w v l) (hb : Below w.heap.size w w') : RdS w' v l := by
  obtain ⟨A, c, rfl, h1, h2, h3⟩ := h
  refine ⟨A, c, rfl, h1, h2, fun i x hi => ?_⟩
  obtain ⟨ad, rfl, hlt, c0, c1, c2, c3⟩ := h3 i x hi
  have hl : (ad.add (i * 4)).block < w.heap.size := by rw [add_block]; exact hlt
  have hb' : ∀ o, w'.cell? ⟨(ad.add (i * 4)).block, o, none⟩ = w.cell? ⟨(ad.add (i * 4)).block, o, none⟩ := fun o => hb.cell (p := ⟨(ad.add (i * 4)).block, o, none⟩) hl
  exact ⟨ad, rfl, Nat.lt_of_lt_of_le hlt hb.size, (hb.cell hl).trans c0, (hb' _).trans c1, (hb' _).trans c2, (hb' _).trans c3⟩
/-- The cells of some sets. -/
def setsC (l : List (Nat → Bool)) : List Value := l.flatMap setL
theorem setsC_snoc (l : List (Nat → Bool)) (m : Nat → Bool) : setsC (l ++ [m]) = setsC l ++ setL m := by simp [setsC]
theorem setsC_length (l : List (Nat → Bool)) : (setsC l).length = l.length * 4 := by
  induction l with
  | nil => rfl
  | cons m l ih => simp only [setsC, List.flatMap_cons, List.length_append] at *; rw [ih]; simp; omega
theorem setsC_at (l : List (Nat → Bool)) (i : Nat) (m : Nat → Bool) (h : l[i]? = some m) (j : Nat) (hj : j < 4) : (setsC l)[i * 4 + j]? = (setL m)[j]? := by
  induction l generalizing i with
  | nil => simp at h
  | cons x l ih =>
    cases i with
    | zero =>
      simp only [List.getElem?_cons_zero, Option.some.injEq] at h
      subst h
      simp only [setsC, List.flatMap_cons, Nat.zero_mul, Nat.zero_add]
      rw [List.getElem?_append_left (by simp; omega)]
    | succ i =>
      simp only [List.getElem?_cons_succ] at h
      have := ih i h
      simp only [setsC, List.flatMap_cons] at *
      rw [List.getElem?_append_right (by simp; omega), ← this]
      congr 1
      simp; omega
theorem own_rdS {w : World} {base : Nat} {e : TypeId} {v : Value} {n : Nat} {l : List (Nat → Bool)} (h : w.ownsRow base e 4 v n (setsC l)) (hn : n ≤ 140737488355328) : RdS w v l := by
  have hlen : l.length = n := by have := h.1; rw [setsC_length] at this; omega
  rcases h.2 with ⟨rfl, h0⟩ | ⟨g, cap, cur, rfl, hb, hg, h1, h2, h3, h4⟩
  · refine ⟨none, 0, by rw [hlen, h0], by omega, by omega, fun i x hi => ?_⟩
    rw [List.eq_nil_of_length_eq_zero (by omega : l.length = 0)] at hi
    simp at hi
  · refine ⟨some ⟨g, 0, none⟩, cap, by rw [hlen], by omega, by omega, fun i x hi => ⟨_, rfl, (Array.getElem?_eq_some_iff.1 hg).1, ?_⟩⟩
    have ha : ∀ j, (⟨g, 0, none⟩ : Addr).add j = ⟨g, j, none⟩ := fun j => by unfold Addr.add; split <;> simp_all
    have hc : ∀ j, j < 4 → w.cell? ⟨g, i * 4 + j, none⟩ = (setL x)[j]? := by
      intro j hj
      have hs := setsC_at l i x hi j hj
      have hlt : j < (setL x).length := by simpa using hj
      rw [List.getElem?_eq_getElem hlt] at hs ⊢
      rw [← ha]
      exact h.cells (g := g) rfl _ _ hs
    simp only [ha]
    exact ⟨hc 0 (by omega), hc 1 (by omega), hc 2 (by omega), hc 3 (by omega)⟩
/-- A row of sets that is written out in one new block. -/
theorem rdS_new (w : World) (l : List (Nat → Bool)) (e : TypeId) (hl : l.length ≤ 1000) (hw : World) (h : hw = w.alloc (.cells (setsC l).toArray e)) : RdS hw (.slice (some ⟨w.heap.size, 0, none⟩) l.length l.length) l := by
  subst h
  have h := World.ownsRow_lit (base := w.heap.size) (e := e) (size := 4) w (setsC l).toArray l.length (Nat.le_refl _) (by unfold maxLen; omega) (by simp [setsC_length])
  exact own_rdS h (by omega)
theorem own_cells {w : World} {base : Nat} {e : TypeId} {k : IntKind} {v : Value} {n : Nat} {l : List Int} (h : w.ownsRow base e 1 v n (l.map (.int k))) :
    ∃ A c, v = .slice A l.length c ∧ l.length ≤ c ∧ ∀ i x, l[i]? = some x → ∃ ad, A = some ad ∧ base ≤ ad.block ∧ ad.block < w.heap.size ∧ w.cell? (ad.add i) = some (.int k x) := by
  have hlen : l.length = n := by have := h.1; simpa using this
  rcases h.2 with ⟨rfl, h0⟩ | ⟨g, cap, cur, rfl, hb, hg, h1, h2, h3, h4⟩
  · refine ⟨none, 0, by rw [hlen, h0], by omega, fun i x hi => ?_⟩
    rw [List.eq_nil_of_length_eq_zero (by omega : l.length = 0)] at hi
    simp at hi
  · refine ⟨some ⟨g, 0, none⟩, cap, by rw [hlen], by omega, fun i x hi => ⟨_, rfl, hb, (Array.getElem?_eq_some_iff.1 hg).1, ?_⟩⟩
    refine h.cells (g := g) rfl i _ ?_
    simp [hi]
/-- Only block g, and what is new, has turned. -/
theorem only_below {a w w' : World} {g : Nat} (h : a.grownBy w (some g)) (hb : Below w.heap.size w w') : a.grownBy w' (some g) :=
  ⟨hb.os.trans h.os, hb.tape.trans h.tape, hb.output.trans h.output, Nat.le_trans h.size hb.size, fun i hi hn => (hb.block i (Nat.lt_of_lt_of_le hi h.size)).trans (h.block i hi hn)⟩
theorem only_setCell {a w : World} {g : Nat} (h : a.grownBy w (some g)) (o : Nat) (u : Value) : a.grownBy (w.setCell ⟨g, o, none⟩ u) (some g) :=
  ⟨h.os, h.tape, h.output, by simpa [World.setCell] using h.size, fun i hi hne => (Below.heap_setCell w ⟨g, o, none⟩ u i (fun e => hne (by rw [e]))).trans (h.block i hi hne)⟩
theorem only_set4 {a w : World} {g : Nat} (h : a.grownBy w (some g)) (v0 v1 v2 v3 : Value) :
    a.grownBy ((((w.setCell ⟨g, 0, none⟩ v0).setCell ⟨g, 1, none⟩ v1).setCell ⟨g, 2, none⟩ v2).setCell ⟨g, 3, none⟩ v3) (some g) :=
  only_setCell (only_setCell (only_setCell (only_setCell h 0 v0) 1 v1) 2 v2) 3 v3
theorem only_cell {a w : World} {g : Nat} (h : a.grownBy w (some g)) {p : Addr} (hp : p.block < a.heap.size) (hne : p.block ≠ g) : w.cell? p = a.cell? p :=
  World.cell?_of_block (h.block p.block hp (fun e => hne (by injection e)))
end Go.Proofs.YtpiimcbbgalhfaaGreatDoor
/- What each function of the package bytes does: its contracts, over the given translation. -/
namespace Go.Proofs.YtpiimcbbgalhfaaGreatDoor
set_option maxRecDepth 100000
open Go.RowKit

/-- A return of a set that lies in a block that is known whole. -/
theorem ret_set {fn : Func} {R : Ending → World → Prop} {a : Act} {w : World} {b r : Nat} {u0 u1 u2 u3 : Value} (hres : fn.results = #[.cell r 24])
    (hr : a.tmps.getD r undef = .pointer (some ⟨b, 0, none⟩)) (h : Blk w b 24 [u0, u1, u2, u3]) (hd : a.defers = []) (hR : R (.returned (.agg #[u0, u1, u2, u3])) w) : bodyPost Tryz.prog fn R .ret a w := by
  obtain ⟨c0, c1, c2, c3, _⟩ := h.four
  refine bodyPost_ret (v := .agg #[u0, u1, u2, u3]) ?_ hd hR
  have hr' : a.tmps[r]?.getD undef = .pointer (some ⟨b, 0, none⟩) := by simpa using hr
  simp [results, hres, go_sem, hr', c0, c1, c2, c3]
theorem run_eq_words (d : Nat) (a0 a1 a2 a3 b0 b1 b2 b3 : Int) (w : World) :
    (Op.equalIn (d + 2) 24 (.agg #[.int .u64 a0, .int .u64 a1, .int .u64 a2, .int .u64 a3]) (.agg #[.int .u64 b0, .int .u64 b1, .int .u64 b2, .int .u64 b3])).run Tryz.prog w = .ok (a0 == b0 && (a1 == b1 && (a2 == b2 && a3 == b3))) w := by
  have hs : ∀ w, (sizeOf 22).run Tryz.prog w = .ok 1 w := fun _ => by kernel_rfl
  have hp : ∀ (xs : Array Value) (i : Nat) (v : Value) (w : World), xs[i]? = some v → (part 22 xs i).run Tryz.prog w = .ok v w := by
    intro xs i v w h
    have ha : ∀ w, (isAgg 22).run Tryz.prog w = .ok false w := fun _ => by kernel_rfl
    simp [part, ha, h]
  have he : ∀ (a b : Int) (w : World), (Op.equalIn (d + 1) 22 (.int .u64 a) (.int .u64 b)).run Tryz.prog w = .ok (a == b) w := by
    intro a b w
    simp [Op.equalIn, run_underlying Tryz.underlying22]
  have p0 : ∀ (x0 x1 x2 x3 : Int) (w : World), (part 22 #[.int .u64 x0, .int .u64 x1, .int .u64 x2, .int .u64 x3] 0).run Tryz.prog w = .ok (.int .u64 x0) w := fun _ _ _ _ _ => hp _ _ _ _ rfl
  have p1 : ∀ (x0 x1 x2 x3 : Int) (w : World), (part 22 #[.int .u64 x0, .int .u64 x1, .int .u64 x2, .int .u64 x3] 1).run Tryz.prog w = .ok (.int .u64 x1) w := fun _ _ _ _ _ => hp _ _ _ _ rfl
  have p2 : ∀ (x0 x1 x2 x3 : Int) (w : World), (part 22 #[.int .u64 x0, .int .u64 x1, .int .u64 x2, .int .u64 x3] 2).run Tryz.prog w = .ok (.int .u64 x2) w := fun _ _ _ _ _ => hp _ _ _ _ rfl
  have p3 : ∀ (x0 x1 x2 x3 : Int) (w : World), (part 22 #[.int .u64 x0, .int .u64 x1, .int .u64 x2, .int .u64 x3] 3).run Tryz.prog w = .ok (.int .u64 x3) w := fun _ _ _ _ _ => hp _ _ _ _ rfl
  rw [Op.equalIn]
  simp only [Sem.run_bind, run_underlying Tryz.underlying24, Result.andThen_ok, hs]
  simp only [Std.Legacy.Range.forIn_eq_forIn_range', Std.Legacy.Range.size, List.range']
  simp [he, p0, p1, p2, p3]
  by_cases h0 : a0 = b0 <;> by_cases h1 : a1 = b1 <;> by_cases h2 : a2 = b2 <;> by_cases h3 : a3 = b3 <;> simp [h0, h1, h2, h3]
theorem eq_words (a0 a1 a2 a3 b0 b1 b2 b3 : Int) (w : World) :
    (Op.equalIn 10000 24 (.agg #[.int .u64 a0, .int .u64 a1, .int .u64 a2, .int .u64 a3]) (.agg #[.int .u64 b0, .int .u64 b1, .int .u64 b2, .int .u64 b3])).run Tryz.prog w = .ok (a0 == b0 && (a1 == b1 && (a2 == b2 && a3 == b3))) w := run_eq_words 9998 _ _ _ _ _ _ _ _ w
theorem elem_u8 : Elem Tryz.prog 115 5 1 1 := by
  obtain ⟨i, hi, h0, h1, h2⟩ := info_parts (by kernel_rfl : (Tryz.prog.info? 5).map (fun i => (i.zero, i.size, i.bytes)) = some (some (.int .u8 0), 1, 1))
  exact ⟨i, _, Tryz.underlying115, hi, h0, h1, h2, rfl, by decide⟩
theorem idx_set0 (x0 x1 x2 x3 : Int) (w : World) : (Instr.index 24 (.agg #[.int .u64 x0, .int .u64 x1, .int .u64 x2, .int .u64 x3]) (.int .i64 0)).run Tryz.prog w = .ok (.int .u64 x0) w := by kernel_rfl
theorem idx_set1 (x0 x1 x2 x3 : Int) (w : World) : (Instr.index 24 (.agg #[.int .u64 x0, .int .u64 x1, .int .u64 x2, .int .u64 x3]) (.int .i64 1)).run Tryz.prog w = .ok (.int .u64 x1) w := by kernel_rfl
theorem idx_set2 (x0 x1 x2 x3 : Int) (w : World) : (Instr.index 24 (.agg #[.int .u64 x0, .int .u64 x1, .int .u64 x2, .int .u64 x3]) (.int .i64 2)).run Tryz.prog w = .ok (.int .u64 x2) w := by kernel_rfl
theorem idx_set3 (x0 x1 x2 x3 : Int) (w : World) : (Instr.index 24 (.agg #[.int .u64 x0, .int .u64 x1, .int .u64 x2, .int .u64 x3]) (.int .i64 3)).run Tryz.prog w = .ok (.int .u64 x3) w := by kernel_rfl
set_option maxHeartbeats 400000 in
theorem put_any (m : Nat → Bool) (b : Int) (hb0 : 0 ≤ b) (hb : b < 256) (w : World) :
    Calls Tryz.prog 125 #[setV m, .int .u8 b] w fun e w' => e = .returned (setV (putM m b)) ∧ Below w.heap.size w w' := by
  have hq : b / 64 = 0 ∨ b / 64 = 1 ∨ b / 64 = 2 ∨ b / 64 = 3 := by omega
  unfold setV
  rcases hq with hq | hq | hq | hq
  · have e := put_word m b 0 hb0 hq
    have e1 := put_other m b 1 hb0 (by omega)
    have e2 := put_other m b 2 hb0 (by omega)
    have e3 := put_other m b 3 hb0 (by omega)
    have E := Lib.hid (And.intro e (And.intro e1 (And.intro e2 e3)))
    clear e e1 e2 e3
    go_enter Tryz.func125, Tryz.ntmps125
    go_wp2
    obtain ⟨e, e1, e2, e3⟩ := E.out
    refine bodyPost_ret (v := setV (putM m b)) (by simp [results, Tryz.results125, go_sem, e, ← e1, ← e2, ← e3, setV]) rfl ⟨rfl, ?_⟩
    go_grown
  · have e := put_word m b 1 hb0 hq
    have e1 := put_other m b 0 hb0 (by omega)
    have e2 := put_other m b 2 hb0 (by omega)
    have e3 := put_other m b 3 hb0 (by omega)
    have E := Lib.hid (And.intro e (And.intro e1 (And.intro e2 e3)))
    clear e e1 e2 e3
    go_enter Tryz.func125, Tryz.ntmps125
    go_wp2
    obtain ⟨e, e1, e2, e3⟩ := E.out
    refine bodyPost_ret (v := setV (putM m b)) (by simp [results, Tryz.results125, go_sem, e, ← e1, ← e2, ← e3, setV]) rfl ⟨rfl, ?_⟩
    go_grown
  · have e := put_word m b 2 hb0 hq
    have e1 := put_other m b 0 hb0 (by omega)
    have e2 := put_other m b 1 hb0 (by omega)
    have e3 := put_other m b 3 hb0 (by omega)
    have E := Lib.hid (And.intro e (And.intro e1 (And.intro e2 e3)))
    clear e e1 e2 e3
    go_enter Tryz.func125, Tryz.ntmps125
    go_wp2
    obtain ⟨e, e1, e2, e3⟩ := E.out
    refine bodyPost_ret (v := setV (putM m b)) (by simp [results, Tryz.results125, go_sem, e, ← e1, ← e2, ← e3, setV]) rfl ⟨rfl, ?_⟩
    go_grown
  · have e := put_word m b 3 hb0 hq
    have e1 := put_other m b 0 hb0 (by omega)
    have e2 := put_other m b 1 hb0 (by omega)
    have e3 := put_other m b 2 hb0 (by omega)
    have E := Lib.hid (And.intro e (And.intro e1 (And.intro e2 e3)))
    clear e e1 e2 e3
    go_enter Tryz.func125, Tryz.ntmps125
    go_wp2
    obtain ⟨e, e1, e2, e3⟩ := E.out
    refine bodyPost_ret (v := setV (putM m b)) (by simp [results, Tryz.results125, go_sem, e, ← e1, ← e2, ← e3, setV]) rfl ⟨rfl, ?_⟩
    go_grown
set_option maxHeartbeats 400000 in
theorem has_any (m : Nat → Bool) (b : Int) (hb0 : 0 ≤ b) (hb : b < 256) (w : World) :
    Calls Tryz.prog 115 #[setV m, .int .u8 b] w fun e w' => e = .returned (.bool (m b.toNat)) ∧ Below w.heap.size w w' := by
  have hq : b / 64 = 0 ∨ b / 64 = 1 ∨ b / 64 = 2 ∨ b / 64 = 3 := by omega
  unfold setV
  rcases hq with hq | hq | hq | hq
  · have E := Lib.hid (has_word m b 0 hb0 hq)
    go_enter Tryz.func115, Tryz.ntmps115
    go_wp2
    go_returns
    exact ⟨by rw [E.out]; rfl, by go_grown⟩
  · have E := Lib.hid (has_word m b 1 hb0 hq)
    go_enter Tryz.func115, Tryz.ntmps115
    go_wp2
    go_returns
    exact ⟨by rw [E.out]; rfl, by go_grown⟩
  · have E := Lib.hid (has_word m b 2 hb0 hq)
    go_enter Tryz.func115, Tryz.ntmps115
    go_wp2
    go_returns
    exact ⟨by rw [E.out]; rfl, by go_grown⟩
  · have E := Lib.hid (has_word m b 3 hb0 hq)
    go_enter Tryz.func115, Tryz.ntmps115
    go_wp2
    go_returns
    exact ⟨by rw [E.out]; rfl, by go_grown⟩
end Go.Proofs.YtpiimcbbgalhfaaGreatDoor
/- bytes.Of, Range, List and their kin: loops over put and Has. -/
namespace Go.Proofs.YtpiimcbbgalhfaaGreatDoor
set_option maxRecDepth 100000
open Go.RowKit
/-- The set of the numbers of a list. -/
def ofM (l : List Int) (x : Nat) : Bool := decide ((x : Int) ∈ l)
theorem ofM_snoc (l : List Int) (b : Int) : ofM (l ++ [b]) = putM (ofM l) b := by
  funext x
  simp only [ofM, putM, List.mem_append, List.mem_singleton, Bool.decide_or]
theorem ofM_nil : ofM [] = fun _ => false := by funext x; simp [ofM]
set_option maxHeartbeats 400000 in
theorem of_any (l : List Int) (v : Value) (w : World) (hv : Rd w .u8 v l) (hl : ∀ x ∈ l, 0 ≤ x ∧ x < 256) :
    Calls Tryz.prog 71 #[v] w fun e w' => e = .returned (setV (ofM l)) ∧ Below w.heap.size w w' := by
  obtain ⟨A, c, rfl, h1, h2, h3⟩ := hv
  have H3 := Lib.hid h3
  clear h3
  have HL := Lib.hid hl
  clear hl
  go_enter Tryz.func71, Tryz.ntmps71
  go_wp2
  go_loopw [8] (fun i wr => ∃ k : Nat, k ≤ l.length ∧ i = .int .i64 k ∧ Blk wr w.heap.size 24 (setL (fun _ => false)) ∧ Blk wr (w.heap.size + 1) 24 (setL (ofM (l.take k))) ∧ Below w.heap.size w wr) (fun i _ => l.length - (intOf i).toNat)
  case atStart =>
    refine ⟨0, Nat.zero_le _, rfl, ?_, ?_, by go_grown⟩
    · rw [setL, word_none, word_none, word_none, word_none]
      exact (Blk.new w _ _).alloc _
    · rw [List.take_zero, ofM_nil, setL, word_none, word_none, word_none, word_none]
      exact blk_new2 w _ _ _
  case round =>
    obtain ⟨k, hk, rfl, hb0, hb1, hbw⟩ := hrel
    by_cases hlt : k < l.length
    · obtain ⟨ad, rfl, had, hc⟩ := H3.out k l[k] (List.getElem?_eq_getElem hlt)
      have hx := HL.out l[k] (List.getElem_mem hlt)
      have hcr : wr.cell? (ad.add k) = some (.int .u8 l[k]) := (hbw.cell (p := ad.add k) (by unfold Addr.add; split <;> exact had)).trans hc
      obtain ⟨c0, c1, c2, c3, f0, f1, f2, f3⟩ := hb1.four
      clear hc
      go_wp2_with fail
      refine (put_any _ _ hx.1 hx.2 _).mono ?_
      rintro e w1 ⟨rfl, hb⟩
      have hb1' := hb1.below hb hb1.lt
      have hb0' := hb0.below hb hb0.lt
      have hbw' := hbw.trans (hb.mono hbw.size)
      obtain ⟨d0, d1, d2, d3, g0, g1, g2, g3⟩ := hb1'.four
      clear c0 c1 c2 c3 f0 f1 f2 f3
      go_wp2
      go_roundw
      case rel =>
        refine ⟨k + 1, by omega, by go_num, hb0'.far4 (by omega) _ _ _ _, ?_, below_set4 hbw' (by omega) _ _ _ _⟩
        rw [List.take_succ_eq_append_getElem hlt, ofM_snoc]
        exact hb1'.set4 _ _ _ _
      case measure => simp [intOf]; omega
    · obtain rfl : k = l.length := by omega
      obtain ⟨c0, c1, c2, c3, _, _, _, _⟩ := hb1.four
      obtain ⟨_, _, _, _, f0, f1, f2, f3⟩ := hb0.four
      go_wp2
      refine ret_set (b := w.heap.size) rfl rfl (hb0.set4 _ _ _ _) rfl ⟨?_, below_set4 hbw (Nat.le_refl _) _ _ _ _⟩
      rfl
/-- The bytes of a range. -/
def rangeM (lo hi : Int) (x : Nat) : Bool := decide (lo ≤ (x : Int) ∧ (x : Int) ≤ hi)
theorem rangeM_snoc (lo n : Int) (h : lo ≤ n) : putM (rangeM lo (n - 1)) n = rangeM lo n := by
  funext x
  simp only [rangeM, putM, ← Bool.decide_or, decide_eq_decide]
  omega
theorem rangeM_nil (lo hi : Int) (h : hi < lo) : rangeM lo hi = fun _ => false := by
  funext x
  simp only [rangeM, decide_eq_false_iff_not]
  omega
set_option maxHeartbeats 400000 in
theorem range_any (lo hi : Int) (hlo : 0 ≤ lo ∧ lo < 256) (hhi : 0 ≤ hi ∧ hi < 256) (w : World) :
    Calls Tryz.prog 257 #[.int .u8 lo, .int .u8 hi] w fun e w' => e = .returned (setV (rangeM lo hi)) ∧ Below w.heap.size w w' := by
  go_enter Tryz.func257, Tryz.ntmps257
  go_wp2
  go_loopw [6] (fun i wr => ∃ n : Int, lo ≤ n ∧ (n ≤ hi + 1 ∨ n = lo) ∧ i = .int .i64 n ∧ Blk wr w.heap.size 24 (setL (fun _ => false)) ∧ Blk wr (w.heap.size + 1) 24 (setL (rangeM lo (n - 1))) ∧ Below w.heap.size w wr) (fun i _ => (hi + 1 - intOf i).toNat)
  case atStart =>
    refine ⟨lo, Int.le_refl _, .inr rfl, rfl, ?_, ?_, by go_grown⟩
    · rw [setL, word_none, word_none, word_none, word_none]
      exact (Blk.new w _ _).alloc _
    · rw [rangeM_nil _ _ (by omega), setL, word_none, word_none, word_none, word_none]
      exact blk_new2 w _ _ _
  case round =>
    obtain ⟨n, hn, hn2, rfl, hb0, hb1, hbw⟩ := hrel
    by_cases hlt : n ≤ hi
    · obtain ⟨c0, c1, c2, c3, f0, f1, f2, f3⟩ := hb1.four
      have hnn : 0 ≤ n := by omega
      go_wp2_with fail
      refine (put_any _ n (by omega) (by omega) _).mono ?_
      rintro e w1 ⟨rfl, hb⟩
      have hb1' := hb1.below hb hb1.lt
      have hb0' := hb0.below hb hb0.lt
      have hbw' := hbw.trans (hb.mono hbw.size)
      obtain ⟨d0, d1, d2, d3, g0, g1, g2, g3⟩ := hb1'.four
      clear c0 c1 c2 c3 f0 f1 f2 f3
      go_wp2
      go_roundw
      case rel =>
        refine ⟨n + 1, by omega, .inl (by omega), by go_num, hb0'.far4 (by omega) _ _ _ _, ?_, below_set4 hbw' (by omega) _ _ _ _⟩
        rw [show n + 1 - 1 = n by omega, ← rangeM_snoc lo n hn]
        exact hb1'.set4 _ _ _ _
      case measure => simp [intOf]; omega
    · have e : Hid (rangeM lo (n - 1) = rangeM lo hi) := by
        rcases hn2 with h | h
        · rw [show n - 1 = hi by omega]; rfl
        · show rangeM lo (n - 1) = rangeM lo hi
          rw [rangeM_nil _ _ (by omega), rangeM_nil _ _ (by omega)]
      obtain ⟨c0, c1, c2, c3, _, _, _, _⟩ := hb1.four
      obtain ⟨_, _, _, _, f0, f1, f2, f3⟩ := hb0.four
      go_wp2
      refine ret_set (b := w.heap.size) rfl rfl (hb0.set4 _ _ _ _) rfl ⟨?_, below_set4 hbw (Nat.le_refl _) _ _ _ _⟩
      rw [← e.out]
theorem not_any (m : Nat → Bool) (w : World) :
    Calls Tryz.prog 70 #[setV m] w fun e w' => e = .returned (setV (fun x => !m x)) ∧ Below w.heap.size w w' := by
  unfold setV
  go_enter Tryz.func70, Tryz.ntmps70
  go_wp2
  refine wp_loop_rounds 5 ?_
  rw [rounds_succ]; go_wp2
  rw [rounds_succ]; go_wp2
  rw [rounds_succ]; go_wp2
  rw [rounds_succ]; go_wp2
  rw [rounds_succ]; go_wp2
  go_returns
  exact ⟨by simp only [not_word], by go_grown⟩
theorem all_any (w : World) :
    Calls Tryz.prog 190 #[] w fun e w' => e = .returned (setV (fun _ => true)) ∧ Below w.heap.size w w' := by
  go_enter Tryz.func190, Tryz.ntmps190
  go_wp2_with fail
  have h := not_any (fun _ => false) (w.alloc (.cells #[.int .u64 0, .int .u64 0, .int .u64 0, .int .u64 0] 24))
  simp only [setV, word_none] at h
  refine h.mono ?_
  clear h
  rintro e w1 ⟨rfl, hb⟩
  have hb0 : Blk w1 w.heap.size 24 [.int .u64 0, .int .u64 0, .int .u64 0, .int .u64 0] := (Blk.new w _ _).below hb (by simp)
  have hbw : Below w.heap.size w w1 := ((Below.refl _ _).alloc (Nat.le_refl _) _).trans (hb.mono (by simp))
  clear hb
  obtain ⟨c0, c1, c2, c3, f0, f1, f2, f3⟩ := hb0.four
  go_wp2
  refine ret_set (b := w.heap.size) rfl rfl (hb0.set4 _ _ _ _) rfl ⟨rfl, below_set4 hbw (Nat.le_refl _) _ _ _ _⟩
end Go.Proofs.YtpiimcbbgalhfaaGreatDoor
/- bytes.List, Count, Fold. -/
namespace Go.Proofs.YtpiimcbbgalhfaaGreatDoor
set_option maxRecDepth 100000
open Go.RowKit
set_option maxRecDepth 100000 in
set_option maxHeartbeats 400000 in
theorem list_any (m : Nat → Bool) (w : World) :
    Calls Tryz.prog 170 #[setV m] w fun e w' => ∃ v, e = .returned v ∧ w'.ownsRow w.heap.size 5 1 v (listM m 256).length ((listM m 256).map (.int .u8)) ∧ Below w.heap.size w w' := by
  unfold setV
  go_enter Tryz.func170, Tryz.ntmps170
  go_wp2
  go_loopw [3, 5] (fun v i wr => ∃ k : Nat, k ≤ 256 ∧ i = .int .i64 k ∧ Blk wr w.heap.size 24 (setL m) ∧ Below w.heap.size w wr ∧ wr.ownsRow (w.heap.size + 1) 5 1 v (listM m k).length ((listM m k).map (.int .u8))) (fun _ i _ => 256 - (intOf i).toNat)
  case atStart =>
    refine ⟨0, by omega, rfl, Blk.new w _ _, by go_grown, ?_⟩
    rw [show listM m 0 = [] from rfl]
    exact World.ownsRow_nil _ _ _ _
  case round =>
    obtain ⟨k, hk, rfl, hb0, hbw, hown⟩ := hrel
    by_cases hlt : k < 256
    · obtain ⟨c0, c1, c2, c3, _, _, _, _⟩ := hb0.four
      have hz := hb0.lt
      have hlen := listM_length m k
      cases hm : m k with
      | true =>
        have Hm := Lib.hid hm
        clear hm
        go_wp2_with fail
        refine (has_any _ _ (by omega) (by omega) _).mono ?_
        rintro e w1 ⟨rfl, hb⟩
        rw [Int.toNat_natCast, Hm.out]
        have hown1 := own_below hown hb
        have hb1 := hb0.below hb hz
        have hbw1 := hbw.trans (hb.mono hbw.size)
        have hz1 := hb1.lt
        clear hown hb0 hbw hb c0 c1 c2 c3
        go_wp2_with (at_builtin; refine append_one rfl (.tmp 12) (.tmp 15) 115 rfl (w.heap.size + 1) 5 1 1 elem_u8 u3 _ _ rfl hown1 [.int .u8 k] rfl rfl (one_int _ _) ?h1 ?h2 ?h3 ?h4; (case h1 => omega); (case h2 => omega); (case h3 => omega); intro v2 w2 hown2 hb2)
        go_roundw
        case rel =>
          refine ⟨k + 1, by omega, by go_num, hb1.below hb2 (by omega), hbw1.trans (hb2.mono (by omega)), ?_⟩
          rw [listM_succ, if_pos Hm.out]
          simpa using hown2
        case measure => simp [intOf]; omega
      | false =>
        have Hm := Lib.hid hm
        clear hm
        go_wp2_with fail
        refine (has_any _ _ (by omega) (by omega) _).mono ?_
        rintro e w1 ⟨rfl, hb⟩
        rw [Int.toNat_natCast, Hm.out]
        go_wp2
        go_roundw
        case rel =>
          refine ⟨k + 1, by omega, by go_num, hb0.below hb hz, hbw.trans (hb.mono hbw.size), ?_⟩
          rw [listM_succ, Hm.out, if_neg (by simp)]
          exact own_below hown hb
        case measure => simp [intOf]; omega
    · obtain rfl : k = 256 := by omega
      clear hlt hk
      have Hown := Lib.hid hown
      clear hown
      go_wp2
      go_returns
      exact ⟨u3, rfl, own_base Hown.out (by omega), hbw⟩
end Go.Proofs.YtpiimcbbgalhfaaGreatDoor
/- How many bits of a word are set: the way of math/bits.OnesCount64, byte by byte. No program in sight. -/
namespace Go.Proofs.YtpiimcbbgalhfaaGreatDoor
set_option maxRecDepth 100000
open Go.RowKit

theorem and_split (t a b r s : Nat) (ha : a < 2 ^ t) (hb : b < 2 ^ t) : (a + 2 ^ t * r) &&& (b + 2 ^ t * s) = (a &&& b) + 2 ^ t * (r &&& s) := by
  have hab : a &&& b < 2 ^ t := Nat.lt_of_le_of_lt Nat.and_le_left ha
  apply Nat.eq_of_testBit_eq
  intro i
  rw [Nat.testBit_and, Nat.add_comm a, Nat.add_comm b, Nat.add_comm (a &&& b), Nat.testBit_two_pow_mul_add r ha, Nat.testBit_two_pow_mul_add s hb, Nat.testBit_two_pow_mul_add _ hab]
  split <;> simp [Nat.testBit_and]
/-- The number of some bytes, the lowest first. -/
def num : List Nat → Nat
  | [] => 0
  | b :: l => b + 256 * num l
theorem num_mask (s m : Nat) (hs : s ≤ 8) (hm : m < 256) (h : ∀ b : Fin 256, ∀ c : Fin 16, c.val < 2 ^ s → (b.val / 2 ^ s + 2 ^ (8 - s) * c.val) &&& m = (b.val / 2 ^ s) &&& m) (l : List Nat) (hl : ∀ b ∈ l, b < 256) (h4 : s ≤ 4) :
    (num l / 2 ^ s) &&& num (l.map fun _ => m) = num (l.map fun b => (b / 2 ^ s) &&& m) := by
  induction l with
  | nil => simp [num]
  | cons b l ih =>
    have hb := hl b (by simp)
    have hp : 0 < 2 ^ s := Nat.two_pow_pos s
    have e8 : 2 ^ (8 - s) * 2 ^ s = 256 := by rw [← Nat.pow_add, show 8 - s + s = 8 by omega]
    have hq : num l = 2 ^ s * (num l / 2 ^ s) + num l % 2 ^ s := (Nat.div_add_mod _ _).symm
    have hlt : num l % 2 ^ s < 2 ^ s := Nat.mod_lt _ hp
    have h16 : 2 ^ s ≤ 16 := Nat.pow_le_pow_right (n := 2) (by omega) h4
    have e1 : num (b :: l) / 2 ^ s = (b / 2 ^ s + 2 ^ (8 - s) * (num l % 2 ^ s)) + 2 ^ 8 * (num l / 2 ^ s) := by
      have e2 : num (b :: l) = b + (2 ^ (8 - s) * (num l % 2 ^ s) + 256 * (num l / 2 ^ s)) * 2 ^ s := by
        simp only [num]
        rw [Nat.add_mul]
        have e3 : 2 ^ (8 - s) * (num l % 2 ^ s) * 2 ^ s = 256 * (num l % 2 ^ s) := by rw [Nat.mul_right_comm, e8]
        have e4 : 256 * (num l / 2 ^ s) * 2 ^ s = 256 * (2 ^ s * (num l / 2 ^ s)) := by rw [Nat.mul_assoc, Nat.mul_comm (num l / 2 ^ s)]
        rw [e3, e4, ← Nat.mul_add, Nat.add_comm (num l % 2 ^ s), ← hq]
      rw [e2, Nat.add_mul_div_right _ _ hp]
      omega
    have hlo : b / 2 ^ s + 2 ^ (8 - s) * (num l % 2 ^ s) < 2 ^ 8 := by
      have h1 : b / 2 ^ s ≤ 2 ^ (8 - s) - 1 := by
        have : b / 2 ^ s < 2 ^ (8 - s) := by rw [Nat.div_lt_iff_lt_mul hp, e8]; exact hb
        omega
      have h2 : 2 ^ (8 - s) * (num l % 2 ^ s) ≤ 2 ^ (8 - s) * (2 ^ s - 1) := Nat.mul_le_mul_left _ (by omega)
      have h3 : 2 ^ (8 - s) * (2 ^ s - 1) = 256 - 2 ^ (8 - s) := by rw [Nat.mul_sub, e8, Nat.mul_one]
      have h5 : 0 < 2 ^ (8 - s) := Nat.two_pow_pos _
      have h6 : 2 ^ (8 - s) ≤ 256 := by rw [← e8]; exact Nat.le_mul_of_pos_right _ hp
      omega
    rw [e1, List.map_cons, List.map_cons]
    simp only [num]
    rw [show (256 : Nat) = 2 ^ 8 by decide, and_split 8 _ _ _ _ hlo (by omega), ih (fun x hx => hl x (by simp [hx])), h ⟨b, hb⟩ ⟨num l % 2 ^ s, by omega⟩ hlt]
theorem num_add (f g : Nat → Nat) (l : List Nat) : num (l.map f) + num (l.map g) = num (l.map fun b => f b + g b) := by
  induction l with
  | nil => rfl
  | cons b l ih => simp only [List.map_cons, num]; omega
theorem num_third (l : List Nat) (hl : ∀ b ∈ l, b % 16 ≤ 4 ∧ b / 16 ≤ 4) : (num l / 16 + num l) &&& num (l.map fun _ => 15) = num (l.map fun b => b % 16 + b / 16) := by
  induction l with
  | nil => simp [num]
  | cons b l ih =>
    have hb := hl b (by simp)
    have hlt : num l % 16 < 16 := Nat.mod_lt _ (by omega)
    have h4 : num l % 16 ≤ 4 := by
      cases l with
      | nil => simp [num]
      | cons c l =>
        have := hl c (by simp)
        simp only [num]
        omega
    have e1 : num (b :: l) / 16 + num (b :: l) = (b / 16 + 16 * (num l % 16) + b) + 2 ^ 8 * (num l / 16 + num l) := by
      simp only [num]
      omega
    rw [e1, List.map_cons, List.map_cons]
    simp only [num]
    rw [show (256 : Nat) = 2 ^ 8 by decide, and_split 8 _ _ _ _ (by omega) (by omega), ih (fun x hx => hl x (by simp [hx]))]
    congr 1
    rw [show (15 : Nat) = 2 ^ 4 - 1 by decide, Nat.and_two_pow_sub_one_eq_mod]
    omega
theorem num_lt (l : List Nat) (hl : ∀ b ∈ l, b < 256) : num l < 256 ^ l.length := by
  induction l with
  | nil => simp [num]
  | cons b l ih =>
    have h1 := hl b (by simp)
    have h2 := ih (fun x hx => hl x (by simp [hx]))
    simp only [num, List.length_cons, Nat.pow_succ]
    omega
/-- How many of the first n are so. -/
def cnt (f : Nat → Bool) : Nat → Nat
  | 0 => 0
  | n + 1 => cnt f n + (if f n then 1 else 0)
theorem cnt_listM (m : Nat → Bool) (n : Nat) : (listM m n).length = cnt m n := by
  induction n with
  | zero => rfl
  | succ n ih =>
    rw [listM_succ, cnt]
    split <;> simp [ih]
theorem cnt_add (f : Nat → Bool) (a b : Nat) : cnt f (a + b) = cnt f a + cnt (fun j => f (a + j)) b := by
  induction b with
  | zero => rfl
  | succ b ih => rw [show a + (b + 1) = (a + b) + 1 by omega, cnt, ih, cnt]; omega
theorem bitsTo_add (f : Nat → Bool) (a b : Nat) : bitsTo f (a + b) = bitsTo f a + 2 ^ a * bitsTo (fun j => f (a + j)) b := by
  apply Nat.eq_of_testBit_eq
  intro i
  rw [testBit_bitsTo, Nat.add_comm (bitsTo f a), Nat.testBit_two_pow_mul_add _ (bitsTo_lt f a)]
  split
  · rename_i h
    rw [testBit_bitsTo]; simp [h, show i < a + b by omega]
  · rename_i h
    rw [testBit_bitsTo, show a + (i - a) = i by omega]
    congr 1
    simp only [decide_eq_decide]
    omega
/-- A byte's bits, pair by pair, four by four, all. -/
def popB (b : Nat) : Nat :=
  let x := ((b / 2) &&& 85) + (b &&& 85)
  let y := ((x / 4) &&& 51) + (x &&& 51)
  y % 16 + y / 16
theorem popB_bits : ∀ a b c d e f g h : Bool, popB (bitsTo (fun j => [a, b, c, d, e, f, g, h].getD j false) 8) = cnt (fun j => [a, b, c, d, e, f, g, h].getD j false) 8 := by decide +kernel
theorem popB_cnt (f : Nat → Bool) : popB (bitsTo f 8) = cnt f 8 := by
  have h := popB_bits (f 0) (f 1) (f 2) (f 3) (f 4) (f 5) (f 6) (f 7)
  simpa [bitsTo, cnt] using h
/-- What OnesCount64 reckons. -/
def pop64 (x : Nat) : Nat :=
  let x := ((x / 2) &&& 6148914691236517205) + (x &&& 6148914691236517205)
  let x := ((x / 4) &&& 3689348814741910323) + (x &&& 3689348814741910323)
  let x := (x / 16 + x) &&& 1085102592571150095
  let x := x + x / 256
  let x := x + x / 65536
  let x := x + x / 4294967296
  x % 128
/-- The eight bytes of a word. -/
def bytes8 (f : Nat → Bool) : List Nat := [bitsTo (fun j => f (0 + j)) 8, bitsTo (fun j => f (8 + j)) 8, bitsTo (fun j => f (16 + j)) 8, bitsTo (fun j => f (24 + j)) 8, bitsTo (fun j => f (32 + j)) 8, bitsTo (fun j => f (40 + j)) 8, bitsTo (fun j => f (48 + j)) 8, bitsTo (fun j => f (56 + j)) 8]
theorem num_bytes8 (f : Nat → Bool) : num (bytes8 f) = bitsTo f 64 := by
  have e : ∀ a, a + 8 ≤ 64 → bitsTo (fun j => f (a + j)) (64 - a) = bitsTo (fun j => f (a + j)) 8 + 256 * bitsTo (fun j => f (a + 8 + j)) (64 - (a + 8)) := by
    intro a ha
    have := bitsTo_add (fun j => f (a + j)) 8 (64 - (a + 8))
    rw [show 8 + (64 - (a + 8)) = 64 - a by omega] at this
    rw [this]
    simp only [Nat.add_assoc]
  have e0 := e 0 (by omega); have e1 := e 8 (by omega); have e2 := e 16 (by omega); have e3 := e 24 (by omega)
  have e4 := e 32 (by omega); have e5 := e 40 (by omega); have e6 := e 48 (by omega); have e7 := e 56 (by omega)
  have e8 : bitsTo (fun j => f (64 + j)) 0 = 0 := rfl
  have h0 : bitsTo f 64 = bitsTo (fun j => f (0 + j)) 64 := by simp only [Nat.zero_add]
  simp only [Nat.reduceAdd, Nat.reduceSub] at e0 e1 e2 e3 e4 e5 e6 e7
  rw [h0, e0, e1, e2, e3, e4, e5, e6, e7, e8]
  rfl
theorem cnt_bytes8 (f : Nat → Bool) : cnt f 64 = cnt (fun j => f (0 + j)) 8 + cnt (fun j => f (8 + j)) 8 + cnt (fun j => f (16 + j)) 8 + cnt (fun j => f (24 + j)) 8 + cnt (fun j => f (32 + j)) 8 + cnt (fun j => f (40 + j)) 8 + cnt (fun j => f (48 + j)) 8 + cnt (fun j => f (56 + j)) 8 := by
  rw [show (64 : Nat) = 56 + 8 by rfl, cnt_add f 56 8, show (56 : Nat) = 48 + 8 by rfl, cnt_add f 48 8, show (48 : Nat) = 40 + 8 by rfl, cnt_add f 40 8, show (40 : Nat) = 32 + 8 by rfl, cnt_add f 32 8,
    show (32 : Nat) = 24 + 8 by rfl, cnt_add f 24 8, show (24 : Nat) = 16 + 8 by rfl, cnt_add f 16 8, show (16 : Nat) = 8 + 8 by rfl, cnt_add f 8 8]
  simp only [Nat.zero_add]
theorem cnt_le (f : Nat → Bool) (n : Nat) : cnt f n ≤ n := by
  induction n with
  | zero => exact Nat.le_refl _
  | succ n ih => rw [cnt]; split <;> omega
theorem fold_bytes (p0 p1 p2 p3 p4 p5 p6 p7 y : Nat) (h : p0 ≤ 8 ∧ p1 ≤ 8 ∧ p2 ≤ 8 ∧ p3 ≤ 8 ∧ p4 ≤ 8 ∧ p5 ≤ 8 ∧ p6 ≤ 8 ∧ p7 ≤ 8) (hy : y = num [p0, p1, p2, p3, p4, p5, p6, p7]) :
    (y + y / 256 + (y + y / 256) / 65536 + (y + y / 256 + (y + y / 256) / 65536) / 4294967296) % 128 = p0 + p1 + p2 + p3 + p4 + p5 + p6 + p7 := by
  simp only [num] at hy
  have h1 : y + y / 256 = (p0 + p1) + 256 * ((p1 + p2) + 256 * ((p2 + p3) + 256 * ((p3 + p4) + 256 * ((p4 + p5) + 256 * ((p5 + p6) + 256 * ((p6 + p7) + 256 * p7)))))) := by omega
  rw [h1]
  clear h1 hy
  generalize h2 : (p0 + p1) + 256 * ((p1 + p2) + 256 * ((p2 + p3) + 256 * ((p3 + p4) + 256 * ((p4 + p5) + 256 * ((p5 + p6) + 256 * ((p6 + p7) + 256 * p7)))))) = z
  have h3 : z + z / 65536 = (p0 + p1 + p2 + p3) + 256 * ((p1 + p2 + p3 + p4) + 256 * ((p2 + p3 + p4 + p5) + 256 * ((p3 + p4 + p5 + p6) + 256 * ((p4 + p5 + p6 + p7) + 256 * ((p5 + p6 + p7) + 256 * ((p6 + p7) + 256 * p7)))))) := by omega
  have h5 : (z + z / 65536) / 4294967296 = (p4 + p5 + p6 + p7) + 256 * ((p5 + p6 + p7) + 256 * ((p6 + p7) + 256 * p7)) := by
    rw [h3]
    clear h3 h2
    omega
  rw [h5, h3]
  clear h3 h2 h5
  omega
theorem pop64_cnt (f : Nat → Bool) : pop64 (bitsTo f 64) = cnt f 64 := by
  have hb : ∀ b ∈ bytes8 f, b < 256 := by
    intro b hb
    simp only [bytes8, List.mem_cons, List.not_mem_nil, or_false] at hb
    rcases hb with rfl | rfl | rfl | rfl | rfl | rfl | rfl | rfl <;> exact bitsTo_lt _ 8
  have k1 : ∀ b : Fin 256, ((b.val / 2) &&& 85) + (b.val &&& 85) < 256 := by decide +kernel
  have k2 : ∀ b : Fin 256, (((b.val / 4) &&& 51) + (b.val &&& 51)) % 16 ≤ 6 ∧ (((b.val / 4) &&& 51) + (b.val &&& 51)) / 16 ≤ 6 ∧ ((b.val / 4) &&& 51) + (b.val &&& 51) < 256 := by decide +kernel
  have k3 : ∀ b : Fin 256, ((((((b.val / 2) &&& 85) + (b.val &&& 85)) / 4) &&& 51) + ((((b.val / 2) &&& 85) + (b.val &&& 85)) &&& 51)) % 16 ≤ 4 ∧ ((((((b.val / 2) &&& 85) + (b.val &&& 85)) / 4) &&& 51) + ((((b.val / 2) &&& 85) + (b.val &&& 85)) &&& 51)) / 16 ≤ 4 := by decide +kernel
  have a1 := num_mask 1 85 (by omega) (by omega) (by decide +kernel) (bytes8 f) hb (by omega)
  have a0 := num_mask 0 85 (by omega) (by omega) (by decide +kernel) (bytes8 f) hb (by omega)
  have M0 : num ((bytes8 f).map fun _ => 85) = 6148914691236517205 := by simp only [bytes8, List.map_cons, List.map_nil]; decide
  rw [M0, Nat.pow_one] at a1
  rw [M0, Nat.pow_zero, Nat.div_one] at a0
  simp only [Nat.div_one] at a0
  let l1 := (bytes8 f).map fun b => ((b / 2) &&& 85) + (b &&& 85)
  have hl1 : ∀ b ∈ l1, b < 256 := by
    intro b hb1
    obtain ⟨c, hc, rfl⟩ := List.mem_map.1 hb1
    exact k1 ⟨c, hb c hc⟩
  have s1 : ((num (bytes8 f) / 2) &&& 6148914691236517205) + (num (bytes8 f) &&& 6148914691236517205) = num l1 := by
    rw [a1, a0, num_add]
  have b1 := num_mask 2 51 (by omega) (by omega) (by decide +kernel) l1 hl1 (by omega)
  have b0 := num_mask 0 51 (by omega) (by omega) (by decide +kernel) l1 hl1 (by omega)
  have M1 : num (l1.map fun _ => 51) = 3689348814741910323 := by simp only [l1, bytes8, List.map_cons, List.map_nil]; decide
  rw [M1, show (2 : Nat) ^ 2 = 4 by decide] at b1
  rw [M1, Nat.pow_zero, Nat.div_one] at b0
  simp only [Nat.div_one] at b0
  let l2 := l1.map fun b => ((b / 4) &&& 51) + (b &&& 51)
  have s2 : ((num l1 / 4) &&& 3689348814741910323) + (num l1 &&& 3689348814741910323) = num l2 := by
    rw [b1, b0, num_add]
  have hl2 : ∀ b ∈ l2, b % 16 ≤ 4 ∧ b / 16 ≤ 4 := by
    intro b hb2
    obtain ⟨c, hc, rfl⟩ := List.mem_map.1 hb2
    obtain ⟨d, hd, rfl⟩ := List.mem_map.1 hc
    exact k3 ⟨d, hb d hd⟩
  have c1 := num_third l2 hl2
  have M2 : num (l2.map fun _ => 15) = 1085102592571150095 := by simp only [l2, l1, bytes8, List.map_cons, List.map_nil]; decide
  rw [M2] at c1
  have s3 : l2.map (fun b => b % 16 + b / 16) = (bytes8 f).map popB := by
    simp only [l2, l1, List.map_map]
    rfl
  rw [s3] at c1
  simp only [pop64]
  rw [← num_bytes8, s1, s2, c1]
  have hp : (bytes8 f).map popB = [cnt (fun j => f (0 + j)) 8, cnt (fun j => f (8 + j)) 8, cnt (fun j => f (16 + j)) 8, cnt (fun j => f (24 + j)) 8, cnt (fun j => f (32 + j)) 8, cnt (fun j => f (40 + j)) 8, cnt (fun j => f (48 + j)) 8, cnt (fun j => f (56 + j)) 8] := by
    simp only [bytes8, List.map_cons, List.map_nil, popB_cnt]
  have := fold_bytes _ _ _ _ _ _ _ _ _ ⟨cnt_le (fun j => f (0 + j)) 8, cnt_le (fun j => f (8 + j)) 8, cnt_le (fun j => f (16 + j)) 8, cnt_le (fun j => f (24 + j)) 8, cnt_le (fun j => f (32 + j)) 8, cnt_le (fun j => f (40 + j)) 8, cnt_le (fun j => f (48 + j)) 8, cnt_le (fun j => f (56 + j)) 8⟩ rfl
  rw [cnt_bytes8, hp]
  exact this
theorem and_cast (a C : Nat) (ha : a < 18446744073709551616) (hC : C < 18446744073709551616) : bits .and .u64 (a : Int) (C : Int) = ((a &&& C : Nat) : Int) := u64_and_nat a C ha hC
theorem wrap_cast (a : Nat) (ha : a < 18446744073709551616) : IntKind.u64.wrap (a : Int) = (a : Int) := by rw [IntKind.wrap_u64]; omega
theorem mask2 (n C : Nat) (CI : Int) (hC : CI = (C : Int)) (hn : n < 18446744073709551616) (hb : 2 * C < 18446744073709551616) :
    IntKind.u64.wrap (bits .and .u64 ((n : Int) / 2) CI + bits .and .u64 (n : Int) CI) = (((n / 2 &&& C) + (n &&& C) : Nat) : Int) := by
  subst hC
  have b1 : n / 2 &&& C ≤ C := Nat.and_le_right
  have b2 : n &&& C ≤ C := Nat.and_le_right
  rw [show (n : Int) / 2 = ((n / 2 : Nat) : Int) by simp, and_cast _ _ (by omega) (by omega), and_cast _ _ hn (by omega), ← Int.natCast_add, wrap_cast _ (by omega)]
theorem mask4 (n C : Nat) (CI : Int) (hC : CI = (C : Int)) (hn : n < 18446744073709551616) (hb : 2 * C < 18446744073709551616) :
    IntKind.u64.wrap (bits .and .u64 ((n : Int) / 4) CI + bits .and .u64 (n : Int) CI) = (((n / 4 &&& C) + (n &&& C) : Nat) : Int) := by
  subst hC
  have b1 : n / 4 &&& C ≤ C := Nat.and_le_right
  have b2 : n &&& C ≤ C := Nat.and_le_right
  rw [show (n : Int) / 4 = ((n / 4 : Nat) : Int) by simp, and_cast _ _ (by omega) (by omega), and_cast _ _ hn (by omega), ← Int.natCast_add, wrap_cast _ (by omega)]
theorem mask16 (n C : Nat) (CI : Int) (hC : CI = (C : Int)) (hn : n < 8000000000000000000) (hb : C < 18446744073709551616) :
    bits .and .u64 (IntKind.u64.wrap ((n : Int) / 16 + (n : Int))) CI = (((n / 16 + n) &&& C : Nat) : Int) := by
  subst hC
  rw [show (n : Int) / 16 = ((n / 16 : Nat) : Int) by simp, ← Int.natCast_add, wrap_cast _ (by omega), and_cast _ _ (by omega) hb]
theorem plus256 (n : Nat) (hn : n < 8000000000000000000) : IntKind.u64.wrap ((n : Int) + (n : Int) / 256) = ((n + n / 256 : Nat) : Int) := by
  rw [show (n : Int) / 256 = ((n / 256 : Nat) : Int) by simp, ← Int.natCast_add, wrap_cast _ (by omega)]
theorem plus65536 (n : Nat) (hn : n < 8000000000000000000) : IntKind.u64.wrap ((n : Int) + (n : Int) / 65536) = ((n + n / 65536 : Nat) : Int) := by
  rw [show (n : Int) / 65536 = ((n / 65536 : Nat) : Int) by simp, ← Int.natCast_add, wrap_cast _ (by omega)]
theorem plus4294967296 (n : Nat) (hn : n < 8000000000000000000) : IntKind.u64.wrap ((n : Int) + (n : Int) / 4294967296) = ((n + n / 4294967296 : Nat) : Int) := by
  rw [show (n : Int) / 4294967296 = ((n / 4294967296 : Nat) : Int) by simp, ← Int.natCast_add, wrap_cast _ (by omega)]
theorem i64_and127 (a : Nat) (ha : a < 9223372036854775808) : bits .and .i64 (wrap64 (a : Int)) 127 = ((a % 128 : Nat) : Int) := by
  have hw : wrap64 (a : Int) = (a : Int) := by unfold wrap64; omega
  have ho : ∀ b : Nat, b < 9223372036854775808 → (BitVec.ofInt 64 (b : Int)).toNat = b := by
    intro b hb
    rw [BitVec.ofInt_natCast, BitVec.toNat_ofNat]
    exact Nat.mod_eq_of_lt (by omega)
  have hx : a &&& 127 = a % 128 := by rw [show (127 : Nat) = 2 ^ 7 - 1 by decide, Nat.and_two_pow_sub_one_eq_mod]
  rw [hw]
  show IntKind.i64.wrap ((BitVec.ofInt 64 (a : Int) &&& BitVec.ofInt 64 ((127 : Nat) : Int)).toNat : Int) = _
  rw [BitVec.toNat_and, ho a ha, ho 127 (by omega), IntKind.wrap_i64, hx]
  omega
theorem pop_word (m : Nat → Bool) (i : Nat) : pop64 (word m i).toNat = cnt (fun j => m (64 * i + j)) 64 := by
  rw [word_toNat, pop64_cnt]
theorem cnt_words (m : Nat → Bool) : cnt m 256 = cnt (fun j => m (64 * 0 + j)) 64 + cnt (fun j => m (64 * 1 + j)) 64 + cnt (fun j => m (64 * 2 + j)) 64 + cnt (fun j => m (64 * 3 + j)) 64 := by
  rw [show (256 : Nat) = 192 + 64 by rfl, cnt_add m 192 64, show (192 : Nat) = 128 + 64 by rfl, cnt_add m 128 64, show (128 : Nat) = 64 + 64 by rfl, cnt_add m 64 64]
  simp only [Nat.mul_zero, Nat.zero_add, Nat.mul_one, Nat.reduceMul, Nat.reduceAdd]
theorem cnt_congr {f g : Nat → Bool} {n : Nat} (h : ∀ x, x < n → f x = g x) : cnt f n = cnt g n := by
  induction n with
  | zero => rfl
  | succ n ih => rw [cnt, cnt, ih (fun x hx => h x (by omega)), h n (by omega)]
end Go.Proofs.YtpiimcbbgalhfaaGreatDoor
/- bytes.each at its three closures: word by word. -/
namespace Go.Proofs.YtpiimcbbgalhfaaGreatDoor
set_option maxRecDepth 100000
open Go.RowKit
theorem clo_or (x y : Int) (w : World) : Calls Tryz.prog 260 #[.int .u64 x, .int .u64 y] w fun e w' => e = .returned (.int .u64 (bits .or .u64 x y)) ∧ w = w' := by
  go_enter Tryz.func260, Tryz.ntmps260
  go_wp2
  go_ret
  exact ⟨rfl, rfl⟩
set_option maxHeartbeats 1000000 in
theorem each_or (m m' : Nat → Bool) (w : World) :
    Calls Tryz.prog 259 #[setV m, setV m', .func (.func 260) #[] #[]] w fun e w' => e = .returned (.agg #[.int .u64 (bits .or .u64 (word m 0) (word m' 0)), .int .u64 (bits .or .u64 (word m 1) (word m' 1)), .int .u64 (bits .or .u64 (word m 2) (word m' 2)), .int .u64 (bits .or .u64 (word m 3) (word m' 3))]) ∧ Below w.heap.size w w' := by
  unfold setV
  go_enter Tryz.func259, Tryz.ntmps259
  go_wp2
  refine wp_loop_rounds 5 ?_
  rw [rounds_succ]; go_wp2
  refine wp_region_still_tail 10 (by kernel_rfl) (by kernel_rfl) ?_
  change wpStill _ _ (World.drew _) _ _ _
  simp only [List.take_succ_cons, List.take_zero, List.drop_succ_cons, List.drop_zero]
  repeat still_step
  still_call ((clo_or _ _ _).mono fun _ _ h => ⟨h.1, h.2.symm⟩)
  repeat still_step
  refine wpStill_nil ?_
  change wpList _ _ _ _ _ (World.drew _)
  go_wp2
  rw [rounds_succ]; go_wp2
  refine wp_region_still_tail 10 (by kernel_rfl) (by kernel_rfl) ?_
  change wpStill _ _ (World.drew _) _ _ _
  simp only [List.take_succ_cons, List.take_zero, List.drop_succ_cons, List.drop_zero]
  repeat still_step
  still_call ((clo_or _ _ _).mono fun _ _ h => ⟨h.1, h.2.symm⟩)
  repeat still_step
  refine wpStill_nil ?_
  change wpList _ _ _ _ _ (World.drew _)
  go_wp2
  rw [rounds_succ]; go_wp2
  refine wp_region_still_tail 10 (by kernel_rfl) (by kernel_rfl) ?_
  change wpStill _ _ (World.drew _) _ _ _
  simp only [List.take_succ_cons, List.take_zero, List.drop_succ_cons, List.drop_zero]
  repeat still_step
  still_call ((clo_or _ _ _).mono fun _ _ h => ⟨h.1, h.2.symm⟩)
  repeat still_step
  refine wpStill_nil ?_
  change wpList _ _ _ _ _ (World.drew _)
  go_wp2
  rw [rounds_succ]; go_wp2
  refine wp_region_still_tail 10 (by kernel_rfl) (by kernel_rfl) ?_
  change wpStill _ _ (World.drew _) _ _ _
  simp only [List.take_succ_cons, List.take_zero, List.drop_succ_cons, List.drop_zero]
  repeat still_step
  still_call ((clo_or _ _ _).mono fun _ _ h => ⟨h.1, h.2.symm⟩)
  repeat still_step
  refine wpStill_nil ?_
  change wpList _ _ _ _ _ (World.drew _)
  go_wp2
  rw [rounds_succ]; go_wp2
  go_returns
  exact ⟨rfl, by go_grown⟩
end Go.Proofs.YtpiimcbbgalhfaaGreatDoor
/- bytes.Union, Meet, Minus, Within. -/
namespace Go.Proofs.YtpiimcbbgalhfaaGreatDoor
set_option maxRecDepth 100000
open Go.RowKit
attribute [local go_sem] eq_words eqB_words eqB_zero
/-- The set of what some of the sets have. -/
def anyM (l : List (Nat → Bool)) (x : Nat) : Bool := l.any (· x)
theorem anyM_snoc (l : List (Nat → Bool)) (m : Nat → Bool) : anyM (l ++ [m]) = fun x => anyM l x || m x := by
  funext x
  simp [anyM]
set_option maxHeartbeats 400000 in
theorem union_any (l : List (Nat → Bool)) (v : Value) (w : World) (hv : RdS w v l) :
    Calls Tryz.prog 226 #[v] w fun e w' => e = .returned (setV (anyM l)) ∧ Below w.heap.size w w' := by
  obtain ⟨A, c, rfl, h1, h2, h3⟩ := hv
  have H3 := Lib.hid h3
  clear h3
  go_enter Tryz.func226, Tryz.ntmps226
  go_wp2
  go_loopw [8] (fun i wr => ∃ k : Nat, k ≤ l.length ∧ i = .int .i64 k ∧ Blk wr w.heap.size 24 (setL (fun _ => false)) ∧ Blk wr (w.heap.size + 1) 24 (setL (anyM (l.take k))) ∧ Below w.heap.size w wr) (fun i _ => l.length - (intOf i).toNat)
  case atStart =>
    refine ⟨0, Nat.zero_le _, rfl, ?_, ?_, by go_grown⟩
    · rw [setL, word_none, word_none, word_none, word_none]
      exact (Blk.new w _ _).alloc _
    · rw [show anyM (l.take 0) = fun _ => false from rfl, setL, word_none, word_none, word_none, word_none]
      exact blk_new2 w _ _ _
  case round =>
    obtain ⟨k, hk, rfl, hb0, hb1, hbw⟩ := hrel
    by_cases hlt : k < l.length
    · obtain ⟨ad, rfl, had, e0, e1, e2, e3⟩ := H3.out k l[k] (List.getElem?_eq_getElem hlt)
      have hl : (ad.add (k * 4)).block < w.heap.size := by rw [add_block]; exact had
      have hb' : ∀ o, wr.cell? ⟨(ad.add (k * 4)).block, o, none⟩ = w.cell? ⟨(ad.add (k * 4)).block, o, none⟩ := fun o => hbw.cell (p := ⟨(ad.add (k * 4)).block, o, none⟩) hl
      have d0 := (hbw.cell hl).trans e0
      have d1 := (hb' _).trans e1
      have d2 := (hb' _).trans e2
      have d3 := (hb' _).trans e3
      clear e0 e1 e2 e3 hb'
      obtain ⟨c0, c1, c2, c3, f0, f1, f2, f3⟩ := hb1.four
      have hz := hb1.lt
      go_wp2_with fail
      refine (each_or _ _ _).mono ?_
      rintro e w1 ⟨rfl, hb⟩
      simp only [or_word]
      have hb1' : Blk w1 (w.heap.size + 1) 24 _ := (hb1.alloc _).below hb (by simp; omega)
      have hb0' : Blk w1 w.heap.size 24 _ := (hb0.alloc _).below hb (by simp; omega)
      have hbw' : Below w.heap.size w w1 := (hbw.alloc (by omega) _).trans (hb.mono (by simp; omega))
      clear hb c0 c1 c2 c3 f0 f1 f2 f3 d0 d1 d2 d3
      obtain ⟨d0, d1, d2, d3, g0, g1, g2, g3⟩ := hb1'.four
      go_wp2
      go_roundw
      case rel =>
        refine ⟨k + 1, by omega, by go_num, hb0'.far4 (by omega) _ _ _ _, ?_, below_set4 hbw' (by omega) _ _ _ _⟩
        rw [List.take_succ_eq_append_getElem hlt, anyM_snoc]
        exact hb1'.set4 _ _ _ _
      case measure => simp [intOf]; omega
    · obtain rfl : k = l.length := by omega
      obtain ⟨c0, c1, c2, c3, _, _, _, _⟩ := hb1.four
      obtain ⟨_, _, _, _, f0, f1, f2, f3⟩ := hb0.four
      go_wp2
      refine ret_set (b := w.heap.size) rfl rfl (hb0.set4 _ _ _ _) rfl ⟨?_, below_set4 hbw (Nat.le_refl _) _ _ _ _⟩
      rfl
end Go.Proofs.YtpiimcbbgalhfaaGreatDoor
/- bytes.Count, Fold, Ranges, From. -/
namespace Go.Proofs.YtpiimcbbgalhfaaGreatDoor
set_option maxRecDepth 100000
open Go.RowKit
attribute [local go_sem] eq_words eqB_words eqB_zero idx_set0 idx_set1 idx_set2 idx_set3
set_option maxHeartbeats 400000 in
theorem ones_any (x : Int) (h0 : 0 ≤ x) (h1 : x < 18446744073709551616) (w : World) :
    Calls Tryz.prog 126 #[.int .u64 x] w fun e w' => e = .returned (.int .i64 (pop64 x.toNat)) ∧ w = w' := by
  go_enter Tryz.func126, Tryz.ntmps126
  go_wp2
  go_ret
  refine ⟨?_, rfl⟩
  show Ending.returned (Value.int .i64 _) = Ending.returned (Value.int .i64 _)
  congr 2
  obtain ⟨n, rfl⟩ := Int.eq_ofNat_of_zero_le h0
  rw [Int.toNat_natCast]
  have hn : n < 18446744073709551616 := by omega
  rw [mask2 n 6148914691236517205 6148914691236517205 rfl hn (by decide)]
  have b1 : n / 2 &&& 6148914691236517205 ≤ 6148914691236517205 := Nat.and_le_right
  have b2 : n &&& 6148914691236517205 ≤ 6148914691236517205 := Nat.and_le_right
  generalize hy1 : (n / 2 &&& 6148914691236517205) + (n &&& 6148914691236517205) = y1
  rw [mask4 y1 3689348814741910323 3689348814741910323 rfl (by omega) (by decide)]
  have b3 : y1 / 4 &&& 3689348814741910323 ≤ 3689348814741910323 := Nat.and_le_right
  have b4 : y1 &&& 3689348814741910323 ≤ 3689348814741910323 := Nat.and_le_right
  generalize hy2 : (y1 / 4 &&& 3689348814741910323) + (y1 &&& 3689348814741910323) = y2
  rw [mask16 y2 1085102592571150095 1085102592571150095 rfl (by omega) (by decide)]
  have b5 : (y2 / 16 + y2) &&& 1085102592571150095 ≤ 1085102592571150095 := Nat.and_le_right
  generalize hy3 : (y2 / 16 + y2) &&& 1085102592571150095 = y3
  rw [hy3] at b5
  rw [plus256 y3 (by omega), plus65536 _ (by omega), plus4294967296 _ (by omega)]
  have hp : pop64 n = (y3 + y3 / 256 + (y3 + y3 / 256) / 65536 + (y3 + y3 / 256 + (y3 + y3 / 256) / 65536) / 4294967296) % 128 := by
    simp only [pop64]
    rw [hy1, hy2, hy3]
  rw [hp]
  exact i64_and127 _ (by omega)
set_option maxRecDepth 100000 in
set_option maxHeartbeats 400000 in
theorem count_any (m : Nat → Bool) (w : World) :
    Calls Tryz.prog 72 #[setV m] w fun e w' => e = .returned (.int .i64 (cnt m 256)) ∧ Below w.heap.size w w' := by
  unfold setV
  go_enter Tryz.func72, Tryz.ntmps72
  go_wp2
  have hc := cnt_words m
  have l0 := cnt_le (fun j => m (64 * 0 + j)) 64
  have l1 := cnt_le (fun j => m (64 * 1 + j)) 64
  have l2 := cnt_le (fun j => m (64 * 2 + j)) 64
  have l3 := cnt_le (fun j => m (64 * 3 + j)) 64
  simp only [Nat.mul_zero, Nat.zero_add, Nat.mul_one, Nat.reduceMul] at hc l0 l1 l2 l3
  have Hc := Lib.hid hc
  clear hc
  refine wp_loop_rounds 5 ?_
  rw [rounds_succ]; go_wp2_with fail
  refine (ones_any _ (word_nonneg _ _) (word_lt _ _) _).mono ?_
  rintro e w' ⟨rfl, rfl⟩
  rw [pop_word]
  go_wp2
  rw [rounds_succ]; go_wp2_with fail
  refine (ones_any _ (word_nonneg _ _) (word_lt _ _) _).mono ?_
  rintro e w' ⟨rfl, rfl⟩
  rw [pop_word]
  go_wp2
  rw [rounds_succ]; go_wp2_with fail
  refine (ones_any _ (word_nonneg _ _) (word_lt _ _) _).mono ?_
  rintro e w' ⟨rfl, rfl⟩
  rw [pop_word]
  go_wp2
  rw [rounds_succ]; go_wp2_with fail
  refine (ones_any _ (word_nonneg _ _) (word_lt _ _) _).mono ?_
  rintro e w' ⟨rfl, rfl⟩
  rw [pop_word]
  go_wp2
  rw [rounds_succ]; go_wp2
  go_returns
  refine ⟨?_, by go_grown⟩
  rw [Hc.out]
  exact ret_congr (congrArg (Value.int .i64) (by omega))
/-- The set with both cases of its letters. -/
def foldM (m : Nat → Bool) (x : Nat) : Bool := m x || (decide (65 ≤ x ∧ x ≤ 90) && m (x + 32)) || (decide (97 ≤ x ∧ x ≤ 122) && m (x - 32))
/-- What is put behind the first k bytes of the list. -/
def foldL (m : Nat → Bool) (l : List Int) (x : Nat) : Bool := m x || decide ((65 ≤ x ∧ x ≤ 90 ∧ ((x + 32 : Nat) : Int) ∈ l) ∨ (97 ≤ x ∧ x ≤ 122 ∧ ((x - 32 : Nat) : Int) ∈ l))
theorem foldL_nil (m : Nat → Bool) : foldL m [] = m := by funext x; simp [foldL]
theorem foldL_small (m : Nat → Bool) (l : List Int) (b : Int) (h0 : 97 ≤ b) (h1 : b ≤ 122) : foldL m (l ++ [b]) = putM (foldL m l) (b - 32) := by
  funext x
  simp only [foldL, putM, List.mem_append, List.mem_singleton, Bool.or_assoc, ← Bool.decide_or]
  congr 1
  simp only [decide_eq_decide]
  constructor
  · rintro (⟨a, c, h | h⟩ | ⟨a, c, h | h⟩)
    · exact .inl (.inl ⟨a, c, h⟩)
    · exact .inr (by omega)
    · exact .inl (.inr ⟨a, c, h⟩)
    · omega
  · rintro ((⟨a, c, h⟩ | ⟨a, c, h⟩) | h)
    · exact .inl ⟨a, c, .inl h⟩
    · exact .inr ⟨a, c, .inl h⟩
    · exact .inl ⟨by omega, by omega, .inr (by omega)⟩
theorem foldL_great (m : Nat → Bool) (l : List Int) (b : Int) (h0 : 65 ≤ b) (h1 : b ≤ 90) : foldL m (l ++ [b]) = putM (foldL m l) (b + 32) := by
  funext x
  simp only [foldL, putM, List.mem_append, List.mem_singleton, Bool.or_assoc, ← Bool.decide_or]
  congr 1
  simp only [decide_eq_decide]
  constructor
  · rintro (⟨a, c, h | h⟩ | ⟨a, c, h | h⟩)
    · exact .inl (.inl ⟨a, c, h⟩)
    · omega
    · exact .inl (.inr ⟨a, c, h⟩)
    · exact .inr (by omega)
  · rintro ((⟨a, c, h⟩ | ⟨a, c, h⟩) | h)
    · exact .inl ⟨a, c, .inl h⟩
    · exact .inr ⟨a, c, .inl h⟩
    · exact .inr ⟨by omega, by omega, .inr (by omega)⟩
theorem foldL_other (m : Nat → Bool) (l : List Int) (b : Int) (h0 : ¬(97 ≤ b ∧ b ≤ 122)) (h1 : ¬(65 ≤ b ∧ b ≤ 90)) : foldL m (l ++ [b]) = foldL m l := by
  funext x
  simp only [foldL, List.mem_append, List.mem_singleton]
  congr 1
  simp only [decide_eq_decide]
  constructor
  · rintro (⟨a, c, h | h⟩ | ⟨a, c, h | h⟩)
    · exact .inl ⟨a, c, h⟩
    · omega
    · exact .inr ⟨a, c, h⟩
    · omega
  · rintro (⟨a, c, h⟩ | ⟨a, c, h⟩)
    · exact .inl ⟨a, c, .inl h⟩
    · exact .inr ⟨a, c, .inl h⟩
theorem foldL_all (m : Nat → Bool) : ∀ x, x < 256 → foldL m (listM m 256) x = foldM m x := by
  intro x hx
  simp only [foldL, foldM, mem_listM, Bool.or_assoc]
  congr 1
  rw [Bool.eq_iff_iff]
  simp only [decide_eq_true_eq, Bool.or_eq_true, Bool.and_eq_true]
  constructor
  · rintro (⟨a, c, _, _, h⟩ | ⟨a, c, _, _, h⟩)
    · exact .inl ⟨⟨a, c⟩, by rwa [Int.toNat_natCast] at h⟩
    · exact .inr ⟨⟨a, c⟩, by rwa [Int.toNat_natCast] at h⟩
  · rintro (⟨⟨a, c⟩, h⟩ | ⟨⟨a, c⟩, h⟩)
    · exact .inl ⟨a, c, by omega, by omega, by rwa [Int.toNat_natCast]⟩
    · exact .inr ⟨a, c, by omega, by omega, by rwa [Int.toNat_natCast]⟩
end Go.Proofs.YtpiimcbbgalhfaaGreatDoor
/- The reference of layer 1: Has, Bools, Make. -/
namespace Go.Proofs.YtpiimcbbgalhfaaGreatDoor
set_option maxRecDepth 100000
open Go.RowKit
attribute [local go_sem] eq_words eqB_words eqB_zero
/-- The slice value v reads as the values cs, one cell each. -/
def RdV (w : World) (v : Value) (cs : List Value) : Prop :=
  ∃ A c, v = .slice A cs.length c ∧ cs.length ≤ c ∧ cs.length ≤ 140737488355328 ∧ ∀ i u, cs[i]? = some u → ∃ ad, A = some ad ∧ ad.block < w.heap.size ∧ w.cell? (ad.add i) = some u
theorem RdV.below {w w' : World} {v : Value} {cs : List Value} (h : RdV w v cs) (hb : Below w.heap.size w w') : RdV w' v cs := by
  obtain ⟨A, c, rfl, h1, h2, h3⟩ := h
  refine ⟨A, c, rfl, h1, h2, fun i x hi => ?_⟩
  obtain ⟨ad, rfl, hlt, hc⟩ := h3 i x hi
  exact ⟨ad, rfl, Nat.lt_of_lt_of_le hlt hb.size, (hb.cell (p := ad.add i) (by rw [add_block]; exact hlt)).trans hc⟩
theorem refhas_word (m : Nat → Bool) (b : Int) (k : Nat) (h0 : 0 ≤ b) (h : b / 64 = (k : Int)) : (word m k / 2 ^ (b % 64).toNat % 2 == 1) = m b.toNat := by
  rw [← has_word m b k h0 h]
  have h3 := word_nonneg m k
  have h1 := word_lt m k
  obtain ⟨n, hn⟩ := Int.eq_ofNat_of_zero_le h3
  have hd : word m k / 2 ^ (b % 64).toNat = ((n / 2 ^ (b % 64).toNat : Nat) : Int) := by rw [hn]; simp
  have hlt : n / 2 ^ (b % 64).toNat ≤ n := Nat.div_le_self _ _
  rw [hd, show (1 : Int) = ((1 : Nat) : Int) by rfl, u64_and_nat _ _ (by omega) (by omega), Nat.and_one_is_mod]
  congr 1
set_option maxHeartbeats 400000 in
theorem refhas_any (m : Nat → Bool) (b : Int) (hb0 : 0 ≤ b) (hb : b < 256) (w : World) :
    Calls Tryz.prog 80 #[setV m, .int .i64 b] w fun e w' => e = .returned (.bool (m b.toNat)) ∧ Below w.heap.size w w' := by
  have hq : b / 64 = 0 ∨ b / 64 = 1 ∨ b / 64 = 2 ∨ b / 64 = 3 := by omega
  unfold setV
  rcases hq with hq | hq | hq | hq
  · have E := Lib.hid (refhas_word m b 0 hb0 hq)
    go_enter Tryz.func80, Tryz.ntmps80
    go_wp2
    go_returns
    refine ⟨?_, by go_grown⟩
    rw [← E.out]
    rfl
  · have E := Lib.hid (refhas_word m b 1 hb0 hq)
    go_enter Tryz.func80, Tryz.ntmps80
    go_wp2
    go_returns
    refine ⟨?_, by go_grown⟩
    rw [← E.out]
    rfl
  · have E := Lib.hid (refhas_word m b 2 hb0 hq)
    go_enter Tryz.func80, Tryz.ntmps80
    go_wp2
    go_returns
    refine ⟨?_, by go_grown⟩
    rw [← E.out]
    rfl
  · have E := Lib.hid (refhas_word m b 3 hb0 hq)
    go_enter Tryz.func80, Tryz.ntmps80
    go_wp2
    go_returns
    refine ⟨?_, by go_grown⟩
    rw [← E.out]
    rfl
/-- The set of which it is told so. -/
def makeM (l : List Bool) (x : Nat) : Bool := l.getD x false
theorem makeM_snoc (l : List Bool) (k : Nat) (h : k < l.length) : makeM (l.take (k + 1)) = if l[k] then putM (makeM (l.take k)) k else makeM (l.take k) := by
  funext x
  have e : ∀ n, makeM (l.take n) x = (decide (x < n) && makeM l x) := by
    intro n
    simp only [makeM, List.getD_eq_getElem?_getD, List.getElem?_take]
    by_cases hx : x < n <;> simp [hx]
  by_cases hx : x = k
  · subst hx
    have hm : makeM l x = l[x] := by simp [makeM, List.getD_eq_getElem?_getD, List.getElem?_eq_getElem h]
    rw [e, hm]
    cases hv : l[x]
    · simp [e]
    · simp [putM]
  · rw [e]
    have : decide ((x : Int) = (k : Int)) = false := by simp; omega
    split
    · simp only [putM, e, this, Bool.or_false]
      congr 1
      simp only [decide_eq_decide]; omega
    · rw [e]
      congr 1
      simp only [decide_eq_decide]; omega
theorem put_wordN (m : Nat → Bool) (k q : Nat) (h : (k : Int) / 64 = (q : Int)) : bits .or .u64 (word m q) (IntKind.u64.wrap (2 ^ (k % 64))) = word (putM m k) q := by
  have := put_word m k q (by omega) h
  rwa [show ((k : Int) % 64).toNat = k % 64 by omega] at this
/-- What a set says of the bytes below n. -/
def boolsL (m : Nat → Bool) (n : Nat) : List Value := (List.range 256).map fun x => .bool (decide (x < n) && m x)
theorem boolsL_succ (m : Nat → Bool) (n : Nat) : boolsL m (n + 1) = (boolsL m n).set n (.bool (m n)) := by
  apply List.ext_getElem
  · simp [boolsL]
  · intro i h1 h2
    simp only [boolsL, List.length_map, List.length_range] at h1
    simp only [boolsL, List.getElem_map, List.getElem_range, List.getElem_set]
    by_cases h : n = i
    · subst h; simp
    · rw [if_neg h]
      congr 2
      simp only [decide_eq_decide]
      omega
theorem falses (m : Nat → Bool) (N : Nat) : ((List.range N).map fun x => Value.bool (decide (x < 0) && m x)) = List.replicate N (.bool false) := by
  apply List.ext_getElem
  · rw [List.length_map, List.length_range, List.length_replicate]
  · intro i h1 h2
    rw [List.getElem_map, List.getElem_replicate]
    simp
theorem boolsL_zero (m : Nat → Bool) : boolsL m 0 = List.replicate 256 (.bool false) := falses m 256
theorem made_falses (N : Nat) : madeCells (Value.bool false).cells N = (List.replicate N (Value.bool false)).toArray := by
  apply Array.ext
  · rw [size_madeCells, List.size_toArray, List.length_replicate]
  · intro i h1 h2
    simp [madeCells, Value.cells, Nat.mod_one]
theorem made_bools : madeCells (Value.bool false).cells 256 = (List.replicate 256 (Value.bool false)).toArray := made_falses 256
theorem make_bools (w : World) : (Instr.makeSlice 83 (.int .i64 256) (.int .i64 256)).run Tryz.prog w = .ok (.slice (some ⟨w.heap.size, 0, none⟩) 256 256) (w.alloc (.cells (List.replicate 256 (Value.bool false)).toArray 4)) := by
  obtain ⟨i, hi, h0, h1, h2⟩ := info_parts (by kernel_rfl : (Tryz.prog.info? 4).map (fun i => (i.zero, i.size, i.bytes)) = some (some (.bool false), 1, 1))
  have := run_make (P := Tryz.prog) w 83 4 i _ Tryz.underlying83 hi h0 .i64 .i64 256 256 (by omega) (by omega) (by rw [h2]; decide) (by decide)
  rw [h1] at this
  rw [← made_bools]
  exact this
end Go.Proofs.YtpiimcbbgalhfaaGreatDoor
/- bytes.First, math/bits.TrailingZeros64; the reference's First, Bytes. -/
namespace Go.Proofs.YtpiimcbbgalhfaaGreatDoor
set_option maxRecDepth 100000
open Go.RowKit
attribute [local go_sem] idx_set0 idx_set1 idx_set2 idx_set3
/-- The table lies in its variable. -/
def TabOk (w : World) : Prop := ∀ j, j < 64 → w.cell? ⟨0, j, none⟩ = some (.int .u8 (Lib.deBruijn64tab.getD j 0))
theorem TabOk.below {w w' : World} (h : TabOk w) (hb : Below w.heap.size w w') : TabOk w' := fun j hj => by
  have hc := h j hj
  have hl : (⟨0, j, none⟩ : Addr).block < w.heap.size := by
    unfold World.cell? at hc
    rcases Nat.lt_or_ge (⟨0, j, none⟩ : Addr).block w.heap.size with hl | hl
    · exact hl
    · rw [Array.getElem?_eq_none hl] at hc
      cases hc
  exact (hb.cell hl).trans hc
set_option maxHeartbeats 1000000 in
theorem tz_core (x k idx : Nat) (w : World) (hx0 : ((x : Int) == 0) = false)
    (key : IntKind.u64.wrap (bits BinOp.and IntKind.u64 (x : Int) (IntKind.u64.wrap (-(x : Int))) * 285870213051353865) / 288230376151711744 = (idx : Int))
    (hi : idx < 64) (hk : k < 64) (hcell : w.cell? ⟨0, idx, none⟩ = some (.int .u8 k)) :
    Calls Tryz.prog 124 #[.int .u64 x] w fun e w' => e = .returned (.int .i64 k) ∧ w' = w := by
  go_enter Tryz.func124, Tryz.ntmps124
  go_wp2_with (simp only [key])
  go_ret
  exact ⟨rfl, rfl⟩
theorem tz_any (x : Nat) (hx : x < 18446744073709551616) (hx0 : x ≠ 0) (w : World) (hT : TabOk w) :
    Calls Tryz.prog 124 #[.int .u64 x] w fun e w' => e = .returned (.int .i64 (Lib.ctz 64 x)) ∧ w' = w := by
  obtain ⟨hlow, hk⟩ := Lib.lowest_bit 64 x hx0 hx
  obtain ⟨hi, htab⟩ := Lib.deBruijn64_at _ hk
  have hcell := hT _ hi
  rw [htab] at hcell
  exact tz_core x _ _ w (by simp; omega) (tz64_key x _ hx hx0 hlow) hi hk hcell
theorem ctz_bits (x : Nat) (h0 : x ≠ 0) (h : x < 2 ^ 64) : x.testBit (Lib.ctz 64 x) = true ∧ (∀ j, j < Lib.ctz 64 x → x.testBit j = false) ∧ Lib.ctz 64 x < 64 := by
  obtain ⟨m, hm, hk⟩ := Lib.ctzFrom_spec 64 x (by omega) h
  have e : Lib.ctz 64 x = Lib.ctzFrom 64 x := by simp [Lib.ctz, h0]
  rw [e]
  generalize Lib.ctzFrom 64 x = k at *
  subst hm
  refine ⟨?_, fun j hj => ?_, hk⟩
  · rw [Nat.mul_comm, Nat.testBit_mul_two_pow]
    simp [Nat.testBit_zero]
  · rw [Nat.mul_comm, Nat.testBit_mul_two_pow]
    simp
    omega
def firstM (m : Nat → Bool) : Option Nat := (List.range 256).find? m
theorem firstM_some {m : Nat → Bool} {b : Nat} (h : m b = true) (hb : b < 256) (hl : ∀ j, j < b → m j = false) : firstM m = some b := by
  unfold firstM
  rw [List.find?_range_eq_some]
  exact ⟨h, List.mem_range.2 hb, fun j hj => by rw [hl j hj]; rfl⟩
theorem firstM_none {m : Nat → Bool} (h : ∀ j, j < 256 → m j = false) : firstM m = none := by
  unfold firstM
  rw [List.find?_range_eq_none]
  exact fun j hj => by rw [h j hj]; rfl
theorem word_zero {m : Nat → Bool} {i : Nat} (h : word m i = 0) (j : Nat) (hj : j < 64) : m (64 * i + j) = false := by
  have := testBit_word m i j
  rw [h] at this
  simpa [hj] using this.symm
theorem first_at {m : Nat → Bool} (i : Nat) (hi : i < 4) (hz : ∀ j, j < i → word m j = 0) (hn : word m i ≠ 0) :
    firstM m = some (64 * i + Lib.ctz 64 (word m i).toNat) ∧ Lib.ctz 64 (word m i).toNat < 64 := by
  have h0 := word_nonneg m i
  have h1 := word_lt m i
  obtain ⟨hb, hl, hk⟩ := ctz_bits (word m i).toNat (by omega) (by omega)
  rw [testBit_word] at hb
  simp only [Bool.and_eq_true, decide_eq_true_eq] at hb
  refine ⟨firstM_some hb.2 (by omega) fun j hj => ?_, hk⟩
  by_cases hji : j < 64 * i
  · have := word_zero (hz (j / 64) (by omega)) (j % 64) (by omega)
    rw [Nat.div_add_mod] at this
    exact this
  · have := hl (j - 64 * i) (by omega)
    rw [testBit_word] at this
    simp only [Bool.and_eq_false_iff, decide_eq_false_iff_not] at this
    rcases this with h | h
    · omega
    · rwa [show 64 * i + (j - 64 * i) = j by omega] at h
/-- What First answers. -/
def firstV (m : Nat → Bool) : Value := .tuple #[.int .u8 ((firstM m).getD 0 : Nat), .bool (firstM m).isSome]
set_option maxHeartbeats 2000000 in
theorem first_any (m : Nat → Bool) (w : World) (hT : TabOk w) :
    Calls Tryz.prog 69 #[setV m] w fun e w' => e = .returned (firstV m) ∧ Below w.heap.size w w' := by
  have hs : (word m 0 ≠ 0) ∨ (word m 0 = 0 ∧ word m 1 ≠ 0) ∨ (word m 0 = 0 ∧ word m 1 = 0 ∧ word m 2 ≠ 0) ∨ (word m 0 = 0 ∧ word m 1 = 0 ∧ word m 2 = 0 ∧ word m 3 ≠ 0) ∨ (word m 0 = 0 ∧ word m 1 = 0 ∧ word m 2 = 0 ∧ word m 3 = 0) := by omega
  have HT := Lib.hid hT
  clear hT
  unfold setV
  rcases hs with hs | hs | hs | hs | hs
  · have hn := hs
    clear hs
    obtain ⟨hf, hk⟩ := first_at (m := m) 0 (by omega) (by intro j hj; omega) hn
    have HF := Lib.hid hf
    have hlt := word_lt m 0
    obtain ⟨x, hx⟩ := Int.eq_ofNat_of_zero_le (word_nonneg m 0)
    rw [hx] at hn hlt hk
    have hx0 : x ≠ 0 := by omega
    have hx1 : x < 18446744073709551616 := by omega
    have HX := Lib.hid hx
    rw [hx]
    clear hf hx hn hlt
    rw [Int.toNat_natCast] at hk
    go_enter Tryz.func69, Tryz.ntmps69
    go_wp2
    refine wp_loop_rounds 5 ?_
    rw [rounds_succ]; go_wp2_with fail
    refine (tz_any x hx1 hx0 _ (HT.out.below (by go_grown))).mono ?_
    rintro e w1 ⟨rfl, rfl⟩
    go_wp2
    go_returns
    refine ⟨?_, by go_grown⟩
    unfold firstV
    rw [HF.out, HX.out, Int.toNat_natCast]
    simp
  · obtain ⟨z0, hn⟩ := hs
    obtain ⟨hf, hk⟩ := first_at (m := m) 1 (by omega) (by intro j hj; have hj : j = 0 := (by omega); rcases hj with rfl <;> assumption) hn
    have HF := Lib.hid hf
    have hlt := word_lt m 1
    obtain ⟨x, hx⟩ := Int.eq_ofNat_of_zero_le (word_nonneg m 1)
    rw [hx] at hn hlt hk
    have hx0 : x ≠ 0 := by omega
    have hx1 : x < 18446744073709551616 := by omega
    have HX := Lib.hid hx
    rw [hx, z0]
    clear hf hx hn hlt z0
    rw [Int.toNat_natCast] at hk
    go_enter Tryz.func69, Tryz.ntmps69
    go_wp2
    refine wp_loop_rounds 5 ?_
    rw [rounds_succ]; go_wp2
    rw [rounds_succ]; go_wp2_with fail
    refine (tz_any x hx1 hx0 _ (HT.out.below (by go_grown))).mono ?_
    rintro e w1 ⟨rfl, rfl⟩
    go_wp2
    go_returns
    refine ⟨?_, by go_grown⟩
    unfold firstV
    rw [HF.out, HX.out, Int.toNat_natCast]
    simp
  · obtain ⟨z0, z1, hn⟩ := hs
    obtain ⟨hf, hk⟩ := first_at (m := m) 2 (by omega) (by intro j hj; have hj : j = 0 ∨ j = 1 := (by omega); rcases hj with rfl | rfl <;> assumption) hn
    have HF := Lib.hid hf
    have hlt := word_lt m 2
    obtain ⟨x, hx⟩ := Int.eq_ofNat_of_zero_le (word_nonneg m 2)
    rw [hx] at hn hlt hk
    have hx0 : x ≠ 0 := by omega
    have hx1 : x < 18446744073709551616 := by omega
    have HX := Lib.hid hx
    rw [hx, z0, z1]
    clear hf hx hn hlt z0 z1
    rw [Int.toNat_natCast] at hk
    go_enter Tryz.func69, Tryz.ntmps69
    go_wp2
    refine wp_loop_rounds 5 ?_
    rw [rounds_succ]; go_wp2
    rw [rounds_succ]; go_wp2
    rw [rounds_succ]; go_wp2_with fail
    refine (tz_any x hx1 hx0 _ (HT.out.below (by go_grown))).mono ?_
    rintro e w1 ⟨rfl, rfl⟩
    go_wp2
    go_returns
    refine ⟨?_, by go_grown⟩
    unfold firstV
    rw [HF.out, HX.out, Int.toNat_natCast]
    simp
  · obtain ⟨z0, z1, z2, hn⟩ := hs
    obtain ⟨hf, hk⟩ := first_at (m := m) 3 (by omega) (by intro j hj; have hj : j = 0 ∨ j = 1 ∨ j = 2 := (by omega); rcases hj with rfl | rfl | rfl <;> assumption) hn
    have HF := Lib.hid hf
    have hlt := word_lt m 3
    obtain ⟨x, hx⟩ := Int.eq_ofNat_of_zero_le (word_nonneg m 3)
    rw [hx] at hn hlt hk
    have hx0 : x ≠ 0 := by omega
    have hx1 : x < 18446744073709551616 := by omega
    have HX := Lib.hid hx
    rw [hx, z0, z1, z2]
    clear hf hx hn hlt z0 z1 z2
    rw [Int.toNat_natCast] at hk
    go_enter Tryz.func69, Tryz.ntmps69
    go_wp2
    refine wp_loop_rounds 5 ?_
    rw [rounds_succ]; go_wp2
    rw [rounds_succ]; go_wp2
    rw [rounds_succ]; go_wp2
    rw [rounds_succ]; go_wp2_with fail
    refine (tz_any x hx1 hx0 _ (HT.out.below (by go_grown))).mono ?_
    rintro e w1 ⟨rfl, rfl⟩
    go_wp2
    go_returns
    refine ⟨?_, by go_grown⟩
    unfold firstV
    rw [HF.out, HX.out, Int.toNat_natCast]
    simp
  · obtain ⟨z0, z1, z2, z3⟩ := hs
    have hf : firstM m = none := firstM_none fun j hj => by
      have hq : j / 64 = 0 ∨ j / 64 = 1 ∨ j / 64 = 2 ∨ j / 64 = 3 := by omega
      have hz : word m (j / 64) = 0 := by rcases hq with h | h | h | h <;> rw [h] <;> assumption
      have := word_zero hz (j % 64) (by omega)
      rwa [Nat.div_add_mod] at this
    have HF := Lib.hid hf
    rw [z0, z1, z2, z3]
    clear hf z0 z1 z2 z3
    go_enter Tryz.func69, Tryz.ntmps69
    go_wp2
    refine wp_loop_rounds 5 ?_
    rw [rounds_succ]; go_wp2
    rw [rounds_succ]; go_wp2
    rw [rounds_succ]; go_wp2
    rw [rounds_succ]; go_wp2
    rw [rounds_succ]; go_wp2
    go_returns
    refine ⟨?_, by go_grown⟩
    unfold firstV
    rw [HF.out]
    rfl
/-- What the reference's First answers. -/
def firstZ (m : Nat → Bool) : Int := match firstM m with
  | some b => b
  | none => -1
end Go.Proofs.YtpiimcbbgalhfaaGreatDoor
