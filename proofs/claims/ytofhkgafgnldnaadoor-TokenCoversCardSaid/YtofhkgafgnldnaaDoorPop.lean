/- How many bits of a word are set: the way of math/bits.OnesCount64, byte by byte. No program in sight. -/
import Derived.Test.YtofhkgafgnldnaaDoorSets
namespace Go.Proofs.YtofhkgafgnldnaaDoor
open Go.RowKit

theorem and_split (t a b r s : Nat) (ha : a < 2 ^ t) (hb : b < 2 ^ t) : (a + 2 ^ t * r) &&& (b + 2 ^ t * s) = (a &&& b) + 2 ^ t * (r &&& s) := by
  have hab : a &&& b < 2 ^ t := Nat.lt_of_le_of_lt Nat.and_le_left ha
  apply Nat.eq_of_testBit_eq
  intro i
  rw [Nat.testBit_and, Nat.add_comm a, Nat.add_comm b, Nat.add_comm (a &&& b), Nat.testBit_two_pow_mul_add r ha, Nat.testBit_two_pow_mul_add s hb, Nat.testBit_two_pow_mul_add _ hab]
  split <;> simp [Nat.testBit_and]
/-- The number of some bytes, the lowest first. -/
def num : List Nat → Nat
  | [] => 0
  | b :: l => b + 256 * num l
theorem num_mask (s m : Nat) (hs : s ≤ 8) (hm : m < 256) (h : ∀ b : Fin 256, ∀ c : Fin 16, c.val < 2 ^ s → (b.val / 2 ^ s + 2 ^ (8 - s) * c.val) &&& m = (b.val / 2 ^ s) &&& m) (l : List Nat) (hl : ∀ b ∈ l, b < 256) (h4 : s ≤ 4) :
    (num l / 2 ^ s) &&& num (l.map fun _ => m) = num (l.map fun b => (b / 2 ^ s) &&& m) := by
  induction l with
  | nil => simp [num]
  | cons b l ih =>
    have hb := hl b (by simp)
    have hp : 0 < 2 ^ s := Nat.two_pow_pos s
    have e8 : 2 ^ (8 - s) * 2 ^ s = 256 := by rw [← Nat.pow_add, show 8 - s + s = 8 by omega]
    have hq : num l = 2 ^ s * (num l / 2 ^ s) + num l % 2 ^ s := (Nat.div_add_mod _ _).symm
    have hlt : num l % 2 ^ s < 2 ^ s := Nat.mod_lt _ hp
    have h16 : 2 ^ s ≤ 16 := Nat.pow_le_pow_right (n := 2) (by omega) h4
    have e1 : num (b :: l) / 2 ^ s = (b / 2 ^ s + 2 ^ (8 - s) * (num l % 2 ^ s)) + 2 ^ 8 * (num l / 2 ^ s) := by
      have e2 : num (b :: l) = b + (2 ^ (8 - s) * (num l % 2 ^ s) + 256 * (num l / 2 ^ s)) * 2 ^ s := by
        simp only [num]
        rw [Nat.add_mul]
        have e3 : 2 ^ (8 - s) * (num l % 2 ^ s) * 2 ^ s = 256 * (num l % 2 ^ s) := by rw [Nat.mul_right_comm, e8]
        have e4 : 256 * (num l / 2 ^ s) * 2 ^ s = 256 * (2 ^ s * (num l / 2 ^ s)) := by rw [Nat.mul_assoc, Nat.mul_comm (num l / 2 ^ s)]
        rw [e3, e4, ← Nat.mul_add, Nat.add_comm (num l % 2 ^ s), ← hq]
      rw [e2, Nat.add_mul_div_right _ _ hp]
      omega
    have hlo : b / 2 ^ s + 2 ^ (8 - s) * (num l % 2 ^ s) < 2 ^ 8 := by
      have h1 : b / 2 ^ s ≤ 2 ^ (8 - s) - 1 := by
        have : b / 2 ^ s < 2 ^ (8 - s) := by rw [Nat.div_lt_iff_lt_mul hp, e8]; exact hb
        omega
      have h2 : 2 ^ (8 - s) * (num l % 2 ^ s) ≤ 2 ^ (8 - s) * (2 ^ s - 1) := Nat.mul_le_mul_left _ (by omega)
      have h3 : 2 ^ (8 - s) * (2 ^ s - 1) = 256 - 2 ^ (8 - s) := by rw [Nat.mul_sub, e8, Nat.mul_one]
      have h5 : 0 < 2 ^ (8 - s) := Nat.two_pow_pos _
      have h6 : 2 ^ (8 - s) ≤ 256 := by rw [← e8]; exact Nat.le_mul_of_pos_right _ hp
      omega
    rw [e1, List.map_cons, List.map_cons]
    simp only [num]
    rw [show (256 : Nat) = 2 ^ 8 by decide, and_split 8 _ _ _ _ hlo (by omega), ih (fun x hx => hl x (by simp [hx])), h ⟨b, hb⟩ ⟨num l % 2 ^ s, by omega⟩ hlt]
theorem num_add (f g : Nat → Nat) (l : List Nat) : num (l.map f) + num (l.map g) = num (l.map fun b => f b + g b) := by
  induction l with
  | nil => rfl
  | cons b l ih => simp only [List.map_cons, num]; omega
theorem num_third (l : List Nat) (hl : ∀ b ∈ l, b % 16 ≤ 4 ∧ b / 16 ≤ 4) : (num l / 16 + num l) &&& num (l.map fun _ => 15) = num (l.map fun b => b % 16 + b / 16) := by
  induction l with
  | nil => simp [num]
  | cons b l ih =>
    have hb := hl b (by simp)
    have hlt : num l % 16 < 16 := Nat.mod_lt _ (by omega)
    have h4 : num l % 16 ≤ 4 := by
      cases l with
      | nil => simp [num]
      | cons c l =>
        have := hl c (by simp)
        simp only [num]
        omega
    have e1 : num (b :: l) / 16 + num (b :: l) = (b / 16 + 16 * (num l % 16) + b) + 2 ^ 8 * (num l / 16 + num l) := by
      simp only [num]
      omega
    rw [e1, List.map_cons, List.map_cons]
    simp only [num]
    rw [show (256 : Nat) = 2 ^ 8 by decide, and_split 8 _ _ _ _ (by omega) (by omega), ih (fun x hx => hl x (by simp [hx]))]
    congr 1
    rw [show (15 : Nat) = 2 ^ 4 - 1 by decide, Nat.and_two_pow_sub_one_eq_mod]
    omega
theorem num_lt (l : List Nat) (hl : ∀ b ∈ l, b < 256) : num l < 256 ^ l.length := by
  induction l with
  | nil => simp [num]
  | cons b l ih =>
    have h1 := hl b (by simp)
    have h2 := ih (fun x hx => hl x (by simp [hx]))
    simp only [num, List.length_cons, Nat.pow_succ]
    omega
/-- How many of the first n are so. -/
def cnt (f : Nat → Bool) : Nat → Nat
  | 0 => 0
  | n + 1 => cnt f n + (if f n then 1 else 0)
theorem cnt_listM (m : Nat → Bool) (n : Nat) : (listM m n).length = cnt m n := by
  induction n with
  | zero => rfl
  | succ n ih =>
    rw [listM_succ, cnt]
    split <;> simp [ih]
theorem cnt_add (f : Nat → Bool) (a b : Nat) : cnt f (a + b) = cnt f a + cnt (fun j => f (a + j)) b := by
  induction b with
  | zero => rfl
  | succ b ih => rw [show a + (b + 1) = (a + b) + 1 by omega, cnt, ih, cnt]; omega
theorem bitsTo_add (f : Nat → Bool) (a b : Nat) : bitsTo f (a + b) = bitsTo f a + 2 ^ a * bitsTo (fun j => f (a + j)) b := by
  apply Nat.eq_of_testBit_eq
  intro i
  rw [testBit_bitsTo, Nat.add_comm (bitsTo f a), Nat.testBit_two_pow_mul_add _ (bitsTo_lt f a)]
  split
  · rename_i h
    rw [testBit_bitsTo]; simp [h, show i < a + b by omega]
  · rename_i h
    rw [testBit_bitsTo, show a + (i - a) = i by omega]
    congr 1
    simp only [decide_eq_decide]
    omega
/-- A byte's bits, pair by pair, four by four, all. -/
def popB (b : Nat) : Nat :=
  let x := ((b / 2) &&& 85) + (b &&& 85)
  let y := ((x / 4) &&& 51) + (x &&& 51)
  y % 16 + y / 16
theorem popB_bits : ∀ a b c d e f g h : Bool, popB (bitsTo (fun j => [a, b, c, d, e, f, g, h].getD j false) 8) = cnt (fun j => [a, b, c, d, e, f, g, h].getD j false) 8 := by decide +kernel
theorem popB_cnt (f : Nat → Bool) : popB (bitsTo f 8) = cnt f 8 := by
  have h := popB_bits (f 0) (f 1) (f 2) (f 3) (f 4) (f 5) (f 6) (f 7)
  simpa [bitsTo, cnt] using h
/-- What OnesCount64 reckons. -/
def pop64 (x : Nat) : Nat :=
  let x := ((x / 2) &&& 6148914691236517205) + (x &&& 6148914691236517205)
  let x := ((x / 4) &&& 3689348814741910323) + (x &&& 3689348814741910323)
  let x := (x / 16 + x) &&& 1085102592571150095
  let x := x + x / 256
  let x := x + x / 65536
  let x := x + x / 4294967296
  x % 128
/-- The eight bytes of a word. -/
def bytes8 (f : Nat → Bool) : List Nat := [bitsTo (fun j => f (0 + j)) 8, bitsTo (fun j => f (8 + j)) 8, bitsTo (fun j => f (16 + j)) 8, bitsTo (fun j => f (24 + j)) 8, bitsTo (fun j => f (32 + j)) 8, bitsTo (fun j => f (40 + j)) 8, bitsTo (fun j => f (48 + j)) 8, bitsTo (fun j => f (56 + j)) 8]
theorem num_bytes8 (f : Nat → Bool) : num (bytes8 f) = bitsTo f 64 := by
  have e : ∀ a, a + 8 ≤ 64 → bitsTo (fun j => f (a + j)) (64 - a) = bitsTo (fun j => f (a + j)) 8 + 256 * bitsTo (fun j => f (a + 8 + j)) (64 - (a + 8)) := by
    intro a ha
    have := bitsTo_add (fun j => f (a + j)) 8 (64 - (a + 8))
    rw [show 8 + (64 - (a + 8)) = 64 - a by omega] at this
    rw [this]
    simp only [Nat.add_assoc]
  have e0 := e 0 (by omega); have e1 := e 8 (by omega); have e2 := e 16 (by omega); have e3 := e 24 (by omega)
  have e4 := e 32 (by omega); have e5 := e 40 (by omega); have e6 := e 48 (by omega); have e7 := e 56 (by omega)
  have e8 : bitsTo (fun j => f (64 + j)) 0 = 0 := rfl
  have h0 : bitsTo f 64 = bitsTo (fun j => f (0 + j)) 64 := by simp only [Nat.zero_add]
  simp only [Nat.reduceAdd, Nat.reduceSub] at e0 e1 e2 e3 e4 e5 e6 e7
  rw [h0, e0, e1, e2, e3, e4, e5, e6, e7, e8]
  rfl
theorem cnt_bytes8 (f : Nat → Bool) : cnt f 64 = cnt (fun j => f (0 + j)) 8 + cnt (fun j => f (8 + j)) 8 + cnt (fun j => f (16 + j)) 8 + cnt (fun j => f (24 + j)) 8 + cnt (fun j => f (32 + j)) 8 + cnt (fun j => f (40 + j)) 8 + cnt (fun j => f (48 + j)) 8 + cnt (fun j => f (56 + j)) 8 := by
  rw [show (64 : Nat) = 56 + 8 by rfl, cnt_add f 56 8, show (56 : Nat) = 48 + 8 by rfl, cnt_add f 48 8, show (48 : Nat) = 40 + 8 by rfl, cnt_add f 40 8, show (40 : Nat) = 32 + 8 by rfl, cnt_add f 32 8,
    show (32 : Nat) = 24 + 8 by rfl, cnt_add f 24 8, show (24 : Nat) = 16 + 8 by rfl, cnt_add f 16 8, show (16 : Nat) = 8 + 8 by rfl, cnt_add f 8 8]
  simp only [Nat.zero_add]
theorem cnt_le (f : Nat → Bool) (n : Nat) : cnt f n ≤ n := by
  induction n with
  | zero => exact Nat.le_refl _
  | succ n ih => rw [cnt]; split <;> omega
theorem fold_bytes (p0 p1 p2 p3 p4 p5 p6 p7 y : Nat) (h : p0 ≤ 8 ∧ p1 ≤ 8 ∧ p2 ≤ 8 ∧ p3 ≤ 8 ∧ p4 ≤ 8 ∧ p5 ≤ 8 ∧ p6 ≤ 8 ∧ p7 ≤ 8) (hy : y = num [p0, p1, p2, p3, p4, p5, p6, p7]) :
    (y + y / 256 + (y + y / 256) / 65536 + (y + y / 256 + (y + y / 256) / 65536) / 4294967296) % 128 = p0 + p1 + p2 + p3 + p4 + p5 + p6 + p7 := by
  simp only [num] at hy
  have h1 : y + y / 256 = (p0 + p1) + 256 * ((p1 + p2) + 256 * ((p2 + p3) + 256 * ((p3 + p4) + 256 * ((p4 + p5) + 256 * ((p5 + p6) + 256 * ((p6 + p7) + 256 * p7)))))) := by omega
  rw [h1]
  clear h1 hy
  generalize h2 : (p0 + p1) + 256 * ((p1 + p2) + 256 * ((p2 + p3) + 256 * ((p3 + p4) + 256 * ((p4 + p5) + 256 * ((p5 + p6) + 256 * ((p6 + p7) + 256 * p7)))))) = z
  have h3 : z + z / 65536 = (p0 + p1 + p2 + p3) + 256 * ((p1 + p2 + p3 + p4) + 256 * ((p2 + p3 + p4 + p5) + 256 * ((p3 + p4 + p5 + p6) + 256 * ((p4 + p5 + p6 + p7) + 256 * ((p5 + p6 + p7) + 256 * ((p6 + p7) + 256 * p7)))))) := by omega
  have h5 : (z + z / 65536) / 4294967296 = (p4 + p5 + p6 + p7) + 256 * ((p5 + p6 + p7) + 256 * ((p6 + p7) + 256 * p7)) := by
    rw [h3]
    clear h3 h2
    omega
  rw [h5, h3]
  clear h3 h2 h5
  omega
theorem pop64_cnt (f : Nat → Bool) : pop64 (bitsTo f 64) = cnt f 64 := by
  have hb : ∀ b ∈ bytes8 f, b < 256 := by
    intro b hb
    simp only [bytes8, List.mem_cons, List.not_mem_nil, or_false] at hb
    rcases hb with rfl | rfl | rfl | rfl | rfl | rfl | rfl | rfl <;> exact bitsTo_lt _ 8
  have k1 : ∀ b : Fin 256, ((b.val / 2) &&& 85) + (b.val &&& 85) < 256 := by decide +kernel
  have k2 : ∀ b : Fin 256, (((b.val / 4) &&& 51) + (b.val &&& 51)) % 16 ≤ 6 ∧ (((b.val / 4) &&& 51) + (b.val &&& 51)) / 16 ≤ 6 ∧ ((b.val / 4) &&& 51) + (b.val &&& 51) < 256 := by decide +kernel
  have k3 : ∀ b : Fin 256, ((((((b.val / 2) &&& 85) + (b.val &&& 85)) / 4) &&& 51) + ((((b.val / 2) &&& 85) + (b.val &&& 85)) &&& 51)) % 16 ≤ 4 ∧ ((((((b.val / 2) &&& 85) + (b.val &&& 85)) / 4) &&& 51) + ((((b.val / 2) &&& 85) + (b.val &&& 85)) &&& 51)) / 16 ≤ 4 := by decide +kernel
  have a1 := num_mask 1 85 (by omega) (by omega) (by decide +kernel) (bytes8 f) hb (by omega)
  have a0 := num_mask 0 85 (by omega) (by omega) (by decide +kernel) (bytes8 f) hb (by omega)
  have M0 : num ((bytes8 f).map fun _ => 85) = 6148914691236517205 := by simp only [bytes8, List.map_cons, List.map_nil]; decide
  rw [M0, Nat.pow_one] at a1
  rw [M0, Nat.pow_zero, Nat.div_one] at a0
  simp only [Nat.div_one] at a0
  let l1 := (bytes8 f).map fun b => ((b / 2) &&& 85) + (b &&& 85)
  have hl1 : ∀ b ∈ l1, b < 256 := by
    intro b hb1
    obtain ⟨c, hc, rfl⟩ := List.mem_map.1 hb1
    exact k1 ⟨c, hb c hc⟩
  have s1 : ((num (bytes8 f) / 2) &&& 6148914691236517205) + (num (bytes8 f) &&& 6148914691236517205) = num l1 := by
    rw [a1, a0, num_add]
  have b1 := num_mask 2 51 (by omega) (by omega) (by decide +kernel) l1 hl1 (by omega)
  have b0 := num_mask 0 51 (by omega) (by omega) (by decide +kernel) l1 hl1 (by omega)
  have M1 : num (l1.map fun _ => 51) = 3689348814741910323 := by simp only [l1, bytes8, List.map_cons, List.map_nil]; decide
  rw [M1, show (2 : Nat) ^ 2 = 4 by decide] at b1
  rw [M1, Nat.pow_zero, Nat.div_one] at b0
  simp only [Nat.div_one] at b0
  let l2 := l1.map fun b => ((b / 4) &&& 51) + (b &&& 51)
  have s2 : ((num l1 / 4) &&& 3689348814741910323) + (num l1 &&& 3689348814741910323) = num l2 := by
    rw [b1, b0, num_add]
  have hl2 : ∀ b ∈ l2, b % 16 ≤ 4 ∧ b / 16 ≤ 4 := by
    intro b hb2
    obtain ⟨c, hc, rfl⟩ := List.mem_map.1 hb2
    obtain ⟨d, hd, rfl⟩ := List.mem_map.1 hc
    exact k3 ⟨d, hb d hd⟩
  have c1 := num_third l2 hl2
  have M2 : num (l2.map fun _ => 15) = 1085102592571150095 := by simp only [l2, l1, bytes8, List.map_cons, List.map_nil]; decide
  rw [M2] at c1
  have s3 : l2.map (fun b => b % 16 + b / 16) = (bytes8 f).map popB := by
    simp only [l2, l1, List.map_map]
    rfl
  rw [s3] at c1
  simp only [pop64]
  rw [← num_bytes8, s1, s2, c1]
  have hp : (bytes8 f).map popB = [cnt (fun j => f (0 + j)) 8, cnt (fun j => f (8 + j)) 8, cnt (fun j => f (16 + j)) 8, cnt (fun j => f (24 + j)) 8, cnt (fun j => f (32 + j)) 8, cnt (fun j => f (40 + j)) 8, cnt (fun j => f (48 + j)) 8, cnt (fun j => f (56 + j)) 8] := by
    simp only [bytes8, List.map_cons, List.map_nil, popB_cnt]
  have := fold_bytes _ _ _ _ _ _ _ _ _ ⟨cnt_le (fun j => f (0 + j)) 8, cnt_le (fun j => f (8 + j)) 8, cnt_le (fun j => f (16 + j)) 8, cnt_le (fun j => f (24 + j)) 8, cnt_le (fun j => f (32 + j)) 8, cnt_le (fun j => f (40 + j)) 8, cnt_le (fun j => f (48 + j)) 8, cnt_le (fun j => f (56 + j)) 8⟩ rfl
  rw [cnt_bytes8, hp]
  exact this
theorem and_cast (a C : Nat) (ha : a < 18446744073709551616) (hC : C < 18446744073709551616) : bits .and .u64 (a : Int) (C : Int) = ((a &&& C : Nat) : Int) := u64_and_nat a C ha hC
theorem wrap_cast (a : Nat) (ha : a < 18446744073709551616) : IntKind.u64.wrap (a : Int) = (a : Int) := by rw [IntKind.wrap_u64]; omega
theorem mask2 (n C : Nat) (CI : Int) (hC : CI = (C : Int)) (hn : n < 18446744073709551616) (hb : 2 * C < 18446744073709551616) :
    IntKind.u64.wrap (bits .and .u64 ((n : Int) / 2) CI + bits .and .u64 (n : Int) CI) = (((n / 2 &&& C) + (n &&& C) : Nat) : Int) := by
  subst hC
  have b1 : n / 2 &&& C ≤ C := Nat.and_le_right
  have b2 : n &&& C ≤ C := Nat.and_le_right
  rw [show (n : Int) / 2 = ((n / 2 : Nat) : Int) by simp, and_cast _ _ (by omega) (by omega), and_cast _ _ hn (by omega), ← Int.natCast_add, wrap_cast _ (by omega)]
theorem mask4 (n C : Nat) (CI : Int) (hC : CI = (C : Int)) (hn : n < 18446744073709551616) (hb : 2 * C < 18446744073709551616) :
    IntKind.u64.wrap (bits .and .u64 ((n : Int) / 4) CI + bits .and .u64 (n : Int) CI) = (((n / 4 &&& C) + (n &&& C) : Nat) : Int) := by
  subst hC
  have b1 : n / 4 &&& C ≤ C := Nat.and_le_right
  have b2 : n &&& C ≤ C := Nat.and_le_right
  rw [show (n : Int) / 4 = ((n / 4 : Nat) : Int) by simp, and_cast _ _ (by omega) (by omega), and_cast _ _ hn (by omega), ← Int.natCast_add, wrap_cast _ (by omega)]
theorem mask16 (n C : Nat) (CI : Int) (hC : CI = (C : Int)) (hn : n < 8000000000000000000) (hb : C < 18446744073709551616) :
    bits .and .u64 (IntKind.u64.wrap ((n : Int) / 16 + (n : Int))) CI = (((n / 16 + n) &&& C : Nat) : Int) := by
  subst hC
  rw [show (n : Int) / 16 = ((n / 16 : Nat) : Int) by simp, ← Int.natCast_add, wrap_cast _ (by omega), and_cast _ _ (by omega) hb]
theorem plus256 (n : Nat) (hn : n < 8000000000000000000) : IntKind.u64.wrap ((n : Int) + (n : Int) / 256) = ((n + n / 256 : Nat) : Int) := by
  rw [show (n : Int) / 256 = ((n / 256 : Nat) : Int) by simp, ← Int.natCast_add, wrap_cast _ (by omega)]
theorem plus65536 (n : Nat) (hn : n < 8000000000000000000) : IntKind.u64.wrap ((n : Int) + (n : Int) / 65536) = ((n + n / 65536 : Nat) : Int) := by
  rw [show (n : Int) / 65536 = ((n / 65536 : Nat) : Int) by simp, ← Int.natCast_add, wrap_cast _ (by omega)]
theorem plus4294967296 (n : Nat) (hn : n < 8000000000000000000) : IntKind.u64.wrap ((n : Int) + (n : Int) / 4294967296) = ((n + n / 4294967296 : Nat) : Int) := by
  rw [show (n : Int) / 4294967296 = ((n / 4294967296 : Nat) : Int) by simp, ← Int.natCast_add, wrap_cast _ (by omega)]
theorem i64_and127 (a : Nat) (ha : a < 9223372036854775808) : bits .and .i64 (wrap64 (a : Int)) 127 = ((a % 128 : Nat) : Int) := by
  have hw : wrap64 (a : Int) = (a : Int) := by unfold wrap64; omega
  have ho : ∀ b : Nat, b < 9223372036854775808 → (BitVec.ofInt 64 (b : Int)).toNat = b := by
    intro b hb
    rw [BitVec.ofInt_natCast, BitVec.toNat_ofNat]
    exact Nat.mod_eq_of_lt (by omega)
  have hx : a &&& 127 = a % 128 := by rw [show (127 : Nat) = 2 ^ 7 - 1 by decide, Nat.and_two_pow_sub_one_eq_mod]
  rw [hw]
  show IntKind.i64.wrap ((BitVec.ofInt 64 (a : Int) &&& BitVec.ofInt 64 ((127 : Nat) : Int)).toNat : Int) = _
  rw [BitVec.toNat_and, ho a ha, ho 127 (by omega), IntKind.wrap_i64, hx]
  omega
theorem pop_word (m : Nat → Bool) (i : Nat) : pop64 (word m i).toNat = cnt (fun j => m (64 * i + j)) 64 := by
  rw [word_toNat, pop64_cnt]
theorem cnt_words (m : Nat → Bool) : cnt m 256 = cnt (fun j => m (64 * 0 + j)) 64 + cnt (fun j => m (64 * 1 + j)) 64 + cnt (fun j => m (64 * 2 + j)) 64 + cnt (fun j => m (64 * 3 + j)) 64 := by
  rw [show (256 : Nat) = 192 + 64 by rfl, cnt_add m 192 64, show (192 : Nat) = 128 + 64 by rfl, cnt_add m 128 64, show (128 : Nat) = 64 + 64 by rfl, cnt_add m 64 64]
  simp only [Nat.mul_zero, Nat.zero_add, Nat.mul_one, Nat.reduceMul, Nat.reduceAdd]
theorem cnt_congr {f g : Nat → Bool} {n : Nat} (h : ∀ x, x < n → f x = g x) : cnt f n = cnt g n := by
  induction n with
  | zero => rfl
  | succ n ih => rw [cnt, cnt, ih (fun x hx => h x (by omega)), h n (by omega)]
end Go.Proofs.YtofhkgafgnldnaaDoor
