/- Sets are a lattice: the laws of BytesLattice and BytesFolds, on sets alone. -/
import Derived.Test.YtanimknpnniabaaCount
namespace Go.Proofs.Ytanimknpnniabaa
open Go.RowKit
theorem anyM2 (m0 m1 : Nat → Bool) (x : Nat) : anyM [m0, m1] x = (m0 x || m1 x) := by simp [anyM]
theorem lat21 (m0 m1 : Nat → Bool) : eqB (anyM [m0, m1]) (anyM [m1, m0]) = true := eqB_true fun x _ => by rw [anyM2, anyM2, Bool.or_comm]
theorem lat27 (m0 m1 : Nat → Bool) : eqB (fun x => m0 x && m1 x) (fun x => m1 x && m0 x) = true := eqB_true fun x _ => by rw [Bool.and_comm]
theorem lat34 (m0 m1 : Nat → Bool) : eqB (fun x => m0 x && (anyM [m0, m1]) x) m0 = true := eqB_true fun x _ => by
  rw [anyM2]
  cases m0 x <;> cases m1 x <;> rfl
theorem lat42 (m0 m1 : Nat → Bool) : eqB (anyM [m0, fun x => m0 x && m1 x]) m0 = true := eqB_true fun x _ => by
  rw [anyM2]
  cases m0 x <;> cases m1 x <;> rfl
theorem lat57 (m0 m1 m2 : Nat → Bool) : eqB (fun x => m0 x && (anyM [m1, m2]) x) (anyM [fun x => m0 x && m1 x, fun x => m0 x && m2 x]) = true := eqB_true fun x _ => by
  rw [anyM2, anyM2]
  cases m0 x <;> cases m1 x <;> cases m2 x <;> rfl
theorem lat67 (m0 m1 : Nat → Bool) : eqB (fun x => !(anyM [m0, m1]) x) (fun x => (fun x => !m0 x) x && (fun x => !m1 x) x) = true := eqB_true fun x _ => by
  rw [anyM2]
  show (!(m0 x || m1 x)) = (!m0 x && !m1 x)
  cases m0 x <;> cases m1 x <;> rfl
theorem cnt_lattice (m0 m1 : Nat → Bool) (n : Nat) : cnt (anyM [m0, m1]) n + cnt (fun x => m0 x && m1 x) n = cnt m0 n + cnt m1 n := by
  induction n with
  | zero => rfl
  | succ n ih =>
    have key : ∀ p q : Bool, (if (p || q) = true then 1 else 0) + (if (p && q) = true then 1 else 0) = (if p = true then 1 else 0) + (if q = true then 1 else 0 : Nat) := by decide
    have := key (m0 n) (m1 n)
    simp only [cnt]
    rw [anyM2]
    omega
theorem lat80 (m0 m1 : Nat → Bool) : (wrap64 ((cnt (anyM [m0, m1]) 256 : Int) + (cnt (fun x => m0 x && m1 x) 256 : Int)) == wrap64 ((cnt m0 256 : Int) + (cnt m1 256 : Int))) = true := by
  have h := cnt_lattice m0 m1 256
  rw [show ((cnt (anyM [m0, m1]) 256 : Int) + (cnt (fun x => m0 x && m1 x) 256 : Int)) = (cnt m0 256 : Int) + (cnt m1 256 : Int) by omega]
  simp
theorem fold_great (m : Nat → Bool) (x : Nat) (h : 65 ≤ x ∧ x ≤ 90) : foldM m x = (m x || m (x + 32)) := by
  unfold foldM
  rw [decide_eq_true h, decide_eq_false (by omega : ¬(97 ≤ x ∧ x ≤ 122)), Bool.true_and, Bool.false_and, Bool.or_false]
theorem fold_small (m : Nat → Bool) (x : Nat) (h : 97 ≤ x ∧ x ≤ 122) : foldM m x = (m x || m (x - 32)) := by
  unfold foldM
  rw [decide_eq_true h, decide_eq_false (by omega : ¬(65 ≤ x ∧ x ≤ 90)), Bool.true_and, Bool.false_and, Bool.or_false]
theorem fold_other (m : Nat → Bool) (x : Nat) (h : ¬(65 ≤ x ∧ x ≤ 90)) (h' : ¬(97 ≤ x ∧ x ≤ 122)) : foldM m x = m x := by
  unfold foldM
  rw [decide_eq_false h, decide_eq_false h', Bool.false_and, Bool.false_and, Bool.or_false, Bool.or_false]
theorem fold_fold (m : Nat → Bool) (x : Nat) : foldM (foldM m) x = foldM m x := by
  by_cases h1 : 65 ≤ x ∧ x ≤ 90
  · rw [fold_great _ _ h1, fold_great _ _ h1, fold_small _ (x + 32) (by omega), Nat.add_sub_cancel]
    cases m x <;> cases m (x + 32) <;> rfl
  · by_cases h2 : 97 ≤ x ∧ x ≤ 122
    · rw [fold_small _ _ h2, fold_small _ _ h2, fold_great _ (x - 32) (by omega), Nat.sub_add_cancel (by omega)]
      cases m x <;> cases m (x - 32) <;> rfl
    · rw [fold_other _ _ h1 h2]
theorem lat88 (m0 : Nat → Bool) : eqB (foldM (foldM m0)) (foldM m0) = true := eqB_true fun x _ => fold_fold m0 x
theorem fold_union (m0 m1 : Nat → Bool) (x : Nat) : foldM (anyM [m0, m1]) x = anyM [foldM m0, foldM m1] x := by
  rw [anyM2]
  by_cases h1 : 65 ≤ x ∧ x ≤ 90
  · rw [fold_great _ _ h1, fold_great _ _ h1, fold_great _ _ h1, anyM2, anyM2]
    cases m0 x <;> cases m0 (x + 32) <;> cases m1 x <;> cases m1 (x + 32) <;> rfl
  · by_cases h2 : 97 ≤ x ∧ x ≤ 122
    · rw [fold_small _ _ h2, fold_small _ _ h2, fold_small _ _ h2, anyM2, anyM2]
      cases m0 x <;> cases m0 (x - 32) <;> cases m1 x <;> cases m1 (x - 32) <;> rfl
    · rw [fold_other _ _ h1 h2, fold_other _ _ h1 h2, fold_other _ _ h1 h2, anyM2]
theorem fold_more (m : Nat → Bool) (x : Nat) (h : m x = true) : foldM m x = true := by simp [foldM, h]
end Go.Proofs.Ytanimknpnniabaa
