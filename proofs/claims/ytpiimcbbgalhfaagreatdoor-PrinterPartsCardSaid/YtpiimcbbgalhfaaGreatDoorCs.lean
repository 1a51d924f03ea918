/- printer.braces, over what Itoa tells. -/
import Derived.Test.YtpiimcbbgalhfaaGreatDoorBw
import Derived.Test.YtpiimcbbgalhfaaGreatDoorBz
import Derived.Lib.ItoaMem
import Derived.Lib.AppendIntMem
import Derived.Test.YtpiimcbbgalhfaaGreatDoorBv
namespace Go.Proofs.YtpiimcbbgalhfaaGreatDoor
set_option maxRecDepth 100000
open Go.RowKit
def braceS (N : Int → ByteArray) (lo hi : Int) : ByteArray :=
  if hi = -1 then (({ data := #[123] } : ByteArray) ++ N lo) ++ { data := #[44] } ++ { data := #[125] }
  else if hi = lo then (({ data := #[123] } : ByteArray) ++ N lo) ++ { data := #[125] }
  else (({ data := #[123] } : ByteArray) ++ N lo) ++ (({ data := #[44] } : ByteArray) ++ N hi) ++ { data := #[125] }
set_option maxHeartbeats 2000000 in
theorem pbraces_at (N : Int → ByteArray) (lo hi : Int) (hNl : (N lo).size ≤ 100) (hNh : (N hi).size ≤ 100) (w : World) (hL : ∀ W, Below w.heap.size w W → Calls Tryz.prog 135 #[.int .i64 lo] W fun v w' => v = .returned (.string (N lo)) ∧ Below W.heap.size W w')
    (hH : ∀ W, Below w.heap.size w W → Calls Tryz.prog 135 #[.int .i64 hi] W fun v w' => v = .returned (.string (N hi)) ∧ Below W.heap.size W w') :
    Calls Tryz.prog 84 #[.int .i64 lo, .int .i64 hi] w fun v w' => v = .returned (.string (braceS N lo hi)) ∧ Below w.heap.size w w' := by
  have HL := Lib.hid (hL w (Below.refl _ w))
  have HH := Lib.hid hH
  clear hL hH
  by_cases h1 : hi = -1
  · have HV := Lib.hid (show braceS N lo hi = (({ data := #[123] } : ByteArray) ++ N lo) ++ { data := #[44] } ++ { data := #[125] } by unfold braceS; rw [if_pos h1])
    have hq : (hi == -1) = true := by rw [beq_iff_eq]; exact h1
    generalize N lo = a at *
    clear h1
    go_enter Tryz.func84, Tryz.ntmps84
    go_wp2_with fail
    refine HL.out.mono ?_
    rintro v w1 ⟨rfl, hb1⟩
    have HB1 := Lib.hid hb1
    clear hb1
    go_wp2
    go_returns
    exact ⟨by rw [HV.out]; rfl, HB1.out⟩
  · have hq : (hi == -1) = false := by rw [beq_eq_false_iff_ne]; exact h1
    by_cases h2 : hi = lo
    · have HV := Lib.hid (show braceS N lo hi = (({ data := #[123] } : ByteArray) ++ N lo) ++ { data := #[125] } by unfold braceS; rw [if_neg h1, if_pos h2])
      have hr : (hi != lo) = false := by rw [bne_eq_false_iff_eq]; exact h2
      generalize N lo = a at *
      clear h1 h2
      go_enter Tryz.func84, Tryz.ntmps84
      go_wp2_with fail
      refine HL.out.mono ?_
      rintro v w1 ⟨rfl, hb1⟩
      have HB1 := Lib.hid hb1
      clear hb1
      go_wp2
      go_returns
      exact ⟨by rw [HV.out]; rfl, HB1.out⟩
    · have HV := Lib.hid (show braceS N lo hi = (({ data := #[123] } : ByteArray) ++ N lo) ++ (({ data := #[44] } : ByteArray) ++ N hi) ++ { data := #[125] } by unfold braceS; rw [if_neg h1, if_neg h2])
      have hr : (hi != lo) = true := by rw [bne_iff_ne]; exact h2
      generalize N lo = a at *
      generalize N hi = b at *
      clear h1 h2
      go_enter Tryz.func84, Tryz.ntmps84
      go_wp2_with fail
      refine HL.out.mono ?_
      rintro v w1 ⟨rfl, hb1⟩
      have HB1 := Lib.hid hb1
      clear hb1
      go_wp2_with fail
      refine (HH.out _ HB1.out).mono ?_
      rintro v w2 ⟨rfl, hb2⟩
      have HB2 := Lib.hid (HB1.out.trans (hb2.mono HB1.out.size))
      clear hb2
      go_wp2
      go_returns
      exact ⟨by rw [HV.out]; rfl, HB2.out⟩
def quesS (lazy : Bool) (s : ByteArray) : ByteArray := if lazy then s ++ { data := #[63] } else s
set_option maxRecDepth 100000 in
set_option maxHeartbeats 2000000 in
theorem pcount_star (lazy : Bool) (w : World) : Calls Tryz.prog 17 #[.int .i64 0, .int .i64 (-1), .bool lazy] w fun v w' => v = .returned (.string (quesS lazy { data := #[42] })) ∧ w' = w := by
  have e0 : ∀ w, (binOp .eql 32 (.agg #[.int .i64 0, .int .i64 (-1)]) (.agg #[.int .i64 0, .int .i64 (-1)])).run Tryz.prog w = .ok (.bool true) w := fun w => by kernel_rfl
  have e1 : ∀ w, (binOp .eql 32 (.agg #[.int .i64 0, .int .i64 (-1)]) (.agg #[.int .i64 1, .int .i64 (-1)])).run Tryz.prog w = .ok (.bool false) w := fun w => by kernel_rfl
  have e2 : ∀ w, (binOp .eql 32 (.agg #[.int .i64 0, .int .i64 (-1)]) (.agg #[.int .i64 0, .int .i64 1])).run Tryz.prog w = .ok (.bool false) w := fun w => by kernel_rfl
  cases lazy with
  | true =>
    go_enter Tryz.func17, Tryz.ntmps17
    go_wp2
    go_returns
    exact ⟨rfl, rfl⟩
  | false =>
    go_enter Tryz.func17, Tryz.ntmps17
    go_wp2
    go_returns
    exact ⟨rfl, rfl⟩
set_option maxRecDepth 100000 in
set_option maxHeartbeats 2000000 in
theorem pcount_plus (lazy : Bool) (w : World) : Calls Tryz.prog 17 #[.int .i64 1, .int .i64 (-1), .bool lazy] w fun v w' => v = .returned (.string (quesS lazy { data := #[43] })) ∧ w' = w := by
  have e0 : ∀ w, (binOp .eql 32 (.agg #[.int .i64 1, .int .i64 (-1)]) (.agg #[.int .i64 0, .int .i64 (-1)])).run Tryz.prog w = .ok (.bool false) w := fun w => by kernel_rfl
  have e1 : ∀ w, (binOp .eql 32 (.agg #[.int .i64 1, .int .i64 (-1)]) (.agg #[.int .i64 1, .int .i64 (-1)])).run Tryz.prog w = .ok (.bool true) w := fun w => by kernel_rfl
  have e2 : ∀ w, (binOp .eql 32 (.agg #[.int .i64 1, .int .i64 (-1)]) (.agg #[.int .i64 0, .int .i64 1])).run Tryz.prog w = .ok (.bool false) w := fun w => by kernel_rfl
  cases lazy with
  | true =>
    go_enter Tryz.func17, Tryz.ntmps17
    go_wp2
    go_returns
    exact ⟨rfl, rfl⟩
  | false =>
    go_enter Tryz.func17, Tryz.ntmps17
    go_wp2
    go_returns
    exact ⟨rfl, rfl⟩
set_option maxRecDepth 100000 in
set_option maxHeartbeats 2000000 in
theorem pcount_ques (lazy : Bool) (w : World) : Calls Tryz.prog 17 #[.int .i64 0, .int .i64 1, .bool lazy] w fun v w' => v = .returned (.string (quesS lazy { data := #[63] })) ∧ w' = w := by
  have e0 : ∀ w, (binOp .eql 32 (.agg #[.int .i64 0, .int .i64 1]) (.agg #[.int .i64 0, .int .i64 (-1)])).run Tryz.prog w = .ok (.bool false) w := fun w => by kernel_rfl
  have e1 : ∀ w, (binOp .eql 32 (.agg #[.int .i64 0, .int .i64 1]) (.agg #[.int .i64 1, .int .i64 (-1)])).run Tryz.prog w = .ok (.bool false) w := fun w => by kernel_rfl
  have e2 : ∀ w, (binOp .eql 32 (.agg #[.int .i64 0, .int .i64 1]) (.agg #[.int .i64 0, .int .i64 1])).run Tryz.prog w = .ok (.bool true) w := fun w => by kernel_rfl
  cases lazy with
  | true =>
    go_enter Tryz.func17, Tryz.ntmps17
    go_wp2
    go_returns
    exact ⟨rfl, rfl⟩
  | false =>
    go_enter Tryz.func17, Tryz.ntmps17
    go_wp2
    go_returns
    exact ⟨rfl, rfl⟩
theorem run_eq_two (d : Nat) (a0 a1 b0 b1 : Int) (w : World) :
    (Op.equalIn (d + 2) 32 (.agg #[.int .i64 a0, .int .i64 a1]) (.agg #[.int .i64 b0, .int .i64 b1])).run Tryz.prog w = .ok (a0 == b0 && a1 == b1) w := by
  have hs : ∀ w, (sizeOf 3).run Tryz.prog w = .ok 1 w := fun _ => by kernel_rfl
  have hp : ∀ (xs : Array Value) (i : Nat) (v : Value) (w : World), xs[i]? = some v → (part 3 xs i).run Tryz.prog w = .ok v w := by
    intro xs i v w h
    have ha : ∀ w, (isAgg 3).run Tryz.prog w = .ok false w := fun _ => by kernel_rfl
    simp [part, ha, h]
  have he : ∀ (a b : Int) (w : World), (Op.equalIn (d + 1) 3 (.int .i64 a) (.int .i64 b)).run Tryz.prog w = .ok (a == b) w := by
    intro a b w
    simp [Op.equalIn, run_underlying Tryz.underlying3]
  have p0 : ∀ (x0 x1 : Int) (w : World), (part 3 #[.int .i64 x0, .int .i64 x1] 0).run Tryz.prog w = .ok (.int .i64 x0) w := fun _ _ _ => hp _ _ _ _ rfl
  have p1 : ∀ (x0 x1 : Int) (w : World), (part 3 #[.int .i64 x0, .int .i64 x1] 1).run Tryz.prog w = .ok (.int .i64 x1) w := fun _ _ _ => hp _ _ _ _ rfl
  rw [Op.equalIn]
  simp only [Sem.run_bind, run_underlying Tryz.underlying32, Result.andThen_ok, hs]
  simp only [Std.Legacy.Range.forIn_eq_forIn_range', Std.Legacy.Range.size, List.range']
  simp [he, p0, p1]
  by_cases h0 : a0 = b0 <;> by_cases h1 : a1 = b1 <;> simp [h0, h1]
theorem eq_two (a0 a1 b0 b1 : Int) (w : World) : (Op.equalIn 10000 32 (.agg #[.int .i64 a0, .int .i64 a1]) (.agg #[.int .i64 b0, .int .i64 b1])).run Tryz.prog w = .ok (a0 == b0 && a1 == b1) w := run_eq_two 9998 _ _ _ _ w
theorem bin_two (a0 a1 b0 b1 : Int) (w : World) : (binOp .eql 32 (.agg #[.int .i64 a0, .int .i64 a1]) (.agg #[.int .i64 b0, .int .i64 b1])).run Tryz.prog w = .ok (.bool (a0 == b0 && a1 == b1)) w := by
  simp [go_sem, eq_two]
set_option maxRecDepth 100000 in
set_option maxHeartbeats 2000000 in
theorem pcount_else (S : ByteArray) (hS : S.size ≤ 1000) (lo hi : Int) (h0 : (lo == 0 && hi == -1) = false) (h1 : (lo == 1 && hi == -1) = false) (h2 : (lo == 0 && hi == 1) = false) (lazy : Bool) (w : World)
    (hb : Calls Tryz.prog 84 #[.int .i64 lo, .int .i64 hi] w fun v w' => v = .returned (.string S) ∧ Below w.heap.size w w') :
    Calls Tryz.prog 17 #[.int .i64 lo, .int .i64 hi, .bool lazy] w fun v w' => v = .returned (.string (quesS lazy S)) ∧ Below w.heap.size w w' := by
  have e0 : ∀ w, (binOp .eql 32 (.agg #[.int .i64 lo, .int .i64 hi]) (.agg #[.int .i64 0, .int .i64 (-1)])).run Tryz.prog w = .ok (.bool false) w := fun w => by rw [bin_two, h0]
  have e1 : ∀ w, (binOp .eql 32 (.agg #[.int .i64 lo, .int .i64 hi]) (.agg #[.int .i64 1, .int .i64 (-1)])).run Tryz.prog w = .ok (.bool false) w := fun w => by rw [bin_two, h1]
  have e2 : ∀ w, (binOp .eql 32 (.agg #[.int .i64 lo, .int .i64 hi]) (.agg #[.int .i64 0, .int .i64 1])).run Tryz.prog w = .ok (.bool false) w := fun w => by rw [bin_two, h2]
  have HB := Lib.hid hb
  clear hb h0 h1 h2
  cases lazy with
  | true =>
    go_enter Tryz.func17, Tryz.ntmps17
    go_wp2_with fail
    refine HB.out.mono ?_
    rintro v w1 ⟨rfl, hb1⟩
    have HB1 := Lib.hid hb1
    clear hb1
    go_wp2
    go_returns
    exact ⟨rfl, HB1.out⟩
  | false =>
    go_enter Tryz.func17, Tryz.ntmps17
    go_wp2_with fail
    refine HB.out.mono ?_
    rintro v w1 ⟨rfl, hb1⟩
    have HB1 := Lib.hid hb1
    clear hb1
    go_wp2
    go_returns
    exact ⟨rfl, HB1.out⟩
end Go.Proofs.YtpiimcbbgalhfaaGreatDoor
/- printer.Count, of any count that a pattern may have. -/
namespace Go.Proofs.YtpiimcbbgalhfaaGreatDoor
set_option maxRecDepth 100000
open Go.RowKit
theorem itoa_at (n : Int) (h0 : -9223372036854775808 ≤ n) (h1 : n ≤ 9223372036854775807) (w : World) (hT : TabP w) : Calls Tryz.prog 135 #[.int .i64 n] w fun v w' => v = .returned (.string ⟨(Lib.itoa n).toArray⟩) ∧ Below w.heap.size w w' := by
  refine (Tryz.strconv_Itoa n h0 h1 w hT.pow).mono ?_
  rintro v w' ⟨rfl, k, os, rfl⟩
  exact ⟨rfl, Lib.below_grow _ _ (Nat.le_refl _) _ _⟩
abbrev itoaB (n : Int) : ByteArray := ⟨(Lib.itoa n).toArray⟩
theorem itoa_len {n : Int} (h0 : -9223372036854775808 ≤ n) (h1 : n ≤ 9223372036854775807) : (itoaB n).size ≤ 100 := by
  have hd : ∀ u : Nat, u < 10 ^ 20 → (Lib.decDigits u).length ≤ 20 := fun u hu => by
    rw [Lib.decDigits_length]
    rcases Nat.lt_or_ge 20 (Lib.nDigits u) with h | h
    · exfalso
      have hk : ∀ (k u : Nat), k < Lib.nDigits u → 10 ^ k ≤ u ∨ k = 0 := by
        intro k
        induction k with
        | zero => intro u _; exact .inr rfl
        | succ k ih =>
          intro u hlt
          left
          by_cases hs : u < 10
          · rw [Lib.nDigits_small hs] at hlt
            omega
          · rw [Lib.nDigits_big hs] at hlt
            rcases ih (u / 10) (by omega) with h | h
            · rw [Nat.pow_succ]
              have := Nat.mul_le_of_le_div 10 (10 ^ k) u h
              omega
            · subst h
              omega
      rcases hk 20 u h with h | h
      · omega
      · cases h
    · exact h
  show (Lib.itoa n).toArray.size ≤ 100
  rw [List.size_toArray]
  unfold Lib.itoa
  split
  · rw [List.length_cons]
    have := hd n.natAbs (by omega)
    omega
  · have := hd n.toNat (by omega)
    omega
theorem ques_count (lo hi : Int) (z : Bool) (S : ByteArray) (h : (if lo = 0 ∧ hi = -1 then ({ data := #[42] } : ByteArray) else if lo = 1 ∧ hi = -1 then { data := #[43] } else if lo = 0 ∧ hi = 1 then { data := #[63] } else bracesS lo hi) = S) : quesS z S = countS lo hi z := by
  unfold countS quesS
  rw [h]
  cases z with
  | true => rfl
  | false =>
    show S = S ++ { data := #[] }
    apply ByteArray.ext
    rw [ByteArray.data_append]
    simp
theorem brace_same (lo hi : Int) : braceS itoaB lo hi = bracesS lo hi := by
  unfold braceS bracesS
  by_cases h1 : hi = -1
  · rw [if_pos h1, if_pos h1]
  · rw [if_neg h1, if_neg h1]
    by_cases h2 : hi = lo
    · rw [if_pos h2, if_neg (fun h => h h2)]
      apply ByteArray.ext
      simp only [ByteArray.data_append]
      simp
    · rw [if_neg h2, if_pos h2]
/-- printer.Count, of any two numbers. -/
theorem count_any64 (lo hi : Int) (z : Bool) (h1 : -9223372036854775808 ≤ lo ∧ lo ≤ 9223372036854775807) (h2 : -9223372036854775808 ≤ hi ∧ hi ≤ 9223372036854775807) : CntOk lo hi z := by
  intro w hT
  by_cases e0 : lo = 0 ∧ hi = -1
  · obtain ⟨rfl, rfl⟩ := e0
    refine (pcount_star z w).mono ?_
    rintro v w' ⟨rfl, rfl⟩
    exact ⟨by rw [ques_count 0 (-1) z _ (by rw [if_pos ⟨rfl, rfl⟩])], Below.refl _ _⟩
  by_cases e1 : lo = 1 ∧ hi = -1
  · obtain ⟨rfl, rfl⟩ := e1
    refine (pcount_plus z w).mono ?_
    rintro v w' ⟨rfl, rfl⟩
    exact ⟨by rw [ques_count 1 (-1) z _ (by rw [if_neg (by decide), if_pos ⟨rfl, rfl⟩])], Below.refl _ _⟩
  by_cases e2 : lo = 0 ∧ hi = 1
  · obtain ⟨rfl, rfl⟩ := e2
    refine (pcount_ques z w).mono ?_
    rintro v w' ⟨rfl, rfl⟩
    exact ⟨by rw [ques_count 0 1 z _ (by rw [if_neg (by decide), if_neg (by decide), if_pos ⟨rfl, rfl⟩])], Below.refl _ _⟩
  have b0 : ∀ a b : Int, ¬(lo = a ∧ hi = b) → (lo == a && hi == b) = false := fun a b h => by
    rw [Bool.and_eq_false_iff, beq_eq_false_iff_ne, beq_eq_false_iff_ne]
    by_cases ha : lo = a
    · exact .inr fun hb => h ⟨ha, hb⟩
    · exact .inl ha
  have hl := itoa_len h1.1 h1.2
  have hh := itoa_len h2.1 h2.2
  have hsz : (braceS itoaB lo hi).size ≤ 1000 := by
    have s1 : ({ data := #[123] } : ByteArray).size = 1 := rfl
    have s2 : ({ data := #[44] } : ByteArray).size = 1 := rfl
    have s3 : ({ data := #[125] } : ByteArray).size = 1 := rfl
    unfold braceS
    split
    · simp only [ByteArray.size_append]
      omega
    · split
      · simp only [ByteArray.size_append]
        omega
      · simp only [ByteArray.size_append]
        omega
  have hb := pbraces_at itoaB lo hi hl hh w (fun W hW => itoa_at lo h1.1 h1.2 W (hT.below hW)) (fun W hW => itoa_at hi h2.1 h2.2 W (hT.below hW))
  refine (pcount_else _ hsz lo hi (b0 0 (-1) e0) (b0 1 (-1) e1) (b0 0 1 e2) z w hb).mono ?_
  rintro v w' ⟨rfl, hb'⟩
  exact ⟨by rw [ques_count lo hi z (braceS itoaB lo hi) (by rw [if_neg e0, if_neg e1, if_neg e2, brace_same])], hb'⟩
theorem count_ok : ∀ lo hi z, 0 ≤ lo ∧ lo ≤ 1000 → (hi = -1 ∨ (lo ≤ hi ∧ hi ≤ 1000)) → CntOk lo hi z := fun lo hi z h1 h2 => count_any64 lo hi z ⟨by omega, by omega⟩ ⟨by omega, by omega⟩
end Go.Proofs.YtpiimcbbgalhfaaGreatDoor
