/- The reference of layer 2: Number: the digits. -/
import Derived.Test.YtpiimcbbgalhfaaGreatDoorBw
import Derived.Lib.ItoaMem
namespace Go.Proofs.YtpiimcbbgalhfaaGreatDoor
set_option maxRecDepth 100000
open Go.RowKit
abbrev tL (s : ByteArray) : List UInt8 := s.data.toList
/-- What is told so far, and what is still to be told. -/
def NumInv (u q : Nat) (S : ByteArray) : Prop := (S = { data := #[] } ∧ q = u) ∨ (0 < S.size ∧ ((0 < q ∧ Lib.decDigits u = Lib.decDigits q ++ tL S) ∨ (q = 0 ∧ Lib.decDigits u = tL S)))
theorem num_size {u q : Nat} {S : ByteArray} (h : NumInv u q S) : S.size ≤ (Lib.decDigits u).length := by
  have e : S.size = (tL S).length := by rw [Array.length_toList]; rfl
  rcases h with ⟨rfl, -⟩ | ⟨-, ⟨-, h⟩ | ⟨-, h⟩⟩
  · exact Nat.zero_le _
  · rw [h, List.length_append, e]
    omega
  · rw [h, e]
    exact Nat.le_refl _
abbrev oneD (c : Nat) : ByteArray := { data := #[c.toUInt8] }
theorem num_step {u q : Nat} {S : ByteArray} (h : NumInv u q S) (hgo : S = { data := #[] } ∨ 0 < q) : NumInv u (q / 10) (oneD (48 + q % 10) ++ S) := by
  have hsz : (oneD (48 + q % 10) ++ S).size = 1 + S.size := by rw [ByteArray.size_append]; rfl
  have htl : tL (oneD (48 + q % 10) ++ S) = (48 + q % 10).toUInt8 :: tL S := by simp [tL, ByteArray.data_append]
  refine .inr ⟨by omega, ?_⟩
  rw [htl]
  have key : Lib.decDigits u = Lib.decDigits q ++ tL S := by
    rcases h with ⟨rfl, rfl⟩ | ⟨hs, ⟨-, h⟩ | ⟨rfl, h⟩⟩
    · simp [tL]
    · exact h
    · rcases hgo with rfl | hgo
      · exact absurd hs (by decide)
      · omega
  rw [key]
  by_cases hq : q < 10
  · right
    refine ⟨by omega, ?_⟩
    rw [Lib.decDigits, dif_pos hq, Nat.mod_eq_of_lt hq]
    rfl
  · left
    refine ⟨by omega, ?_⟩
    rw [Lib.decDigits, dif_neg hq, List.append_assoc]
    rfl
theorem num_end {u : Nat} {S : ByteArray} (h : NumInv u 0 S) (hS : S ≠ { data := #[] }) : S = ⟨(Lib.decDigits u).toArray⟩ := by
  rcases h with ⟨h, -⟩ | ⟨-, ⟨h, -⟩ | ⟨-, h⟩⟩
  · exact absurd h hS
  · omega
  · apply ByteArray.ext
    rw [h]
theorem dec_len (u : Nat) (h : u ≤ 9223372036854775808) : (Lib.decDigits u).length ≤ 25 := by
  have key : ∀ (k u : Nat), u < 10 ^ (k + 1) → (Lib.decDigits u).length ≤ k + 1 := by
    intro k
    induction k with
    | zero =>
      intro u hu
      rw [Lib.decDigits, dif_pos (by omega)]
      exact Nat.le_refl _
    | succ k ih =>
      intro u hu
      rw [Lib.decDigits]
      split
      · simp
      · have := ih (u / 10) (by rw [Nat.pow_succ] at hu; omega)
        rw [List.length_append, List.length_singleton]
        omega
  exact key 24 u (Nat.lt_of_le_of_lt h (by decide))
theorem str_ne {S : ByteArray} (h : S ≠ { data := #[] }) : (S.toList == []) = false := by
  rw [beq_eq_false_iff_ne]
  intro e
  apply h
  have hl : ∀ (n i : Nat) (r : List UInt8), n = S.size - i → ByteArray.toList.loop S i r = r.reverse ++ S.data.toList.drop i := by
    intro n
    induction n with
    | zero =>
      intro i r hn
      unfold ByteArray.toList.loop
      rw [if_neg (by omega), List.drop_eq_nil_of_le (by rw [Array.length_toList]; exact (by omega : S.size ≤ i))]
      simp
    | succ n ih =>
      intro i r hn
      have hi : i < S.size := by omega
      have hi2 : i < S.data.toList.length := by rw [Array.length_toList]; exact hi
      unfold ByteArray.toList.loop
      rw [if_pos hi, ih (i + 1) _ (by omega), List.drop_eq_getElem_cons hi2]
      simp [ByteArray.get!, hi]
  have h2 : S.toList = S.data.toList := by
    rw [ByteArray.toList, hl _ 0 [] rfl]
    simp
  rw [h2] at e
  exact ByteArray.ext (by simpa using e)
set_option maxHeartbeats 4000000 in
theorem rnum_nat (u : Nat) (hu : u ≤ 9223372036854775807) (w : World) : Calls Tryz.prog 85 #[.int .i64 ((u : Nat) : Int)] w fun v w' => v = .returned (.string ⟨(Lib.decDigits u).toArray⟩) ∧ Below w.heap.size w w' := by
  have hlen := dec_len u (by omega)
  have HL := Lib.hid hlen
  go_enter Tryz.func85, Tryz.ntmps85
  go_wp2_with fail
  go_loopw [0, 3] (fun nv sv wr => ∃ (q : Nat) (S : ByteArray), q ≤ u ∧ nv = .int .i64 ((q : Nat) : Int) ∧ sv = .string S ∧ Hid (NumInv u q S) ∧ Below w.heap.size w wr) (fun nv sv _ => 2 * (intOf nv).toNat + match sv with | .string s => (if s.size = 0 then 1 else 0) | _ => 0)
  case atStart => exact ⟨u, { data := #[] }, Nat.le_refl _, rfl, rfl, Lib.hid (.inl ⟨rfl, rfl⟩), Below.refl _ _⟩
  case round =>
    obtain ⟨q, S, hq, rfl, rfl, HI, hbw⟩ := hrel
    have HB := Lib.hid hbw
    have hsz := num_size HI.out
    clear hbw
    have hrem : Int.tmod ((q : Nat) : Int) 10 = ((q % 10 : Nat) : Int) := rfl
    have hquo : ((q : Nat) : Int) / 10 = ((q / 10 : Nat) : Int) := by omega
    have hwq : IntKind.i64.wrap ((q / 10 : Nat) : Int) = ((q / 10 : Nat) : Int) := IntWalk.i64_in _ (by omega)
    have hm : q % 10 < 10 := Nat.mod_lt _ (by omega)
    obtain ⟨c, hc⟩ : ∃ c, 48 + q % 10 = c := ⟨_, rfl⟩
    have hw8 : IntKind.u8.wrap (48 + ((q % 10 : Nat) : Int)) = ((c : Nat) : Int) := by
      rw [show IntKind.u8.wrap (48 + ((q % 10 : Nat) : Int)) = (48 + ((q % 10 : Nat) : Int)) % 256 from rfl]
      omega
    have hstr := str1 c (by omega) wr
    have hq10 : q / 10 ≤ u := by omega
    have hqm : q = 0 ∨ q / 10 < q := by omega
    have HST := Lib.hid (fun h => hc ▸ num_step HI.out h : S = { data := #[] } ∨ 0 < q → NumInv u (q / 10) (oneD c ++ S))
    have HAL := Lib.hid (HB.out.alloc HB.out.size (.cells #[.int .u8 ((c : Nat) : Int)] 5))
    clear hc
    by_cases hS : S = { data := #[] }
    · subst hS
      have HS2 := Lib.hid (HST.out (.inl rfl))
      clear HST
      generalize q / 10 = q1 at *
      generalize hmm : q % 10 = m at *
      clear hmm
      go_wp2_with (first | simp only [hstr] | fail)
      go_roundw
      case rel => exact ⟨q1, _, hq10, by go_num, rfl, HS2, HAL.out⟩
      case measure =>
        simp [intOf, ByteArray.size]
        omega
    · by_cases h0 : q = 0
      · subst h0
        have HE := Lib.hid (num_end HI.out hS)
        have hne := str_ne hS
        clear HST hS
        go_wp2_with fail
        go_returns
        exact ⟨by rw [HE.out]; rfl, HB.out⟩
      · have HS2 := Lib.hid (HST.out (.inr (by omega)))
        have hne := str_ne hS
        have hpos : decide ((0 : Int) < ((q : Nat) : Int)) = true := decide_eq_true (by omega)
        have hss : ¬S.size = 0 := fun e => hS (by
          apply ByteArray.ext
          exact Array.eq_empty_of_size_eq_zero e)
        clear HST hS
        generalize hqq : q / 10 = q1 at *
        generalize hmm : q % 10 = m at *
        have HQQ := Lib.hid hqq
        clear hmm hqq
        go_wp2_with (first | simp only [hstr] | fail)
        go_roundw
        case rel => exact ⟨q1, _, hq10, by go_num, rfl, HS2, HAL.out⟩
        case measure =>
          have hsz2 : ¬(oneD c ++ S).size = 0 := by
            rw [ByteArray.size_append]
            show ¬1 + S.size = 0
            omega
          show 2 * (((q1 : Nat) : Int)).toNat + (if (oneD c ++ S).size = 0 then 1 else 0) < 2 * (((q : Nat) : Int)).toNat + (if S.size = 0 then 1 else 0)
          rw [if_neg hsz2, if_neg hss]
          omega
/-- Number, of any number: as Itoa tells it. -/
theorem rnum_at (n : Int) (h0 : -9223372036854775808 ≤ n) (h1 : n ≤ 9223372036854775807) (w : World) : Calls Tryz.prog 85 #[.int .i64 n] w fun v w' => v = .returned (.string ⟨(Lib.itoa n).toArray⟩) ∧ Below w.heap.size w w' := by
  by_cases hneg : n < 0
  · by_cases hmin : n = -9223372036854775808
    · subst hmin
      have hd : (Lib.itoa (-9223372036854775808)) = [45, 57, 50, 50, 51, 51, 55, 50, 48, 51, 54, 56, 53, 52, 55, 55, 53, 56, 48, 56] := by
        unfold Lib.itoa
        rw [if_pos (by decide)]
        congr 1
        show Lib.decDigits 9223372036854775808 = _
        rw [Lib.decDigits_eq]
        have hn : Lib.nDigits 9223372036854775808 = 19 := by
          repeat first | rw [Lib.nDigits_small (by decide)] | rw [Lib.nDigits_big (by decide)]
        rw [hn]
        rfl
      have HV := Lib.hid (show (⟨(Lib.itoa (-9223372036854775808)).toArray⟩ : ByteArray) = { data := #[45, 57, 50, 50, 51, 51, 55, 50, 48, 51, 54, 56, 53, 52, 55, 55, 53, 56, 48, 56] } by rw [hd])
      rw [HV.out]
      go_enter Tryz.func85, Tryz.ntmps85
      go_wp2
      go_returns
      exact ⟨rfl, Below.refl _ _⟩
    · obtain ⟨u, hu⟩ : ∃ u : Nat, n = -((u : Nat) : Int) := ⟨n.natAbs, by omega⟩
      have hu1 : 1 ≤ u ∧ u ≤ 9223372036854775807 := by omega
      have HR := Lib.hid (rnum_nat u (by omega))
      have hlen := dec_len u (by omega)
      have HV := Lib.hid (show (⟨(Lib.itoa n).toArray⟩ : ByteArray) = ({ data := #[45] } : ByteArray) ++ ⟨(Lib.decDigits u).toArray⟩ by
        rw [hu, Lib.itoa_neg u hu1.1]
        apply ByteArray.ext
        rw [ByteArray.data_append]
        simp)
      rw [HV.out]
      have hS : (⟨(Lib.decDigits u).toArray⟩ : ByteArray).size ≤ 25 := by
        show (Lib.decDigits u).toArray.size ≤ 25
        rw [List.size_toArray]
        exact hlen
      generalize (⟨(Lib.decDigits u).toArray⟩ : ByteArray) = S at *
      have hlt : decide (n < 0) = true := decide_eq_true hneg
      have hne : (n == -9223372036854775808) = false := beq_eq_false_iff_ne.2 hmin
      have hwn : IntKind.i64.wrap (-n) = ((u : Nat) : Int) := by
        rw [IntWalk.i64_in _ (by omega)]
        omega
      have n1 : ¬9223372036854775807 < 1 + S.size := by omega
      have n2 : ¬9223372036854775807 < S.size + 1 := by omega
      clear hu hneg hmin HV
      go_enter Tryz.func85, Tryz.ntmps85
      go_wp2_with fail
      refine (HR.out _).mono ?_
      rintro v w1 ⟨rfl, hb⟩
      go_wp2
      go_returns
      exact ⟨rfl, hb⟩
  · obtain ⟨u, rfl⟩ := Int.eq_ofNat_of_zero_le (show 0 ≤ n by omega)
    rw [Lib.itoa_nonneg]
    exact rnum_nat u (by omega) w
end Go.Proofs.YtpiimcbbgalhfaaGreatDoor
/- The reference of layer 7: in, Byte. -/
namespace Go.Proofs.YtpiimcbbgalhfaaGreatDoor
set_option maxRecDepth 100000
open Go.RowKit
def inS (s : ByteArray) (b : Int) : Bool := s.data.toList.any fun c => ((c.toNat : Nat) : Int) == b
set_option maxHeartbeats 2000000 in
theorem refin_at (s : ByteArray) (b : Int) (w : World) (hs : s.size ≤ 1000000000) : Calls Tryz.prog 81 #[.string s, .int .i64 b] w fun e w' => e = .returned (.bool (inS s b)) ∧ w' = w := by
  have HSL := Lib.hid (show s.data.toList.length = s.size by rw [Array.length_toList]; rfl)
  go_enter Tryz.func81, Tryz.ntmps81
  go_wp2_with fail
  go_loopw [5] (fun iv wr => ∃ n : Nat, n ≤ s.size ∧ iv = .int .i64 ((n : Nat) : Int) ∧ wr = w ∧ Hid (∀ c ∈ s.data.toList.take n, (((c.toNat : Nat) : Int) == b) = false)) (fun iv _ => s.size - (intOf iv).toNat)
  case atStart => exact ⟨0, Nat.zero_le _, rfl, rfl, Lib.hid (fun c hc => by simp at hc)⟩
  case round =>
    obtain ⟨n, hn, rfl, rfl, HA⟩ := hrel
    by_cases hlt : n < s.size
    · have hsp : s.data.toList[n]? = some s[n] := by
        rw [List.getElem?_eq_getElem (by simpa using hlt)]
        rfl
      obtain ⟨y, hy⟩ : ∃ y, ((((s[n].toNat : Nat) : Int)) == b) = y := ⟨_, rfl⟩
      have HSP := Lib.hid hsp
      have HY := Lib.hid hy
      have hwr : wrap64 ((s[n].toNat : Nat) : Int) = ((s[n].toNat : Nat) : Int) := by have := s[n].toNat_lt; unfold wrap64; omega
      have hd2 : ((n : Nat) : Int) < ((s.size : Nat) : Int) := by omega
      clear hsp
      cases y with
      | true =>
        go_wp2
        go_returns
        refine ⟨?_, rfl⟩
        have : inS s b = true := by
          unfold inS
          rw [List.any_eq_true]
          exact ⟨s[n], List.mem_of_getElem? HSP.out, HY.out⟩
        rw [this]
        rfl
      | false =>
        go_wp2
        go_roundw
        case rel =>
          refine ⟨n + 1, hlt, by go_num, by first | rfl | trivial, Lib.hid (fun c hc => ?_)⟩
          rw [List.take_add_one, HSP.out, List.mem_append] at hc
          rcases hc with hc | hc
          · exact HA.out c hc
          · simp only [Option.toList_some, List.mem_singleton] at hc
            rw [hc]; exact HY.out
        case measure => simp [intOf]; omega
    · obtain rfl : n = s.size := by omega
      go_wp2
      go_returns
      refine ⟨?_, rfl⟩
      have : inS s b = false := by
        unfold inS
        rw [List.any_eq_false]
        intro c hc
        have := HA.out c (by rw [← HSL.out, List.take_length]; exact hc)
        simp [this]
      rw [this]
      rfl
set_option maxRecDepth 100000 in
/-- Byte, told: which bytes stand for themselves, which behind a backslash. -/
theorem in_itself : ∀ c : Fin 256, ((decide (48 ≤ ((c.val : Nat) : Int)) && decide (((c.val : Nat) : Int) ≤ 57)) || (decide (97 ≤ ((c.val : Nat) : Int)) && decide (((c.val : Nat) : Int) ≤ 122)) || (decide (65 ≤ ((c.val : Nat) : Int)) && decide (((c.val : Nat) : Int) ≤ 90)) || inS { data := #[32, 33, 34, 35, 37, 38, 39, 44, 58, 59, 60, 61, 62, 64, 95, 126] } ((c.val : Nat) : Int) || (((c.val : Nat) : Int) == 96)) = (letB c.val || pselfL.contains c.val) := by decide
set_option maxRecDepth 100000 in
theorem in_special : ∀ c : Fin 256, inS { data := #[92, 124, 40, 41, 91, 93, 123, 125, 42, 43, 63, 46, 94, 36, 47, 45] } ((c.val : Nat) : Int) = pspecL.contains c.val := by decide
set_option maxRecDepth 100000 in
theorem alnum_self : ∀ c : Fin 256, ((48 ≤ c.val ∧ c.val ≤ 57) ∨ (97 ≤ c.val ∧ c.val ≤ 122) ∨ (65 ≤ c.val ∧ c.val ≤ 90)) → (letB c.val || pselfL.contains c.val) = true := by decide
set_option maxRecDepth 100000 in
theorem other_self : ∀ c : Fin 256, ¬((48 ≤ c.val ∧ c.val ≤ 57) ∨ (97 ≤ c.val ∧ c.val ≤ 122) ∨ (65 ≤ c.val ∧ c.val ≤ 90)) → (letB c.val || pselfL.contains c.val) = (inS { data := #[32, 33, 34, 35, 37, 38, 39, 44, 58, 59, 60, 61, 62, 64, 95, 126] } ((c.val : Nat) : Int) || (c.val == 96)) := by decide
theorem idx_digit64 (n : Nat) (h : n < 16) (w : World) : (Instr.index 9 (.string { data := #[48, 49, 50, 51, 52, 53, 54, 55, 56, 57, 97, 98, 99, 100, 101, 102] }) (.int .i64 ((n : Nat) : Int))).run Tryz.prog w = .ok (.int .u8 (((hexD n).toNat : Nat) : Int)) w :=
  match n, h with
  | 0, _ => by kernel_rfl
  | 1, _ => by kernel_rfl
  | 2, _ => by kernel_rfl
  | 3, _ => by kernel_rfl
  | 4, _ => by kernel_rfl
  | 5, _ => by kernel_rfl
  | 6, _ => by kernel_rfl
  | 7, _ => by kernel_rfl
  | 8, _ => by kernel_rfl
  | 9, _ => by kernel_rfl
  | 10, _ => by kernel_rfl
  | 11, _ => by kernel_rfl
  | 12, _ => by kernel_rfl
  | 13, _ => by kernel_rfl
  | 14, _ => by kernel_rfl
  | 15, _ => by kernel_rfl
  | n + 16, h => absurd h (by omega)
set_option maxHeartbeats 8000000 in
theorem refbyte_d (b : Nat) (hb : b < 256) (w : World) (hc : 48 ≤ b ∧ b ≤ 57) : Calls Tryz.prog 15 #[.int .i64 ((b : Nat) : Int)] w fun v w' => v = .returned (.string (byteS b)) ∧ Below w.heap.size w w' := by
  have HV := Lib.hid (show byteS b = { data := #[b.toUInt8] } by unfold byteS; rw [if_pos (alnum_self ⟨b, hb⟩ (by simp only []; omega))])
  have hq := str1 b hb
  have HB0 := Lib.hid (((Below.refl w.heap.size w).alloc (Nat.le_refl _) (.cells #[.int .u8 ((b : Nat) : Int)] 5)))
  have hw8 : IntKind.u8.wrap ((b : Nat) : Int) = ((b : Nat) : Int) := by
    rw [show IntKind.u8.wrap ((b : Nat) : Int) = ((b : Nat) : Int) % 256 from rfl]; omega
  go_enter Tryz.func15, Tryz.ntmps15
  go_wp2_with (first | simp only [hq] | fail)
  go_returns
  exact ⟨by rw [HV.out]; rfl, HB0.out⟩
set_option maxHeartbeats 8000000 in
theorem refbyte_l (b : Nat) (hb : b < 256) (w : World) (hc : 97 ≤ b ∧ b ≤ 122) : Calls Tryz.prog 15 #[.int .i64 ((b : Nat) : Int)] w fun v w' => v = .returned (.string (byteS b)) ∧ Below w.heap.size w w' := by
  have HV := Lib.hid (show byteS b = { data := #[b.toUInt8] } by unfold byteS; rw [if_pos (alnum_self ⟨b, hb⟩ (by simp only []; omega))])
  have hq := str1 b hb
  have HB0 := Lib.hid (((Below.refl w.heap.size w).alloc (Nat.le_refl _) (.cells #[.int .u8 ((b : Nat) : Int)] 5)))
  have hw8 : IntKind.u8.wrap ((b : Nat) : Int) = ((b : Nat) : Int) := by
    rw [show IntKind.u8.wrap ((b : Nat) : Int) = ((b : Nat) : Int) % 256 from rfl]; omega
  go_enter Tryz.func15, Tryz.ntmps15
  go_wp2_with (first | simp only [hq] | fail)
  go_returns
  exact ⟨by rw [HV.out]; rfl, HB0.out⟩
set_option maxHeartbeats 8000000 in
theorem refbyte_u (b : Nat) (hb : b < 256) (w : World) (hc : 65 ≤ b ∧ b ≤ 90) : Calls Tryz.prog 15 #[.int .i64 ((b : Nat) : Int)] w fun v w' => v = .returned (.string (byteS b)) ∧ Below w.heap.size w w' := by
  have HV := Lib.hid (show byteS b = { data := #[b.toUInt8] } by unfold byteS; rw [if_pos (alnum_self ⟨b, hb⟩ (by simp only []; omega))])
  have hq := str1 b hb
  have HB0 := Lib.hid (((Below.refl w.heap.size w).alloc (Nat.le_refl _) (.cells #[.int .u8 ((b : Nat) : Int)] 5)))
  have hw8 : IntKind.u8.wrap ((b : Nat) : Int) = ((b : Nat) : Int) := by
    rw [show IntKind.u8.wrap ((b : Nat) : Int) = ((b : Nat) : Int) % 256 from rfl]; omega
  go_enter Tryz.func15, Tryz.ntmps15
  go_wp2_with (first | simp only [hq] | fail)
  go_returns
  exact ⟨by rw [HV.out]; rfl, HB0.out⟩
set_option maxRecDepth 100000 in
set_option maxHeartbeats 8000000 in
theorem refbyte_p (b : Nat) (hb : b < 256) (w : World) (hc : b < 48) : Calls Tryz.prog 15 #[.int .i64 ((b : Nat) : Int)] w fun v w' => v = .returned (.string (byteS b)) ∧ Below w.heap.size w w' := by
  have HI := Lib.hid (other_self ⟨b, hb⟩ (by simp only []; omega))
  have HS := Lib.hid (in_special ⟨b, hb⟩)
  have HV := Lib.hid (show byteS b = if letB b || pselfL.contains b then { data := #[b.toUInt8] } else if pspecL.contains b then { data := #[92, b.toUInt8] } else { data := #[92, 120, hexD (b / 16), hexD (b % 16)] } from rfl)
  simp only [] at HI HS
  have hq := str1 b hb
  have HB0 := Lib.hid (((Below.refl w.heap.size w).alloc (Nat.le_refl _) (.cells #[.int .u8 ((b : Nat) : Int)] 5)))
  have hw8 : IntKind.u8.wrap ((b : Nat) : Int) = ((b : Nat) : Int) := by
    rw [show IntKind.u8.wrap ((b : Nat) : Int) = ((b : Nat) : Int) % 256 from rfl]; omega
  have H1 := Lib.hid (fun W => refin_at { data := #[32, 33, 34, 35, 37, 38, 39, 44, 58, 59, 60, 61, 62, 64, 95, 126] } ((b : Nat) : Int) W (by decide))
  have H2 := Lib.hid (fun W => refin_at { data := #[92, 124, 40, 41, 91, 93, 123, 125, 42, 43, 63, 46, 94, 36, 47, 45] } ((b : Nat) : Int) W (by decide))
  rw [HI.out] at HV
  rw [HS.out] at H2
  generalize inS _ ((b : Nat) : Int) = y at *
  generalize pspecL.contains b = z at *
  go_enter Tryz.func15, Tryz.ntmps15
  go_wp2_with (first | simp only [hq] | fail)
  refine (H1.out _).mono ?_
  rintro v w1 ⟨rfl, rfl⟩
  cases y with
  | true =>
    go_wp2
    go_returns
    exact ⟨by rw [HV.out]; rfl, HB0.out⟩
  | false =>
    by_cases h96 : b = 96
    · subst h96
      go_wp2
      go_returns
      exact ⟨by rw [HV.out]; rfl, HB0.out⟩
    · have hn : (((b : Nat) : Int) == 96) = false := by rw [beq_eq_false_iff_ne]; omega
      have hn2 : (b == 96) = false := by rw [beq_eq_false_iff_ne]; exact h96
      rw [hn2] at HV
      go_wp2_with fail
      refine (H2.out _).mono ?_
      rintro v w1 ⟨rfl, rfl⟩
      cases z with
      | true =>
        go_wp2
        go_returns
        exact ⟨by rw [HV.out]; rfl, HB0.out⟩
      | false =>
        have hdiv : ((b : Nat) : Int) / 16 = ((b / 16 : Nat) : Int) := by omega
        have hwp : IntKind.i64.wrap ((b / 16 : Nat) : Int) = ((b / 16 : Nat) : Int) := IntWalk.i64_in _ (by omega)
        have htm : Int.tmod ((b : Nat) : Int) 16 = ((b % 16 : Nat) : Int) := rfl
        have hp16 : b / 16 < 16 := by omega
        have hq16 : b % 16 < 16 := by omega
        generalize w.alloc _ = w2 at *
        clear hq
        generalize b / 16 = p at *
        generalize b % 16 = q at *
        have hi1 := idx_digit64 p hp16
        have hi2 := idx_digit64 q hq16
        generalize hexD p = c at *
        generalize hexD q = d at *
        have hcv := str2 c d
        obtain ⟨cn, hcn⟩ : ∃ cn : Nat, c.toNat = cn := ⟨_, rfl⟩
        obtain ⟨dn, hdn⟩ : ∃ dn : Nat, d.toNat = dn := ⟨_, rfl⟩
        rw [hcn] at hi1 hcv
        rw [hdn] at hi2 hcv
        go_wp2_with fail
        refine wp_region_still_tail 6 (by kernel_rfl) (by kernel_rfl) ?_
        simp only [List.take_succ_cons, List.take_zero, List.drop_succ_cons, List.drop_zero]
        repeat still_step
        refine wpStill_nil ?_
        change wpList _ _ _ _ _ w2.drew
        have HB2 := Lib.hid HB0.out.drew
        generalize w2.drew = w3 at *
        have HB3 := Lib.hid (HB2.out.trans (((Below.refl w3.heap.size w3).alloc (Nat.le_refl _) (.cells #[.int .u8 ((cn : Nat) : Int), .int .u8 ((dn : Nat) : Int)] 5)).mono HB2.out.size))
        go_wp2_with (first | simp only [hcv] | fail)
        go_returns
        exact ⟨by rw [HV.out]; rfl, HB3.out⟩
set_option maxRecDepth 100000 in
set_option maxHeartbeats 8000000 in
theorem refbyte_q (b : Nat) (hb : b < 256) (w : World) (hc : 57 < b ∧ b < 65) : Calls Tryz.prog 15 #[.int .i64 ((b : Nat) : Int)] w fun v w' => v = .returned (.string (byteS b)) ∧ Below w.heap.size w w' := by
  have HI := Lib.hid (other_self ⟨b, hb⟩ (by simp only []; omega))
  have HS := Lib.hid (in_special ⟨b, hb⟩)
  have HV := Lib.hid (show byteS b = if letB b || pselfL.contains b then { data := #[b.toUInt8] } else if pspecL.contains b then { data := #[92, b.toUInt8] } else { data := #[92, 120, hexD (b / 16), hexD (b % 16)] } from rfl)
  simp only [] at HI HS
  have hq := str1 b hb
  have HB0 := Lib.hid (((Below.refl w.heap.size w).alloc (Nat.le_refl _) (.cells #[.int .u8 ((b : Nat) : Int)] 5)))
  have hw8 : IntKind.u8.wrap ((b : Nat) : Int) = ((b : Nat) : Int) := by
    rw [show IntKind.u8.wrap ((b : Nat) : Int) = ((b : Nat) : Int) % 256 from rfl]; omega
  have H1 := Lib.hid (fun W => refin_at { data := #[32, 33, 34, 35, 37, 38, 39, 44, 58, 59, 60, 61, 62, 64, 95, 126] } ((b : Nat) : Int) W (by decide))
  have H2 := Lib.hid (fun W => refin_at { data := #[92, 124, 40, 41, 91, 93, 123, 125, 42, 43, 63, 46, 94, 36, 47, 45] } ((b : Nat) : Int) W (by decide))
  rw [HI.out] at HV
  rw [HS.out] at H2
  generalize inS _ ((b : Nat) : Int) = y at *
  generalize pspecL.contains b = z at *
  go_enter Tryz.func15, Tryz.ntmps15
  go_wp2_with (first | simp only [hq] | fail)
  refine (H1.out _).mono ?_
  rintro v w1 ⟨rfl, rfl⟩
  cases y with
  | true =>
    go_wp2
    go_returns
    exact ⟨by rw [HV.out]; rfl, HB0.out⟩
  | false =>
    by_cases h96 : b = 96
    · subst h96
      go_wp2
      go_returns
      exact ⟨by rw [HV.out]; rfl, HB0.out⟩
    · have hn : (((b : Nat) : Int) == 96) = false := by rw [beq_eq_false_iff_ne]; omega
      have hn2 : (b == 96) = false := by rw [beq_eq_false_iff_ne]; exact h96
      rw [hn2] at HV
      go_wp2_with fail
      refine (H2.out _).mono ?_
      rintro v w1 ⟨rfl, rfl⟩
      cases z with
      | true =>
        go_wp2
        go_returns
        exact ⟨by rw [HV.out]; rfl, HB0.out⟩
      | false =>
        have hdiv : ((b : Nat) : Int) / 16 = ((b / 16 : Nat) : Int) := by omega
        have hwp : IntKind.i64.wrap ((b / 16 : Nat) : Int) = ((b / 16 : Nat) : Int) := IntWalk.i64_in _ (by omega)
        have htm : Int.tmod ((b : Nat) : Int) 16 = ((b % 16 : Nat) : Int) := rfl
        have hp16 : b / 16 < 16 := by omega
        have hq16 : b % 16 < 16 := by omega
        generalize w.alloc _ = w2 at *
        clear hq
        generalize b / 16 = p at *
        generalize b % 16 = q at *
        have hi1 := idx_digit64 p hp16
        have hi2 := idx_digit64 q hq16
        generalize hexD p = c at *
        generalize hexD q = d at *
        have hcv := str2 c d
        obtain ⟨cn, hcn⟩ : ∃ cn : Nat, c.toNat = cn := ⟨_, rfl⟩
        obtain ⟨dn, hdn⟩ : ∃ dn : Nat, d.toNat = dn := ⟨_, rfl⟩
        rw [hcn] at hi1 hcv
        rw [hdn] at hi2 hcv
        go_wp2_with fail
        refine wp_region_still_tail 6 (by kernel_rfl) (by kernel_rfl) ?_
        simp only [List.take_succ_cons, List.take_zero, List.drop_succ_cons, List.drop_zero]
        repeat still_step
        refine wpStill_nil ?_
        change wpList _ _ _ _ _ w2.drew
        have HB2 := Lib.hid HB0.out.drew
        generalize w2.drew = w3 at *
        have HB3 := Lib.hid (HB2.out.trans (((Below.refl w3.heap.size w3).alloc (Nat.le_refl _) (.cells #[.int .u8 ((cn : Nat) : Int), .int .u8 ((dn : Nat) : Int)] 5)).mono HB2.out.size))
        go_wp2_with (first | simp only [hcv] | fail)
        go_returns
        exact ⟨by rw [HV.out]; rfl, HB3.out⟩
set_option maxRecDepth 100000 in
set_option maxHeartbeats 8000000 in
theorem refbyte_r (b : Nat) (hb : b < 256) (w : World) (hc : 90 < b ∧ b < 97) : Calls Tryz.prog 15 #[.int .i64 ((b : Nat) : Int)] w fun v w' => v = .returned (.string (byteS b)) ∧ Below w.heap.size w w' := by
  have HI := Lib.hid (other_self ⟨b, hb⟩ (by simp only []; omega))
  have HS := Lib.hid (in_special ⟨b, hb⟩)
  have HV := Lib.hid (show byteS b = if letB b || pselfL.contains b then { data := #[b.toUInt8] } else if pspecL.contains b then { data := #[92, b.toUInt8] } else { data := #[92, 120, hexD (b / 16), hexD (b % 16)] } from rfl)
  simp only [] at HI HS
  have hq := str1 b hb
  have HB0 := Lib.hid (((Below.refl w.heap.size w).alloc (Nat.le_refl _) (.cells #[.int .u8 ((b : Nat) : Int)] 5)))
  have hw8 : IntKind.u8.wrap ((b : Nat) : Int) = ((b : Nat) : Int) := by
    rw [show IntKind.u8.wrap ((b : Nat) : Int) = ((b : Nat) : Int) % 256 from rfl]; omega
  have H1 := Lib.hid (fun W => refin_at { data := #[32, 33, 34, 35, 37, 38, 39, 44, 58, 59, 60, 61, 62, 64, 95, 126] } ((b : Nat) : Int) W (by decide))
  have H2 := Lib.hid (fun W => refin_at { data := #[92, 124, 40, 41, 91, 93, 123, 125, 42, 43, 63, 46, 94, 36, 47, 45] } ((b : Nat) : Int) W (by decide))
  rw [HI.out] at HV
  rw [HS.out] at H2
  generalize inS _ ((b : Nat) : Int) = y at *
  generalize pspecL.contains b = z at *
  go_enter Tryz.func15, Tryz.ntmps15
  go_wp2_with (first | simp only [hq] | fail)
  refine (H1.out _).mono ?_
  rintro v w1 ⟨rfl, rfl⟩
  cases y with
  | true =>
    go_wp2
    go_returns
    exact ⟨by rw [HV.out]; rfl, HB0.out⟩
  | false =>
    by_cases h96 : b = 96
    · subst h96
      go_wp2
      go_returns
      exact ⟨by rw [HV.out]; rfl, HB0.out⟩
    · have hn : (((b : Nat) : Int) == 96) = false := by rw [beq_eq_false_iff_ne]; omega
      have hn2 : (b == 96) = false := by rw [beq_eq_false_iff_ne]; exact h96
      rw [hn2] at HV
      go_wp2_with fail
      refine (H2.out _).mono ?_
      rintro v w1 ⟨rfl, rfl⟩
      cases z with
      | true =>
        go_wp2
        go_returns
        exact ⟨by rw [HV.out]; rfl, HB0.out⟩
      | false =>
        have hdiv : ((b : Nat) : Int) / 16 = ((b / 16 : Nat) : Int) := by omega
        have hwp : IntKind.i64.wrap ((b / 16 : Nat) : Int) = ((b / 16 : Nat) : Int) := IntWalk.i64_in _ (by omega)
        have htm : Int.tmod ((b : Nat) : Int) 16 = ((b % 16 : Nat) : Int) := rfl
        have hp16 : b / 16 < 16 := by omega
        have hq16 : b % 16 < 16 := by omega
        generalize w.alloc _ = w2 at *
        clear hq
        generalize b / 16 = p at *
        generalize b % 16 = q at *
        have hi1 := idx_digit64 p hp16
        have hi2 := idx_digit64 q hq16
        generalize hexD p = c at *
        generalize hexD q = d at *
        have hcv := str2 c d
        obtain ⟨cn, hcn⟩ : ∃ cn : Nat, c.toNat = cn := ⟨_, rfl⟩
        obtain ⟨dn, hdn⟩ : ∃ dn : Nat, d.toNat = dn := ⟨_, rfl⟩
        rw [hcn] at hi1 hcv
        rw [hdn] at hi2 hcv
        go_wp2_with fail
        refine wp_region_still_tail 6 (by kernel_rfl) (by kernel_rfl) ?_
        simp only [List.take_succ_cons, List.take_zero, List.drop_succ_cons, List.drop_zero]
        repeat still_step
        refine wpStill_nil ?_
        change wpList _ _ _ _ _ w2.drew
        have HB2 := Lib.hid HB0.out.drew
        generalize w2.drew = w3 at *
        have HB3 := Lib.hid (HB2.out.trans (((Below.refl w3.heap.size w3).alloc (Nat.le_refl _) (.cells #[.int .u8 ((cn : Nat) : Int), .int .u8 ((dn : Nat) : Int)] 5)).mono HB2.out.size))
        go_wp2_with (first | simp only [hcv] | fail)
        go_returns
        exact ⟨by rw [HV.out]; rfl, HB3.out⟩
set_option maxRecDepth 100000 in
set_option maxHeartbeats 8000000 in
theorem refbyte_s (b : Nat) (hb : b < 256) (w : World) (hc : 122 < b) : Calls Tryz.prog 15 #[.int .i64 ((b : Nat) : Int)] w fun v w' => v = .returned (.string (byteS b)) ∧ Below w.heap.size w w' := by
  have HI := Lib.hid (other_self ⟨b, hb⟩ (by simp only []; omega))
  have HS := Lib.hid (in_special ⟨b, hb⟩)
  have HV := Lib.hid (show byteS b = if letB b || pselfL.contains b then { data := #[b.toUInt8] } else if pspecL.contains b then { data := #[92, b.toUInt8] } else { data := #[92, 120, hexD (b / 16), hexD (b % 16)] } from rfl)
  simp only [] at HI HS
  have hq := str1 b hb
  have HB0 := Lib.hid (((Below.refl w.heap.size w).alloc (Nat.le_refl _) (.cells #[.int .u8 ((b : Nat) : Int)] 5)))
  have hw8 : IntKind.u8.wrap ((b : Nat) : Int) = ((b : Nat) : Int) := by
    rw [show IntKind.u8.wrap ((b : Nat) : Int) = ((b : Nat) : Int) % 256 from rfl]; omega
  have H1 := Lib.hid (fun W => refin_at { data := #[32, 33, 34, 35, 37, 38, 39, 44, 58, 59, 60, 61, 62, 64, 95, 126] } ((b : Nat) : Int) W (by decide))
  have H2 := Lib.hid (fun W => refin_at { data := #[92, 124, 40, 41, 91, 93, 123, 125, 42, 43, 63, 46, 94, 36, 47, 45] } ((b : Nat) : Int) W (by decide))
  rw [HI.out] at HV
  rw [HS.out] at H2
  generalize inS _ ((b : Nat) : Int) = y at *
  generalize pspecL.contains b = z at *
  go_enter Tryz.func15, Tryz.ntmps15
  go_wp2_with (first | simp only [hq] | fail)
  refine (H1.out _).mono ?_
  rintro v w1 ⟨rfl, rfl⟩
  cases y with
  | true =>
    go_wp2
    go_returns
    exact ⟨by rw [HV.out]; rfl, HB0.out⟩
  | false =>
    by_cases h96 : b = 96
    · subst h96
      go_wp2
      go_returns
      exact ⟨by rw [HV.out]; rfl, HB0.out⟩
    · have hn : (((b : Nat) : Int) == 96) = false := by rw [beq_eq_false_iff_ne]; omega
      have hn2 : (b == 96) = false := by rw [beq_eq_false_iff_ne]; exact h96
      rw [hn2] at HV
      go_wp2_with fail
      refine (H2.out _).mono ?_
      rintro v w1 ⟨rfl, rfl⟩
      cases z with
      | true =>
        go_wp2
        go_returns
        exact ⟨by rw [HV.out]; rfl, HB0.out⟩
      | false =>
        have hdiv : ((b : Nat) : Int) / 16 = ((b / 16 : Nat) : Int) := by omega
        have hwp : IntKind.i64.wrap ((b / 16 : Nat) : Int) = ((b / 16 : Nat) : Int) := IntWalk.i64_in _ (by omega)
        have htm : Int.tmod ((b : Nat) : Int) 16 = ((b % 16 : Nat) : Int) := rfl
        have hp16 : b / 16 < 16 := by omega
        have hq16 : b % 16 < 16 := by omega
        generalize w.alloc _ = w2 at *
        clear hq
        generalize b / 16 = p at *
        generalize b % 16 = q at *
        have hi1 := idx_digit64 p hp16
        have hi2 := idx_digit64 q hq16
        generalize hexD p = c at *
        generalize hexD q = d at *
        have hcv := str2 c d
        obtain ⟨cn, hcn⟩ : ∃ cn : Nat, c.toNat = cn := ⟨_, rfl⟩
        obtain ⟨dn, hdn⟩ : ∃ dn : Nat, d.toNat = dn := ⟨_, rfl⟩
        rw [hcn] at hi1 hcv
        rw [hdn] at hi2 hcv
        go_wp2_with fail
        refine wp_region_still_tail 6 (by kernel_rfl) (by kernel_rfl) ?_
        simp only [List.take_succ_cons, List.take_zero, List.drop_succ_cons, List.drop_zero]
        repeat still_step
        refine wpStill_nil ?_
        change wpList _ _ _ _ _ w2.drew
        have HB2 := Lib.hid HB0.out.drew
        generalize w2.drew = w3 at *
        have HB3 := Lib.hid (HB2.out.trans (((Below.refl w3.heap.size w3).alloc (Nat.le_refl _) (.cells #[.int .u8 ((cn : Nat) : Int), .int .u8 ((dn : Nat) : Int)] 5)).mono HB2.out.size))
        go_wp2_with (first | simp only [hcv] | fail)
        go_returns
        exact ⟨by rw [HV.out]; rfl, HB3.out⟩
/-- The reference's Byte tells a byte as the printer does. -/
theorem refbyte_at (b : Nat) (hb : b < 256) (w : World) : Calls Tryz.prog 15 #[.int .i64 ((b : Nat) : Int)] w fun v w' => v = .returned (.string (byteS b)) ∧ Below w.heap.size w w' := by
  by_cases h1 : b < 48
  · exact refbyte_p b hb w h1
  by_cases h2 : b ≤ 57
  · exact refbyte_d b hb w ⟨by omega, h2⟩
  by_cases h3 : b < 65
  · exact refbyte_q b hb w ⟨by omega, h3⟩
  by_cases h4 : b ≤ 90
  · exact refbyte_u b hb w ⟨by omega, h4⟩
  by_cases h5 : b < 97
  · exact refbyte_r b hb w ⟨by omega, h5⟩
  by_cases h6 : b ≤ 122
  · exact refbyte_l b hb w ⟨by omega, h6⟩
  exact refbyte_s b hb w (by omega)
end Go.Proofs.YtpiimcbbgalhfaaGreatDoor
