/- The reference of layer 7: Set: plain, and the walk. -/
import Derived.Test.YtpiimcbbgalhfaaGreatDoorCx
import Derived.Test.YtpiimcbbgalhfaaGreatDoorCq
import Derived.Test.YtpiimcbbgalhfaaGreatDoorBa
import Derived.Test.YtpiimcbbgalhfaaGreatDoorBe
import Derived.Test.YtpiimcbbgalhfaaGreatDoorCs
namespace Go.Proofs.YtpiimcbbgalhfaaGreatDoor
set_option maxRecDepth 100000
open Go.RowKit
attribute [local go_sem] eq_words eqB_words eqB_zero
def butM (m : Nat → Bool) (x : Nat) : Bool := m x && decide (x ≠ 10)
/-- The last byte below. -/
def lastM (m : Nat → Bool) : Nat → Nat
  | 0 => 0
  | n + 1 => if m n then n else lastM m n
theorem cnt_le8 (m : Nat → Bool) (n : Nat) : cnt m n ≤ n := by
  induction n with
  | zero => exact Nat.le_refl _
  | succ n ih => rw [cnt]; split <;> omega
theorem last_lt (m : Nat → Bool) (n : Nat) : lastM m n ≤ n := by
  induction n with
  | zero => exact Nat.le_refl _
  | succ n ih => rw [lastM]; split <;> omega
theorem cnt_none8 {m : Nat → Bool} : ∀ {n : Nat}, cnt m n = 0 → ∀ x, x < n → m x = false := by
  intro n
  induction n with
  | zero => intro _ x hx; omega
  | succ n ih =>
    intro h x hx
    rw [cnt] at h
    by_cases e : x = n
    · subst e
      cases hm : m x with
      | false => rfl
      | true => rw [hm] at h; simp at h
    · exact ih (by omega) x (by omega)
theorem cnt_last {m : Nat → Bool} : ∀ {n : Nat}, 0 < cnt m n → m (lastM m n) = true ∧ lastM m n < n := by
  intro n
  induction n with
  | zero => intro h; simp [cnt] at h
  | succ n ih =>
    intro h
    rw [cnt] at h
    rw [lastM]
    cases hm : m n with
    | true => rw [if_pos rfl]; exact ⟨hm, Nat.lt_succ_self n⟩
    | false =>
      rw [hm] at h
      rw [if_neg (by simp)]
      obtain ⟨h1, h2⟩ := ih (by simpa using h)
      exact ⟨h1, by omega⟩
theorem cnt_full {m : Nat → Bool} : ∀ {n : Nat}, cnt m n = n → ∀ x, x < n → m x = true := by
  intro n
  induction n with
  | zero => intro _ x hx; omega
  | succ n ih =>
    intro h x hx
    have hle := cnt_le8 m n
    rw [cnt] at h
    cases hm : m n with
    | false => rw [hm] at h; simp at h; omega
    | true =>
      rw [hm] at h
      by_cases e : x = n
      · subst e; exact hm
      · exact ih (by simpa using h) x (by omega)
theorem cnt_cong8 {m m' : Nat → Bool} : ∀ {n : Nat}, (∀ x, x < n → m x = m' x) → cnt m n = cnt m' n := by
  intro n
  induction n with
  | zero => intro _; rfl
  | succ n ih =>
    intro h
    rw [cnt, cnt, ih fun x hx => h x (by omega), h n (by omega)]
theorem dot_tell (m : Nat → Bool) : eqB m dotM = (decide (cnt m 256 = 255) && decide (cnt (butM m) 256 = 255)) := by
  have hd : cnt dotM 256 = 255 := by decide +kernel
  have hb : cnt (butM dotM) 256 = 255 := by decide +kernel
  rw [Bool.eq_iff_iff, Bool.and_eq_true, decide_eq_true_eq, decide_eq_true_eq, eqB_iff]
  constructor
  · intro h
    refine ⟨(cnt_cong8 h).trans hd, (cnt_cong8 fun x hx => ?_).trans hb⟩
    unfold butM
    rw [h x hx]
  · rintro ⟨h1, h2⟩ x hx
    have h10 : m 10 = false := by
      cases hm : m 10 with
      | false => rfl
      | true =>
        exfalso
        -- ten is had: what is had but ten is one fewer
        have key : ∀ n, 10 < n → cnt m n = cnt (butM m) n + 1 := by
          intro n
          induction n with
          | zero => intro h; omega
          | succ n ih =>
            intro h
            rw [cnt, cnt]
            by_cases e : n = 10
            · subst e
              have hlow : ∀ k, k ≤ 10 → cnt m k = cnt (butM m) k := fun k hk => cnt_cong8 fun x hx => by
                unfold butM
                rw [show decide (x ≠ 10) = true from decide_eq_true (by omega), Bool.and_true]
              rw [hlow 10 (Nat.le_refl _), hm]
              simp [butM]
            · rw [ih (by omega)]
              have : butM m n = m n := by
                unfold butM
                rw [show decide (n ≠ 10) = true from decide_eq_true e, Bool.and_true]
              rw [this]
              omega
        have := key 256 (by omega)
        omega
    by_cases e : x = 10
    · subst e
      rw [h10]
      rfl
    · have hdx : dotM x = true := by
        unfold dotM ofM
        simp <;> omega
      rw [hdx]
      -- all but ten: else there would be fewer than 255
      cases hm : m x with
      | true => rfl
      | false =>
        exfalso
        have key : ∀ n, cnt m n + (if 10 < n then 1 else 0) + (if x < n then 1 else 0) ≤ n := by
          intro n
          induction n with
          | zero => simp [cnt]
          | succ n ih =>
            rw [cnt]
            by_cases e1 : n = 10
            · subst e1
              rw [h10]
              have : ¬10 < 10 := by omega
              rw [if_neg this] at ih
              rw [if_pos (show 10 < 10 + 1 by omega)]
              by_cases e2 : x < 10
              · rw [if_pos e2] at ih; rw [if_pos (show x < 10 + 1 by omega)]; simp; omega
              · rw [if_neg e2] at ih; rw [if_neg (show ¬x < 10 + 1 by omega)]; simp; omega
            · by_cases e3 : n = x
              · subst e3
                rw [hm]
                rw [if_neg (show ¬n < n by omega)] at ih
                rw [if_pos (show n < n + 1 by omega)]
                by_cases e2 : 10 < n
                · rw [if_pos e2] at ih; rw [if_pos (show 10 < n + 1 by omega)]; simp; omega
                · rw [if_neg e2] at ih; rw [if_neg (show ¬10 < n + 1 by omega)]; simp; omega
              · have a1 : (if 10 < n + 1 then 1 else 0) = (if 10 < n then 1 else 0 : Nat) := by
                  by_cases h : 10 < n
                  · rw [if_pos h, if_pos (by omega)]
                  · rw [if_neg h, if_neg (by omega)]
                have a2 : (if x < n + 1 then 1 else 0) = (if x < n then 1 else 0 : Nat) := by
                  by_cases h : x < n
                  · rw [if_pos h, if_pos (by omega)]
                  · rw [if_neg h, if_neg (by omega)]
                rw [a1, a2]
                split <;> omega
        have := key 256
        rw [if_pos (by omega), if_pos hx] at this
        omega
/-- The runs that begin below. -/
def lowR (R : List (Int × Int)) (b : Nat) : List (Int × Int) := R.filter fun p => decide (p.1 < (b : Int))
theorem low_split : ∀ (R : List (Int × Int)) (b : Nat), R.Pairwise (fun p q => p.1 < q.1) → lowR R (b + 1) = lowR R b ++ R.filter fun p => decide (p.1 = (b : Int)) := by
  intro R
  induction R with
  | nil => intro b _; rfl
  | cons p R ih =>
    intro b h
    rw [List.pairwise_cons] at h
    have hi := ih b h.2
    unfold lowR at hi ⊢
    rcases Int.lt_trichotomy p.1 (b : Int) with h1 | h1 | h1
    · rw [List.filter_cons_of_pos (by simp <;> omega), List.filter_cons_of_pos (by simpa using h1), List.filter_cons_of_neg (by simp <;> omega), hi]
      rfl
    · have e1 : R.filter (fun q => decide (q.1 < (b : Int))) = [] := by
        rw [List.filter_eq_nil_iff]
        intro q hq
        have := h.1 q hq
        simp <;> omega
      rw [List.filter_cons_of_pos (by simp <;> omega), List.filter_cons_of_neg (by simp <;> omega), List.filter_cons_of_pos (by simpa using h1), hi, e1]
      rfl
    · have e1 : R.filter (fun q => decide (q.1 < (b : Int))) = [] := by
        rw [List.filter_eq_nil_iff]
        intro q hq
        have := h.1 q hq
        simp <;> omega
      have e2 : R.filter (fun q => decide (q.1 = (b : Int))) = [] := by
        rw [List.filter_eq_nil_iff]
        intro q hq
        have := h.1 q hq
        simp <;> omega
      rw [List.filter_cons_of_neg (by simp <;> omega), List.filter_cons_of_neg (by simp <;> omega), List.filter_cons_of_neg (by simp <;> omega), hi, e1, e2]
abbrev runs8 (m : Nat → Bool) : List (Int × Int) := runsM (listM m 256)
theorem runs8_ok (m : Nat → Bool) : RunsOK (runs8 m) (listM m 256) := by
  have := runs_ok (listM m 256) (listM m 256).length (listM_rise m 256) (Nat.le_refl _)
  rwa [List.take_length] at this
theorem runs8_has (m : Nat → Bool) (x : Nat) (hx : x < 256) : (∃ p ∈ runs8 m, p.1 ≤ (x : Int) ∧ (x : Int) ≤ p.2) ↔ m x = true := by
  rw [(runs8_ok m).has (x : Int), mem_listM]
  simp only [Int.toNat_natCast]
  exact ⟨fun h => h.2.2, fun h => ⟨by omega, by omega, h⟩⟩
theorem runs8_rise (m : Nat → Bool) : (runs8 m).Pairwise (fun p q => p.1 < q.1) := by
  have h1 := (runs8_ok m).gap
  have h2 := (runs8_ok m).le
  refine List.Pairwise.imp_of_mem (fun {p q} hp hq h => ?_) h1
  have := h2 p hp
  omega
theorem runs8_apart (m : Nat → Bool) {p q : Int × Int} (hp : p ∈ runs8 m) (hq : q ∈ runs8 m) : p = q ∨ p.2 + 1 < q.1 ∨ q.2 + 1 < p.1 := by
  have h1 := (runs8_ok m).gap
  have key : ∀ l : List (Int × Int), l.Pairwise (fun p q => p.2 + 1 < q.1) → p ∈ l → q ∈ l → p = q ∨ p.2 + 1 < q.1 ∨ q.2 + 1 < p.1 := by
    intro l
    induction l with
    | nil => intro _ h; cases h
    | cons a l ih =>
      intro h ha hb
      rw [List.pairwise_cons] at h
      rcases List.mem_cons.1 ha with e1 | ha'
      · rcases List.mem_cons.1 hb with e2 | hb'
        · exact .inl (e1.trans e2.symm)
        · rw [e1]
          exact .inr (.inl (h.1 q hb'))
      · rcases List.mem_cons.1 hb with e2 | hb'
        · rw [e2]
          exact .inr (.inr (h.1 p ha'))
        · exact ih h.2 ha' hb'
  exact key _ h1 hp hq
/-- At a byte no run begins: it isn't had, or the one ahead is had too. -/
theorem run_none {m : Nat → Bool} {b : Nat} (hb : b < 256) (h : m b = false ∨ (0 < b ∧ m (b - 1) = true)) : lowR (runs8 m) (b + 1) = lowR (runs8 m) b := by
  rw [low_split _ _ (runs8_rise m)]
  have e : (runs8 m).filter (fun p => decide (p.1 = (b : Int))) = [] := by
    rw [List.filter_eq_nil_iff]
    intro p hp hq
    have hq := of_decide_eq_true hq
    have hle := (runs8_ok m).le p hp
    rcases h with h | ⟨h0, h⟩
    · have := (runs8_has m b hb).1 ⟨p, hp, by omega, by omega⟩
      rw [h] at this
      cases this
    · obtain ⟨q, hq1, hq2, hq3⟩ := (runs8_has m (b - 1) (by omega)).2 h
      rcases runs8_apart m hp hq1 with rfl | h1 | h1 <;> omega
  rw [e, List.append_nil]
/-- At a byte a run begins. -/
theorem run_some {m : Nat → Bool} {b : Nat} (hb : b < 256) (h : m b = true) (h0 : b = 0 ∨ m (b - 1) = false) : ∃ e : Nat, b ≤ e ∧ e < 256 ∧ lowR (runs8 m) (b + 1) = lowR (runs8 m) b ++ [((b : Int), (e : Int))] ∧ (∀ x, b ≤ x → x ≤ e → m x = true) ∧ (e = 255 ∨ m (e + 1) = false) := by
  obtain ⟨p, hp, h1, h2⟩ := (runs8_has m b hb).2 h
  obtain ⟨a, c, hac, ha, hc⟩ := (runs_in m).2 p hp
  subst hac
  simp only [] at h1 h2
  obtain rfl : a = b := by
    rcases Nat.lt_or_ge a b with hlt | hge
    · exfalso
      have hm : m (b - 1) = true := (runs8_has m (b - 1) (by omega)).1 ⟨_, hp, by simp only []; omega, by simp only []; omega⟩
      rcases h0 with h0 | h0
      · omega
      · rw [hm] at h0
        cases h0
    · omega
  refine ⟨c, by omega, hc, ?_, fun x hx1 hx2 => (runs8_has m x (by omega)).1 ⟨_, hp, by simp only []; omega, by simp only []; omega⟩, ?_⟩
  · rw [low_split _ _ (runs8_rise m)]
    congr 1
    have key : ∀ l : List (Int × Int), l.Pairwise (fun p q => p.1 < q.1) → ((a : Int), (c : Int)) ∈ l → l.filter (fun p => decide (p.1 = (a : Int))) = [((a : Int), (c : Int))] := by
      intro l
      induction l with
      | nil => intro _ h; cases h
      | cons q l ih =>
        intro hpw hm
        rw [List.pairwise_cons] at hpw
        rcases List.mem_cons.1 hm with e | hm
        · rw [← e, List.filter_cons_of_pos (by simp)]
          congr 1
          rw [List.filter_eq_nil_iff]
          intro r hr
          have := hpw.1 r hr
          rw [← e] at this
          simp only [] at this
          simp <;> omega
        · have := hpw.1 _ hm
          simp only [] at this
          rw [List.filter_cons_of_neg (by simp <;> omega), ih hpw.2 hm]
    exact key _ (runs8_rise m) hp
  · by_cases h255 : c = 255
    · exact .inl h255
    · right
      cases hm : m (c + 1) with
      | false => rfl
      | true =>
        exfalso
        obtain ⟨q, hq1, hq2, hq3⟩ := (runs8_has m (c + 1) (by omega)).2 hm
        have hle := (runs8_ok m).le q hq1
        rcases runs8_apart m hp hq1 with e | h1 | h1
        · rw [← e] at hq3
          simp only [] at hq3
          omega
        · simp only [] at h1
          omega
        · simp only [] at h1
          omega
theorem low_all (m : Nat → Bool) : lowR (runs8 m) 256 = runs8 m := by
  unfold lowR
  rw [List.filter_eq_self]
  intro p hp
  obtain ⟨a, c, rfl, ha, hc⟩ := (runs_in m).2 p hp
  simp <;> omega
theorem low_zero (m : Nat → Bool) : lowR (runs8 m) 0 = [] := by
  unfold lowR
  rw [List.filter_eq_nil_iff]
  intro p hp
  obtain ⟨a, c, rfl, ha, hc⟩ := (runs_in m).2 p hp
  simp
theorem low_len (m : Nat → Bool) (b : Nat) : (lowR (runs8 m) b).length ≤ 256 := Nat.le_trans (List.length_filter_le _ _) (runs_in m).1
theorem first_none {m : Nat → Bool} : firstM m = none ↔ cnt m 256 = 0 := by
  constructor
  · intro h
    rw [cnt_false]
    intro x hx
    have := List.find?_eq_none.1 h x (List.mem_range.2 hx)
    simpa using this
  · intro h
    unfold firstM
    rw [List.find?_eq_none]
    intro x hx
    rw [cnt_none8 h x (List.mem_range.1 hx)]
    simp
/-- What the reference tells of a set, by its counts. -/
theorem setS_tell (m : Nat → Bool) : setS m = if cnt m 256 = 0 then nothingB else if cnt m 256 = 255 ∧ cnt (butM m) 256 = 255 then { data := #[46] } else if cnt m 256 = 1 then byteS (lastM m 256) else classS m := by
  unfold setS
  cases hf : firstM m with
  | none => rw [if_pos (first_none.1 hf)]
  | some b =>
    have hne : cnt m 256 ≠ 0 := fun e => by rw [first_none.2 e] at hf; cases hf
    rw [if_neg hne]
    simp only []
    rw [dot_tell m]
    by_cases hd : cnt m 256 = 255 ∧ cnt (butM m) 256 = 255
    · rw [if_pos (by rw [decide_eq_true hd.1, decide_eq_true hd.2]; rfl), if_pos hd]
    · rw [if_neg (by simpa using hd), if_neg hd]
      by_cases h1 : cnt m 256 = 1
      · rw [if_pos h1, if_pos h1]
        obtain ⟨hl, hlt⟩ := cnt_last (m := m) (n := 256) (by omega)
        have hone := one_list hf h1
        have : ((lastM m 256 : Nat) : Int) ∈ listM m 256 := (mem_listM m 256 _).2 ⟨by omega, by omega, by simpa using hl⟩
        rw [hone, List.mem_singleton] at this
        rw [show lastM m 256 = b by omega]
      · rw [if_neg h1, if_neg h1]
end Go.Proofs.YtpiimcbbgalhfaaGreatDoor
/- The reference of layer 7: Count. -/
namespace Go.Proofs.YtpiimcbbgalhfaaGreatDoor
set_option maxRecDepth 100000
open Go.RowKit
/-- What the reference tells of a count, by what is asked of the two numbers. -/
def cntF (x y u v t z : Bool) (SL SH : ByteArray) : ByteArray :=
  let s := if x && u then ({ data := #[42] } : ByteArray) else if y && u then { data := #[43] } else if x && v then { data := #[63] } else if u then ({ data := #[123] } : ByteArray) ++ SL ++ { data := #[44, 125] }
    else if t then ({ data := #[123] } : ByteArray) ++ SL ++ { data := #[125] } else ({ data := #[123] } : ByteArray) ++ SL ++ { data := #[44] } ++ SH ++ { data := #[125] }
  if z then s ++ { data := #[63] } else s
theorem cntF_is (lo hi : Int) (z : Bool) : countS lo hi z = cntF (lo == 0) (lo == 1) (hi == -1) (hi == 1) (hi == lo) z (itoaB lo) (itoaB hi) := by
  have key : (if lo = 0 ∧ hi = -1 then ({ data := #[42] } : ByteArray) else if lo = 1 ∧ hi = -1 then { data := #[43] } else if lo = 0 ∧ hi = 1 then { data := #[63] } else bracesS lo hi) =
      (if (lo == 0) && (hi == -1) then ({ data := #[42] } : ByteArray) else if (lo == 1) && (hi == -1) then { data := #[43] } else if (lo == 0) && (hi == 1) then { data := #[63] } else if (hi == -1) then ({ data := #[123] } : ByteArray) ++ itoaB lo ++ { data := #[44, 125] }
        else if (hi == lo) then ({ data := #[123] } : ByteArray) ++ itoaB lo ++ { data := #[125] } else ({ data := #[123] } : ByteArray) ++ itoaB lo ++ { data := #[44] } ++ itoaB hi ++ { data := #[125] }) := by
    simp only [Bool.and_eq_true, beq_iff_eq]
    split
    · rfl
    · split
      · rfl
      · split
        · rfl
        · unfold bracesS
          by_cases h1 : hi = -1
          · rw [if_pos h1, if_pos h1]
            apply ByteArray.ext
            simp only [ByteArray.data_append]
            simp
          · rw [if_neg h1, if_neg h1]
            by_cases h2 : hi = lo
            · rw [if_neg (fun h => h h2), if_pos h2]
              apply ByteArray.ext
              simp only [ByteArray.data_append]
              simp
            · rw [if_pos h2, if_neg h2]
              apply ByteArray.ext
              simp only [ByteArray.data_append]
              simp
  unfold countS cntF
  rw [key]
  cases z with
  | true => rfl
  | false =>
    show _ ++ ({ data := #[] } : ByteArray) = _
    apply ByteArray.ext
    rw [ByteArray.data_append]
    simp
set_option maxHeartbeats 8000000 in
theorem rcount_walk (x y u v t z : Bool) (lo hi : Int) (hx : (lo == 0) = x) (hy : (lo == 1) = y) (hu : (hi == -1) = u) (hv : (hi == 1) = v) (ht : (hi == lo) = t) (SL SH : ByteArray) (hSL : SL.size ≤ 100) (hSH : SH.size ≤ 100) (w : World)
    (HL : ∀ W : World, Calls Tryz.prog 85 #[.int .i64 lo] W fun v w' => v = .returned (.string SL) ∧ Below W.heap.size W w')
    (HH : ∀ W : World, Calls Tryz.prog 85 #[.int .i64 hi] W fun v w' => v = .returned (.string SH) ∧ Below W.heap.size W w') :
    Calls Tryz.prog 18 #[.int .i64 lo, .int .i64 hi, .bool z] w fun r w' => r = .returned (.string (cntF x y u v t z SL SH)) ∧ Below w.heap.size w w' := by
  have HL := Lib.hid HL
  have HH := Lib.hid HH
  have n1 : ¬9223372036854775807 < 1 + SL.size := by omega
  have n2 : ¬9223372036854775807 < 1 + SL.size + 1 := by omega
  have n3 : ¬9223372036854775807 < 1 + SL.size + 2 := by omega
  have n4 : ¬9223372036854775807 < 1 + SL.size + 1 + SH.size := by omega
  have n5 : ¬9223372036854775807 < 1 + SL.size + 1 + SH.size + 1 := by omega
  have n6 : ¬9223372036854775807 < 1 + SL.size + 1 + SH.size + 1 + 1 := by omega
  have n7 : ¬9223372036854775807 < 1 + SL.size + 1 + 1 := by omega
  have n8 : ¬9223372036854775807 < 1 + SL.size + 2 + 1 := by omega
  obtain ⟨R, hR⟩ : ∃ R, cntF x y u v t z SL SH = R := ⟨_, rfl⟩
  have HR := Lib.hid hR
  rw [hR]
  clear hR
  cases x <;> cases u <;> cases y <;> cases v <;> cases t <;> cases z <;> (
  go_enter Tryz.func18, Tryz.ntmps18
  go_wp2_with fail
  refine (HL.out _).mono ?_
  rintro r w1 ⟨rfl, hb1⟩
  have HB1 := Lib.hid hb1
  clear hb1
  first
    | (go_wp2_with fail
       go_returns
       exact ⟨by rw [← HR.out]; rfl, HB1.out⟩)
    | (go_wp2_with fail
       refine (HH.out _).mono ?_
       rintro r w2 ⟨rfl, hb2⟩
       have HB2 := Lib.hid (HB1.out.trans (hb2.mono HB1.out.size))
       clear hb2
       go_wp2
       go_returns
       exact ⟨by rw [← HR.out]; rfl, HB2.out⟩))
/-- The reference's Count, of any two numbers. -/
theorem rcount07_at (lo hi : Int) (z : Bool) (h1 : -9223372036854775808 ≤ lo ∧ lo ≤ 9223372036854775807) (h2 : -9223372036854775808 ≤ hi ∧ hi ≤ 9223372036854775807) (w : World) :
    Calls Tryz.prog 18 #[.int .i64 lo, .int .i64 hi, .bool z] w fun r w' => r = .returned (.string (countS lo hi z)) ∧ Below w.heap.size w w' := by
  rw [cntF_is]
  exact rcount_walk _ _ _ _ _ z lo hi rfl rfl rfl rfl rfl _ _ (itoa_len h1.1 h1.2) (itoa_len h2.1 h2.2) w (fun W => rnum_at lo h1.1 h1.2 W) (fun W => rnum_at hi h2.1 h2.2 W)
end Go.Proofs.YtpiimcbbgalhfaaGreatDoor
