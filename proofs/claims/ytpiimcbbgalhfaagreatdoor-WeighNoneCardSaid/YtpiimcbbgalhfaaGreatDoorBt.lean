/- nat: numbers that end at the greatest. -/
import Derived.Test.YtpiimcbbgalhfaaGreatDoorBa
import Derived.Laws.Externs
import Derived.Shelf.Bits.Mul64
import Derived.Test.YtpiimcbbgalhfaaGreatDoorBs
import Derived.BigQuiet
import Derived.Deep.QuietTactic
namespace Go.Proofs.YtpiimcbbgalhfaaGreatDoor
set_option maxRecDepth 100000
open Go.RowKit
abbrev mostI : Int := 9223372036854775807
def lstI (a : Int) : Int := max a 0
def satA (a b : Int) : Int := min (lstI a + lstI b) mostI
def satM (a b : Int) : Int := min (lstI a * lstI b) mostI
def addL (l : List Int) : Int := l.foldl satA 0
def mulL (l : List Int) : Int := if (l.any fun n => decide (n ≤ 0)) then 0 else l.foldl satM 1
def I64 (a : Int) : Prop := -9223372036854775808 ≤ a ∧ a ≤ 9223372036854775807
theorem satA_rng (a b : Int) : 0 ≤ satA a b ∧ satA a b ≤ mostI := by unfold satA lstI mostI; omega
theorem satM_rng (a b : Int) : 0 ≤ satM a b ∧ satM a b ≤ mostI := by
  unfold satM mostI
  have : 0 ≤ lstI a * lstI b := Int.mul_nonneg (by unfold lstI; omega) (by unfold lstI; omega)
  omega
theorem foldl_rng (l : List Int) (a : Int) (ha : 0 ≤ a ∧ a ≤ mostI) : 0 ≤ l.foldl satA a ∧ l.foldl satA a ≤ mostI := by
  induction l generalizing a with
  | nil => exact ha
  | cons x l ih => exact ih _ (satA_rng a x)
theorem foldl_rngM (l : List Int) (a : Int) (ha : 0 ≤ a ∧ a ≤ mostI) : 0 ≤ l.foldl satM a ∧ l.foldl satM a ≤ mostI := by
  induction l generalizing a with
  | nil => exact ha
  | cons x l ih => exact ih _ (satM_rng a x)
theorem addL_rng (l : List Int) : 0 ≤ addL l ∧ addL l ≤ mostI := foldl_rng l 0 (by unfold mostI; omega)
theorem mulL_rng (l : List Int) : 0 ≤ mulL l ∧ mulL l ≤ mostI := by
  unfold mulL
  split
  · unfold mostI; omega
  · exact foldl_rngM l 1 (by unfold mostI; omega)
theorem least_at (a : Int) (h : I64 a) (w : World) : Calls Tryz.prog 196 #[.int .i64 a] w fun v w' => v = .returned (.int .u64 (lstI a)) ∧ w' = w := by
  obtain ⟨h1, h2⟩ := h
  by_cases h0 : 0 ≤ a
  · rw [show lstI a = a by unfold lstI; omega]
    have hn : ¬a < 0 := by omega
    go_enter Tryz.func196, Tryz.ntmps196
    go_wp2
    all_goals first
      | omega
      | (go_returns; exact ⟨rfl, rfl⟩)
      | (go_returns; exact ⟨by rw [show max a 0 = a by omega]; rfl, rfl⟩)
  · rw [show lstI a = 0 by unfold lstI; omega]
    go_enter Tryz.func196, Tryz.ntmps196
    go_wp2
    all_goals first
      | omega
      | (go_returns; exact ⟨rfl, rfl⟩)
      | (go_returns; exact ⟨by rw [show max a 0 = 0 by omega]; rfl, rfl⟩)
theorem most_at (hi lo : Int) (h0 : 0 ≤ hi) (hl : 0 ≤ lo ∧ lo < 18446744073709551616) (w : World) : Calls Tryz.prog 197 #[.int .u64 hi, .int .u64 lo] w fun v w' => v = .returned (.int .i64 (if hi = 0 ∧ lo ≤ mostI then lo else mostI)) ∧ w' = w := by
  by_cases h1 : hi = 0
  · subst h1
    by_cases h2 : lo ≤ mostI
    · have hq : decide ((9223372036854775807 : Int) < lo) = false := by rw [decide_eq_false_iff_not]; unfold mostI at h2; omega
      have hw : IntKind.i64.wrap lo = lo := IntWalk.i64_in _ (by unfold mostI at h2; omega)
      rw [if_pos ⟨rfl, h2⟩]
      go_enter Tryz.func197, Tryz.ntmps197
      go_wp2
      go_returns
      exact ⟨rfl, rfl⟩
    · have hq : decide ((9223372036854775807 : Int) < lo) = true := by rw [decide_eq_true_eq]; unfold mostI at h2; omega
      rw [if_neg (fun h => h2 h.2)]
      go_enter Tryz.func197, Tryz.ntmps197
      go_wp2
      go_returns
      exact ⟨rfl, rfl⟩
  · have hq : (hi != 0) = true := by rw [bne_iff_ne]; exact h1
    rw [if_neg (fun h => h1 h.1)]
    go_enter Tryz.func197, Tryz.ntmps197
    go_wp2
    go_returns
    exact ⟨rfl, rfl⟩
theorem add64_0 (x y : Int) (hx : 0 ≤ x) (hy : 0 ≤ y) (w : World) : (callFunc 195 #[.int .u64 x, .int .u64 y, .int .u64 0]).run Tryz.prog w =
    .ok (.value (.tuple #[.int .u64 ((x + y) % 18446744073709551616), .int .u64 ((x + y) / 18446744073709551616)])) w := by
  rw [run_callFunc_extern Tryz.func195 (by kernel_rfl) (by kernel_rfl) (by kernel_rfl) (e := add64Entry) (by kernel_rfl), run_add64 x y 0 hx hy (by omega) (by omega)]
  simp only [Result.andThen, Int.add_zero]
theorem add_at (a b : Int) (ha : I64 a) (hb : I64 b) (w : World) : Calls Tryz.prog 148 #[.int .i64 a, .int .i64 b] w fun v w' => v = .returned (.int .i64 (satA a b)) ∧ w' = w := by
  have h0 : 0 ≤ lstI a := by unfold lstI; omega
  have h1 : 0 ≤ lstI b := by unfold lstI; omega
  have h2 : lstI a ≤ 9223372036854775807 := by unfold lstI; have := ha.2; omega
  have h3 : lstI b ≤ 9223372036854775807 := by unfold lstI; have := hb.2; omega
  have HV := Lib.hid (show (if (lstI a + lstI b) / 18446744073709551616 = 0 ∧ (lstI a + lstI b) % 18446744073709551616 ≤ mostI then (lstI a + lstI b) % 18446744073709551616 else mostI) = satA a b by
    unfold satA mostI
    have e1 : (lstI a + lstI b) / 18446744073709551616 = 0 := by omega
    have e2 : (lstI a + lstI b) % 18446744073709551616 = lstI a + lstI b := by omega
    rw [e1, e2]
    split <;> omega)
  have HA := Lib.hid ha
  have HB := Lib.hid hb
  have HL1 := Lib.hid (least_at a ha)
  have HL2 := Lib.hid (least_at b hb)
  generalize lstI a = x at *
  generalize lstI b = y at *
  clear ha hb
  go_enter Tryz.func148, Tryz.ntmps148
  go_wp2_with fail
  refine (HL1.out _).mono ?_
  rintro v w1 ⟨rfl, rfl⟩
  go_wp2_with fail
  refine (HL2.out _).mono ?_
  rintro v w2 ⟨rfl, rfl⟩
  go_wp2_with (first | simp only [add64_0 x y h0 h1] | fail)
  refine (most_at _ _ (by omega) (by omega) _).mono ?_
  rintro v w3 ⟨rfl, rfl⟩
  rw [HV.out]
  go_wp2
  go_returns
  exact ⟨rfl, rfl⟩
set_option maxHeartbeats 1000000 in
/-- The product, halves: the library's own text, walked as the shelf walks it. -/
theorem mul64_at (x y : Nat) (hx : x < 18446744073709551616) (hy : y < 18446744073709551616) (w : World) :
    Calls Tryz.prog 272 #[.int .u64 (x : Int), .int .u64 (y : Int)] w fun e w' => e = .returned (.tuple #[.int .u64 ((x * y / 18446744073709551616 : Nat) : Int), .int .u64 ((x * y % 18446744073709551616 : Nat) : Int)]) ∧ w' = w := by
  obtain ⟨bd, bt, bw, hhi⟩ := Lib.mul64_hi x y hx hy
  have ba := Lib.half_mul_le (a := x / 4294967296) (b := y / 4294967296) (by omega) (by omega)
  have bb := Lib.half_mul_le (a := x / 4294967296) (b := y % 4294967296) (by omega) (by omega)
  have bc := Lib.half_mul_le (a := x % 4294967296) (b := y / 4294967296) (by omega) (by omega)
  have ba' : x / 4294967296 * (y / 4294967296) < 18446744073709551616 := by omega
  have bb' : x / 4294967296 * (y % 4294967296) < 18446744073709551616 := by omega
  have bc' : x % 4294967296 * (y / 4294967296) < 18446744073709551616 := by omega
  have bh1 : x / 4294967296 * (y / 4294967296) + (x / 4294967296 * (y % 4294967296) + x % 4294967296 * (y % 4294967296) / 4294967296) / 4294967296 < 18446744073709551616 := by omega
  have bh : x / 4294967296 * (y / 4294967296) + (x / 4294967296 * (y % 4294967296) + x % 4294967296 * (y % 4294967296) / 4294967296) / 4294967296 + ((x / 4294967296 * (y % 4294967296) + x % 4294967296 * (y % 4294967296) / 4294967296) % 4294967296 + x % 4294967296 * (y / 4294967296)) / 4294967296 < 18446744073709551616 := by omega
  go_enter Tryz.func272, Tryz.ntmps272
  go_wp2
  simp only [Mul64.maskN x hx, Mul64.maskN y hy, Mul64.divN, Mul64.mulN, Mul64.addN, Mul64.wrapN _ bd, Mul64.wrapN _ bb', Mul64.wrapN _ bt, Mul64.maskN _ bt, Mul64.wrapN _ bc', Mul64.wrapN _ bw, Mul64.wrapN _ ba', Mul64.wrapN _ bh1, Mul64.wrapN _ bh, Mul64.wrapM (x * y)]
  rw [hhi]
  go_ret2
  exact ⟨rfl, rfl⟩
theorem mul_at (a b : Int) (ha : I64 a) (hb : I64 b) (w : World) : Calls Tryz.prog 242 #[.int .i64 a, .int .i64 b] w fun v w' => v = .returned (.int .i64 (satM a b)) ∧ w' = w := by
  obtain ⟨x, hx⟩ : ∃ x : Nat, lstI a = (x : Int) := ⟨(lstI a).toNat, by unfold lstI; omega⟩
  obtain ⟨y, hy⟩ : ∃ y : Nat, lstI b = (y : Int) := ⟨(lstI b).toNat, by unfold lstI; omega⟩
  have h2 : x ≤ 9223372036854775807 := by have := ha.2; unfold lstI at hx; omega
  have h3 : y ≤ 9223372036854775807 := by have := hb.2; unfold lstI at hy; omega
  have HV := Lib.hid (show (if ((x * y / 18446744073709551616 : Nat) : Int) = 0 ∧ ((x * y % 18446744073709551616 : Nat) : Int) ≤ mostI then ((x * y % 18446744073709551616 : Nat) : Int) else mostI) = satM a b by
    unfold satM mostI
    rw [hx, hy]
    have e : (x : Int) * (y : Int) = ((x * y : Nat) : Int) := (Int.natCast_mul x y).symm
    rw [e]
    generalize x * y = z
    split <;> omega)
  have HL1 := Lib.hid (least_at a ha)
  have HL2 := Lib.hid (least_at b hb)
  rw [hx] at HL1
  rw [hy] at HL2
  have HM := Lib.hid (mul64_at x y (by omega) (by omega))
  obtain ⟨p, hp⟩ : ∃ p, x * y / 18446744073709551616 = p := ⟨_, rfl⟩
  obtain ⟨q, hq⟩ : ∃ q, x * y % 18446744073709551616 = q := ⟨_, rfl⟩
  have hq2 : q < 18446744073709551616 := by omega
  rw [hp, hq] at HM HV
  clear ha hb hx hy hp hq
  go_enter Tryz.func242, Tryz.ntmps242
  go_wp2_with fail
  refine (HL1.out _).mono ?_
  rintro v w1 ⟨rfl, rfl⟩
  go_wp2_with fail
  refine (HL2.out _).mono ?_
  rintro v w2 ⟨rfl, rfl⟩
  go_wp2_with fail
  refine (HM.out _).mono ?_
  rintro v w3 ⟨rfl, rfl⟩
  go_wp2_with fail
  refine (most_at _ _ (by omega) (by omega) _).mono ?_
  rintro v w3 ⟨rfl, rfl⟩
  rw [HV.out]
  go_wp2
  go_returns
  exact ⟨rfl, rfl⟩
def Ints64 (l : List Int) : Prop := ∀ n ∈ l, I64 n
set_option maxHeartbeats 1000000 in
theorem fold_add {v : Value} {l : List Int} {w : World} {a0 : Int} (ha : 0 ≤ a0 ∧ a0 ≤ mostI) (hv : Rd w .i64 v l) (hl : Ints64 l) :
    Calls Tryz.prog 147 #[.int .i64 a0, v, .func (.func 148) #[] #[]] w fun v w' => v = .returned (.int .i64 (l.foldl satA a0)) ∧ w' = w := by
  obtain ⟨A, c, rfl, h1, h2, h3⟩ := hv
  have H3 := Lib.hid h3
  have HL := Lib.hid hl
  have HR := Lib.hid (show ∀ k, 0 ≤ (l.take k).foldl satA a0 ∧ (l.take k).foldl satA a0 ≤ mostI from fun k => foldl_rng _ _ ha)
  have HT := Lib.hid (show ∀ k (hk : k < l.length), (l.take (k + 1)).foldl satA a0 = satA ((l.take k).foldl satA a0) l[k] from fun k hk => by rw [List.take_succ_eq_append_getElem hk, List.foldl_append]; rfl)
  have HE := Lib.hid (show (l.take l.length).foldl satA a0 = l.foldl satA a0 by rw [List.take_length])
  clear h3 hl
  go_enter Tryz.func147, Tryz.ntmps147
  go_wp2_with fail
  go_loopw [0, 11] (fun mv iv wr => ∃ k : Nat, k ≤ l.length ∧ iv = .int .i64 k ∧ mv = .int .i64 ((l.take k).foldl satA a0) ∧ wr = w) (fun _ iv _ => l.length - (intOf iv).toNat)
  case atStart => exact ⟨0, Nat.zero_le _, rfl, by rw [List.take_zero]; rfl, rfl⟩
  case round =>
    obtain ⟨k, hk, rfl, rfl, rfl⟩ := hrel
    rename World => w
    by_cases hlt : k < l.length
    · obtain ⟨ad, rfl, had, hc⟩ := H3.out k l[k] (List.getElem?_eq_getElem hlt)
      have hx := HL.out l[k] (List.getElem_mem hlt)
      have hr := HR.out k
      have HTk := Lib.hid (HT.out k hlt)
      generalize (l.take k).foldl satA a0 = x at *
      generalize l[k] = y at *
      have HC := Lib.hid (add_at x y ⟨by have := hr.1; omega, by have := hr.2; unfold mostI at this; omega⟩ hx)
      clear hx hr
      go_wp2_with fail
      refine (HC.out _).mono ?_
      rintro v w1 ⟨rfl, rfl⟩
      rename World => w
      go_wp2
      go_roundw
      case rel => exact ⟨k + 1, by omega, by go_num, by rw [HTk.out], trivial⟩
      case measure => simp [intOf]; omega
    · obtain rfl : k = l.length := by omega
      rw [HE.out]
      go_wp2
      go_returns
      exact ⟨rfl, rfl⟩
set_option maxHeartbeats 1000000 in
theorem fold_mul {v : Value} {l : List Int} {w : World} {a0 : Int} (ha : 0 ≤ a0 ∧ a0 ≤ mostI) (hv : Rd w .i64 v l) (hl : Ints64 l) :
    Calls Tryz.prog 147 #[.int .i64 a0, v, .func (.func 242) #[] #[]] w fun v w' => v = .returned (.int .i64 (l.foldl satM a0)) ∧ w' = w := by
  obtain ⟨A, c, rfl, h1, h2, h3⟩ := hv
  have H3 := Lib.hid h3
  have HL := Lib.hid hl
  have HR := Lib.hid (show ∀ k, 0 ≤ (l.take k).foldl satM a0 ∧ (l.take k).foldl satM a0 ≤ mostI from fun k => foldl_rngM _ _ ha)
  have HT := Lib.hid (show ∀ k (hk : k < l.length), (l.take (k + 1)).foldl satM a0 = satM ((l.take k).foldl satM a0) l[k] from fun k hk => by rw [List.take_succ_eq_append_getElem hk, List.foldl_append]; rfl)
  have HE := Lib.hid (show (l.take l.length).foldl satM a0 = l.foldl satM a0 by rw [List.take_length])
  clear h3 hl
  go_enter Tryz.func147, Tryz.ntmps147
  go_wp2_with fail
  go_loopw [0, 11] (fun mv iv wr => ∃ k : Nat, k ≤ l.length ∧ iv = .int .i64 k ∧ mv = .int .i64 ((l.take k).foldl satM a0) ∧ wr = w) (fun _ iv _ => l.length - (intOf iv).toNat)
  case atStart => exact ⟨0, Nat.zero_le _, rfl, by rw [List.take_zero]; rfl, rfl⟩
  case round =>
    obtain ⟨k, hk, rfl, rfl, rfl⟩ := hrel
    rename World => w
    by_cases hlt : k < l.length
    · obtain ⟨ad, rfl, had, hc⟩ := H3.out k l[k] (List.getElem?_eq_getElem hlt)
      have hx := HL.out l[k] (List.getElem_mem hlt)
      have hr := HR.out k
      have HTk := Lib.hid (HT.out k hlt)
      generalize (l.take k).foldl satM a0 = x at *
      generalize l[k] = y at *
      have HC := Lib.hid (mul_at x y ⟨by have := hr.1; omega, by have := hr.2; unfold mostI at this; omega⟩ hx)
      clear hx hr
      go_wp2_with fail
      refine (HC.out _).mono ?_
      rintro v w1 ⟨rfl, rfl⟩
      rename World => w
      go_wp2
      go_roundw
      case rel => exact ⟨k + 1, by omega, by go_num, by rw [HTk.out], trivial⟩
      case measure => simp [intOf]; omega
    · obtain rfl : k = l.length := by omega
      rw [HE.out]
      go_wp2
      go_returns
      exact ⟨rfl, rfl⟩
theorem addv_at {v : Value} {l : List Int} {w : World} (hv : Rd w .i64 v l) (hl : Ints64 l) :
    Calls Tryz.prog 99 #[v] w fun v w' => v = .returned (.int .i64 (addL l)) ∧ w' = w := by
  have H := Lib.hid (fold_add (a0 := 0) (by unfold mostI; omega) hv hl)
  obtain ⟨A, c, rfl, -⟩ := hv
  go_enter Tryz.func99, Tryz.ntmps99
  go_wp2_with fail
  refine H.out.mono ?_
  rintro v w1 ⟨rfl, rfl⟩
  go_wp2
  go_returns
  exact ⟨rfl, rfl⟩
theorem sumv_at {v : Value} {l : List Int} {w : World} (hv : Rd w .i64 v l) (hl : Ints64 l) :
    Calls Tryz.prog 273 #[v] w fun v w' => v = .returned (.int .i64 (addL l)) ∧ w' = w := by
  have H := Lib.hid (fold_add (a0 := 0) (by unfold mostI; omega) hv hl)
  obtain ⟨A, c, rfl, -⟩ := hv
  go_enter Tryz.func273, Tryz.ntmps273
  go_wp2_with fail
  refine H.out.mono ?_
  rintro v w1 ⟨rfl, rfl⟩
  go_wp2
  go_returns
  exact ⟨rfl, rfl⟩
set_option maxHeartbeats 1000000 in
theorem mulv_at {v : Value} {l : List Int} {w : World} (hv : Rd w .i64 v l) (hl : Ints64 l) :
    Calls Tryz.prog 185 #[v] w fun v w' => v = .returned (.int .i64 (mulL l)) ∧ w' = w := by
  have H := Lib.hid (fold_mul (a0 := 1) (by unfold mostI; omega) hv hl)
  obtain ⟨A, c, rfl, h1, h2, h3⟩ := hv
  have H3 := Lib.hid h3
  have HP := Lib.hid (show ∀ k (hk : k < l.length), l[k] ≤ 0 → mulL l = 0 from fun k hk h => by
    unfold mulL
    rw [if_pos (List.any_eq_true.2 ⟨l[k], List.getElem_mem hk, by simpa using h⟩)])
  have HN := Lib.hid (show (∀ k (hk : k < l.length), ¬l[k] ≤ 0) → mulL l = l.foldl satM 1 from fun h => by
    unfold mulL
    rw [if_neg]
    intro hh
    obtain ⟨x, hx, h2⟩ := List.any_eq_true.1 hh
    obtain ⟨k, hk, rfl⟩ := List.mem_iff_getElem.1 hx
    exact h k hk (by simpa using h2))
  clear h3
  go_enter Tryz.func185, Tryz.ntmps185
  go_wp2_with fail
  go_loopw [7] (fun iv wr => ∃ k : Nat, k ≤ l.length ∧ iv = .int .i64 k ∧ (∀ j (hj : j < l.length), j < k → ¬l[j] ≤ 0) ∧ wr = w) (fun iv _ => l.length - (intOf iv).toNat)
  case atStart => exact ⟨0, Nat.zero_le _, rfl, fun j _ h => absurd h (Nat.not_lt_zero _), rfl⟩
  case round =>
    obtain ⟨k, hk, rfl, hpos, rfl⟩ := hrel
    rename World => w
    have HPO := Lib.hid hpos
    clear hpos
    by_cases hlt : k < l.length
    · obtain ⟨ad, rfl, had, hc⟩ := H3.out k l[k] (List.getElem?_eq_getElem hlt)
      have HPk := Lib.hid (HP.out k hlt)
      have HX := Lib.hid (show ¬l[k] ≤ 0 → ∀ j (hj : j < l.length), j < k + 1 → ¬l[j] ≤ 0 from fun h j hj hlt => by
        rcases Nat.lt_or_ge j k with h' | h'
        · exact HPO.out j hj h'
        · obtain rfl : j = k := by omega
          exact h)
      generalize l[k] = y at *
      by_cases hy : y ≤ 0
      · go_wp2
        go_returns
        exact ⟨by rw [HPk.out hy]; rfl, rfl⟩
      · go_wp2
        go_roundw
        case rel => exact ⟨k + 1, by omega, by go_num, HX.out hy, trivial⟩
        case measure => simp [intOf]; omega
    · obtain rfl : k = l.length := by omega
      have HE := Lib.hid (HN.out fun k hk => by have := HPO.out k hk hk; omega)
      go_wp2_with fail
      refine H.out.mono ?_
      rintro v w1 ⟨rfl, rfl⟩
      go_wp2
      go_returns
      exact ⟨by rw [HE.out]; rfl, rfl⟩
end Go.Proofs.YtpiimcbbgalhfaaGreatDoor
/- core: how great a core would be: the plain model, and the walks of folded, repeated, measure. -/
namespace Go.Proofs.YtpiimcbbgalhfaaGreatDoor
open Go.RowKit
def foldedN (l : List Int) : Int := if l = [] then 1 else addL [addL l, (l.length : Int) - 1]
def tailN (lo hi size : Int) : Int := if hi = -1 then addL [size, 1] else if 0 < hi - lo then addL [mulL [hi - lo, addL [size, 2]], hi - lo - 1] else 0
def partsN (lo hi : Int) : Int := if hi = -1 then lo + 1 else if 0 < hi - lo then lo + 1 else lo
def repeatedN (lo hi size : Int) : Int := if partsN lo hi = 0 then 1 else addL [mulL [lo, size], tailN lo hi size, partsN lo hi - 1]
def nodeN (k lo hi : Int) (l : List Int) : Int := if k = 2 ∨ k = 3 then l.headD 0 else if k = 4 ∨ k = 5 then foldedN l else if k = 6 then repeatedN lo hi (l.headD 0) else 1
mutual
def coreN : Tree → Int
  | .mk k _ lo hi _ kids _ _ => nodeN k lo hi (coreNL kids)
def coreNL : List Tree → List Int
  | [] => []
  | n :: l => coreN n :: coreNL l
end
theorem coreNL_map (l : List Tree) : coreNL l = l.map coreN := by
  induction l with
  | nil => rfl
  | cons n l ih => simp only [coreNL, List.map_cons, ih]
theorem coreNL_length (l : List Tree) : (coreNL l).length = l.length := by rw [coreNL_map, List.length_map]
theorem coreNL_take {l : List Tree} {i : Nat} (h : i < l.length) : coreNL (l.take (i + 1)) = coreNL (l.take i) ++ [coreN l[i]] := by
  rw [List.take_succ_eq_append_getElem h, coreNL_map, coreNL_map, List.map_append]
  rfl
def Rng (n : Int) : Prop := 0 ≤ n ∧ n ≤ mostI
theorem Rng.i64 {n : Int} (h : Rng n) : I64 n := ⟨by have := h.1; omega, by have := h.2; unfold mostI at this; omega⟩
theorem nodeN_rng (k lo hi : Int) {l : List Int} (h : ∀ n ∈ l, Rng n) : Rng (nodeN k lo hi l) := by
  have h1 : Rng 1 := ⟨by omega, by unfold mostI; omega⟩
  have h0 : Rng 0 := ⟨by omega, by unfold mostI; omega⟩
  unfold nodeN
  split
  · cases l with
    | nil => exact h0
    | cons x l => exact h x (by simp)
  · split
    · unfold foldedN
      split
      · exact h1
      · exact addL_rng _
    · split
      · unfold repeatedN
        split
        · exact h1
        · exact addL_rng _
      · exact h1
mutual
theorem coreN_rng : ∀ n : Tree, Rng (coreN n)
  | .mk k s lo hi z kids f t => by
    simp only [coreN]
    exact nodeN_rng k lo hi (coreNL_rng kids)
theorem coreNL_rng : ∀ l : List Tree, ∀ n ∈ coreNL l, Rng n
  | [] => by simp [coreNL]
  | n :: l => by
    simp only [coreNL, List.mem_cons]
    rintro x (rfl | h)
    · exact coreN_rng n
    · exact coreNL_rng l x h
end
/-- A row of ints in a new block. -/
theorem rd_new (w : World) (l : List Int) (hl : l.length ≤ 1000) : Rd (w.alloc (.cells (l.map (Value.int .i64)).toArray 3)) .i64 (.slice (some ⟨w.heap.size, 0, none⟩) l.length l.length) l := by
  refine ⟨_, _, rfl, Nat.le_refl _, by omega, fun i x hx => ⟨_, rfl, by simp, ?_⟩⟩
  rw [show (⟨w.heap.size, 0, none⟩ : Addr).add i = ⟨w.heap.size, i, none⟩ by unfold Addr.add; split <;> simp_all]
  rw [(Blk.new w (l.map (Value.int .i64)) _).cell i, List.getElem?_map, hx]
  rfl
theorem ints2 {a b : Int} (ha : I64 a) (hb : I64 b) : Ints64 [a, b] := by
  intro n hn
  simp only [List.mem_cons, List.not_mem_nil, or_false] at hn
  rcases hn with rfl | rfl
  · exact ha
  · exact hb
theorem ints3 {a b c : Int} (ha : I64 a) (hb : I64 b) (hc : I64 c) : Ints64 [a, b, c] := by
  intro n hn
  simp only [List.mem_cons, List.not_mem_nil, or_false] at hn
  rcases hn with rfl | rfl | rfl
  · exact ha
  · exact hb
  · exact hc
/-- nat.Add, nat.Mul of two, of three in a new block. -/
theorem add2_at (a b : Int) (ha : I64 a) (hb : I64 b) (w : World) : Calls Tryz.prog 99 #[.slice (some ⟨w.heap.size, 0, none⟩) 2 2] (w.alloc (.cells #[.int .i64 a, .int .i64 b] 3)) fun v w' =>
    v = .returned (.int .i64 (addL [a, b])) ∧ Below w.heap.size w w' := (addv_at (rd_new w [a, b] (by simp)) (ints2 ha hb)).mono fun v w' ⟨h1, h2⟩ => ⟨h1, by rw [h2]; exact (Below.refl _ w).alloc (Nat.le_refl _) _⟩
theorem add3_at (a b c : Int) (ha : I64 a) (hb : I64 b) (hc : I64 c) (w : World) : Calls Tryz.prog 99 #[.slice (some ⟨w.heap.size, 0, none⟩) 3 3] (w.alloc (.cells #[.int .i64 a, .int .i64 b, .int .i64 c] 3)) fun v w' =>
    v = .returned (.int .i64 (addL [a, b, c])) ∧ Below w.heap.size w w' := (addv_at (rd_new w [a, b, c] (by simp)) (ints3 ha hb hc)).mono fun v w' ⟨h1, h2⟩ => ⟨h1, by rw [h2]; exact (Below.refl _ w).alloc (Nat.le_refl _) _⟩
theorem mul2_at (a b : Int) (ha : I64 a) (hb : I64 b) (w : World) : Calls Tryz.prog 185 #[.slice (some ⟨w.heap.size, 0, none⟩) 2 2] (w.alloc (.cells #[.int .i64 a, .int .i64 b] 3)) fun v w' =>
    v = .returned (.int .i64 (mulL [a, b])) ∧ Below w.heap.size w w' := (mulv_at (rd_new w [a, b] (by simp)) (ints2 ha hb)).mono fun v w' ⟨h1, h2⟩ => ⟨h1, by rw [h2]; exact (Below.refl _ w).alloc (Nat.le_refl _) _⟩
theorem folded_at {v : Value} {l : List Int} {w : World} (hv : Rd w .i64 v l) (hl : ∀ n ∈ l, Rng n) :
    Calls Tryz.prog 243 #[v] w fun v w' => v = .returned (.int .i64 (foldedN l)) ∧ Below w.heap.size w w' := by
  by_cases h0 : l.length = 0
  · obtain rfl : l = [] := List.eq_nil_of_length_eq_zero h0
    obtain ⟨A, c, rfl, -⟩ := hv
    go_enter Tryz.func243, Tryz.ntmps243
    go_wp2
    go_returns
    exact ⟨rfl, Below.refl _ _⟩
  · have hlen := hv.length
    have HS := Lib.hid (sumv_at hv fun n hn => (hl n hn).i64)
    have HF := Lib.hid (show foldedN l = addL [addL l, (l.length : Int) - 1] by unfold foldedN; rw [if_neg (fun e => h0 (by rw [e]; rfl))])
    obtain ⟨A, c, rfl, -⟩ := hv
    have hz : (((l.length : Nat) : Int) == 0) = false := by rw [beq_eq_false_iff_ne]; omega
    have hr := Lib.hid (show I64 (addL l) from (show Rng (addL l) from addL_rng l).i64)
    go_enter Tryz.func243, Tryz.ntmps243
    go_wp2_with fail
    refine HS.out.mono ?_
    rintro v w1 ⟨rfl, rfl⟩
    rename World => w
    go_wp2_with fail
    refine (add2_at (addL l) ((l.length : Int) - 1) hr.out ⟨by omega, by omega⟩ w).mono ?_
    rintro v w1 ⟨rfl, hb⟩
    go_wp2
    go_returns
    exact ⟨by rw [HF.out]; rfl, hb⟩
theorem rng_add (l : List Int) : Rng (addL l) := addL_rng l
theorem rng_mul (l : List Int) : Rng (mulL l) := mulL_rng l
/-- The sum of three at the end of repeated. -/
theorem repeated_end {lo hi size p t : Int} (hp : partsN lo hi = p) (ht : tailN lo hi size = t) (h : p ≠ 0) : repeatedN lo hi size = addL [mulL [lo, size], t, p - 1] := by
  unfold repeatedN
  rw [hp, ht, if_neg h]
set_option maxHeartbeats 8000000 in
theorem repeated_at {nb : Nat} {lo hi size : Int} {w : World} (hlo : 0 ≤ lo ∧ lo ≤ 1048576) (hhi : -1 ≤ hi ∧ hi ≤ 1048576) (hs : Rng size) (c5 : w.cell? ⟨nb, 5, none⟩ = some (.int .i64 lo)) (c6 : w.cell? ⟨nb, 6, none⟩ = some (.int .i64 hi)) :
    Calls Tryz.prog 244 #[ptrV nb, .int .i64 size] w fun v w' => v = .returned (.int .i64 (repeatedN lo hi size)) ∧ Below w.heap.size w w' := by
  have hnl := cell_lt0 c5
  have HNL := Lib.hid hnl
  have HC5 := Lib.hid c5
  have HC6 := Lib.hid c6
  have HSI := Lib.hid hs.i64
  have HQ := Lib.hid (show ∀ l, I64 (addL l) from fun l => (rng_add l).i64)
  have HQM := Lib.hid (show ∀ l, I64 (mulL l) from fun l => (rng_mul l).i64)
  have h1 : I64 1 := ⟨by omega, by omega⟩
  have h2 : I64 2 := ⟨by omega, by omega⟩
  have hw : IntKind.i64.wrap (hi - lo) = hi - lo := IntWalk.i64_in _ (by omega)
  clear hs
  by_cases hm1 : hi = -1
  · have HR := Lib.hid (repeated_end (lo := lo) (hi := hi) (size := size) (p := lo + 1) (t := addL [size, 1]) (by unfold partsN; rw [if_pos hm1]) (by unfold tailN; rw [if_pos hm1]) (by omega))
    have hz : (lo + 1 == 0) = false := by rw [beq_eq_false_iff_ne]; omega
    have hq : (hi == -1) = true := by rw [beq_iff_eq]; exact hm1
    rw [show lo + 1 - 1 = lo by omega] at HR
    clear hm1
    have HB := Lib.hid (Below.refl w.heap.size w)
    go_enter Tryz.func244, Tryz.ntmps244
    go_wp2_with fail
    go_quiet (fail)
    have hb := HB.out.trans ((below_drewN (Below.refl w.heap.size w) nq).mono HB.out.size)
    generalize World.drewN _ nq = w1 at *
    clear HB c5 c6 hnl
    have HB := Lib.hid hb
    clear hb
    have c5 : w1.cell? ⟨nb, 5, none⟩ = some (.int .i64 lo) := (HB.out.cell (p := ⟨nb, 5, none⟩) HNL.out).trans HC5.out
    have c6 : w1.cell? ⟨nb, 6, none⟩ = some (.int .i64 hi) := (HB.out.cell (p := ⟨nb, 6, none⟩) HNL.out).trans HC6.out
    have hnl := cell_lt0 c5
    go_wp2_with fail
    go_quiet (fail)
    have hb := HB.out.trans ((below_drewN (Below.refl w1.heap.size w1) nq).mono HB.out.size)
    generalize World.drewN _ nq = w2 at *
    clear HB c5 c6 hnl
    have HB := Lib.hid hb
    clear hb
    have c5 : w2.cell? ⟨nb, 5, none⟩ = some (.int .i64 lo) := (HB.out.cell (p := ⟨nb, 5, none⟩) HNL.out).trans HC5.out
    have c6 : w2.cell? ⟨nb, 6, none⟩ = some (.int .i64 hi) := (HB.out.cell (p := ⟨nb, 6, none⟩) HNL.out).trans HC6.out
    have hnl := cell_lt0 c5
    go_wp2_with fail
    refine (add2_at size 1 HSI.out h1 w2).mono ?_
    rintro v w3 ⟨rfl, hb9⟩
    have hb := HB.out.trans (hb9.mono HB.out.size)
    clear HB c5 c6 hnl hb9
    have HB := Lib.hid hb
    clear hb
    have c5 : w3.cell? ⟨nb, 5, none⟩ = some (.int .i64 lo) := (HB.out.cell (p := ⟨nb, 5, none⟩) HNL.out).trans HC5.out
    have c6 : w3.cell? ⟨nb, 6, none⟩ = some (.int .i64 hi) := (HB.out.cell (p := ⟨nb, 6, none⟩) HNL.out).trans HC6.out
    have hnl := cell_lt0 c5
    go_wp2_with fail
    refine (mul2_at lo size ⟨by omega, by omega⟩ HSI.out w3).mono ?_
    rintro v v1 ⟨rfl, hb9⟩
    have hb := HB.out.trans (hb9.mono HB.out.size)
    clear HB c5 c6 hnl hb9
    have HB := Lib.hid hb
    clear hb
    have c5 : v1.cell? ⟨nb, 5, none⟩ = some (.int .i64 lo) := (HB.out.cell (p := ⟨nb, 5, none⟩) HNL.out).trans HC5.out
    have c6 : v1.cell? ⟨nb, 6, none⟩ = some (.int .i64 hi) := (HB.out.cell (p := ⟨nb, 6, none⟩) HNL.out).trans HC6.out
    have hnl := cell_lt0 c5
    go_wp2_with fail
    refine (add3_at (mulL [lo, size]) (addL [size, 1]) (lo) (HQM.out _) (HQ.out _) ⟨by omega, by omega⟩ v1).mono ?_
    rintro v v2 ⟨rfl, hb9⟩
    have hb := HB.out.trans (hb9.mono HB.out.size)
    clear HB c5 c6 hnl hb9
    have HB := Lib.hid hb
    clear hb
    have c5 : v2.cell? ⟨nb, 5, none⟩ = some (.int .i64 lo) := (HB.out.cell (p := ⟨nb, 5, none⟩) HNL.out).trans HC5.out
    have c6 : v2.cell? ⟨nb, 6, none⟩ = some (.int .i64 hi) := (HB.out.cell (p := ⟨nb, 6, none⟩) HNL.out).trans HC6.out
    have hnl := cell_lt0 c5
    go_wp2
    go_returns
    exact ⟨by rw [HR.out]; rfl, HB.out⟩
  have hq : (hi == -1) = false := by rw [beq_eq_false_iff_ne]; exact hm1
  by_cases hk : 0 < hi - lo
  · have HR := Lib.hid (repeated_end (lo := lo) (hi := hi) (size := size) (p := lo + 1) (t := addL [mulL [hi - lo, addL [size, 2]], hi - lo - 1]) (by unfold partsN; rw [if_neg hm1, if_pos hk]) (by unfold tailN; rw [if_neg hm1, if_pos hk]) (by omega))
    have hz : (lo + 1 == 0) = false := by rw [beq_eq_false_iff_ne]; omega
    rw [show lo + 1 - 1 = lo by omega] at HR
    clear hm1
    have HB := Lib.hid (Below.refl w.heap.size w)
    go_enter Tryz.func244, Tryz.ntmps244
    go_wp2_with fail
    go_quiet (fail)
    have hb := HB.out.trans ((below_drewN (Below.refl w.heap.size w) nq).mono HB.out.size)
    generalize World.drewN _ nq = w1 at *
    clear HB c5 c6 hnl
    have HB := Lib.hid hb
    clear hb
    have c5 : w1.cell? ⟨nb, 5, none⟩ = some (.int .i64 lo) := (HB.out.cell (p := ⟨nb, 5, none⟩) HNL.out).trans HC5.out
    have c6 : w1.cell? ⟨nb, 6, none⟩ = some (.int .i64 hi) := (HB.out.cell (p := ⟨nb, 6, none⟩) HNL.out).trans HC6.out
    have hnl := cell_lt0 c5
    go_wp2_with fail
    go_quiet (fail)
    have hb := HB.out.trans ((below_drewN (Below.refl w1.heap.size w1) nq).mono HB.out.size)
    generalize World.drewN _ nq = w2 at *
    clear HB c5 c6 hnl
    have HB := Lib.hid hb
    clear hb
    have c5 : w2.cell? ⟨nb, 5, none⟩ = some (.int .i64 lo) := (HB.out.cell (p := ⟨nb, 5, none⟩) HNL.out).trans HC5.out
    have c6 : w2.cell? ⟨nb, 6, none⟩ = some (.int .i64 hi) := (HB.out.cell (p := ⟨nb, 6, none⟩) HNL.out).trans HC6.out
    have hnl := cell_lt0 c5
    go_wp2_with fail
    refine (add2_at size 2 HSI.out h2 w2).mono ?_
    rintro v w3 ⟨rfl, hb9⟩
    have hb := HB.out.trans (hb9.mono HB.out.size)
    clear HB c5 c6 hnl hb9
    have HB := Lib.hid hb
    clear hb
    have c5 : w3.cell? ⟨nb, 5, none⟩ = some (.int .i64 lo) := (HB.out.cell (p := ⟨nb, 5, none⟩) HNL.out).trans HC5.out
    have c6 : w3.cell? ⟨nb, 6, none⟩ = some (.int .i64 hi) := (HB.out.cell (p := ⟨nb, 6, none⟩) HNL.out).trans HC6.out
    have hnl := cell_lt0 c5
    go_wp2_with fail
    refine (mul2_at (hi - lo) (addL [size, 2]) ⟨by omega, by omega⟩ (HQ.out _) w3).mono ?_
    rintro v w4 ⟨rfl, hb9⟩
    have hb := HB.out.trans (hb9.mono HB.out.size)
    clear HB c5 c6 hnl hb9
    have HB := Lib.hid hb
    clear hb
    have c5 : w4.cell? ⟨nb, 5, none⟩ = some (.int .i64 lo) := (HB.out.cell (p := ⟨nb, 5, none⟩) HNL.out).trans HC5.out
    have c6 : w4.cell? ⟨nb, 6, none⟩ = some (.int .i64 hi) := (HB.out.cell (p := ⟨nb, 6, none⟩) HNL.out).trans HC6.out
    have hnl := cell_lt0 c5
    go_wp2_with fail
    refine (add2_at (mulL [hi - lo, addL [size, 2]]) (hi - lo - 1) (HQM.out _) ⟨by omega, by omega⟩ w4).mono ?_
    rintro v w5 ⟨rfl, hb9⟩
    have hb := HB.out.trans (hb9.mono HB.out.size)
    clear HB c5 c6 hnl hb9
    have HB := Lib.hid hb
    clear hb
    have c5 : w5.cell? ⟨nb, 5, none⟩ = some (.int .i64 lo) := (HB.out.cell (p := ⟨nb, 5, none⟩) HNL.out).trans HC5.out
    have c6 : w5.cell? ⟨nb, 6, none⟩ = some (.int .i64 hi) := (HB.out.cell (p := ⟨nb, 6, none⟩) HNL.out).trans HC6.out
    have hnl := cell_lt0 c5
    go_wp2_with fail
    refine (mul2_at lo size ⟨by omega, by omega⟩ HSI.out w5).mono ?_
    rintro v v1 ⟨rfl, hb9⟩
    have hb := HB.out.trans (hb9.mono HB.out.size)
    clear HB c5 c6 hnl hb9
    have HB := Lib.hid hb
    clear hb
    have c5 : v1.cell? ⟨nb, 5, none⟩ = some (.int .i64 lo) := (HB.out.cell (p := ⟨nb, 5, none⟩) HNL.out).trans HC5.out
    have c6 : v1.cell? ⟨nb, 6, none⟩ = some (.int .i64 hi) := (HB.out.cell (p := ⟨nb, 6, none⟩) HNL.out).trans HC6.out
    have hnl := cell_lt0 c5
    go_wp2_with fail
    refine (add3_at (mulL [lo, size]) (addL [mulL [hi - lo, addL [size, 2]], hi - lo - 1]) (lo) (HQM.out _) (HQ.out _) ⟨by omega, by omega⟩ v1).mono ?_
    rintro v v2 ⟨rfl, hb9⟩
    have hb := HB.out.trans (hb9.mono HB.out.size)
    clear HB c5 c6 hnl hb9
    have HB := Lib.hid hb
    clear hb
    have c5 : v2.cell? ⟨nb, 5, none⟩ = some (.int .i64 lo) := (HB.out.cell (p := ⟨nb, 5, none⟩) HNL.out).trans HC5.out
    have c6 : v2.cell? ⟨nb, 6, none⟩ = some (.int .i64 hi) := (HB.out.cell (p := ⟨nb, 6, none⟩) HNL.out).trans HC6.out
    have hnl := cell_lt0 c5
    go_wp2
    go_returns
    exact ⟨by rw [HR.out]; rfl, HB.out⟩
  have hpt : partsN lo hi = lo := by unfold partsN; rw [if_neg hm1, if_neg hk]
  have htt : tailN lo hi size = 0 := by unfold tailN; rw [if_neg hm1, if_neg hk]
  by_cases h0 : lo = 0
  · have HR := Lib.hid (show repeatedN lo hi size = 1 by unfold repeatedN; rw [hpt, if_pos h0])
    have hz : (lo == 0) = true := by rw [beq_iff_eq]; exact h0
    clear hm1 h0 hpt htt
    have HB := Lib.hid (Below.refl w.heap.size w)
    go_enter Tryz.func244, Tryz.ntmps244
    go_wp2_with fail
    go_quiet (fail)
    have hb := HB.out.trans ((below_drewN (Below.refl w.heap.size w) nq).mono HB.out.size)
    generalize World.drewN _ nq = w1 at *
    clear HB c5 c6 hnl
    have HB := Lib.hid hb
    clear hb
    have c5 : w1.cell? ⟨nb, 5, none⟩ = some (.int .i64 lo) := (HB.out.cell (p := ⟨nb, 5, none⟩) HNL.out).trans HC5.out
    have c6 : w1.cell? ⟨nb, 6, none⟩ = some (.int .i64 hi) := (HB.out.cell (p := ⟨nb, 6, none⟩) HNL.out).trans HC6.out
    have hnl := cell_lt0 c5
    go_wp2_with fail
    go_quiet (fail)
    have hb := HB.out.trans ((below_drewN (Below.refl w1.heap.size w1) nq).mono HB.out.size)
    generalize World.drewN _ nq = w2 at *
    clear HB c5 c6 hnl
    have HB := Lib.hid hb
    clear hb
    have c5 : w2.cell? ⟨nb, 5, none⟩ = some (.int .i64 lo) := (HB.out.cell (p := ⟨nb, 5, none⟩) HNL.out).trans HC5.out
    have c6 : w2.cell? ⟨nb, 6, none⟩ = some (.int .i64 hi) := (HB.out.cell (p := ⟨nb, 6, none⟩) HNL.out).trans HC6.out
    have hnl := cell_lt0 c5
    go_wp2
    go_returns
    exact ⟨by rw [HR.out]; rfl, HB.out⟩
  · have HR := Lib.hid (repeated_end hpt htt h0)
    have hz : (lo == 0) = false := by rw [beq_eq_false_iff_ne]; exact h0
    clear hm1 hpt htt
    have HB := Lib.hid (Below.refl w.heap.size w)
    go_enter Tryz.func244, Tryz.ntmps244
    go_wp2_with fail
    go_quiet (fail)
    have hb := HB.out.trans ((below_drewN (Below.refl w.heap.size w) nq).mono HB.out.size)
    generalize World.drewN _ nq = w1 at *
    clear HB c5 c6 hnl
    have HB := Lib.hid hb
    clear hb
    have c5 : w1.cell? ⟨nb, 5, none⟩ = some (.int .i64 lo) := (HB.out.cell (p := ⟨nb, 5, none⟩) HNL.out).trans HC5.out
    have c6 : w1.cell? ⟨nb, 6, none⟩ = some (.int .i64 hi) := (HB.out.cell (p := ⟨nb, 6, none⟩) HNL.out).trans HC6.out
    have hnl := cell_lt0 c5
    go_wp2_with fail
    go_quiet (fail)
    have hb := HB.out.trans ((below_drewN (Below.refl w1.heap.size w1) nq).mono HB.out.size)
    generalize World.drewN _ nq = w2 at *
    clear HB c5 c6 hnl
    have HB := Lib.hid hb
    clear hb
    have c5 : w2.cell? ⟨nb, 5, none⟩ = some (.int .i64 lo) := (HB.out.cell (p := ⟨nb, 5, none⟩) HNL.out).trans HC5.out
    have c6 : w2.cell? ⟨nb, 6, none⟩ = some (.int .i64 hi) := (HB.out.cell (p := ⟨nb, 6, none⟩) HNL.out).trans HC6.out
    have hnl := cell_lt0 c5
    go_wp2_with fail
    refine (mul2_at lo size ⟨by omega, by omega⟩ HSI.out w2).mono ?_
    rintro v v1 ⟨rfl, hb9⟩
    have hb := HB.out.trans (hb9.mono HB.out.size)
    clear HB c5 c6 hnl hb9
    have HB := Lib.hid hb
    clear hb
    have c5 : v1.cell? ⟨nb, 5, none⟩ = some (.int .i64 lo) := (HB.out.cell (p := ⟨nb, 5, none⟩) HNL.out).trans HC5.out
    have c6 : v1.cell? ⟨nb, 6, none⟩ = some (.int .i64 hi) := (HB.out.cell (p := ⟨nb, 6, none⟩) HNL.out).trans HC6.out
    have hnl := cell_lt0 c5
    go_wp2_with fail
    refine (add3_at (mulL [lo, size]) (0) (lo - 1) (HQM.out _) ⟨by omega, by omega⟩ ⟨by omega, by omega⟩ v1).mono ?_
    rintro v v2 ⟨rfl, hb9⟩
    have hb := HB.out.trans (hb9.mono HB.out.size)
    clear HB c5 c6 hnl hb9
    have HB := Lib.hid hb
    clear hb
    have c5 : v2.cell? ⟨nb, 5, none⟩ = some (.int .i64 lo) := (HB.out.cell (p := ⟨nb, 5, none⟩) HNL.out).trans HC5.out
    have c6 : v2.cell? ⟨nb, 6, none⟩ = some (.int .i64 hi) := (HB.out.cell (p := ⟨nb, 6, none⟩) HNL.out).trans HC6.out
    have hnl := cell_lt0 c5
    go_wp2
    go_returns
    exact ⟨by rw [HR.out]; rfl, HB.out⟩
end Go.Proofs.YtpiimcbbgalhfaaGreatDoor
