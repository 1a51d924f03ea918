/- The tree's form: what the rows are asked. -/
import Derived.Test.YtpiimcbbgalhfaaGreatDoorBl
namespace Go.Proofs.YtpiimcbbgalhfaaGreatDoor
set_option maxRecDepth 100000
open Go.RowKit
/-- A row of n pointers, none of them nil. -/
def RowP (w : World) (A : Option Addr) (n : Nat) : Prop := ∀ i, i < n → ∃ ga g, A = some ⟨ga, 0, none⟩ ∧ w.cell? ⟨ga, i, none⟩ = some (ptrV g)
set_option maxHeartbeats 4000000 in
theorem index_nil {w : World} {A : Option Addr} {n c : Nat} (hn : n ≤ 1048577) (h : RowP w A n) :
    Calls Tryz.prog 270 #[.slice A n c, .pointer none] w fun v w' => v = .returned (.int .i64 (-1)) ∧ w' = w := by
  have H := Lib.hid h
  clear h
  have hrun : ∀ (b : Nat) (w : World), (binOp .eql 26 (.pointer none) (.pointer (some ⟨b, 0, none⟩))).run Tryz.prog w = .ok (.bool false) w := by
    intro b w
    simp only [binOp]
    simp [Op.equal, Op.maxDepth, run_nil_ptr 9999 b w]
  go_enter Tryz.func270, Tryz.ntmps270
  go_wp2_with fail
  go_loopw [8] (fun iv wr => ∃ i : Nat, i ≤ n ∧ iv = .int .i64 ((i : Nat) : Int) ∧ wr = w) (fun iv _ => n - (intOf iv).toNat)
  case atStart => exact ⟨0, Nat.zero_le _, rfl, rfl⟩
  case round =>
    obtain ⟨i, hi, rfl, rfl⟩ := hrel
    rename World => w
    by_cases hlt : i < n
    · obtain ⟨ga, g, rfl, cg⟩ := H.out i hlt
      have hgl := cell_lt0 cg
      go_wp2
      go_roundw
      case rel => exact ⟨i + 1, hlt, by go_num, trivial⟩
      case measure => simp [intOf]; omega
    · obtain rfl : i = n := by omega
      go_wp2
      go_returns
      exact ⟨rfl, rfl⟩
theorem contains_nil {w : World} {A : Option Addr} {n c : Nat} (hn : n ≤ 1048577) (h : RowP w A n) :
    Calls Tryz.prog 235 #[.slice A n c, .pointer none] w fun v w' => v = .returned (.bool false) ∧ w' = w := by
  go_enter Tryz.func235, Tryz.ntmps235
  go_wp2_with fail
  refine (index_nil hn h).mono ?_
  rintro v w1 ⟨rfl, rfl⟩
  go_wp2
  go_returns
  exact ⟨rfl, rfl⟩
set_option maxHeartbeats 4000000 in
theorem index_kind {w : World} {g c : Nat} {l : List Int} {x : Int} (_hx : 0 ≤ x ∧ x ≤ 9223372036854775807) (hl : l.length ≤ 1000) (h : ∀ i, (hi : i < l.length) → w.cell? ⟨g, i, none⟩ = some (.int .i64 l[i])) :
    Calls Tryz.prog 271 #[.slice (some ⟨g, 0, none⟩) l.length c, .int .i64 x] w fun v w' => (∃ r : Int, v = .returned (.int .i64 r) ∧ decide (r ≥ 0) = l.contains x) ∧ w' = w := by
  have H := Lib.hid h
  clear h
  have HT := Lib.hid (show ∀ i, (hi : i < l.length) → (x == l[i]) = true → l.contains x = true from fun i hi e => by
    rw [eq_of_beq e]
    exact List.contains_iff_mem.2 (List.getElem_mem hi))
  have HF := Lib.hid (show (∀ i, (hi : i < l.length) → (x == l[i]) = false) → l.contains x = false from fun hall => by
    rw [← Bool.not_eq_true]
    intro e
    obtain ⟨i, hi, e⟩ := List.getElem_of_mem (List.contains_iff_mem.1 e)
    have := hall i hi
    rw [e, beq_self_eq_true] at this
    cases this)
  generalize l.contains x = q at *
  go_enter Tryz.func271, Tryz.ntmps271
  go_wp2_with fail
  go_loopw [8] (fun iv wr => ∃ i : Nat, i ≤ l.length ∧ iv = .int .i64 ((i : Nat) : Int) ∧ (∀ j, (hj : j < l.length) → j < i → (x == l[j]) = false) ∧ wr = w) (fun iv _ => l.length - (intOf iv).toNat)
  case atStart => exact ⟨0, Nat.zero_le _, rfl, fun j _ h => absurd h (Nat.not_lt_zero _), rfl⟩
  case round =>
    obtain ⟨i, hi, rfl, hp, rfl⟩ := hrel
    rename World => w
    have HP := Lib.hid hp
    clear hp
    by_cases hlt : i < l.length
    · have cg := H.out i hlt
      have HX := Lib.hid (HT.out i hlt)
      have HY := Lib.hid (show (x == l[i]) = false → ∀ j, (hj : j < l.length) → j < i + 1 → (x == l[j]) = false from fun e j hj hji => by
        rcases Nat.lt_or_ge j i with h | h
        · exact HP.out j hj h
        · obtain rfl : j = i := by omega
          exact e)
      generalize l[i] = y at *
      cases hb : (x == y) with
      | true =>
        go_wp2
        go_returns
        exact ⟨⟨_, rfl, by rw [HX.out hb]; simp⟩, rfl⟩
      | false =>
        go_wp2
        go_roundw
        case rel => exact ⟨i + 1, hlt, by go_num, HY.out hb, trivial⟩
        case measure => simp [intOf]; omega
    · obtain rfl : i = l.length := by omega
      go_wp2
      go_returns
      exact ⟨⟨_, rfl, by rw [HF.out (fun j hj => HP.out j hj hj)]; rfl⟩, rfl⟩
theorem contains_kind {w : World} {g c : Nat} {l : List Int} {x : Int} (hx : 0 ≤ x ∧ x ≤ 9223372036854775807) (hl : l.length ≤ 1000) (h : ∀ i, (hi : i < l.length) → w.cell? ⟨g, i, none⟩ = some (.int .i64 l[i])) :
    Calls Tryz.prog 239 #[.slice (some ⟨g, 0, none⟩) l.length c, .int .i64 x] w fun v w' => v = .returned (.bool (l.contains x)) ∧ w' = w := by
  go_enter Tryz.func239, Tryz.ntmps239
  go_wp2_with fail
  refine (index_kind hx hl h).mono ?_
  rintro v w1 ⟨⟨r, rfl, hr⟩, rfl⟩
  have HR := Lib.hid hr
  clear hr
  go_wp2
  go_returns
  exact ⟨by rw [← HR.out]; rfl, rfl⟩
def plainB (n : Tree) : Bool := n.lo == 0 && n.hi == 0 && !n.lazy
def countB (n : Tree) : Bool := decide (0 ≤ n.lo) && decide (n.lo ≤ 1000) && (n.hi == -1 || (decide (n.lo ≤ n.hi) && decide (n.hi ≤ 1000)))
set_option maxHeartbeats 4000000 in
theorem plain_at {w : World} {b : Nat} {lo hi : Int} {z : Bool} (c2 : w.cell? ⟨b, 5, none⟩ = some (.int .i64 lo)) (c3 : w.cell? ⟨b, 6, none⟩ = some (.int .i64 hi)) (c4 : w.cell? ⟨b, 7, none⟩ = some (.bool z)) :
    Calls Tryz.prog 236 #[ptrV b] w fun v w' => v = .returned (.bool (lo == 0 && hi == 0 && !z)) ∧ w' = w := by
  have hlt := cell_lt0 c2
  cases h1 : (lo == 0) <;> cases h2 : (hi == 0) <;> cases z <;> (
  go_enter Tryz.func236, Tryz.ntmps236
  go_wp2
  go_returns
  exact ⟨rfl, rfl⟩)
/-- The row's places, asked one after the other by a function value whose answers are told. -/
def AskR (p : Nat → Bool) (n : Nat) (r : Int) : Prop := (∃ i : Nat, i < n ∧ p i = true ∧ r = (i : Int)) ∨ ((∀ i, i < n → p i = false) ∧ r = -1)
end Go.Proofs.YtpiimcbbgalhfaaGreatDoor
/- The tree's form: functions asked of a row. -/
namespace Go.Proofs.YtpiimcbbgalhfaaGreatDoor
set_option maxRecDepth 100000
open Go.RowKit
theorem AskR.any {p : Nat → Bool} {n : Nat} {r : Int} (h : AskR p n r) : (List.range n).any p = decide (0 ≤ r) := by
  rcases h with ⟨i, hi, hp, rfl⟩ | ⟨hp, rfl⟩
  · rw [List.any_eq_true.2 ⟨i, List.mem_range.2 hi, hp⟩]
    simp
  · rw [List.any_eq_false.2 fun i hi => by rw [hp i (List.mem_range.1 hi)]; simp]
    rfl
set_option maxHeartbeats 4000000 in
theorem ask_kind {w : World} {b kb g cc : Nat} {l : List Int} {x : Int} (hx : 0 ≤ x ∧ x ≤ 9223372036854775807) (hl : l.length ≤ 1000) (c0 : w.cell? ⟨b, 0, none⟩ = some (.int .i64 x))
    (ck : w.cell? ⟨kb, 0, none⟩ = some (.slice (some ⟨g, 0, none⟩) l.length cc)) (h : ∀ i, (hi : i < l.length) → w.cell? ⟨g, i, none⟩ = some (.int .i64 l[i])) :
    Calls Tryz.prog 238 #[ptrV b, ptrV kb] w fun v w' => v = .returned (.bool (l.contains x)) ∧ Below w.heap.size w w' := by
  have hbl := cell_lt0 c0
  have hkl := cell_lt0 ck
  go_enter Tryz.func238, Tryz.ntmps238
  go_wp2_with fail
  go_region_held3 (fun w' => w'.cell? ⟨kb, 0, none⟩ = some (.slice (some ⟨g, 0, none⟩) l.length cc) ∧ w'.cell? ⟨b, 0, none⟩ = some (.int .i64 x)) (go_keep)
    (first
      | (go_at_call 239; refine (contains_kind (g := g) (c := cc) hx hl ?_).mono ?_; (intro i hi; exact h i hi); rintro e w8 ⟨rfl, rfl⟩))
  all_goals
    go_wp2
    go_returns
    first
      | exact ⟨by simp, below_drewN (Below.refl _ _) _⟩
      | exact ⟨by simp, (Below.refl _ _).drew⟩
set_option maxHeartbeats 4000000 in
theorem indexf_kind {w : World} {A : Option Addr} {n c kb g cc : Nat} {l : List Int} (kd : Nat → Int) (hkd : ∀ i, 0 ≤ kd i ∧ kd i ≤ 9223372036854775807) (hl : l.length ≤ 1000) (hn : n ≤ 1048577)
    (hr : ∀ i, i < n → ∃ ga g, A = some ⟨ga, 0, none⟩ ∧ w.cell? ⟨ga, i, none⟩ = some (ptrV g) ∧ w.cell? ⟨g, 0, none⟩ = some (.int .i64 (kd i)))
    (ck : w.cell? ⟨kb, 0, none⟩ = some (.slice (some ⟨g, 0, none⟩) l.length cc)) (h : ∀ i, (hi : i < l.length) → w.cell? ⟨g, i, none⟩ = some (.int .i64 l[i])) (hgl : g < w.heap.size) :
    Calls Tryz.prog 241 #[.slice A n c, .func (.func 238) #[] #[ptrV kb]] w fun v w' => (∃ r : Int, v = .returned (.int .i64 r) ∧ AskR (fun i => l.contains (kd i)) n r) ∧ Below w.heap.size w w' := by
  have H := Lib.hid hr
  have HK := Lib.hid h
  have hkl := cell_lt0 ck
  have CK := Lib.hid ck
  clear h hr ck
  go_enter Tryz.func241, Tryz.ntmps241
  go_wp2_with fail
  go_loopw [8] (fun iv wr => ∃ i : Nat, i ≤ n ∧ iv = .int .i64 ((i : Nat) : Int) ∧ (∀ j, j < i → l.contains (kd j) = false) ∧ Below w.heap.size w wr) (fun iv _ => n - (intOf iv).toNat)
  case atStart => exact ⟨0, Nat.zero_le _, rfl, fun j h => absurd h (Nat.not_lt_zero _), Below.refl _ _⟩
  case round =>
    obtain ⟨i, hi, rfl, hp, hb⟩ := hrel
    have HP := Lib.hid hp
    clear hp
    by_cases hlt : i < n
    · obtain ⟨ga, g', rfl, cg, cgk⟩ := H.out i hlt
      have cg1 : wr.cell? ⟨ga, i, none⟩ = some (ptrV g') := (World.cell?_of_block (hb.block _ (cell_lt0 cg))).trans cg
      have cg2 : wr.cell? ⟨g', 0, none⟩ = some (.int .i64 (kd i)) := (World.cell?_of_block (hb.block _ (cell_lt0 cgk))).trans cgk
      have ck1 : wr.cell? ⟨kb, 0, none⟩ = some (.slice (some ⟨g, 0, none⟩) l.length cc) := (World.cell?_of_block (hb.block _ hkl)).trans CK.out
      have HK1 := Lib.hid (show ∀ i, (hi : i < l.length) → wr.cell? ⟨g, i, none⟩ = some (.int .i64 l[i]) from fun i hi => (World.cell?_of_block (hb.block _ hgl)).trans (HK.out i hi))
      have hgl := cell_lt0 cg1
      have hx := hkd i
      have HX := Lib.hid (show l.contains (kd i) = false → ∀ j, j < i + 1 → l.contains (kd j) = false from fun e j hji => by
        rcases Nat.lt_or_ge j i with h | h
        · exact HP.out j h
        · obtain rfl : j = i := by omega
          exact e)
      have HC := Lib.hid (ask_kind hx hl cg2 ck1 HK1.out)
      clear cg2 ck1 cg cgk
      go_wp2_with fail
      refine HC.out.mono ?_
      rintro v w1 ⟨rfl, hb1⟩
      have hb2 := hb.trans (hb1.mono hb.size)
      cases hq : l.contains (kd i) with
      | true =>
        go_wp2
        go_returns
        exact ⟨⟨_, rfl, .inl ⟨i, hlt, hq, rfl⟩⟩, hb2⟩
      | false =>
        go_wp2
        go_roundw
        case rel => exact ⟨i + 1, hlt, by go_num, HX.out hq, hb2⟩
        case measure => simp [intOf]; omega
    · obtain rfl : i = n := by omega
      go_wp2
      go_returns
      exact ⟨⟨_, rfl, .inr ⟨HP.out, rfl⟩⟩, hb⟩
theorem containsf_kind {w : World} {A : Option Addr} {n c kb g cc : Nat} {l : List Int} (kd : Nat → Int) (hkd : ∀ i, 0 ≤ kd i ∧ kd i ≤ 9223372036854775807) (hl : l.length ≤ 1000) (hn : n ≤ 1048577)
    (hr : ∀ i, i < n → ∃ ga g, A = some ⟨ga, 0, none⟩ ∧ w.cell? ⟨ga, i, none⟩ = some (ptrV g) ∧ w.cell? ⟨g, 0, none⟩ = some (.int .i64 (kd i)))
    (ck : w.cell? ⟨kb, 0, none⟩ = some (.slice (some ⟨g, 0, none⟩) l.length cc)) (h : ∀ i, (hi : i < l.length) → w.cell? ⟨g, i, none⟩ = some (.int .i64 l[i])) (hgl : g < w.heap.size) :
    Calls Tryz.prog 182 #[.slice A n c, .func (.func 238) #[] #[ptrV kb]] w fun v w' => v = .returned (.bool ((List.range n).any fun i => l.contains (kd i))) ∧ Below w.heap.size w w' := by
  go_enter Tryz.func182, Tryz.ntmps182
  go_wp2_with fail
  refine (indexf_kind kd hkd hl hn hr ck h hgl).mono ?_
  rintro v w1 ⟨⟨r, rfl, hq⟩, hb⟩
  have HA := Lib.hid hq.any
  clear hq
  go_wp2
  go_returns
  exact ⟨by rw [HA.out]; rfl, hb⟩
set_option maxHeartbeats 4000000 in
/-- None of the row's nodes is of the kinds. -/
theorem not_kinds {w : World} {A : Option Addr} {nb n c g cc : Nat} {l : List Int} (kd : Nat → Int) (hkd : ∀ i, 0 ≤ kd i ∧ kd i ≤ 9223372036854775807) (hl : l.length ≤ 1000) (hn : n ≤ 1048577)
    (hr : ∀ i, i < n → ∃ ga g, A = some ⟨ga, 0, none⟩ ∧ w.cell? ⟨ga, i, none⟩ = some (ptrV g) ∧ w.cell? ⟨g, 0, none⟩ = some (.int .i64 (kd i)))
    {nx : Nat} (cn : w.cell? ⟨nx, 0, none⟩ = some (ptrV nb)) (c8 : w.cell? ⟨nb, 8, none⟩ = some (.slice A n c)) (h : ∀ i, (hi : i < l.length) → w.cell? ⟨g, i, none⟩ = some (.int .i64 l[i])) (hgl : g < w.heap.size) :
    Calls Tryz.prog 237 #[.slice (some ⟨g, 0, none⟩) l.length cc, ptrV nx] w fun v w' => v = .returned (.bool (!((List.range n).any fun i => l.contains (kd i)))) ∧ Below w.heap.size w w' := by
  have HR := Lib.hid hr
  have HC := Lib.hid h
  have hnl := cell_lt0 cn
  have hbl := cell_lt0 c8
  clear hr h
  go_enter Tryz.func237, Tryz.ntmps237
  go_wp2_with fail
  have hA : Below w.heap.size w (w.alloc (.cells #[.slice (some ⟨g, 0, none⟩) l.length cc] 52)) := (Below.refl _ w).alloc (Nat.le_refl _) _
  refine (containsf_kind (g := g) (cc := cc) (l := l) kd hkd hl hn (fun i hi => ?_) ?_ (fun i hi => ?_) ?_).mono ?_
  · obtain ⟨ga, g', rfl, c1, c2⟩ := HR.out i hi
    exact ⟨ga, g', rfl, (World.cell?_of_block (hA.block _ (cell_lt0 c1))).trans c1, (World.cell?_of_block (hA.block _ (cell_lt0 c2))).trans c2⟩
  · exact (Blk.new w [.slice (some ⟨g, 0, none⟩) l.length cc] 52).cell 0
  · exact (World.cell?_of_block (hA.block _ hgl)).trans (HC.out i hi)
  · exact Nat.lt_of_lt_of_le hgl hA.size
  · rintro v w1 ⟨rfl, hb⟩
    have hb2 := hA.trans (hb.mono hA.size)
    clear hA hb
    obtain ⟨q, hq⟩ : ∃ q, ((List.range n).any fun i => l.contains (kd i)) = q := ⟨_, rfl⟩
    have HQ := Lib.hid hq
    rw [hq]
    clear hq
    go_wp2
    go_returns
    exact ⟨by rw [HQ.out]; rfl, hb2⟩
end Go.Proofs.YtpiimcbbgalhfaaGreatDoor
/- The tree's form: a node's own. -/
namespace Go.Proofs.YtpiimcbbgalhfaaGreatDoor
set_option maxRecDepth 100000
open Go.RowKit
attribute [local go_sem] eq_words eqB_words eqB_zero
set_option maxHeartbeats 4000000 in
theorem count_form {w : World} {b : Nat} {lo hi : Int} (hlo : -9223372036854775808 ≤ lo ∧ lo ≤ 9223372036854775807) (hhi : -9223372036854775808 ≤ hi ∧ hi ≤ 9223372036854775807) (c2 : w.cell? ⟨b, 5, none⟩ = some (.int .i64 lo)) (c3 : w.cell? ⟨b, 6, none⟩ = some (.int .i64 hi)) :
    Calls Tryz.prog 240 #[ptrV b] w fun v w' => v = .returned (.bool (decide (0 ≤ lo) && decide (lo ≤ 1000) && (hi == -1 || (decide (lo ≤ hi) && decide (hi ≤ 1000))))) ∧ Below w.heap.size w w' := by
  have hlt := cell_lt0 c2
  cases h1 : (decide (0 ≤ lo)) <;> cases h2 : (decide (lo ≤ 1000)) <;> cases h3 : (hi == -1) <;> cases h4 : (decide (lo ≤ hi)) <;> cases h5 : (decide (hi ≤ 1000)) <;> (
  go_enter Tryz.func240, Tryz.ntmps240
  go_upto_region 1 with fail
  go_quiet (fail)
  go_wp2
  go_returns
  exact ⟨rfl, by first | exact Below.refl _ _ | exact below_drewN (Below.refl _ _) _ | exact (Below.refl _ _).drew⟩)
end Go.Proofs.YtpiimcbbgalhfaaGreatDoor
/- The tree's form: a node, by its kind. -/
namespace Go.Proofs.YtpiimcbbgalhfaaGreatDoor
set_option maxRecDepth 100000
open Go.RowKit
attribute [local go_sem] eq_words eqB_words eqB_zero
def formB (k : Int) (z pl : Bool) (lo hi : Int) (n : Nat) (kd : Nat → Int) : Bool :=
  if ((k != 1 && !z) || (k != 6 && !pl)) = true then false
  else if k = 0 ∨ k = 1 then (n : Int) == 0
  else if k = 2 ∨ k = 3 then (n : Int) == 1
  else if k = 4 then decide ((1 : Int) < n) && !((List.range n).any fun i => [4, 0, 5].contains (kd i))
  else if k = 5 then decide ((1 : Int) < n) && !((List.range n).any fun i => [5].contains (kd i))
  else if k = 6 then (n : Int) == 1 && (decide (0 ≤ lo) && decide (lo ≤ 1000) && (hi == -1 || (decide (lo ≤ hi) && decide (hi ≤ 1000)))) && (kd 0 == 1 || grpB (kd 0))
  else false
/-- A row of n nodes, and their kinds. -/
def RowK (w : World) (A : Option Addr) (n : Nat) (kd : Nat → Int) : Prop := ∀ i, i < n → ∃ ga g, A = some ⟨ga, 0, none⟩ ∧ w.cell? ⟨ga, i, none⟩ = some (ptrV g) ∧ w.cell? ⟨g, 0, none⟩ = some (.int .i64 (kd i))
theorem RowK.under {w w' : World} {A : Option Addr} {n : Nat} {kd : Nat → Int} (h : RowK w A n kd) (hb : Below w.heap.size w w') : RowK w' A n kd := fun i hi => by
  obtain ⟨ga, g, e, c1, c2⟩ := h i hi
  exact ⟨ga, g, e, (World.cell?_of_block (hb.block _ (cell_lt0 c1))).trans c1, (World.cell?_of_block (hb.block _ (cell_lt0 c2))).trans c2⟩
theorem RowK.rowP {w : World} {A : Option Addr} {n : Nat} {kd : Nat → Int} (h : RowK w A n kd) : RowP w A n := fun i hi => by
  obtain ⟨ga, g, e, c1, c2⟩ := h i hi
  exact ⟨ga, g, e, c1⟩
set_option maxHeartbeats 8000000 in
theorem form_k0 {w : World} {b : Nat} {set : Nat → Bool} {lo hi : Int} {lazy : Bool} {A : Option Addr} {n c f t : Nat} (kd : Nat → Int) (hn : n ≤ 1048577)
    (hb : Blk w b 34 (nodeL 0 set lo hi lazy (.slice A n c) f t)) (hr : RowK w A n kd) :
    Calls Tryz.prog 181 #[ptrV b] w fun v w' => v = .returned (.bool (formB 0 (eqB set (fun _ => false)) (lo == 0 && hi == 0 && !lazy) lo hi n kd)) ∧ Below w.heap.size w w' := by
  obtain ⟨q, hq⟩ : ∃ q, formB 0 (eqB set (fun _ => false)) (lo == 0 && hi == 0 && !lazy) lo hi n kd = q := ⟨_, rfl⟩
  have HQ := Lib.hid hq
  rw [hq]
  clear hq
  have hA : Below w.heap.size w (w.alloc (.cells #[ptrV b] 26)) := (Below.refl _ w).alloc (Nat.le_refl _) _
  have B1 := hb.alloc (.cells #[ptrV b] 26)
  have cn : (w.alloc (.cells #[ptrV b] 26)).cell? ⟨w.heap.size, 0, none⟩ = some (ptrV b) := (Blk.new w [ptrV b] 26).cell 0
  have HR := Lib.hid (hr.under hA)
  obtain ⟨B0, hB0⟩ : ∃ B0, w.heap.size = B0 := ⟨_, rfl⟩
  have HA := Lib.hid (hB0 ▸ hA)
  have HB := Lib.hid hB0
  rw [hB0]
  clear hr hA hb hB0
  go_enter Tryz.func181, Tryz.ntmps181
  go_upto_region 1 with fail
  generalize w.heap.size = nx at *
  generalize w.alloc (.cells #[ptrV b] 26) = w1 at *
  have c0 : w1.cell? ⟨b, 0, none⟩ = some (.int .i64 0) := B1.cell 0
  have c1 : w1.cell? ⟨b, 1, none⟩ = some (.int .u64 (word set 0)) := B1.cell 1
  have c2 : w1.cell? ⟨b, 2, none⟩ = some (.int .u64 (word set 1)) := B1.cell 2
  have c3 : w1.cell? ⟨b, 3, none⟩ = some (.int .u64 (word set 2)) := B1.cell 3
  have c4 : w1.cell? ⟨b, 4, none⟩ = some (.int .u64 (word set 3)) := B1.cell 4
  have c5 : w1.cell? ⟨b, 5, none⟩ = some (.int .i64 lo) := B1.cell 5
  have c6 : w1.cell? ⟨b, 6, none⟩ = some (.int .i64 hi) := B1.cell 6
  have c7 : w1.cell? ⟨b, 7, none⟩ = some (.bool lazy) := B1.cell 7
  have c8 : w1.cell? ⟨b, 8, none⟩ = some (.slice A n c) := B1.cell 8
  have hlt := B1.lt
  have hnl := cell_lt0 cn
  clear B1
  go_wp2_with fail
  refine (contains_nil hn HR.out.rowP).mono ?_
  rintro v w2 ⟨rfl, rfl⟩
  rename World => w2
  have HP := Lib.hid (plain_at c5 c6 c7)
  clear c5 c6 c7
  generalize (lo == 0 && hi == 0 && !lazy) = pl at *
  cases hz : eqB set (fun _ => false) <;> cases pl <;> (
    go_wp2_with fail
    try (
      refine HP.out.mono ?_
      rintro v w3 ⟨rfl, rfl⟩
      go_wp2)
    go_returns
    exact ⟨by have hq := HQ.out; rw [hz] at hq; rw [← hq]; first | rfl | (simp [formB]; done) | (simp [formB]; omega) | (simp only [formB]; simp; done), HA.out⟩)
set_option maxHeartbeats 8000000 in
theorem form_k1 {w : World} {b : Nat} {set : Nat → Bool} {lo hi : Int} {lazy : Bool} {A : Option Addr} {n c f t : Nat} (kd : Nat → Int) (hn : n ≤ 1048577)
    (hb : Blk w b 34 (nodeL 1 set lo hi lazy (.slice A n c) f t)) (hr : RowK w A n kd) :
    Calls Tryz.prog 181 #[ptrV b] w fun v w' => v = .returned (.bool (formB 1 (eqB set (fun _ => false)) (lo == 0 && hi == 0 && !lazy) lo hi n kd)) ∧ Below w.heap.size w w' := by
  obtain ⟨q, hq⟩ : ∃ q, formB 1 (eqB set (fun _ => false)) (lo == 0 && hi == 0 && !lazy) lo hi n kd = q := ⟨_, rfl⟩
  have HQ := Lib.hid hq
  rw [hq]
  clear hq
  have hA : Below w.heap.size w (w.alloc (.cells #[ptrV b] 26)) := (Below.refl _ w).alloc (Nat.le_refl _) _
  have B1 := hb.alloc (.cells #[ptrV b] 26)
  have cn : (w.alloc (.cells #[ptrV b] 26)).cell? ⟨w.heap.size, 0, none⟩ = some (ptrV b) := (Blk.new w [ptrV b] 26).cell 0
  have HR := Lib.hid (hr.under hA)
  obtain ⟨B0, hB0⟩ : ∃ B0, w.heap.size = B0 := ⟨_, rfl⟩
  have HA := Lib.hid (hB0 ▸ hA)
  have HB := Lib.hid hB0
  rw [hB0]
  clear hr hA hb hB0
  go_enter Tryz.func181, Tryz.ntmps181
  go_upto_region 1 with fail
  generalize w.heap.size = nx at *
  generalize w.alloc (.cells #[ptrV b] 26) = w1 at *
  have c0 : w1.cell? ⟨b, 0, none⟩ = some (.int .i64 1) := B1.cell 0
  have c1 : w1.cell? ⟨b, 1, none⟩ = some (.int .u64 (word set 0)) := B1.cell 1
  have c2 : w1.cell? ⟨b, 2, none⟩ = some (.int .u64 (word set 1)) := B1.cell 2
  have c3 : w1.cell? ⟨b, 3, none⟩ = some (.int .u64 (word set 2)) := B1.cell 3
  have c4 : w1.cell? ⟨b, 4, none⟩ = some (.int .u64 (word set 3)) := B1.cell 4
  have c5 : w1.cell? ⟨b, 5, none⟩ = some (.int .i64 lo) := B1.cell 5
  have c6 : w1.cell? ⟨b, 6, none⟩ = some (.int .i64 hi) := B1.cell 6
  have c7 : w1.cell? ⟨b, 7, none⟩ = some (.bool lazy) := B1.cell 7
  have c8 : w1.cell? ⟨b, 8, none⟩ = some (.slice A n c) := B1.cell 8
  have hlt := B1.lt
  have hnl := cell_lt0 cn
  clear B1
  go_wp2_with fail
  refine (contains_nil hn HR.out.rowP).mono ?_
  rintro v w2 ⟨rfl, rfl⟩
  rename World => w2
  have HP := Lib.hid (plain_at c5 c6 c7)
  clear c5 c6 c7
  generalize (lo == 0 && hi == 0 && !lazy) = pl at *
  cases hz : eqB set (fun _ => false) <;> cases pl <;> (
    go_wp2_with fail
    try (
      refine HP.out.mono ?_
      rintro v w3 ⟨rfl, rfl⟩
      go_wp2)
    go_returns
    exact ⟨by have hq := HQ.out; rw [hz] at hq; rw [← hq]; first | rfl | (simp [formB]; done) | (simp [formB]; omega) | (simp only [formB]; simp; done), HA.out⟩)
set_option maxHeartbeats 8000000 in
theorem form_k2 {w : World} {b : Nat} {set : Nat → Bool} {lo hi : Int} {lazy : Bool} {A : Option Addr} {n c f t : Nat} (kd : Nat → Int) (hn : n ≤ 1048577)
    (hb : Blk w b 34 (nodeL 2 set lo hi lazy (.slice A n c) f t)) (hr : RowK w A n kd) :
    Calls Tryz.prog 181 #[ptrV b] w fun v w' => v = .returned (.bool (formB 2 (eqB set (fun _ => false)) (lo == 0 && hi == 0 && !lazy) lo hi n kd)) ∧ Below w.heap.size w w' := by
  obtain ⟨q, hq⟩ : ∃ q, formB 2 (eqB set (fun _ => false)) (lo == 0 && hi == 0 && !lazy) lo hi n kd = q := ⟨_, rfl⟩
  have HQ := Lib.hid hq
  rw [hq]
  clear hq
  have hA : Below w.heap.size w (w.alloc (.cells #[ptrV b] 26)) := (Below.refl _ w).alloc (Nat.le_refl _) _
  have B1 := hb.alloc (.cells #[ptrV b] 26)
  have cn : (w.alloc (.cells #[ptrV b] 26)).cell? ⟨w.heap.size, 0, none⟩ = some (ptrV b) := (Blk.new w [ptrV b] 26).cell 0
  have HR := Lib.hid (hr.under hA)
  obtain ⟨B0, hB0⟩ : ∃ B0, w.heap.size = B0 := ⟨_, rfl⟩
  have HA := Lib.hid (hB0 ▸ hA)
  have HB := Lib.hid hB0
  rw [hB0]
  clear hr hA hb hB0
  go_enter Tryz.func181, Tryz.ntmps181
  go_upto_region 1 with fail
  generalize w.heap.size = nx at *
  generalize w.alloc (.cells #[ptrV b] 26) = w1 at *
  have c0 : w1.cell? ⟨b, 0, none⟩ = some (.int .i64 2) := B1.cell 0
  have c1 : w1.cell? ⟨b, 1, none⟩ = some (.int .u64 (word set 0)) := B1.cell 1
  have c2 : w1.cell? ⟨b, 2, none⟩ = some (.int .u64 (word set 1)) := B1.cell 2
  have c3 : w1.cell? ⟨b, 3, none⟩ = some (.int .u64 (word set 2)) := B1.cell 3
  have c4 : w1.cell? ⟨b, 4, none⟩ = some (.int .u64 (word set 3)) := B1.cell 4
  have c5 : w1.cell? ⟨b, 5, none⟩ = some (.int .i64 lo) := B1.cell 5
  have c6 : w1.cell? ⟨b, 6, none⟩ = some (.int .i64 hi) := B1.cell 6
  have c7 : w1.cell? ⟨b, 7, none⟩ = some (.bool lazy) := B1.cell 7
  have c8 : w1.cell? ⟨b, 8, none⟩ = some (.slice A n c) := B1.cell 8
  have hlt := B1.lt
  have hnl := cell_lt0 cn
  clear B1
  go_wp2_with fail
  refine (contains_nil hn HR.out.rowP).mono ?_
  rintro v w2 ⟨rfl, rfl⟩
  rename World => w2
  have HP := Lib.hid (plain_at c5 c6 c7)
  clear c5 c6 c7
  generalize (lo == 0 && hi == 0 && !lazy) = pl at *
  cases hz : eqB set (fun _ => false) <;> cases pl <;> (
    go_wp2_with fail
    try (
      refine HP.out.mono ?_
      rintro v w3 ⟨rfl, rfl⟩
      go_wp2)
    go_returns
    exact ⟨by have hq := HQ.out; rw [hz] at hq; rw [← hq]; first | rfl | (simp [formB]; done) | (simp [formB]; omega) | (simp only [formB]; simp; done), HA.out⟩)
set_option maxHeartbeats 8000000 in
theorem form_k3 {w : World} {b : Nat} {set : Nat → Bool} {lo hi : Int} {lazy : Bool} {A : Option Addr} {n c f t : Nat} (kd : Nat → Int) (hn : n ≤ 1048577)
    (hb : Blk w b 34 (nodeL 3 set lo hi lazy (.slice A n c) f t)) (hr : RowK w A n kd) :
    Calls Tryz.prog 181 #[ptrV b] w fun v w' => v = .returned (.bool (formB 3 (eqB set (fun _ => false)) (lo == 0 && hi == 0 && !lazy) lo hi n kd)) ∧ Below w.heap.size w w' := by
  obtain ⟨q, hq⟩ : ∃ q, formB 3 (eqB set (fun _ => false)) (lo == 0 && hi == 0 && !lazy) lo hi n kd = q := ⟨_, rfl⟩
  have HQ := Lib.hid hq
  rw [hq]
  clear hq
  have hA : Below w.heap.size w (w.alloc (.cells #[ptrV b] 26)) := (Below.refl _ w).alloc (Nat.le_refl _) _
  have B1 := hb.alloc (.cells #[ptrV b] 26)
  have cn : (w.alloc (.cells #[ptrV b] 26)).cell? ⟨w.heap.size, 0, none⟩ = some (ptrV b) := (Blk.new w [ptrV b] 26).cell 0
  have HR := Lib.hid (hr.under hA)
  obtain ⟨B0, hB0⟩ : ∃ B0, w.heap.size = B0 := ⟨_, rfl⟩
  have HA := Lib.hid (hB0 ▸ hA)
  have HB := Lib.hid hB0
  rw [hB0]
  clear hr hA hb hB0
  go_enter Tryz.func181, Tryz.ntmps181
  go_upto_region 1 with fail
  generalize w.heap.size = nx at *
  generalize w.alloc (.cells #[ptrV b] 26) = w1 at *
  have c0 : w1.cell? ⟨b, 0, none⟩ = some (.int .i64 3) := B1.cell 0
  have c1 : w1.cell? ⟨b, 1, none⟩ = some (.int .u64 (word set 0)) := B1.cell 1
  have c2 : w1.cell? ⟨b, 2, none⟩ = some (.int .u64 (word set 1)) := B1.cell 2
  have c3 : w1.cell? ⟨b, 3, none⟩ = some (.int .u64 (word set 2)) := B1.cell 3
  have c4 : w1.cell? ⟨b, 4, none⟩ = some (.int .u64 (word set 3)) := B1.cell 4
  have c5 : w1.cell? ⟨b, 5, none⟩ = some (.int .i64 lo) := B1.cell 5
  have c6 : w1.cell? ⟨b, 6, none⟩ = some (.int .i64 hi) := B1.cell 6
  have c7 : w1.cell? ⟨b, 7, none⟩ = some (.bool lazy) := B1.cell 7
  have c8 : w1.cell? ⟨b, 8, none⟩ = some (.slice A n c) := B1.cell 8
  have hlt := B1.lt
  have hnl := cell_lt0 cn
  clear B1
  go_wp2_with fail
  refine (contains_nil hn HR.out.rowP).mono ?_
  rintro v w2 ⟨rfl, rfl⟩
  rename World => w2
  have HP := Lib.hid (plain_at c5 c6 c7)
  clear c5 c6 c7
  generalize (lo == 0 && hi == 0 && !lazy) = pl at *
  cases hz : eqB set (fun _ => false) <;> cases pl <;> (
    go_wp2_with fail
    try (
      refine HP.out.mono ?_
      rintro v w3 ⟨rfl, rfl⟩
      go_wp2)
    go_returns
    exact ⟨by have hq := HQ.out; rw [hz] at hq; rw [← hq]; first | rfl | (simp [formB]; done) | (simp [formB]; omega) | (simp only [formB]; simp; done), HA.out⟩)
end Go.Proofs.YtpiimcbbgalhfaaGreatDoor
