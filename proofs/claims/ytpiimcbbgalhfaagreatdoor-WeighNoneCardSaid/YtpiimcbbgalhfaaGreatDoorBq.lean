/- The tree's form: a node with parts of its own. -/
import Derived.Test.YtpiimcbbgalhfaaGreatDoorBp
import Derived.Test.YtpiimcbbgalhfaaGreatDoorBl
import Derived.Test.YtpiimcbbgalhfaaGreatDoorBk
import Derived.Test.YtpiimcbbgalhfaaGreatDoorBb
import Derived.Test.YtpiimcbbgalhfaaGreatDoorBe
import Derived.Laws.AppendOwnNone
import Derived.Test.YtpiimcbbgalhfaaGreatDoorBa
namespace Go.Proofs.YtpiimcbbgalhfaaGreatDoor
set_option maxRecDepth 100000
open Go.RowKit
attribute [local go_sem] eq_words eqB_words eqB_zero
set_option maxHeartbeats 8000000 in
theorem form_k4 {w : World} {b : Nat} {set : Nat → Bool} {lo hi : Int} {lazy : Bool} {A : Option Addr} {n c f t : Nat} (kd : Nat → Int) (hkd : ∀ i, 0 ≤ kd i ∧ kd i ≤ 9223372036854775807) (hn : n ≤ 1048577)
    (hb : Blk w b 34 (nodeL 4 set lo hi lazy (.slice A n c) f t)) (hr : RowK w A n kd) :
    Calls Tryz.prog 181 #[ptrV b] w fun v w' => v = .returned (.bool (formB 4 (eqB set (fun _ => false)) (lo == 0 && hi == 0 && !lazy) lo hi n kd)) ∧ Below w.heap.size w w' := by
  obtain ⟨q, hq⟩ : ∃ q, formB 4 (eqB set (fun _ => false)) (lo == 0 && hi == 0 && !lazy) lo hi n kd = q := ⟨_, rfl⟩
  have HQ := Lib.hid hq
  rw [hq]
  clear hq
  have hA : Below w.heap.size w (w.alloc (.cells #[ptrV b] 26)) := (Below.refl _ w).alloc (Nat.le_refl _) _
  have B1 := hb.alloc (.cells #[ptrV b] 26)
  have cn : (w.alloc (.cells #[ptrV b] 26)).cell? ⟨w.heap.size, 0, none⟩ = some (ptrV b) := (Blk.new w [ptrV b] 26).cell 0
  have HR := Lib.hid (hr.under hA)
  obtain ⟨B0, hB0⟩ : ∃ B0, w.heap.size = B0 := ⟨_, rfl⟩
  have HA := Lib.hid (hB0 ▸ hA)
  have HB := Lib.hid hB0
  rw [hB0]
  clear hr hA hb hB0
  go_enter Tryz.func181, Tryz.ntmps181
  go_upto_region 1 with fail
  generalize w.heap.size = nx at *
  generalize w.alloc (.cells #[ptrV b] 26) = w1 at *
  have c0 : w1.cell? ⟨b, 0, none⟩ = some (.int .i64 4) := B1.cell 0
  have c1 : w1.cell? ⟨b, 1, none⟩ = some (.int .u64 (word set 0)) := B1.cell 1
  have c2 : w1.cell? ⟨b, 2, none⟩ = some (.int .u64 (word set 1)) := B1.cell 2
  have c3 : w1.cell? ⟨b, 3, none⟩ = some (.int .u64 (word set 2)) := B1.cell 3
  have c4 : w1.cell? ⟨b, 4, none⟩ = some (.int .u64 (word set 3)) := B1.cell 4
  have c5 : w1.cell? ⟨b, 5, none⟩ = some (.int .i64 lo) := B1.cell 5
  have c6 : w1.cell? ⟨b, 6, none⟩ = some (.int .i64 hi) := B1.cell 6
  have c7 : w1.cell? ⟨b, 7, none⟩ = some (.bool lazy) := B1.cell 7
  have c8 : w1.cell? ⟨b, 8, none⟩ = some (.slice A n c) := B1.cell 8
  have hlt := B1.lt
  have hnl := cell_lt0 cn
  clear B1
  go_wp2_with fail
  refine (contains_nil hn HR.out.rowP).mono ?_
  rintro v w2 ⟨rfl, rfl⟩
  rename World => w2
  have HP := Lib.hid (plain_at c5 c6 c7)
  clear c5 c6 c7
  generalize (lo == 0 && hi == 0 && !lazy) = pl at *
  cases hz : eqB set (fun _ => false) <;> cases pl <;> (
    go_wp2_with fail
    try (
      refine HP.out.mono ?_
      rintro v w3 ⟨rfl, rfl⟩
      rename World => w2)
    try clear HP
    cases hgt : decide ((1 : Int) < n) <;> (
      go_wp2_with fail
      first
        | (go_returns; exact ⟨by have hq := HQ.out; rw [hz] at hq; rw [← hq]; first | rfl | (simp [formB]; done) | (simp only [formB, hgt]; simp; done), HA.out⟩)
        | (
          have hA2 : Below w2.heap.size w2 (w2.alloc (.cells #[.int .i64 4, .int .i64 0, .int .i64 5] 3)) := (Below.refl _ w2).alloc (Nat.le_refl _) _
          have HR2 := HR.out.under hA2
          have cn2 := (World.cell?_of_block (hA2.block _ hnl)).trans cn
          have c82 := (World.cell?_of_block (hA2.block _ hlt)).trans c8
          have hrow : ∀ i, (hi : i < ([4, 0, 5] : List Int).length) → (w2.alloc (.cells #[.int .i64 4, .int .i64 0, .int .i64 5] 3)).cell? ⟨w2.heap.size, i, none⟩ = some (.int .i64 ([4, 0, 5] : List Int)[i]) := fun i hi => by
            rw [(Blk.new w2 [.int .i64 4, .int .i64 0, .int .i64 5] 3).cell i]
            have h3 : i = 0 ∨ i = 1 ∨ i = 2 := by simp only [List.length_cons, List.length_nil] at hi; omega
            rcases h3 with rfl | rfl | rfl <;> rfl
          have hB0 : B0 ≤ w2.heap.size := by rw [← HB.out]; exact Nat.le_of_lt hnl
          have hgw : w2.heap.size < (w2.alloc (.cells #[.int .i64 4, .int .i64 0, .int .i64 5] 3)).heap.size := (Blk.new w2 [.int .i64 4, .int .i64 0, .int .i64 5] 3).lt
          refine (not_kinds (g := w2.heap.size) (cc := 3) (l := [4, 0, 5]) kd hkd (by decide) hn HR2 cn2 c82 hrow hgw).mono ?_
          rintro v w3 ⟨rfl, hb3⟩
          have hb4 := HA.out.trans ((hA2.trans (hb3.mono hA2.size)).mono hB0)
          clear hA2 HR2 cn2 c82 hrow hB0 hgw hb3
          obtain ⟨y, hy⟩ : ∃ y, ((List.range n).any fun i => ([4, 0, 5] : List Int).contains (kd i)) = y := ⟨_, rfl⟩
          have HY := Lib.hid hy
          rw [hy]
          clear hy
          go_wp2
          go_returns
          exact ⟨by have hq := HQ.out; rw [hz] at hq; rw [← hq]; simp only [formB]; rw [hgt, HY.out]; rfl, hb4⟩)))
set_option maxHeartbeats 8000000 in
theorem form_k5 {w : World} {b : Nat} {set : Nat → Bool} {lo hi : Int} {lazy : Bool} {A : Option Addr} {n c f t : Nat} (kd : Nat → Int) (hkd : ∀ i, 0 ≤ kd i ∧ kd i ≤ 9223372036854775807) (hn : n ≤ 1048577)
    (hb : Blk w b 34 (nodeL 5 set lo hi lazy (.slice A n c) f t)) (hr : RowK w A n kd) :
    Calls Tryz.prog 181 #[ptrV b] w fun v w' => v = .returned (.bool (formB 5 (eqB set (fun _ => false)) (lo == 0 && hi == 0 && !lazy) lo hi n kd)) ∧ Below w.heap.size w w' := by
  obtain ⟨q, hq⟩ : ∃ q, formB 5 (eqB set (fun _ => false)) (lo == 0 && hi == 0 && !lazy) lo hi n kd = q := ⟨_, rfl⟩
  have HQ := Lib.hid hq
  rw [hq]
  clear hq
  have hA : Below w.heap.size w (w.alloc (.cells #[ptrV b] 26)) := (Below.refl _ w).alloc (Nat.le_refl _) _
  have B1 := hb.alloc (.cells #[ptrV b] 26)
  have cn : (w.alloc (.cells #[ptrV b] 26)).cell? ⟨w.heap.size, 0, none⟩ = some (ptrV b) := (Blk.new w [ptrV b] 26).cell 0
  have HR := Lib.hid (hr.under hA)
  obtain ⟨B0, hB0⟩ : ∃ B0, w.heap.size = B0 := ⟨_, rfl⟩
  have HA := Lib.hid (hB0 ▸ hA)
  have HB := Lib.hid hB0
  rw [hB0]
  clear hr hA hb hB0
  go_enter Tryz.func181, Tryz.ntmps181
  go_upto_region 1 with fail
  generalize w.heap.size = nx at *
  generalize w.alloc (.cells #[ptrV b] 26) = w1 at *
  have c0 : w1.cell? ⟨b, 0, none⟩ = some (.int .i64 5) := B1.cell 0
  have c1 : w1.cell? ⟨b, 1, none⟩ = some (.int .u64 (word set 0)) := B1.cell 1
  have c2 : w1.cell? ⟨b, 2, none⟩ = some (.int .u64 (word set 1)) := B1.cell 2
  have c3 : w1.cell? ⟨b, 3, none⟩ = some (.int .u64 (word set 2)) := B1.cell 3
  have c4 : w1.cell? ⟨b, 4, none⟩ = some (.int .u64 (word set 3)) := B1.cell 4
  have c5 : w1.cell? ⟨b, 5, none⟩ = some (.int .i64 lo) := B1.cell 5
  have c6 : w1.cell? ⟨b, 6, none⟩ = some (.int .i64 hi) := B1.cell 6
  have c7 : w1.cell? ⟨b, 7, none⟩ = some (.bool lazy) := B1.cell 7
  have c8 : w1.cell? ⟨b, 8, none⟩ = some (.slice A n c) := B1.cell 8
  have hlt := B1.lt
  have hnl := cell_lt0 cn
  clear B1
  go_wp2_with fail
  refine (contains_nil hn HR.out.rowP).mono ?_
  rintro v w2 ⟨rfl, rfl⟩
  rename World => w2
  have HP := Lib.hid (plain_at c5 c6 c7)
  clear c5 c6 c7
  generalize (lo == 0 && hi == 0 && !lazy) = pl at *
  cases hz : eqB set (fun _ => false) <;> cases pl <;> (
    go_wp2_with fail
    try (
      refine HP.out.mono ?_
      rintro v w3 ⟨rfl, rfl⟩
      rename World => w2)
    try clear HP
    cases hgt : decide ((1 : Int) < n) <;> (
      go_wp2_with fail
      first
        | (go_returns; exact ⟨by have hq := HQ.out; rw [hz] at hq; rw [← hq]; first | rfl | (simp [formB]; done) | (simp only [formB, hgt]; simp; done), HA.out⟩)
        | (
          have hA2 : Below w2.heap.size w2 (w2.alloc (.cells #[.int .i64 5] 3)) := (Below.refl _ w2).alloc (Nat.le_refl _) _
          have HR2 := HR.out.under hA2
          have cn2 := (World.cell?_of_block (hA2.block _ hnl)).trans cn
          have c82 := (World.cell?_of_block (hA2.block _ hlt)).trans c8
          have hrow : ∀ i, (hi : i < ([5] : List Int).length) → (w2.alloc (.cells #[.int .i64 5] 3)).cell? ⟨w2.heap.size, i, none⟩ = some (.int .i64 ([5] : List Int)[i]) := fun i hi => by
            rw [(Blk.new w2 [.int .i64 5] 3).cell i]
            have h3 : i = 0 := by simp only [List.length_cons, List.length_nil] at hi; omega
            rcases h3 with rfl <;> rfl
          have hB0 : B0 ≤ w2.heap.size := by rw [← HB.out]; exact Nat.le_of_lt hnl
          have hgw : w2.heap.size < (w2.alloc (.cells #[.int .i64 5] 3)).heap.size := (Blk.new w2 [.int .i64 5] 3).lt
          refine (not_kinds (g := w2.heap.size) (cc := 1) (l := [5]) kd hkd (by decide) hn HR2 cn2 c82 hrow hgw).mono ?_
          rintro v w3 ⟨rfl, hb3⟩
          have hb4 := HA.out.trans ((hA2.trans (hb3.mono hA2.size)).mono hB0)
          clear hA2 HR2 cn2 c82 hrow hB0 hgw hb3
          obtain ⟨y, hy⟩ : ∃ y, ((List.range n).any fun i => ([5] : List Int).contains (kd i)) = y := ⟨_, rfl⟩
          have HY := Lib.hid hy
          rw [hy]
          clear hy
          go_wp2
          go_returns
          exact ⟨by have hq := HQ.out; rw [hz] at hq; rw [← hq]; simp only [formB]; rw [hgt, HY.out]; rfl, hb4⟩)))
end Go.Proofs.YtpiimcbbgalhfaaGreatDoor
/- The tree's form: a repeat, and what is no kind. -/
namespace Go.Proofs.YtpiimcbbgalhfaaGreatDoor
set_option maxRecDepth 100000
open Go.RowKit
attribute [local go_sem] eq_words eqB_words eqB_zero
set_option maxHeartbeats 8000000 in
theorem form_kx {w : World} {b : Nat} {set : Nat → Bool} {lo hi : Int} {lazy : Bool} {A : Option Addr} {n c f t : Nat} {k : Int} (h0 : (k == 0) = false) (h1 : (k == 1) = false) (h2 : (k == 2) = false) (h3 : (k == 3) = false) (h4 : (k == 4) = false) (h5 : (k == 5) = false) (h6 : (k == 6) = false) (kd : Nat → Int) (hn : n ≤ 1048577)
    (hb : Blk w b 34 (nodeL k set lo hi lazy (.slice A n c) f t)) (hr : RowK w A n kd) :
    Calls Tryz.prog 181 #[ptrV b] w fun v w' => v = .returned (.bool (formB k (eqB set (fun _ => false)) (lo == 0 && hi == 0 && !lazy) lo hi n kd)) ∧ Below w.heap.size w w' := by
  have g1 : (k != 1) = true := by simp [bne, h1]
  have g6 : (k != 6) = true := by simp [bne, h6]
  have HF := Lib.hid (show ∀ z pl, formB k z pl lo hi n kd = false from fun z pl => by
    have d0 := ne_of_beq_false h0; have d1 := ne_of_beq_false h1; have d2 := ne_of_beq_false h2; have d3 := ne_of_beq_false h3; have d4 := ne_of_beq_false h4; have d5 := ne_of_beq_false h5; have d6 := ne_of_beq_false h6
    simp [formB, d0, d1, d2, d3, d4, d5, d6])
  obtain ⟨q, hq⟩ : ∃ q, formB k (eqB set (fun _ => false)) (lo == 0 && hi == 0 && !lazy) lo hi n kd = q := ⟨_, rfl⟩
  have HQ := Lib.hid hq
  rw [hq]
  clear hq
  have hA : Below w.heap.size w (w.alloc (.cells #[ptrV b] 26)) := (Below.refl _ w).alloc (Nat.le_refl _) _
  have B1 := hb.alloc (.cells #[ptrV b] 26)
  have cn : (w.alloc (.cells #[ptrV b] 26)).cell? ⟨w.heap.size, 0, none⟩ = some (ptrV b) := (Blk.new w [ptrV b] 26).cell 0
  have HR := Lib.hid (hr.under hA)
  obtain ⟨B0, hB0⟩ : ∃ B0, w.heap.size = B0 := ⟨_, rfl⟩
  have HA := Lib.hid (hB0 ▸ hA)
  have HB := Lib.hid hB0
  rw [hB0]
  clear hr hA hb hB0
  go_enter Tryz.func181, Tryz.ntmps181
  go_upto_region 1 with fail
  generalize w.heap.size = nx at *
  generalize w.alloc (.cells #[ptrV b] 26) = w1 at *
  have c0 : w1.cell? ⟨b, 0, none⟩ = some (.int .i64 k) := B1.cell 0
  have c1 : w1.cell? ⟨b, 1, none⟩ = some (.int .u64 (word set 0)) := B1.cell 1
  have c2 : w1.cell? ⟨b, 2, none⟩ = some (.int .u64 (word set 1)) := B1.cell 2
  have c3 : w1.cell? ⟨b, 3, none⟩ = some (.int .u64 (word set 2)) := B1.cell 3
  have c4 : w1.cell? ⟨b, 4, none⟩ = some (.int .u64 (word set 3)) := B1.cell 4
  have c5 : w1.cell? ⟨b, 5, none⟩ = some (.int .i64 lo) := B1.cell 5
  have c6 : w1.cell? ⟨b, 6, none⟩ = some (.int .i64 hi) := B1.cell 6
  have c7 : w1.cell? ⟨b, 7, none⟩ = some (.bool lazy) := B1.cell 7
  have c8 : w1.cell? ⟨b, 8, none⟩ = some (.slice A n c) := B1.cell 8
  have hlt := B1.lt
  have hnl := cell_lt0 cn
  clear B1
  go_wp2_with fail
  refine (contains_nil hn HR.out.rowP).mono ?_
  rintro v w2 ⟨rfl, rfl⟩
  rename World => w2
  have HP := Lib.hid (plain_at c5 c6 c7)
  clear c5 c6 c7
  generalize (lo == 0 && hi == 0 && !lazy) = pl at *
  cases hz : eqB set (fun _ => false) <;> cases pl <;> (
    go_wp2_with fail
    try (
      refine HP.out.mono ?_
      rintro v w3 ⟨rfl, rfl⟩
      go_wp2)
    go_returns
    exact ⟨by rw [← HQ.out, HF.out]; rfl, HA.out⟩)
set_option maxHeartbeats 8000000 in
theorem form_k6 {w : World} {b : Nat} {set : Nat → Bool} {lo hi : Int} {lazy : Bool} {A : Option Addr} {n c f t : Nat} (kd : Nat → Int) (hlo : -9223372036854775808 ≤ lo ∧ lo ≤ 9223372036854775807) (hhi : -9223372036854775808 ≤ hi ∧ hi ≤ 9223372036854775807) (hn : n ≤ 1048577)
    (hb : Blk w b 34 (nodeL 6 set lo hi lazy (.slice A n c) f t)) (hr : RowK w A n kd) :
    Calls Tryz.prog 181 #[ptrV b] w fun v w' => v = .returned (.bool (formB 6 (eqB set (fun _ => false)) (lo == 0 && hi == 0 && !lazy) lo hi n kd)) ∧ Below w.heap.size w w' := by
  obtain ⟨q, hq⟩ : ∃ q, formB 6 (eqB set (fun _ => false)) (lo == 0 && hi == 0 && !lazy) lo hi n kd = q := ⟨_, rfl⟩
  have HQ := Lib.hid hq
  rw [hq]
  clear hq
  have hA : Below w.heap.size w (w.alloc (.cells #[ptrV b] 26)) := (Below.refl _ w).alloc (Nat.le_refl _) _
  have B1 := hb.alloc (.cells #[ptrV b] 26)
  have cn : (w.alloc (.cells #[ptrV b] 26)).cell? ⟨w.heap.size, 0, none⟩ = some (ptrV b) := (Blk.new w [ptrV b] 26).cell 0
  have HR := Lib.hid (hr.under hA)
  obtain ⟨B0, hB0⟩ : ∃ B0, w.heap.size = B0 := ⟨_, rfl⟩
  have HA := Lib.hid (hB0 ▸ hA)
  have HB := Lib.hid hB0
  rw [hB0]
  clear hr hA hb hB0
  go_enter Tryz.func181, Tryz.ntmps181
  go_upto_region 1 with fail
  generalize w.heap.size = nx at *
  generalize w.alloc (.cells #[ptrV b] 26) = w1 at *
  have c0 : w1.cell? ⟨b, 0, none⟩ = some (.int .i64 6) := B1.cell 0
  have c1 : w1.cell? ⟨b, 1, none⟩ = some (.int .u64 (word set 0)) := B1.cell 1
  have c2 : w1.cell? ⟨b, 2, none⟩ = some (.int .u64 (word set 1)) := B1.cell 2
  have c3 : w1.cell? ⟨b, 3, none⟩ = some (.int .u64 (word set 2)) := B1.cell 3
  have c4 : w1.cell? ⟨b, 4, none⟩ = some (.int .u64 (word set 3)) := B1.cell 4
  have c5 : w1.cell? ⟨b, 5, none⟩ = some (.int .i64 lo) := B1.cell 5
  have c6 : w1.cell? ⟨b, 6, none⟩ = some (.int .i64 hi) := B1.cell 6
  have c7 : w1.cell? ⟨b, 7, none⟩ = some (.bool lazy) := B1.cell 7
  have c8 : w1.cell? ⟨b, 8, none⟩ = some (.slice A n c) := B1.cell 8
  have hlt := B1.lt
  have hnl := cell_lt0 cn
  clear B1
  go_wp2_with fail
  refine (contains_nil hn HR.out.rowP).mono ?_
  rintro v w2 ⟨rfl, rfl⟩
  rename World => w2
  have HP := Lib.hid (count_form hlo hhi c5 c6)
  clear c5 c6 c7
  obtain ⟨y, hy⟩ : ∃ y, (decide (0 ≤ lo) && decide (lo ≤ 1000) && (hi == -1 || (decide (lo ≤ hi) && decide (hi ≤ 1000)))) = y := ⟨_, rfl⟩
  have HY := Lib.hid hy
  rw [hy] at HP
  clear hy
  cases hz : eqB set (fun _ => false)
  · go_wp2
    go_returns
    exact ⟨by have hq := HQ.out; rw [hz] at hq; rw [← hq]; first | rfl | (simp [formB]; done), HA.out⟩
  · have HZ := Lib.hid hz
    cases hn1 : ((n : Int) == 1)
    · go_wp2
      go_returns
      exact ⟨by have hq := HQ.out; rw [HZ.out] at hq; rw [← hq]; simp only [formB]; rw [hn1]; rfl, HA.out⟩
    · obtain rfl : n = 1 := by have := eq_of_beq hn1; omega
      have HR1 := HR.out 0 (by decide)
      obtain ⟨ga, g, rfl, d1, d2⟩ := HR1
      have HB0 := Lib.hid (show B0 ≤ w2.heap.size by rw [← HB.out]; exact Nat.le_of_lt hnl)
      clear hn1
      go_wp2_with fail
      refine HP.out.mono ?_
      rintro v w3 ⟨rfl, hb⟩
      have cn2 := (World.cell?_of_block (hb.block _ hnl)).trans cn
      have c82 := (World.cell?_of_block (hb.block _ hlt)).trans c8
      have d12 := (World.cell?_of_block (hb.block _ (cell_lt0 d1))).trans d1
      have d22 := (World.cell?_of_block (hb.block _ (cell_lt0 d2))).trans d2
      have hb4 := HA.out.trans (hb.mono HB0.out)
      have HG := Lib.hid (grouped_c d22)
      have hgl := cell_lt0 d22
      have hgal := cell_lt0 d12
      have hbl := cell_lt0 c82
      have hnl2 := cell_lt0 cn2
      obtain ⟨k0, hk0⟩ : ∃ k0, kd 0 = k0 := ⟨_, rfl⟩
      have HK0 := Lib.hid hk0
      rw [hk0] at HG d22 d2
      clear hk0 hb c0 c1 c2 c3 c4 c8 cn d1 d2 hlt hnl HR
      cases y
      · go_wp2
        go_returns
        exact ⟨by have hq := HQ.out; rw [HZ.out] at hq; rw [← hq]; simp only [formB]; rw [HY.out]; rfl, hb4⟩
      · cases hk1 : (k0 == 1)
        · go_wp2_with fail
          refine HG.out.mono ?_
          rintro v w4 ⟨rfl, rfl⟩
          obtain ⟨z, hz0⟩ : ∃ z, grpB k0 = z := ⟨_, rfl⟩
          have HZ0 := Lib.hid hz0
          rw [hz0]
          clear hz0
          go_wp2
          go_returns
          exact ⟨by have hq := HQ.out; rw [HZ.out] at hq; rw [← hq]; simp only [formB]; rw [HY.out, HK0.out, hk1, HZ0.out]; rfl, hb4⟩
        · go_wp2
          go_returns
          exact ⟨by have hq := HQ.out; rw [HZ.out] at hq; rw [← hq]; simp only [formB]; rw [HY.out, HK0.out, hk1]; rfl, hb4⟩
end Go.Proofs.YtpiimcbbgalhfaaGreatDoor
/- The tree's form: all nodes. -/
namespace Go.Proofs.YtpiimcbbgalhfaaGreatDoor
set_option maxRecDepth 100000
open Go.RowKit
theorem form_c {w : World} {b : Nat} {k : Int} {set : Nat → Bool} {lo hi : Int} {lazy : Bool} {A : Option Addr} {n c f t : Nat} (hlo : -9223372036854775808 ≤ lo ∧ lo ≤ 9223372036854775807) (hhi : -9223372036854775808 ≤ hi ∧ hi ≤ 9223372036854775807)
    (kd : Nat → Int) (hkd : ∀ i, 0 ≤ kd i ∧ kd i ≤ 9223372036854775807) (hn : n ≤ 1048577)
    (hb : Blk w b 34 (nodeL k set lo hi lazy (.slice A n c) f t)) (hr : RowK w A n kd) :
    Calls Tryz.prog 181 #[ptrV b] w fun v w' => v = .returned (.bool (formB k (eqB set (fun _ => false)) (lo == 0 && hi == 0 && !lazy) lo hi n kd)) ∧ Below w.heap.size w w' := by
  by_cases h0 : k = 0
  · subst h0; exact form_k0 kd hn hb hr
  by_cases h1 : k = 1
  · subst h1; exact form_k1 kd hn hb hr
  by_cases h2 : k = 2
  · subst h2; exact form_k2 kd hn hb hr
  by_cases h3 : k = 3
  · subst h3; exact form_k3 kd hn hb hr
  by_cases h4 : k = 4
  · subst h4; exact form_k4 kd hkd hn hb hr
  by_cases h5 : k = 5
  · subst h5; exact form_k5 kd hkd hn hb hr
  by_cases h6 : k = 6
  · subst h6; exact form_k6 kd hlo hhi hn hb hr
  exact form_kx (by rw [beq_eq_false_iff_ne]; exact h0) (by rw [beq_eq_false_iff_ne]; exact h1) (by rw [beq_eq_false_iff_ne]; exact h2) (by rw [beq_eq_false_iff_ne]; exact h3) (by rw [beq_eq_false_iff_ne]; exact h4) (by rw [beq_eq_false_iff_ne]; exact h5) (by rw [beq_eq_false_iff_ne]; exact h6) kd hn hb hr
theorem ask_fit {w : World} {g : Nat} {q : Bool} (h : Calls Tryz.prog 136 #[ptrV g] w fun v w' => v = .returned (.bool q) ∧ Below w.heap.size w w') :
    Calls Tryz.prog 183 #[ptrV g] w fun v w' => v = .returned (.bool (!q)) ∧ Below w.heap.size w w' := by
  have H := Lib.hid h
  clear h
  go_enter Tryz.func183, Tryz.ntmps183
  go_wp2_with fail
  refine H.out.mono ?_
  rintro v w1 ⟨rfl, hb⟩
  go_wp2
  go_returns
  exact ⟨rfl, hb⟩
set_option maxHeartbeats 4000000 in
theorem indexf_fit {w : World} {A : Option Addr} {n c : Nat} (ok : Nat → Bool) (hn : n ≤ 1048577)
    (hr : ∀ i, i < n → ∃ ga g, A = some ⟨ga, 0, none⟩ ∧ w.cell? ⟨ga, i, none⟩ = some (ptrV g) ∧ ∀ w', Below w.heap.size w w' → Calls Tryz.prog 136 #[ptrV g] w' fun v w'' => v = .returned (.bool (ok i)) ∧ Below w'.heap.size w' w'') :
    Calls Tryz.prog 241 #[.slice A n c, .func (.func 183) #[] #[]] w fun v w' => (∃ r : Int, v = .returned (.int .i64 r) ∧ AskR (fun i => !ok i) n r) ∧ Below w.heap.size w w' := by
  have H := Lib.hid hr
  clear hr
  go_enter Tryz.func241, Tryz.ntmps241
  go_wp2_with fail
  go_loopw [8] (fun iv wr => ∃ i : Nat, i ≤ n ∧ iv = .int .i64 ((i : Nat) : Int) ∧ (∀ j, j < i → (!ok j) = false) ∧ Below w.heap.size w wr) (fun iv _ => n - (intOf iv).toNat)
  case atStart => exact ⟨0, Nat.zero_le _, rfl, fun j h => absurd h (Nat.not_lt_zero _), Below.refl _ _⟩
  case round =>
    obtain ⟨i, hi, rfl, hp, hb⟩ := hrel
    have HP := Lib.hid hp
    clear hp
    by_cases hlt : i < n
    · obtain ⟨ga, g', rfl, cg, hcall⟩ := H.out i hlt
      have HC := Lib.hid (ask_fit (hcall wr hb))
      clear hcall
      have cg1 : wr.cell? ⟨ga, i, none⟩ = some (ptrV g') := (World.cell?_of_block (hb.block _ (cell_lt0 cg))).trans cg
      have hgl := cell_lt0 cg1
      have HX := Lib.hid (show (!ok i) = false → ∀ j, j < i + 1 → (!ok j) = false from fun e j hji => by
        rcases Nat.lt_or_ge j i with h | h
        · exact HP.out j h
        · obtain rfl : j = i := by omega
          exact e)
      have HX2 := Lib.hid (show ∀ q, (!ok i) = q → (!ok i) = q from fun _ h => h)
      obtain ⟨q, hq⟩ : ∃ q, (!ok i) = q := ⟨_, rfl⟩
      have HQ := Lib.hid hq
      rw [hq] at HC
      clear hq cg HX2
      go_wp2_with fail
      refine HC.out.mono ?_
      rintro v w1 ⟨rfl, hb1⟩
      have hb2 := hb.trans (hb1.mono hb.size)
      cases q with
      | true =>
        go_wp2
        go_returns
        exact ⟨⟨_, rfl, .inl ⟨i, hlt, HQ.out, rfl⟩⟩, hb2⟩
      | false =>
        go_wp2
        go_roundw
        case rel => exact ⟨i + 1, hlt, by go_num, HX.out HQ.out, hb2⟩
        case measure => simp [intOf]; omega
    · obtain rfl : i = n := by omega
      go_wp2
      go_returns
      exact ⟨⟨_, rfl, .inr ⟨HP.out, rfl⟩⟩, hb⟩
theorem containsf_fit {w : World} {A : Option Addr} {n c : Nat} (ok : Nat → Bool) (hn : n ≤ 1048577)
    (hr : ∀ i, i < n → ∃ ga g, A = some ⟨ga, 0, none⟩ ∧ w.cell? ⟨ga, i, none⟩ = some (ptrV g) ∧ ∀ w', Below w.heap.size w w' → Calls Tryz.prog 136 #[ptrV g] w' fun v w'' => v = .returned (.bool (ok i)) ∧ Below w'.heap.size w' w'') :
    Calls Tryz.prog 182 #[.slice A n c, .func (.func 183) #[] #[]] w fun v w' => v = .returned (.bool ((List.range n).any fun i => !ok i)) ∧ Below w.heap.size w w' := by
  go_enter Tryz.func182, Tryz.ntmps182
  go_wp2_with fail
  refine (indexf_fit ok hn hr).mono ?_
  rintro v w1 ⟨⟨r, rfl, hq⟩, hb⟩
  have HA := Lib.hid hq.any
  clear hq
  go_wp2
  go_returns
  exact ⟨by rw [HA.out]; rfl, hb⟩
end Go.Proofs.YtpiimcbbgalhfaaGreatDoor
/- The tree's form: formed, Right. -/
namespace Go.Proofs.YtpiimcbbgalhfaaGreatDoor
set_option maxRecDepth 100000
open Go.RowKit
def kdOf (kids : List Tree) (i : Nat) : Int := match kids[i]? with
  | some n => n.kind
  | none => 0
mutual
def fitT : Tree → Bool
  | .mk k set lo hi lazy kids _ _ => formB k (eqB set (fun _ => false)) (lo == 0 && hi == 0 && !lazy) lo hi kids.length (kdOf kids) && fitL kids
def fitL : List Tree → Bool
  | [] => true
  | n :: l => fitT n && fitL l
end
mutual
def RngT : Tree → Prop
  | .mk _ _ lo hi _ kids _ _ => (-9223372036854775808 ≤ lo ∧ lo ≤ 9223372036854775807) ∧ (-9223372036854775808 ≤ hi ∧ hi ≤ 9223372036854775807) ∧ (∀ i, 0 ≤ kdOf kids i ∧ kdOf kids i ≤ 9223372036854775807) ∧ RngL kids
def RngL : List Tree → Prop
  | [] => True
  | n :: l => RngT n ∧ RngL l
end
theorem fitL_iff (l : List Tree) : fitL l = true ↔ ∀ n ∈ l, fitT n = true := by
  induction l with
  | nil => simp [fitL]
  | cons n l ih => simp [fitL, ih]
theorem RngL.mem {l : List Tree} (h : RngL l) {n : Tree} (hn : n ∈ l) : RngT n := by
  induction l with
  | nil => cases hn
  | cons m l ih =>
    simp only [RngL] at h
    rcases List.mem_cons.1 hn with rfl | hn
    · exact h.1
    · exact ih h.2 hn
def okOf (kids : List Tree) (i : Nat) : Bool := match kids[i]? with
  | some n => fitT n
  | none => true
theorem okOf_at {kids : List Tree} {i : Nat} (h : i < kids.length) : okOf kids i = fitT kids[i] := by
  unfold okOf
  rw [List.getElem?_eq_getElem h]
theorem kdOf_at {kids : List Tree} {i : Nat} (h : i < kids.length) : kdOf kids i = kids[i].kind := by
  unfold kdOf
  rw [List.getElem?_eq_getElem h]
theorem fitL_any (kids : List Tree) : ((List.range kids.length).any fun i => !okOf kids i) = !fitL kids := by
  cases h : fitL kids with
  | true =>
    rw [List.any_eq_false.2 fun i hi => by
      have hi := List.mem_range.1 hi
      rw [okOf_at hi, (fitL_iff kids).1 h _ (List.getElem_mem hi)]
      simp]
    rfl
  | false =>
    have hne : ¬ ∀ n ∈ kids, fitT n = true := fun hall => by rw [(fitL_iff kids).2 hall] at h; cases h
    have hex : ∃ n ∈ kids, fitT n = false := by
      apply Classical.byContradiction
      intro hno
      refine hne fun n hn => ?_
      cases hf : fitT n with
      | true => rfl
      | false => exact absurd ⟨n, hn, hf⟩ hno
    obtain ⟨n, hn, hf⟩ := hex
    obtain ⟨i, hi, rfl⟩ := List.getElem_of_mem hn
    rw [List.any_eq_true.2 ⟨i, List.mem_range.2 hi, by rw [okOf_at hi, hf]; rfl⟩]
    rfl
set_option maxHeartbeats 4000000 in
theorem formed_at {w : World} {S : Nat → Prop} {n : Tree} {b : Nat} (h : TreeAt w S n b) (hR : RngT n) : ∀ w', Below w.heap.size w w' →
    Calls Tryz.prog 136 #[ptrV b] w' fun v w'' => v = .returned (.bool (fitT n)) ∧ Below w'.heap.size w' w'' := by
  induction h with
  | @mk k set lo hi lazy kids f t b ga c A bs hSb hb hl hm hA hc hk ih =>
    intro w' hw
    simp only [RngT] at hR
    obtain ⟨hlo, hhi, hkd, hRL⟩ := hR
    have hb2 : Blk w' b 34 (nodeL k set lo hi lazy (.slice A kids.length c) f t) := hb.below hw hb.lt
    have hrow : RowK w A kids.length (kdOf kids) := fun i hi => by
      have hne : kids ≠ [] := by intro e; rw [e] at hi; exact absurd hi (Nat.not_lt_zero _)
      have hib : i < bs.length := by omega
      have ht := hk i _ _ (List.getElem?_eq_getElem hi) (List.getElem?_eq_getElem hib)
      obtain ⟨A2, c2, hn2, -, -⟩ := ht.node
      exact ⟨ga, bs[i], (hA hne).1, hc i _ (List.getElem?_eq_getElem hib), by rw [kdOf_at hi]; exact hn2.cell 0⟩
    have hcalls : ∀ i, i < kids.length → ∃ ga g, A = some ⟨ga, 0, none⟩ ∧ w.cell? ⟨ga, i, none⟩ = some (ptrV g) ∧ ∀ w', Below w.heap.size w w' → Calls Tryz.prog 136 #[ptrV g] w' fun v w'' => v = .returned (.bool (okOf kids i)) ∧ Below w'.heap.size w' w'' := fun i hi => by
      have hne : kids ≠ [] := by intro e; rw [e] at hi; exact absurd hi (Nat.not_lt_zero _)
      have hib : i < bs.length := by omega
      refine ⟨ga, bs[i], (hA hne).1, hc i _ (List.getElem?_eq_getElem hib), ?_⟩
      rw [okOf_at hi]
      exact ih i _ _ (List.getElem?_eq_getElem hi) (List.getElem?_eq_getElem hib) (hRL.mem (List.getElem_mem hi))
    have HF := Lib.hid (form_c hlo hhi (kdOf kids) hkd hm hb2 (hrow.under hw))
    have hcalls2 : ∀ w1, Below w.heap.size w w1 → ∀ i, i < kids.length → ∃ ga g, A = some ⟨ga, 0, none⟩ ∧ w1.cell? ⟨ga, i, none⟩ = some (ptrV g) ∧ ∀ w', Below w1.heap.size w1 w' → Calls Tryz.prog 136 #[ptrV g] w' fun v w'' => v = .returned (.bool (okOf kids i)) ∧ Below w'.heap.size w' w'' := fun w1 h1 i hi => by
      obtain ⟨ga, g, e, c1, hcall⟩ := hcalls i hi
      exact ⟨ga, g, e, (World.cell?_of_block (h1.block _ (cell_lt0 c1))).trans c1, fun w' h' => hcall w' (h1.trans (h'.mono h1.size))⟩
    have HCC := Lib.hid hcalls2
    have HW := Lib.hid hw
    have c8 := hb2.cell 8
    have c8' : w'.cell? ⟨b, 8, none⟩ = some (.slice A kids.length c) := c8
    have hlt := hb2.lt
    have HV := Lib.hid (show fitT (.mk k set lo hi lazy kids f t) = (formB k (eqB set (fun _ => false)) (lo == 0 && hi == 0 && !lazy) lo hi kids.length (kdOf kids) && fitL kids) by simp only [fitT])
    generalize fitT (.mk k set lo hi lazy kids f t) = y at *
    generalize formB k (eqB set (fun _ => false)) (lo == 0 && hi == 0 && !lazy) lo hi kids.length (kdOf kids) = q at *
    clear hb hb2 hl hA hc hk ih hrow hcalls hcalls2 hw c8 hRL hkd hlo hhi
    have hbo := cell_lt0 c8'
    rename World => w'
    go_enter Tryz.func136, Tryz.ntmps136
    go_wp2_with fail
    refine HF.out.mono ?_
    rintro v w1 ⟨rfl, hb1⟩
    have HB1 := Lib.hid hb1
    cases q with
    | false =>
      go_wp2
      go_returns
      exact ⟨by rw [HV.out]; rfl, hb1⟩
    | true =>
      have d8 := (World.cell?_of_block (hb1.block _ hlt)).trans c8'
      have hlt1 := cell_lt0 d8
      clear c8' hlt hbo
      go_wp2_with fail
      refine (containsf_fit (okOf kids) hm (HCC.out _ (HW.out.trans (HB1.out.mono HW.out.size)))).mono ?_
      rintro v w2 ⟨rfl, hb2⟩
      rw [fitL_any]
      obtain ⟨z, hz⟩ : ∃ z, fitL kids = z := ⟨_, rfl⟩
      have HZ := Lib.hid hz
      rw [hz]
      clear hz
      have hb3 := HB1.out.trans (hb2.mono HB1.out.size)
      clear hb2 hb1
      go_wp2
      go_returns
      exact ⟨by rw [HV.out, HZ.out]; simp, hb3⟩
set_option maxHeartbeats 4000000 in
theorem right_at {w : World} {S : Nat → Prop} {n : Tree} {b : Nat} (h : TreeAt w S n b) (hR : RngT n) (hd : deepT n ≤ 1000000) :
    Calls Tryz.prog 87 #[ptrV b] w fun v w' => v = .returned (.bool (fitT n && decide (deepT n ≤ 200))) ∧ Below w.heap.size w w' := by
  have H1 := Lib.hid (formed_at h hR w (Below.refl _ w))
  have H2 := Lib.hid (show ∀ w', Below w.heap.size w w' → Calls Tryz.prog 137 #[ptrV b] w' fun v w'' => v = .returned (.int .i64 ((deepT n : Nat) : Int)) ∧ w'' = w' from fun w' hw => deep_at (h.under hw) hd)
  clear h
  generalize fitT n = q at *
  generalize deepT n = d at *
  go_enter Tryz.func87, Tryz.ntmps87
  go_wp2_with fail
  refine H1.out.mono ?_
  rintro v w1 ⟨rfl, hb⟩
  cases q with
  | false =>
    go_wp2
    go_returns
    exact ⟨rfl, hb⟩
  | true =>
    go_wp2_with fail
    refine (H2.out _ hb).mono ?_
    rintro v w2 ⟨rfl, rfl⟩
    go_wp2
    go_returns
    exact ⟨by first | rfl | (simp; done) | (simp; omega), hb⟩
end Go.Proofs.YtpiimcbbgalhfaaGreatDoor
/- What is read is a pattern's tree: each node has what it may have; how deep, how great it is. No program in sight. -/
namespace Go.Proofs.YtpiimcbbgalhfaaGreatDoor
set_option maxRecDepth 100000
mutual
def sizeT : Tree → Nat
  | .mk _ _ _ _ _ kids _ _ => 1 + sizeL kids
def sizeL : List Tree → Nat
  | [] => 0
  | n :: l => sizeT n + sizeL l
end
theorem sizeL_snoc (l : List Tree) (n : Tree) : sizeL (l ++ [n]) = sizeL l + sizeT n := by
  induction l with
  | nil => simp [sizeL]
  | cons m l ih => simp only [List.cons_append, sizeL, ih]; omega
theorem fitL_snoc (l : List Tree) (n : Tree) : fitL (l ++ [n]) = (fitL l && fitT n) := by
  induction l with
  | nil => simp [fitL]
  | cons m l ih => simp only [List.cons_append, fitL, ih, Bool.and_assoc]
theorem rngL_snoc {l : List Tree} {n : Tree} (h : RngL l) (hn : RngT n) : RngL (l ++ [n]) := by
  induction l with
  | nil => exact ⟨hn, trivial⟩
  | cons m l ih => exact ⟨h.1, ih h.2⟩
/-- A count's numbers are right. -/
def CountOk (x : Tok) : Prop := x.kind = 5 → x.lo ≤ 1000 ∧ (x.hi = -1 ∨ (((x.lo : Nat) : Int) ≤ x.hi ∧ x.hi ≤ 1000))
def CountsOk (T : List Tk) : Prop := ∀ (i : Nat) (x : Tk), T[i]? = some x → CountOk x.1
/-- A tree that is right, of a depth and a size. -/
structure TreeOk (t : Tree) (d z : Nat) : Prop where
  fit : fitT t = true
  rng : RngT t
  deep : deepT t ≤ d
  size : sizeT t ≤ z
  kind : 0 ≤ t.kind ∧ t.kind ≤ 6
structure RowOk (l : List Tree) (d z : Nat) (p : Int → Prop) : Prop where
  fit : fitL l = true
  rng : RngL l
  deep : deepL l ≤ d
  size : sizeL l ≤ z
  kind : ∀ n ∈ l, p n.kind
theorem RowOk.nil (d z : Nat) (p : Int → Prop) : RowOk [] d z p := ⟨rfl, trivial, Nat.zero_le _, Nat.zero_le _, fun n h => by cases h⟩
theorem RowOk.snoc {l : List Tree} {n : Tree} {d z y : Nat} {p : Int → Prop} (h : RowOk l d z p) (hn : TreeOk n d y) (hp : p n.kind) : RowOk (l ++ [n]) d (z + y) p :=
  ⟨by rw [fitL_snoc, h.fit, hn.fit]; rfl, rngL_snoc h.rng hn.rng, by rw [deepL_snoc]; have := h.deep; have := hn.deep; omega, by rw [sizeL_snoc]; have := h.size; have := hn.size; omega, fun m hm => by
    rcases List.mem_append.1 hm with hm | hm
    · exact h.kind m hm
    · rw [List.mem_singleton.1 hm]; exact hp⟩
theorem eqB_noSet : eqB noSet (fun _ => false) = true := (eqB_iff _ _).2 fun _ _ => rfl
theorem kd_rng {l : List Tree} (h : ∀ n ∈ l, 0 ≤ n.kind ∧ n.kind ≤ 6) (i : Nat) : 0 ≤ kdOf l i ∧ kdOf l i ≤ 9223372036854775807 := by
  unfold kdOf
  cases hi : l[i]? with
  | none => exact ⟨Int.le_refl _, by decide⟩
  | some n =>
    have := h n (List.mem_of_getElem? hi)
    exact ⟨this.1, by simp only []; omega⟩
theorem leaf_ok (x : Tk) (d : Nat) : TreeOk (leafT x) d 1 := by
  refine ⟨?_, ?_, by simp [leafT, deepT, deepL], by simp [leafT, sizeT, sizeL], by simp [leafT, Tree.kind]⟩
  · unfold leafT
    simp [fitT, fitL, formB]
  · unfold leafT
    simp only [RngT, RngL]
    exact ⟨by omega, by omega, fun i => kd_rng (l := []) (fun n h => by cases h) i, trivial⟩
theorem empty_ok (p d : Nat) : TreeOk (emptyT p) d 1 := by
  refine ⟨?_, ?_, by simp [emptyT, deepT, deepL], by simp [emptyT, sizeT, sizeL], by simp [emptyT, Tree.kind]⟩
  · unfold emptyT
    simp [fitT, fitL, formB, eqB_noSet]
  · unfold emptyT
    simp only [RngT, RngL]
    exact ⟨by omega, by omega, fun i => kd_rng (l := []) (fun n h => by cases h) i, trivial⟩
theorem groupT_ok {x : Tk} {n : Tree} {t d z : Nat} (h : TreeOk n d z) : TreeOk (groupT x n t) (d + 1) (z + 1) ∧ ((groupT x n t).kind = 2 ∨ (groupT x n t).kind = 3) := by
  have hk : (groupT x n t).kind = 2 ∨ (groupT x n t).kind = 3 := by unfold groupT; simp only [Tree.kind]; split <;> simp
  refine ⟨⟨?_, ?_, ?_, ?_, by omega⟩, hk⟩
  · unfold groupT
    split <;> simp [fitT, fitL, formB, eqB_noSet, h.fit]
  · unfold groupT
    simp only [RngT, RngL]
    exact ⟨by omega, by omega, fun i => kd_rng (l := [n]) (fun m hm => by rw [List.mem_singleton.1 hm]; exact h.kind) i, h.rng, trivial⟩
  · unfold groupT
    rw [deepT_mk]
    have := h.deep
    have hb : ∀ b : Int, (if grpB b = true then max (deepT n) 0 + 1 else max (deepT n) 0) ≤ d + 1 := by
      intro b
      split <;> omega
    exact hb _
  · unfold groupT
    have := h.size
    simp only [sizeT, sizeL]
    omega
theorem rep_ok {x c : Tk} {n : Tree} {d z : Nat} (h : TreeOk n d z) (hk : n.kind = 1 ∨ n.kind = 2 ∨ n.kind = 3) (hc : CountOk c.1) (h5 : c.1.kind = 5) : TreeOk (repT x c n) d (z + 1) := by
  obtain ⟨h1, h2⟩ := hc h5
  refine ⟨?_, ?_, ?_, ?_, by simp [repT, Tree.kind]⟩
  · unfold repT
    have hg : (n.kind == 1 || grpB n.kind) = true := by
      rcases hk with h | h | h <;> rw [h] <;> rfl
    have hh : (c.1.hi == -1 || (decide (((c.1.lo : Nat) : Int) ≤ c.1.hi) && decide (c.1.hi ≤ 1000))) = true := by
      rcases h2 with h | ⟨h, h'⟩
      · rw [h]; rfl
      · rw [decide_eq_true h, decide_eq_true h']; simp
    have hl : decide (((c.1.lo : Nat) : Int) ≤ 1000) = true := decide_eq_true (by omega)
    have hl0 : decide (0 ≤ ((c.1.lo : Nat) : Int)) = true := decide_eq_true (by omega)
    simp only [fitT, fitL, formB, eqB_noSet, h.fit]
    have hkd : kdOf [n] 0 = n.kind := rfl
    rw [hkd, hg, hh, hl, hl0]
    rfl
  · unfold repT
    simp only [RngT, RngL]
    refine ⟨by omega, by omega, fun i => kd_rng (l := [n]) (fun m hm => by rw [List.mem_singleton.1 hm]; exact h.kind) i, h.rng, trivial⟩
  · unfold repT
    rw [deepT_mk]
    have := h.deep
    rw [if_neg (by decide)]
    simp only [deepL]
    omega
  · unfold repT
    have := h.size
    simp only [sizeT, sizeL]
    omega
theorem any_kinds {l : List Tree} {q : Int → Bool} (h : ∀ n ∈ l, q n.kind = false) : ((List.range l.length).any fun i => q (kdOf l i)) = false := by
  rw [List.any_eq_false]
  intro i hi
  have hi := List.mem_range.1 hi
  rw [kdOf_at hi, h _ (List.getElem_mem hi)]
  simp
theorem many_ok {k : Int} {l : List Tree} {d z : Nat} {p : Int → Prop} (h : RowOk l d z p) (hl : 0 < l.length) (hk : k = 4 ∨ k = 5) (hp : ∀ x, p x → 0 ≤ x ∧ x ≤ 6) (hq : ∀ x, p x → (k = 4 → [4, 0, 5].contains x = false) ∧ (k = 5 → [5].contains x = false)) :
    TreeOk (manyT k l) d (z + 1) ∧ (p (manyT k l).kind ∨ (manyT k l).kind = k) := by
  by_cases h1 : l.length = 1
  · obtain ⟨n, rfl⟩ := List.length_eq_one_iff.1 h1
    have hm : manyT k [n] = n := rfl
    rw [hm]
    have hf := h.fit
    simp only [fitL, Bool.and_true] at hf
    have hd := h.deep
    have hs := h.size
    simp only [deepL, sizeL] at hd hs
    exact ⟨⟨hf, h.rng.1, by omega, by omega, hp _ (h.kind n (by simp))⟩, .inl (h.kind n (by simp))⟩
  · have hm : manyT k l = .mk k noSet 0 0 false l (headT l) (lastT l) := by
      unfold manyT
      split
      · simp at h1
      · rfl
    rw [hm]
    refine ⟨⟨?_, ?_, ?_, ?_, by rcases hk with rfl | rfl <;> simp [Tree.kind]⟩, .inr rfl⟩
    · have h4 : k = 4 → ((List.range l.length).any fun i => [4, 0, 5].contains (kdOf l i)) = false := fun e => any_kinds (q := fun x => [4, 0, 5].contains x) (fun n hn => (hq _ (h.kind n hn)).1 e)
      have h5 : k = 5 → ((List.range l.length).any fun i => [5].contains (kdOf l i)) = false := fun e => any_kinds (q := fun x => [5].contains x) (fun n hn => (hq _ (h.kind n hn)).2 e)
      have hlen : decide ((1 : Int) < l.length) = true := decide_eq_true (by omega)
      simp only [fitT]
      rw [h.fit, Bool.and_true]
      unfold formB
      rcases hk with rfl | rfl
      · rw [eqB_noSet, h4 rfl, hlen]
        rfl
      · rw [eqB_noSet, h5 rfl, hlen]
        rfl
    · simp only [RngT]
      exact ⟨by omega, by omega, fun i => kd_rng (fun n hn => hp _ (h.kind n hn)) i, h.rng⟩
    · rw [deepT_mk, if_neg (by unfold grpB; rcases hk with rfl | rfl <;> simp)]
      exact h.deep
    · have := h.size
      simp only [sizeT]
      omega
section
variable {T : List Tk} {size : Nat}
/-- What may stand in a row of items: a set, a group, a repeat. -/
def itemK (x : Int) : Prop := x = 1 ∨ x = 2 ∨ x = 3 ∨ x = 6
def catK (x : Int) : Prop := x = 0 ∨ x = 1 ∨ x = 2 ∨ x = 3 ∨ x = 4 ∨ x = 6
def AltGood (T : List Tk) (size n : Nat) : Prop := ∀ (d i j : Nat) (t : Tree), d ≤ 200 → altF T size n d i = .ok t j → i ≤ T.length → T.length - i < n → i ≤ j ∧ TreeOk t (200 - d) (4 * (j - i) + 5)
theorem item_good {n d q k0 : Nat} {x : Tk} {n0 : Tree} (hd : d ≤ 200) (hg : AltGood T size n) (hb : baseW T size (altF T size n) d q x = .ok n0 k0) (hq : q < T.length) (hn : T.length - q ≤ n) : q < k0 ∧ TreeOk n0 (200 - d) (4 * (k0 - q) - 2) ∧ (n0.kind = 1 ∨ n0.kind = 2 ∨ n0.kind = 3) := by
  have hp := base_parts hb
  rcases hp with ⟨h0, rfl, rfl⟩ | ⟨h12, n1, m, y, hr, hy, hy3, rfl, rfl⟩
  · have := leaf_ok x (200 - d)
    exact ⟨by omega, ⟨this.fit, this.rng, this.deep, by have := this.size; omega, this.kind⟩, .inl rfl⟩
  · have hd2 : ¬ 200 ≤ d := by
      intro h
      unfold baseW at hb
      rw [if_neg (by omega), if_pos h12] at hb
      unfold groupW at hb
      rw [if_pos h] at hb
      cases hb
    obtain ⟨hle, hok⟩ := hg (d + 1) (q + 1) m n1 (by omega) hr (by omega) (by omega)
    obtain ⟨h1, h2⟩ := groupT_ok (x := x) (t := y.2.2) hok
    refine ⟨by omega, ⟨h1.fit, h1.rng, by have := h1.deep; omega, by have := h1.size; omega, h1.kind⟩, ?_⟩
    rcases h2 with h | h
    · exact .inr (.inl h)
    · exact .inr (.inr h)
theorem itemW_good {n d q k : Nat} {x : Tk} {t : Tree} (hd : d ≤ 200) (hC : CountsOk T) (hg : AltGood T size n) (hb : itemW T size (altF T size n) d q x = .ok t k) (hq : q < T.length) (hn : T.length - q ≤ n) : q < k ∧ TreeOk t (200 - d) (4 * (k - q) - 2) ∧ itemK t.kind := by
  obtain ⟨n0, k0, hbase, hp⟩ := item_parts hb
  obtain ⟨h1, h2, h3⟩ := item_good hd hg hbase hq hn
  rcases hp with ⟨c, hc, hc5, rfl, rfl⟩ | ⟨-, rfl, rfl⟩
  · have := rep_ok (x := x) (c := c) h2 h3 (hC k0 c hc) hc5
    exact ⟨by omega, ⟨this.fit, this.rng, this.deep, by have := this.size; omega, this.kind⟩, .inr (.inr (.inr rfl))⟩
  · refine ⟨h1, h2, ?_⟩
    rcases h3 with h | h | h
    · exact .inl h
    · exact .inr (.inl h)
    · exact .inr (.inr (.inl h))
theorem cat_good {n d i : Nat} (hd : d ≤ 200) (hC : CountsOk T) (hg : AltGood T size n) : ∀ (f q : Nat) (l L : List Tree) (J : Nat), i ≤ q → q ≤ T.length → T.length - q ≤ n → 
    (∃ z, RowOk l (200 - d) z itemK ∧ z + 2 * l.length ≤ 4 * (q - i)) → catLoop T size (altF T size n) d f l q = .ok L J → i ≤ J ∧ ∃ z, RowOk L (200 - d) z itemK ∧ z + 2 * L.length ≤ 4 * (J - i) := by
  intro f
  induction f with
  | zero =>
    intro q l L J hiq hq hn hz hc
    unfold catLoop at hc
    injection hc with h1 h2
    subst h1
    subst h2
    exact ⟨hiq, hz⟩
  | succ f ih =>
    intro q l L J hiq hq hn hz hc
    unfold catLoop at hc
    cases hx : T[q]? with
    | none =>
      rw [hx] at hc
      injection hc with h1 h2
      subst h1
      subst h2
      exact ⟨hiq, hz⟩
    | some x =>
      rw [hx] at hc
      simp only [] at hc
      have hql := (List.getElem?_eq_some_iff.1 hx).1
      by_cases hk : x.1.kind = 4 ∨ x.1.kind = 3
      · rw [if_pos hk] at hc
        injection hc with h1 h2
        subst h1
        subst h2
        exact ⟨hiq, hz⟩
      · rw [if_neg hk] at hc
        cases hi : itemW T size (altF T size n) d q x with
        | err p e => rw [hi] at hc; cases hc
        | ok t k =>
          rw [hi] at hc
          simp only [] at hc
          obtain ⟨h1, h2, h3⟩ := itemW_good hd hC hg hi hql hn
          obtain ⟨z, hr, hzz⟩ := hz
          have hrec : EvenA T (q + 1) (altF T size n (d + 1) (q + 1)) := altF_even n (d + 1) (q + 1) (by omega) (by omega)
          have he := item_even (size := size) hx (fun h => hk (.inr h)) (fun h => hk (.inl h)) hrec
          rw [hi] at he
          exact ih k (l ++ [t]) L J (by omega) he.2.1 (by omega) ⟨_, hr.snoc h2 h3, by simp; omega⟩ hc
theorem catW_good {n d i j : Nat} {t : Tree} (hd : d ≤ 200) (hC : CountsOk T) (hg : AltGood T size n) (hi : i ≤ T.length) (hn : T.length - i ≤ n) (h : catW T size (altF T size n) d i = .ok t j) : i ≤ j ∧ TreeOk t (200 - d) (4 * (j - i) + 1) ∧ catK t.kind := by
  unfold catW at h
  cases hc : catLoop T size (altF T size n) d (T.length + 1 - i) [] i with
  | err p e => rw [hc] at h; cases h
  | ok L J =>
    rw [hc] at h
    obtain ⟨hij, z, hr, hz⟩ := cat_good hd hC hg _ i [] L J (Nat.le_refl _) hi hn ⟨0, RowOk.nil _ _ _, by simp⟩ hc
    cases L with
    | nil =>
      simp only [catEnd] at h
      injection h with h1 h2
      subst h1
      subst h2
      have := empty_ok (fromAt T size i) (200 - d)
      exact ⟨hij, ⟨this.fit, this.rng, this.deep, by have := this.size; omega, this.kind⟩, .inl rfl⟩
    | cons a L =>
      simp only [catEnd] at h
      injection h with h1 h2
      subst h1
      subst h2
      simp only [List.length_cons] at hz
      have := many_ok (k := 4) hr (by simp) (.inl rfl) (fun x hx => by unfold itemK at hx; omega) (fun x hx => ⟨fun _ => by
        unfold itemK at hx
        simp only [List.contains_cons, List.contains_nil, Bool.or_false, Bool.or_eq_false_iff, beq_eq_false_iff_ne]
        omega, fun h => by omega⟩)
      refine ⟨hij, ⟨this.1.fit, this.1.rng, this.1.deep, by have := this.1.size; omega, this.1.kind⟩, ?_⟩
      unfold catK
      rcases this.2 with h | h
      · unfold itemK at h
        omega
      · omega
theorem alt_good {n d i : Nat} (hd : d ≤ 200) (hC : CountsOk T) (hg : AltGood T size n) : ∀ (f q : Nat) (l L : List Tree) (J : Nat), i ≤ q → q ≤ T.length → T.length - q ≤ n → 0 < l.length →
    (∃ z, RowOk l (200 - d) z catK ∧ z + 3 * l.length ≤ 4 * (q - i) + 4) → altLoop T size (altF T size n) d f l q = .ok L J → i ≤ J ∧ 0 < L.length ∧ ∃ z, RowOk L (200 - d) z catK ∧ z + 3 * L.length ≤ 4 * (J - i) + 4 := by
  intro f
  induction f with
  | zero =>
    intro q l L J hiq hq hn hl hz hc
    unfold altLoop at hc
    injection hc with h1 h2
    subst h1
    subst h2
    exact ⟨hiq, hl, hz⟩
  | succ f ih =>
    intro q l L J hiq hq hn hl hz hc
    unfold altLoop at hc
    by_cases hk : kindAt T q = some 4
    · rw [if_pos hk] at hc
      have hql : q < T.length := by
        unfold kindAt at hk
        cases hx : T[q]? with
        | none => rw [hx] at hk; cases hk
        | some x => exact (List.getElem?_eq_some_iff.1 hx).1
      cases hcw : catW T size (altF T size n) d (q + 1) with
      | err p e => rw [hcw] at hc; cases hc
      | ok t k =>
        rw [hcw] at hc
        simp only [] at hc
        obtain ⟨h1, h2, h3⟩ := catW_good hd hC hg (by omega) (by omega) hcw
        obtain ⟨z, hr, hzz⟩ := hz
        have he := catW_even (T := T) (size := size) (rec := altF T size n) (d := d) (i := q + 1) (by omega) (fun k h1 h2 => altF_even n (d + 1) (k + 1) h2 (by omega))
        rw [hcw] at he
        exact ih k (l ++ [t]) L J (by omega) he.1 (by omega) (by simp) ⟨_, hr.snoc h2 h3, by simp; omega⟩ hc
    · rw [if_neg hk] at hc
      injection hc with h1 h2
      subst h1
      subst h2
      exact ⟨hiq, hl, hz⟩
theorem altF_good (hC : CountsOk T) : ∀ n, AltGood T size n := by
  intro n
  induction n with
  | zero => intro d i j t hd h hi hn; omega
  | succ n ih =>
    intro d i j t hd h hi hn
    change altW T size (altF T size n) d i = .ok t j at h
    unfold altW at h
    cases hcw : catW T size (altF T size n) d i with
    | err p e => rw [hcw] at h; cases h
    | ok t0 k =>
      rw [hcw] at h
      simp only [] at h
      obtain ⟨h1, h2, h3⟩ := catW_good hd hC ih hi (by omega) hcw
      have he := catW_even (T := T) (size := size) (rec := altF T size n) (d := d) hi (fun k h1 h2 => altF_even n (d + 1) (k + 1) h2 (by omega))
      rw [hcw] at he
      cases ha : altLoop T size (altF T size n) d (T.length + 1 - k) [t0] k with
      | err p e => rw [ha] at h; cases h
      | ok L j' =>
        rw [ha] at h
        simp only [altEnd] at h
        injection h with e1 e2
        subst e1
        subst e2
        have hr0 : RowOk [t0] (200 - d) (4 * (k - i) + 1) catK := by
          have := (RowOk.nil (200 - d) 0 catK).snoc h2 h3
          simpa using this
        obtain ⟨g1, g2, z, hr, hz⟩ := alt_good hd hC ih _ k [t0] L j' h1 he.1 (by omega) (by simp) ⟨_, hr0, by simp only [List.length_singleton]; omega⟩ ha
        have := many_ok (k := 5) hr g2 (.inr rfl) (fun x hx => by unfold catK at hx; omega) (fun x hx => ⟨fun h => by omega, fun _ => by
          unfold catK at hx
          simp only [List.contains_cons, List.contains_nil, Bool.or_false, beq_eq_false_iff_ne]
          omega⟩)
        exact ⟨g1, ⟨this.1.fit, this.1.rng, this.1.deep, by have := this.1.size; omega, this.1.kind⟩⟩
theorem tree_good (hC : CountsOk T) {t : Tree} {j : Nat} (h : treeM T size = .ok t j) : TreeOk t 200 (4 * T.length + 5) := by
  unfold treeM at h
  cases ha : altF T size (T.length + 1) 0 0 with
  | err p e => rw [ha] at h; cases h
  | ok t' j' =>
    rw [ha] at h
    simp only [] at h
    have he := altF_even (T := T) (size := size) (T.length + 1) 0 0 (Nat.zero_le _) (by omega)
    rw [ha] at he
    have := altF_good (size := size) hC (T.length + 1) 0 0 j' t' (by omega) ha (Nat.zero_le _) (by omega)
    cases hx : T[j']? with
    | some x => rw [hx] at h; cases h
    | none =>
      rw [hx] at h
      simp only [] at h
      injection h with h1 h2
      subst h1
      have h3 := he.2.1
      exact ⟨this.2.fit, this.2.rng, this.2.deep, by have := this.2.size; omega, this.2.kind⟩
end
theorem lazy_count {t : List Nat} {lo : Nat} {hi : Int} {i : Nat} {x : Tok} {j : Nat} (h : lazyM t lo hi i = .ok x j) (h1 : lo ≤ 1000) (h2 : hi = -1 ∨ (((lo : Nat) : Int) ≤ hi ∧ hi ≤ 1000)) : CountOk x := by
  unfold lazyM at h
  by_cases h3 : t[i]? = some 63
  · simp only [h3, if_true] at h
    split at h
    · cases h
    · injection h with h; subst h; exact fun _ => ⟨h1, h2⟩
  · simp only [h3, if_false] at h
    split at h
    · cases h
    · injection h with h; subst h; exact fun _ => ⟨h1, h2⟩
theorem set_count {r : Res (Nat → Bool)} {x : Tok} {j : Nat} (h : setRes r = .ok x j) : CountOk x := by
  cases r with
  | err k e => cases h
  | ok m k => injection h with h; subst h; exact fun h => by cases h
theorem number_le {t : List Nat} {i n j : Nat} (h : numberM t i = .ok n j) : n ≤ 1000 := by
  unfold numberM at h
  cases hd : digitAt t i with
  | none => rw [hd] at h; cases h
  | some d =>
    rw [hd] at h
    simp only [] at h
    split at h
    · cases h
    · injection h with h _; omega
theorem braces_count {t : List Nat} {i lo j : Nat} {hi : Option Nat} (h : bracesM t i = .ok (lo, hi) j) : lo ≤ 1000 ∧ (hiZ hi = -1 ∨ (((lo : Nat) : Int) ≤ hiZ hi ∧ hiZ hi ≤ 1000)) := by
  unfold bracesM at h
  cases hn : numberM t i with
  | err k e => rw [hn] at h; cases h
  | ok a k =>
    rw [hn] at h
    have ha := number_le hn
    simp only [] at h
    split at h
    · split at h
      · injection h with h _
        injection h with h1 h2
        subst h1
        subst h2
        exact ⟨ha, .inl rfl⟩
      · cases hn2 : numberM t (k + 1) with
        | err k e => rw [hn2] at h; cases h
        | ok b k2 =>
          rw [hn2] at h
          have hb := number_le hn2
          simp only [] at h
          split at h
          · cases h
          · split at h
            · injection h with h _
              injection h with h1 h2
              subst h1
              subst h2
              exact ⟨ha, .inr ⟨by simp only [hiZ]; omega, by simp only [hiZ]; omega⟩⟩
            · cases h
    · split at h
      · injection h with h _
        injection h with h1 h2
        subst h1
        subst h2
        exact ⟨ha, .inr ⟨by simp only [hiZ]; omega, by simp only [hiZ]; omega⟩⟩
      · cases h
theorem tok_count {t : List Nat} {i : Nat} {x : Tok} {j : Nat} (h : tokM t i = .ok x j) : CountOk x := by
  have hK : ∀ (k : Nat) (j' : Nat), k ≠ 5 → (Res.ok (kindTok k) j' : Res Tok) = .ok x j → CountOk x := fun k j' hk h => by
    injection h with h
    subst h
    exact fun h => absurd h hk
  have hS : ∀ (m : Nat → Bool) (j' : Nat), (Res.ok (setTok m) j' : Res Tok) = .ok x j → CountOk x := fun m j' h => by
    injection h with h
    subst h
    exact fun h => by cases h
  unfold tokM at h
  cases hc : t[i]? with
  | none => rw [hc] at h; cases h
  | some c =>
    rw [hc] at h
    dsimp only at h
    by_cases h0 : c = 92
    · rw [if_pos h0] at h; exact set_count h
    rw [if_neg h0] at h
    by_cases h1 : c = 91
    · rw [if_pos h1] at h; exact set_count h
    rw [if_neg h1] at h
    by_cases h2 : c = 40
    · rw [if_pos h2] at h
      unfold groupM at h
      split at h
      · split at h
        · exact hK 2 _ (by decide) h
        · cases h
      · exact hK 1 _ (by decide) h
    rw [if_neg h2] at h
    by_cases h3 : c = 41
    · rw [if_pos h3] at h; exact hK 3 _ (by decide) h
    rw [if_neg h3] at h
    by_cases h4 : c = 124
    · rw [if_pos h4] at h; exact hK 4 _ (by decide) h
    rw [if_neg h4] at h
    by_cases h5 : c = 46
    · rw [if_pos h5] at h; exact hS _ _ h
    rw [if_neg h5] at h
    by_cases h6 : c = 42
    · rw [if_pos h6] at h; exact lazy_count h (by omega) (.inl rfl)
    rw [if_neg h6] at h
    by_cases h7 : c = 43
    · rw [if_pos h7] at h; exact lazy_count h (by omega) (.inl rfl)
    rw [if_neg h7] at h
    by_cases h8 : c = 63
    · rw [if_pos h8] at h; exact lazy_count h (by omega) (.inr ⟨by omega, by omega⟩)
    rw [if_neg h8] at h
    by_cases h9 : c = 123
    · rw [if_pos h9] at h
      cases hb : bracesM t (i + 1) with
      | err k e => rw [hb] at h; cases h
      | ok p k =>
        rw [hb] at h
        obtain ⟨lo, hi⟩ := p
        have hbc := braces_count hb
        exact lazy_count h hbc.1 hbc.2
    rw [if_neg h9] at h
    by_cases ha : c = 94 ∨ c = 36
    · rw [if_pos ha] at h; cases h
    rw [if_neg ha] at h
    by_cases hb : loneL.contains c = true
    · rw [if_pos hb] at h; cases h
    rw [if_neg hb] at h
    exact hS _ _ h
theorem scanLoop_count {t : List Nat} : ∀ (f i : Nat) (l L : List Tk) (n : Nat), (∀ y ∈ l, CountOk y.1) → scanLoop t f i l = .ok L n → ∀ y ∈ L, CountOk y.1 := by
  intro f
  induction f with
  | zero => intro i l L n hl h; unfold scanLoop at h; injection h with h; subst h; exact hl
  | succ f ih =>
    intro i l L n hl h
    unfold scanLoop at h
    split at h
    · cases hk : tokM t i with
      | err j e => rw [hk] at h; cases h
      | ok x j =>
        rw [hk] at h
        refine ih j _ L n (fun y hy => ?_) h
        rcases List.mem_append.1 hy with hy | hy
        · exact hl y hy
        · obtain rfl := List.mem_singleton.1 hy
          exact tok_count hk
    · injection h with h; subst h; exact hl
theorem scan_counts {t : List Nat} {L : List Tk} {n : Nat} (h : scanM t = .ok L n) : CountsOk L := fun _ x hx => scanLoop_count _ _ _ _ _ (fun y hy => by cases hy) h x (List.mem_of_getElem? hx)
/-- What a pattern is read as. -/
theorem parse_good {s : ByteArray} {t : Tree} {j : Nat} (h : parseM s = .ok t j) : TreeOk t 200 (4 * s.size + 5) := by
  unfold parseM at h
  cases hs : scanM (bytesN s) with
  | err k e => rw [hs] at h; cases h
  | ok L m =>
    rw [hs] at h
    have := tree_good (scan_counts hs) h
    have hl := scan_len hs
    rw [bytesN_length] at hl
    exact ⟨this.fit, this.rng, this.deep, by have := this.size; omega, this.kind⟩
end Go.Proofs.YtpiimcbbgalhfaaGreatDoor
/- Trees: how many nodes of a kind, which sets; rows of sets appended. -/
namespace Go.Proofs.YtpiimcbbgalhfaaGreatDoor
set_option maxRecDepth 100000
open Go.RowKit
theorem Blk.eleven {w : World} {b t : Nat} {u0 u1 u2 u3 u4 u5 u6 u7 u8 u9 u10 : Value} (h : Blk w b t [u0, u1, u2, u3, u4, u5, u6, u7, u8, u9, u10]) :
    (w.cell? ⟨b, 0, none⟩ = some u0 ∧ w.cell? ⟨b, 1, none⟩ = some u1 ∧ w.cell? ⟨b, 2, none⟩ = some u2 ∧ w.cell? ⟨b, 3, none⟩ = some u3 ∧ w.cell? ⟨b, 4, none⟩ = some u4 ∧ w.cell? ⟨b, 5, none⟩ = some u5 ∧ w.cell? ⟨b, 6, none⟩ = some u6 ∧ w.cell? ⟨b, 7, none⟩ = some u7 ∧ w.cell? ⟨b, 8, none⟩ = some u8 ∧ w.cell? ⟨b, 9, none⟩ = some u9 ∧ w.cell? ⟨b, 10, none⟩ = some u10) ∧
    w.frozen? ⟨b, 0, none⟩ = false ∧ w.frozen? ⟨b, 1, none⟩ = false ∧ w.frozen? ⟨b, 2, none⟩ = false ∧ w.frozen? ⟨b, 3, none⟩ = false ∧ w.frozen? ⟨b, 4, none⟩ = false ∧ w.frozen? ⟨b, 5, none⟩ = false ∧ w.frozen? ⟨b, 6, none⟩ = false ∧ w.frozen? ⟨b, 7, none⟩ = false ∧ w.frozen? ⟨b, 8, none⟩ = false ∧ w.frozen? ⟨b, 9, none⟩ = false ∧ w.frozen? ⟨b, 10, none⟩ = false :=
  ⟨⟨h.cell 0, h.cell 1, h.cell 2, h.cell 3, h.cell 4, h.cell 5, h.cell 6, h.cell 7, h.cell 8, h.cell 9, h.cell 10⟩, h.frozen 0, h.frozen 1, h.frozen 2, h.frozen 3, h.frozen 4, h.frozen 5, h.frozen 6, h.frozen 7, h.frozen 8, h.frozen 9, h.frozen 10⟩
mutual
def countT (k : Int) : Tree → Nat
  | .mk kind _ _ _ _ kids _ _ => (if kind = k then 1 else 0) + countL k kids
def countL (k : Int) : List Tree → Nat
  | [] => 0
  | n :: l => countT k n + countL k l
end
theorem countL_snoc (k : Int) (l : List Tree) (n : Tree) : countL k (l ++ [n]) = countL k l + countT k n := by
  induction l with
  | nil => simp [countL]
  | cons m l ih => simp only [List.cons_append, countL, ih]; omega
theorem countL_take (k : Int) {l : List Tree} {i : Nat} (h : i < l.length) : countL k (l.take (i + 1)) = countL k (l.take i) + countT k l[i] := by rw [List.take_succ_eq_append_getElem h, countL_snoc]
theorem sizeL_take {l : List Tree} {i : Nat} (h : i < l.length) : sizeL (l.take (i + 1)) = sizeL (l.take i) + sizeT l[i] := by rw [List.take_succ_eq_append_getElem h, sizeL_snoc]
theorem sizeL_mem {l : List Tree} {n : Tree} (h : n ∈ l) : sizeT n ≤ sizeL l := by
  induction l with
  | nil => cases h
  | cons m l ih =>
    simp only [sizeL]
    rcases List.mem_cons.1 h with rfl | h
    · omega
    · have := ih h; omega
theorem sizeL_le {l : List Tree} (k : Nat) : sizeL (l.take k) ≤ sizeL l := by
  induction l generalizing k with
  | nil => simp
  | cons m l ih =>
    cases k with
    | zero => simp [sizeL]
    | succ k => simp only [List.take_succ_cons, sizeL]; have := ih k; omega
mutual
theorem count_size (k : Int) : ∀ t : Tree, countT k t ≤ sizeT t
  | .mk kind _ _ _ _ kids _ _ => by
    have := count_sizeL k kids
    simp only [countT, sizeT]
    split <;> omega
theorem count_sizeL (k : Int) : ∀ l : List Tree, countL k l ≤ sizeL l
  | [] => by simp [countL]
  | n :: l => by
    have := count_size k n
    have := count_sizeL k l
    simp only [countL, sizeL]
    omega
end
mutual
def setsT : Tree → List (Nat → Bool)
  | .mk k set _ _ _ kids _ _ => (if k = 1 then [set] else []) ++ setsL kids
def setsL : List Tree → List (Nat → Bool)
  | [] => []
  | n :: l => setsT n ++ setsL l
end
theorem setsL_snoc (l : List Tree) (n : Tree) : setsL (l ++ [n]) = setsL l ++ setsT n := by
  induction l with
  | nil => simp [setsL]
  | cons m l ih => simp only [List.cons_append, setsL, ih, List.append_assoc]
theorem setsL_take {l : List Tree} {i : Nat} (h : i < l.length) : setsL (l.take (i + 1)) = setsL (l.take i) ++ setsT l[i] := by rw [List.take_succ_eq_append_getElem h, setsL_snoc]
mutual
theorem sets_size : ∀ t : Tree, (setsT t).length ≤ sizeT t
  | .mk k _ _ _ _ kids _ _ => by
    have := sets_sizeL kids
    simp only [setsT, sizeT, List.length_append]
    split <;> simp <;> omega
theorem sets_sizeL : ∀ l : List Tree, (setsL l).length ≤ sizeL l
  | [] => by simp [setsL]
  | n :: l => by
    have := sets_size n
    have := sets_sizeL l
    simp only [setsL, sizeL, List.length_append]
    omega
end
theorem elem_sets : Elem Tryz.prog 132 24 4 32 := by
  obtain ⟨i, hi, h0, h1, h2⟩ := info_parts (by kernel_rfl : (Tryz.prog.info? 24).map (fun i => (i.zero, i.size, i.bytes)) = some (some (.agg #[.int .u64 0, .int .u64 0, .int .u64 0, .int .u64 0]), 4, 32))
  exact ⟨i, _, Tryz.underlying132, hi, h0, h1, h2, rfl, by omega⟩
theorem one_sets (l : List (Nat → Bool)) : ∀ u ∈ setsC l, u.oneCell' = true := by
  intro u hu
  unfold setsC at hu
  obtain ⟨m, -, hm⟩ := List.mem_flatMap.1 hu
  exact one_set m u hm
theorem setsC_append (a b : List (Nat → Bool)) : setsC (a ++ b) = setsC a ++ setsC b := by simp [setsC]
/-- 'v = append(v, x...)', v and x rows of sets. -/
theorem append_rows {P : Program} {W : World} {ops : Array Oper} {rest : List Oper} {o : Oper} {a : Act} {Q : Exit → Act → World → Prop} (hgd : o.guard = none) (s x : Operand) (t : TypeId)
    (ho : o.op = .call { callee := .builtin .append, args := #[s, x], argTypes := #[t, t] }) (base : Nat) (e : TypeId) (size bytes : Nat) (he : Elem P t e size bytes)
    (v : Value) (n : Nat) (xs : List Value) (hs : a.eval s = v) (hown : W.ownsRow base e size v n xs) (u : Value) (hx : a.eval x = u) (m : Nat) (news : List Value) (base2 : Nat) (hu : W.ownsRow base2 e size u m news)
    (h1 : ∀ u ∈ news, u.oneCell' = true) (h63 : n + m ≤ 9223372036854775807) (hbytes : (n + m) * bytes ≤ 140737488355328) (hbase : base ≤ W.heap.size)
    (h : ∀ v' w', w'.ownsRow base e size v' (n + m) (xs ++ news) → Below base W w' → wpList P ops Q rest (a.put o.dst v') w') : wpList P ops Q (o :: rest) a W := by
  obtain ⟨i, z, ht, hi, hz, hsize, hby, hzs, hsz⟩ := he
  rcases own_form hu with ⟨rfl, rfl⟩ | ⟨g, cap, rfl⟩
  · have hn : news = [] := List.eq_nil_of_length_eq_zero (by have := hu.1; simpa using this)
    subst hn
    refine wpList_append_own_none hgd s x t ho base e i size ht hi v n xs hs hown hx ?_
    exact h v W (by simpa using hown) (Below.refl _ _)
  · refine wpList_append_own (w := W) hgd s x t ho base e i z size bytes ht hi hz hsize hby hzs hsz v n xs hs hown ⟨g, 0, none⟩ m cap news hx (by have := hu.1; omega) (fun j u hj => hu.cells rfl j u hj) h1 h63 hbytes hbase ?_
    intro v' w' hown' hg _
    exact h v' w' hown' ((Below.refl base W).grown hg hbase (fun k hk => (hown.lt k hk).1))
end Go.Proofs.YtpiimcbbgalhfaaGreatDoor
/- Trees that are the same but for places. Plain. -/
namespace Go.Proofs.YtpiimcbbgalhfaaGreatDoor
set_option maxRecDepth 100000
mutual
def sameT : Tree → Tree → Bool
  | .mk k s lo hi z kids _ _, .mk k' s' lo' hi' z' kids' _ _ => k == k' && (eqB s s' && (lo == lo' && (hi == hi' && (z == z' && sameL kids kids'))))
def sameL : List Tree → List Tree → Bool
  | [], [] => true
  | n :: l, m :: r => sameT n m && sameL l r
  | _, _ => false
end
theorem sameL_len : ∀ {l r : List Tree}, l.length ≠ r.length → sameL l r = false := by
  intro l
  induction l with
  | nil =>
    intro r h
    cases r with
    | nil => exact absurd rfl h
    | cons m r => simp [sameL]
  | cons n l ih =>
    intro r h
    cases r with
    | nil => simp [sameL]
    | cons m r =>
      simp only [sameL]
      rw [ih (fun e => h (by simp [e]))]
      simp
theorem drop_step {l : List Tree} {i : Nat} (h : i < l.length) : l.drop i = l[i] :: l.drop (i + 1) := List.drop_eq_getElem_cons h
theorem same_step {l r : List Tree} {i : Nat} (h : i < l.length) (h' : i < r.length) : sameL (l.drop i) (r.drop i) = (sameT l[i] r[i] && sameL (l.drop (i + 1)) (r.drop (i + 1))) := by
  rw [drop_step h, drop_step h']
  simp only [sameL]
end Go.Proofs.YtpiimcbbgalhfaaGreatDoor
