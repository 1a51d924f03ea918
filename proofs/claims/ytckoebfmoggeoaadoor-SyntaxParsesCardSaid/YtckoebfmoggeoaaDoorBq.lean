/- The tree's form: a node with parts of its own. -/
import Derived.Test.YtckoebfmoggeoaaDoorBp
namespace Go.Proofs.YtckoebfmoggeoaaDoor
set_option maxRecDepth 100000
open Go.RowKit
attribute [local go_sem] eq_words eqB_words eqB_zero
set_option maxHeartbeats 8000000 in
theorem form_k4 {w : World} {b : Nat} {set : Nat → Bool} {lo hi : Int} {lazy : Bool} {A : Option Addr} {n c f t : Nat} (kd : Nat → Int) (hkd : ∀ i, 0 ≤ kd i ∧ kd i ≤ 9223372036854775807) (hn : n ≤ 1048577)
    (hb : Blk w b 44 (nodeL 4 set lo hi lazy (.slice A n c) f t)) (hr : RowK w A n kd) :
    Calls Tryd.prog 43 #[ptrV b] w fun v w' => v = .returned (.bool (formB 4 (eqB set (fun _ => false)) (lo == 0 && hi == 0 && !lazy) lo hi n kd)) ∧ Below w.heap.size w w' := by
  obtain ⟨q, hq⟩ : ∃ q, formB 4 (eqB set (fun _ => false)) (lo == 0 && hi == 0 && !lazy) lo hi n kd = q := ⟨_, rfl⟩
  have HQ := Lib.hid hq
  rw [hq]
  clear hq
  have hA : Below w.heap.size w (w.alloc (.cells #[ptrV b] 23)) := (Below.refl _ w).alloc (Nat.le_refl _) _
  have B1 := hb.alloc (.cells #[ptrV b] 23)
  have cn : (w.alloc (.cells #[ptrV b] 23)).cell? ⟨w.heap.size, 0, none⟩ = some (ptrV b) := (Blk.new w [ptrV b] 23).cell 0
  have HR := Lib.hid (hr.under hA)
  obtain ⟨B0, hB0⟩ : ∃ B0, w.heap.size = B0 := ⟨_, rfl⟩
  have HA := Lib.hid (hB0 ▸ hA)
  have HB := Lib.hid hB0
  rw [hB0]
  clear hr hA hb hB0
  go_enter Tryd.func43, Tryd.ntmps43
  go_upto_region 1 with fail
  generalize w.heap.size = nx at *
  generalize w.alloc (.cells #[ptrV b] 23) = w1 at *
  have c0 : w1.cell? ⟨b, 0, none⟩ = some (.int .i64 4) := B1.cell 0
  have c1 : w1.cell? ⟨b, 1, none⟩ = some (.int .u64 (word set 0)) := B1.cell 1
  have c2 : w1.cell? ⟨b, 2, none⟩ = some (.int .u64 (word set 1)) := B1.cell 2
  have c3 : w1.cell? ⟨b, 3, none⟩ = some (.int .u64 (word set 2)) := B1.cell 3
  have c4 : w1.cell? ⟨b, 4, none⟩ = some (.int .u64 (word set 3)) := B1.cell 4
  have c5 : w1.cell? ⟨b, 5, none⟩ = some (.int .i64 lo) := B1.cell 5
  have c6 : w1.cell? ⟨b, 6, none⟩ = some (.int .i64 hi) := B1.cell 6
  have c7 : w1.cell? ⟨b, 7, none⟩ = some (.bool lazy) := B1.cell 7
  have c8 : w1.cell? ⟨b, 8, none⟩ = some (.slice A n c) := B1.cell 8
  have hlt := B1.lt
  have hnl := cell_lt0 cn
  clear B1
  go_wp2_with fail
  refine (contains_nil hn HR.out.rowP).mono ?_
  rintro v w2 ⟨rfl, rfl⟩
  rename World => w2
  have HP := Lib.hid (plain_at c5 c6 c7)
  clear c5 c6 c7
  generalize (lo == 0 && hi == 0 && !lazy) = pl at *
  cases hz : eqB set (fun _ => false) <;> cases pl <;> (
    go_wp2_with fail
    try (
      refine HP.out.mono ?_
      rintro v w3 ⟨rfl, rfl⟩
      rename World => w2)
    try clear HP
    cases hgt : decide ((1 : Int) < n) <;> (
      go_wp2_with fail
      first
        | (go_returns; exact ⟨by have hq := HQ.out; rw [hz] at hq; rw [← hq]; first | rfl | (simp [formB]; done) | (simp only [formB, hgt]; simp; done), HA.out⟩)
        | (
          have hA2 : Below w2.heap.size w2 (w2.alloc (.cells #[.int .i64 4, .int .i64 0, .int .i64 5] 3)) := (Below.refl _ w2).alloc (Nat.le_refl _) _
          have HR2 := HR.out.under hA2
          have cn2 := (World.cell?_of_block (hA2.block _ hnl)).trans cn
          have c82 := (World.cell?_of_block (hA2.block _ hlt)).trans c8
          have hrow : ∀ i, (hi : i < ([4, 0, 5] : List Int).length) → (w2.alloc (.cells #[.int .i64 4, .int .i64 0, .int .i64 5] 3)).cell? ⟨w2.heap.size, i, none⟩ = some (.int .i64 ([4, 0, 5] : List Int)[i]) := fun i hi => by
            rw [(Blk.new w2 [.int .i64 4, .int .i64 0, .int .i64 5] 3).cell i]
            have h3 : i = 0 ∨ i = 1 ∨ i = 2 := by simp only [List.length_cons, List.length_nil] at hi; omega
            rcases h3 with rfl | rfl | rfl <;> rfl
          have hB0 : B0 ≤ w2.heap.size := by rw [← HB.out]; exact Nat.le_of_lt hnl
          have hgw : w2.heap.size < (w2.alloc (.cells #[.int .i64 4, .int .i64 0, .int .i64 5] 3)).heap.size := (Blk.new w2 [.int .i64 4, .int .i64 0, .int .i64 5] 3).lt
          refine (not_kinds (g := w2.heap.size) (cc := 3) (l := [4, 0, 5]) kd hkd (by decide) hn HR2 cn2 c82 hrow hgw).mono ?_
          rintro v w3 ⟨rfl, hb3⟩
          have hb4 := HA.out.trans ((hA2.trans (hb3.mono hA2.size)).mono hB0)
          clear hA2 HR2 cn2 c82 hrow hB0 hgw hb3
          obtain ⟨y, hy⟩ : ∃ y, ((List.range n).any fun i => ([4, 0, 5] : List Int).contains (kd i)) = y := ⟨_, rfl⟩
          have HY := Lib.hid hy
          rw [hy]
          clear hy
          go_wp2
          go_returns
          exact ⟨by have hq := HQ.out; rw [hz] at hq; rw [← hq]; simp only [formB]; rw [hgt, HY.out]; rfl, hb4⟩)))
set_option maxHeartbeats 8000000 in
theorem form_k5 {w : World} {b : Nat} {set : Nat → Bool} {lo hi : Int} {lazy : Bool} {A : Option Addr} {n c f t : Nat} (kd : Nat → Int) (hkd : ∀ i, 0 ≤ kd i ∧ kd i ≤ 9223372036854775807) (hn : n ≤ 1048577)
    (hb : Blk w b 44 (nodeL 5 set lo hi lazy (.slice A n c) f t)) (hr : RowK w A n kd) :
    Calls Tryd.prog 43 #[ptrV b] w fun v w' => v = .returned (.bool (formB 5 (eqB set (fun _ => false)) (lo == 0 && hi == 0 && !lazy) lo hi n kd)) ∧ Below w.heap.size w w' := by
  obtain ⟨q, hq⟩ : ∃ q, formB 5 (eqB set (fun _ => false)) (lo == 0 && hi == 0 && !lazy) lo hi n kd = q := ⟨_, rfl⟩
  have HQ := Lib.hid hq
  rw [hq]
  clear hq
  have hA : Below w.heap.size w (w.alloc (.cells #[ptrV b] 23)) := (Below.refl _ w).alloc (Nat.le_refl _) _
  have B1 := hb.alloc (.cells #[ptrV b] 23)
  have cn : (w.alloc (.cells #[ptrV b] 23)).cell? ⟨w.heap.size, 0, none⟩ = some (ptrV b) := (Blk.new w [ptrV b] 23).cell 0
  have HR := Lib.hid (hr.under hA)
  obtain ⟨B0, hB0⟩ : ∃ B0, w.heap.size = B0 := ⟨_, rfl⟩
  have HA := Lib.hid (hB0 ▸ hA)
  have HB := Lib.hid hB0
  rw [hB0]
  clear hr hA hb hB0
  go_enter Tryd.func43, Tryd.ntmps43
  go_upto_region 1 with fail
  generalize w.heap.size = nx at *
  generalize w.alloc (.cells #[ptrV b] 23) = w1 at *
  have c0 : w1.cell? ⟨b, 0, none⟩ = some (.int .i64 5) := B1.cell 0
  have c1 : w1.cell? ⟨b, 1, none⟩ = some (.int .u64 (word set 0)) := B1.cell 1
  have c2 : w1.cell? ⟨b, 2, none⟩ = some (.int .u64 (word set 1)) := B1.cell 2
  have c3 : w1.cell? ⟨b, 3, none⟩ = some (.int .u64 (word set 2)) := B1.cell 3
  have c4 : w1.cell? ⟨b, 4, none⟩ = some (.int .u64 (word set 3)) := B1.cell 4
  have c5 : w1.cell? ⟨b, 5, none⟩ = some (.int .i64 lo) := B1.cell 5
  have c6 : w1.cell? ⟨b, 6, none⟩ = some (.int .i64 hi) := B1.cell 6
  have c7 : w1.cell? ⟨b, 7, none⟩ = some (.bool lazy) := B1.cell 7
  have c8 : w1.cell? ⟨b, 8, none⟩ = some (.slice A n c) := B1.cell 8
  have hlt := B1.lt
  have hnl := cell_lt0 cn
  clear B1
  go_wp2_with fail
  refine (contains_nil hn HR.out.rowP).mono ?_
  rintro v w2 ⟨rfl, rfl⟩
  rename World => w2
  have HP := Lib.hid (plain_at c5 c6 c7)
  clear c5 c6 c7
  generalize (lo == 0 && hi == 0 && !lazy) = pl at *
  cases hz : eqB set (fun _ => false) <;> cases pl <;> (
    go_wp2_with fail
    try (
      refine HP.out.mono ?_
      rintro v w3 ⟨rfl, rfl⟩
      rename World => w2)
    try clear HP
    cases hgt : decide ((1 : Int) < n) <;> (
      go_wp2_with fail
      first
        | (go_returns; exact ⟨by have hq := HQ.out; rw [hz] at hq; rw [← hq]; first | rfl | (simp [formB]; done) | (simp only [formB, hgt]; simp; done), HA.out⟩)
        | (
          have hA2 : Below w2.heap.size w2 (w2.alloc (.cells #[.int .i64 5] 3)) := (Below.refl _ w2).alloc (Nat.le_refl _) _
          have HR2 := HR.out.under hA2
          have cn2 := (World.cell?_of_block (hA2.block _ hnl)).trans cn
          have c82 := (World.cell?_of_block (hA2.block _ hlt)).trans c8
          have hrow : ∀ i, (hi : i < ([5] : List Int).length) → (w2.alloc (.cells #[.int .i64 5] 3)).cell? ⟨w2.heap.size, i, none⟩ = some (.int .i64 ([5] : List Int)[i]) := fun i hi => by
            rw [(Blk.new w2 [.int .i64 5] 3).cell i]
            have h3 : i = 0 := by simp only [List.length_cons, List.length_nil] at hi; omega
            rcases h3 with rfl <;> rfl
          have hB0 : B0 ≤ w2.heap.size := by rw [← HB.out]; exact Nat.le_of_lt hnl
          have hgw : w2.heap.size < (w2.alloc (.cells #[.int .i64 5] 3)).heap.size := (Blk.new w2 [.int .i64 5] 3).lt
          refine (not_kinds (g := w2.heap.size) (cc := 1) (l := [5]) kd hkd (by decide) hn HR2 cn2 c82 hrow hgw).mono ?_
          rintro v w3 ⟨rfl, hb3⟩
          have hb4 := HA.out.trans ((hA2.trans (hb3.mono hA2.size)).mono hB0)
          clear hA2 HR2 cn2 c82 hrow hB0 hgw hb3
          obtain ⟨y, hy⟩ : ∃ y, ((List.range n).any fun i => ([5] : List Int).contains (kd i)) = y := ⟨_, rfl⟩
          have HY := Lib.hid hy
          rw [hy]
          clear hy
          go_wp2
          go_returns
          exact ⟨by have hq := HQ.out; rw [hz] at hq; rw [← hq]; simp only [formB]; rw [hgt, HY.out]; rfl, hb4⟩)))
end Go.Proofs.YtckoebfmoggeoaaDoor
/- The tree's form: a repeat, and what is no kind. -/
namespace Go.Proofs.YtckoebfmoggeoaaDoor
set_option maxRecDepth 100000
open Go.RowKit
attribute [local go_sem] eq_words eqB_words eqB_zero
set_option maxHeartbeats 8000000 in
theorem form_kx {w : World} {b : Nat} {set : Nat → Bool} {lo hi : Int} {lazy : Bool} {A : Option Addr} {n c f t : Nat} {k : Int} (h0 : (k == 0) = false) (h1 : (k == 1) = false) (h2 : (k == 2) = false) (h3 : (k == 3) = false) (h4 : (k == 4) = false) (h5 : (k == 5) = false) (h6 : (k == 6) = false) (kd : Nat → Int) (hn : n ≤ 1048577)
    (hb : Blk w b 44 (nodeL k set lo hi lazy (.slice A n c) f t)) (hr : RowK w A n kd) :
    Calls Tryd.prog 43 #[ptrV b] w fun v w' => v = .returned (.bool (formB k (eqB set (fun _ => false)) (lo == 0 && hi == 0 && !lazy) lo hi n kd)) ∧ Below w.heap.size w w' := by
  have g1 : (k != 1) = true := by simp [bne, h1]
  have g6 : (k != 6) = true := by simp [bne, h6]
  have HF := Lib.hid (show ∀ z pl, formB k z pl lo hi n kd = false from fun z pl => by
    have d0 := ne_of_beq_false h0; have d1 := ne_of_beq_false h1; have d2 := ne_of_beq_false h2; have d3 := ne_of_beq_false h3; have d4 := ne_of_beq_false h4; have d5 := ne_of_beq_false h5; have d6 := ne_of_beq_false h6
    simp [formB, d0, d1, d2, d3, d4, d5, d6])
  obtain ⟨q, hq⟩ : ∃ q, formB k (eqB set (fun _ => false)) (lo == 0 && hi == 0 && !lazy) lo hi n kd = q := ⟨_, rfl⟩
  have HQ := Lib.hid hq
  rw [hq]
  clear hq
  have hA : Below w.heap.size w (w.alloc (.cells #[ptrV b] 23)) := (Below.refl _ w).alloc (Nat.le_refl _) _
  have B1 := hb.alloc (.cells #[ptrV b] 23)
  have cn : (w.alloc (.cells #[ptrV b] 23)).cell? ⟨w.heap.size, 0, none⟩ = some (ptrV b) := (Blk.new w [ptrV b] 23).cell 0
  have HR := Lib.hid (hr.under hA)
  obtain ⟨B0, hB0⟩ : ∃ B0, w.heap.size = B0 := ⟨_, rfl⟩
  have HA := Lib.hid (hB0 ▸ hA)
  have HB := Lib.hid hB0
  rw [hB0]
  clear hr hA hb hB0
  go_enter Tryd.func43, Tryd.ntmps43
  go_upto_region 1 with fail
  generalize w.heap.size = nx at *
  generalize w.alloc (.cells #[ptrV b] 23) = w1 at *
  have c0 : w1.cell? ⟨b, 0, none⟩ = some (.int .i64 k) := B1.cell 0
  have c1 : w1.cell? ⟨b, 1, none⟩ = some (.int .u64 (word set 0)) := B1.cell 1
  have c2 : w1.cell? ⟨b, 2, none⟩ = some (.int .u64 (word set 1)) := B1.cell 2
  have c3 : w1.cell? ⟨b, 3, none⟩ = some (.int .u64 (word set 2)) := B1.cell 3
  have c4 : w1.cell? ⟨b, 4, none⟩ = some (.int .u64 (word set 3)) := B1.cell 4
  have c5 : w1.cell? ⟨b, 5, none⟩ = some (.int .i64 lo) := B1.cell 5
  have c6 : w1.cell? ⟨b, 6, none⟩ = some (.int .i64 hi) := B1.cell 6
  have c7 : w1.cell? ⟨b, 7, none⟩ = some (.bool lazy) := B1.cell 7
  have c8 : w1.cell? ⟨b, 8, none⟩ = some (.slice A n c) := B1.cell 8
  have hlt := B1.lt
  have hnl := cell_lt0 cn
  clear B1
  go_wp2_with fail
  refine (contains_nil hn HR.out.rowP).mono ?_
  rintro v w2 ⟨rfl, rfl⟩
  rename World => w2
  have HP := Lib.hid (plain_at c5 c6 c7)
  clear c5 c6 c7
  generalize (lo == 0 && hi == 0 && !lazy) = pl at *
  cases hz : eqB set (fun _ => false) <;> cases pl <;> (
    go_wp2_with fail
    try (
      refine HP.out.mono ?_
      rintro v w3 ⟨rfl, rfl⟩
      go_wp2)
    go_returns
    exact ⟨by rw [← HQ.out, HF.out]; rfl, HA.out⟩)
set_option maxHeartbeats 8000000 in
theorem form_k6 {w : World} {b : Nat} {set : Nat → Bool} {lo hi : Int} {lazy : Bool} {A : Option Addr} {n c f t : Nat} (kd : Nat → Int) (hlo : -9223372036854775808 ≤ lo ∧ lo ≤ 9223372036854775807) (hhi : -9223372036854775808 ≤ hi ∧ hi ≤ 9223372036854775807) (hn : n ≤ 1048577)
    (hb : Blk w b 44 (nodeL 6 set lo hi lazy (.slice A n c) f t)) (hr : RowK w A n kd) :
    Calls Tryd.prog 43 #[ptrV b] w fun v w' => v = .returned (.bool (formB 6 (eqB set (fun _ => false)) (lo == 0 && hi == 0 && !lazy) lo hi n kd)) ∧ Below w.heap.size w w' := by
  obtain ⟨q, hq⟩ : ∃ q, formB 6 (eqB set (fun _ => false)) (lo == 0 && hi == 0 && !lazy) lo hi n kd = q := ⟨_, rfl⟩
  have HQ := Lib.hid hq
  rw [hq]
  clear hq
  have hA : Below w.heap.size w (w.alloc (.cells #[ptrV b] 23)) := (Below.refl _ w).alloc (Nat.le_refl _) _
  have B1 := hb.alloc (.cells #[ptrV b] 23)
  have cn : (w.alloc (.cells #[ptrV b] 23)).cell? ⟨w.heap.size, 0, none⟩ = some (ptrV b) := (Blk.new w [ptrV b] 23).cell 0
  have HR := Lib.hid (hr.under hA)
  obtain ⟨B0, hB0⟩ : ∃ B0, w.heap.size = B0 := ⟨_, rfl⟩
  have HA := Lib.hid (hB0 ▸ hA)
  have HB := Lib.hid hB0
  rw [hB0]
  clear hr hA hb hB0
  go_enter Tryd.func43, Tryd.ntmps43
  go_upto_region 1 with fail
  generalize w.heap.size = nx at *
  generalize w.alloc (.cells #[ptrV b] 23) = w1 at *
  have c0 : w1.cell? ⟨b, 0, none⟩ = some (.int .i64 6) := B1.cell 0
  have c1 : w1.cell? ⟨b, 1, none⟩ = some (.int .u64 (word set 0)) := B1.cell 1
  have c2 : w1.cell? ⟨b, 2, none⟩ = some (.int .u64 (word set 1)) := B1.cell 2
  have c3 : w1.cell? ⟨b, 3, none⟩ = some (.int .u64 (word set 2)) := B1.cell 3
  have c4 : w1.cell? ⟨b, 4, none⟩ = some (.int .u64 (word set 3)) := B1.cell 4
  have c5 : w1.cell? ⟨b, 5, none⟩ = some (.int .i64 lo) := B1.cell 5
  have c6 : w1.cell? ⟨b, 6, none⟩ = some (.int .i64 hi) := B1.cell 6
  have c7 : w1.cell? ⟨b, 7, none⟩ = some (.bool lazy) := B1.cell 7
  have c8 : w1.cell? ⟨b, 8, none⟩ = some (.slice A n c) := B1.cell 8
  have hlt := B1.lt
  have hnl := cell_lt0 cn
  clear B1
  go_wp2_with fail
  refine (contains_nil hn HR.out.rowP).mono ?_
  rintro v w2 ⟨rfl, rfl⟩
  rename World => w2
  have HP := Lib.hid (count_form hlo hhi c5 c6)
  clear c5 c6 c7
  obtain ⟨y, hy⟩ : ∃ y, (decide (0 ≤ lo) && decide (lo ≤ 1000) && (hi == -1 || (decide (lo ≤ hi) && decide (hi ≤ 1000)))) = y := ⟨_, rfl⟩
  have HY := Lib.hid hy
  rw [hy] at HP
  clear hy
  cases hz : eqB set (fun _ => false)
  · go_wp2
    go_returns
    exact ⟨by have hq := HQ.out; rw [hz] at hq; rw [← hq]; first | rfl | (simp [formB]; done), HA.out⟩
  · have HZ := Lib.hid hz
    cases hn1 : ((n : Int) == 1)
    · go_wp2
      go_returns
      exact ⟨by have hq := HQ.out; rw [HZ.out] at hq; rw [← hq]; simp only [formB]; rw [hn1]; rfl, HA.out⟩
    · obtain rfl : n = 1 := by have := eq_of_beq hn1; omega
      have HR1 := HR.out 0 (by decide)
      obtain ⟨ga, g, rfl, d1, d2⟩ := HR1
      have HB0 := Lib.hid (show B0 ≤ w2.heap.size by rw [← HB.out]; exact Nat.le_of_lt hnl)
      clear hn1
      go_wp2_with fail
      refine HP.out.mono ?_
      rintro v w3 ⟨rfl, hb⟩
      have cn2 := (World.cell?_of_block (hb.block _ hnl)).trans cn
      have c82 := (World.cell?_of_block (hb.block _ hlt)).trans c8
      have d12 := (World.cell?_of_block (hb.block _ (cell_lt0 d1))).trans d1
      have d22 := (World.cell?_of_block (hb.block _ (cell_lt0 d2))).trans d2
      have hb4 := HA.out.trans (hb.mono HB0.out)
      have HG := Lib.hid (grouped_c d22)
      have hgl := cell_lt0 d22
      have hgal := cell_lt0 d12
      have hbl := cell_lt0 c82
      have hnl2 := cell_lt0 cn2
      obtain ⟨k0, hk0⟩ : ∃ k0, kd 0 = k0 := ⟨_, rfl⟩
      have HK0 := Lib.hid hk0
      rw [hk0] at HG d22 d2
      clear hk0 hb c0 c1 c2 c3 c4 c8 cn d1 d2 hlt hnl HR
      cases y
      · go_wp2
        go_returns
        exact ⟨by have hq := HQ.out; rw [HZ.out] at hq; rw [← hq]; simp only [formB]; rw [HY.out]; rfl, hb4⟩
      · cases hk1 : (k0 == 1)
        · go_wp2_with fail
          refine HG.out.mono ?_
          rintro v w4 ⟨rfl, rfl⟩
          obtain ⟨z, hz0⟩ : ∃ z, grpB k0 = z := ⟨_, rfl⟩
          have HZ0 := Lib.hid hz0
          rw [hz0]
          clear hz0
          go_wp2
          go_returns
          exact ⟨by have hq := HQ.out; rw [HZ.out] at hq; rw [← hq]; simp only [formB]; rw [HY.out, HK0.out, hk1, HZ0.out]; rfl, hb4⟩
        · go_wp2
          go_returns
          exact ⟨by have hq := HQ.out; rw [HZ.out] at hq; rw [← hq]; simp only [formB]; rw [HY.out, HK0.out, hk1]; rfl, hb4⟩
end Go.Proofs.YtckoebfmoggeoaaDoor
/- The tree's form: all nodes. -/
namespace Go.Proofs.YtckoebfmoggeoaaDoor
set_option maxRecDepth 100000
open Go.RowKit
theorem form_c {w : World} {b : Nat} {k : Int} {set : Nat → Bool} {lo hi : Int} {lazy : Bool} {A : Option Addr} {n c f t : Nat} (hlo : -9223372036854775808 ≤ lo ∧ lo ≤ 9223372036854775807) (hhi : -9223372036854775808 ≤ hi ∧ hi ≤ 9223372036854775807)
    (kd : Nat → Int) (hkd : ∀ i, 0 ≤ kd i ∧ kd i ≤ 9223372036854775807) (hn : n ≤ 1048577)
    (hb : Blk w b 44 (nodeL k set lo hi lazy (.slice A n c) f t)) (hr : RowK w A n kd) :
    Calls Tryd.prog 43 #[ptrV b] w fun v w' => v = .returned (.bool (formB k (eqB set (fun _ => false)) (lo == 0 && hi == 0 && !lazy) lo hi n kd)) ∧ Below w.heap.size w w' := by
  by_cases h0 : k = 0
  · subst h0; exact form_k0 kd hn hb hr
  by_cases h1 : k = 1
  · subst h1; exact form_k1 kd hn hb hr
  by_cases h2 : k = 2
  · subst h2; exact form_k2 kd hn hb hr
  by_cases h3 : k = 3
  · subst h3; exact form_k3 kd hn hb hr
  by_cases h4 : k = 4
  · subst h4; exact form_k4 kd hkd hn hb hr
  by_cases h5 : k = 5
  · subst h5; exact form_k5 kd hkd hn hb hr
  by_cases h6 : k = 6
  · subst h6; exact form_k6 kd hlo hhi hn hb hr
  exact form_kx (by rw [beq_eq_false_iff_ne]; exact h0) (by rw [beq_eq_false_iff_ne]; exact h1) (by rw [beq_eq_false_iff_ne]; exact h2) (by rw [beq_eq_false_iff_ne]; exact h3) (by rw [beq_eq_false_iff_ne]; exact h4) (by rw [beq_eq_false_iff_ne]; exact h5) (by rw [beq_eq_false_iff_ne]; exact h6) kd hn hb hr
theorem ask_fit {w : World} {g : Nat} {q : Bool} (h : Calls Tryd.prog 30 #[ptrV g] w fun v w' => v = .returned (.bool q) ∧ Below w.heap.size w w') :
    Calls Tryd.prog 45 #[ptrV g] w fun v w' => v = .returned (.bool (!q)) ∧ Below w.heap.size w w' := by
  have H := Lib.hid h
  clear h
  go_enter Tryd.func45, Tryd.ntmps45
  go_wp2_with fail
  refine H.out.mono ?_
  rintro v w1 ⟨rfl, hb⟩
  go_wp2
  go_returns
  exact ⟨rfl, hb⟩
set_option maxHeartbeats 4000000 in
theorem indexf_fit {w : World} {A : Option Addr} {n c : Nat} (ok : Nat → Bool) (hn : n ≤ 1048577)
    (hr : ∀ i, i < n → ∃ ga g, A = some ⟨ga, 0, none⟩ ∧ w.cell? ⟨ga, i, none⟩ = some (ptrV g) ∧ ∀ w', Below w.heap.size w w' → Calls Tryd.prog 30 #[ptrV g] w' fun v w'' => v = .returned (.bool (ok i)) ∧ Below w'.heap.size w' w'') :
    Calls Tryd.prog 69 #[.slice A n c, .func (.func 45) #[] #[]] w fun v w' => (∃ r : Int, v = .returned (.int .i64 r) ∧ AskR (fun i => !ok i) n r) ∧ Below w.heap.size w w' := by
  have H := Lib.hid hr
  clear hr
  go_enter Tryd.func69, Tryd.ntmps69
  go_wp2_with fail
  go_loopw [8] (fun iv wr => ∃ i : Nat, i ≤ n ∧ iv = .int .i64 ((i : Nat) : Int) ∧ (∀ j, j < i → (!ok j) = false) ∧ Below w.heap.size w wr) (fun iv _ => n - (intOf iv).toNat)
  case atStart => exact ⟨0, Nat.zero_le _, rfl, fun j h => absurd h (Nat.not_lt_zero _), Below.refl _ _⟩
  case round =>
    obtain ⟨i, hi, rfl, hp, hb⟩ := hrel
    have HP := Lib.hid hp
    clear hp
    by_cases hlt : i < n
    · obtain ⟨ga, g', rfl, cg, hcall⟩ := H.out i hlt
      have HC := Lib.hid (ask_fit (hcall wr hb))
      clear hcall
      have cg1 : wr.cell? ⟨ga, i, none⟩ = some (ptrV g') := (World.cell?_of_block (hb.block _ (cell_lt0 cg))).trans cg
      have hgl := cell_lt0 cg1
      have HX := Lib.hid (show (!ok i) = false → ∀ j, j < i + 1 → (!ok j) = false from fun e j hji => by
        rcases Nat.lt_or_ge j i with h | h
        · exact HP.out j h
        · obtain rfl : j = i := by omega
          exact e)
      have HX2 := Lib.hid (show ∀ q, (!ok i) = q → (!ok i) = q from fun _ h => h)
      obtain ⟨q, hq⟩ : ∃ q, (!ok i) = q := ⟨_, rfl⟩
      have HQ := Lib.hid hq
      rw [hq] at HC
      clear hq cg HX2
      go_wp2_with fail
      refine HC.out.mono ?_
      rintro v w1 ⟨rfl, hb1⟩
      have hb2 := hb.trans (hb1.mono hb.size)
      cases q with
      | true =>
        go_wp2
        go_returns
        exact ⟨⟨_, rfl, .inl ⟨i, hlt, HQ.out, rfl⟩⟩, hb2⟩
      | false =>
        go_wp2
        go_roundw
        case rel => exact ⟨i + 1, hlt, by go_num, HX.out HQ.out, hb2⟩
        case measure => simp [intOf]; omega
    · obtain rfl : i = n := by omega
      go_wp2
      go_returns
      exact ⟨⟨_, rfl, .inr ⟨HP.out, rfl⟩⟩, hb⟩
theorem containsf_fit {w : World} {A : Option Addr} {n c : Nat} (ok : Nat → Bool) (hn : n ≤ 1048577)
    (hr : ∀ i, i < n → ∃ ga g, A = some ⟨ga, 0, none⟩ ∧ w.cell? ⟨ga, i, none⟩ = some (ptrV g) ∧ ∀ w', Below w.heap.size w w' → Calls Tryd.prog 30 #[ptrV g] w' fun v w'' => v = .returned (.bool (ok i)) ∧ Below w'.heap.size w' w'') :
    Calls Tryd.prog 44 #[.slice A n c, .func (.func 45) #[] #[]] w fun v w' => v = .returned (.bool ((List.range n).any fun i => !ok i)) ∧ Below w.heap.size w w' := by
  go_enter Tryd.func44, Tryd.ntmps44
  go_wp2_with fail
  refine (indexf_fit ok hn hr).mono ?_
  rintro v w1 ⟨⟨r, rfl, hq⟩, hb⟩
  have HA := Lib.hid hq.any
  clear hq
  go_wp2
  go_returns
  exact ⟨by rw [HA.out]; rfl, hb⟩
end Go.Proofs.YtckoebfmoggeoaaDoor
/- The tree's form: formed, Right. -/
namespace Go.Proofs.YtckoebfmoggeoaaDoor
set_option maxRecDepth 100000
open Go.RowKit
def kdOf (kids : List Tree) (i : Nat) : Int := match kids[i]? with
  | some n => n.kind
  | none => 0
mutual
def fitT : Tree → Bool
  | .mk k set lo hi lazy kids _ _ => formB k (eqB set (fun _ => false)) (lo == 0 && hi == 0 && !lazy) lo hi kids.length (kdOf kids) && fitL kids
def fitL : List Tree → Bool
  | [] => true
  | n :: l => fitT n && fitL l
end
mutual
def RngT : Tree → Prop
  | .mk _ _ lo hi _ kids _ _ => (-9223372036854775808 ≤ lo ∧ lo ≤ 9223372036854775807) ∧ (-9223372036854775808 ≤ hi ∧ hi ≤ 9223372036854775807) ∧ (∀ i, 0 ≤ kdOf kids i ∧ kdOf kids i ≤ 9223372036854775807) ∧ RngL kids
def RngL : List Tree → Prop
  | [] => True
  | n :: l => RngT n ∧ RngL l
end
theorem fitL_iff (l : List Tree) : fitL l = true ↔ ∀ n ∈ l, fitT n = true := by
  induction l with
  | nil => simp [fitL]
  | cons n l ih => simp [fitL, ih]
theorem RngL.mem {l : List Tree} (h : RngL l) {n : Tree} (hn : n ∈ l) : RngT n := by
  induction l with
  | nil => cases hn
  | cons m l ih =>
    simp only [RngL] at h
    rcases List.mem_cons.1 hn with rfl | hn
    · exact h.1
    · exact ih h.2 hn
def okOf (kids : List Tree) (i : Nat) : Bool := match kids[i]? with
  | some n => fitT n
  | none => true
theorem okOf_at {kids : List Tree} {i : Nat} (h : i < kids.length) : okOf kids i = fitT kids[i] := by
  unfold okOf
  rw [List.getElem?_eq_getElem h]
theorem kdOf_at {kids : List Tree} {i : Nat} (h : i < kids.length) : kdOf kids i = kids[i].kind := by
  unfold kdOf
  rw [List.getElem?_eq_getElem h]
theorem fitL_any (kids : List Tree) : ((List.range kids.length).any fun i => !okOf kids i) = !fitL kids := by
  cases h : fitL kids with
  | true =>
    rw [List.any_eq_false.2 fun i hi => by
      have hi := List.mem_range.1 hi
      rw [okOf_at hi, (fitL_iff kids).1 h _ (List.getElem_mem hi)]
      simp]
    rfl
  | false =>
    have hne : ¬ ∀ n ∈ kids, fitT n = true := fun hall => by rw [(fitL_iff kids).2 hall] at h; cases h
    have hex : ∃ n ∈ kids, fitT n = false := by
      apply Classical.byContradiction
      intro hno
      refine hne fun n hn => ?_
      cases hf : fitT n with
      | true => rfl
      | false => exact absurd ⟨n, hn, hf⟩ hno
    obtain ⟨n, hn, hf⟩ := hex
    obtain ⟨i, hi, rfl⟩ := List.getElem_of_mem hn
    rw [List.any_eq_true.2 ⟨i, List.mem_range.2 hi, by rw [okOf_at hi, hf]; rfl⟩]
    rfl
set_option maxHeartbeats 4000000 in
theorem formed_at {w : World} {S : Nat → Prop} {n : Tree} {b : Nat} (h : TreeAt w S n b) (hR : RngT n) : ∀ w', Below w.heap.size w w' →
    Calls Tryd.prog 30 #[ptrV b] w' fun v w'' => v = .returned (.bool (fitT n)) ∧ Below w'.heap.size w' w'' := by
  induction h with
  | @mk k set lo hi lazy kids f t b ga c A bs hSb hb hl hm hA hc hk ih =>
    intro w' hw
    simp only [RngT] at hR
    obtain ⟨hlo, hhi, hkd, hRL⟩ := hR
    have hb2 : Blk w' b 44 (nodeL k set lo hi lazy (.slice A kids.length c) f t) := hb.below hw hb.lt
    have hrow : RowK w A kids.length (kdOf kids) := fun i hi => by
      have hne : kids ≠ [] := by intro e; rw [e] at hi; exact absurd hi (Nat.not_lt_zero _)
      have hib : i < bs.length := by omega
      have ht := hk i _ _ (List.getElem?_eq_getElem hi) (List.getElem?_eq_getElem hib)
      obtain ⟨A2, c2, hn2, -, -⟩ := ht.node
      exact ⟨ga, bs[i], (hA hne).1, hc i _ (List.getElem?_eq_getElem hib), by rw [kdOf_at hi]; exact hn2.cell 0⟩
    have hcalls : ∀ i, i < kids.length → ∃ ga g, A = some ⟨ga, 0, none⟩ ∧ w.cell? ⟨ga, i, none⟩ = some (ptrV g) ∧ ∀ w', Below w.heap.size w w' → Calls Tryd.prog 30 #[ptrV g] w' fun v w'' => v = .returned (.bool (okOf kids i)) ∧ Below w'.heap.size w' w'' := fun i hi => by
      have hne : kids ≠ [] := by intro e; rw [e] at hi; exact absurd hi (Nat.not_lt_zero _)
      have hib : i < bs.length := by omega
      refine ⟨ga, bs[i], (hA hne).1, hc i _ (List.getElem?_eq_getElem hib), ?_⟩
      rw [okOf_at hi]
      exact ih i _ _ (List.getElem?_eq_getElem hi) (List.getElem?_eq_getElem hib) (hRL.mem (List.getElem_mem hi))
    have HF := Lib.hid (form_c hlo hhi (kdOf kids) hkd hm hb2 (hrow.under hw))
    have hcalls2 : ∀ w1, Below w.heap.size w w1 → ∀ i, i < kids.length → ∃ ga g, A = some ⟨ga, 0, none⟩ ∧ w1.cell? ⟨ga, i, none⟩ = some (ptrV g) ∧ ∀ w', Below w1.heap.size w1 w' → Calls Tryd.prog 30 #[ptrV g] w' fun v w'' => v = .returned (.bool (okOf kids i)) ∧ Below w'.heap.size w' w'' := fun w1 h1 i hi => by
      obtain ⟨ga, g, e, c1, hcall⟩ := hcalls i hi
      exact ⟨ga, g, e, (World.cell?_of_block (h1.block _ (cell_lt0 c1))).trans c1, fun w' h' => hcall w' (h1.trans (h'.mono h1.size))⟩
    have HCC := Lib.hid hcalls2
    have HW := Lib.hid hw
    have c8 := hb2.cell 8
    have c8' : w'.cell? ⟨b, 8, none⟩ = some (.slice A kids.length c) := c8
    have hlt := hb2.lt
    have HV := Lib.hid (show fitT (.mk k set lo hi lazy kids f t) = (formB k (eqB set (fun _ => false)) (lo == 0 && hi == 0 && !lazy) lo hi kids.length (kdOf kids) && fitL kids) by simp only [fitT])
    generalize fitT (.mk k set lo hi lazy kids f t) = y at *
    generalize formB k (eqB set (fun _ => false)) (lo == 0 && hi == 0 && !lazy) lo hi kids.length (kdOf kids) = q at *
    clear hb hb2 hl hA hc hk ih hrow hcalls hcalls2 hw c8 hRL hkd hlo hhi
    have hbo := cell_lt0 c8'
    rename World => w'
    go_enter Tryd.func30, Tryd.ntmps30
    go_wp2_with fail
    refine HF.out.mono ?_
    rintro v w1 ⟨rfl, hb1⟩
    have HB1 := Lib.hid hb1
    cases q with
    | false =>
      go_wp2
      go_returns
      exact ⟨by rw [HV.out]; rfl, hb1⟩
    | true =>
      have d8 := (World.cell?_of_block (hb1.block _ hlt)).trans c8'
      have hlt1 := cell_lt0 d8
      clear c8' hlt hbo
      go_wp2_with fail
      refine (containsf_fit (okOf kids) hm (HCC.out _ (HW.out.trans (HB1.out.mono HW.out.size)))).mono ?_
      rintro v w2 ⟨rfl, hb2⟩
      rw [fitL_any]
      obtain ⟨z, hz⟩ : ∃ z, fitL kids = z := ⟨_, rfl⟩
      have HZ := Lib.hid hz
      rw [hz]
      clear hz
      have hb3 := HB1.out.trans (hb2.mono HB1.out.size)
      clear hb2 hb1
      go_wp2
      go_returns
      exact ⟨by rw [HV.out, HZ.out]; simp, hb3⟩
set_option maxHeartbeats 4000000 in
theorem right_at {w : World} {S : Nat → Prop} {n : Tree} {b : Nat} (h : TreeAt w S n b) (hR : RngT n) (hd : deepT n ≤ 1000000) :
    Calls Tryd.prog 12 #[ptrV b] w fun v w' => v = .returned (.bool (fitT n && decide (deepT n ≤ 200))) ∧ Below w.heap.size w w' := by
  have H1 := Lib.hid (formed_at h hR w (Below.refl _ w))
  have H2 := Lib.hid (show ∀ w', Below w.heap.size w w' → Calls Tryd.prog 20 #[ptrV b] w' fun v w'' => v = .returned (.int .i64 ((deepT n : Nat) : Int)) ∧ w'' = w' from fun w' hw => deep_at (h.under hw) hd)
  clear h
  generalize fitT n = q at *
  generalize deepT n = d at *
  go_enter Tryd.func12, Tryd.ntmps12
  go_wp2_with fail
  refine H1.out.mono ?_
  rintro v w1 ⟨rfl, hb⟩
  cases q with
  | false =>
    go_wp2
    go_returns
    exact ⟨rfl, hb⟩
  | true =>
    go_wp2_with fail
    refine (H2.out _ hb).mono ?_
    rintro v w2 ⟨rfl, rfl⟩
    go_wp2
    go_returns
    exact ⟨by first | rfl | (simp; done) | (simp; omega), hb⟩
end Go.Proofs.YtckoebfmoggeoaaDoor
