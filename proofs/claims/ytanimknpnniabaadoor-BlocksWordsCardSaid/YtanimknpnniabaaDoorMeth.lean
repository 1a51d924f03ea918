/- The methods of Blocks, each by itself. -/
import Derived.Test.YtanimknpnniabaaDoorNew
import Derived.Test.YtanimknpnniabaaDoorFirst
import Derived.Test.YtanimknpnniabaaDoorRefBytes
namespace Go.Proofs.YtanimknpnniabaaDoor
open Go.RowKit
attribute [local go_sem] eq_words eqB_words eqB_zero
/-- The bytes of class i. -/
def clsZ (q : Nat → Nat) (i : Int) (x : Nat) : Bool := decide (x < 256) && decide ((q x : Int) = i)
theorem clsZ_nat (q : Nat → Nat) (i : Nat) : clsZ q i = clsM q 256 i := by
  funext x
  simp only [clsZ, clsM, Int.ofNat_inj]
theorem clsZ_out {q : Nat → Nat} {n : Nat} (hq : ∀ b, b < 256 → q b < n) {i : Int} (h : i < 0 ∨ (n : Int) ≤ i) : clsZ q i = fun _ => false := by
  funext x
  unfold clsZ
  by_cases hx : x < 256
  · have := hq x hx
    have : ¬((q x : Int) = i) := by omega
    simp [this]
  · simp [hx]
theorem rows_at (q : Nat → Nat) (n i : Nat) (h : i < n) : (rowsAt q n 256)[i]? = some (clsZ q i) := by
  unfold rowsAt
  rw [List.getElem?_map, List.getElem?_range h, clsZ_nat]
  rfl
theorem BlksAt.below {w w' : World} {x g n : Nat} {q : Nat → Nat} (h : BlksAt w x g q n) (hb : Below w.heap.size w w') : BlksAt w' x g q n := ⟨h.st.below hb h.st.lt, h.sets.below hb h.sets.lt, h.ne⟩
theorem BlksAt.num {w : World} {x g n : Nat} {q : Nat → Nat} (h : BlksAt w x g q n) (b : Nat) (hb : b < 256) : w.cell? ⟨x, b, none⟩ = some (.int .i64 ((q b : Nat) : Int)) := by
  rw [h.st.cell, List.getElem?_append_left (by rw [nums_length]; exact hb), nums_at _ b hb]
theorem BlksAt.slice {w : World} {x g n : Nat} {q : Nat → Nat} (h : BlksAt w x g q n) : w.cell? ⟨x, 256, none⟩ = some (.slice (some ⟨g, 0, none⟩) n n) := by
  rw [h.st.cell, List.getElem?_append_right (by simp [nums_length])]
  simp [nums_length]
theorem ofm_nil (b : Int) (w : World) : Calls Tryd.prog 12 #[.pointer none, .int .u8 b] w fun e w' => e = .returned (.int .i64 0) ∧ Below w.heap.size w w' := by
  go_enter Tryd.func12, Tryd.ntmps12
  go_wp2
  go_returns
  exact ⟨rfl, Below.refl _ _⟩
theorem ofm_any {x g n : Nat} {q : Nat → Nat} (b : Nat) (hb : b < 256) (w : World) (h : BlksAt w x g q n) : Calls Tryd.prog 12 #[.pointer (some ⟨x, 0, none⟩), .int .u8 b] w fun e w' => e = .returned (.int .i64 ((q b : Nat) : Int)) ∧ Below w.heap.size w w' := by
  have hc := h.num b hb
  have hat : (⟨x, 0, none⟩ : Addr).add b = ⟨x, b, none⟩ := by unfold Addr.add; split <;> simp_all
  go_enter Tryd.func12, Tryd.ntmps12
  go_wp2
  go_returns
  exact ⟨rfl, Below.refl _ _⟩
theorem count_nil (w : World) : Calls Tryd.prog 14 #[.pointer none] w fun e w' => e = .returned (.int .i64 0) ∧ Below w.heap.size w w' := by
  go_enter Tryd.func14, Tryd.ntmps14
  go_wp2
  go_returns
  exact ⟨rfl, Below.refl _ _⟩
theorem count_at {x g n : Nat} {q : Nat → Nat} (w : World) (h : BlksAt w x g q n) : Calls Tryd.prog 14 #[.pointer (some ⟨x, 0, none⟩)] w fun e w' => e = .returned (.int .i64 n) ∧ Below w.heap.size w w' := by
  have hc := h.slice
  go_enter Tryd.func14, Tryd.ntmps14
  go_wp2
  go_returns
  exact ⟨rfl, Below.refl _ _⟩
theorem setV_none : setV (fun _ => false) = .agg #[.int .u64 0, .int .u64 0, .int .u64 0, .int .u64 0] := by simp only [setV, word_none]
theorem blk_zero (w : World) : Blk (w.alloc (.cells #[.int .u64 0, .int .u64 0, .int .u64 0, .int .u64 0] 35)) w.heap.size 35 [.int .u64 0, .int .u64 0, .int .u64 0, .int .u64 0] := Blk.new w _ _
theorem set_nil (i : Int) (w : World) : Calls Tryd.prog 15 #[.pointer none, .int .i64 i] w fun e w' => e = .returned (setV fun _ => false) ∧ Below w.heap.size w w' := by
  go_enter Tryd.func15, Tryd.ntmps15
  have hb := blk_zero w
  by_cases h0 : i < 0
  · go_wp2_with fail
    exact ret_set (b := w.heap.size) (r := 4) rfl rfl hb rfl ⟨by rw [setV_none], (Below.refl _ w).alloc (Nat.le_refl _) _⟩
  · go_wp2_with fail
    refine (count_nil _).mono ?_
    rintro e w1 ⟨rfl, hb1⟩
    replace hb := hb.below hb1 hb.lt
    have hbw : Below w.heap.size w w1 := ((Below.refl _ w).alloc (Nat.le_refl _) _).trans (hb1.mono (by simp))
    obtain ⟨c0, c1, c2, c3, f0, f1, f2, f3⟩ := hb.four
    have h1 : 0 ≤ i := by omega
    go_wp2
    exact ret_set (b := w.heap.size) (r := 4) rfl rfl (hb.set4 _ _ _ _) rfl ⟨by rw [setV_none], below_set4 hbw (Nat.le_refl _) _ _ _ _⟩
theorem set_at {x g n : Nat} {q : Nat → Nat} (i : Int) (w : World) (h : BlksAt w x g q n) (hq : ∀ b, b < 256 → q b < n) : Calls Tryd.prog 15 #[.pointer (some ⟨x, 0, none⟩), .int .i64 i] w fun e w' => e = .returned (setV (clsZ q i)) ∧ Below w.heap.size w w' := by
  have hb := blk_zero w
  have HQ := Lib.hid (@clsZ_out q n hq i)
  clear hq
  go_enter Tryd.func15, Tryd.ntmps15
  by_cases h0 : i < 0
  · go_wp2_with fail
    exact ret_set (b := w.heap.size) (r := 4) rfl rfl hb rfl ⟨by rw [HQ.out (.inl h0), setV_none], (Below.refl _ w).alloc (Nat.le_refl _) _⟩
  · go_wp2_with fail
    refine (count_at (n := n) _ (h.below ((Below.refl w.heap.size w).alloc (Nat.le_refl _) _))).mono ?_
    rintro e w1 ⟨rfl, hb1⟩
    replace hb := hb.below hb1 hb.lt
    have hbw : Below w.heap.size w w1 := ((Below.refl _ w).alloc (Nat.le_refl _) _).trans (hb1.mono (by simp))
    have hx := h.below hbw
    obtain ⟨c0, c1, c2, c3, f0, f1, f2, f3⟩ := hb.four
    by_cases h1 : (n : Int) ≤ i
    · go_wp2
      exact ret_set (b := w.heap.size) (r := 4) rfl rfl (hb.set4 _ _ _ _) rfl ⟨by rw [HQ.out (.inr h1), setV_none], below_set4 hbw (Nat.le_refl _) _ _ _ _⟩
    · obtain ⟨k, rfl⟩ : ∃ k : Nat, i = k := ⟨i.toNat, by omega⟩
      have hk : k < n := by omega
      have hsl := hx.slice
      obtain ⟨d0, d1, d2, d3⟩ := cells_set hx.sets (rows_at q n k hk)
      have hat : (⟨g, 0, none⟩ : Addr).add (k * 4) = ⟨g, k * 4, none⟩ := by unfold Addr.add; split <;> simp_all
      go_wp2
      exact ret_set (b := w.heap.size) (r := 4) rfl rfl (hb.set4 _ _ _ _) rfl ⟨rfl, below_set4 hbw (Nat.le_refl _) _ _ _ _⟩
theorem least_nil (i : Int) (w : World) (hT : TabOk w) : Calls Tryd.prog 13 #[.pointer none, .int .i64 i] w fun e w' => e = .returned (firstV fun _ => false) ∧ Below w.heap.size w w' := by
  have HT := Lib.hid hT
  clear hT
  go_enter Tryd.func13, Tryd.ntmps13
  go_wp2_with fail
  refine (set_nil _ _).mono ?_
  rintro e w1 ⟨rfl, hb⟩
  go_wp2_with fail
  refine (first_any _ _ (HT.out.below hb)).mono ?_
  rintro e w2 ⟨rfl, hb2⟩
  unfold firstV
  go_wp2
  go_returns
  exact ⟨rfl, hb.trans (hb2.mono hb.size)⟩
theorem least_at {x g n : Nat} {q : Nat → Nat} (i : Int) (w : World) (h : BlksAt w x g q n) (hq : ∀ b, b < 256 → q b < n) (hT : TabOk w) : Calls Tryd.prog 13 #[.pointer (some ⟨x, 0, none⟩), .int .i64 i] w fun e w' => e = .returned (firstV (clsZ q i)) ∧ Below w.heap.size w w' := by
  have HT := Lib.hid hT
  have HQ := Lib.hid hq
  clear hT hq
  go_enter Tryd.func13, Tryd.ntmps13
  go_wp2_with fail
  refine (set_at i _ h HQ.out).mono ?_
  rintro e w1 ⟨rfl, hb⟩
  go_wp2_with fail
  refine (first_any _ _ (HT.out.below hb)).mono ?_
  rintro e w2 ⟨rfl, hb2⟩
  unfold firstV
  go_wp2
  go_returns
  exact ⟨rfl, hb.trans (hb2.mono hb.size)⟩
theorem more_nil (m : Nat → Bool) (w : World) : Calls Tryd.prog 25 #[.pointer none, setV m] w fun e w' => e = .returned (.pointer none) ∧ Below w.heap.size w w' := by
  unfold setV
  go_enter Tryd.func25, Tryd.ntmps25
  go_wp2
  go_returns
  exact ⟨rfl, (Below.refl _ w).alloc (Nat.le_refl _) _⟩
theorem in_nil (m : Nat → Bool) (w : World) : Calls Tryd.prog 26 #[.pointer none, setV m] w fun e w' => e = .returned (.tuple #[.slice none 0 0, .bool false]) ∧ Below w.heap.size w w' := by
  unfold setV
  go_enter Tryd.func26, Tryd.ntmps26
  go_wp2_with fail
  refine (count_nil _).mono ?_
  rintro e w1 ⟨rfl, hb⟩
  have hbw : Below w.heap.size w w1 := ((Below.refl _ w).alloc (Nat.le_refl _) _).trans (hb.mono (by simp))
  clear hb
  go_wp2
  go_loopw [6, 11] (fun v i wr => v = .slice none 0 0 ∧ i = .int .i64 0 ∧ Below w.heap.size w wr) (fun _ _ _ => 0)
  case atStart => exact ⟨rfl, rfl, hbw⟩
  case round =>
    obtain ⟨rfl, rfl, hbw⟩ := hrel
    go_wp2
    go_returns
    exact ⟨rfl, hbw⟩
theorem names_nil (s : ByteArray) (w : World) : Calls Tryd.prog 29 #[.pointer none, .string s] w fun e w' => e = .returned (.slice none 0 0) ∧ Below w.heap.size w w' := by
  go_enter Tryd.func29, Tryd.ntmps29
  go_wp2
  go_returns
  exact ⟨rfl, Below.refl _ _⟩
theorem word_nil (w : World) : Calls Tryd.prog 30 #[.pointer none, .slice none 0 0] w fun e w' => (∃ u, e = .returned (.tuple #[u, .bool false])) ∧ Below w.heap.size w w' := by
  go_enter Tryd.func30, Tryd.ntmps30
  go_wp2
  go_loopw [6, 13] (fun v i wr => v = .slice none 0 0 ∧ i = .int .i64 0 ∧ Below w.heap.size w wr) (fun _ _ _ => 0)
  case atStart => exact ⟨rfl, rfl, Below.refl _ _⟩
  case round =>
    obtain ⟨rfl, rfl, hbw⟩ := hrel
    have hc := conv_rd (w := wr) (v := .slice none 0 0) (l := []) ⟨none, 0, rfl, Nat.le_refl _, by simp, fun i x hi => by simp at hi⟩
    go_wp2
    go_returns
    exact ⟨⟨_, rfl⟩, hbw⟩
end Go.Proofs.YtanimknpnniabaaDoor
