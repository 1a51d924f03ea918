/- Weights: New, and what nil answers. -/
import Derived.Test.YtpiimcbbgalhfaaGreatDoorDh
namespace Go.Proofs.YtpiimcbbgalhfaaGreatDoor
set_option maxRecDepth 100000
open Go.RowKit Go.Maps
/-- The weights of a core, as they lie: at block W. -/
structure NewAt (w : World) (W : Nat) (n : Nat) (r : Kn × Wg) (fb : List Nat) (sv fv : Value) (A B : Nat) : Prop where
  blk : Blk w W 140 [.int .i64 r.1.void, mapV A, mapV B, sv, fv]
  sets : w.ownsRow (W + 1) 24 4 sv r.2.ms.length (setsC r.2.ms)
  fol : w.ownsRow (W + 1) 135 1 fv r.2.fol.length (fb.map mapV)
  len : fb.length = r.2.fol.length
  bags : ∀ (i b : Nat) (β : Bag), fb[i]? = some b → r.2.fol[i]? = some β → BagAt w n b β
  first : BagAt w n A r.1.first
  last : BagAt w n B r.1.last
theorem own_slice {w : World} {base size n : Nat} {e : TypeId} {v : Value} {xs : List Value} (h : w.ownsRow base e size v n xs) : ∃ A c, v = .slice A n c := by
  rcases h.2 with ⟨rfl, e⟩ | ⟨g, cap, cur, rfl, _⟩
  · exact ⟨_, _, by rw [e]⟩
  · exact ⟨_, _, rfl⟩
theorem NewAt.under {w w' : World} {W n : Nat} {r : Kn × Wg} {fb : List Nat} {sv fv : Value} {A B : Nat} (h : NewAt w W n r fb sv fv A B) (hb : Below w.heap.size w w') : NewAt w' W n r fb sv fv A B :=
  ⟨h.blk.below hb h.blk.lt, own_below h.sets hb, own_below h.fol hb, h.len, fun i b β hi hβ => (h.bags i b β hi hβ).under hb, h.first.under hb, h.last.under hb⟩
def wg0 : Wg := ⟨[], []⟩
theorem new_nil (w : World) : Calls Tryz.prog 23 #[.pointer none] w fun v w' => v = .returned (.tuple #[.pointer none, .int .i64 1]) ∧ w' = w := by
  go_enter Tryz.func23, Tryz.ntmps23
  go_wp2
  go_returns
  exact ⟨rfl, rfl⟩
set_option maxHeartbeats 2000000 in
theorem new_long {w : World} {S : Nat → Prop} {c : CT} {g : Nat} (hc : CoreAt w S c g) (h : 600 < setsN8 c) (hs : setsN8 c ≤ 1000000) : Calls Tryz.prog 23 #[cptr g] w fun v w' => v = .returned (.tuple #[.pointer none, .int .i64 3]) ∧ Below w.heap.size w w' := by
  have HC := Lib.hid (csets_at c hc hs)
  have hgt : (600 : Int) < ((setsL8 c).length : Int) := by rw [setsL8_length]; omega
  clear hc h hs
  go_enter Tryz.func23, Tryz.ntmps23
  go_wp2_with fail
  refine HC.out.mono ?_
  rintro v w1 ⟨lv, rfl, hown, hb, -⟩
  obtain ⟨A, cc, rfl⟩ := own_slice hown
  have HB := Lib.hid hb
  clear hown hb
  go_wp2
  go_returns
  exact ⟨rfl, HB.out⟩
theorem fol0 : FolOk wg0 := fun _ h => nomatch h
theorem wt0 (w1 : World) {w0 : World} (hb : Below w0.heap.size w0 w1) : WtAt w0 (w1.alloc (.cells (wtL (.slice none 0 0) (.slice none 0 0)).toArray 140)) w1.heap.size 600 [] (.slice none 0 0) (.slice none 0 0) wg0 where
  low := hb.size
  below := hb.alloc hb.size _
  blk := Blk.new w1 _ 140
  sets := World.ownsRow_nil _ _ _ _
  fol := World.ownsRow_nil _ _ _ _
  len := rfl
  bags := fun i b β h _ => nomatch h
  own := fun b h => nomatch h
  nodup := List.nodup_nil
  apart := apart_nil _
set_option maxHeartbeats 4000000 in
theorem new_at {w : World} {S : Nat → Prop} {c : CT} {g : Nat} (hc : CoreAt w S c g) (h : setsN8 c ≤ 600) :
    Calls Tryz.prog 23 #[cptr g] w fun v w' => ∃ W fb sv fv A B, v = .returned (.tuple #[.pointer (some ⟨W, 0, none⟩), .int .i64 0]) ∧ NewAt w' W 600 (walkK c wg0) fb sv fv A B ∧ Below w.heap.size w w' := by
  have HC := Lib.hid (csets_at c hc (by omega))
  have HCC := Lib.hid hc
  have HS := Lib.hid h
  have hgt : ¬(600 : Int) < ((setsL8 c).length : Int) := by rw [setsL8_length]; omega
  clear hc h
  go_enter Tryz.func23, Tryz.ntmps23
  go_wp2_with fail
  refine HC.out.mono ?_
  rintro v w1 ⟨lv, rfl, hown, hb, -⟩
  obtain ⟨A0, cc, rfl⟩ := own_slice hown
  have hw := wt0 w1 hb
  have HW := Lib.hid (walk_at c hw ((((HCC.out).under hb).mono (fun k _ hk => ⟨fun e => by omega, (fun e => nomatch e), (fun e => nomatch e), by simp⟩)).under ((Below.refl _ w1).alloc (Nat.le_refl _) _)) rfl fol0 (by have := HS.out; simpa [wg0] using this) (by omega))
  clear hown hb hw
  go_wp2_with fail
  refine HW.out.mono ?_
  rintro v w2 ⟨kv, rfl, fb, sv, fv, hW2, hK2, A, B, rfl, hA, hB, sA, sB⟩
  have d0 : w2.cell? ⟨w1.heap.size, 0, none⟩ = some (.int .i64 0) := hW2.blk.cell 0
  have d1 : w2.cell? ⟨w1.heap.size, 1, none⟩ = some (.map none) := hW2.blk.cell 1
  have d2 : w2.cell? ⟨w1.heap.size, 2, none⟩ = some (.map none) := hW2.blk.cell 2
  have f0 := hW2.blk.frozen 0
  have f1 := hW2.blk.frozen 1
  have f2 := hW2.blk.frozen 2
  have hl := hW2.blk.lt
  have HW2 := Lib.hid hW2
  have HAB := Lib.hid (And.intro hA hB)
  clear hW2 hK2 hA hB sA sB
  go_wp2
  go_returns
  have hA := HAB.out.1
  have hB := HAB.out.2
  have hnA := hA.ne HW2.out.blk
  have hnB := hB.ne HW2.out.blk
  have e1 : ∀ (w' : World) (k j : Nat) (x : Value), k ≠ w1.heap.size → (w'.setCell ⟨w1.heap.size, j, none⟩ x).heap[k]? = w'.heap[k]? := fun w' k j x hk => Below.heap_setCell w' ⟨w1.heap.size, j, none⟩ x k hk
  refine ⟨w1.heap.size, fb, sv, fv, A, B, rfl, ⟨((HW2.out.blk.set 0 _).set 1 _).set 2 _, ?_, ?_, HW2.out.len, ?_, ?_, ?_⟩, ?_⟩
  · exact ownsRow_setCell_below (ownsRow_setCell_below (ownsRow_setCell_below HW2.out.sets (a := ⟨w1.heap.size, 0, none⟩) (Nat.lt_succ_self _) _) (a := ⟨w1.heap.size, 1, none⟩) (Nat.lt_succ_self _) _) (a := ⟨w1.heap.size, 2, none⟩) (Nat.lt_succ_self _) _
  · exact ownsRow_setCell_below (ownsRow_setCell_below (ownsRow_setCell_below HW2.out.fol (a := ⟨w1.heap.size, 0, none⟩) (Nat.lt_succ_self _) _) (a := ⟨w1.heap.size, 1, none⟩) (Nat.lt_succ_self _) _) (a := ⟨w1.heap.size, 2, none⟩) (Nat.lt_succ_self _) _
  · intro i b β hi hβ
    have hne : b ≠ w1.heap.size := by have := (HW2.out.own b (List.mem_iff_getElem?.2 ⟨i, hi⟩)).1; omega
    exact (HW2.out.bags i b β hi hβ).heap (by rw [e1 _ _ _ _ hne, e1 _ _ _ _ hne, e1 _ _ _ _ hne])
  · exact hA.heap (by rw [e1 _ _ _ _ hnA, e1 _ _ _ _ hnA, e1 _ _ _ _ hnA])
  · exact hB.heap (by rw [e1 _ _ _ _ hnB, e1 _ _ _ _ hnB, e1 _ _ _ _ hnB])
  · exact ((HW2.out.below.setCell (p := ⟨w1.heap.size, 0, none⟩) HW2.out.low _).setCell (p := ⟨w1.heap.size, 1, none⟩) HW2.out.low _).setCell (p := ⟨w1.heap.size, 2, none⟩) HW2.out.low _
end Go.Proofs.YtpiimcbbgalhfaaGreatDoor
/- Weights: what nil answers; how many positions; what comes behind one. -/
namespace Go.Proofs.YtpiimcbbgalhfaaGreatDoor
set_option maxRecDepth 100000
open Go.RowKit Go.Maps
theorem wplaces_nil (w : World) : Calls Tryz.prog 25 #[.pointer none] w fun v w' => v = .returned (.int .i64 0) ∧ w' = w := by
  go_enter Tryz.func25, Tryz.ntmps25
  go_wp2
  go_returns
  exact ⟨rfl, rfl⟩
theorem wplaces_at {w : World} {W n : Nat} {r : Kn × Wg} {fb : List Nat} {sv fv : Value} {A B : Nat} (h : NewAt w W n r fb sv fv A B) : Calls Tryz.prog 25 #[.pointer (some ⟨W, 0, none⟩)] w fun v w' => v = .returned (.int .i64 ((r.2.ms.length : Nat) : Int)) ∧ w' = w := by
  obtain ⟨o, c, rfl⟩ := own_slice h.sets
  have c3 : w.cell? ⟨W, 3, none⟩ = some (.slice o r.2.ms.length c) := h.blk.cell 3
  have hl := h.blk.lt
  clear h
  go_enter Tryz.func25, Tryz.ntmps25
  go_wp2
  go_returns
  exact ⟨rfl, rfl⟩
theorem void_nil (w : World) : Calls Tryz.prog 27 #[.pointer none] w fun v w' => v = .returned (.int .i64 0) ∧ w' = w := by
  go_enter Tryz.func27, Tryz.ntmps27
  go_wp2
  go_returns
  exact ⟨rfl, rfl⟩
theorem void_at {w : World} {W n : Nat} {r : Kn × Wg} {fb : List Nat} {sv fv : Value} {A B : Nat} (h : NewAt w W n r fb sv fv A B) : Calls Tryz.prog 27 #[.pointer (some ⟨W, 0, none⟩)] w fun v w' => v = .returned (.int .i64 r.1.void) ∧ w' = w := by
  have c0 : w.cell? ⟨W, 0, none⟩ = some (.int .i64 r.1.void) := h.blk.cell 0
  have hl := h.blk.lt
  clear h
  go_enter Tryz.func27, Tryz.ntmps27
  go_wp2
  go_returns
  exact ⟨rfl, rfl⟩
theorem first_nil (w : World) : Calls Tryz.prog 28 #[.pointer none] w fun v w' => v = .returned (.slice none 0 0) ∧ w' = w := by
  go_enter Tryz.func28, Tryz.ntmps28
  go_wp2
  go_returns
  exact ⟨rfl, rfl⟩
theorem last_nil (w : World) : Calls Tryz.prog 29 #[.pointer none] w fun v w' => v = .returned (.slice none 0 0) ∧ w' = w := by
  go_enter Tryz.func29, Tryz.ntmps29
  go_wp2
  go_returns
  exact ⟨rfl, rfl⟩
theorem has_nil (w : World) (p : Int) : Calls Tryz.prog 96 #[.pointer none, .int .i64 p] w fun v w' => v = .returned (.bool false) ∧ w' = w := by
  by_cases hp : 0 ≤ p
  · have hd : decide (0 ≤ p) = true := decide_eq_true hp
    have hd2 : decide (p < 0) = false := decide_eq_false (by omega)
    go_enter Tryz.func96, Tryz.ntmps96
    go_wp2_with fail
    refine (wplaces_nil _).mono ?_
    rintro v w1 ⟨rfl, rfl⟩
    go_wp2
    go_returns
    exact ⟨rfl, rfl⟩
  · have hd : decide (0 ≤ p) = false := decide_eq_false hp
    go_enter Tryz.func96, Tryz.ntmps96
    go_wp2
    go_returns
    exact ⟨rfl, rfl⟩
theorem set_nil (w : World) (p : Int) : Calls Tryz.prog 26 #[.pointer none, .int .i64 p] w fun v w' => v = .returned (setV noSet) ∧ Below w.heap.size w w' := by
  go_enter Tryz.func26, Tryz.ntmps26
  go_wp2_with fail
  refine (has_nil _ p).mono ?_
  rintro v w1 ⟨rfl, rfl⟩
  go_wp2
  go_returns
  exact ⟨by rw [show setV noSet = .agg #[.int .u64 (word (fun _ => false) 0), .int .u64 (word (fun _ => false) 1), .int .u64 (word (fun _ => false) 2), .int .u64 (word (fun _ => false) 3)] from rfl]; simp only [word_none], (Below.refl _ w).alloc (Nat.le_refl _) _⟩
theorem follow_nil (w : World) (p : Int) : Calls Tryz.prog 30 #[.pointer none, .int .i64 p] w fun v w' => v = .returned (.slice none 0 0) ∧ w' = w := by
  go_enter Tryz.func30, Tryz.ntmps30
  go_wp2_with fail
  refine (has_nil _ p).mono ?_
  rintro v w1 ⟨rfl, rfl⟩
  go_wp2
  go_returns
  exact ⟨rfl, rfl⟩
theorem edges_nil (w : World) : Calls Tryz.prog 31 #[.pointer none] w fun v w' => v = .returned (.int .i64 0) ∧ w' = w := by
  go_enter Tryz.func31, Tryz.ntmps31
  go_wp2
  go_returns
  exact ⟨rfl, rfl⟩
end Go.Proofs.YtpiimcbbgalhfaaGreatDoor
/- Weights: Heavy of nil; a row of weights. -/
namespace Go.Proofs.YtpiimcbbgalhfaaGreatDoor
set_option maxRecDepth 100000
open Go.RowKit Go.Maps
theorem clip_nil (w : World) : Calls Tryz.prog 98 #[.slice none 0 0] w fun v w' => v = .returned (.slice none 0 0) ∧ w' = w := by
  go_enter Tryz.func98, Tryz.ntmps98
  go_wp2
  go_returns
  exact ⟨rfl, rfl⟩
theorem heavy_nil (w : World) : Calls Tryz.prog 32 #[.pointer none] w fun v w' => v = .returned (.slice none 0 0) ∧ w' = w := by
  have HC := Lib.hid (clip_nil w)
  go_enter Tryz.func32, Tryz.ntmps32
  go_wp2_with fail
  refine (wplaces_nil w).mono ?_
  rintro v w1 ⟨rfl, rfl⟩
  go_wp2_with fail
  go_rounds 1
  go_returns
  exact ⟨rfl, rfl⟩
/-- The cells of a bag as a list. -/
def rowC (N : Nat) (β : Bag) : List Value := (List.range N).map fun p => Value.int .i64 (β p)
theorem rowC_zero (N : Nat) : rowC N zeroB = List.replicate N (.int .i64 0) := by
  unfold rowC zeroB
  rw [List.map_const']
  simp
theorem rowC_put {N p : Nat} (hp : p < N) (γ : Bag) (v : Int) : (rowC N γ).set p (.int .i64 v) = rowC N (fun q => if q = p then v else γ q) := by
  apply List.ext_getElem?
  intro i
  unfold rowC
  by_cases hi : i < N
  · by_cases e : i = p
    · subst e
      rw [List.getElem?_set_self (by simpa using hi), List.getElem?_map, List.getElem?_range hi]
      simp
    · rw [List.getElem?_set_ne (fun e' => e e'.symm), List.getElem?_map, List.getElem?_map, List.getElem?_range hi]
      simp [e]
  · rw [List.getElem?_eq_none (by simpa using Nat.le_of_not_lt hi), List.getElem?_eq_none (by simpa using Nat.le_of_not_lt hi)]
theorem rowC_get {N p : Nat} (hp : p < N) (β : Bag) : (rowC N β)[p]? = some (.int .i64 (β p)) := by
  unfold rowC
  rw [List.getElem?_map, List.getElem?_range hp]
  rfl
theorem made_blk {w : World} {base g N : Nat} {e : TypeId} {xs : List Value} (h : w.ownsRow base e 1 (.slice (some ⟨g, 0, none⟩) N N) N xs) : Blk w g e xs := by
  obtain ⟨h1, h2⟩ := h
  rcases h2 with ⟨e1, _⟩ | ⟨g', cap, cur, e1, _, h3, _, _, h4, h5⟩
  · cases e1
  · injection e1 with e1 _ e2
    injection e1 with e1
    injection e1 with e1
    subst e1
    subst e2
    rw [List.take_of_length_le (by rw [Array.length_toList, h4]; exact Nat.le_refl _)] at h5
    rw [← h5]
    simpa [Blk] using h3
theorem made_one (N : Nat) : (madeCells (Value.int .i64 0).cells (N * 1)).toList = rowC N zeroB := by
  rw [rowC_zero]
  unfold madeCells
  apply List.ext_getElem?
  intro i
  have hm : i % 1 = 0 := Nat.mod_one i
  by_cases hi : i < N
  · simp [hi, Value.cells, hm]
  · simp [hi]
set_option maxHeartbeats 4000000 in
/-- row: a bag as a list. -/
theorem row_at {w : World} {W n : Nat} {r : Kn × Wg} {fb : List Nat} {sv fv : Value} {A B b : Nat} {β : Bag} (h : NewAt w W n r fb sv fv A B) (hb : BagAt w n b β) (hl : r.2.ms.length ≤ 1000) (hin : ∀ p, β p ≠ 0 → p < r.2.ms.length) :
    Calls Tryz.prog 97 #[.pointer (some ⟨W, 0, none⟩), .map (some b)] w fun v w' => ∃ g, v = .returned (.slice (some ⟨g, 0, none⟩) r.2.ms.length r.2.ms.length) ∧ w.heap.size ≤ g ∧ Blk w' g 3 (rowC r.2.ms.length β) ∧ Below w.heap.size w w' := by
  obtain ⟨I, hI, hZ, hS1, hS8⟩ := info_parts (by kernel_rfl : (Tryz.prog.info? 3).map (fun i => (i.zero, i.size, i.bytes)) = some (some (.int .i64 0), 1, 8))
  have HP := Lib.hid (wplaces_at h)
  have HIN := Lib.hid hin
  have HB := Lib.hid hb
  generalize r.2.ms.length = N at *
  have hby : I.bytes * N ≤ 281474976710656 := by rw [hS8]; omega
  clear h hin hb
  go_enter Tryz.func97, Tryz.ntmps97
  go_wp2_with fail
  refine HP.out.mono ?_
  rintro v w1 ⟨rfl, rfl⟩
  go_wp2_with (first
    | (at_make; refine wpList_make_full _ rfl _ _ 52 rfl w1.heap.size 3 I (.int .i64 0) 1 Tryz.underlying52 hI hZ hS1 .i64 .i64 _ _ N rfl rfl rfl rfl hby (by unfold maxLen; omega) (Nat.le_refl _) ?_; intro w2 hown2 hg2; have hbk := made_blk hown2; rw [made_one] at hbk; have HBK := Lib.hid hbk; have HG2 := Lib.hid hg2; have hs2 := hg2.size; have hbl := hbk.lt; obtain ⟨D, hm, hD⟩ := HB.out.kept hg2 (by simp); have HD := Lib.hid hD; have hml := hm.lt; have hmw := HB.out.lt; clear hown2 hg2 hbk hD)
    | (at_range; refine wpList_range_own _ rfl _ 135 rfl 3 3 kint Tryz.underlying135 _ b n _ rfl hm ?_; intro w3 hrg0 hg0 hs0)
    | go_in)
  go_frame
  go_loopw [6, 7] (fun _ _ wr => ∃ (left : Lit → Bool) (cnt : Nat) (γ : Bag), wr.ranges Tryz.prog 3 (plainElem Tryz.prog 3) b w2.heap.size n D left cnt ∧ Hid (Blk wr w1.heap.size 3 (rowC N γ)) ∧ Hid (∀ p : Nat, γ p = if left (keyI p) = true then 0 else β p) ∧ Hid (Below w1.heap.size w1 wr) ∧ w2.heap.size < wr.heap.size)
    (fun _ _ wr => wr.rangeLeft b w2.heap.size)
  case atStart =>
    refine ⟨_, _, zeroB, hrg0, Lib.hid ((hg0.block _ hbl (by simp)).trans HBK.out), Lib.hid (fun p => ?_), Lib.hid (((Below.refl w1.heap.size w1).grown HG2.out (Nat.le_refl _) (fun k e => nomatch e)).grown hg0 hs2 (fun k e => nomatch e)), by omega⟩
    cases hh : Maps.has D (keyI p) with
    | true => rw [if_pos rfl]; rfl
    | false =>
      rw [if_neg (by simp)]
      by_cases h : β p = 0
      · exact h.symm
      · rw [HD.out.has p h] at hh
        cases hh
  case round =>
    obtain ⟨left, cnt, γ, hrg, HBL, HG, HBW, hsz⟩ := hrel
    go_wp2_with (first
      | (at_next; refine wpList_next_ranges_ii _ rfl _ rfl 3 3 .i64 .i64 kint Tryz.underlying3 Tryz.underlying3 b w2.heap.size n _ _ _ rfl hrg ?_ ?_)
      | go_in)
    · intro hc0 hl0
      have HE := Lib.hid (show γ = β from funext fun p => by rw [HG.out p, if_neg (by rw [hl0]; simp)])
      clear hl0
      go_wp2
      go_returns
      refine ⟨_, rfl, Nat.le_refl _, ?_, HBW.out⟩
      rw [← HE.out]
      exact HBL.out
    · intro x c w4 cnt1 hwx hwc hlx hat hrg1 hlt hg1 hs1 hen
      obtain ⟨p, hp, hp0⟩ := HD.out.key _ (ranges_has hrg hlx)
      obtain rfl : x = ((p : Nat) : Int) := by
        injection hp
      have hc : c = β p := by
        have h := (hat (valI 0)).symm.trans (HD.out.val p)
        injection h with h
        injection h
      subst hc
      have hpN : p < N := HIN.out p hp0
      have hb4 : Blk w4 w1.heap.size 3 (rowC N γ) := (hg1.block _ HBL.out.lt (by simp; omega)).trans HBL.out
      have hc4 : w4.cell? ⟨w1.heap.size, p, none⟩ = some (.int .i64 (γ p)) := (hb4.cell p).trans (rowC_get hpN γ)
      have hf4 := hb4.frozen p
      have hl4 := hb4.lt
      have HB4 := Lib.hid hb4
      have HRG := Lib.hid hrg1
      have HEN := Lib.hid hlt
      have HLX := Lib.hid hlx
      have HG1 := Lib.hid hg1
      have HLE := Lib.hid hrg.left_eq
      clear hb4 hrg1 hlt hlx hg1 hrg hat hp hp0 hwx hwc hm
      go_wp2
      go_roundw
      case rel =>
        have hg5 := only_setCell (only_refl w4 w1.heap.size) p (.int .i64 (β p))
        refine ⟨_, cnt1, _, HRG.out.kept hg5 (by simp; omega) (by simp; omega), Lib.hid (by rw [← rowC_put hpN γ (β p)]; exact HB4.out.set p (.int .i64 (β p))), Lib.hid (fun q => ?_), Lib.hid ((HBW.out.grown HG1.out HBW.out.size (fun k e => by cases e; exact hs2)).setCell (p := ⟨w1.heap.size, p, none⟩) (Nat.le_refl _) _), by rw [show (w4.setCell ⟨w1.heap.size, p, none⟩ (.int .i64 (β p))).heap.size = w4.heap.size by simp [World.setCell]]; omega⟩
        by_cases e : q = p
        · subst e
          rw [if_pos rfl, if_neg (by rw [key_self]; simp)]
        · rw [if_neg e, sameKey_ne (fun h => e (keyI_inj h))]
          simp only [Bool.not_false, Bool.and_true]
          exact HG.out q
      case measure =>
        have hg5 := only_setCell (only_refl w4 w1.heap.size) p (.int .i64 (β p))
        rw [(HRG.out.kept hg5 (by simp; omega) (by simp; omega)).left_eq, HLE.out]
        exact HEN.out
end Go.Proofs.YtpiimcbbgalhfaaGreatDoor
