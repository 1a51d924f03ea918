/- The reference of layer 1: Has, Bools, Make. -/
import Derived.Test.YtofhkgafgnldnaaDoorCount
import Derived.RegionTactic
import Derived.BigRegion
namespace Go.Proofs.YtofhkgafgnldnaaDoor
open Go.RowKit
attribute [local go_sem] eq_words eqB_words eqB_zero
/-- The slice value v reads as the values cs, one cell each. -/
def RdV (w : World) (v : Value) (cs : List Value) : Prop :=
  ∃ A c, v = .slice A cs.length c ∧ cs.length ≤ c ∧ cs.length ≤ 140737488355328 ∧ ∀ i u, cs[i]? = some u → ∃ ad, A = some ad ∧ ad.block < w.heap.size ∧ w.cell? (ad.add i) = some u
theorem RdV.below {w w' : World} {v : Value} {cs : List Value} (h : RdV w v cs) (hb : Below w.heap.size w w') : RdV w' v cs := by
  obtain ⟨A, c, rfl, h1, h2, h3⟩ := h
  refine ⟨A, c, rfl, h1, h2, fun i x hi => ?_⟩
  obtain ⟨ad, rfl, hlt, hc⟩ := h3 i x hi
  exact ⟨ad, rfl, Nat.lt_of_lt_of_le hlt hb.size, (hb.cell (p := ad.add i) (by rw [add_block]; exact hlt)).trans hc⟩
theorem refhas_word (m : Nat → Bool) (b : Int) (k : Nat) (h0 : 0 ≤ b) (h : b / 64 = (k : Int)) : (word m k / 2 ^ (b % 64).toNat % 2 == 1) = m b.toNat := by
  rw [← has_word m b k h0 h]
  have h3 := word_nonneg m k
  have h1 := word_lt m k
  obtain ⟨n, hn⟩ := Int.eq_ofNat_of_zero_le h3
  have hd : word m k / 2 ^ (b % 64).toNat = ((n / 2 ^ (b % 64).toNat : Nat) : Int) := by rw [hn]; simp
  have hlt : n / 2 ^ (b % 64).toNat ≤ n := Nat.div_le_self _ _
  rw [hd, show (1 : Int) = ((1 : Nat) : Int) by rfl, u64_and_nat _ _ (by omega) (by omega), Nat.and_one_is_mod]
  congr 1
set_option maxHeartbeats 400000 in
theorem refhas_any (m : Nat → Bool) (b : Int) (hb0 : 0 ≤ b) (hb : b < 256) (w : World) :
    Calls Tryd.prog 21 #[setV m, .int .i64 b] w fun e w' => e = .returned (.bool (m b.toNat)) ∧ Below w.heap.size w w' := by
  have hq : b / 64 = 0 ∨ b / 64 = 1 ∨ b / 64 = 2 ∨ b / 64 = 3 := by omega
  unfold setV
  rcases hq with hq | hq | hq | hq
  · have E := Lib.hid (refhas_word m b 0 hb0 hq)
    go_enter Tryd.func21, Tryd.ntmps21
    go_wp2
    go_returns
    refine ⟨?_, by go_grown⟩
    rw [← E.out]
    rfl
  · have E := Lib.hid (refhas_word m b 1 hb0 hq)
    go_enter Tryd.func21, Tryd.ntmps21
    go_wp2
    go_returns
    refine ⟨?_, by go_grown⟩
    rw [← E.out]
    rfl
  · have E := Lib.hid (refhas_word m b 2 hb0 hq)
    go_enter Tryd.func21, Tryd.ntmps21
    go_wp2
    go_returns
    refine ⟨?_, by go_grown⟩
    rw [← E.out]
    rfl
  · have E := Lib.hid (refhas_word m b 3 hb0 hq)
    go_enter Tryd.func21, Tryd.ntmps21
    go_wp2
    go_returns
    refine ⟨?_, by go_grown⟩
    rw [← E.out]
    rfl
/-- The set of which it is told so. -/
def makeM (l : List Bool) (x : Nat) : Bool := l.getD x false
theorem makeM_snoc (l : List Bool) (k : Nat) (h : k < l.length) : makeM (l.take (k + 1)) = if l[k] then putM (makeM (l.take k)) k else makeM (l.take k) := by
  funext x
  have e : ∀ n, makeM (l.take n) x = (decide (x < n) && makeM l x) := by
    intro n
    simp only [makeM, List.getD_eq_getElem?_getD, List.getElem?_take]
    by_cases hx : x < n <;> simp [hx]
  by_cases hx : x = k
  · subst hx
    have hm : makeM l x = l[x] := by simp [makeM, List.getD_eq_getElem?_getD, List.getElem?_eq_getElem h]
    rw [e, hm]
    cases hv : l[x]
    · simp [e]
    · simp [putM]
  · rw [e]
    have : decide ((x : Int) = (k : Int)) = false := by simp; omega
    split
    · simp only [putM, e, this, Bool.or_false]
      congr 1
      simp only [decide_eq_decide]; omega
    · rw [e]
      congr 1
      simp only [decide_eq_decide]; omega
theorem put_wordN (m : Nat → Bool) (k q : Nat) (h : (k : Int) / 64 = (q : Int)) : bits .or .u64 (word m q) (IntKind.u64.wrap (2 ^ (k % 64))) = word (putM m k) q := by
  have := put_word m k q (by omega) h
  rwa [show ((k : Int) % 64).toNat = k % 64 by omega] at this
set_option maxRecDepth 100000 in
set_option maxHeartbeats 1000000 in
theorem make_any (l : List Bool) (v : Value) (w : World) (hv : RdV w v (l.map .bool)) :
    Calls Tryd.prog 23 #[v] w fun e w' => e = .returned (setV (makeM (l.take 256))) ∧ Below w.heap.size w w' := by
  obtain ⟨A, c, rfl, h1, h2, h3⟩ := hv
  rw [List.length_map] at h1 h2 ⊢
  have H3 := Lib.hid h3
  clear h3
  go_enter Tryd.func23, Tryd.ntmps23
  go_wp2
  go_loopw [4] (fun i wr => ∃ k : Nat, k ≤ l.length ∧ k ≤ 256 ∧ i = .int .i64 k ∧ Blk wr w.heap.size 32 (setL (fun _ => false)) ∧ Blk wr (w.heap.size + 1) 32 (setL (makeM (l.take k))) ∧ Below w.heap.size w wr) (fun i _ => 256 - (intOf i).toNat)
  case atStart =>
    refine ⟨0, Nat.zero_le _, by omega, rfl, ?_, ?_, by go_grown⟩
    · rw [setL, word_none, word_none, word_none, word_none]
      exact (Blk.new w _ _).alloc _
    · rw [show makeM (l.take 0) = fun _ => false from by funext x; simp [makeM], setL, word_none, word_none, word_none, word_none]
      exact blk_new2 w _ _ _
  case round =>
    obtain ⟨k, hk, hk2, rfl, hb0, hb1, hbw⟩ := hrel
    by_cases h256 : k < 256
    · by_cases hlt : k < l.length
      · obtain ⟨ad, rfl, had, hc⟩ := H3.out k (.bool l[k]) (by simp [hlt])
        have hcr : wr.cell? (ad.add k) = some (.bool l[k]) := (hbw.cell (p := ad.add k) (by rw [add_block]; exact had)).trans hc
        clear hc
        have hs := makeM_snoc l k hlt
        have Hs := Lib.hid hs
        clear hs
        obtain ⟨c0, c1, c2, c3, f0, f1, f2, f3⟩ := hb1.four
        generalize l[k] = x at *
        cases x with
        | false =>
          go_wp2
          go_roundw
          case rel =>
            refine ⟨k + 1, by omega, by omega, by go_num, hb0, ?_, hbw⟩
            rw [Hs.out]
            exact hb1
          case measure => simp [intOf]; omega
        | true =>
          have hq : (k : Int) / 64 = 0 ∨ (k : Int) / 64 = 1 ∨ (k : Int) / 64 = 2 ∨ (k : Int) / 64 = 3 := by omega
          rcases hq with hq | hq | hq | hq
          · have e := put_wordN (makeM (l.take k)) k 0 hq
            have e0 := put_other (makeM (l.take k)) k 1 (by omega) (by omega)
            have e1 := put_other (makeM (l.take k)) k 2 (by omega) (by omega)
            have e2 := put_other (makeM (l.take k)) k 3 (by omega) (by omega)
            have E := Lib.hid (And.intro e (And.intro e0 (And.intro e1 e2)))
            clear e e0 e1 e2
            go_wp2
            go_region
            go_wp2
            go_roundw
            case rel =>
              obtain ⟨e, e0, e1, e2⟩ := E.out
              refine ⟨k + 1, by omega, by omega, by go_num, (hb0.far (p := ⟨w.heap.size + 1, 0, none⟩) (by simp) _).drew, ?_, (hbw.setCell (p := ⟨w.heap.size + 1, 0, none⟩) (by simp) _).drew⟩
              rw [Hs.out, if_pos trivial, setL, ← e, ← e0, ← e1, ← e2]
              exact (hb1.set 0 _).drew
            case measure => simp [intOf]; omega
          · have e := put_wordN (makeM (l.take k)) k 1 hq
            have e0 := put_other (makeM (l.take k)) k 0 (by omega) (by omega)
            have e1 := put_other (makeM (l.take k)) k 2 (by omega) (by omega)
            have e2 := put_other (makeM (l.take k)) k 3 (by omega) (by omega)
            have E := Lib.hid (And.intro e (And.intro e0 (And.intro e1 e2)))
            clear e e0 e1 e2
            go_wp2
            go_region
            go_wp2
            go_roundw
            case rel =>
              obtain ⟨e, e0, e1, e2⟩ := E.out
              refine ⟨k + 1, by omega, by omega, by go_num, (hb0.far (p := ⟨w.heap.size + 1, 1, none⟩) (by simp) _).drew, ?_, (hbw.setCell (p := ⟨w.heap.size + 1, 1, none⟩) (by simp) _).drew⟩
              rw [Hs.out, if_pos trivial, setL, ← e, ← e0, ← e1, ← e2]
              exact (hb1.set 1 _).drew
            case measure => simp [intOf]; omega
          · have e := put_wordN (makeM (l.take k)) k 2 hq
            have e0 := put_other (makeM (l.take k)) k 0 (by omega) (by omega)
            have e1 := put_other (makeM (l.take k)) k 1 (by omega) (by omega)
            have e2 := put_other (makeM (l.take k)) k 3 (by omega) (by omega)
            have E := Lib.hid (And.intro e (And.intro e0 (And.intro e1 e2)))
            clear e e0 e1 e2
            go_wp2
            go_region
            go_wp2
            go_roundw
            case rel =>
              obtain ⟨e, e0, e1, e2⟩ := E.out
              refine ⟨k + 1, by omega, by omega, by go_num, (hb0.far (p := ⟨w.heap.size + 1, 2, none⟩) (by simp) _).drew, ?_, (hbw.setCell (p := ⟨w.heap.size + 1, 2, none⟩) (by simp) _).drew⟩
              rw [Hs.out, if_pos trivial, setL, ← e, ← e0, ← e1, ← e2]
              exact (hb1.set 2 _).drew
            case measure => simp [intOf]; omega
          · have e := put_wordN (makeM (l.take k)) k 3 hq
            have e0 := put_other (makeM (l.take k)) k 0 (by omega) (by omega)
            have e1 := put_other (makeM (l.take k)) k 1 (by omega) (by omega)
            have e2 := put_other (makeM (l.take k)) k 2 (by omega) (by omega)
            have E := Lib.hid (And.intro e (And.intro e0 (And.intro e1 e2)))
            clear e e0 e1 e2
            go_wp2
            go_region
            go_wp2
            go_roundw
            case rel =>
              obtain ⟨e, e0, e1, e2⟩ := E.out
              refine ⟨k + 1, by omega, by omega, by go_num, (hb0.far (p := ⟨w.heap.size + 1, 3, none⟩) (by simp) _).drew, ?_, (hbw.setCell (p := ⟨w.heap.size + 1, 3, none⟩) (by simp) _).drew⟩
              rw [Hs.out, if_pos trivial, setL, ← e, ← e0, ← e1, ← e2]
              exact (hb1.set 3 _).drew
            case measure => simp [intOf]; omega
      · obtain rfl : k = l.length := by omega
        have E : Hid (l.take 256 = l.take l.length) := by show l.take 256 = _; rw [List.take_of_length_le (by omega), List.take_of_length_le (Nat.le_refl _)]
        obtain ⟨c0, c1, c2, c3, _, _, _, _⟩ := hb1.four
        obtain ⟨_, _, _, _, f0, f1, f2, f3⟩ := hb0.four
        go_wp2
        refine ret_set (b := w.heap.size) rfl rfl (hb0.set4 _ _ _ _) rfl ⟨?_, below_set4 hbw (Nat.le_refl _) _ _ _ _⟩
        rw [E.out]
        simp only [List.take_length]
    · obtain rfl : k = 256 := by omega
      have hn : Hid (256 ≤ l.length) := hk
      obtain ⟨c0, c1, c2, c3, _, _, _, _⟩ := hb1.four
      obtain ⟨_, _, _, _, f0, f1, f2, f3⟩ := hb0.four
      go_wp2
      exact ret_set (b := w.heap.size) rfl rfl (hb0.set4 _ _ _ _) rfl ⟨rfl, below_set4 hbw (Nat.le_refl _) _ _ _ _⟩
/-- What a set says of the bytes below n. -/
def boolsL (m : Nat → Bool) (n : Nat) : List Value := (List.range 256).map fun x => .bool (decide (x < n) && m x)
theorem boolsL_succ (m : Nat → Bool) (n : Nat) : boolsL m (n + 1) = (boolsL m n).set n (.bool (m n)) := by
  apply List.ext_getElem
  · simp [boolsL]
  · intro i h1 h2
    simp only [boolsL, List.length_map, List.length_range] at h1
    simp only [boolsL, List.getElem_map, List.getElem_range, List.getElem_set]
    by_cases h : n = i
    · subst h; simp
    · rw [if_neg h]
      congr 2
      simp only [decide_eq_decide]
      omega
theorem falses (m : Nat → Bool) (N : Nat) : ((List.range N).map fun x => Value.bool (decide (x < 0) && m x)) = List.replicate N (.bool false) := by
  apply List.ext_getElem
  · rw [List.length_map, List.length_range, List.length_replicate]
  · intro i h1 h2
    rw [List.getElem_map, List.getElem_replicate]
    simp
theorem boolsL_zero (m : Nat → Bool) : boolsL m 0 = List.replicate 256 (.bool false) := falses m 256
theorem made_falses (N : Nat) : madeCells (Value.bool false).cells N = (List.replicate N (Value.bool false)).toArray := by
  apply Array.ext
  · rw [size_madeCells, List.size_toArray, List.length_replicate]
  · intro i h1 h2
    simp [madeCells, Value.cells, Nat.mod_one]
theorem made_bools : madeCells (Value.bool false).cells 256 = (List.replicate 256 (Value.bool false)).toArray := made_falses 256
theorem make_bools (w : World) : (Instr.makeSlice 58 (.int .i64 256) (.int .i64 256)).run Tryd.prog w = .ok (.slice (some ⟨w.heap.size, 0, none⟩) 256 256) (w.alloc (.cells (List.replicate 256 (Value.bool false)).toArray 4)) := by
  obtain ⟨i, hi, h0, h1, h2⟩ := info_parts (by kernel_rfl : (Tryd.prog.info? 4).map (fun i => (i.zero, i.size, i.bytes)) = some (some (.bool false), 1, 1))
  have := run_make (P := Tryd.prog) w 58 4 i _ Tryd.underlying58 hi h0 .i64 .i64 256 256 (by omega) (by omega) (by rw [h2]; decide) (by decide)
  rw [h1] at this
  rw [← made_bools]
  exact this
end Go.Proofs.YtofhkgafgnldnaaDoor
