/- blocks.New: the blocks of sets. -/
import Derived.Test.YtanimknpnniabaaDoorSplit
import Derived.Test.YtanimknpnniabaaDoorBuild
namespace Go.Proofs.YtanimknpnniabaaDoor
open Go.RowKit
/-- What tells a byte from another one. -/
def keyL (l : List (Nat → Bool)) (b : Nat) : List Bool := l.map (· b)
theorem keyL_snoc (l : List (Nat → Bool)) (m : Nat → Bool) (a b : Nat) : (keyL l a, m a) = (keyL l b, m b) ↔ keyL (l ++ [m]) a = keyL (l ++ [m]) b := by
  unfold keyL
  rw [List.map_append, List.map_append, Prod.mk.injEq]
  constructor
  · rintro ⟨h, h'⟩
    rw [h]
    simp [h']
  · intro h
    have := List.append_inj h (by simp)
    refine ⟨this.1, ?_⟩
    simpa using this.2
theorem cnt_const (n : Nat) : cntOf (keyL []) (n + 1) = 1 := by
  induction n with
  | zero => rfl
  | succ n ih => exact (cntOf_same (c := n + 1) (fun h => h 0 (Nat.succ_pos n) rfl)).trans ih
theorem num_const (b : Nat) : numOf (keyL []) b = 0 := by
  have := numOf_lt (key := keyL []) (b := b) (n := b + 1) (by omega)
  rw [cnt_const] at this
  omega
/-- The number of byte b's block, and how many there are. -/
def numL (l : List (Nat → Bool)) (b : Nat) : Nat := numOf (keyL l) b
def cntL (l : List (Nat → Bool)) : Nat := cntOf (keyL l) 256
theorem numL_snoc (l : List (Nat → Bool)) (m : Nat → Bool) : (fun b => numOf (fun c => (keyL l c, m c)) b) = numL (l ++ [m]) := by
  funext b
  exact num_alike (keyL_snoc l m) b
theorem cntL_snoc (l : List (Nat → Bool)) (m : Nat → Bool) : cntOf (fun c => (keyL l c, m c)) 256 = cntL (l ++ [m]) := cntOf_alike (keyL_snoc l m) 256
theorem cntL_le (l : List (Nat → Bool)) : cntL l ≤ 256 := cntOf_le _ _
theorem numL_lt (l : List (Nat → Bool)) (b : Nat) (h : b < 256) : numL l b < cntL l := numOf_lt h
theorem one_arr (k : Nat → Int) : (nums k).toArray.all (·.oneCell') = true := by
  rw [Array.all_eq_true_iff_forall_mem]
  intro v hv
  rw [List.mem_toArray] at hv
  unfold nums at hv
  obtain ⟨b, _, rfl⟩ := List.mem_map.1 hv
  rfl
theorem split_l (l : List (Nat → Bool)) (m : Nat → Bool) (w : World) :
    Calls Tryd.prog 31 #[.agg (nums fun b => ((numL l b : Nat) : Int)).toArray, setV m] w fun e w' => e = .returned (.tuple #[.agg (nums fun b => ((numL (l ++ [m]) b : Nat) : Int)).toArray, .int .i64 ((cntL (l ++ [m]) : Nat) : Int)]) ∧ Below w.heap.size w w' := by
  have := split_num (keyL l) m w
  have e := numL_snoc l m
  rw [show (fun b => ((numOf (fun c => (keyL l c, m c)) b : Nat) : Int)) = fun b => ((numL (l ++ [m]) b : Nat) : Int) from funext fun b => by rw [← e], cntL_snoc] at this
  exact this
set_option maxRecDepth 100000 in
set_option maxHeartbeats 2000000 in
theorem new_any (l : List (Nat → Bool)) (v : Value) (w : World) (hv : RdS w v l) :
    Calls Tryd.prog 10 #[v] w fun e w' => ∃ x g, e = .returned (.pointer (some ⟨x, 0, none⟩)) ∧ BlksAt w' x g (numL l) (cntL l) ∧ w.heap.size ≤ x ∧ w.heap.size ≤ g ∧ Below w.heap.size w w' := by
  obtain ⟨A, c, rfl, h1, h2, h3⟩ := hv
  have H3 := Lib.hid h3
  clear h3
  obtain ⟨zs, hzs, hz⟩ : ∃ zs : Array Value, zs = (nums fun b => ((numL [] b : Nat) : Int)).toArray ∧ ∀ w, (zeroValue 58).run Tryd.prog w = .ok (.agg zs) w := by
    refine ⟨_, rfl, fun w => ?_⟩
    rw [show (nums fun b => ((numL [] b : Nat) : Int)) = nums fun _ => 0 from nums_congr fun b _ => by unfold numL; rw [num_const]; rfl]
    kernel_rfl
  have HZ := Lib.hid hzs
  have hzl : zs.size = 256 := by subst hzs; simp [nums_length]
  clear hzs
  go_enter Tryd.func10, Tryd.ntmps10
  go_wp2
  go_loopw [4, 9] (fun nv i wr => ∃ k : Nat, k ≤ l.length ∧ i = .int .i64 k ∧ nv = .int .i64 ((cntL (l.take k) : Nat) : Int) ∧ Blk wr w.heap.size 58 (nums fun b => ((numL (l.take k) b : Nat) : Int)) ∧ Below w.heap.size w wr) (fun _ i _ => l.length - (intOf i).toNat)
  case atStart =>
    refine ⟨0, Nat.zero_le _, rfl, ?_, ?_, by go_grown⟩
    · unfold cntL
      rw [List.take_zero, cnt_const]
      rfl
    · rw [HZ.out]
      exact Blk.new w _ _
  case round =>
    clear hz
    obtain ⟨k, hk, rfl, rfl, hA, hbw⟩ := hrel
    have hi : Option.map (fun x => x.size) (Tryd.prog.info? 58) = some (nums fun b => ((numL (l.take k) b : Nat) : Int)).toArray.size := by
      rw [info_arr]
      simp [nums_length]
    by_cases hlt : k < l.length
    · obtain ⟨ad, rfl, had, e0, e1, e2, e3⟩ := H3.out k l[k] (List.getElem?_eq_getElem hlt)
      have hl : (ad.add (k * 4)).block < w.heap.size := by rw [add_block]; exact had
      have hb' : ∀ o, wr.cell? ⟨(ad.add (k * 4)).block, o, none⟩ = w.cell? ⟨(ad.add (k * 4)).block, o, none⟩ := fun o => hbw.cell (p := ⟨(ad.add (k * 4)).block, o, none⟩) hl
      have d0 := (hbw.cell hl).trans e0
      have d1 := (hb' _).trans e1
      have d2 := (hb' _).trans e2
      have d3 := (hb' _).trans e3
      have HS := Lib.hid (List.take_succ_eq_append_getElem hlt)
      clear e0 e1 e2 e3 hb'
      generalize l[k] = m at *
      go_wp2_with fail
      rename_i hK
      have hB := Blk.new wr (setL m) 35
      have hA1 := hA.alloc (.cells (setL m).toArray 35)
      have hbw1 := hbw.alloc hbw.size (.cells (setL m).toArray 35)
      refine wp_load_row 58 (.tmp 3) rfl _ rfl _ _ _ _ hA1 Tryd.underlying58 rfl hi ?_
      refine hK _ _ ?_
      clear hK hi d0 d1 d2 d3
      obtain ⟨c0, c1, c2, c3, _, _, _, _⟩ := hB.four
      have hsp := fun W => split_l (l.take k) m W
      simp only [← HS.out] at hsp
      go_wp2_with fail
      refine (hsp _).mono ?_
      rintro e w1 ⟨rfl, hb⟩
      have hA2 := hA1.below hb hA1.lt
      have hbw2 := hbw1.trans (hb.mono (by have := hbw.size; simp; omega))
      have hnl := nums_length fun b => ((numL (l.take (k + 1)) b : Nat) : Int)
      have hst := cells_arr hA2 (nums_length _) hnl (one_arr _)
      clear hsp hb c0 c1 c2 c3 hA1 hbw1 hA
      go_wp2
      go_roundw
      case rel => exact ⟨k + 1, by omega, by go_num, rfl, hA2.setRow, below_setRow hbw2 (Nat.le_refl _) _⟩
      case measure => simp [intOf]; omega
    · obtain rfl : k = l.length := by omega
      go_wp2_with fail
      rename_i hK
      refine wp_load_row 58 (.tmp 3) rfl _ rfl _ _ _ _ hA Tryd.underlying58 rfl hi ?_
      refine hK _ _ ?_
      clear hK
      rw [List.take_length]
      go_wp2_with fail
      refine (build_any (numL l) (cntL l) (by have := cntL_le l; omega) (numL_lt l) _).mono ?_
      rintro e w1 ⟨x, g, rfl, hx, h5, h6, hb⟩
      go_wp2
      go_returns
      exact ⟨x, g, rfl, hx, Nat.le_trans hbw.size h5, Nat.le_trans hbw.size h6, hbw.trans (hb.mono hbw.size)⟩
end Go.Proofs.YtanimknpnniabaaDoor
