/- A set that is told is read again as itself, a byte as one node: plain. -/
import Derived.Test.YtpiimcbbgalhfaaGreatDoorCq
import Derived.Test.YtpiimcbbgalhfaaGreatDoorBb
import Derived.Test.YtpiimcbbgalhfaaGreatDoorCz
import Derived.Test.YtpiimcbbgalhfaaGreatDoorCy
import Derived.Test.YtpiimcbbgalhfaaGreatDoorCa
import Derived.Test.YtpiimcbbgalhfaaGreatDoorCt
import Derived.Deep.RegionHeld3
namespace Go.Proofs.YtpiimcbbgalhfaaGreatDoor
set_option maxRecDepth 100000
open Go.RowKit
theorem setS_size8 (m : Nat → Bool) : (sL m).length ≤ 2310 := by
  unfold sL setS
  cases hf : firstM m with
  | none =>
    show nothingB.data.toList.length ≤ 2310
    decide
  | some b =>
    simp only []
    split
    · show ({ data := #[46] } : ByteArray).data.toList.length ≤ 2310
      decide
    · split
      · have := byteS_size b
        rw [Array.length_toList]
        exact Nat.le_trans this (by decide)
      · have h1 := classA_len (runsM (listM m 256))
        have h2 := (runs_in m).1
        show (classA (runsM (listM m 256)) ++ [93]).length ≤ 2310
        rw [List.length_append, List.length_singleton]
        omega
theorem tree_one (m : Nat → Bool) (n size : Nat) : treeM [(setTok m, 0, n)] size = .ok (.mk 1 m 0 0 false [] 0 n) 1 := rfl
theorem parse_leaf {s : ByteArray} {m : Nat → Bool} {n : Nat} (hn : (bytesN s).length = n) (h0 : 0 < n) (h : tokM (bytesN s) 0 = .ok (setTok m) n) : parseM s = .ok (.mk 1 m 0 0 false [] 0 n) 1 := by
  obtain ⟨k, rfl⟩ : ∃ k, n = k + 1 := ⟨n - 1, by omega⟩
  have hs : scanM (bytesN s) = .ok [(setTok m, 0, k + 1)] (k + 1) := by
    unfold scanM
    rw [hn]
    unfold scanLoop
    rw [hn, if_pos (by omega), h]
    simp only [List.nil_append]
    unfold scanLoop
    rw [hn, if_neg (by omega)]
  unfold parseM
  rw [hs]
  exact tree_one m (k + 1) s.size
theorem sN_pos (m : Nat → Bool) : 0 < (sN m).length := by
  obtain ⟨c, l, h, -⟩ := sN_head m []
  rw [h]
  simp
/-- A set that is told, parsed, is itself. -/
theorem parse_set (m : Nat → Bool) : ∃ m' n, parseM (setS m) = .ok (.mk 1 m' 0 0 false [] 0 n) 1 ∧ eqB m m' = true := by
  obtain ⟨m', h1, h2⟩ := tok_set m []
  rw [List.append_nil] at h1
  exact ⟨m', _, parse_leaf (s := setS m) rfl (sN_pos m) h1, h2⟩
theorem parse_byte {b : Nat} (hb : b < 256) : ∃ m' n, parseM (byteS b) = .ok (.mk 1 m' 0 0 false [] 0 n) 1 := by
  have h1 := tok_byte hb []
  rw [List.append_nil] at h1
  refine ⟨oneM b, _, parse_leaf (s := byteS b) rfl ?_ h1⟩
  obtain ⟨c, r, h2, -⟩ := bL_head hb
  show 0 < (bN b).length
  unfold bN
  rw [h2]
  simp [natsOf]
theorem sets_words {m m' : Nat → Bool} (h : eqB m m' = true) (i : Nat) (hi : i < 4) : word m' i = word m i := by
  rw [← eqB_words] at h
  simp only [Bool.and_eq_true, beq_iff_eq] at h
  obtain ⟨h0, h1, h2, h3⟩ := h
  match i, hi with
  | 0, _ => exact h0.symm
  | 1, _ => exact h1.symm
  | 2, _ => exact h2.symm
  | 3, _ => exact h3.symm
  | n + 4, h => omega
end Go.Proofs.YtpiimcbbgalhfaaGreatDoor
/- PrinterParts: the walk. -/
namespace Go.Proofs.YtpiimcbbgalhfaaGreatDoor
set_option maxRecDepth 100000
open Go.RowKit
attribute [local go_sem] eq_words eqB_words eqB_zero
theorem i64_bounds8 {n : Int} (h : (Lit.int .i64 n).wf = true) : -9223372036854775808 ≤ n ∧ n ≤ 9223372036854775807 := by
  simp [Lit.wf, IntKind.min, IntKind.max, IntKind.signed, IntKind.bits] at h
  omega
theorem parseB_low8 {s : ByteArray} (h : s.size ≤ 1048576) : parseB s = parseM s := by unfold parseB; rw [if_neg (by omega)]
theorem leaf_blk {w : World} {S : Nat → Prop} {m : Nat → Bool} {n b : Nat} (h : TreeAt w S (.mk 1 m 0 0 false [] 0 n) b) : ∃ A c, Blk w b 34 (nodeL 1 m 0 0 false (.slice A 0 c) 0 n) := by
  cases h with
  | mk hS hb hl hm hA hc hk => exact ⟨_, _, hb⟩
set_option maxHeartbeats 8000000 in
theorem parts_nat (m : Nat → Bool) (b : Nat) (hb : b < 256) (lo hi : Int) (hlo : -9223372036854775808 ≤ lo ∧ lo ≤ 9223372036854775807) (hhi : -9223372036854775808 ≤ hi ∧ hi ≤ 9223372036854775807) (z : Bool) (w : World) (hT : TabP w) :
    Calls Tryz.prog 3 #[setV m, .int .u8 ((b : Nat) : Int), .int .i64 lo, .int .i64 hi, .bool z] w fun e w' => e = .returned (.bool true) ∧ Below w.heap.size w w' := by
  obtain ⟨m1, n1, hp1, hm1⟩ := parse_set m
  obtain ⟨m2, n2, hp2⟩ := parse_byte hb
  have hw0 := sets_words hm1 0 (by omega)
  have hw1 := sets_words hm1 1 (by omega)
  have hw2 := sets_words hm1 2 (by omega)
  have hw3 := sets_words hm1 3 (by omega)
  have hs1 := setS_size8 m
  have hs1' : (setS m).size ≤ 2310 := by
    unfold sL at hs1
    rw [Array.length_toList] at hs1
    exact hs1
  have hs2 := byteS_size b
  have hpb1 := (parseB_low8 (s := setS m) (by omega)).trans hp1
  have hpb2 := (parseB_low8 (s := byteS b) (by omega)).trans hp2
  have HPB1 := Lib.hid hpb1
  have HPB2 := Lib.hid hpb2
  have HWD := Lib.hid (And.intro hw0 (And.intro hw1 (And.intro hw2 hw3)))
  have HSET := Lib.hid (fun W (h : TabOk W) => set_any m W h)
  have HBYT := Lib.hid (fun W => byte_at b hb W)
  have HREF := Lib.hid (fun W => refset_at m W)
  have HRBY := Lib.hid (fun W => refbyte_at b hb W)
  have HCNT := Lib.hid (fun W (h : TabP W) => count_any64 lo hi z hlo hhi W h)
  have HRCN := Lib.hid (fun W => rcount07_at lo hi z hlo hhi W)
  have HT := Lib.hid hT
  have HBK := Lib.hid (Blk.new w (setL m) 24)
  have HBX := Lib.hid ((Below.refl w.heap.size w).alloc (Nat.le_refl _) (.cells (setL m).toArray 24))
  clear hp1 hp2 hm1 hw0 hw1 hw2 hw3 hs1 hs1' hs2 hpb1 hpb2 hT
  generalize setS m = S1 at *
  generalize byteS b = T1 at *
  generalize countS lo hi z = C1 at *
  unfold setV
  go_enter Tryz.func3, Tryz.ntmps3
  go_wp2_with fail
  refine (HSET.out _ (HT.out.below HBX.out).tab).mono ?_
  rintro v w1 ⟨rfl, hb1⟩
  have HB1 := Lib.hid (HBX.out.trans (hb1.mono HBX.out.size))
  have HK1 := Lib.hid (HBK.out.below hb1 HBK.out.lt)
  clear hb1
  go_wp2_with fail
  refine (sparse_at S1 w1 (HT.out.below HB1.out).tab).mono ?_
  rintro v w2 ⟨hpi, hb2⟩
  have HB2 := Lib.hid (HB1.out.trans (hb2.mono HB1.out.size))
  have HK2 := Lib.hid (HK1.out.below hb2 HK1.out.lt)
  clear hb2
  unfold ParseIs at hpi
  rw [HPB1.out] at hpi
  obtain ⟨b1, rfl, htr1⟩ := hpi
  have HN2 := Lib.hid (leaf_blk htr1)
  clear htr1
  go_wp2_with fail
  refine (HBYT.out _).mono ?_
  rintro v w3 ⟨rfl, hb3⟩
  have HB3 := Lib.hid (HB2.out.trans (hb3.mono HB2.out.size))
  have HK3 := Lib.hid (HK2.out.below hb3 HK2.out.lt)
  obtain ⟨A1, c1, hn2⟩ := HN2.out
  have HN3 := Lib.hid (hn2.below hb3 hn2.lt)
  clear hb3 hn2
  go_wp2_with fail
  refine (sparse_at T1 w3 (HT.out.below HB3.out).tab).mono ?_
  rintro v w4 ⟨hpi, hb4⟩
  have HB4 := Lib.hid (HB3.out.trans (hb4.mono HB3.out.size))
  have hk4 := HK3.out.below hb4 HK3.out.lt
  have hn4 := HN3.out.below hb4 HN3.out.lt
  clear hb4
  unfold ParseIs at hpi
  rw [HPB2.out] at hpi
  obtain ⟨b2, rfl, htr2⟩ := hpi
  have HTR := Lib.hid htr2
  clear htr2
  obtain ⟨k0, k1, k2, k3, -, -, -, -⟩ := hk4.four
  obtain ⟨⟨j0, j1, j2, j3, j4, -, -, -, -, -, -⟩, -⟩ := hn4.eleven
  obtain ⟨e0, e1, e2, e3⟩ := HWD.out
  rw [e0] at j1
  rw [e1] at j2
  rw [e2] at j3
  rw [e3] at j4
  have hkl := hk4.lt
  have hnl := hn4.lt
  clear hk4 hn4 e0 e1 e2 e3
  rename World => w0
  have HRS := Lib.hid (fun W _ => HREF.out W : ∀ W, Below w0.heap.size w0 W → Calls Tryz.prog 14 #[.agg #[.int .u64 (word m 0), .int .u64 (word m 1), .int .u64 (word m 2), .int .u64 (word m 3)]] W fun v W' => v = .returned (.string S1) ∧ Below W.heap.size W W')
  have HPB := Lib.hid (fun W _ => HBYT.out W : ∀ W, Below w0.heap.size w0 W → Calls Tryz.prog 13 #[.int .u8 ((b : Nat) : Int)] W fun v W' => v = .returned (.string T1) ∧ Below W.heap.size W W')
  have HRB := Lib.hid (fun W _ => HRBY.out W : ∀ W, Below w0.heap.size w0 W → Calls Tryz.prog 15 #[.int .i64 ((b : Nat) : Int)] W fun v W' => v = .returned (.string T1) ∧ Below W.heap.size W W')
  have HSZ := Lib.hid (fun W hW => (ssize_at (HTR.out.under (show Below w0.heap.size w0 W from hW)) (by simp [sizeT, sizeL])).mono (fun v W' h => by simpa [sizeT, sizeL] using h) : ∀ W, Below w0.heap.size w0 W → Calls Tryz.prog 16 #[ptrV b2] W fun v W' => v = .returned (.int .i64 1) ∧ Below W.heap.size W W')
  have HPC := Lib.hid (fun W hW => HCNT.out W (HT.out.below (HB4.out.trans ((show Below w0.heap.size w0 W from hW).mono HB4.out.size))) : ∀ W, Below w0.heap.size w0 W → Calls Tryz.prog 17 #[.int .i64 lo, .int .i64 hi, .bool z] W fun v W' => v = .returned (.string C1) ∧ Below W.heap.size W W')
  have HRC := Lib.hid (fun W _ => HRCN.out W : ∀ W, Below w0.heap.size w0 W → Calls Tryz.prog 18 #[.int .i64 lo, .int .i64 hi, .bool z] W fun v W' => v = .returned (.string C1) ∧ Below W.heap.size W W')
  have HAW := Lib.hid (fun W hW => awake07_at W (HT.out.below (HB4.out.trans ((show Below w0.heap.size w0 W from hW).mono HB4.out.size))) : ∀ W, Below w0.heap.size w0 W → Calls Tryz.prog 19 #[] W fun v W' => v = .returned (.bool true) ∧ Below W.heap.size W W')
  clear HSET HBYT HREF HRBY HCNT HRCN HPB1 HPB2 HWD HTR HN2 HN3 HK1 HK2 HK3 HBK HBX HB1 HB2 HB3 HT
  have hB0 : Below w0.heap.size w0 w0.drew := (Below.refl _ _).drew
  have hwb : wrap64 ((b : Nat) : Int) = ((b : Nat) : Int) := by unfold wrap64; omega
  have hwc : IntKind.i64.wrap ((b : Nat) : Int) = ((b : Nat) : Int) := IntWalk.i64_in _ (by omega)
  go_upto_region 4 with fail
  go_region_held3 (fun x' => x'.cell? ⟨w.heap.size, 0, none⟩ = some (.int .u64 (word m 0)) ∧ x'.cell? ⟨w.heap.size, 1, none⟩ = some (.int .u64 (word m 1)) ∧ x'.cell? ⟨w.heap.size, 2, none⟩ = some (.int .u64 (word m 2)) ∧ x'.cell? ⟨w.heap.size, 3, none⟩ = some (.int .u64 (word m 3)) ∧ x'.cell? ⟨b1, 0, none⟩ = some (.int .i64 1) ∧ x'.cell? ⟨b1, 1, none⟩ = some (.int .u64 (word m 0)) ∧ x'.cell? ⟨b1, 2, none⟩ = some (.int .u64 (word m 1)) ∧ x'.cell? ⟨b1, 3, none⟩ = some (.int .u64 (word m 2)) ∧ x'.cell? ⟨b1, 4, none⟩ = some (.int .u64 (word m 3)) ∧ Below w0.heap.size w0 x') ((repeat' apply And.intro) <;> first | assumption | exact below_drewN (Below.refl _ _) _ | exact below_drewN (by assumption) _ | go_keep)
    (first
      | (go_at_call 14; with_reducible refine (HRS.out _ ?_).mono ?_; (go_split_ands; assumption); rintro e w8 ⟨rfl, hb8⟩; have hB7 := (show Below w0.heap.size w0 _ by go_split_ands; assumption); have hB8 := hB7.trans (hb8.mono hB7.size); clear hB7 hb8; have z0 : w8.cell? ⟨w.heap.size, 0, none⟩ = some (.int .u64 (word m 0)) := (hB8.cell (p := ⟨w.heap.size, 0, none⟩) (by simp only []; omega)).trans k0; have z1 : w8.cell? ⟨w.heap.size, 1, none⟩ = some (.int .u64 (word m 1)) := (hB8.cell (p := ⟨w.heap.size, 1, none⟩) (by simp only []; omega)).trans k1; have z2 : w8.cell? ⟨w.heap.size, 2, none⟩ = some (.int .u64 (word m 2)) := (hB8.cell (p := ⟨w.heap.size, 2, none⟩) (by simp only []; omega)).trans k2; have z3 : w8.cell? ⟨w.heap.size, 3, none⟩ = some (.int .u64 (word m 3)) := (hB8.cell (p := ⟨w.heap.size, 3, none⟩) (by simp only []; omega)).trans k3; have y0 : w8.cell? ⟨b1, 0, none⟩ = some (.int .i64 1) := (hB8.cell (p := ⟨b1, 0, none⟩) (by simp only []; omega)).trans j0; have y1 : w8.cell? ⟨b1, 1, none⟩ = some (.int .u64 (word m 0)) := (hB8.cell (p := ⟨b1, 1, none⟩) (by simp only []; omega)).trans j1; have y2 : w8.cell? ⟨b1, 2, none⟩ = some (.int .u64 (word m 1)) := (hB8.cell (p := ⟨b1, 2, none⟩) (by simp only []; omega)).trans j2; have y3 : w8.cell? ⟨b1, 3, none⟩ = some (.int .u64 (word m 2)) := (hB8.cell (p := ⟨b1, 3, none⟩) (by simp only []; omega)).trans j3; have y4 : w8.cell? ⟨b1, 4, none⟩ = some (.int .u64 (word m 3)) := (hB8.cell (p := ⟨b1, 4, none⟩) (by simp only []; omega)).trans j4)
      | (go_at_call 13; with_reducible refine (HPB.out _ ?_).mono ?_; (go_split_ands; assumption); rintro e w8 ⟨rfl, hb8⟩; have hB7 := (show Below w0.heap.size w0 _ by go_split_ands; assumption); have hB8 := hB7.trans (hb8.mono hB7.size); clear hB7 hb8; have z0 : w8.cell? ⟨w.heap.size, 0, none⟩ = some (.int .u64 (word m 0)) := (hB8.cell (p := ⟨w.heap.size, 0, none⟩) (by simp only []; omega)).trans k0; have z1 : w8.cell? ⟨w.heap.size, 1, none⟩ = some (.int .u64 (word m 1)) := (hB8.cell (p := ⟨w.heap.size, 1, none⟩) (by simp only []; omega)).trans k1; have z2 : w8.cell? ⟨w.heap.size, 2, none⟩ = some (.int .u64 (word m 2)) := (hB8.cell (p := ⟨w.heap.size, 2, none⟩) (by simp only []; omega)).trans k2; have z3 : w8.cell? ⟨w.heap.size, 3, none⟩ = some (.int .u64 (word m 3)) := (hB8.cell (p := ⟨w.heap.size, 3, none⟩) (by simp only []; omega)).trans k3; have y0 : w8.cell? ⟨b1, 0, none⟩ = some (.int .i64 1) := (hB8.cell (p := ⟨b1, 0, none⟩) (by simp only []; omega)).trans j0; have y1 : w8.cell? ⟨b1, 1, none⟩ = some (.int .u64 (word m 0)) := (hB8.cell (p := ⟨b1, 1, none⟩) (by simp only []; omega)).trans j1; have y2 : w8.cell? ⟨b1, 2, none⟩ = some (.int .u64 (word m 1)) := (hB8.cell (p := ⟨b1, 2, none⟩) (by simp only []; omega)).trans j2; have y3 : w8.cell? ⟨b1, 3, none⟩ = some (.int .u64 (word m 2)) := (hB8.cell (p := ⟨b1, 3, none⟩) (by simp only []; omega)).trans j3; have y4 : w8.cell? ⟨b1, 4, none⟩ = some (.int .u64 (word m 3)) := (hB8.cell (p := ⟨b1, 4, none⟩) (by simp only []; omega)).trans j4)
      | (go_at_call 15; with_reducible refine (HRB.out _ ?_).mono ?_; (go_split_ands; assumption); rintro e w8 ⟨rfl, hb8⟩; have hB7 := (show Below w0.heap.size w0 _ by go_split_ands; assumption); have hB8 := hB7.trans (hb8.mono hB7.size); clear hB7 hb8; have z0 : w8.cell? ⟨w.heap.size, 0, none⟩ = some (.int .u64 (word m 0)) := (hB8.cell (p := ⟨w.heap.size, 0, none⟩) (by simp only []; omega)).trans k0; have z1 : w8.cell? ⟨w.heap.size, 1, none⟩ = some (.int .u64 (word m 1)) := (hB8.cell (p := ⟨w.heap.size, 1, none⟩) (by simp only []; omega)).trans k1; have z2 : w8.cell? ⟨w.heap.size, 2, none⟩ = some (.int .u64 (word m 2)) := (hB8.cell (p := ⟨w.heap.size, 2, none⟩) (by simp only []; omega)).trans k2; have z3 : w8.cell? ⟨w.heap.size, 3, none⟩ = some (.int .u64 (word m 3)) := (hB8.cell (p := ⟨w.heap.size, 3, none⟩) (by simp only []; omega)).trans k3; have y0 : w8.cell? ⟨b1, 0, none⟩ = some (.int .i64 1) := (hB8.cell (p := ⟨b1, 0, none⟩) (by simp only []; omega)).trans j0; have y1 : w8.cell? ⟨b1, 1, none⟩ = some (.int .u64 (word m 0)) := (hB8.cell (p := ⟨b1, 1, none⟩) (by simp only []; omega)).trans j1; have y2 : w8.cell? ⟨b1, 2, none⟩ = some (.int .u64 (word m 1)) := (hB8.cell (p := ⟨b1, 2, none⟩) (by simp only []; omega)).trans j2; have y3 : w8.cell? ⟨b1, 3, none⟩ = some (.int .u64 (word m 2)) := (hB8.cell (p := ⟨b1, 3, none⟩) (by simp only []; omega)).trans j3; have y4 : w8.cell? ⟨b1, 4, none⟩ = some (.int .u64 (word m 3)) := (hB8.cell (p := ⟨b1, 4, none⟩) (by simp only []; omega)).trans j4)
      | (go_at_call 16; with_reducible refine (HSZ.out _ ?_).mono ?_; (go_split_ands; assumption); rintro e w8 ⟨rfl, hb8⟩; have hB7 := (show Below w0.heap.size w0 _ by go_split_ands; assumption); have hB8 := hB7.trans (hb8.mono hB7.size); clear hB7 hb8; have z0 : w8.cell? ⟨w.heap.size, 0, none⟩ = some (.int .u64 (word m 0)) := (hB8.cell (p := ⟨w.heap.size, 0, none⟩) (by simp only []; omega)).trans k0; have z1 : w8.cell? ⟨w.heap.size, 1, none⟩ = some (.int .u64 (word m 1)) := (hB8.cell (p := ⟨w.heap.size, 1, none⟩) (by simp only []; omega)).trans k1; have z2 : w8.cell? ⟨w.heap.size, 2, none⟩ = some (.int .u64 (word m 2)) := (hB8.cell (p := ⟨w.heap.size, 2, none⟩) (by simp only []; omega)).trans k2; have z3 : w8.cell? ⟨w.heap.size, 3, none⟩ = some (.int .u64 (word m 3)) := (hB8.cell (p := ⟨w.heap.size, 3, none⟩) (by simp only []; omega)).trans k3; have y0 : w8.cell? ⟨b1, 0, none⟩ = some (.int .i64 1) := (hB8.cell (p := ⟨b1, 0, none⟩) (by simp only []; omega)).trans j0; have y1 : w8.cell? ⟨b1, 1, none⟩ = some (.int .u64 (word m 0)) := (hB8.cell (p := ⟨b1, 1, none⟩) (by simp only []; omega)).trans j1; have y2 : w8.cell? ⟨b1, 2, none⟩ = some (.int .u64 (word m 1)) := (hB8.cell (p := ⟨b1, 2, none⟩) (by simp only []; omega)).trans j2; have y3 : w8.cell? ⟨b1, 3, none⟩ = some (.int .u64 (word m 2)) := (hB8.cell (p := ⟨b1, 3, none⟩) (by simp only []; omega)).trans j3; have y4 : w8.cell? ⟨b1, 4, none⟩ = some (.int .u64 (word m 3)) := (hB8.cell (p := ⟨b1, 4, none⟩) (by simp only []; omega)).trans j4)
      | (go_at_call 17; with_reducible refine (HPC.out _ ?_).mono ?_; (go_split_ands; assumption); rintro e w8 ⟨rfl, hb8⟩; have hB7 := (show Below w0.heap.size w0 _ by go_split_ands; assumption); have hB8 := hB7.trans (hb8.mono hB7.size); clear hB7 hb8; have z0 : w8.cell? ⟨w.heap.size, 0, none⟩ = some (.int .u64 (word m 0)) := (hB8.cell (p := ⟨w.heap.size, 0, none⟩) (by simp only []; omega)).trans k0; have z1 : w8.cell? ⟨w.heap.size, 1, none⟩ = some (.int .u64 (word m 1)) := (hB8.cell (p := ⟨w.heap.size, 1, none⟩) (by simp only []; omega)).trans k1; have z2 : w8.cell? ⟨w.heap.size, 2, none⟩ = some (.int .u64 (word m 2)) := (hB8.cell (p := ⟨w.heap.size, 2, none⟩) (by simp only []; omega)).trans k2; have z3 : w8.cell? ⟨w.heap.size, 3, none⟩ = some (.int .u64 (word m 3)) := (hB8.cell (p := ⟨w.heap.size, 3, none⟩) (by simp only []; omega)).trans k3; have y0 : w8.cell? ⟨b1, 0, none⟩ = some (.int .i64 1) := (hB8.cell (p := ⟨b1, 0, none⟩) (by simp only []; omega)).trans j0; have y1 : w8.cell? ⟨b1, 1, none⟩ = some (.int .u64 (word m 0)) := (hB8.cell (p := ⟨b1, 1, none⟩) (by simp only []; omega)).trans j1; have y2 : w8.cell? ⟨b1, 2, none⟩ = some (.int .u64 (word m 1)) := (hB8.cell (p := ⟨b1, 2, none⟩) (by simp only []; omega)).trans j2; have y3 : w8.cell? ⟨b1, 3, none⟩ = some (.int .u64 (word m 2)) := (hB8.cell (p := ⟨b1, 3, none⟩) (by simp only []; omega)).trans j3; have y4 : w8.cell? ⟨b1, 4, none⟩ = some (.int .u64 (word m 3)) := (hB8.cell (p := ⟨b1, 4, none⟩) (by simp only []; omega)).trans j4)
      | (go_at_call 18; with_reducible refine (HRC.out _ ?_).mono ?_; (go_split_ands; assumption); rintro e w8 ⟨rfl, hb8⟩; have hB7 := (show Below w0.heap.size w0 _ by go_split_ands; assumption); have hB8 := hB7.trans (hb8.mono hB7.size); clear hB7 hb8; have z0 : w8.cell? ⟨w.heap.size, 0, none⟩ = some (.int .u64 (word m 0)) := (hB8.cell (p := ⟨w.heap.size, 0, none⟩) (by simp only []; omega)).trans k0; have z1 : w8.cell? ⟨w.heap.size, 1, none⟩ = some (.int .u64 (word m 1)) := (hB8.cell (p := ⟨w.heap.size, 1, none⟩) (by simp only []; omega)).trans k1; have z2 : w8.cell? ⟨w.heap.size, 2, none⟩ = some (.int .u64 (word m 2)) := (hB8.cell (p := ⟨w.heap.size, 2, none⟩) (by simp only []; omega)).trans k2; have z3 : w8.cell? ⟨w.heap.size, 3, none⟩ = some (.int .u64 (word m 3)) := (hB8.cell (p := ⟨w.heap.size, 3, none⟩) (by simp only []; omega)).trans k3; have y0 : w8.cell? ⟨b1, 0, none⟩ = some (.int .i64 1) := (hB8.cell (p := ⟨b1, 0, none⟩) (by simp only []; omega)).trans j0; have y1 : w8.cell? ⟨b1, 1, none⟩ = some (.int .u64 (word m 0)) := (hB8.cell (p := ⟨b1, 1, none⟩) (by simp only []; omega)).trans j1; have y2 : w8.cell? ⟨b1, 2, none⟩ = some (.int .u64 (word m 1)) := (hB8.cell (p := ⟨b1, 2, none⟩) (by simp only []; omega)).trans j2; have y3 : w8.cell? ⟨b1, 3, none⟩ = some (.int .u64 (word m 2)) := (hB8.cell (p := ⟨b1, 3, none⟩) (by simp only []; omega)).trans j3; have y4 : w8.cell? ⟨b1, 4, none⟩ = some (.int .u64 (word m 3)) := (hB8.cell (p := ⟨b1, 4, none⟩) (by simp only []; omega)).trans j4)
      | (go_at_call 19; with_reducible refine (HAW.out _ ?_).mono ?_; (go_split_ands; assumption); rintro e w8 ⟨rfl, hb8⟩; have hB7 := (show Below w0.heap.size w0 _ by go_split_ands; assumption); have hB8 := hB7.trans (hb8.mono hB7.size); clear hB7 hb8; have z0 : w8.cell? ⟨w.heap.size, 0, none⟩ = some (.int .u64 (word m 0)) := (hB8.cell (p := ⟨w.heap.size, 0, none⟩) (by simp only []; omega)).trans k0; have z1 : w8.cell? ⟨w.heap.size, 1, none⟩ = some (.int .u64 (word m 1)) := (hB8.cell (p := ⟨w.heap.size, 1, none⟩) (by simp only []; omega)).trans k1; have z2 : w8.cell? ⟨w.heap.size, 2, none⟩ = some (.int .u64 (word m 2)) := (hB8.cell (p := ⟨w.heap.size, 2, none⟩) (by simp only []; omega)).trans k2; have z3 : w8.cell? ⟨w.heap.size, 3, none⟩ = some (.int .u64 (word m 3)) := (hB8.cell (p := ⟨w.heap.size, 3, none⟩) (by simp only []; omega)).trans k3; have y0 : w8.cell? ⟨b1, 0, none⟩ = some (.int .i64 1) := (hB8.cell (p := ⟨b1, 0, none⟩) (by simp only []; omega)).trans j0; have y1 : w8.cell? ⟨b1, 1, none⟩ = some (.int .u64 (word m 0)) := (hB8.cell (p := ⟨b1, 1, none⟩) (by simp only []; omega)).trans j1; have y2 : w8.cell? ⟨b1, 2, none⟩ = some (.int .u64 (word m 1)) := (hB8.cell (p := ⟨b1, 2, none⟩) (by simp only []; omega)).trans j2; have y3 : w8.cell? ⟨b1, 3, none⟩ = some (.int .u64 (word m 2)) := (hB8.cell (p := ⟨b1, 3, none⟩) (by simp only []; omega)).trans j3; have y4 : w8.cell? ⟨b1, 4, none⟩ = some (.int .u64 (word m 3)) := (hB8.cell (p := ⟨b1, 4, none⟩) (by simp only []; omega)).trans j4))
  all_goals
    go_wp2
    go_returns
    exact ⟨rfl, HB4.out.trans (hB8.mono HB4.out.size)⟩
theorem parts_law (m : Nat → Bool) (b lo hi : Int) (z : Bool) (hb : 0 ≤ b ∧ b < 256) (hlo : -9223372036854775808 ≤ lo ∧ lo ≤ 9223372036854775807) (hhi : -9223372036854775808 ≤ hi ∧ hi ≤ 9223372036854775807) (w : World) (hT : TabP w) :
    Calls Tryz.prog 3 #[setV m, .int .u8 b, .int .i64 lo, .int .i64 hi, .bool z] w fun e w' => e = .returned (.bool true) ∧ Below w.heap.size w w' := by
  obtain ⟨x, rfl⟩ := Int.eq_ofNat_of_zero_le hb.1
  exact parts_nat m x (by omega) lo hi hlo hhi z w hT
end Go.Proofs.YtpiimcbbgalhfaaGreatDoor
