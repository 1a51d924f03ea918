/- SyntaxRight: the walk. -/
import Derived.Test.YtckoebfmoggeoaaDoorBr
import Derived.Test.YtckoebfmoggeoaaDoorBj
import Derived.Deep.DeepCutAuto
import Derived.Deep.CutBlock
namespace Go.Proofs.YtckoebfmoggeoaaDoor
set_option maxRecDepth 100000
open Go.RowKit
attribute [local go_sem] eq_words eqB_words eqB_zero
theorem root_tree {w2 w : World} {lv : Value} {kids : List Tree} {b : Nat} {k lo hi : Int} {s : Nat → Bool} {lazy : Bool} (hn : Blk w b 44 (nodeL k s lo hi lazy lv 0 0)) (hrow : RowT w2 w lv kids)
    (hlv : (lv = .slice none 0 0 ∧ kids = []) ∨ ∃ g c, lv = .slice (some ⟨g, 0, none⟩) kids.length c) (hm : kids.length ≤ 1048577) : TreeAt w (fun _ => True) (.mk k s lo hi lazy kids 0 0) b := by
  rcases hlv with ⟨rfl, rfl⟩ | ⟨g, c, rfl⟩
  · exact lay_leaf trivial hn
  · obtain ⟨bs, h1, hcell, htr⟩ := hrow.bs
    exact .mk (ga := g) (bs := bs) trivial hn h1 hm (fun _ => ⟨rfl, trivial⟩) hcell (fun i n q hk hq => (htr i n q hk hq).mono (fun _ _ _ => trivial))
set_option maxHeartbeats 8000000 in
theorem right_law (k lo hi : Int) (lazy : Bool) (z : Value) (l : List Int) (s : Nat → Bool) (w : World) (hl : RdL w .i64 z l) (hT : TabOk w)
    (hk : -9223372036854775808 ≤ k ∧ k ≤ 9223372036854775807) (hlo : -9223372036854775808 ≤ lo ∧ lo ≤ 9223372036854775807) (hhi : -9223372036854775808 ≤ hi ∧ hi ≤ 9223372036854775807) :
    Calls Tryd.prog 4 #[.int .i64 k, .int .i64 lo, .int .i64 hi, .bool lazy, z, setV s] w fun e w' => e = .returned (.bool true) ∧ Below w.heap.size w w' := by
  have HT := Lib.hid hT
  clear hT
  obtain ⟨A, c, rfl, hlc, hlm, hrd⟩ := hl
  have HL := Lib.hid hrd
  clear hrd
  go_enter Tryd.func4, Tryd.ntmps4
  by_cases hbig : 20 < l.length
  · go_wp2_with fail
    refine (awake06_at _ (tab_far HT.out ((Below.refl _ w).alloc (Nat.le_refl _) _) (tab_lt HT.out))).mono ?_
    rintro v w1 ⟨rfl, hb⟩
    go_wp2
    go_returns
    exact ⟨rfl, (((Below.refl _ w).alloc (Nat.le_refl _) _).trans (hb.mono (by simp)))⟩
  · have hS1 := Blk.new w [.int .u64 (word s 0), .int .u64 (word s 1), .int .u64 (word s 2), .int .u64 (word s 3)] 29
    have hN2 := Blk.new (w.alloc (.cells #[.int .u64 (word s 0), .int .u64 (word s 1), .int .u64 (word s 2), .int .u64 (word s 3)] 29)) [.int .i64 k, .int .u64 (word s 0), .int .u64 (word s 1), .int .u64 (word s 2), .int .u64 (word s 3), .int .i64 lo, .int .i64 hi, .bool lazy, .slice none 0 0, .int .i64 0, .int .i64 0] 44
    have hS2 := hS1.alloc (.cells #[.int .i64 k, .int .u64 (word s 0), .int .u64 (word s 1), .int .u64 (word s 2), .int .u64 (word s 3), .int .i64 lo, .int .i64 hi, .bool lazy, .slice none 0 0, .int .i64 0, .int .i64 0] 44)
    have hB2 : Below w.heap.size w ((w.alloc (.cells #[.int .u64 (word s 0), .int .u64 (word s 1), .int .u64 (word s 2), .int .u64 (word s 3)] 29)).alloc (.cells #[.int .i64 k, .int .u64 (word s 0), .int .u64 (word s 1), .int .u64 (word s 2), .int .u64 (word s 3), .int .i64 lo, .int .i64 hi, .bool lazy, .slice none 0 0, .int .i64 0, .int .i64 0] 44)) := ((Below.refl _ w).alloc (Nat.le_refl _) _).alloc (by simp) _
    rw [show (w.alloc (.cells #[.int .u64 (word s 0), .int .u64 (word s 1), .int .u64 (word s 2), .int .u64 (word s 3)] 29)).heap.size = w.heap.size + 1 by simp] at hN2
    go_wp2_with fail
    generalize ((w.alloc (.cells #[.int .u64 (word s 0), .int .u64 (word s 1), .int .u64 (word s 2), .int .u64 (word s 3)] 29)).alloc (.cells #[.int .i64 k, .int .u64 (word s 0), .int .u64 (word s 1), .int .u64 (word s 2), .int .u64 (word s 3), .int .i64 lo, .int .i64 hi, .bool lazy, .slice none 0 0, .int .i64 0, .int .i64 0] 44)) = w2 at *
    have HS2 := Lib.hid hS2
    have HN2 := Lib.hid hN2
    have HB2 := Lib.hid hB2
    clear hS1 hS2 hN2 hB2
    go_loopw [14, 15, 16, 17, 18] (fun pv nv cv av iv wr => ∃ i : Nat, i ≤ l.length ∧ iv = .int .i64 ((i : Nat) : Int) ∧ pv = .int .i64 ((i : Nat) : Int) ∧ nv = .bool ((l.take i).any noneX) ∧ cv = .bool ((l.take i).any (· == 4)) ∧ av = .bool ((l.take i).any (· == 5)) ∧ Below w.heap.size w wr ∧ w2.heap.size ≤ wr.heap.size ∧
      ∃ lv, Blk wr (w.heap.size + 1) 44 (nodeL k s lo hi lazy lv 0 0) ∧ RowT w2 wr lv ((l.take i).map (kidT s)) ∧ Blk wr w.heap.size 29 [.int .u64 (word s 0), .int .u64 (word s 1), .int .u64 (word s 2), .int .u64 (word s 3)] ∧ ((lv = .slice none 0 0 ∧ i = 0) ∨ ∃ g c, lv = .slice (some ⟨g, 0, none⟩) i c)) (fun _ _ _ _ iv _ => l.length - (intOf iv).toNat)
    case atStart => exact ⟨0, Nat.zero_le _, rfl, rfl, rfl, rfl, rfl, HB2.out, Nat.le_refl _, _, HN2.out, RowT.nil _ _, HS2.out, .inl ⟨rfl, rfl⟩⟩
    case round =>
      obtain ⟨i, hil, rfl, rfl, rfl, rfl, rfl, hb, hw2, lv, hn, hrow, hs, hlv⟩ := hrel
      by_cases hlt : i < l.length
      · have hx : l[i]? = some l[i] := List.getElem?_eq_getElem hlt
        have hsn := List.take_succ_eq_append_getElem hlt
        generalize l[i] = x at *
        obtain ⟨ad, rfl, hadl, hcell⟩ := HL.out i x hx
        have hbl : (ad.add i).block < w.heap.size := by unfold Addr.add; split <;> exact hadl
        have cx : wr.cell? (ad.add i) = some (.int .i64 x) := (hb.cell hbl).trans hcell
        have hbl2 : (ad.add i).block < wr.heap.size := Nat.lt_of_lt_of_le hbl hb.size
        have hbl3 : ad.block < wr.heap.size := Nat.lt_of_lt_of_le hadl hb.size
        have M1 := Lib.hid (show (l.take (i + 1)).any noneX = ((l.take i).any noneX || noneX x) by rw [hsn]; simp)
        have M2 := Lib.hid (show (l.take (i + 1)).any (· == 4) = ((l.take i).any (· == 4) || x == 4) by rw [hsn]; simp)
        have M3 := Lib.hid (show (l.take (i + 1)).any (· == 5) = ((l.take i).any (· == 5) || x == 5) by rw [hsn]; simp)
        have M4 := Lib.hid (show (l.take (i + 1)).map (kidT s) = (l.take i).map (kidT s) ++ [kidT s x] by rw [hsn]; simp)
        have M5 := Lib.hid (show ((l.take i).map (kidT s)).length = i by rw [List.length_map, List.length_take]; omega)
        generalize (l.take i).map (kidT s) = kl at *
        generalize (l.take i).any noneX = q1 at *
        generalize (l.take i).any (· == 4) = q2 at *
        generalize (l.take i).any (· == 5) = q3 at *
        have hn2l := HN2.out.lt
        have hnlt := hn.lt
        have hslt := hs.lt
        have s0 : wr.cell? ⟨w.heap.size, 0, none⟩ = some (.int .u64 (word s 0)) := hs.cell 0
        have s1 : wr.cell? ⟨w.heap.size, 1, none⟩ = some (.int .u64 (word s 1)) := hs.cell 1
        have s2 : wr.cell? ⟨w.heap.size, 2, none⟩ = some (.int .u64 (word s 2)) := hs.cell 2
        have s3 : wr.cell? ⟨w.heap.size, 3, none⟩ = some (.int .u64 (word s 3)) := hs.cell 3
        have HN := Lib.hid hn
        have HRW := Lib.hid hrow
        have HB := Lib.hid hb
        have HS := Lib.hid hs
        have HLV := Lib.hid hlv
        clear hx hsn hcell hn hrow hb hs hlv hadl
        go_upto_block 2 with fail
        go_cut [15, 16, 17, 19] (fun nv cv av xv wx => ∃ (b3 : Nat) (n1 n2 n3 : Bool), Hid ((l.take (i + 1)).any noneX = n1) ∧ Hid ((l.take (i + 1)).any (· == 4) = n2) ∧ Hid ((l.take (i + 1)).any (· == 5) = n3) ∧ nv = .bool n1 ∧ cv = .bool n2 ∧ av = .bool n3 ∧ xv = ptrV b3 ∧ TreeAt wx (From wr) (kidT s x) b3 ∧ Below wr.heap.size wr wx)
        case first =>
          by_cases h1 : x = 1
          · subst h1
            as_aux_lemma =>
            go_wp2_with fail
            have st := ((St.nil wr).alloc (n := wr.heap.size) (by simp) (zeroL 0 (.slice none 0 0)) 44).alloc (n := wr.heap.size + 1) (by simp) (nodeL 1 s 0 0 false (.slice none 0 0) 0 0) 44
            have htr := lay_leaf (from_le (w := wr) (by omega)) (st.get 0 rfl)
            go_meet
            case rel => exact ⟨_, _, _, _, Lib.hid (M1.out.trans (by simp [noneX] : _ = q1)), Lib.hid (M2.out.trans (by simp [noneX] : _ = q2)), Lib.hid (M3.out.trans (by simp [noneX] : _ = q3)), rfl, rfl, rfl, rfl, (by rw [kid1]; exact htr), st.below⟩
          by_cases h2 : x = 2
          · subst h2
            as_aux_lemma =>
            go_wp2_with fail
            have st := ((((St.nil wr).alloc (n := wr.heap.size) (by simp) (zeroL 0 (.slice none 0 0)) 44).alloc (n := wr.heap.size + 1) (by simp) (zeroL 0 (.slice none 0 0)) 44).alloc (n := wr.heap.size + 1 + 1) (by simp) ([ptrV (wr.heap.size + 1)]) 23).alloc (n := wr.heap.size + 1 + 1 + 1) (by simp) (zeroL 2 (.slice (some ⟨wr.heap.size + 1 + 1, 0, none⟩) 1 1)) 44
            have htr := lay_one (from_le (w := wr) (by omega)) (from_le (w := wr) (by omega)) (zero_node (st.get 0 rfl)) ((st.get 1 rfl).cell 0) (lay_leaf (from_le (w := wr) (by omega)) (zero_node (st.get 2 rfl)))
            go_meet
            case rel => exact ⟨_, _, _, _, Lib.hid (M1.out.trans (by simp [noneX] : _ = q1)), Lib.hid (M2.out.trans (by simp [noneX] : _ = q2)), Lib.hid (M3.out.trans (by simp [noneX] : _ = q3)), rfl, rfl, rfl, rfl, (by rw [kid2]; exact htr), st.below⟩
          by_cases h3 : x = 3
          · subst h3
            as_aux_lemma =>
            go_wp2_with fail
            have st := ((((St.nil wr).alloc (n := wr.heap.size) (by simp) (zeroL 0 (.slice none 0 0)) 44).alloc (n := wr.heap.size + 1) (by simp) (zeroL 0 (.slice none 0 0)) 44).alloc (n := wr.heap.size + 1 + 1) (by simp) ([ptrV (wr.heap.size + 1)]) 23).alloc (n := wr.heap.size + 1 + 1 + 1) (by simp) (zeroL 3 (.slice (some ⟨wr.heap.size + 1 + 1, 0, none⟩) 1 1)) 44
            have htr := lay_one (from_le (w := wr) (by omega)) (from_le (w := wr) (by omega)) (zero_node (st.get 0 rfl)) ((st.get 1 rfl).cell 0) (lay_leaf (from_le (w := wr) (by omega)) (zero_node (st.get 2 rfl)))
            go_meet
            case rel => exact ⟨_, _, _, _, Lib.hid (M1.out.trans (by simp [noneX] : _ = q1)), Lib.hid (M2.out.trans (by simp [noneX] : _ = q2)), Lib.hid (M3.out.trans (by simp [noneX] : _ = q3)), rfl, rfl, rfl, rfl, (by rw [kid3]; exact htr), st.below⟩
          by_cases h4 : x = 4
          · subst h4
            have hb1 : (ad.add i).block < wr.heap.size + 1 := by omega
            have hb2 : (ad.add i).block < wr.heap.size + 1 + 1 := by omega
            have hb3 : (ad.add i).block < wr.heap.size + 1 + 1 + 1 := by omega
            have hb4 : (ad.add i).block < wr.heap.size + 1 + 1 + 1 + 1 := by omega
            have hb5 : (ad.add i).block < wr.heap.size + 1 + 1 + 1 + 1 + 1 := by omega
            cases q2 <;> cases q3 <;> (go_wp2_with fail; go_region)
            · as_aux_lemma =>
              go_wp2_with fail
              have st := ((((((St.nil wr).alloc (n := wr.heap.size) (by simp) (zeroL 0 (.slice none 0 0)) 44).alloc (n := wr.heap.size + 1) (by simp) (zeroL 1 (.slice none 0 0)) 44).alloc (n := wr.heap.size + 1 + 1) (by simp) (nodeL 1 s 0 0 false (.slice none 0 0) 0 0) 44).alloc (n := wr.heap.size + 1 + 1 + 1) (by simp) ([ptrV (wr.heap.size + 1), ptrV (wr.heap.size + 1 + 1)]) 23).alloc (n := wr.heap.size + 1 + 1 + 1 + 1) (by simp) (zeroL 4 (.slice (some ⟨wr.heap.size + 1 + 1 + 1, 0, none⟩) 2 2)) 44).drew
              have htr := lay_two (from_le (w := wr) (by omega)) (from_le (w := wr) (by omega)) (zero_node (st.get 0 rfl)) ((st.get 1 rfl).cell 0) (lay_leaf (from_le (w := wr) (by omega)) (zero_node (st.get 3 rfl))) ((st.get 1 rfl).cell 1) (lay_leaf (from_le (w := wr) (by omega)) (st.get 2 rfl))
              go_meet
              case rel => exact ⟨_, _, _, _, Lib.hid (M1.out.trans (by simp [noneX] : _ = q1)), Lib.hid (M2.out.trans (by simp : _ = true)), Lib.hid (M3.out.trans (by simp : _ = false)), rfl, rfl, rfl, rfl, (by rw [kid4]; exact htr), st.below⟩
            · as_aux_lemma =>
              go_wp2_with fail
              have st := ((((((St.nil wr).alloc (n := wr.heap.size) (by simp) (zeroL 0 (.slice none 0 0)) 44).alloc (n := wr.heap.size + 1) (by simp) (nodeL 1 s 0 0 false (.slice none 0 0) 0 0) 44).alloc (n := wr.heap.size + 1 + 1) (by simp) (zeroL 1 (.slice none 0 0)) 44).alloc (n := wr.heap.size + 1 + 1 + 1) (by simp) ([ptrV (wr.heap.size + 1 + 1), ptrV (wr.heap.size + 1)]) 23).alloc (n := wr.heap.size + 1 + 1 + 1 + 1) (by simp) (zeroL 4 (.slice (some ⟨wr.heap.size + 1 + 1 + 1, 0, none⟩) 2 2)) 44).drew
              have htr := lay_two (from_le (w := wr) (by omega)) (from_le (w := wr) (by omega)) (zero_node (st.get 0 rfl)) ((st.get 1 rfl).cell 0) (lay_leaf (from_le (w := wr) (by omega)) (zero_node (st.get 2 rfl))) ((st.get 1 rfl).cell 1) (lay_leaf (from_le (w := wr) (by omega)) (st.get 3 rfl))
              go_meet
              case rel => exact ⟨_, _, _, _, Lib.hid (M1.out.trans (by simp [noneX] : _ = q1)), Lib.hid (M2.out.trans (by simp : _ = true)), Lib.hid (M3.out.trans (by simp : _ = false)), rfl, rfl, rfl, rfl, (by rw [kid4]; exact htr), st.below⟩
            · as_aux_lemma =>
              go_wp2_with fail
              have st := ((((((St.nil wr).alloc (n := wr.heap.size) (by simp) (zeroL 0 (.slice none 0 0)) 44).alloc (n := wr.heap.size + 1) (by simp) (zeroL 1 (.slice none 0 0)) 44).alloc (n := wr.heap.size + 1 + 1) (by simp) (nodeL 1 s 0 0 false (.slice none 0 0) 0 0) 44).alloc (n := wr.heap.size + 1 + 1 + 1) (by simp) ([ptrV (wr.heap.size + 1), ptrV (wr.heap.size + 1 + 1)]) 23).alloc (n := wr.heap.size + 1 + 1 + 1 + 1) (by simp) (zeroL 4 (.slice (some ⟨wr.heap.size + 1 + 1 + 1, 0, none⟩) 2 2)) 44).drew
              have htr := lay_two (from_le (w := wr) (by omega)) (from_le (w := wr) (by omega)) (zero_node (st.get 0 rfl)) ((st.get 1 rfl).cell 0) (lay_leaf (from_le (w := wr) (by omega)) (zero_node (st.get 3 rfl))) ((st.get 1 rfl).cell 1) (lay_leaf (from_le (w := wr) (by omega)) (st.get 2 rfl))
              go_meet
              case rel => exact ⟨_, _, _, _, Lib.hid (M1.out.trans (by simp [noneX] : _ = q1)), Lib.hid (M2.out.trans (by simp : _ = true)), Lib.hid (M3.out.trans (by simp : _ = true)), rfl, rfl, rfl, rfl, (by rw [kid4]; exact htr), st.below⟩
            · as_aux_lemma =>
              go_wp2_with fail
              have st := ((((((St.nil wr).alloc (n := wr.heap.size) (by simp) (zeroL 0 (.slice none 0 0)) 44).alloc (n := wr.heap.size + 1) (by simp) (nodeL 1 s 0 0 false (.slice none 0 0) 0 0) 44).alloc (n := wr.heap.size + 1 + 1) (by simp) (zeroL 1 (.slice none 0 0)) 44).alloc (n := wr.heap.size + 1 + 1 + 1) (by simp) ([ptrV (wr.heap.size + 1 + 1), ptrV (wr.heap.size + 1)]) 23).alloc (n := wr.heap.size + 1 + 1 + 1 + 1) (by simp) (zeroL 4 (.slice (some ⟨wr.heap.size + 1 + 1 + 1, 0, none⟩) 2 2)) 44).drew
              have htr := lay_two (from_le (w := wr) (by omega)) (from_le (w := wr) (by omega)) (zero_node (st.get 0 rfl)) ((st.get 1 rfl).cell 0) (lay_leaf (from_le (w := wr) (by omega)) (zero_node (st.get 2 rfl))) ((st.get 1 rfl).cell 1) (lay_leaf (from_le (w := wr) (by omega)) (st.get 3 rfl))
              go_meet
              case rel => exact ⟨_, _, _, _, Lib.hid (M1.out.trans (by simp [noneX] : _ = q1)), Lib.hid (M2.out.trans (by simp : _ = true)), Lib.hid (M3.out.trans (by simp : _ = true)), rfl, rfl, rfl, rfl, (by rw [kid4]; exact htr), st.below⟩
            · as_aux_lemma =>
              go_wp2_with fail
              have st := ((((((St.nil wr).alloc (n := wr.heap.size) (by simp) (zeroL 0 (.slice none 0 0)) 44).alloc (n := wr.heap.size + 1) (by simp) (zeroL 1 (.slice none 0 0)) 44).alloc (n := wr.heap.size + 1 + 1) (by simp) (nodeL 1 s 0 0 false (.slice none 0 0) 0 0) 44).alloc (n := wr.heap.size + 1 + 1 + 1) (by simp) ([ptrV (wr.heap.size + 1), ptrV (wr.heap.size + 1 + 1)]) 23).alloc (n := wr.heap.size + 1 + 1 + 1 + 1) (by simp) (zeroL 4 (.slice (some ⟨wr.heap.size + 1 + 1 + 1, 0, none⟩) 2 2)) 44).drew
              have htr := lay_two (from_le (w := wr) (by omega)) (from_le (w := wr) (by omega)) (zero_node (st.get 0 rfl)) ((st.get 1 rfl).cell 0) (lay_leaf (from_le (w := wr) (by omega)) (zero_node (st.get 3 rfl))) ((st.get 1 rfl).cell 1) (lay_leaf (from_le (w := wr) (by omega)) (st.get 2 rfl))
              go_meet
              case rel => exact ⟨_, _, _, _, Lib.hid (M1.out.trans (by simp [noneX] : _ = q1)), Lib.hid (M2.out.trans (by simp : _ = true)), Lib.hid (M3.out.trans (by simp : _ = false)), rfl, rfl, rfl, rfl, (by rw [kid4]; exact htr), st.below⟩
            · as_aux_lemma =>
              go_wp2_with fail
              have st := ((((((St.nil wr).alloc (n := wr.heap.size) (by simp) (zeroL 0 (.slice none 0 0)) 44).alloc (n := wr.heap.size + 1) (by simp) (nodeL 1 s 0 0 false (.slice none 0 0) 0 0) 44).alloc (n := wr.heap.size + 1 + 1) (by simp) (zeroL 1 (.slice none 0 0)) 44).alloc (n := wr.heap.size + 1 + 1 + 1) (by simp) ([ptrV (wr.heap.size + 1 + 1), ptrV (wr.heap.size + 1)]) 23).alloc (n := wr.heap.size + 1 + 1 + 1 + 1) (by simp) (zeroL 4 (.slice (some ⟨wr.heap.size + 1 + 1 + 1, 0, none⟩) 2 2)) 44).drew
              have htr := lay_two (from_le (w := wr) (by omega)) (from_le (w := wr) (by omega)) (zero_node (st.get 0 rfl)) ((st.get 1 rfl).cell 0) (lay_leaf (from_le (w := wr) (by omega)) (zero_node (st.get 2 rfl))) ((st.get 1 rfl).cell 1) (lay_leaf (from_le (w := wr) (by omega)) (st.get 3 rfl))
              go_meet
              case rel => exact ⟨_, _, _, _, Lib.hid (M1.out.trans (by simp [noneX] : _ = q1)), Lib.hid (M2.out.trans (by simp : _ = true)), Lib.hid (M3.out.trans (by simp : _ = false)), rfl, rfl, rfl, rfl, (by rw [kid4]; exact htr), st.below⟩
            · as_aux_lemma =>
              go_wp2_with fail
              have st := ((((((St.nil wr).alloc (n := wr.heap.size) (by simp) (zeroL 0 (.slice none 0 0)) 44).alloc (n := wr.heap.size + 1) (by simp) (zeroL 1 (.slice none 0 0)) 44).alloc (n := wr.heap.size + 1 + 1) (by simp) (nodeL 1 s 0 0 false (.slice none 0 0) 0 0) 44).alloc (n := wr.heap.size + 1 + 1 + 1) (by simp) ([ptrV (wr.heap.size + 1), ptrV (wr.heap.size + 1 + 1)]) 23).alloc (n := wr.heap.size + 1 + 1 + 1 + 1) (by simp) (zeroL 4 (.slice (some ⟨wr.heap.size + 1 + 1 + 1, 0, none⟩) 2 2)) 44).drew
              have htr := lay_two (from_le (w := wr) (by omega)) (from_le (w := wr) (by omega)) (zero_node (st.get 0 rfl)) ((st.get 1 rfl).cell 0) (lay_leaf (from_le (w := wr) (by omega)) (zero_node (st.get 3 rfl))) ((st.get 1 rfl).cell 1) (lay_leaf (from_le (w := wr) (by omega)) (st.get 2 rfl))
              go_meet
              case rel => exact ⟨_, _, _, _, Lib.hid (M1.out.trans (by simp [noneX] : _ = q1)), Lib.hid (M2.out.trans (by simp : _ = true)), Lib.hid (M3.out.trans (by simp : _ = true)), rfl, rfl, rfl, rfl, (by rw [kid4]; exact htr), st.below⟩
            · as_aux_lemma =>
              go_wp2_with fail
              have st := ((((((St.nil wr).alloc (n := wr.heap.size) (by simp) (zeroL 0 (.slice none 0 0)) 44).alloc (n := wr.heap.size + 1) (by simp) (nodeL 1 s 0 0 false (.slice none 0 0) 0 0) 44).alloc (n := wr.heap.size + 1 + 1) (by simp) (zeroL 1 (.slice none 0 0)) 44).alloc (n := wr.heap.size + 1 + 1 + 1) (by simp) ([ptrV (wr.heap.size + 1 + 1), ptrV (wr.heap.size + 1)]) 23).alloc (n := wr.heap.size + 1 + 1 + 1 + 1) (by simp) (zeroL 4 (.slice (some ⟨wr.heap.size + 1 + 1 + 1, 0, none⟩) 2 2)) 44).drew
              have htr := lay_two (from_le (w := wr) (by omega)) (from_le (w := wr) (by omega)) (zero_node (st.get 0 rfl)) ((st.get 1 rfl).cell 0) (lay_leaf (from_le (w := wr) (by omega)) (zero_node (st.get 2 rfl))) ((st.get 1 rfl).cell 1) (lay_leaf (from_le (w := wr) (by omega)) (st.get 3 rfl))
              go_meet
              case rel => exact ⟨_, _, _, _, Lib.hid (M1.out.trans (by simp [noneX] : _ = q1)), Lib.hid (M2.out.trans (by simp : _ = true)), Lib.hid (M3.out.trans (by simp : _ = true)), rfl, rfl, rfl, rfl, (by rw [kid4]; exact htr), st.below⟩
          by_cases h5 : x = 5
          · subst h5
            have hb1 : (ad.add i).block < wr.heap.size + 1 := by omega
            have hb2 : (ad.add i).block < wr.heap.size + 1 + 1 := by omega
            have hb3 : (ad.add i).block < wr.heap.size + 1 + 1 + 1 := by omega
            have hb4 : (ad.add i).block < wr.heap.size + 1 + 1 + 1 + 1 := by omega
            have hb5 : (ad.add i).block < wr.heap.size + 1 + 1 + 1 + 1 + 1 := by omega
            cases q2 <;> cases q3 <;> (go_wp2_with fail; go_region)
            · as_aux_lemma =>
              go_wp2_with fail
              have st := ((((((St.nil wr).alloc (n := wr.heap.size) (by simp) (zeroL 0 (.slice none 0 0)) 44).alloc (n := wr.heap.size + 1) (by simp) (zeroL 1 (.slice none 0 0)) 44).alloc (n := wr.heap.size + 1 + 1) (by simp) (nodeL 1 s 0 0 false (.slice none 0 0) 0 0) 44).alloc (n := wr.heap.size + 1 + 1 + 1) (by simp) ([ptrV (wr.heap.size + 1), ptrV (wr.heap.size + 1 + 1)]) 23).alloc (n := wr.heap.size + 1 + 1 + 1 + 1) (by simp) (zeroL 5 (.slice (some ⟨wr.heap.size + 1 + 1 + 1, 0, none⟩) 2 2)) 44).drew
              have htr := lay_two (from_le (w := wr) (by omega)) (from_le (w := wr) (by omega)) (zero_node (st.get 0 rfl)) ((st.get 1 rfl).cell 0) (lay_leaf (from_le (w := wr) (by omega)) (zero_node (st.get 3 rfl))) ((st.get 1 rfl).cell 1) (lay_leaf (from_le (w := wr) (by omega)) (st.get 2 rfl))
              go_meet
              case rel => exact ⟨_, _, _, _, Lib.hid (M1.out.trans (by simp [noneX] : _ = q1)), Lib.hid (M2.out.trans (by simp : _ = false)), Lib.hid (M3.out.trans (by simp : _ = true)), rfl, rfl, rfl, rfl, (by rw [kid5]; exact htr), st.below⟩
            · as_aux_lemma =>
              go_wp2_with fail
              have st := ((((((St.nil wr).alloc (n := wr.heap.size) (by simp) (zeroL 0 (.slice none 0 0)) 44).alloc (n := wr.heap.size + 1) (by simp) (nodeL 1 s 0 0 false (.slice none 0 0) 0 0) 44).alloc (n := wr.heap.size + 1 + 1) (by simp) (zeroL 1 (.slice none 0 0)) 44).alloc (n := wr.heap.size + 1 + 1 + 1) (by simp) ([ptrV (wr.heap.size + 1 + 1), ptrV (wr.heap.size + 1)]) 23).alloc (n := wr.heap.size + 1 + 1 + 1 + 1) (by simp) (zeroL 5 (.slice (some ⟨wr.heap.size + 1 + 1 + 1, 0, none⟩) 2 2)) 44).drew
              have htr := lay_two (from_le (w := wr) (by omega)) (from_le (w := wr) (by omega)) (zero_node (st.get 0 rfl)) ((st.get 1 rfl).cell 0) (lay_leaf (from_le (w := wr) (by omega)) (zero_node (st.get 2 rfl))) ((st.get 1 rfl).cell 1) (lay_leaf (from_le (w := wr) (by omega)) (st.get 3 rfl))
              go_meet
              case rel => exact ⟨_, _, _, _, Lib.hid (M1.out.trans (by simp [noneX] : _ = q1)), Lib.hid (M2.out.trans (by simp : _ = false)), Lib.hid (M3.out.trans (by simp : _ = true)), rfl, rfl, rfl, rfl, (by rw [kid5]; exact htr), st.below⟩
            · as_aux_lemma =>
              go_wp2_with fail
              have st := ((((((St.nil wr).alloc (n := wr.heap.size) (by simp) (zeroL 0 (.slice none 0 0)) 44).alloc (n := wr.heap.size + 1) (by simp) (zeroL 1 (.slice none 0 0)) 44).alloc (n := wr.heap.size + 1 + 1) (by simp) (nodeL 1 s 0 0 false (.slice none 0 0) 0 0) 44).alloc (n := wr.heap.size + 1 + 1 + 1) (by simp) ([ptrV (wr.heap.size + 1), ptrV (wr.heap.size + 1 + 1)]) 23).alloc (n := wr.heap.size + 1 + 1 + 1 + 1) (by simp) (zeroL 5 (.slice (some ⟨wr.heap.size + 1 + 1 + 1, 0, none⟩) 2 2)) 44).drew
              have htr := lay_two (from_le (w := wr) (by omega)) (from_le (w := wr) (by omega)) (zero_node (st.get 0 rfl)) ((st.get 1 rfl).cell 0) (lay_leaf (from_le (w := wr) (by omega)) (zero_node (st.get 3 rfl))) ((st.get 1 rfl).cell 1) (lay_leaf (from_le (w := wr) (by omega)) (st.get 2 rfl))
              go_meet
              case rel => exact ⟨_, _, _, _, Lib.hid (M1.out.trans (by simp [noneX] : _ = q1)), Lib.hid (M2.out.trans (by simp : _ = false)), Lib.hid (M3.out.trans (by simp : _ = true)), rfl, rfl, rfl, rfl, (by rw [kid5]; exact htr), st.below⟩
            · as_aux_lemma =>
              go_wp2_with fail
              have st := ((((((St.nil wr).alloc (n := wr.heap.size) (by simp) (zeroL 0 (.slice none 0 0)) 44).alloc (n := wr.heap.size + 1) (by simp) (nodeL 1 s 0 0 false (.slice none 0 0) 0 0) 44).alloc (n := wr.heap.size + 1 + 1) (by simp) (zeroL 1 (.slice none 0 0)) 44).alloc (n := wr.heap.size + 1 + 1 + 1) (by simp) ([ptrV (wr.heap.size + 1 + 1), ptrV (wr.heap.size + 1)]) 23).alloc (n := wr.heap.size + 1 + 1 + 1 + 1) (by simp) (zeroL 5 (.slice (some ⟨wr.heap.size + 1 + 1 + 1, 0, none⟩) 2 2)) 44).drew
              have htr := lay_two (from_le (w := wr) (by omega)) (from_le (w := wr) (by omega)) (zero_node (st.get 0 rfl)) ((st.get 1 rfl).cell 0) (lay_leaf (from_le (w := wr) (by omega)) (zero_node (st.get 2 rfl))) ((st.get 1 rfl).cell 1) (lay_leaf (from_le (w := wr) (by omega)) (st.get 3 rfl))
              go_meet
              case rel => exact ⟨_, _, _, _, Lib.hid (M1.out.trans (by simp [noneX] : _ = q1)), Lib.hid (M2.out.trans (by simp : _ = false)), Lib.hid (M3.out.trans (by simp : _ = true)), rfl, rfl, rfl, rfl, (by rw [kid5]; exact htr), st.below⟩
            · as_aux_lemma =>
              go_wp2_with fail
              have st := ((((((St.nil wr).alloc (n := wr.heap.size) (by simp) (zeroL 0 (.slice none 0 0)) 44).alloc (n := wr.heap.size + 1) (by simp) (zeroL 1 (.slice none 0 0)) 44).alloc (n := wr.heap.size + 1 + 1) (by simp) (nodeL 1 s 0 0 false (.slice none 0 0) 0 0) 44).alloc (n := wr.heap.size + 1 + 1 + 1) (by simp) ([ptrV (wr.heap.size + 1), ptrV (wr.heap.size + 1 + 1)]) 23).alloc (n := wr.heap.size + 1 + 1 + 1 + 1) (by simp) (zeroL 5 (.slice (some ⟨wr.heap.size + 1 + 1 + 1, 0, none⟩) 2 2)) 44).drew
              have htr := lay_two (from_le (w := wr) (by omega)) (from_le (w := wr) (by omega)) (zero_node (st.get 0 rfl)) ((st.get 1 rfl).cell 0) (lay_leaf (from_le (w := wr) (by omega)) (zero_node (st.get 3 rfl))) ((st.get 1 rfl).cell 1) (lay_leaf (from_le (w := wr) (by omega)) (st.get 2 rfl))
              go_meet
              case rel => exact ⟨_, _, _, _, Lib.hid (M1.out.trans (by simp [noneX] : _ = q1)), Lib.hid (M2.out.trans (by simp : _ = true)), Lib.hid (M3.out.trans (by simp : _ = true)), rfl, rfl, rfl, rfl, (by rw [kid5]; exact htr), st.below⟩
            · as_aux_lemma =>
              go_wp2_with fail
              have st := ((((((St.nil wr).alloc (n := wr.heap.size) (by simp) (zeroL 0 (.slice none 0 0)) 44).alloc (n := wr.heap.size + 1) (by simp) (nodeL 1 s 0 0 false (.slice none 0 0) 0 0) 44).alloc (n := wr.heap.size + 1 + 1) (by simp) (zeroL 1 (.slice none 0 0)) 44).alloc (n := wr.heap.size + 1 + 1 + 1) (by simp) ([ptrV (wr.heap.size + 1 + 1), ptrV (wr.heap.size + 1)]) 23).alloc (n := wr.heap.size + 1 + 1 + 1 + 1) (by simp) (zeroL 5 (.slice (some ⟨wr.heap.size + 1 + 1 + 1, 0, none⟩) 2 2)) 44).drew
              have htr := lay_two (from_le (w := wr) (by omega)) (from_le (w := wr) (by omega)) (zero_node (st.get 0 rfl)) ((st.get 1 rfl).cell 0) (lay_leaf (from_le (w := wr) (by omega)) (zero_node (st.get 2 rfl))) ((st.get 1 rfl).cell 1) (lay_leaf (from_le (w := wr) (by omega)) (st.get 3 rfl))
              go_meet
              case rel => exact ⟨_, _, _, _, Lib.hid (M1.out.trans (by simp [noneX] : _ = q1)), Lib.hid (M2.out.trans (by simp : _ = true)), Lib.hid (M3.out.trans (by simp : _ = true)), rfl, rfl, rfl, rfl, (by rw [kid5]; exact htr), st.below⟩
            · as_aux_lemma =>
              go_wp2_with fail
              have st := ((((((St.nil wr).alloc (n := wr.heap.size) (by simp) (zeroL 0 (.slice none 0 0)) 44).alloc (n := wr.heap.size + 1) (by simp) (zeroL 1 (.slice none 0 0)) 44).alloc (n := wr.heap.size + 1 + 1) (by simp) (nodeL 1 s 0 0 false (.slice none 0 0) 0 0) 44).alloc (n := wr.heap.size + 1 + 1 + 1) (by simp) ([ptrV (wr.heap.size + 1), ptrV (wr.heap.size + 1 + 1)]) 23).alloc (n := wr.heap.size + 1 + 1 + 1 + 1) (by simp) (zeroL 5 (.slice (some ⟨wr.heap.size + 1 + 1 + 1, 0, none⟩) 2 2)) 44).drew
              have htr := lay_two (from_le (w := wr) (by omega)) (from_le (w := wr) (by omega)) (zero_node (st.get 0 rfl)) ((st.get 1 rfl).cell 0) (lay_leaf (from_le (w := wr) (by omega)) (zero_node (st.get 3 rfl))) ((st.get 1 rfl).cell 1) (lay_leaf (from_le (w := wr) (by omega)) (st.get 2 rfl))
              go_meet
              case rel => exact ⟨_, _, _, _, Lib.hid (M1.out.trans (by simp [noneX] : _ = q1)), Lib.hid (M2.out.trans (by simp : _ = true)), Lib.hid (M3.out.trans (by simp : _ = true)), rfl, rfl, rfl, rfl, (by rw [kid5]; exact htr), st.below⟩
            · as_aux_lemma =>
              go_wp2_with fail
              have st := ((((((St.nil wr).alloc (n := wr.heap.size) (by simp) (zeroL 0 (.slice none 0 0)) 44).alloc (n := wr.heap.size + 1) (by simp) (nodeL 1 s 0 0 false (.slice none 0 0) 0 0) 44).alloc (n := wr.heap.size + 1 + 1) (by simp) (zeroL 1 (.slice none 0 0)) 44).alloc (n := wr.heap.size + 1 + 1 + 1) (by simp) ([ptrV (wr.heap.size + 1 + 1), ptrV (wr.heap.size + 1)]) 23).alloc (n := wr.heap.size + 1 + 1 + 1 + 1) (by simp) (zeroL 5 (.slice (some ⟨wr.heap.size + 1 + 1 + 1, 0, none⟩) 2 2)) 44).drew
              have htr := lay_two (from_le (w := wr) (by omega)) (from_le (w := wr) (by omega)) (zero_node (st.get 0 rfl)) ((st.get 1 rfl).cell 0) (lay_leaf (from_le (w := wr) (by omega)) (zero_node (st.get 2 rfl))) ((st.get 1 rfl).cell 1) (lay_leaf (from_le (w := wr) (by omega)) (st.get 3 rfl))
              go_meet
              case rel => exact ⟨_, _, _, _, Lib.hid (M1.out.trans (by simp [noneX] : _ = q1)), Lib.hid (M2.out.trans (by simp : _ = true)), Lib.hid (M3.out.trans (by simp : _ = true)), rfl, rfl, rfl, rfl, (by rw [kid5]; exact htr), st.below⟩
          have e1 : (x == 1) = false := by rw [beq_eq_false_iff_ne]; exact h1
          have e2 : (x == 2) = false := by rw [beq_eq_false_iff_ne]; exact h2
          have e3 : (x == 3) = false := by rw [beq_eq_false_iff_ne]; exact h3
          have e4 : (x == 4) = false := by rw [beq_eq_false_iff_ne]; exact h4
          have e5 : (x == 5) = false := by rw [beq_eq_false_iff_ne]; exact h5
          have hnx : noneX x = true := by
            unfold noneX
            rw [Bool.not_eq_true', Bool.and_eq_false_iff, decide_eq_false_iff_not, decide_eq_false_iff_not]
            omega
          have HE := Lib.hid (show kidT s x = emptyT 0 by unfold kidT; rw [if_neg h1, if_neg (by omega), if_neg (by omega)])
          have HN1 := Lib.hid (M1.out.trans (by rw [hnx, Bool.or_true] : _ = true))
          have HN2' := Lib.hid (M2.out.trans (by rw [e4, Bool.or_false] : _ = q2))
          have HN3 := Lib.hid (M3.out.trans (by rw [e5, Bool.or_false] : _ = q3))
          clear M1 M2 M3 hnx
          go_wp2_with fail
          have st := (St.nil wr).alloc (n := wr.heap.size) (by simp) (zeroL 0 (.slice none 0 0)) 44
          have htr := lay_leaf (from_le (w := wr) (Nat.le_refl _)) (zero_node (st.get 0 rfl))
          go_meet
          case rel => exact ⟨_, _, _, _, HN1, HN2', HN3, rfl, rfl, rfl, rfl, (by rw [HE.out]; exact htr), st.below⟩
        case rest => as_aux_lemma =>
          obtain ⟨b3, n1, n2, n3, N1, N2, N3, rfl, rfl, rfl, rfl, htr, hbW⟩ := hcut
          obtain ⟨bs, r1, r2, r3⟩ := HRW.out.below hbW
          have hn3 := HN.out.below hbW hnlt
          have HR3 := Lib.hid r3
          have HR2 := Lib.hid r2
          have HTR := Lib.hid htr
          have HBW := Lib.hid hbW
          have hsz3 := hbW.size
          have n8 : wc.cell? ⟨w.heap.size + 1, 8, none⟩ = some lv := hn3.cell 8
          have nf8 := hn3.frozen 8
          have HN3 := Lib.hid hn3
          have h20 : kl.length ≤ 20 := by rw [M5.out]; omega
          have hn3l := hn3.lt
          clear r2 r3 htr hbW hn3 cx s0 s1 s2 s3 M1 M2 M3
          go_wp2_with (at_builtin; refine append_far rfl (.tmp 96) (.tmp 98) 41 rfl w2.heap.size 23 1 8 elem_node _ _ _ rfl HR2.out [.pointer (some ⟨b3, 0, none⟩)] rfl rfl (one_ptr _) ?h1 ?h2 ?h3 ?h4; (case h1 => omega); (case h2 => omega); (case h3 => omega); intro g5 cap5 w5 hown5 hmv; have hn5 : Blk w5 (w.heap.size + 1) 44 (nodeL k s lo hi lazy lv 0 0) := (hmv.keep _ hn3l (fun e => by have := (HR2.out.lt _ e).1; omega)).trans HN3.out; have m8 : w5.cell? ⟨w.heap.size + 1, 8, none⟩ = some lv := hn5.cell 8; have mf8 := hn5.frozen 8; have HO5 := Lib.hid hown5; have HM := Lib.hid hmv; have HN5 := Lib.hid hn5; clear hown5 hmv hn5)
          have hrow5 := RowT.snoc (w0 := w2) (w1 := wr) r1 HR3.out HRW.out.own hw2 HTR.out HO5.out HM.out
          have hb5 := HM.out.below (HB.out.trans (HBW.out.mono (by omega))) (by omega) (fun k hk => by have := (HR2.out.lt k hk).1; omega)
          have hg6 := only_setCell (only_refl w5 (w.heap.size + 1)) 8 (.slice (some ⟨g5, 0, none⟩) (kl.length + 1) cap5)
          have hs5 : Blk w5 w.heap.size 29 _ := (HM.out.keep _ (by omega) (fun e => by have := (HR2.out.lt _ e).1; omega)).trans (HS.out.below HBW.out hslt)
          have HX := Lib.hid (And.intro hrow5 (And.intro hb5 (And.intro hg6 hs5)))
          have hw5 := HM.out.size
          clear hrow5 hb5 hg6 hs5 m8 mf8 n8 nf8
          go_roundw
          case rel =>
            refine ⟨i + 1, by omega, by go_num, by go_num, congrArg Value.bool N1.out.symm, congrArg Value.bool N2.out.symm, congrArg Value.bool N3.out.symm, HX.out.2.1.setCell (p := ⟨w.heap.size + 1, 8, none⟩) (by simp) _, by simp [World.setCell]; omega, _, HN5.out.set 8 _, by rw [M4.out]; exact HX.out.1.turn HX.out.2.2.1 hn2l, HX.out.2.2.2.far (p := ⟨w.heap.size + 1, 8, none⟩) (by simp) _, .inr ⟨g5, cap5, by rw [M5.out]⟩⟩
          case measure => simp [intOf]; omega
      · obtain rfl : i = l.length := by omega
        rw [List.take_length] at *
        have htree := root_tree hn hrow (by rcases hlv with ⟨h1, h2⟩ | h; exact .inl ⟨h1, by rw [List.eq_nil_of_length_eq_zero h2]; rfl⟩; exact .inr (by rw [List.length_map]; exact h)) (by rw [List.length_map]; omega)
        have HRT := right_at htree (by simp only [RngT]; exact ⟨hlo, hhi, kids_rng l s, kids_rngL l s⟩) (root_deep k lo hi lazy l s)
        rw [show Tree.mk k s lo hi lazy (l.map (kidT s)) 0 0 = rootT k lo hi lazy l s from rfl, root_fit] at HRT
        have HR := Lib.hid HRT
        have HAW := Lib.hid (tab_far HT.out hb (tab_lt HT.out))
        have HB := Lib.hid hb
        clear HRT htree hb hrow hlv hlt HS2 HN2 HB2
        obtain ⟨z, hz⟩ : ∃ z, eqB s (fun _ => false) = z := ⟨_, rfl⟩
        have HZ := Lib.hid hz
        rw [hz] at HR
        clear hz
        obtain ⟨q, hq⟩ : ∃ q, wantB k lo hi lazy l z = q := ⟨_, rfl⟩
        have HQ := Lib.hid hq
        rw [hq] at HR
        clear hq
        obtain ⟨a1, ha1⟩ : ∃ a1, (k == 1 || z) = a1 := ⟨_, rfl⟩
        have HA1 := Lib.hid ha1
        clear ha1
        obtain ⟨a2, ha2⟩ : ∃ a2, (a1 && (k == 6 || (lo == 0 && hi == 0 && !lazy))) = a2 := ⟨_, rfl⟩
        have HA2 := Lib.hid ha2
        clear ha2
        have s0 : wr.cell? ⟨w.heap.size, 0, none⟩ = some (.int .u64 (word s 0)) := hs.cell 0
        have s1 : wr.cell? ⟨w.heap.size, 1, none⟩ = some (.int .u64 (word s 1)) := hs.cell 1
        have s2 : wr.cell? ⟨w.heap.size, 2, none⟩ = some (.int .u64 (word s 2)) := hs.cell 2
        have s3 : wr.cell? ⟨w.heap.size, 3, none⟩ = some (.int .u64 (word s 3)) := hs.cell 3
        have hslt := hs.lt
        obtain ⟨q1, hq1⟩ : ∃ q1, l.any noneX = q1 := ⟨_, rfl⟩
        obtain ⟨q2, hq2⟩ : ∃ q2, l.any (· == 4) = q2 := ⟨_, rfl⟩
        obtain ⟨q3, hq3⟩ : ∃ q3, l.any (· == 5) = q3 := ⟨_, rfl⟩
        rw [hq1, hq2, hq3]
        have HW := Lib.hid (show q = (a2 && (if k = 0 ∨ k = 1 then (l.length : Int) == 0
   else if k = 2 ∨ k = 3 then (l.length : Int) == 1
   else if k = 4 then decide ((1 : Int) < l.length) && !q1 && !q2 && !q3
   else if k = 5 then decide ((1 : Int) < l.length) && !q3
   else if k = 6 then (l.length : Int) == 1 && !q1 && !q2 && !q3 && decide (0 ≤ lo) && decide (lo ≤ 1000) && (hi == -1 || (decide (lo ≤ hi) && decide (hi ≤ 1000)))
   else false)) by
          rw [← HQ.out, ← HA2.out, ← HA1.out, ← hq1, ← hq2, ← hq3]
          rfl)
        clear hs hn hq1 hq2 hq3
        go_upto_region 24 with fail
        go_cut [20] (fun v wx => v = .bool a1 ∧ wr = wx)
        case first => as_aux_lemma =>
          cases hk1 : (k == 1) with
          | true =>
            go_wp2_with fail
            go_meet
            case rel => exact ⟨by rw [← HA1.out, hk1]; rfl, rfl⟩
          | false =>
            go_wp2_with fail
            go_meet
            case rel => exact ⟨by rw [← HA1.out, hk1, ← HZ.out]; rfl, rfl⟩
        case rest =>
          obtain ⟨rfl, rfl⟩ := hcut
          go_upto_if 112 with fail
          go_cut [20] (fun v wx => v = .bool a2 ∧ wr = wx)
          case first => as_aux_lemma =>
            cases hk6 : (k == 6) with
            | true =>
              have hk6' : (k != 6) = false := by simp [bne, hk6]
              go_wp2_with fail
              go_meet
              case rel => exact ⟨by rw [← HA2.out, hk6]; simp, rfl⟩
            | false =>
              have hk6' : (k != 6) = true := by simp [bne, hk6]
              have HK6 := Lib.hid hk6
              cases a1 <;> cases hlo0 : (lo == 0) <;> cases hhi0 : (hi == 0) <;> cases lazy <;> (
                go_wp2_with fail
                go_meet
                case rel => exact ⟨by rw [← HA2.out, HK6.out]; first | rfl | (rw [hlo0]; first | rfl | (rw [hhi0]; rfl)), rfl⟩)
          case rest =>
            obtain ⟨rfl, rfl⟩ := hcut
            go_upto_block 3 with fail
            go_cut [1, 2, 14, 15, 16, 17, 18, 20] (fun _ _ _ _ _ _ _ v wx => v = .bool q ∧ wr = wx)
            case first =>
              have hk8 : k = 0 ∨ k = 1 ∨ k = 2 ∨ k = 3 ∨ k = 4 ∨ k = 5 ∨ k = 6 ∨ (k ≠ 0 ∧ k ≠ 1 ∧ k ≠ 2 ∧ k ≠ 3 ∧ k ≠ 4 ∧ k ≠ 5 ∧ k ≠ 6) := by omega
              clear HA1 HA2 HQ HZ hk
              rcases hk8 with rfl | rfl | rfl | rfl | rfl | rfl | rfl | hk8
              · as_aux_lemma =>
                cases a2 <;> (go_wp2_with fail; go_meet; (case rel => exact ⟨by rw [HW.out]; simp, rfl⟩))
              · as_aux_lemma =>
                cases a2 <;> (go_wp2_with fail; go_meet; (case rel => exact ⟨by rw [HW.out]; simp, rfl⟩))
              · as_aux_lemma =>
                cases a2 <;> (go_wp2_with fail; go_meet; (case rel => exact ⟨by rw [HW.out]; simp, rfl⟩))
              · as_aux_lemma =>
                cases a2 <;> (go_wp2_with fail; go_meet; (case rel => exact ⟨by rw [HW.out]; simp, rfl⟩))
              · as_aux_lemma =>
                cases a2 <;> (go_wp2_with fail; all_goals (go_meet; (case rel => exact ⟨by rw [HW.out]; first | (simp; done) | (simp [*]; done) | (simp [*]; omega), rfl⟩)))
              · as_aux_lemma =>
                cases a2 <;> (go_wp2_with fail; all_goals (go_meet; (case rel => exact ⟨by rw [HW.out]; first | (simp; done) | (simp [*]; done) | (simp [*]; omega), rfl⟩)))
              · as_aux_lemma =>
                cases a2 <;> (go_wp2_with fail; all_goals (go_meet; (case rel => exact ⟨by rw [HW.out]; first | (simp; done) | (simp [*]; done) | (simp [*]; omega), rfl⟩)))
              · obtain ⟨n0, n1, n2, n3, n4, n5, n6⟩ := hk8
                have e0 : (k == 0) = false := by rw [beq_eq_false_iff_ne]; exact n0
                have e1 : (k == 1) = false := by rw [beq_eq_false_iff_ne]; exact n1
                have e2 : (k == 2) = false := by rw [beq_eq_false_iff_ne]; exact n2
                have e3 : (k == 3) = false := by rw [beq_eq_false_iff_ne]; exact n3
                have e4 : (k == 4) = false := by rw [beq_eq_false_iff_ne]; exact n4
                have e5 : (k == 5) = false := by rw [beq_eq_false_iff_ne]; exact n5
                have e6 : (k == 6) = false := by rw [beq_eq_false_iff_ne]; exact n6
                have HQF := Lib.hid (show q = false by rw [HW.out]; simp [n0, n1, n2, n3, n4, n5, n6])
                go_wp2_with fail
                go_meet
                case rel => exact ⟨by rw [HQF.out], rfl⟩
            case rest =>
              as_aux_lemma =>
              obtain ⟨rfl, rfl⟩ := hcut
              go_wp2_with fail
              refine HR.out.mono ?_
              rintro v w9 ⟨rfl, hb9⟩
              have hb10 := HB.out.trans (hb9.mono HB.out.size)
              have HA9 := Lib.hid (tab_far HAW.out hb9 (tab_lt HAW.out))
              clear hb9
              go_wp2_with fail
              refine (awake06_at _ HA9.out).mono ?_
              rintro v w10 ⟨rfl, hb11⟩
              go_wp2
              go_returns
              exact ⟨rfl, hb10.trans (hb11.mono hb10.size)⟩
end Go.Proofs.YtckoebfmoggeoaaDoor
