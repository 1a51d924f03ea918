/- bytes.Ranges. -/
import Derived.Test.YtpiimcbbgalhfaaGreatDoorBw
import Derived.Deep.AppendLies
import Derived.Test.YtpiimcbbgalhfaaGreatDoorBz
namespace Go.Proofs.YtpiimcbbgalhfaaGreatDoor
set_option maxRecDepth 100000
open Go.RowKit
theorem listM_rise (m : Nat → Bool) (n : Nat) : ∀ i j : Nat, i < j → ∀ x y : Int, (listM m n)[i]? = some x → (listM m n)[j]? = some y → x < y := by
  have h : (listM m n).Pairwise (· < ·) := by
    unfold listM
    rw [List.pairwise_map]
    exact (List.pairwise_lt_range.filter _).imp fun h => by omega
  rw [List.pairwise_iff_getElem] at h
  intro i j hij x y hx hy
  obtain ⟨hi, rfl⟩ := List.getElem?_eq_some_iff.1 hx
  obtain ⟨hj, rfl⟩ := List.getElem?_eq_some_iff.1 hy
  exact h i j hi hj hij
set_option maxRecDepth 100000 in
set_option maxHeartbeats 1000000 in
theorem ranges_any (m : Nat → Bool) (w : World) :
    Calls Tryz.prog 128 #[setV m] w fun e w' => ∃ v, e = .returned v ∧ w'.ownsRow w.heap.size 221 2 v (runsM (listM m 256)).length (pairsC (runsM (listM m 256))) ∧ Below w.heap.size w w' := by
  unfold setV
  go_enter Tryz.func128, Tryz.ntmps128
  go_wp2_with fail
  refine (list_any m _).mono ?_
  rintro e w1 ⟨v, rfl, hown, hb⟩
  have hle := listM_length m 256
  have hrd := own_cells hown
  have hbw : Below w.heap.size w w1 := Below.trans (by go_grown) (hb.mono (by simp))
  have hall : ∀ b ∈ listM m 256, 0 ≤ b ∧ b < 256 := fun b hb => by have := (mem_listM m 256 b).1 hb; omega
  have hok := runs_ok (listM m 256)
  have hrise := listM_rise m 256
  clear hown hb
  generalize hL : listM m 256 = l at *
  have HL := Lib.hid hL
  clear hL
  obtain ⟨A, c, rfl, h1, h3⟩ := hrd
  have H3 := Lib.hid h3
  have HA := Lib.hid hall
  have HO := Lib.hid hok
  have HR := Lib.hid hrise
  clear h3 hall hok hrise
  go_wp2
  go_loopw [3, 10] (fun v i wr => ∃ k : Nat, k ≤ l.length ∧ i = .int .i64 k ∧ Below w1.heap.size w1 wr ∧ wr.ownsRow w1.heap.size 221 2 v (runsM (l.take k)).length (pairsC (runsM (l.take k)))) (fun _ i _ => l.length - (intOf i).toNat)
  case atStart =>
    refine ⟨0, Nat.zero_le _, rfl, Below.refl _ _, ?_⟩
    rw [List.take_zero]
    exact World.ownsRow_nil _ _ _ _
  case round =>
    obtain ⟨k, hk, rfl, hbl, hown⟩ := hrel
    by_cases hlt : k < l.length
    · obtain ⟨ad, rfl, hlo, had, hc⟩ := H3.out k l[k] (List.getElem?_eq_getElem hlt)
      have hx := HA.out l[k] (List.getElem_mem hlt)
      have hcr : wr.cell? (ad.add k) = some (.int .u8 l[k]) := (hbl.cell (p := ad.add k) (by rw [add_block]; exact had)).trans hc
      have hsn := List.take_succ_eq_append_getElem hlt
      have hrk := HO.out k HR.out hk
      have hrs := runsM_snoc (l.take k) l[k]
      rw [← hsn] at hrs
      have hin : ∀ x ∈ l.take k, 0 ≤ x ∧ x < 256 := fun x hx => HA.out x (List.mem_of_mem_take hx)
      have hlen : (l.take k).length ≤ 256 := by rw [List.length_take]; omega
      clear hc hsn
      generalize hbx : l[k] = b at *
      clear hbx
      generalize runsM (l.take k) = out at *
      have HE := Lib.hid hrs
      clear hrs
      generalize l.take k = lk at *
      have hsz := hbl.size
      rcases List.eq_nil_or_concat out with rfl | ⟨L, ⟨lo, hi⟩, rfl⟩
      · obtain ⟨A', c', rfl⟩ := own_formP hown
        have Hn := Lib.hid hown
        simp only [List.length_nil] at *
        clear hown
        go_wp2_with (at_builtin; refine append_one rfl (.tmp 36) (.tmp 40) 219 rfl w1.heap.size 221 2 2 elem_pair _ _ _ rfl Hn.out [.int .u8 b, .int .u8 b] rfl rfl (two_int _ _ _) ?h1 ?h2 ?h3 ?h4; (case h1 => omega); (case h2 => omega); (case h3 => omega); intro v2 w2 hown2 hb2)
        go_roundw
        case rel =>
          refine ⟨k + 1, by omega, by go_num, hbl.trans hb2, ?_⟩
          rw [HE.out, runStep_nil]
          exact hown2
        case measure => simp [intOf]; omega
      · rw [List.concat_eq_append] at *
        have hlohi : lo ≤ hi := hrk.le (lo, hi) (by simp)
        have hlo2 := hin lo ((hrk.has lo).1 ⟨(lo, hi), by simp, Int.le_refl _, hlohi⟩)
        have hhi2 := hin hi ((hrk.has hi).1 ⟨(lo, hi), by simp, hlohi, Int.le_refl _⟩)
        have hshort := hrk.short
        rw [List.length_append, List.length_singleton] at hown hshort
        obtain ⟨g, cap, rfl, hg, hgl⟩ := hown.form (by omega)
        have hcell := (own_pair hown L.length (lo, hi) (by simp)).2
        have hfro := hown.frozenAt (L.length * 2 + 1)
        simp only [] at hcell
        by_cases hnext : hi + 1 = b
        · have HN := Lib.hid hnext
          have Hn := Lib.hid hown
          clear hown
          go_wp2
          go_roundw
          case rel =>
            refine ⟨k + 1, by omega, by go_num, hbl.setCell (p := ⟨g, L.length * 2 + 1, none⟩) hg _, ?_⟩
            rw [HE.out, runStep_more L lo hi b HN.out, List.length_append, List.length_singleton, pairs_put L lo hi b]
            exact (Hn.out.stored _ _).1
          case measure => simp [intOf]; omega
        · have HN := Lib.hid hnext
          have Hn := Lib.hid hown
          clear hown
          go_wp2_with (at_builtin; refine append_one rfl (.tmp 36) (.tmp 40) 219 rfl w1.heap.size 221 2 2 elem_pair _ _ _ rfl Hn.out [.int .u8 b, .int .u8 b] rfl rfl (two_int _ _ _) ?q1 ?q2 ?q3 ?q4; (case q1 => omega); (case q2 => omega); (case q3 => omega); intro v2 w2 hown2 hb2)
          go_roundw
          case rel =>
            refine ⟨k + 1, by omega, by go_num, hbl.trans hb2, ?_⟩
            rw [HE.out, runStep_new L lo hi b HN.out, List.length_append, List.length_append, List.length_singleton, List.length_singleton, pairsC_append (L ++ [(lo, hi)])]
            exact hown2
          case measure => simp [intOf]; omega
    · obtain rfl : k = l.length := by omega
      rw [List.take_length] at hown
      go_wp2
      go_returns
      rw [HL.out]
      exact ⟨_, rfl, own_base hown (by have := hbw.size; omega), hbw.trans (hbl.mono hbw.size)⟩
end Go.Proofs.YtpiimcbbgalhfaaGreatDoor
/- printer.class, of any set. -/
namespace Go.Proofs.YtpiimcbbgalhfaaGreatDoor
set_option maxRecDepth 100000
open Go.RowKit
theorem row_kept {w w' : World} {B b n size : Nat} {e e' : TypeId} {v : Value} {xs : List Value} (h : w.ownsRow B e' size v n xs) (hk : Lib.OthersKept e (some b) w w') (hb : b < B) (he : e' ≠ e) : w'.ownsRow B e' size v n xs := by
  obtain ⟨h1, h2⟩ := h
  refine ⟨h1, ?_⟩
  rcases h2 with h2 | ⟨g, cap, cur, hv, hbg, hg, r⟩
  · exact .inl h2
  · exact .inr ⟨g, cap, cur, hv, hbg, hk g _ hg (by intro e; cases e; omega) (fun c fz e => by cases e; exact he rfl), r⟩
theorem blk_kept {w w' : World} {b k : Nat} {e e' : TypeId} {cs : List Value} (h : Blk w k e' cs) (hk : Lib.OthersKept e (some b) w w') (hb : k ≠ b) (he : e' ≠ e) : Blk w' k e' cs :=
  hk k _ h (by intro e; cases e; exact hb rfl) (fun c fz e => by cases e; exact he rfl)
abbrev Tb : TypeId := 128
abbrev BsAt (b : Nat) (l : List UInt8) (w : World) : Prop := BldAt Tb b b l w
theorem bstr_at {b : Nat} {l : List UInt8} {w : World} (s : ByteArray) (h : BsAt b l w) (hlen : l.length + s.size ≤ 140737488355328) :
    Calls Tryz.prog 108 #[.pointer (some ⟨b, 0, none⟩), .string s] w fun v w' => (∃ u, v = .returned u) ∧ BsAt b (l ++ toL s) w' ∧ Below b w w' ∧ Lib.OthersKept 5 (some b) w w' := by
  refine (writeString_at bld_T (by decide) b b (Lib.byteCells l) s w h (by rw [Lib.byteCells_length]; exact hlen) (Nat.le_of_lt (bld_lt h))).mono ?_
  rintro v w' ⟨rfl, h1, h2, h3⟩
  refine ⟨⟨_, rfl⟩, .inr ?_, h2, h3⟩
  rw [Lib.byteCells_append, ← Lib.strCells_eq]
  exact h1
theorem bbyte_at {b : Nat} {l : List UInt8} {w : World} (c : UInt8) (h : BsAt b l w) (hlen : l.length + 1 ≤ 140737488355328) :
    Calls Tryz.prog 127 #[.pointer (some ⟨b, 0, none⟩), .int .u8 ((c.toNat : Nat) : Int)] w fun v w' => (∃ u, v = .returned u) ∧ BsAt b (l ++ [c]) w' ∧ Below b w w' ∧ Lib.OthersKept 5 (some b) w w' := by
  refine (writeByte_at bld_T (by decide) b b (Lib.byteCells l) _ w h (by rw [Lib.byteCells_length]; exact hlen) (Nat.le_of_lt (bld_lt h))).mono ?_
  rintro v w' ⟨rfl, h1, h2, h3⟩
  refine ⟨⟨_, rfl⟩, .inr ?_, h2, h3⟩
  rw [Lib.byteCells_append]
  exact h1
theorem byteS_size (b : Nat) : (byteS b).size ≤ 4 := by
  unfold byteS
  split
  · simp only [ByteArray.size, List.size_toArray, List.length_cons, List.length_nil]; omega
  · split <;> (simp only [ByteArray.size, List.size_toArray, List.length_cons, List.length_nil]; omega)
theorem pairS_size (p : Int × Int) : (toL (pairS p)).length ≤ 9 := by
  have h1 := byteS_size p.1.toNat
  have h2 := byteS_size p.2.toNat
  have h3 : dashB.size = 1 := rfl
  simp only [toL, Array.length_toList]
  show (pairS p).size ≤ 9
  unfold pairS
  rw [ByteArray.size_append]
  split
  · have : ({ data := #[] } : ByteArray).size = 0 := rfl
    omega
  · rw [ByteArray.size_append]
    omega
def classA (R : List (Int × Int)) : List UInt8 := [91] ++ R.flatMap fun p => (pairS p).data.toList
theorem classA_snoc (R : List (Int × Int)) (p : Int × Int) : classA (R ++ [p]) = classA R ++ toL (byteS p.1.toNat) ++ (if p.1 = p.2 then [] else toL (dashB ++ byteS p.2.toNat)) := by
  simp only [classA, List.flatMap_append, List.flatMap_cons, List.flatMap_nil, List.append_nil, pairS, ← List.append_assoc]
  rw [ByteArray.data_append, Array.toList_append, ← List.append_assoc]
  split <;> rfl
theorem classA_len (R : List (Int × Int)) : (classA R).length ≤ 1 + 9 * R.length := by
  induction R with
  | nil => simp [classA]
  | cons p R ih =>
    simp only [classA, List.flatMap_cons, List.length_append, List.length_cons, List.length_nil] at ih ⊢
    have := pairS_size p
    simp only [toL] at this
    omega
theorem runs_in (m : Nat → Bool) : (runsM (listM m 256)).length ≤ 256 ∧ ∀ p ∈ runsM (listM m 256), ∃ a b : Nat, p = ((a : Int), (b : Int)) ∧ a < 256 ∧ b < 256 := by
  have hok := runs_ok (listM m 256) (listM m 256).length (listM_rise m 256) (Nat.le_refl _)
  rw [List.take_length] at hok
  refine ⟨Nat.le_trans hok.short (listM_length m 256), fun p hp => ?_⟩
  have hle := hok.le p hp
  have h1 := (mem_listM m 256 p.1).1 ((hok.has p.1).1 ⟨p, hp, Int.le_refl _, hle⟩)
  have h2 := (mem_listM m 256 p.2).1 ((hok.has p.2).1 ⟨p, hp, hle, Int.le_refl _⟩)
  exact ⟨p.1.toNat, p.2.toNat, by rw [Int.toNat_of_nonneg h1.1, Int.toNat_of_nonneg h2.1], by omega, by omega⟩
theorem dash_len (l : List UInt8) (X Y : ByteArray) {k : Nat} (h1 : l.length ≤ 1 + 9 * k) (hk : k ≤ 256) (hX : X.size ≤ 4) (hY : Y.size ≤ 4) : (l ++ toL X).length + (({ data := #[45] } : ByteArray) ++ Y).size ≤ 140737488355328 := by
  have e1 : (toL X).length = X.size := Array.length_toList
  have e2 : ({ data := #[45] } : ByteArray).size = 1 := rfl
  rw [List.length_append, ByteArray.size_append, e1, e2]
  omega
theorem last_len (l : List UInt8) {k : Nat} (h1 : l.length ≤ 1 + 9 * k) (hk : k ≤ 256) (c : UInt8) : (l ++ [c]).length ≤ 140737488355328 ∧ l.length + 1 ≤ 140737488355328 := by
  rw [List.length_append, List.length_singleton]
  omega
set_option maxHeartbeats 2000000 in
theorem pclass_at (m : Nat → Bool) : ClassOk m := by
  intro w
  have HV := Lib.hid (show classS m = ⟨(classA (runsM (listM m 256)) ++ [93]).toArray⟩ from rfl)
  obtain ⟨hn, hin⟩ := runs_in m
  have HIN := Lib.hid hin
  have HRG := Lib.hid (ranges_any m)
  have HCL := Lib.hid (fun i => classA_len ((runsM (listM m 256)).take i))
  have HSN := Lib.hid (fun i (h : i < (runsM (listM m 256)).length) => (congrArg classA (List.take_succ_eq_append_getElem h)).trans (classA_snoc _ _))
  have HTL := Lib.hid (show (runsM (listM m 256)).take (runsM (listM m 256)).length = _ from List.take_length)
  have HBK := Lib.hid (Blk.new w (setL m) 24)
  have HBX := Lib.hid ((Below.refl w.heap.size w).alloc (Nat.le_refl _) (.cells (setL m).toArray 24))
  have HNW := Lib.hid (show BsAt (w.heap.size + 1) [] ((w.alloc (.cells (setL m).toArray 24)).alloc (.cells #[.pointer none, .slice none 0 0] 128)) from .inl ⟨Nat.le_refl _, _, blk_new2 w [.pointer none, .slice none 0 0] _ _, ⟨rfl, .inl ⟨rfl, rfl⟩⟩, fun h => nomatch h⟩)
  generalize runsM (listM m 256) = R at *
  clear hin
  unfold setV
  go_enter Tryz.func73, Tryz.ntmps73
  go_wp2_with fail
  refine (bbyte_at 91 HNW.out (by simp)).mono ?_
  rintro v w1 ⟨⟨u, rfl⟩, hb1, hlo1, hk1⟩
  have hs1 := bld_lt hb1
  have hk := (HBK.out.alloc (.cells #[.pointer none, .slice none 0 0] 128)).below hlo1 (by omega)
  obtain ⟨k0, k1, k2, k3, -, -, -, -⟩ := hk.four
  have HB1 := Lib.hid hb1
  have HW1 := Lib.hid ((HBX.out.alloc HBX.out.size (.cells #[.pointer none, .slice none 0 0] 128)).trans (hlo1.mono (Nat.le_succ _)))
  clear hb1 hlo1 hk1 hk
  go_wp2_with fail
  refine (HRG.out w1).mono ?_
  rintro v w2 ⟨A, rfl, hrow, hb2⟩
  have HB2 := Lib.hid (bld_under HB1.out hb2)
  have HW2 := Lib.hid (HW1.out.trans (hb2.mono (by omega)))
  obtain ⟨A, c, rfl⟩ := own_formP hrow
  have hs2 := bld_lt HB2.out
  have HROW := Lib.hid hrow
  have hs12 := hb2.size
  clear hrow hb2 k0 k1 k2 k3
  go_wp2_with fail
  go_loopw [10] (fun iv wr => ∃ i : Nat, i ≤ R.length ∧ iv = .int .i64 ((i : Nat) : Int) ∧ BsAt (w.heap.size + 1) (classA (R.take i)) wr ∧ Below w.heap.size w wr ∧ w1.heap.size ≤ wr.heap.size ∧ wr.ownsRow w1.heap.size 221 2 (.slice A R.length c) R.length (pairsC R)) (fun iv _ => R.length - (intOf iv).toNat)
  case atStart => exact ⟨0, Nat.zero_le _, rfl, by rw [List.take_zero]; exact HB2.out, HW2.out, hs12, HROW.out⟩
  case round =>
    obtain ⟨i, hi, rfl, hbl, hbw, hsz, hown⟩ := hrel
    have HB := Lib.hid hbl
    have HW := Lib.hid hbw
    have HO := Lib.hid hown
    clear hbl hbw
    by_cases hlt : i < R.length
    · obtain ⟨g, cap, he, hg, hgl⟩ := hown.form (by omega)
      cases he
      obtain ⟨a, b, hab, ha, hb⟩ := HIN.out R[i] (List.getElem_mem hlt)
      have hi2 : R[i]? = some ((a : Int), (b : Int)) := by rw [List.getElem?_eq_getElem hlt, hab]
      obtain ⟨c0, c1⟩ := own_pair hown i _ hi2
      have HSI := Lib.hid (HSN.out i hlt)
      rw [hab] at HSI
      clear hown hab hi2
      go_wp2_with fail
      refine (byte_at a ha _).mono ?_
      rintro v w3 ⟨rfl, hb3⟩
      have hs3 := hb3.size
      have hsz1 : (wr.alloc (.cells #[.int .u8 ((a : Nat) : Int), .int .u8 ((b : Nat) : Int)] 221)).heap.size = wr.heap.size + 1 := by simp
      rw [hsz1] at hs3 hb3
      have HK3 := Lib.hid ((Blk.new wr [.int .u8 ((a : Nat) : Int), .int .u8 ((b : Nat) : Int)] 221).below hb3 (by simp))
      have hb3' : Below wr.heap.size wr w3 := ((Below.refl wr.heap.size wr).alloc (Nat.le_refl _) _).trans (hb3.mono (by simp))
      have HB3 := Lib.hid (bld_under HB.out hb3')
      have HW3 := Lib.hid (HW.out.trans (hb3'.mono (by have := HW.out.size; omega)))
      have HO3 := Lib.hid (own_below HO.out hb3')
      have HL := Lib.hid (HCL.out i)
      have hti : (R.take i).length ≤ 256 := by rw [List.length_take]; omega
      have hba := byteS_size a
      clear hb3 hb3' c0 c1
      simp only [Int.toNat_natCast] at HSI
      generalize byteS a = X at *
      go_wp2_with fail
      refine (bstr_at X HB3.out (by have := HL.out; omega)).mono ?_
      rintro v w4 ⟨⟨u4, rfl⟩, hb4, hlo4, hk4⟩
      have hwl := HW.out.size
      have hs4 := bld_lt hb4
      have HB4 := Lib.hid hb4
      have HW4 := Lib.hid (HW3.out.trans (hlo4.mono (by omega)))
      have HO4 := Lib.hid (row_kept HO3.out hk4 hs1 (by decide))
      have hk := blk_kept HK3.out hk4 (by omega) (by decide)
      have d0 := hk.cell 0
      have d1 := hk.cell 1
      simp only [List.getElem?_cons_zero, List.getElem?_cons_succ] at d0 d1
      have hs34 := hlo4.size
      clear hb4 hlo4 hk4 hk
      by_cases hab : a = b
      · subst hab
        go_wp2
        go_roundw
        case rel =>
          refine ⟨i + 1, hlt, by go_num, ?_, HW4.out, ?_, HO4.out⟩
          · rw [HSI.out]
            simp only [if_true, List.append_nil]
            exact HB4.out
          · omega
        case measure => simp [intOf]; omega
      · have hq : (((a : Nat) : Int) == ((b : Nat) : Int)) = false := by rw [beq_eq_false_iff_ne]; omega
        have hbb := byteS_size b
        have HBB := Lib.hid (byte_at b hb)
        have HSJ := Lib.hid (HSI.out.trans (by rw [if_neg (by omega : ¬ ((a : Int) = (b : Int)))]))
        clear HSI
        generalize byteS b = Y at *
        go_wp2_with fail
        refine (HBB.out w4).mono ?_
        rintro v w5 ⟨rfl, hb5⟩
        have n1 : ¬9223372036854775807 < 1 + Y.size := by omega
        have n2 : ¬9223372036854775807 < Y.size + 1 := by omega
        have hs5 := hb5.size
        have HB5 := Lib.hid (bld_under HB4.out hb5)
        have HW5 := Lib.hid (HW4.out.trans (hb5.mono HW4.out.size))
        have HO5 := Lib.hid (own_below HO4.out hb5)
        clear hb5 d0 d1
        go_wp2_with fail
        have HD := dash_len (classA (R.take i)) X Y (k := (R.take i).length) HL.out hti hba hbb
        have HC := bstr_at (b := w.heap.size + 1) (l := classA (R.take i) ++ toL X) (w := w5) ({ data := #[45] } ++ Y) HB5.out HD
        refine HC.mono ?_
        rintro v w6 ⟨⟨u6, rfl⟩, hb6, hlo6, hk6⟩
        have HW6 := Lib.hid (HW5.out.trans (hlo6.mono (by omega)))
        have HO6 := Lib.hid (row_kept HO5.out hk6 hs1 (by decide))
        have HB6 := Lib.hid hb6
        have hs6 := hlo6.size
        clear hb6 hlo6 hk6
        go_wp2
        go_roundw
        case rel =>
          refine ⟨i + 1, hlt, by go_num, ?_, HW6.out, by omega, HO6.out⟩
          rw [HSJ.out]
          exact HB6.out
        case measure => simp [intOf]; omega
    · obtain rfl : i = R.length := by omega
      have HB7 := Lib.hid (HTL.out ▸ HB.out)
      have HL := Lib.hid (HTL.out ▸ HCL.out R.length)
      have hwl := HW.out.size
      clear HB hown
      go_wp2_with fail
      refine (bbyte_at 93 HB7.out (last_len _ HL.out hn 93).2).mono ?_
      rintro v w6 ⟨⟨u6, rfl⟩, hb6, hlo6, -⟩
      have HW6 := Lib.hid (HW.out.trans (hlo6.mono (by omega)))
      have hs6 := bld_lt hb6
      have HB8 := Lib.hid hb6
      clear hb6 hlo6
      go_wp2_with fail
      refine (string_at (w.heap.size + 1) (w.heap.size + 1) _ _ HB8.out (Nat.le_of_lt hs6) (last_len _ HL.out hn 93).1).mono ?_
      rintro v w7 ⟨rfl, hb7⟩
      go_wp2
      go_returns
      exact ⟨by rw [HV.out]; rfl, HW6.out.trans (hb7.mono (by omega))⟩
theorem set_any (m : Nat → Bool) : SetOk m := fun w hT => pset_at (fun _ _ => pclass_at m) w hT
end Go.Proofs.YtpiimcbbgalhfaaGreatDoor
