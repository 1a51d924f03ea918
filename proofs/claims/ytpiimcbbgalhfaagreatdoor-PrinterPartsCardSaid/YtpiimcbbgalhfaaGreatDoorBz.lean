/- printer: node, join. -/
import Derived.Test.YtpiimcbbgalhfaaGreatDoorBy
import Derived.Test.YtpiimcbbgalhfaaGreatDoorBq
import Derived.Lib.LaidTab
import Derived.Lib.ItoaNum
import Derived.Test.YtpiimcbbgalhfaaGreatDoorBs
import Derived.Deep.RegionLaw
import Derived.BigRegion
import Derived.Test.YtpiimcbbgalhfaaGreatDoorBu
namespace Go.Proofs.YtpiimcbbgalhfaaGreatDoor
set_option maxRecDepth 100000
open Go.RowKit
theorem rowF_under {w w' : World} {B n : Nat} {e : TypeId} {size : Nat} {v : Value} {xs : List Value} (h : w.ownsRowF B e size v n xs) (hb : Below w.heap.size w w') : w'.ownsRowF B e size v n xs := by
  obtain ⟨h1, h2⟩ := h
  refine ⟨h1, ?_⟩
  rcases h2 with h2 | ⟨g, cap, cur, fz, hv, hbg, hg, r⟩
  · exact .inl h2
  · exact .inr ⟨g, cap, cur, fz, hv, hbg, (hb.block g (Array.getElem?_eq_some_iff.1 hg).1).trans hg, r⟩
theorem bld_under {w w' : World} {T e : TypeId} {B b : Nat} {bs : List Value} (h : Lib.IsBuilderF T e B b bs w) (hb : Below w.heap.size w w') : Lib.IsBuilderF T e B b bs w' := by
  have hat : ∀ p, Lib.BuilderAtF T e B b p bs w → Lib.BuilderAtF T e B b p bs w' := fun p ⟨hB, v, hbk, hown, hne⟩ => ⟨hB, v, (hb.block b (Array.getElem?_eq_some_iff.1 hbk).1).trans hbk, rowF_under hown hb, hne⟩
  rcases h with h | h
  · exact .inl (hat _ h)
  · exact .inr (hat _ h)
theorem bld_lt {w : World} {T e : TypeId} {B b : Nat} {bs : List Value} (h : Lib.IsBuilderF T e B b bs w) : b < w.heap.size := by
  rcases h with h | h
  · exact h.lt
  · exact h.lt
abbrev Tw : TypeId := 130
abbrev WrAt (b : Nat) (l : List UInt8) (w : World) : Prop := BldAt Tw b b l w
theorem wstr_at {b : Nat} {l : List UInt8} {w : World} (s : ByteArray) (h : WrAt b l w) (hlen : l.length + s.size ≤ 140737488355328) :
    Calls Tryz.prog 108 #[.pointer (some ⟨b, 0, none⟩), .string s] w fun v w' => (∃ u, v = .returned u) ∧ WrAt b (l ++ toL s) w' ∧ Below b w w' := by
  refine (writeString_at bld_W (by decide) b b (Lib.byteCells l) s w h (by rw [Lib.byteCells_length]; exact hlen) (Nat.le_of_lt (bld_lt h))).mono ?_
  rintro v w' ⟨rfl, h1, h2, -⟩
  refine ⟨⟨_, rfl⟩, .inr ?_, h2⟩
  rw [Lib.byteCells_append, ← Lib.strCells_eq]
  exact h1
/-- The tables that printing reads. -/
structure TabP (w : World) : Prop where
  tab : TabOk w
  pow : Lib.TabIs Tryz.prog w "internal/strconv.uint64pow10" .u64 Lib.pow10Tab
theorem pow_named : Tryz.prog.globalNamed "internal/strconv.uint64pow10" = some 2 := by kernel_rfl
theorem TabP.below {w w' : World} (h : TabP w) (hb : Below w.heap.size w w') : TabP w' := ⟨h.tab.below hb, by
  have h2 := h.pow
  unfold Lib.TabIs World.var? at h2 ⊢
  rw [pow_named, Option.bind_some] at h2 ⊢
  have hlt : 2 < w.heap.size := by
    rcases Nat.lt_or_ge 2 w.heap.size with hl | hl
    · exact hl
    · rw [Array.getElem?_eq_none hl] at h2
      cases h2
  rw [hb.block _ hlt]
  exact h2⟩
def CntOk (lo hi : Int) (z : Bool) : Prop := ∀ w : World, TabP w → Calls Tryz.prog 17 #[.int .i64 lo, .int .i64 hi, .bool z] w fun v w' => v = .returned (.string (countS lo hi z)) ∧ Below w.heap.size w w'
mutual
def PrOk : Tree → Prop
  | .mk k set lo hi z kids _ _ => (k = 1 → SetOk set ∧ (setS set).size ≤ 2900) ∧ (k = 6 → CntOk lo hi z ∧ (countS lo hi z).size ≤ 2900) ∧ PrOkL kids
def PrOkL : List Tree → Prop
  | [] => True
  | n :: l => PrOk n ∧ PrOkL l
end
theorem PrOkL.mem {l : List Tree} (h : PrOkL l) {n : Tree} (hn : n ∈ l) : PrOk n := by
  induction l with
  | nil => cases hn
  | cons m l ih =>
    rcases List.mem_cons.1 hn with rfl | hn
    · exact h.1
    · exact ih h.2 hn
/-- What printing a node leaves: the writer lies in block w.heap.size, behind all that stood in w. -/
def NodeOk (w : World) (n : Tree) (g : Nat) : Prop := ∀ (W : World) (l : Acc), Below w.heap.size w W → WrAt w.heap.size l W → l.length + 3000 * sizeT n ≤ 70368744177664 →
  Calls Tryz.prog 88 #[ptrV w.heap.size, ptrV g] W fun v W' => (∃ u, v = .returned u) ∧ WrAt w.heap.size (nodeP n l) W' ∧ (nodeP n l).length + 1 ≤ l.length + 3000 * sizeT n ∧ Below w.heap.size W W'
theorem sizeL_low (l : List Tree) (k : Nat) : sizeL (l.take k) ≤ sizeL l := by
  induction l generalizing k with
  | nil => simp
  | cons n l ih =>
    cases k with
    | zero => simp [sizeL]
    | succ k => simp only [List.take_succ_cons, sizeL]; have := ih k; omega
theorem sizeT_pos (n : Tree) : 1 ≤ sizeT n := by
  cases n
  simp only [sizeT]
  omega
set_option maxHeartbeats 8000000 in
theorem join_at {w : World} {kids : List Tree} {A : Option Addr} {ga c : Nat} (sep : ByteArray) (hsep : sep.size ≤ 1) (hlen : kids.length ≤ 1048577)
    (HI : ∀ (i : Nat) (hi : i < kids.length), ∃ g, A = some ⟨ga, 0, none⟩ ∧ w.cell? ⟨ga, i, none⟩ = some (ptrV g) ∧ NodeOk w kids[i] g) (W : World) (l : Acc) (hW : Below w.heap.size w W) (hl : WrAt w.heap.size l W) (hbd : l.length + 3000 * sizeL kids ≤ 70368744177664) :
    Calls Tryz.prog 138 #[ptrV w.heap.size, .slice A kids.length c, .string sep] W fun v W' => (∃ u, v = .returned u) ∧ WrAt w.heap.size (joinF (toL sep) (kidsP kids) l) W' ∧ (joinF (toL sep) (kidsP kids) l).length ≤ l.length + 3000 * sizeL kids ∧ Below w.heap.size W W' := by
  have HH := Lib.hid HI
  have HWW := Lib.hid hW
  have HJ := Lib.hid (show ∀ i (hi : i < kids.length), joinF (toL sep) (kidsP (kids.take (i + 1))) l = nodeP kids[i] (if i = 0 then joinF (toL sep) (kidsP (kids.take i)) l else joinF (toL sep) (kidsP (kids.take i)) l ++ toL sep) from fun i hi => by
    rw [List.take_succ_eq_append_getElem hi, kidsP_map, kidsP_map, List.map_append]
    by_cases h0 : i = 0
    · subst h0
      simp only [List.take_zero, List.map_nil, List.nil_append, List.map_cons, if_true]
      rfl
    · rw [if_neg h0]
      exact joinF_snoc _ _ _ _ (fun e => by
        have := congrArg List.length e
        rw [List.length_map, List.length_take, List.length_nil] at this
        omega))
  have HJE := Lib.hid (show joinF (toL sep) (kidsP (kids.take kids.length)) l = joinF (toL sep) (kidsP kids) l by rw [List.take_length])
  have HSZ := Lib.hid (show ∀ i (hi : i < kids.length), sizeL (kids.take (i + 1)) = sizeL (kids.take i) + sizeT kids[i] from fun i hi => sizeL_take hi)
  have HSL := Lib.hid (show ∀ i, sizeL (kids.take i) ≤ sizeL kids from fun i => sizeL_low kids i)
  have HSE := Lib.hid (show sizeL (kids.take kids.length) = sizeL kids by rw [List.take_length])
  have HW0 := Lib.hid hl
  have hwl := bld_lt hl
  clear HI hW hl
  go_enter Tryz.func138, Tryz.ntmps138
  go_wp2_with fail
  go_loopw [10] (fun iv wr => ∃ i : Nat, i ≤ kids.length ∧ iv = .int .i64 ((i : Nat) : Int) ∧ WrAt w.heap.size (joinF (toL sep) (kidsP (kids.take i)) l) wr ∧ ((i = 0 → (joinF (toL sep) (kidsP (kids.take i)) l).length ≤ l.length) ∧ (0 < i → (joinF (toL sep) (kidsP (kids.take i)) l).length + 1 ≤ l.length + 3000 * sizeL (kids.take i))) ∧ Below w.heap.size W wr) (fun iv _ => kids.length - (intOf iv).toNat)
  case atStart => exact ⟨0, Nat.zero_le _, rfl, by rw [List.take_zero]; exact HW0.out, ⟨fun _ => by rw [List.take_zero]; simp [kidsP, joinF], fun h => absurd h (Nat.lt_irrefl 0)⟩, Below.refl _ _⟩
  case round =>
    obtain ⟨i, hi, rfl, hwr, hln, hbr⟩ := hrel
    have HWR := Lib.hid hwr
    have HLN := Lib.hid hln
    have hbw := HWW.out.trans hbr
    have hwl2 := bld_lt hwr
    clear hwr hln
    by_cases hlt : i < kids.length
    · obtain ⟨g, rfl, cg, hok⟩ := HH.out i hlt
      have cg2 : wr.cell? ⟨ga, i, none⟩ = some (ptrV g) := (hbw.cell (p := ⟨ga, i, none⟩) (cell_lt0 cg)).trans cg
      have hgl := cell_lt0 cg2
      have HOK := Lib.hid hok
      have HJi := Lib.hid (HJ.out i hlt)
      have HSi := Lib.hid (HSZ.out i hlt)
      have HS2 := Lib.hid (HSL.out (i + 1))
      clear hok cg
      by_cases h0 : i = 0
      · have HJ0 := Lib.hid (HJi.out.trans (by rw [if_pos h0]))
        subst h0
        clear HJi
        simp only [Nat.zero_add] at HSi HS2
        have hln0 := HLN.out.1 rfl
        go_wp2_with fail
        refine (HOK.out wr _ hbw HWR.out (by have := HSi.out; have := HS2.out; omega)).mono ?_
        rintro v w2 ⟨⟨u, rfl⟩, h2, hln2, hb2⟩
        have HR := Lib.hid h2
        have HLR := Lib.hid hln2
        clear h2 hln2
        go_wp2
        go_roundw
        case rel => exact ⟨1, hlt, by go_num, by rw [HJ0.out]; exact HR.out, ⟨fun h => absurd h (by omega), fun _ => by rw [HJ0.out]; have := HLR.out; have := HSi.out; omega⟩, hbr.trans hb2⟩
        case measure => simp [intOf]; omega
      · have HJ0 := Lib.hid (HJi.out.trans (by rw [if_neg h0]))
        have hln0 := HLN.out.2 (by omega)
        have hq : (0 : Int) < ((i : Nat) : Int) := by omega
        have HST := Lib.hid (wstr_at sep HWR.out (by have := HSi.out; have := HS2.out; omega))
        clear HJi
        go_wp2_with fail
        refine HST.out.mono ?_
        rintro v w2 ⟨⟨u, rfl⟩, h2, hb2⟩
        have cg3 : w2.cell? ⟨ga, i, none⟩ = some (ptrV g) := by
          have hgl0 : ga < w.heap.size := by
            rcases Nat.lt_or_ge ga w.heap.size with h | h
            · exact h
            · have := HH.out i hlt
              obtain ⟨g', -, cg', -⟩ := this
              exact cell_lt0 cg'
          exact (hb2.cell (p := ⟨ga, i, none⟩) hgl0).trans cg2
        have HCALL := Lib.hid (HOK.out w2 _ (hbw.trans hb2) h2 (by have := HSi.out; have := HS2.out; simp only [List.length_append]; have hsl : (toL sep).length = sep.size := (by simp); omega))
        clear h2
        go_wp2_with fail
        refine HCALL.out.mono ?_
        rintro v w3 ⟨⟨u3, rfl⟩, h3, hln3, hb3⟩
        have HR := Lib.hid h3
        have HLR := Lib.hid hln3
        clear h3 hln3
        go_wp2
        go_roundw
        case rel => exact ⟨i + 1, hlt, by go_num, by rw [HJ0.out]; exact HR.out, ⟨fun h => absurd h (by omega), fun _ => by rw [HJ0.out]; have h1 := HLR.out; have h2 := HSi.out; rw [List.length_append] at h1; have h4 : (toL sep).length = sep.size := (by simp); omega⟩, (hbr.trans hb2).trans hb3⟩
        case measure => simp [intOf]; omega
    · obtain rfl : i = kids.length := by omega
      have HR := Lib.hid HWR.out
      have hend : (joinF (toL sep) (kidsP (kids.take kids.length)) l).length ≤ l.length + 3000 * sizeL (kids.take kids.length) := by
        by_cases h0 : kids.length = 0
        · have := HLN.out.1 h0; omega
        · have := HLN.out.2 (by omega); omega
      rw [HJE.out] at HR hend
      rw [HSE.out] at hend
      go_wp2
      go_end0
      exact ⟨⟨_, rfl⟩, HR.out, hend, hbr⟩
theorem kids_le (l : List Tree) : l.length ≤ sizeL l := by
  induction l with
  | nil => simp [sizeL]
  | cons n l ih => simp only [List.length_cons, sizeL]; have := sizeT_pos n; omega
set_option maxHeartbeats 16000000 in
theorem node_at {w : World} {S : Nat → Prop} {n : Tree} {b : Nat} (h : TreeAt w S n b) (hT : TabP w) (hf : fitT n = true) (hok : PrOk n) : NodeOk w n b := by
  induction h with
  | @mk k set lo mx z kids f t b ga c A bs hSb hb hl hm hA hc hk ih =>
    intro W l hW hwr hbd
    have HB := Lib.hid (hb.below hW hb.lt)
    have hbw := bld_lt hwr
    have hTW := hT.below hW
    have hkl : kids.length ≤ sizeL kids := kids_le kids
    simp only [sizeT] at hbd
    have HV := Lib.hid (show nodeP (.mk k set lo mx z kids f t) l = nodeK k set lo mx z (kidsP kids) l by simp only [nodeP])
    have HLEN := Lib.hid (show sizeT (.mk k set lo mx z kids f t) = 1 + sizeL kids by simp only [sizeT])
    generalize sizeT (.mk k set lo mx z kids f t) = sz at *
    generalize nodeP (.mk k set lo mx z kids f t) l = res at *
    have HONE := Lib.hid (fun hk => fit_one hf hk : (k = 2 ∨ k = 3 ∨ k = 6) → kids.length = 1)
    have hfk := fit_kids hf
    have HI := Lib.hid (show ∀ (i : Nat) (hi : i < kids.length), ∃ g, A = some ⟨ga, 0, none⟩ ∧ w.cell? ⟨ga, i, none⟩ = some (ptrV g) ∧ NodeOk w kids[i] g from fun i hi => by
      have hne : kids ≠ [] := by intro e; rw [e] at hi; exact absurd hi (Nat.not_lt_zero _)
      have hib : i < bs.length := by omega
      exact ⟨bs[i], (hA hne).1, hc i _ (List.getElem?_eq_getElem hib), ih i _ _ (List.getElem?_eq_getElem hi) (List.getElem?_eq_getElem hib) ((fitL_iff kids).1 hfk _ (List.getElem_mem hi)) (hok.2.2.mem (List.getElem_mem hi))⟩)
    have HOK1 := Lib.hid hok.1
    have HOK6 := Lib.hid hok.2.1
    have HWW := Lib.hid hW
    have HWL := Lib.hid hwr
    have HTW := Lib.hid hTW
    have HT0 := Lib.hid hT
    have HLENAT := Lib.hid (len_at (T := Tw) w.heap.size w.heap.size (Lib.byteCells l) W hwr)
    rw [Lib.byteCells_length] at HLENAT
    have c0 : W.cell? ⟨b, 0, none⟩ = some (.int .i64 k) := HB.out.cell 0
    have hlt := HB.out.lt
    have hblt := hb.lt
    clear hb hl hA hc hk ih hf hfk hok hW hwr hTW
    by_cases hbig : 1048576 < l.length
    · have hq : decide ((1048576 : Int) < ((l.length : Nat) : Int)) = true := decide_eq_true (by omega)
      have HR := Lib.hid (show res = l by rw [HV.out]; unfold nodeK; rw [if_pos hbig])
      go_enter Tryz.func88, Tryz.ntmps88
      go_wp2_with fail
      refine HLENAT.out.mono ?_
      rintro v w1 ⟨rfl, rfl⟩
      go_wp2
      go_returns
      exact ⟨⟨_, rfl⟩, by rw [HR.out]; exact HWL.out, by rw [HR.out]; have := HLEN.out; omega, Below.refl _ _⟩
    have hq : decide ((1048576 : Int) < ((l.length : Nat) : Int)) = false := decide_eq_false (by omega)
    have hqn : ¬((1048576 : Int) < ((l.length : Nat) : Int)) := by omega
    have HNB := Lib.hid hbig
    by_cases h1 : k = 1
    · subst h1
      obtain ⟨hset, hss⟩ := HOK1.out rfl
      have HR := Lib.hid (show res = l ++ toL (setS set) by rw [HV.out]; unfold nodeK; rw [if_neg HNB.out, if_pos rfl])
      have hsl : (toL (setS set)).length = (setS set).size := by simp
      have e1 : W.cell? ⟨b, 1, none⟩ = some (.int .u64 (word set 0)) := HB.out.cell 1
      have e2 : W.cell? ⟨b, 2, none⟩ = some (.int .u64 (word set 1)) := HB.out.cell 2
      have e3 : W.cell? ⟨b, 3, none⟩ = some (.int .u64 (word set 2)) := HB.out.cell 3
      have e4 : W.cell? ⟨b, 4, none⟩ = some (.int .u64 (word set 3)) := HB.out.cell 4
      have HSET := Lib.hid (hset W.drew (HTW.out.below (Below.refl _ W).drew).tab)
      have hln : l.length + (setS set).size ≤ 140737488355328 := by omega
      go_enter Tryz.func88, Tryz.ntmps88
      go_wp2_with fail
      refine HLENAT.out.mono ?_
      rintro v w1 ⟨rfl, rfl⟩
      rename World => W
      go_wp2_with fail
      go_region_law (first
        | (go_simp; go_at_call 11; refine HSET.out.mono ?_; rintro v w2 ⟨rfl, hb2⟩; have HB2 := Lib.hid ((Below.refl W.heap.size W).drew.trans hb2); have hW2 := Lib.hid (bld_under HWL.out HB2.out); have hbw2 := bld_lt hW2.out; clear hb2)
        | (go_simp; go_at_call 108; refine (wstr_at (setS set) hW2.out hln).mono ?_; rintro v w3 ⟨⟨u, rfl⟩, h3, hb3⟩; have HW3 := Lib.hid h3; have HB3 := Lib.hid ((HB2.out.mono (Nat.le_of_lt hbw)).trans hb3); clear h3 hb3))
      all_goals
        go_wp2
        go_end0
        exact ⟨⟨_, rfl⟩, by rw [HR.out]; exact HW3.out, by rw [HR.out, List.length_append]; have := HLEN.out; omega, HB3.out⟩
    have q1 : (k == 1) = false := by rw [beq_eq_false_iff_ne]; exact h1
    by_cases h2 : k = 2
    · subst h2
      obtain ⟨n1, rfl⟩ : ∃ n, kids = [n] := List.length_eq_one_iff.1 (HONE.out (by omega))
      obtain ⟨g1, rfl, cg, hok1⟩ := HI.out 0 (by simp)
      have HOKN := Lib.hid (show NodeOk w n1 g1 from hok1)
      clear hok1
      have hs1 : sizeL [n1] = sizeT n1 := by simp only [sizeL]; omega
      rw [hs1] at hbd HLEN
      have cgl := cell_lt0 cg
      have HR := Lib.hid (show res = nodeP n1 (l ++ [40]) ++ [41] by rw [HV.out]; unfold nodeK; rw [if_neg HNB.out, if_neg (by omega), if_pos rfl]; simp only [kidsP, headF])
      have HST1 := Lib.hid (wstr_at { data := #[40] } HWL.out (by show l.length + 1 ≤ _; omega))
      go_enter Tryz.func88, Tryz.ntmps88
      go_wp2_with fail
      refine HLENAT.out.mono ?_
      rintro v w1 ⟨rfl, rfl⟩
      rename World => W
      go_wp2_with fail
      refine HST1.out.mono ?_
      rintro v w2 ⟨⟨u2, rfl⟩, h2, hb2⟩
      have HW2 := Lib.hid h2
      have HB2 := Lib.hid (HWW.out.trans hb2)
      have hbw2 := bld_lt h2
      have d0 : w2.cell? ⟨b, 0, none⟩ = some (.int .i64 2) := (hb2.cell (p := ⟨b, 0, none⟩) hblt).trans c0
      have d8 : w2.cell? ⟨b, 8, none⟩ = some (.slice (some ⟨ga, 0, none⟩) 1 c) := (hb2.cell (p := ⟨b, 8, none⟩) hblt).trans (HB.out.cell 8)
      have d1 : w2.cell? ⟨ga, 0, none⟩ = some (ptrV g1) := (HB2.out.cell (p := ⟨ga, 0, none⟩) cgl).trans cg
      have hlt2 := cell_lt0 d0
      have hgl2 := cell_lt0 d1
      have HBB := Lib.hid hb2
      clear h2 hb2 c0
      have HNODE := Lib.hid (HOKN.out w2 (l ++ [40]) HB2.out HW2.out (by rw [List.length_append]; show l.length + 1 + _ ≤ _; omega))
      go_wp2_with fail
      refine HNODE.out.mono ?_
      rintro v w4 ⟨⟨u4, rfl⟩, h4, hl4, hb4⟩
      have HW4 := Lib.hid h4
      have HL4 := Lib.hid hl4
      have hbw4 := bld_lt h4
      have HB4 := Lib.hid (HBB.out.trans hb4)
      clear h4 hl4 hb4
      have hl4' : (nodeP n1 (l ++ [40])).length + 1 ≤ 140737488355328 := by
        have := HL4.out
        simp only [List.length_append, List.length_cons, List.length_nil] at this
        omega
      have HST4 := Lib.hid (wstr_at { data := #[41] } HW4.out hl4')
      go_wp2_with fail
      refine HST4.out.mono ?_
      rintro v w5 ⟨⟨u5, rfl⟩, h5, hb5⟩
      have HW5 := Lib.hid h5
      have HB5 := Lib.hid (HB4.out.trans hb5)
      clear h5 hb5
      go_wp2
      go_end0
      exact ⟨⟨_, rfl⟩, by rw [HR.out]; exact HW5.out, by
        rw [HR.out]
        have := HL4.out
        have := HLEN.out
        simp only [List.length_append, List.length_cons, List.length_nil] at *
        omega, HB5.out⟩
    have q2 : (k == 2) = false := by rw [beq_eq_false_iff_ne]; exact h2
    by_cases h3 : k = 3
    · subst h3
      obtain ⟨n1, rfl⟩ : ∃ n, kids = [n] := List.length_eq_one_iff.1 (HONE.out (by omega))
      obtain ⟨g1, rfl, cg, hok1⟩ := HI.out 0 (by simp)
      have HOKN := Lib.hid (show NodeOk w n1 g1 from hok1)
      clear hok1
      have hs1 : sizeL [n1] = sizeT n1 := by simp only [sizeL]; omega
      rw [hs1] at hbd HLEN
      have cgl := cell_lt0 cg
      have HR := Lib.hid (show res = nodeP n1 (l ++ [40] ++ [63, 58]) ++ [41] by rw [HV.out]; unfold nodeK; rw [if_neg HNB.out, if_neg (by omega), if_neg (by omega), if_pos rfl]; simp only [kidsP, headF])
      have HST1 := Lib.hid (wstr_at { data := #[40] } HWL.out (by show l.length + 1 ≤ _; omega))
      go_enter Tryz.func88, Tryz.ntmps88
      go_wp2_with fail
      refine HLENAT.out.mono ?_
      rintro v w1 ⟨rfl, rfl⟩
      rename World => W
      go_wp2_with fail
      refine HST1.out.mono ?_
      rintro v w2 ⟨⟨u2, rfl⟩, h2, hb2⟩
      have HW2 := Lib.hid h2
      have HB2 := Lib.hid (HWW.out.trans hb2)
      have hbw2 := bld_lt h2
      have d0 : w2.cell? ⟨b, 0, none⟩ = some (.int .i64 3) := (hb2.cell (p := ⟨b, 0, none⟩) hblt).trans c0
      have d8 : w2.cell? ⟨b, 8, none⟩ = some (.slice (some ⟨ga, 0, none⟩) 1 c) := (hb2.cell (p := ⟨b, 8, none⟩) hblt).trans (HB.out.cell 8)
      have d1 : w2.cell? ⟨ga, 0, none⟩ = some (ptrV g1) := (HB2.out.cell (p := ⟨ga, 0, none⟩) cgl).trans cg
      have hlt2 := cell_lt0 d0
      have hgl2 := cell_lt0 d1
      have HBB := Lib.hid hb2
      clear h2 hb2 c0
      have HST2 := Lib.hid (wstr_at { data := #[63, 58] } HW2.out (by show (l ++ [40]).length + 2 ≤ _; rw [List.length_append]; show l.length + 1 + 2 ≤ _; omega))
      go_wp2_with fail
      refine HST2.out.mono ?_
      rintro v w3 ⟨⟨u3, rfl⟩, h3, hb3⟩
      have HW3 := Lib.hid h3
      have HB3 := Lib.hid (HB2.out.trans hb3)
      have hbw3 := bld_lt h3
      have f0 : w3.cell? ⟨b, 0, none⟩ = some (.int .i64 3) := (hb3.cell (p := ⟨b, 0, none⟩) hblt).trans d0
      have f8 : w3.cell? ⟨b, 8, none⟩ = some (.slice (some ⟨ga, 0, none⟩) 1 c) := (hb3.cell (p := ⟨b, 8, none⟩) hblt).trans d8
      have f1 : w3.cell? ⟨ga, 0, none⟩ = some (ptrV g1) := (hb3.cell (p := ⟨ga, 0, none⟩) cgl).trans d1
      have hlt3 := cell_lt0 f0
      have hgl3 := cell_lt0 f1
      have HBB3 := Lib.hid (HBB.out.trans hb3)
      clear h3 hb3 d0 d8 d1
      have HNODE := Lib.hid (HOKN.out w3 (l ++ [40] ++ [63, 58]) HB3.out HW3.out (by rw [List.length_append, List.length_append]; show l.length + 1 + 2 + _ ≤ _; omega))
      go_wp2_with fail
      refine HNODE.out.mono ?_
      rintro v w4 ⟨⟨u4, rfl⟩, h4, hl4, hb4⟩
      have HW4 := Lib.hid h4
      have HL4 := Lib.hid hl4
      have hbw4 := bld_lt h4
      have HB4 := Lib.hid (HBB3.out.trans hb4)
      clear h4 hl4 hb4
      have hl4' : (nodeP n1 (l ++ [40] ++ [63, 58])).length + 1 ≤ 140737488355328 := by
        have := HL4.out
        simp only [List.length_append, List.length_cons, List.length_nil] at this
        omega
      have HST4 := Lib.hid (wstr_at { data := #[41] } HW4.out hl4')
      go_wp2_with fail
      refine HST4.out.mono ?_
      rintro v w5 ⟨⟨u5, rfl⟩, h5, hb5⟩
      have HW5 := Lib.hid h5
      have HB5 := Lib.hid (HB4.out.trans hb5)
      clear h5 hb5
      go_wp2
      go_end0
      exact ⟨⟨_, rfl⟩, by rw [HR.out]; exact HW5.out, by
        rw [HR.out]
        have := HL4.out
        have := HLEN.out
        simp only [List.length_append, List.length_cons, List.length_nil] at *
        omega, HB5.out⟩
    have q3 : (k == 3) = false := by rw [beq_eq_false_iff_ne]; exact h3
    by_cases h4 : k = 4
    · subst h4
      have HR := Lib.hid (show res = joinF (toL { data := #[] }) (kidsP kids) l by rw [HV.out]; unfold nodeK; rw [if_neg HNB.out, if_neg (by omega), if_neg (by omega), if_neg (by omega), if_pos rfl])
      have c8 : W.cell? ⟨b, 8, none⟩ = some (.slice A kids.length c) := HB.out.cell 8
      have HJO := Lib.hid (join_at (c := c) { data := #[] } (by decide) hm HI.out W l HWW.out HWL.out (by omega))
      go_enter Tryz.func88, Tryz.ntmps88
      go_wp2_with fail
      refine HLENAT.out.mono ?_
      rintro v w1 ⟨rfl, rfl⟩
      rename World => W
      go_wp2_with fail
      refine HJO.out.mono ?_
      rintro v w2 ⟨⟨u2, rfl⟩, h2, hl2, hb2⟩
      have HW2 := Lib.hid h2
      have HL2 := Lib.hid hl2
      clear h2 hl2
      go_wp2
      go_end0
      exact ⟨⟨_, rfl⟩, by rw [HR.out]; exact HW2.out, by rw [HR.out]; have := HL2.out; have := HLEN.out; omega, hb2⟩
    have q4 : (k == 4) = false := by rw [beq_eq_false_iff_ne]; exact h4
    by_cases h5 : k = 5
    · subst h5
      have HR := Lib.hid (show res = joinF (toL { data := #[124] }) (kidsP kids) l by rw [HV.out]; unfold nodeK; rw [if_neg HNB.out, if_neg (by omega), if_neg (by omega), if_neg (by omega), if_neg (by omega), if_pos rfl])
      have c8 : W.cell? ⟨b, 8, none⟩ = some (.slice A kids.length c) := HB.out.cell 8
      have HJO := Lib.hid (join_at (c := c) { data := #[124] } (by decide) hm HI.out W l HWW.out HWL.out (by omega))
      go_enter Tryz.func88, Tryz.ntmps88
      go_wp2_with fail
      refine HLENAT.out.mono ?_
      rintro v w1 ⟨rfl, rfl⟩
      rename World => W
      go_wp2_with fail
      refine HJO.out.mono ?_
      rintro v w2 ⟨⟨u2, rfl⟩, h2, hl2, hb2⟩
      have HW2 := Lib.hid h2
      have HL2 := Lib.hid hl2
      clear h2 hl2
      go_wp2
      go_end0
      exact ⟨⟨_, rfl⟩, by rw [HR.out]; exact HW2.out, by rw [HR.out]; have := HL2.out; have := HLEN.out; omega, hb2⟩
    have q5 : (k == 5) = false := by rw [beq_eq_false_iff_ne]; exact h5
    by_cases h6 : k = 6
    · subst h6
      obtain ⟨n1, rfl⟩ : ∃ n, kids = [n] := List.length_eq_one_iff.1 (HONE.out (by omega))
      obtain ⟨g1, rfl, cg, hok1⟩ := HI.out 0 (by simp)
      have HOKN := Lib.hid (show NodeOk w n1 g1 from hok1)
      clear hok1
      have hs1 : sizeL [n1] = sizeT n1 := by simp only [sizeL]; omega
      rw [hs1] at hbd HLEN
      have cgl := cell_lt0 cg
      obtain ⟨hcnt, hcs⟩ := HOK6.out rfl
      have HCN := Lib.hid hcnt
      have HR := Lib.hid (show res = nodeP n1 l ++ toL (countS lo mx z) by rw [HV.out]; unfold nodeK; rw [if_neg HNB.out, if_neg (by omega), if_neg (by omega), if_neg (by omega), if_neg (by omega), if_neg (by omega), if_pos rfl]; simp only [kidsP, headF])
      have hsl : (toL (countS lo mx z)).length = (countS lo mx z).size := by simp
      have d8 : W.cell? ⟨b, 8, none⟩ = some (.slice (some ⟨ga, 0, none⟩) 1 c) := HB.out.cell 8
      have d1 : W.cell? ⟨ga, 0, none⟩ = some (ptrV g1) := (HWW.out.cell (p := ⟨ga, 0, none⟩) cgl).trans cg
      have hgl1 := cell_lt0 d1
      have HNODE := Lib.hid (HOKN.out W l HWW.out HWL.out (by omega))
      go_enter Tryz.func88, Tryz.ntmps88
      go_wp2_with fail
      refine HLENAT.out.mono ?_
      rintro v w1 ⟨rfl, rfl⟩
      rename World => W
      go_wp2_with fail
      refine HNODE.out.mono ?_
      rintro v w4 ⟨⟨u4, rfl⟩, h4, hl4, hb4⟩
      have HW4 := Lib.hid h4
      have HL4 := Lib.hid hl4
      have hbw4 := bld_lt h4
      have HB4 := Lib.hid hb4
      have f5 : w4.cell? ⟨b, 5, none⟩ = some (.int .i64 lo) := (hb4.cell (p := ⟨b, 5, none⟩) hblt).trans (HB.out.cell 5)
      have f6 : w4.cell? ⟨b, 6, none⟩ = some (.int .i64 mx) := (hb4.cell (p := ⟨b, 6, none⟩) hblt).trans (HB.out.cell 6)
      have f7 : w4.cell? ⟨b, 7, none⟩ = some (.bool z) := (hb4.cell (p := ⟨b, 7, none⟩) hblt).trans (HB.out.cell 7)
      have hlt4 := cell_lt0 f5
      have hl4' : (nodeP n1 l).length + (countS lo mx z).size ≤ 140737488355328 := by
        have := HL4.out
        omega
      clear h4 hl4 hb4 d8 d1 c0
      have HCN4 := Lib.hid (HCN.out w4.drew (HT0.out.below (HWW.out.trans HB4.out.drew)))
      go_wp2_with fail
      go_region_law (first
        | (go_simp; go_at_call 17; refine HCN4.out.mono ?_; rintro v w5 ⟨rfl, hb5⟩; have HB5 := Lib.hid ((Below.refl w4.heap.size w4).drew.trans hb5); have hW5 := Lib.hid (bld_under HW4.out HB5.out); have hbw5 := bld_lt hW5.out; clear hb5)
        | (go_simp; go_at_call 108; refine (wstr_at (countS lo mx z) hW5.out hl4').mono ?_; rintro v w6 ⟨⟨u, rfl⟩, h6, hb6⟩; have HW6 := Lib.hid h6; have HB6 := Lib.hid ((HB4.out.trans (HB5.out.mono (Nat.le_of_lt hbw4))).trans hb6); clear h6 hb6))
      all_goals
        go_wp2
        go_end0
        exact ⟨⟨_, rfl⟩, by rw [HR.out]; exact HW6.out, by rw [HR.out, List.length_append]; have := HL4.out; have := HLEN.out; omega, HB6.out⟩
    have q6 : (k == 6) = false := by rw [beq_eq_false_iff_ne]; exact h6
    have HR := Lib.hid (show res = l by rw [HV.out]; unfold nodeK; rw [if_neg HNB.out, if_neg h1, if_neg h2, if_neg h3, if_neg h4, if_neg h5, if_neg h6])
    clear h1 h2 h3 h4 h5 h6
    go_enter Tryz.func88, Tryz.ntmps88
    go_wp2_with fail
    refine HLENAT.out.mono ?_
    rintro v w1 ⟨rfl, rfl⟩
    rename World => W
    go_wp2
    go_end0
    exact ⟨⟨_, rfl⟩, by rw [HR.out]; exact HWL.out, by rw [HR.out]; have := HLEN.out; omega, Below.refl _ _⟩
end Go.Proofs.YtpiimcbbgalhfaaGreatDoor
/- printer.Print, Normal; PrinterNone: the walk. -/
namespace Go.Proofs.YtpiimcbbgalhfaaGreatDoor
set_option maxRecDepth 100000
open Go.RowKit
def wordV (l : Acc) : Value := .string ⟨l.toArray⟩
/-- What Print answers. -/
def PrintIs (n : Tree) (v : Ending) : Prop :=
  if (fitT n && decide (deepT n ≤ 200)) = true then (if 1048576 < (nodeP n []).length then v = .returned (.tuple #[.string { data := #[] }, .int .i64 3]) else v = .returned (.tuple #[wordV (nodeP n []), .int .i64 0]))
  else v = .returned (.tuple #[.string { data := #[] }, .int .i64 1])
theorem Print_nil (w : World) : Calls Tryz.prog 20 #[.pointer none] w fun v w' => v = .returned (.tuple #[.string { data := #[] }, .int .i64 1]) ∧ w' = w := by
  go_enter Tryz.func20, Tryz.ntmps20
  go_wp2_with fail
  refine (right_nil w).mono ?_
  rintro v w1 ⟨rfl, rfl⟩
  go_wp2
  go_returns
  exact ⟨rfl, rfl⟩
theorem wr_new (w : World) : WrAt w.heap.size [] (w.alloc (.cells #[.pointer none, .slice none 0 0] 130)) :=
  .inl ⟨Nat.le_refl _, .slice none 0 0, Blk.new w [.pointer none, .slice none 0 0] _, ⟨rfl, .inl ⟨rfl, rfl⟩⟩, fun e => by cases e⟩
set_option maxHeartbeats 4000000 in
theorem Print_at {w : World} {S : Nat → Prop} {n : Tree} {b : Nat} (h : TreeAt w S n b) (hT : TabP w) (hR : RngT n) (hd : deepT n ≤ 1000000) (hok : fitT n = true → PrOk n) (hsz : sizeT n ≤ 1000000000) :
    Calls Tryz.prog 20 #[ptrV b] w fun v w' => PrintIs n v ∧ Below w.heap.size w w' := by
  have HR := Lib.hid (right_at h hR hd)
  unfold PrintIs
  cases hr : (fitT n && decide (deepT n ≤ 200)) with
  | false =>
    rw [hr] at HR
    clear h hR
    go_enter Tryz.func20, Tryz.ntmps20
    go_wp2_with fail
    refine HR.out.mono ?_
    rintro v w1 ⟨rfl, hb⟩
    go_wp2
    go_returns
    exact ⟨rfl, hb⟩
  | true =>
    have hf : fitT n = true := by
      rw [Bool.and_eq_true] at hr
      exact hr.1
    have HN := Lib.hid (fun (W : World) (hW : Below w.heap.size w W) => node_at (h.under hW) (hT.below hW) hf (hok hf))
    rw [hr] at HR
    simp only [if_true]
    clear hr h hR hok hf hT
    obtain ⟨l, hl⟩ : ∃ l, nodeP n [] = l := ⟨_, rfl⟩
    have HE := Lib.hid hl
    simp only [hl]
    clear hl
    have HWV := Lib.hid (show wordV l = .string ⟨l.toArray⟩ from rfl)
    go_enter Tryz.func20, Tryz.ntmps20
    go_wp2_with fail
    refine HR.out.mono ?_
    rintro v w1 ⟨rfl, hb⟩
    have HB := Lib.hid hb
    have HN1 := Lib.hid (HN.out w1 hb)
    have HW := Lib.hid (wr_new w1)
    have HB1 := Lib.hid ((Below.refl w1.heap.size w1).alloc (Nat.le_refl _) (.cells #[.pointer none, .slice none 0 0] 130))
    have HC := Lib.hid (HN1.out _ [] HB1.out HW.out (by simp only [List.length_nil]; omega))
    clear hb HN
    go_wp2_with fail
    refine HC.out.mono ?_
    rintro v w2 ⟨⟨u, rfl⟩, h2, hl2, hb2⟩
    rw [HE.out] at h2 hl2
    have hwl := bld_lt h2
    have HB2 := Lib.hid (HB.out.trans ((HB1.out.trans hb2).mono HB.out.size))
    have HL := Lib.hid (len_at (T := Tw) w1.heap.size w1.heap.size (Lib.byteCells l) w2 h2)
    rw [Lib.byteCells_length] at HL
    have hle : l.length ≤ 140737488355328 := by
      simp only [List.length_nil] at hl2
      omega
    have HS := Lib.hid (string_at (T := Tw) w1.heap.size w1.heap.size l w2 h2 (Nat.le_of_lt hwl) hle)
    clear h2 hl2 hb2 HC HW HN1
    go_wp2_with fail
    refine HL.out.mono ?_
    rintro v w3 ⟨rfl, rfl⟩
    by_cases hbig : 1048576 < l.length
    · have hq : decide ((1048576 : Int) < ((l.length : Nat) : Int)) = true := decide_eq_true (by omega)
      go_wp2
      go_returns
      exact ⟨by first | rfl | (rw [if_pos hbig]; rfl), HB2.out⟩
    · have hq : decide ((1048576 : Int) < ((l.length : Nat) : Int)) = false := decide_eq_false (by omega)
      go_wp2_with fail
      refine HS.out.mono ?_
      rintro v w4 ⟨rfl, hb4⟩
      have HB4 := Lib.hid (HB2.out.trans (hb4.mono HB.out.size))
      go_wp2
      go_returns
      exact ⟨by first | (rw [HWV.out]; rfl) | (rw [if_neg hbig, HWV.out]; rfl), HB4.out⟩
set_option maxHeartbeats 4000000 in
theorem Normal_at (s : ByteArray) (w : World) (hT : TabP w) (hok : ∀ n j, parseB s = .ok n j → PrOk n) :
    Calls Tryz.prog 86 #[.string s] w fun v w' => (match parseB s with
      | .err p e => v = .returned (.tuple #[.string { data := #[] }, .int .i64 ((p : Nat) : Int), .int .i64 ((e : Nat) : Int)]) ∧ e ≠ 0
      | .ok n _ => if 1048576 < (nodeP n []).length then v = .returned (.tuple #[.string { data := #[] }, .int .i64 0, .int .i64 3]) else v = .returned (.tuple #[wordV (nodeP n []), .int .i64 0, .int .i64 0])) ∧ Below w.heap.size w w' := by
  have HP := Lib.hid (sparse_at s w hT.tab)
  unfold ParseIs at HP
  cases hp : parseB s with
  | err p e =>
    rw [hp] at HP
    simp only [] at HP ⊢
    clear hp
    go_enter Tryz.func86, Tryz.ntmps86
    go_wp2_with fail
    refine HP.out.mono ?_
    rintro v w1 ⟨⟨rfl, he⟩, hb⟩
    have hq : (((e : Nat) : Int) != 0) = true := by rw [bne_iff_ne]; omega
    go_wp2
    go_returns
    exact ⟨⟨rfl, he⟩, hb⟩
  | ok n j =>
    have hgood := parseB_ok hp
    have hsz1 : s.size ≤ 1048576 := by
      unfold parseB at hp
      split at hp
      · cases hp
      · omega
    have HPR := Lib.hid (fun (W : World) (S : Nat → Prop) (b : Nat) (h : TreeAt W S n b) (hTW : TabP W) => Print_at h hTW hgood.rng (by have := hgood.deep; omega) (fun _ => hok n j hp) (by have := hgood.size; omega))
    have HPI := Lib.hid (show ∀ v : Ending, PrintIs n v → if 1048576 < (nodeP n []).length then v = .returned (.tuple #[.string { data := #[] }, .int .i64 3]) else v = .returned (.tuple #[wordV (nodeP n []), .int .i64 0]) from fun v h => by
      unfold PrintIs at h
      rwa [if_pos (by rw [hgood.fit, decide_eq_true (show deepT n ≤ 200 from hgood.deep)]; rfl)] at h)
    have HT := Lib.hid hT
    rw [hp] at HP
    simp only [] at HP ⊢
    have HWV := Lib.hid (show wordV (nodeP n []) = .string ⟨(nodeP n []).toArray⟩ from rfl)
    generalize nodeP n [] = l at *
    clear hp hok hT
    go_enter Tryz.func86, Tryz.ntmps86
    go_wp2_with fail
    refine HP.out.mono ?_
    rintro v w1 ⟨⟨b, rfl, ht⟩, hb⟩
    have HT1 := Lib.hid ht
    have HB := Lib.hid hb
    clear ht
    go_wp2_with fail
    refine (HPR.out w1 _ b HT1.out (HT.out.below HB.out)).mono ?_
    rintro v w2 ⟨hpi, hb2⟩
    have hpi2 := HPI.out v hpi
    have HB2 := Lib.hid (HB.out.trans (hb2.mono HB.out.size))
    clear hpi
    by_cases hbig : 1048576 < l.length
    · rw [if_pos hbig] at hpi2
      subst hpi2
      go_wp2
      go_returns
      exact ⟨by first | rfl | (rw [if_pos hbig]; rfl), HB2.out⟩
    · rw [if_neg hbig, HWV.out] at hpi2
      subst hpi2
      go_wp2
      go_returns
      exact ⟨by first | (rw [HWV.out]; rfl) | (rw [if_neg hbig, HWV.out]; rfl), HB2.out⟩
end Go.Proofs.YtpiimcbbgalhfaaGreatDoor
