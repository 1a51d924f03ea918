/- core: measure, right, wrap, Measure, Build, Parse. -/
import Derived.Test.YtpiimcbbgalhfaaGreatDoorBt
import Derived.Test.YtpiimcbbgalhfaaGreatDoorBq
import Derived.Deep.RegionLaw
import Derived.BigRegion
namespace Go.Proofs.YtpiimcbbgalhfaaGreatDoor
open Go.RowKit
theorem elem_int1 : Elem Tryz.prog 52 3 1 8 := by
  obtain ⟨i, hi, h0, h1, h2⟩ := info_parts (by kernel_rfl : (Tryz.prog.info? 3).map (fun i => (i.zero, i.size, i.bytes)) = some (some (.int .i64 0), 1, 8))
  exact ⟨i, _, Tryz.underlying52, hi, h0, h1, h2, rfl, by omega⟩
theorem nodeN_def (k : Int) (set : Nat → Bool) (lo hi : Int) (z : Bool) (kids : List Tree) (f t : Nat) : coreN (.mk k set lo hi z kids f t) = nodeN k lo hi (coreNL kids) := by simp only [coreN]
set_option maxHeartbeats 8000000 in
theorem measure_at {w : World} {S : Nat → Prop} {n : Tree} {b : Nat} (h : TreeAt w S n b) (hf : fitT n = true) : ∀ w', Below w.heap.size w w' →
    Calls Tryz.prog 187 #[ptrV b] w' fun v w'' => v = .returned (.int .i64 (coreN n)) ∧ Below w'.heap.size w' w'' := by
  induction h with
  | @mk k set lo mx z kids f t b ga c A bs hSb hb hl hm hA hc hk ih =>
    intro W hW
    have hfk := fit_kids hf
    have HONE := Lib.hid (fun hk => fit_one hf hk : (k = 2 ∨ k = 3 ∨ k = 6) → kids.length = 1)
    have HREP := Lib.hid (fun (e : k = 6) => (by subst e; exact fit_rep hf) : k = 6 → 0 ≤ lo ∧ lo ≤ 1000 ∧ (mx = -1 ∨ (lo ≤ mx ∧ mx ≤ 1000)))
    have HB := Lib.hid (hb.below hW hb.lt)
    have HC := Lib.hid (nodeN_def k set lo mx z kids f t)
    generalize coreN (.mk k set lo mx z kids f t) = res at *
    have c0 : W.cell? ⟨b, 0, none⟩ = some (.int .i64 k) := HB.out.cell 0
    have c8 : W.cell? ⟨b, 8, none⟩ = some (.slice A kids.length c) := HB.out.cell 8
    have hlt := HB.out.lt
    have HI := Lib.hid (show ∀ (i : Nat) (hi : i < kids.length), ∃ g, A = some ⟨ga, 0, none⟩ ∧ W.cell? ⟨ga, i, none⟩ = some (ptrV g) ∧ ∀ w', Below w.heap.size w w' → Calls Tryz.prog 187 #[ptrV g] w' fun v w'' => v = .returned (.int .i64 (coreN kids[i])) ∧ Below w'.heap.size w' w'' from fun i hi => by
      have hne : kids ≠ [] := by intro e; rw [e] at hi; exact absurd hi (Nat.not_lt_zero _)
      have hib : i < bs.length := by omega
      have hcc := hc i _ (List.getElem?_eq_getElem hib)
      exact ⟨bs[i], (hA hne).1, (hW.cell (p := ⟨ga, i, none⟩) (cell_lt0 hcc)).trans hcc, ih i _ _ (List.getElem?_eq_getElem hi) (List.getElem?_eq_getElem hib) ((fitL_iff kids).1 hfk _ (List.getElem_mem hi))⟩)
    have HT := Lib.hid (show ∀ i, i < kids.length → ∀ hi, (coreNL (kids.take (i + 1))).map (Value.int .i64) = (coreNL (kids.take i)).map (Value.int .i64) ++ [.int .i64 (coreN (kids[i]'hi))] from fun i h _ => by rw [coreNL_take h, List.map_append]; rfl)
    have HLi := Lib.hid (coreNL_length kids)
    have HTL := Lib.hid (show coreNL (kids.take kids.length) = coreNL kids by rw [List.take_length])
    have HWW := Lib.hid hW
    clear hb hl hA hc hk ih hf hfk hW
    go_enter Tryz.func187, Tryz.ntmps187
    go_wp2_with fail
    go_loopw [3, 11] (fun lv iv wr => ∃ i : Nat, i ≤ kids.length ∧ iv = .int .i64 ((i : Nat) : Int) ∧ wr.ownsRow W.heap.size 3 1 lv i ((coreNL (kids.take i)).map (.int .i64)) ∧ Below W.heap.size W wr) (fun _ iv _ => kids.length - (intOf iv).toNat)
    case atStart => exact ⟨0, Nat.zero_le _, rfl, by rw [List.take_zero]; exact World.ownsRow_nil _ _ _ _, Below.refl _ _⟩
    case round =>
      obtain ⟨i, hi, rfl, hrow, hbr⟩ := hrel
      have hsz := hbr.size
      by_cases hlt2 : i < kids.length
      · obtain ⟨g, rfl, cg, hcall⟩ := HI.out i hlt2
        have cg2 : wr.cell? ⟨ga, i, none⟩ = some (ptrV g) := (hbr.cell (p := ⟨ga, i, none⟩) (cell_lt0 cg)).trans cg
        have hgl := cell_lt0 cg2
        have HTi := Lib.hid (HT.out i hlt2 hlt2)
        have HCALL := Lib.hid (hcall wr (HWW.out.trans (hbr.mono HWW.out.size)))
        have HROW := Lib.hid hrow
        clear hcall hrow cg
        generalize coreN kids[i] = x at *
        go_wp2_with fail
        refine HCALL.out.mono ?_
        rintro v w1 ⟨rfl, hb1⟩
        have hsz1 := hb1.size
        have HOW := Lib.hid (own_below HROW.out hb1)
        have HB1 := Lib.hid hb1
        clear hb1
        go_wp2_with (first
          | (at_builtin; refine append_one rfl (.tmp 15) (.tmp 18) 52 rfl W.heap.size 3 1 8 elem_int1 _ _ _ rfl HOW.out [.int .i64 x] rfl rfl (one_int _ _) ?h1 ?h2 ?h3 ?h4; (case h1 => omega); (case h2 => omega); (case h3 => omega); intro v5 w5 hown5 hb5))
        have hbx := (hbr.trans (HB1.out.mono hsz)).trans hb5
        have HROW2 := Lib.hid hown5
        rw [← HTi.out] at HROW2
        clear hown5
        go_wp2
        go_roundw
        case rel => exact ⟨i + 1, hlt2, by go_num, HROW2.out, hbx⟩
        case measure => simp [intOf]; omega
      · obtain rfl : i = kids.length := by omega
        have HROW := Lib.hid hrow
        rw [HTL.out] at HROW
        clear hrow hlt2
        have HBR := Lib.hid (HB.out.below hbr hlt)
        have d0 : wr.cell? ⟨b, 0, none⟩ = some (.int .i64 k) := HBR.out.cell 0
        have hlt3 := HBR.out.lt
        clear c0 c8
        by_cases h2 : k = 2
        · subst h2
          obtain ⟨x, hx⟩ : ∃ x, coreNL kids = [x] := List.length_eq_one_iff.1 (by rw [HLi.out]; exact HONE.out (by omega))
          have hgt : 0 < kids.length := by rw [HONE.out (by omega)]; omega
          obtain ⟨g5, cap5, rfl⟩ : ∃ g c, u3 = .slice (some ⟨g, 0, none⟩) kids.length c := by
            rcases HROW.out.2 with ⟨rfl, e⟩ | ⟨g, cap, cur, rfl, _⟩
            · omega
            · exact ⟨_, _, rfl⟩
          have cb : wr.cell? ⟨g5, 0, none⟩ = some (.int .i64 x) := own_cell1 HROW.out 0 _ (by rw [hx]; rfl)
          have hgl := cell_lt0 cb
          have HR := Lib.hid (show res = x by rw [HC.out, hx]; rfl)
          clear hx
          go_wp2
          go_returns
          exact ⟨by rw [HR.out]; rfl, hbr⟩
        have q2 : (k == 2) = false := by rw [beq_eq_false_iff_ne]; exact h2
        by_cases h3 : k = 3
        · subst h3
          obtain ⟨x, hx⟩ : ∃ x, coreNL kids = [x] := List.length_eq_one_iff.1 (by rw [HLi.out]; exact HONE.out (by omega))
          have hgt : 0 < kids.length := by rw [HONE.out (by omega)]; omega
          obtain ⟨g5, cap5, rfl⟩ : ∃ g c, u3 = .slice (some ⟨g, 0, none⟩) kids.length c := by
            rcases HROW.out.2 with ⟨rfl, e⟩ | ⟨g, cap, cur, rfl, _⟩
            · omega
            · exact ⟨_, _, rfl⟩
          have cb : wr.cell? ⟨g5, 0, none⟩ = some (.int .i64 x) := own_cell1 HROW.out 0 _ (by rw [hx]; rfl)
          have hgl := cell_lt0 cb
          have HR := Lib.hid (show res = x by rw [HC.out, hx]; rfl)
          clear hx
          go_wp2
          go_returns
          exact ⟨by rw [HR.out]; rfl, hbr⟩
        have q3 : (k == 3) = false := by rw [beq_eq_false_iff_ne]; exact h3
        by_cases h4 : k = 4
        · subst h4
          have HR := Lib.hid (show res = foldedN (coreNL kids) by rw [HC.out]; rfl)
          have HF := Lib.hid (folded_at (own_rd HROW.out (by omega)) (coreNL_rng kids))
          obtain ⟨A5, c5, rfl⟩ : ∃ A c, u3 = .slice A kids.length c := by
            rcases HROW.out.2 with ⟨rfl, e⟩ | ⟨g, cap, cur, rfl, _⟩
            · exact ⟨_, _, by rw [e]⟩
            · exact ⟨_, _, rfl⟩
          go_wp2_with fail
          refine HF.out.mono ?_
          rintro v w6 ⟨rfl, hb6⟩
          go_wp2
          go_returns
          exact ⟨by rw [HR.out]; rfl, hbr.trans (hb6.mono hsz)⟩
        have q4 : (k == 4) = false := by rw [beq_eq_false_iff_ne]; exact h4
        by_cases h5 : k = 5
        · subst h5
          have HR := Lib.hid (show res = foldedN (coreNL kids) by rw [HC.out]; rfl)
          have HF := Lib.hid (folded_at (own_rd HROW.out (by omega)) (coreNL_rng kids))
          obtain ⟨A5, c5, rfl⟩ : ∃ A c, u3 = .slice A kids.length c := by
            rcases HROW.out.2 with ⟨rfl, e⟩ | ⟨g, cap, cur, rfl, _⟩
            · exact ⟨_, _, by rw [e]⟩
            · exact ⟨_, _, rfl⟩
          go_wp2_with fail
          refine HF.out.mono ?_
          rintro v w6 ⟨rfl, hb6⟩
          go_wp2
          go_returns
          exact ⟨by rw [HR.out]; rfl, hbr.trans (hb6.mono hsz)⟩
        have q5 : (k == 5) = false := by rw [beq_eq_false_iff_ne]; exact h5
        by_cases h6 : k = 6
        · subst h6
          obtain ⟨x, hx⟩ : ∃ x, coreNL kids = [x] := List.length_eq_one_iff.1 (by rw [HLi.out]; exact HONE.out (by omega))
          have hgt : 0 < kids.length := by rw [HONE.out (by omega)]; omega
          obtain ⟨g5, cap5, rfl⟩ : ∃ g c, u3 = .slice (some ⟨g, 0, none⟩) kids.length c := by
            rcases HROW.out.2 with ⟨rfl, e⟩ | ⟨g, cap, cur, rfl, _⟩
            · omega
            · exact ⟨_, _, rfl⟩
          have cb : wr.cell? ⟨g5, 0, none⟩ = some (.int .i64 x) := own_cell1 HROW.out 0 _ (by rw [hx]; rfl)
          have hgl := cell_lt0 cb
          have HR := Lib.hid (show res = repeatedN lo mx x by rw [HC.out, hx]; rfl)
          have hrep := HREP.out rfl
          have hxr : Rng x := coreNL_rng kids x (by rw [hx]; simp)
          clear hx
          have e5 : wr.cell? ⟨b, 5, none⟩ = some (.int .i64 lo) := HBR.out.cell 5
          have e6 : wr.cell? ⟨b, 6, none⟩ = some (.int .i64 mx) := HBR.out.cell 6
          have HRA := Lib.hid (repeated_at (w := wr) (nb := b) (size := x) ⟨hrep.1, by omega⟩ ⟨by omega, by omega⟩ hxr e5 e6)
          clear e5 e6 hrep hxr
          go_wp2_with fail
          refine HRA.out.mono ?_
          rintro v w6 ⟨rfl, hb6⟩
          go_wp2
          go_returns
          exact ⟨by rw [HR.out]; rfl, hbr.trans (hb6.mono hsz)⟩
        have q6 : (k == 6) = false := by rw [beq_eq_false_iff_ne]; exact h6
        have HR := Lib.hid (show res = 1 by rw [HC.out]; unfold nodeN; rw [if_neg (by omega), if_neg (by omega), if_neg h6])
        clear h2 h3 h4 h5 h6
        go_wp2
        go_returns
        exact ⟨by rw [HR.out]; rfl, hbr⟩
/-- What right tells. -/
def rightB (n : Tree) (mode : Int) : Bool := fitT n && decide (deepT n ≤ 200) && (decide (0 ≤ mode) && decide (mode < 4))
theorem cright_at {w : World} {S : Nat → Prop} {n : Tree} {b : Nat} {mode : Int} (h : TreeAt w S n b) (hR : RngT n) (hd : deepT n ≤ 1000000) :
    Calls Tryz.prog 143 #[ptrV b, .int .i64 mode] w fun v w' => v = .returned (.bool (rightB n mode)) ∧ Below w.heap.size w w' := by
  have HR := Lib.hid (right_at h hR hd)
  unfold rightB
  generalize (fitT n && decide (deepT n ≤ 200)) = q at *
  clear h hR hd
  go_enter Tryz.func143, Tryz.ntmps143
  go_wp2_with fail
  refine HR.out.mono ?_
  rintro v w1 ⟨rfl, hb⟩
  cases q with
  | false =>
    go_wp2
    go_returns
    exact ⟨rfl, hb⟩
  | true =>
    by_cases h0 : 0 ≤ mode
    · by_cases h4 : mode < 4
      · go_wp2
        go_returns
        exact ⟨by rw [decide_eq_true h0, decide_eq_true (show mode < 4 by omega)]; rfl, hb⟩
      · go_wp2
        go_returns
        exact ⟨by rw [decide_eq_true h0]; rfl, hb⟩
    · go_wp2
      go_returns
      exact ⟨by rw [decide_eq_false (show ¬0 ≤ mode by omega)]; rfl, hb⟩
theorem cright_nil (mode : Int) (w : World) : Calls Tryz.prog 143 #[.pointer none, .int .i64 mode] w fun v w' => v = .returned (.bool false) ∧ w' = w := by
  go_enter Tryz.func143, Tryz.ntmps143
  go_wp2_with fail
  refine (right_nil w).mono ?_
  rintro v w1 ⟨rfl, rfl⟩
  go_wp2
  go_returns
  exact ⟨rfl, rfl⟩
theorem crest_at {S : Nat → Prop} {w : World} (hS : ∀ k, w.heap.size ≤ k → S k) : Calls Tryz.prog 188 #[] w fun v w' => CPost S w w' restC v := by
  have HS := Lib.hid hS
  clear hS
  go_enter Tryz.func188, Tryz.ntmps188
  go_wp2_with fail
  refine (all_any w).mono ?_
  rintro v w1 ⟨rfl, hb⟩
  have hs := hb.size
  unfold setV
  go_wp2_with fail
  have hblk : Blk (w1.alloc (.cells (coreV 1 (fun _ => true) false (.pointer none) (.pointer none)).toArray 148)) w1.heap.size 148 (coreV 1 (fun _ => true) false (.pointer none) (.pointer none)) := Blk.new w1 _ _
  have HBK := Lib.hid hblk
  have hb2 := hb.trans (((Below.refl _ w1).alloc (Nat.le_refl _) (.cells (coreV 1 (fun _ => true) false (.pointer none) (.pointer none)).toArray 148)).mono hs)
  have HB2 := Lib.hid hb2
  clear hblk hb2
  refine (star_at _ true _).mono ?_
  rintro v w3 ⟨rfl, hn3, hb3⟩
  have hsx : (w1.alloc (.cells (coreV 1 (fun _ => true) false (.pointer none) (.pointer none)).toArray 148)).heap.size = w1.heap.size + 1 := by simp
  have HN : RowKit.Hid (Blk w3 (w1.heap.size + 1) 148 (coreV 4 noSet true (cptr w1.heap.size) (.pointer none))) := Lib.hid (hsx ▸ hn3)
  have HB3 := Lib.hid hb3
  clear hn3 hb3
  go_wp2
  go_returns
  have hs2 := HB2.out.size
  exact ⟨_, rfl, ⟨HS.out _ (by omega), _, HN.out, HS.out _ hs, HBK.out.below HB3.out HBK.out.lt⟩, HB2.out.trans (HB3.out.mono hs2)⟩
set_option maxHeartbeats 4000000 in
theorem wrap_at {S : Nat → Prop} {c : CT} {b : Nat} {mode : Int} {w : World} (hS : ∀ k, w.heap.size ≤ k → S k) (h : CoreAt w S c b) :
    Calls Tryz.prog 145 #[cptr b, .int .i64 mode] w fun v w' => CPost S w w' (wrapC mode c) v := by
  have H := Lib.hid h
  have HS := Lib.hid hS
  have HRE := Lib.hid (fun W (hW : Below w.heap.size w W) => crest_at (fun k hk => hS k (Nat.le_trans hW.size hk)) : ∀ W, Below w.heap.size w W → Calls Tryz.prog 188 #[] W fun v w' => CPost S W w' restC v)
  clear h hS
  by_cases h1 : mode = 1
  · subst h1
    go_enter Tryz.func145, Tryz.ntmps145
    go_wp2_with fail
    refine (HRE.out w (Below.refl _ _)).mono ?_
    rintro v w1 ⟨b1, rfl, hc1, hb1⟩
    have HC1 := Lib.hid hc1
    clear hc1
    go_wp2_with fail
    refine (two_at 2 _ _ w1).mono ?_
    rintro v w3 ⟨rfl, hn3, hb3⟩
    have HN := Lib.hid hn3
    clear hn3
    go_wp2
    go_returns
    exact ⟨_, rfl, ⟨HS.out _ hb1.size, _, _, HN.out, (H.out.under hb1).under hb3, HC1.out.under hb3⟩, hb1.trans (hb3.mono hb1.size)⟩
  have q1 : (mode == 1) = false := by rw [beq_eq_false_iff_ne]; exact h1
  by_cases h2 : mode = 2
  · subst h2
    go_enter Tryz.func145, Tryz.ntmps145
    go_wp2_with fail
    refine (HRE.out w (Below.refl _ _)).mono ?_
    rintro v w1 ⟨b1, rfl, hc1, hb1⟩
    have HC1 := Lib.hid hc1
    clear hc1
    go_wp2_with fail
    refine (two_at 2 _ _ w1).mono ?_
    rintro v w3 ⟨rfl, hn3, hb3⟩
    have HN := Lib.hid hn3
    clear hn3
    go_wp2
    go_returns
    exact ⟨_, rfl, ⟨HS.out _ hb1.size, _, _, HN.out, HC1.out.under hb3, (H.out.under hb1).under hb3⟩, hb1.trans (hb3.mono hb1.size)⟩
  have q2 : (mode == 2) = false := by rw [beq_eq_false_iff_ne]; exact h2
  by_cases h3 : mode = 3
  · subst h3
    go_enter Tryz.func145, Tryz.ntmps145
    go_wp2_with fail
    refine (HRE.out w (Below.refl _ _)).mono ?_
    rintro v w1 ⟨b1, rfl, hc1, hb1⟩
    have HC1 := Lib.hid hc1
    clear hc1
    go_wp2_with fail
    refine (HRE.out w1 hb1).mono ?_
    rintro v w2 ⟨b2, rfl, hc2, hb2⟩
    have hbb := hb1.trans (hb2.mono hb1.size)
    have HC2 := Lib.hid hc2
    clear hc2
    go_wp2_with fail
    refine (two_at 2 _ _ w2).mono ?_
    rintro v w3 ⟨rfl, hn3, hb3⟩
    have hbc := hbb.trans (hb3.mono hbb.size)
    have HN := Lib.hid (show CoreAt w3 S (.cat c restC) w2.heap.size from ⟨HS.out _ hbb.size, _, _, hn3, (H.out.under hbb).under hb3, HC2.out.under hb3⟩)
    have HC3 := Lib.hid ((HC1.out.under hb2).under hb3)
    clear hn3
    go_wp2_with fail
    refine (two_at 2 _ _ w3).mono ?_
    rintro v w4 ⟨rfl, hn4, hb4⟩
    have HN4 := Lib.hid hn4
    clear hn4
    go_wp2
    go_returns
    exact ⟨_, rfl, ⟨HS.out _ hbc.size, _, _, HN4.out, HC3.out.under hb4, HN.out.under hb4⟩, hbc.trans (hb4.mono hbc.size)⟩
  have q3 : (mode == 3) = false := by rw [beq_eq_false_iff_ne]; exact h3
  have HW := Lib.hid (show wrapC mode c = c by unfold wrapC; rw [if_neg h1, if_neg h2, if_neg h3])
  clear h1 h2 h3
  go_enter Tryz.func145, Tryz.ntmps145
  go_wp2
  go_returns
  exact ⟨_, rfl, by rw [HW.out]; exact H.out, Below.refl _ _⟩
end Go.Proofs.YtpiimcbbgalhfaaGreatDoor
/- core: Measure, Build, Parse. -/
namespace Go.Proofs.YtpiimcbbgalhfaaGreatDoor
set_option maxRecDepth 100000
open Go.RowKit
theorem idx_mode0 (w : World) : (Instr.index 272 (.agg #[.int .i64 0, .int .i64 3, .int .i64 3, .int .i64 6]) (.int .i64 0)).run Tryz.prog w = .ok (.int .i64 0) w := by kernel_rfl
theorem idx_mode1 (w : World) : (Instr.index 272 (.agg #[.int .i64 0, .int .i64 3, .int .i64 3, .int .i64 6]) (.int .i64 1)).run Tryz.prog w = .ok (.int .i64 3) w := by kernel_rfl
theorem idx_mode2 (w : World) : (Instr.index 272 (.agg #[.int .i64 0, .int .i64 3, .int .i64 3, .int .i64 6]) (.int .i64 2)).run Tryz.prog w = .ok (.int .i64 3) w := by kernel_rfl
theorem idx_mode3 (w : World) : (Instr.index 272 (.agg #[.int .i64 0, .int .i64 3, .int .i64 3, .int .i64 6]) (.int .i64 3)).run Tryz.prog w = .ok (.int .i64 6) w := by kernel_rfl
attribute [local go_sem] idx_mode0 idx_mode1 idx_mode2 idx_mode3
def modeN (mode : Int) : Int := if mode = 1 ∨ mode = 2 then 3 else if mode = 3 then 6 else 0
def sizeM (n : Tree) (mode : Int) : Int := addL [coreN n, modeN mode]
theorem right_mode {n : Tree} {mode : Int} (h : rightB n mode = true) : (mode = 0 ∨ mode = 1 ∨ mode = 2 ∨ mode = 3) ∧ fitT n = true := by
  unfold rightB at h
  simp only [Bool.and_eq_true, decide_eq_true_eq] at h
  exact ⟨by omega, h.1.1⟩
theorem Measure_nil (mode : Int) (w : World) : Calls Tryz.prog 144 #[.pointer none, .int .i64 mode] w fun v w' => v = .returned (.int .i64 0) ∧ w' = w := by
  go_enter Tryz.func144, Tryz.ntmps144
  go_wp2_with fail
  refine (cright_nil mode w).mono ?_
  rintro v w1 ⟨rfl, rfl⟩
  go_wp2
  go_returns
  exact ⟨rfl, rfl⟩
set_option maxHeartbeats 8000000 in
theorem Measure_at {w : World} {S : Nat → Prop} {n : Tree} {b : Nat} {mode : Int} (h : TreeAt w S n b) (hR : RngT n) (hd : deepT n ≤ 1000000) :
    Calls Tryz.prog 144 #[ptrV b, .int .i64 mode] w fun v w' => v = .returned (.int .i64 (if rightB n mode then sizeM n mode else 0)) ∧ Below w.heap.size w w' := by
  have HR := Lib.hid (cright_at (mode := mode) h hR hd)
  cases hr : rightB n mode with
  | false =>
    rw [hr] at HR
    clear hr h hR
    go_enter Tryz.func144, Tryz.ntmps144
    go_wp2_with fail
    refine HR.out.mono ?_
    rintro v w1 ⟨rfl, hb⟩
    go_wp2
    go_returns
    exact ⟨rfl, hb⟩
  | true =>
    obtain ⟨hm, hf⟩ := right_mode hr
    rw [hr] at HR
    have HM := Lib.hid (measure_at h hf)
    have HI := Lib.hid (coreN_rng n).i64
    have HS := Lib.hid (show sizeM n mode = addL [coreN n, modeN mode] from rfl)
    generalize sizeM n mode = res at *
    generalize coreN n = z at *
    clear hr h hR hf
    rcases hm with rfl | rfl | rfl | rfl <;> (
    go_enter Tryz.func144, Tryz.ntmps144
    go_wp2_with fail
    refine HR.out.mono ?_
    rintro v w1 ⟨rfl, hb⟩
    have HB := Lib.hid hb
    have HMD := Lib.hid (HM.out w1.drew hb.drew)
    go_wp2_with fail
    go_region_law (first
      | (go_simp; go_at_call 187; refine HMD.out.mono ?_; rintro v w3 ⟨rfl, hb3⟩; have HB3 := Lib.hid (HB.out.drew.trans (hb3.mono HB.out.size)); clear hb3)
      | (go_simp; go_at_call 99; refine (add2_at z _ HI.out ⟨by omega, by omega⟩ w3).mono ?_; rintro v w4 ⟨rfl, hb4⟩))
    all_goals
      have HB4 := Lib.hid (HB3.out.trans (hb4.mono HB3.out.size))
      clear hb4
      go_wp2
      go_returns
      exact ⟨by rw [HS.out]; rfl, HB4.out⟩)
/-- What Build answers. -/
def BuildIs (w w' : World) (n : Tree) (mode : Int) (v : Ending) : Prop :=
  if rightB n mode = true then (if 4096 < sizeM n mode then v = .returned (.tuple #[.pointer none, .int .i64 3]) else ∃ c, v = .returned (.tuple #[cptr c, .int .i64 0]) ∧ CoreAt w' (From w) (wrapC mode (coreT n)) c)
  else v = .returned (.tuple #[.pointer none, .int .i64 1])
theorem Build_nil (mode : Int) (w : World) : Calls Tryz.prog 95 #[.pointer none, .int .i64 mode] w fun v w' => v = .returned (.tuple #[.pointer none, .int .i64 1]) ∧ w' = w := by
  go_enter Tryz.func95, Tryz.ntmps95
  go_wp2_with fail
  refine (cright_nil mode w).mono ?_
  rintro v w1 ⟨rfl, rfl⟩
  go_wp2
  go_returns
  exact ⟨rfl, rfl⟩
set_option maxHeartbeats 8000000 in
theorem Build_at {w : World} {S : Nat → Prop} {n : Tree} {b : Nat} {mode : Int} (h : TreeAt w S n b) (hR : RngT n) (hd : deepT n ≤ 1000000) :
    Calls Tryz.prog 95 #[ptrV b, .int .i64 mode] w fun v w' => BuildIs w w' n mode v ∧ Below w.heap.size w w' := by
  have HR := Lib.hid (cright_at (mode := mode) h hR hd)
  unfold BuildIs
  cases hr : rightB n mode with
  | false =>
    rw [hr] at HR
    clear hr h hR
    go_enter Tryz.func95, Tryz.ntmps95
    go_wp2_with fail
    refine HR.out.mono ?_
    rintro v w1 ⟨rfl, hb⟩
    go_wp2
    go_returns
    exact ⟨rfl, hb⟩
  | true =>
    have HM := Lib.hid (fun W (hW : Below w.heap.size w W) => Measure_at (mode := mode) (h.under hW) hR hd)
    have HBU := Lib.hid (build_at h (right_mode hr).2)
    rw [hr] at HR HM
    simp only [if_true] at HM ⊢
    generalize sizeM n mode = z at *
    generalize coreT n = c at *
    clear hr h hR
    go_enter Tryz.func95, Tryz.ntmps95
    go_wp2_with fail
    refine HR.out.mono ?_
    rintro v w1 ⟨rfl, hb⟩
    go_wp2_with fail
    refine (HM.out w1 hb).mono ?_
    rintro v w2 ⟨rfl, hb2⟩
    replace hb2 := hb.trans (hb2.mono hb.size)
    by_cases hz : 4096 < z
    · go_wp2
      go_returns
      exact ⟨rfl, hb2⟩
    · go_wp2_with fail
      refine (HBU.out w2 hb2).mono ?_
      rintro v w3 ⟨b3, rfl, hc3, hb3⟩
      have hs2 := hb2.size
      have hs3 := hb3.size
      have HC3 := Lib.hid (hc3.mono (S' := From w) fun k hk _ => Nat.le_trans hs2 hk)
      clear hc3
      go_wp2_with fail
      refine (wrap_at (S := From w) (fun k hk => Nat.le_trans (Nat.le_trans hs2 hs3) hk) HC3.out).mono ?_
      rintro v w4 ⟨b4, rfl, hc4, hb4⟩
      have HC4 := Lib.hid hc4
      clear hc4
      go_wp2
      go_returns
      exact ⟨⟨_, rfl, HC4.out⟩, (hb2.trans (hb3.mono hs2)).trans (hb4.mono (by omega))⟩
/-- What Parse answers. -/
def CoreIs (w w' : World) (s : ByteArray) (mode : Int) (v : Ending) : Prop :=
  if 0 ≤ mode ∧ mode < 4 then match parseB s with
    | .err p e => v = .returned (.tuple #[.pointer none, .int .i64 ((p : Nat) : Int), .int .i64 ((e : Nat) : Int)]) ∧ e ≠ 0
    | .ok n _ => if 4096 < sizeM n mode then v = .returned (.tuple #[.pointer none, .int .i64 0, .int .i64 3]) else ∃ c, v = .returned (.tuple #[cptr c, .int .i64 0, .int .i64 0]) ∧ CoreAt w' (From w) (wrapC mode (coreT n)) c
  else v = .returned (.tuple #[.pointer none, .int .i64 0, .int .i64 1])
theorem parseB_ok {s : ByteArray} {n : Tree} {j : Nat} (h : parseB s = .ok n j) : TreeOk n 200 (4 * s.size + 5) := by
  unfold parseB at h
  split at h
  · cases h
  · exact parse_good h
set_option maxHeartbeats 8000000 in
theorem cparse_at (s : ByteArray) (mode : Int) (w : World) (hT : TabOk w) :
    Calls Tryz.prog 24 #[.string s, .int .i64 mode] w fun v w' => CoreIs w w' s mode v ∧ Below w.heap.size w w' := by
  unfold CoreIs
  by_cases h0 : 0 ≤ mode
  · by_cases h4 : mode < 4
    · simp only [if_pos (show 0 ≤ mode ∧ mode < 4 from ⟨h0, h4⟩)]
      have HP := Lib.hid (sparse_at s w hT)
      unfold ParseIs at HP
      cases hp : parseB s with
      | err p e =>
        rw [hp] at HP
        simp only [] at HP ⊢
        clear hp
        go_enter Tryz.func24, Tryz.ntmps24
        go_wp2_with fail
        refine HP.out.mono ?_
        rintro v w1 ⟨⟨rfl, he⟩, hb⟩
        have hq : (((e : Nat) : Int) != 0) = true := by rw [bne_iff_ne]; omega
        go_wp2
        go_returns
        exact ⟨⟨rfl, he⟩, hb⟩
      | ok n j =>
        have hok := parseB_ok hp
        have HBI := Lib.hid (show ∀ (w w' : World) (v : Ending), BuildIs w w' n mode v → if 4096 < sizeM n mode then v = .returned (.tuple #[.pointer none, .int .i64 3]) else ∃ c, v = .returned (.tuple #[cptr c, .int .i64 0]) ∧ CoreAt w' (From w) (wrapC mode (coreT n)) c from fun w w' v h => by
          unfold BuildIs at h
          rwa [if_pos (show rightB n mode = true by unfold rightB; rw [hok.fit, decide_eq_true (show deepT n ≤ 200 from hok.deep), decide_eq_true h0, decide_eq_true h4]; rfl)] at h)
        have HB := Lib.hid (fun (W : World) (S : Nat → Prop) (b : Nat) (h : TreeAt W S n b) => Build_at (mode := mode) h hok.rng (by have := hok.deep; omega))
        rw [hp] at HP
        simp only [] at HP ⊢
        generalize sizeM n mode = z at *
        generalize wrapC mode (coreT n) = c at *
        clear hp hok
        go_enter Tryz.func24, Tryz.ntmps24
        go_wp2_with fail
        refine HP.out.mono ?_
        rintro v w1 ⟨⟨b1, rfl, ht⟩, hb⟩
        have HT1 := Lib.hid ht
        clear ht
        go_wp2_with fail
        refine (HB.out w1 _ b1 HT1.out).mono ?_
        rintro v w2 ⟨hbi, hb2⟩
        have hbi2 := HBI.out _ _ _ hbi
        have hbb := hb.trans (hb2.mono hb.size)
        have hs1 := hb.size
        clear hbi
        by_cases hz : 4096 < z
        · rw [if_pos hz] at hbi2
          subst hbi2
          go_wp2
          go_returns
          exact ⟨rfl, hbb⟩
        · rw [if_neg hz] at hbi2
          obtain ⟨c2, rfl, hc2⟩ := hbi2
          have HC := Lib.hid (hc2.mono (S' := From w) fun k hk _ => Nat.le_trans hs1 hk)
          clear hc2
          go_wp2
          go_returns
          exact ⟨⟨_, rfl, HC.out⟩, hbb⟩
    · simp only [if_neg (show ¬(0 ≤ mode ∧ mode < 4) from fun h => h4 h.2)]
      go_enter Tryz.func24, Tryz.ntmps24
      go_wp2
      go_returns
      exact ⟨rfl, Below.refl _ _⟩
  · simp only [if_neg (show ¬(0 ≤ mode ∧ mode < 4) from fun h => h0 h.1)]
    go_enter Tryz.func24, Tryz.ntmps24
    go_wp2
    go_returns
    exact ⟨rfl, Below.refl _ _⟩
end Go.Proofs.YtpiimcbbgalhfaaGreatDoor
