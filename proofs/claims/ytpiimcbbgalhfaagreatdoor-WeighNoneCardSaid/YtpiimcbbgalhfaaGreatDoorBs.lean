/- core: choices, cat, alt, repeat. -/
import Derived.Test.YtpiimcbbgalhfaaGreatDoorBr
import Derived.StillTailTactics
import Derived.Deep.AppendLies
import Derived.Deep.RegionLaw
import Derived.BigRegion
import Derived.BigQuiet
import Derived.Deep.QuietTactic
import Derived.Test.YtpiimcbbgalhfaaGreatDoorBq
namespace Go.Proofs.YtpiimcbbgalhfaaGreatDoor
set_option maxRecDepth 100000
open Go.RowKit
theorem elem_core : Elem Tryz.prog 276 47 1 8 := by
  obtain ⟨i, hi, h0, h1, h2⟩ := info_parts (by kernel_rfl : (Tryz.prog.info? 47).map (fun i => (i.zero, i.size, i.bytes)) = some (some (.pointer none), 1, 8))
  exact ⟨i, _, Tryz.underlying276, hi, h0, h1, h2, rfl, by omega⟩
theorem one_cptr (a : Option Addr) : ∀ u ∈ [Value.pointer a], u.oneCell' = true := by
  intro u hu
  obtain rfl := List.mem_singleton.1 hu
  rfl
/-- 'v = append(v, x)' at a step of a region that draws its order, v one of several rows. -/
theorem step_append_far {P : Program} {ops : Array Oper} {o : Oper} {a : Act} {W : World} {K : Act → World → Prop} {Q : Exit → Act → World → Prop} {E : Prop} (hgd : o.guard = none) (s x : Operand) (t : TypeId)
    (ho : o.op = .call { callee := .builtin .append, args := #[s, x], argTypes := #[t, t] }) (base : Nat) (e : TypeId) (size bytes : Nat) (he : Elem P t e size bytes)
    (v : Value) (n : Nat) (xs : List Value) (hs : a.eval s = v) (hown : W.ownsRow base e size v n xs) (news : List Value) (hx : a.eval x = .slice (some ⟨W.heap.size, 0, none⟩) 1 1)
    (hl : news.length = size) (h1 : ∀ u ∈ news, u.oneCell' = true) (h63 : n + 1 ≤ 9223372036854775807) (hbytes : (n + 1) * bytes ≤ 140737488355328) (hbase : base ≤ W.heap.size)
    (h : ∀ g cap w', w'.ownsRow base e size (.slice (some ⟨g, 0, none⟩) (n + 1) cap) (n + 1) (xs ++ news) → Moved W w' v g → K (a.put o.dst (.slice (some ⟨g, 0, none⟩) (n + 1) cap)) w') :
    if Region.wanted o (yielded ops a.tmps) = true then Oper.wp P o a (W.alloc (.cells news.toArray e)) K Q else E := by
  obtain ⟨i, z, ht, hi, hz, hsize, hby, hzs, hsz⟩ := he
  refine step_append_lies (w := W.alloc (.cells news.toArray e)) hgd s x t ho base e i z size bytes ht hi hz hsize hby hzs hsz v n xs hs (hown.alloc _) ⟨W.heap.size, 0, none⟩ 1 1 news hx (by omega) ?_ h1 (by omega) h63 hbytes (by simp; omega) _ rfl ?_
  · intro j u hu
    rw [show (⟨W.heap.size, 0, none⟩ : Addr).add j = ⟨W.heap.size, j, none⟩ by unfold Addr.add; split <;> simp_all]
    rw [(Blk.new W news e).cell j, hu]
  · intro g cap w' hown' hg hlie _
    have hsz' : (W.alloc (.cells news.toArray e)).heap.size = W.heap.size + 1 := by simp
    refine h g cap w' hown' ⟨hg.os, hg.tape, hg.output, by have := hg.size; omega, fun k hk hne => ?_, ?_⟩
    · exact (hg.block k (by omega) (fun e => hne e.symm)).trans (Below.heap_alloc W _ k hk)
    · rcases hlie with h | h
      · exact .inl h
      · exact .inr (by omega)
theorem cat_at {base : Nat} {S : Nat → Prop} {lv : Value} {l : List CT} {w : World} (hS : ∀ k, w.heap.size ≤ k → S k) (hl : l.length ≤ 1048577) (h : RowC base S w lv l) :
    Calls Tryz.prog 192 #[lv] w fun v w' => CPost S w w' (foldC .cat l) v := by
  have H := Lib.hid h
  have HS := Lib.hid hS
  clear h hS
  go_enter Tryz.func192, Tryz.ntmps192
  go_wp2_with fail
  refine (fold_cat HS.out hl H.out).mono ?_
  rintro v w2 ⟨b, rfl, hc, hb⟩
  have HC := Lib.hid hc
  clear hc
  go_wp2
  go_returns
  exact ⟨_, rfl, HC.out, hb⟩
theorem alt_at {base : Nat} {S : Nat → Prop} {lv : Value} {l : List CT} {w : World} (hS : ∀ k, w.heap.size ≤ k → S k) (hl : l.length ≤ 1048577) (h : RowC base S w lv l) :
    Calls Tryz.prog 193 #[lv] w fun v w' => CPost S w w' (foldC .alt l) v := by
  have H := Lib.hid h
  have HS := Lib.hid hS
  clear h hS
  go_enter Tryz.func193, Tryz.ntmps193
  go_wp2_with fail
  refine (fold_alt HS.out hl H.out).mono ?_
  rintro v w2 ⟨b, rfl, hc, hb⟩
  have HC := Lib.hid hc
  clear hc
  go_wp2
  go_returns
  exact ⟨_, rfl, HC.out, hb⟩
set_option maxHeartbeats 4000000 in
theorem choices_at {S : Nat → Prop} {c : CT} {b : Nat} (z : Bool) {w : World} {n : Int} (hn : 1 ≤ n ∧ n ≤ 1048577) (hS : ∀ k, w.heap.size ≤ k → S k) (h : CoreAt w S c b) :
    Calls Tryz.prog 248 #[cptr b, .int .i64 n, .bool z] w fun v w' => CPost S w w' (choicesC c z (n - 1).toNat) v := by
  have H := Lib.hid h
  have HS := Lib.hid hS
  clear h hS
  obtain ⟨m, rfl⟩ : ∃ m : Nat, n = (m : Int) + 1 := ⟨(n - 1).toNat, by omega⟩
  have hm : ((m : Int) + 1 - 1).toNat = m := by omega
  rw [hm]
  clear hm
  go_enter Tryz.func248, Tryz.ntmps248
  go_wp2_with fail
  refine (choice_at z HS.out H.out).mono ?_
  rintro v w2 ⟨b2, rfl, hc, hb⟩
  have HC := Lib.hid hc
  clear hc
  go_wp2_with fail
  go_loopw [7, 13] (fun ov iv wr => ∃ (j bo : Nat), j ≤ m ∧ iv = .int .i64 ((j : Nat) : Int) ∧ ov = cptr bo ∧ CoreAt wr S (choicesC c z j) bo ∧ Below w.heap.size w wr) (fun _ iv _ => m - (intOf iv).toNat)
  case atStart => exact ⟨0, b2, Nat.zero_le _, rfl, rfl, HC.out, hb⟩
  case round =>
    obtain ⟨j, bo, hj, rfl, rfl, hc, hbr⟩ := hrel
    have HCJ := Lib.hid hc
    clear hc
    by_cases hlt : j < m
    · go_wp2_with fail
      refine (two_at 2 _ _ wr).mono ?_
      rintro v w3 ⟨rfl, hn3, hb3⟩
      have hs := hbr.size
      have HN : CoreAt w3 S (.cat c (choicesC c z j)) wr.heap.size := ⟨HS.out _ hs, b, bo, hn3, (H.out.under hbr).under hb3, HCJ.out.under hb3⟩
      have HNH := Lib.hid HN
      clear hn3 HN
      have hs3 := hb3.size
      go_wp2_with fail
      refine (choice_at z (fun k hk => HS.out k (by omega)) HNH.out).mono ?_
      rintro v w4 ⟨b4, rfl, hc4, hb4⟩
      have HC4 := Lib.hid hc4
      clear hc4
      go_wp2
      go_roundw
      case rel => exact ⟨j + 1, b4, hlt, by go_num, rfl, HC4.out, (hbr.trans (hb3.mono hs)).trans (hb4.mono (by omega))⟩
      case measure => simp [intOf]; omega
    · obtain rfl : j = m := by omega
      go_wp2
      go_returns
      exact ⟨_, rfl, HCJ.out, hbr⟩
set_option maxHeartbeats 4000000 in
/-- repeat: the row of so many. -/
theorem repeat_at {S : Nat → Prop} {c : CT} {nb b : Nat} {z : Bool} {lo hi : Int} {w : World} (hlo : 0 ≤ lo ∧ lo ≤ 1048576) (hhi : -1 ≤ hi ∧ hi ≤ 1048576) (c5 : w.cell? ⟨nb, 5, none⟩ = some (.int .i64 lo)) (c6 : w.cell? ⟨nb, 6, none⟩ = some (.int .i64 hi))
    (c7 : w.cell? ⟨nb, 7, none⟩ = some (.bool z)) (hS : ∀ k, w.heap.size ≤ k → S k) (h : CoreAt w S c b) :
    Calls Tryz.prog 194 #[cptr nb, cptr b] w fun v w' => CPost S w w' (repeatC lo hi z c) v := by
  have hnl := cell_lt0 c5
  have H := Lib.hid h
  have HS := Lib.hid hS
  have HR := Lib.hid (show repeatC lo hi z c = foldC .cat (List.replicate lo.toNat c ++ tailL lo hi z c) from rfl)
  clear h hS
  obtain ⟨m, rfl⟩ : ∃ m : Nat, lo = (m : Int) := ⟨lo.toNat, by omega⟩
  simp only [Int.toNat_natCast] at HR
  go_enter Tryz.func194, Tryz.ntmps194
  go_wp2_with fail
  go_loopw [5, 10] (fun lv iv wr => ∃ (j : Nat), j ≤ m ∧ iv = .int .i64 ((j : Nat) : Int) ∧ RowC w.heap.size S wr lv (List.replicate j c) ∧ Below w.heap.size w wr) (fun _ iv _ => m - (intOf iv).toNat)
  case atStart => exact ⟨0, Nat.zero_le _, rfl, RowC.nil _ _ _, Below.refl _ _⟩
  case round =>
    obtain ⟨j, hj, rfl, hrow, hbr⟩ := hrel
    have hsz := hbr.size
    by_cases hlt : j < m
    · have hown := Lib.hid hrow.own
      obtain ⟨bs, hbs, hown2, h3⟩ := hrow
      have HOW := Lib.hid hown2
      have HBS := Lib.hid hbs
      have H3 := Lib.hid h3
      have HN := Lib.hid ((H.out.mono (S' := fun q => S q ∧ u5.ownBlock ≠ some q) (fun k hk hl => ⟨hk, fun e => by have := hown.out k e; omega⟩)).under hbr)
      have hjl : j ≤ 140737488355328 := by omega
      clear hbs hown2 h3
      go_wp2_with (first
        | (at_builtin; refine append_far rfl (.tmp 12) (.tmp 14) 276 rfl w.heap.size 47 1 8 elem_core _ _ _ rfl HOW.out [.pointer (some ⟨b, 0, none⟩)] rfl rfl (one_cptr _) ?h1 ?h2 ?h3 ?h4; (case h1 => simp only [List.length_replicate]; omega); (case h2 => simp only [List.length_replicate]; omega); (case h3 => omega); intro g5 cap5 w5 hown5 hmv))
      have HROW := Lib.hid (RowC.snoc HBS.out H3.out HN.out hown5 hmv)
      have hb5 := hmv.below hbr hsz (fun k hk => (hown.out k hk).1)
      have hrep : List.replicate j c ++ [c] = List.replicate (j + 1) c := (List.replicate_succ' ..).symm
      simp only [List.length_replicate] at HROW
      rw [hrep] at HROW
      clear hown5 hmv H3 HN
      go_wp2
      go_roundw
      case rel => exact ⟨j + 1, hlt, by go_num, by simpa only [List.length_replicate] using HROW.out, hb5⟩
      case measure => simp [intOf]; omega
    · obtain rfl : j = m := by omega
      have d5 : wr.cell? ⟨nb, 5, none⟩ = some (.int .i64 ((j : Nat) : Int)) := (hbr.cell (p := ⟨nb, 5, none⟩) hnl).trans c5
      have d6 : wr.cell? ⟨nb, 6, none⟩ = some (.int .i64 hi) := (hbr.cell (p := ⟨nb, 6, none⟩) hnl).trans c6
      have d7 : wr.cell? ⟨nb, 7, none⟩ = some (.bool z) := (hbr.cell (p := ⟨nb, 7, none⟩) hnl).trans c7
      have hnl2 := cell_lt0 d5
      clear c5 c6 c7
      by_cases hm1 : hi = -1
      · subst hm1
        have HT := Lib.hid (show tailL ((j : Nat) : Int) (-1) z c = [.star z c] from rfl)
        clear hhi
        go_wp2_with fail
        refine (star_at _ _ wr).mono ?_
        rintro v w3 ⟨rfl, hn3, hb3⟩
        have hown := Lib.hid hrow.own
        replace hrow := hrow.below hb3
        obtain ⟨bs, hbs, hown2, h3⟩ := hrow
        have HOW := Lib.hid hown2
        have HBS := Lib.hid hbs
        have H3 := Lib.hid h3
        have hsz3 := hb3.size
        clear hbs hown2 h3
        have HN := Lib.hid (show CoreAt w3 (fun q => S q ∧ u5.ownBlock ≠ some q) (.star z c) wr.heap.size from
          ⟨⟨HS.out _ hsz, fun e => by have := hown.out _ e; omega⟩, b, hn3, ((H.out.mono (S' := fun q => S q ∧ u5.ownBlock ≠ some q) (fun k hk hl => ⟨hk, fun e => by have := hown.out k e; omega⟩)).under hbr).under hb3⟩)
        clear hn3
        go_wp2_with (first | (at_builtin; refine append_far rfl (.tmp 23) (.tmp 30) 276 rfl w.heap.size 47 1 8 elem_core _ _ _ rfl HOW.out [.pointer (some ⟨wr.heap.size, 0, none⟩)] rfl rfl (one_cptr _) ?h1a ?h2a ?h3a ?h4a; (case h1a => simp only [List.length_replicate]; omega); (case h2a => simp only [List.length_replicate]; omega); (case h3a => omega); intro g5 cap5 w5 hown5 hmv))
        have HROW := Lib.hid (RowC.snoc HBS.out H3.out HN.out hown5 hmv)
        have hb5 := hmv.below (hbr.trans (hb3.mono hsz)) (by omega) (fun k hk => (hown.out k hk).1)
        simp only [List.length_replicate] at HROW
        clear hown5 hmv H3 HN
        go_wp2_with fail
        refine (cat_at (fun k hk => HS.out k (Nat.le_trans hb5.size hk)) (by simp; omega) HROW.out).mono ?_
        rintro v w6 ⟨b6, rfl, hc6, hb6⟩
        have HC6 := Lib.hid hc6
        clear hc6
        go_wp2
        go_returns
        exact ⟨b6, rfl, by rw [HR.out, HT.out]; exact HC6.out, hb5.trans (hb6.mono hb5.size)⟩
      · have hq1 : (hi == -1) = false := by rw [beq_eq_false_iff_ne]; exact hm1
        by_cases hgt : ((j : Nat) : Int) < hi
        · have HT := Lib.hid (show tailL ((j : Nat) : Int) hi z c = [choicesC c z (hi - (j : Int) - 1).toNat] by unfold tailL; rw [if_neg hm1, if_pos hgt])
          have hw1 : IntKind.i64.wrap (hi - (j : Int)) = hi - (j : Int) := IntWalk.i64_in _ (by omega)
          clear hm1
          have hd : decide (((j : Nat) : Int) < hi) = true := decide_eq_true hgt
          go_wp2_with fail
          go_quiet (fail)
          have hbd := below_drewN (Below.refl wr.heap.size wr) nq
          generalize World.drewN _ nq = wd at *
          have e5 : wd.cell? ⟨nb, 5, none⟩ = some (.int .i64 ((j : Nat) : Int)) := (hbd.cell (p := ⟨nb, 5, none⟩) hnl2).trans d5
          have e6 : wd.cell? ⟨nb, 6, none⟩ = some (.int .i64 hi) := (hbd.cell (p := ⟨nb, 6, none⟩) hnl2).trans d6
          have e7 : wd.cell? ⟨nb, 7, none⟩ = some (.bool z) := (hbd.cell (p := ⟨nb, 7, none⟩) hnl2).trans d7
          replace hrow := hrow.below hbd
          replace hbr := hbr.trans (hbd.mono hsz)
          replace hsz := hbr.size
          have hnl3 := cell_lt0 e5
          clear d5 d6 d7 hbd hnl2
          have hown := Lib.hid hrow.own
          obtain ⟨bs, hbs, hown2, h3⟩ := hrow
          have HOW := Lib.hid hown2
          have HBS := Lib.hid hbs
          have H3 := Lib.hid h3
          have HB := Lib.hid hbr
          clear hbs hown2 h3
          have HD := Lib.hid (choices_at (S := fun q => S q ∧ u5.ownBlock ≠ some q) z (w := wd.drew) (n := hi - (j : Int)) (by omega) (fun k hk => ⟨HS.out k (Nat.le_trans hsz hk), fun e => by have := (hown.out k e).2; have : wd.heap.size ≤ k := hk; omega⟩)
            (((H.out.mono (S' := fun q => S q ∧ u5.ownBlock ≠ some q) (fun k hk hl => ⟨hk, fun e => by have := hown.out k e; omega⟩)).under hbr).under (Below.refl _ wd).drew))
          go_wp2_with fail
          go_region_law (first
            | (refine step_append_far rfl (.tmp 42) (.tmp 58) 276 rfl w.heap.size 47 1 8 elem_core _ _ _ (by simp [Act.eval]) HOW3.out [.pointer (some ⟨b3, 0, none⟩)] (by simp [Act.eval]) rfl (one_cptr _) (by simp; omega) (by simp; omega) (by omega) ?_; intro g5 cap5 w5 hown5 hmv)
            | (go_simp; go_at_call 248; refine HD.out.mono ?_; rintro v w3 ⟨b3, rfl, hc3, hb3⟩; have hsz3 : wd.heap.size ≤ w3.heap.size := hb3.size; have hHB3 := Lib.hid hb3; have HOW3 := Lib.hid (own_below HOW.out.drew hb3); have HC3 := Lib.hid hc3; clear hc3 hb3))
          all_goals
            have hbx := (HB.out.drew.trans (hHB3.out.mono hsz))
            have HROW := Lib.hid (RowC.snoc HBS.out (fun k n g hk hg => ((H3.out k n g hk hg).under (Below.refl _ wd).drew).under hHB3.out) HC3.out hown5 hmv)
            have hb5 := hmv.below hbx (by omega) (fun k hk => (hown.out k hk).1)
            simp only [List.length_replicate] at HROW
            clear hown5 hmv H3 HD HC3 hbx
            go_wp2_with fail
            refine (cat_at (fun k hk => HS.out k (Nat.le_trans hb5.size hk)) (by simp; omega) HROW.out).mono ?_
            rintro v w6 ⟨b6, rfl, hc6, hb6⟩
            have HC6 := Lib.hid hc6
            clear hc6
            go_wp2
            go_returns
            exact ⟨b6, rfl, by rw [HR.out, HT.out]; exact HC6.out, hb5.trans (hb6.mono hb5.size)⟩
        · have HT := Lib.hid (show tailL ((j : Nat) : Int) hi z c = [] by unfold tailL; rw [if_neg hm1, if_neg hgt])
          have hd : decide (((j : Nat) : Int) < hi) = false := decide_eq_false hgt
          clear hm1
          go_wp2_with fail
          go_quiet (fail)
          have hbd := below_drewN (Below.refl wr.heap.size wr) nq
          generalize World.drewN _ nq = wd at *
          have HROW := Lib.hid (hrow.below hbd)
          replace hbr := hbr.trans (hbd.mono hsz)
          clear d5 d6 d7 hbd hnl2 hrow
          go_wp2_with fail
          refine (cat_at (fun k hk => HS.out k (Nat.le_trans hbr.size hk)) (by simp; omega) HROW.out).mono ?_
          rintro v w6 ⟨b6, rfl, hc6, hb6⟩
          have HC6 := Lib.hid hc6
          clear hc6
          go_wp2
          go_returns
          exact ⟨b6, rfl, by rw [HR.out, HT.out, List.append_nil]; exact HC6.out, hbr.trans (hb6.mono hbr.size)⟩
end Go.Proofs.YtpiimcbbgalhfaaGreatDoor
/- core.build: a tree's core. -/
namespace Go.Proofs.YtpiimcbbgalhfaaGreatDoor
set_option maxRecDepth 100000
open Go.RowKit
theorem fit_kids {k : Int} {set : Nat → Bool} {lo hi : Int} {z : Bool} {kids : List Tree} {f t : Nat} (h : fitT (.mk k set lo hi z kids f t) = true) : fitL kids = true := by
  simp only [fitT, Bool.and_eq_true] at h
  exact h.2
theorem fit_one {k : Int} {set : Nat → Bool} {lo hi : Int} {z : Bool} {kids : List Tree} {f t : Nat} (h : fitT (.mk k set lo hi z kids f t) = true) (hk : k = 2 ∨ k = 3 ∨ k = 6) : kids.length = 1 := by
  simp only [fitT, Bool.and_eq_true] at h
  have h := h.1
  unfold formB at h
  split at h
  · cases h
  · rw [if_neg (by omega)] at h
    by_cases h23 : k = 2 ∨ k = 3
    · rw [if_pos h23, beq_iff_eq] at h
      omega
    · rw [if_neg h23, if_neg (by omega), if_neg (by omega), if_pos (by omega)] at h
      simp only [Bool.and_eq_true, beq_iff_eq] at h
      omega
theorem fit_rep {set : Nat → Bool} {lo hi : Int} {z : Bool} {kids : List Tree} {f t : Nat} (h : fitT (.mk 6 set lo hi z kids f t) = true) : 0 ≤ lo ∧ lo ≤ 1000 ∧ (hi = -1 ∨ (lo ≤ hi ∧ hi ≤ 1000)) := by
  simp only [fitT, Bool.and_eq_true] at h
  have h := h.1
  unfold formB at h
  split at h
  · cases h
  · rw [if_neg (by omega), if_neg (by omega), if_neg (by omega), if_neg (by omega), if_pos (by omega)] at h
    simp only [Bool.and_eq_true, Bool.or_eq_true, beq_iff_eq, decide_eq_true_eq] at h
    exact ⟨h.1.2.1.1, h.1.2.1.2, h.1.2.2⟩
theorem coreL_take {l : List Tree} {i : Nat} (h : i < l.length) : coreL (l.take (i + 1)) = coreL (l.take i) ++ [coreT l[i]] := by
  rw [List.take_succ_eq_append_getElem h, coreL_map, coreL_map, List.map_append]
  rfl
theorem coreL_length (l : List Tree) : (coreL l).length = l.length := by rw [coreL_map, List.length_map]
theorem nodeC_def (k : Int) (set : Nat → Bool) (lo hi : Int) (z : Bool) (kids : List Tree) (f t : Nat) : coreT (.mk k set lo hi z kids f t) = nodeC k set lo hi z (coreL kids) := by simp only [coreT]
set_option maxHeartbeats 8000000 in
theorem build_at {w : World} {S : Nat → Prop} {n : Tree} {b : Nat} (h : TreeAt w S n b) (hf : fitT n = true) : ∀ w', Below w.heap.size w w' →
    Calls Tryz.prog 146 #[ptrV b] w' fun v w'' => CPost (From w') w' w'' (coreT n) v := by
  induction h with
  | @mk k set lo mx z kids f t b ga c A bs hSb hb hl hm hA hc hk ih =>
    intro W hW
    have hfk := fit_kids hf
    have HONE := Lib.hid (fun hk => fit_one hf hk : (k = 2 ∨ k = 3 ∨ k = 6) → kids.length = 1)
    have HREP := Lib.hid (fun (e : k = 6) => (by subst e; exact fit_rep hf) : k = 6 → 0 ≤ lo ∧ lo ≤ 1000 ∧ (mx = -1 ∨ (lo ≤ mx ∧ mx ≤ 1000)))
    have HB := Lib.hid (hb.below hW hb.lt)
    have HC := Lib.hid (nodeC_def k set lo mx z kids f t)
    generalize coreT (.mk k set lo mx z kids f t) = res at *
    have c0 : W.cell? ⟨b, 0, none⟩ = some (.int .i64 k) := HB.out.cell 0
    have c8 : W.cell? ⟨b, 8, none⟩ = some (.slice A kids.length c) := HB.out.cell 8
    have hlt := HB.out.lt
    have HI := Lib.hid (show ∀ (i : Nat) (hi : i < kids.length), ∃ g, A = some ⟨ga, 0, none⟩ ∧ W.cell? ⟨ga, i, none⟩ = some (ptrV g) ∧ ∀ w', Below w.heap.size w w' → Calls Tryz.prog 146 #[ptrV g] w' fun v w'' => CPost (From w') w' w'' (coreT kids[i]) v from fun i hi => by
      have hne : kids ≠ [] := by intro e; rw [e] at hi; exact absurd hi (Nat.not_lt_zero _)
      have hib : i < bs.length := by omega
      have hcc := hc i _ (List.getElem?_eq_getElem hib)
      exact ⟨bs[i], (hA hne).1, (hW.cell (p := ⟨ga, i, none⟩) (cell_lt0 hcc)).trans hcc, ih i _ _ (List.getElem?_eq_getElem hi) (List.getElem?_eq_getElem hib) ((fitL_iff kids).1 hfk _ (List.getElem_mem hi))⟩)
    have HT := Lib.hid (show ∀ i, i < kids.length → ∀ hi, coreL (kids.take (i + 1)) = coreL (kids.take i) ++ [coreT (kids[i]'hi)] from fun i h _ => coreL_take h)
    have HLN := Lib.hid (show ∀ i, i ≤ kids.length → (coreL (kids.take i)).length = i from fun i h => by rw [coreL_length, List.length_take]; omega)
    have HTL := Lib.hid (show coreL (kids.take kids.length) = coreL kids by rw [List.take_length])
    have HWW := Lib.hid hW
    clear hb hl hA hc hk ih hf hfk hW
    go_enter Tryz.func146, Tryz.ntmps146
    go_wp2_with fail
    go_loopw [3, 11] (fun lv iv wr => ∃ i : Nat, i ≤ kids.length ∧ iv = .int .i64 ((i : Nat) : Int) ∧ RowC W.heap.size (From W) wr lv (coreL (kids.take i)) ∧ Below W.heap.size W wr) (fun _ iv _ => kids.length - (intOf iv).toNat)
    case atStart => exact ⟨0, Nat.zero_le _, rfl, by rw [List.take_zero]; exact RowC.nil _ _ _, Below.refl _ _⟩
    case round =>
      obtain ⟨i, hi, rfl, hrow, hbr⟩ := hrel
      have hsz := hbr.size
      by_cases hlt2 : i < kids.length
      · obtain ⟨g, rfl, cg, hcall⟩ := HI.out i hlt2
        have cg2 : wr.cell? ⟨ga, i, none⟩ = some (ptrV g) := (hbr.cell (p := ⟨ga, i, none⟩) (cell_lt0 cg)).trans cg
        have hgl := cell_lt0 cg2
        have HTi := Lib.hid (HT.out i hlt2 hlt2)
        have HCALL := Lib.hid (hcall wr (HWW.out.trans (hbr.mono HWW.out.size)))
        have hown := Lib.hid hrow.own
        have HROW := Lib.hid hrow
        have HLi := Lib.hid (HLN.out i hi)
        clear hcall hrow cg
        go_wp2_with fail
        refine HCALL.out.mono ?_
        rintro v w1 ⟨g2, rfl, hcore, hb1⟩
        have hsz1 := hb1.size
        obtain ⟨bs', hbs, hown2, h3⟩ := HROW.out.below hb1
        have HOW := Lib.hid hown2
        have HBS := Lib.hid hbs
        have H3 := Lib.hid h3
        have HN := Lib.hid (hcore.mono (S' := fun q => W.heap.size ≤ q ∧ u3.ownBlock ≠ some q) (fun q hq _ => ⟨Nat.le_trans hsz hq, fun e => by have := (hown.out q e).2; have : wr.heap.size ≤ q := hq; omega⟩))
        have HB1 := Lib.hid hb1
        clear hcore hbs hown2 h3 hb1
        go_wp2_with (first
          | (at_builtin; refine append_far rfl (.tmp 15) (.tmp 18) 276 rfl W.heap.size 47 1 8 elem_core _ _ _ rfl HOW.out [.pointer (some ⟨g2, 0, none⟩)] rfl rfl (one_cptr _) ?h1 ?h2 ?h3 ?h4; (case h1 => rw [HLi.out]; omega); (case h2 => rw [HLi.out]; omega); (case h3 => omega); intro g5 cap5 w5 hown5 hmv))
        have HROW2 := Lib.hid (RowC.snoc (S := From W) HBS.out H3.out HN.out hown5 hmv)
        have hb5 := hmv.below (hbr.trans (HB1.out.mono hsz)) (by omega) (fun k hk => (hown.out k hk).1)
        rw [HLi.out, ← HTi.out] at HROW2
        rw [HLi.out]
        clear hown5 hmv H3 HN
        go_wp2
        go_roundw
        case rel => exact ⟨i + 1, hlt2, by go_num, HROW2.out, hb5⟩
        case measure => simp [intOf]; omega
      · obtain rfl : i = kids.length := by omega
        have HROW := Lib.hid hrow
        have HLi := Lib.hid (HLN.out _ (Nat.le_refl _))
        rw [HTL.out] at HROW HLi
        clear hrow hlt2
        have HBR := Lib.hid (HB.out.below hbr hlt)
        have d0 : wr.cell? ⟨b, 0, none⟩ = some (.int .i64 k) := HBR.out.cell 0
        have hlt3 := HBR.out.lt
        clear c0 c8
        have e1 : wr.cell? ⟨b, 1, none⟩ = some (.int .u64 (word set 0)) := HBR.out.cell 1
        have e2 : wr.cell? ⟨b, 2, none⟩ = some (.int .u64 (word set 1)) := HBR.out.cell 2
        have e3 : wr.cell? ⟨b, 3, none⟩ = some (.int .u64 (word set 2)) := HBR.out.cell 3
        have e4 : wr.cell? ⟨b, 4, none⟩ = some (.int .u64 (word set 3)) := HBR.out.cell 4
        by_cases h1 : k = 1
        · subst h1
          go_wp2
          go_returns
          exact ⟨_, rfl, by rw [HC.out]; exact ⟨hsz, Blk.new wr (coreV 1 set false (.pointer none) (.pointer none)) _⟩, hbr.trans ((Below.refl _ wr).alloc (Nat.le_refl _) _ |>.mono hsz)⟩
        clear e1 e2 e3 e4
        have q1 : (k == 1) = false := by rw [beq_eq_false_iff_ne]; exact h1
        by_cases h2 : k = 2
        · subst h2
          obtain ⟨x, hx⟩ : ∃ x, coreL kids = [x] := List.length_eq_one_iff.1 (by rw [HLi.out]; exact HONE.out (by omega))
          rw [hx] at HROW HLi
          obtain ⟨g, cc, rfl⟩ := HROW.out.full (by simp)
          obtain ⟨-, -, hcells⟩ := HROW.out.cells
          obtain ⟨b1, cb, hcb⟩ := hcells 0 x rfl
          have HCB := Lib.hid hcb
          have HR := Lib.hid (show res = x by rw [HC.out, hx]; rfl)
          clear hcells hcb hx
          have hgl := cell_lt0 cb
          go_wp2
          go_returns
          exact ⟨_, rfl, by rw [HR.out]; exact HCB.out, hbr⟩
        have q2 : (k == 2) = false := by rw [beq_eq_false_iff_ne]; exact h2
        by_cases h3 : k = 3
        · subst h3
          obtain ⟨x, hx⟩ : ∃ x, coreL kids = [x] := List.length_eq_one_iff.1 (by rw [HLi.out]; exact HONE.out (by omega))
          rw [hx] at HROW HLi
          obtain ⟨g, cc, rfl⟩ := HROW.out.full (by simp)
          obtain ⟨-, -, hcells⟩ := HROW.out.cells
          obtain ⟨b1, cb, hcb⟩ := hcells 0 x rfl
          have HCB := Lib.hid hcb
          have HR := Lib.hid (show res = x by rw [HC.out, hx]; rfl)
          clear hcells hcb hx
          have hgl := cell_lt0 cb
          go_wp2
          go_returns
          exact ⟨_, rfl, by rw [HR.out]; exact HCB.out, hbr⟩
        have q3 : (k == 3) = false := by rw [beq_eq_false_iff_ne]; exact h3
        have HS := Lib.hid (fun q (hq : wr.heap.size ≤ q) => Nat.le_trans hsz hq : ∀ q, wr.heap.size ≤ q → From W q)
        by_cases h4 : k = 4
        · subst h4
          go_wp2_with fail
          refine (cat_at HS.out (by rw [HLi.out]; exact hm) HROW.out).mono ?_
          rintro v w6 ⟨b6, rfl, hc6, hb6⟩
          have HC6 := Lib.hid hc6
          clear hc6
          go_wp2
          go_returns
          exact ⟨b6, rfl, by rw [HC.out]; exact HC6.out, hbr.trans (hb6.mono hsz)⟩
        have q4 : (k == 4) = false := by rw [beq_eq_false_iff_ne]; exact h4
        by_cases h5 : k = 5
        · subst h5
          go_wp2_with fail
          refine (alt_at HS.out (by rw [HLi.out]; exact hm) HROW.out).mono ?_
          rintro v w6 ⟨b6, rfl, hc6, hb6⟩
          have HC6 := Lib.hid hc6
          clear hc6
          go_wp2
          go_returns
          exact ⟨b6, rfl, by rw [HC.out]; exact HC6.out, hbr.trans (hb6.mono hsz)⟩
        have q5 : (k == 5) = false := by rw [beq_eq_false_iff_ne]; exact h5
        by_cases h6 : k = 6
        · subst h6
          obtain ⟨x, hx⟩ : ∃ x, coreL kids = [x] := List.length_eq_one_iff.1 (by rw [HLi.out]; exact HONE.out (by omega))
          rw [hx] at HROW HLi
          obtain ⟨g, cc, rfl⟩ := HROW.out.full (by simp)
          obtain ⟨-, -, hcells⟩ := HROW.out.cells
          obtain ⟨b1, cb, hcb⟩ := hcells 0 x rfl
          have HCB := Lib.hid hcb
          have HR := Lib.hid (show res = repeatC lo mx z x by rw [HC.out, hx]; rfl)
          have hrep := HREP.out rfl
          clear hcells hcb hx
          have hgl := cell_lt0 cb
          have e5 : wr.cell? ⟨b, 5, none⟩ = some (.int .i64 lo) := HBR.out.cell 5
          have e6 : wr.cell? ⟨b, 6, none⟩ = some (.int .i64 mx) := HBR.out.cell 6
          have e7 : wr.cell? ⟨b, 7, none⟩ = some (.bool z) := HBR.out.cell 7
          have HREPAT := Lib.hid (repeat_at (w := wr) (S := From W) (nb := b) (b := b1) ⟨hrep.1, by omega⟩ ⟨by omega, by omega⟩ e5 e6 e7 HS.out HCB.out)
          clear e5 e6 e7 hrep
          go_wp2_with fail
          refine HREPAT.out.mono ?_
          rintro v w6 ⟨b6, rfl, hc6, hb6⟩
          have HC6 := Lib.hid hc6
          clear hc6
          go_wp2
          go_returns
          exact ⟨b6, rfl, by rw [HR.out]; exact HC6.out, hbr.trans (hb6.mono hsz)⟩
        have q6 : (k == 6) = false := by rw [beq_eq_false_iff_ne]; exact h6
        have HR := Lib.hid (show res = .empty by rw [HC.out]; unfold nodeC; rw [if_neg h1, if_neg (by omega), if_neg h4, if_neg h5, if_neg h6])
        clear h1 h2 h3 h4 h5 h6
        go_wp2
        go_returns
        exact ⟨_, rfl, by rw [HR.out]; exact ⟨hsz, by rw [coreV_noset]; exact Blk.new wr _ _⟩, hbr.trans ((Below.refl _ wr).alloc (Nat.le_refl _) _ |>.mono hsz)⟩
end Go.Proofs.YtpiimcbbgalhfaaGreatDoor
