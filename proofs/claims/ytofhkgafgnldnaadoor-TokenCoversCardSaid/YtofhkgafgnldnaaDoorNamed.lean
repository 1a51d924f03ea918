/- token.named: the set of a letter behind a backslash. -/
import Derived.Test.YtofhkgafgnldnaaDoorRdr
import Derived.Test.YtofhkgafgnldnaaDoorOps9
import Derived.Test.YtofhkgafgnldnaaDoorFrame
import Derived.Test.YtofhkgafgnldnaaDoorRegLast
namespace Go.Proofs.YtofhkgafgnldnaaDoor
open Go.RowKit
noncomputable def nmd_ops : Array Oper := regOf Tryd.f38 2
def nmd_S (_u : Unit) : List RK := [RK.eq (setV digitsM), RK.eq (setV (rangeM 97 122)), RK.eq (setV (rangeM 65 90)), RK.val (RG.rd .u8 [95]), RK.eq (setV (ofM [95])), RK.val (RG.sets [digitsM, (rangeM 97 122), (rangeM 65 90), (ofM [95])]), RK.eq (setV (anyM [digitsM, (rangeM 97 122), (rangeM 65 90), (ofM [95])])), RK.new 32 4, RK.put 7 (setL (anyM [digitsM, (rangeM 97 122), (rangeM 65 90), (ofM [95])]))]
theorem nmd_o0 (_u : Unit) (b : Nat) (Q : Exit → Act → World → Prop) (a0 : Act) (w0 : World) (hs4 : a0.tmps.getD 4 undef = .pointer (some ⟨b, 0, none⟩)) (hB4 : Blk w0 b 32 (setL digitsM)) : Obl Tryd.prog nmd_ops (nmd_S _u) Q a0 w0 0 :=
  obl_load_old 4 (b) rfl none (by kernel_rfl) (by kernel_rfl) hs4 hB4 (fun a w N H D => (fun _ _ hg => by cases hg))
theorem nmd_o1 (_u : Unit) (Q : Exit → Act → World → Prop) (a0 : Act) (w0 : World)  : Obl Tryd.prog nmd_ops (nmd_S _u) Q a0 w0 1 :=
  obl_val (.call { callee := .value (.func 48), args := #[.const (.int .u8 97), .const (.int .u8 122)], argTypes := #[5, 5] }) none rfl (by kernel_rfl) fun a w N H D => ⟨(fun _ _ hg => by cases hg), fun _ ho => wp_call_eq ho (fun xs w => by kernel_rfl) (by simp only [List.map_toArray, List.map_cons, List.map_nil]; rfl) (range_any 97 122 (by omega) (by omega) _)⟩
theorem nmd_o2 (_u : Unit) (Q : Exit → Act → World → Prop) (a0 : Act) (w0 : World)  : Obl Tryd.prog nmd_ops (nmd_S _u) Q a0 w0 2 :=
  obl_val (.call { callee := .value (.func 48), args := #[.const (.int .u8 65), .const (.int .u8 90)], argTypes := #[5, 5] }) none rfl (by kernel_rfl) fun a w N H D => ⟨(fun _ _ hg => by cases hg), fun _ ho => wp_call_eq ho (fun xs w => by kernel_rfl) (by simp only [List.map_toArray, List.map_cons, List.map_nil]; rfl) (range_any 65 90 (by omega) (by omega) _)⟩
theorem nmd_o3 (_u : Unit) (Q : Exit → Act → World → Prop) (a0 : Act) (w0 : World)  : Obl Tryd.prog nmd_ops (nmd_S _u) Q a0 w0 3 :=
  obl_val (.buildSlice 38 1 #[(0, .const (.int .u8 95))]) none rfl (by kernel_rfl) fun a w N H D => ⟨(fun _ _ hg => by cases hg), fun _ ho => wp_build_u8 ho rfl⟩
theorem nmd_o4 (_u : Unit) (Q : Exit → Act → World → Prop) (a0 : Act) (w0 : World)  : Obl Tryd.prog nmd_ops (nmd_S _u) Q a0 w0 4 :=
  obl_val (.call { callee := .value (.func 29), args := #[.tmp 11], argTypes := #[38] }) none rfl (by kernel_rfl) fun a w N H D => ⟨(fun _ _ hg => by cases hg), fun _ ho => wp_of (l := [95]) ho (fact_val (D 3 (by kernel_rfl)) rfl (by kernel_rfl)) (by intro x hx; obtain rfl := List.mem_singleton.1 hx; omega)⟩
theorem nmd_o5 (_u : Unit) (Q : Exit → Act → World → Prop) (a0 : Act) (w0 : World)  : Obl Tryd.prog nmd_ops (nmd_S _u) Q a0 w0 5 :=
  obl_val (.buildSlice 89 4 #[(0, .tmp 8), (1, .tmp 9), (2, .tmp 10), (3, .tmp 12)]) none rfl (by kernel_rfl) fun a w N H D => ⟨(fun _ _ hg => by cases hg), fun _ ho => wp_build4 ho (fact_eq (c := setV digitsM) (D 0 (by kernel_rfl)) rfl (by kernel_rfl)) (fact_eq (c := setV (rangeM 97 122)) (D 1 (by kernel_rfl)) rfl (by kernel_rfl)) (fact_eq (c := setV (rangeM 65 90)) (D 2 (by kernel_rfl)) rfl (by kernel_rfl)) (fact_eq (c := setV (ofM [95])) (D 4 (by kernel_rfl)) rfl (by kernel_rfl))⟩
theorem nmd_o6 (_u : Unit) (Q : Exit → Act → World → Prop) (a0 : Act) (w0 : World)  : Obl Tryd.prog nmd_ops (nmd_S _u) Q a0 w0 6 :=
  obl_val (.call { callee := .value (.func 36), args := #[.tmp 13], argTypes := #[89] }) none rfl (by kernel_rfl) fun a w N H D => ⟨(fun _ _ hg => by cases hg), fun _ ho => wp_call_eq (xs := #[a.eval (.tmp 13)]) ho (fun xs w => by kernel_rfl) (by simp only [List.map_toArray, List.map_cons, List.map_nil]) (union_any [digitsM, (rangeM 97 122), (rangeM 65 90), (ofM [95])] _ _ (RG.sets_rd (fact_val (D 5 (by kernel_rfl)) rfl (by kernel_rfl))))⟩
theorem nmd_o7 (_u : Unit) (Q : Exit → Act → World → Prop) (a0 : Act) (w0 : World)  : Obl Tryd.prog nmd_ops (nmd_S _u) Q a0 w0 7 :=
  obl_new rfl (by kernel_rfl)
theorem nmd_o8 (_u : Unit) (Q : Exit → Act → World → Prop) (a0 : Act) (w0 : World)  : Obl Tryd.prog nmd_ops (nmd_S _u) Q a0 w0 8 :=
  obl_put 5 7 14 6 rfl (by kernel_rfl) (by kernel_rfl) rfl (by kernel_rfl) rfl (by kernel_rfl) (by kernel_rfl) (by kernel_rfl)
theorem nmd_all (_u : Unit) (b : Nat) (Q : Exit → Act → World → Prop) (a0 : Act) (w0 : World) (hs4 : a0.tmps.getD 4 undef = .pointer (some ⟨b, 0, none⟩)) (hB4 : Blk w0 b 32 (setL digitsM)) : ∀ i, i < nmd_ops.size → Obl Tryd.prog nmd_ops (nmd_S _u) Q a0 w0 i := by
  intro i hi_
  have hs : nmd_ops.size = 9 := by kernel_rfl
  rw [hs] at hi_
  clear hs
  match i, hi_ with
  | 0, _ => exact nmd_o0 _u b Q a0 w0 hs4 hB4
  | 1, _ => exact nmd_o1 _u  Q a0 w0 
  | 2, _ => exact nmd_o2 _u  Q a0 w0 
  | 3, _ => exact nmd_o3 _u  Q a0 w0 
  | 4, _ => exact nmd_o4 _u  Q a0 w0 
  | 5, _ => exact nmd_o5 _u  Q a0 w0 
  | 6, _ => exact nmd_o6 _u  Q a0 w0 
  | 7, _ => exact nmd_o7 _u  Q a0 w0 
  | 8, _ => exact nmd_o8 _u  Q a0 w0 
  | i + 9, h => exact absurd h (by omega)
theorem ret_set2 {fn : Func} {R : Ending → World → Prop} {a : Act} {w : World} {b r s : Nat} {u0 u1 u2 u3 v : Value} (hres : fn.results = #[.cell r 32, .tmp s])
    (hr : a.tmps.getD r undef = .pointer (some ⟨b, 0, none⟩)) (hs : a.tmps.getD s undef = v) (h : Blk w b 32 [u0, u1, u2, u3]) (hd : a.defers = []) (hR : R (.returned (.tuple #[.agg #[u0, u1, u2, u3], v])) w) : bodyPost Tryd.prog fn R .ret a w := by
  obtain ⟨c0, c1, c2, c3, _⟩ := h.four
  refine bodyPost_ret (v := .tuple #[.agg #[u0, u1, u2, u3], v]) ?_ hd hR
  have hr' : a.tmps[r]?.getD undef = .pointer (some ⟨b, 0, none⟩) := by simpa using hr
  have hs' : a.tmps[s]?.getD undef = v := by simpa using hs
  simp [results, hres, go_sem, hr', hs', c0, c1, c2, c3]
def namedV (c : Nat) : Nat → Bool := (namedM c).getD noSet
theorem setL_none : setL noSet = [.int .u64 0, .int .u64 0, .int .u64 0, .int .u64 0] := by unfold noSet; simp only [setL, word_none]
theorem rd_u8 (w : World) (c : Nat) : Rd (w.alloc (.cells #[.int .u8 ((c : Nat) : Int)] 5)) .u8 (.slice (some ⟨w.heap.size, 0, none⟩) 1 1) [((c : Nat) : Int)] :=
  ⟨_, _, rfl, Nat.le_refl _, by simp, fun i x hi => ⟨_, rfl, (Blk.new w [.int .u8 ((c : Nat) : Int)] 5).lt, by
    match i, hi with
    | 0, hi =>
      simp only [List.getElem?_cons_zero, Option.some.injEq] at hi
      subst hi
      exact (Blk.new w [.int .u8 ((c : Nat) : Int)] 5).cell 0
    | i + 1, hi => simp at hi⟩⟩
theorem of_one {c : Nat} (hc : c < 256) {g : Nat} (w : World) (hg : w.heap.size = g) : Calls Tryd.prog 29 #[.slice (some ⟨g, 0, none⟩) 1 1] (w.alloc (.cells #[.int .u8 ((c : Nat) : Int)] 5)) fun e w' => e = .returned (setV (oneM c)) ∧ Below (w.heap.size + 1) (w.alloc (.cells #[.int .u8 ((c : Nat) : Int)] 5)) w' := by
  subst hg
  have h := of_any [((c : Nat) : Int)] _ _ (rd_u8 w c) (by intro x hx; obtain rfl := List.mem_singleton.1 hx; omega)
  rwa [show (w.alloc (.cells #[.int .u8 ((c : Nat) : Int)] 5)).heap.size = w.heap.size + 1 by simp] at h
theorem Blk.below1 {w w' : World} {b t : Nat} {l : List Value} {o : Obj} (h : Blk w b t l) (hb : Below (w.heap.size + 1) (w.alloc o) w') : Blk w' b t l := (h.alloc o).below hb (Nat.lt_succ_of_lt h.lt)
theorem below1 {B : Nat} {a w w' : World} {o : Obj} (h : Below B a w) (hB : B ≤ w.heap.size) (hb : Below (w.heap.size + 1) (w.alloc o) w') : Below B a w' := (h.alloc hB o).trans (hb.mono (Nat.le_succ_of_le hB))
set_option maxRecDepth 100000 in
set_option maxHeartbeats 2000000 in
theorem named_at (c : Nat) (hc : c < 256) (w : World) : Calls Tryd.prog 38 #[.int .u8 ((c : Nat) : Int)] w fun v w' => v = .returned (.tuple #[setV (namedV c), .bool (namedM c).isSome]) ∧ Below w.heap.size w w' := by
  go_enter Tryd.func38, Tryd.ntmps38
  go_wp2_with fail
  have hr := range_any 48 57 (by omega) (by omega) (w.alloc (.cells #[.int .u64 0, .int .u64 0, .int .u64 0, .int .u64 0] 32))
  refine hr.mono ?_
  clear hr
  rintro v w1 ⟨rfl, hb⟩
  have hB2 : Blk w1 w.heap.size 32 (setL noSet) := by
    have h0 := Blk.new w (setL noSet) 32
    rw [setL_none] at h0 ⊢
    exact h0.below hb h0.lt
  have hw1 : Below w.heap.size w w1 := ((Below.refl _ w).alloc (Nat.le_refl _) _).trans (hb.mono (by simp))
  clear hb
  rw [show setV (rangeM 48 57) = setV digitsM from rfl]
  unfold setV
  go_wp2_with fail
  have hB4 := Blk.new w1 (setL digitsM) 32
  have hB2' := hB2.alloc (.cells (setL digitsM).toArray 32)
  have hw1' := hw1.alloc hw1.size (.cells (setL digitsM).toArray 32)
  refine region_named (ops' := nmd_ops) (by kernel_rfl) (nmd_S ()) 63 rfl (by kernel_rfl) (by kernel_rfl) (nmd_all () w1.heap.size _ _ _ rfl hB4.drew) ?_
  rename_i hK
  intro a w2 N H hF
  obtain ⟨b5, q5, hB5⟩ : ∃ b, a.tmps.getD 5 undef = .pointer (some ⟨b, 0, none⟩) ∧ Blk w2 b 32 (setL wordM) := fact_put (hF 8 (by kernel_rfl)) rfl rfl (by kernel_rfl)
  have hb2 := H.below
  have hB24 := hB4.drew.below hb2 hB4.drew.lt
  have hB22 := hB2'.drew.below hb2 hB2'.drew.lt
  have hw2 : Below w.heap.size w w2 := hw1'.drew.trans (hb2.mono hw1'.drew.size)
  refine hK _ _ ?_
  rw [held_frame H [5, 8, 9, 10, 11, 12, 13, 14] (by kernel_rfl)]
  simp only [putAll, List.map_cons, List.map_nil, List.foldl_cons, List.foldl_nil, List.setIfInBounds_toArray, List.set_cons_zero, List.set_cons_succ, q5]
  generalize a.tmps.getD 8 undef = z8
  generalize a.tmps.getD 9 undef = z9
  generalize a.tmps.getD 10 undef = z10
  generalize a.tmps.getD 11 undef = z11
  generalize a.tmps.getD 12 undef = z12
  generalize a.tmps.getD 13 undef = z13
  generalize a.tmps.getD 14 undef = z14
  clear hF H q5 hK hB4 hB2 hB2' hw1 hw1' hb2
  clear a N
  generalize w1.heap.size = b4 at *
  clear w1
  go_wp2_with fail
  refine (range_any 9 13 (by omega) (by omega) _).mono ?_
  rintro v w3 ⟨rfl, hb⟩
  have h24 := hB24.below hb hB24.lt
  have h25 := hB5.below hb hB5.lt
  have h22 := hB22.below hb hB22.lt
  have hw3 := hw2.trans (hb.mono hw2.size)
  clear hB24 hB5 hB22 hw2 hb
  generalize hs9 : setV (rangeM 9 13) = v9
  go_wp2_with fail
  refine (of_one (c := 32) (by omega) _ rfl).mono ?_
  rintro v w4 ⟨rfl, hb⟩
  have hb34 : Below w3.heap.size w3 w4 := below1 (Below.refl _ w3) (Nat.le_refl _) hb
  have h34 := h24.below hb34 h24.lt
  have h35 := h25.below hb34 h25.lt
  have h32 := h22.below hb34 h22.lt
  have hw4 := hw3.trans (hb34.mono hw3.size)
  clear h24 h25 h22 hw3 hb
  subst hs9
  have hrd := rdS_new w4 [rangeM 9 13, oneM 32] 32 (by simp) _ rfl
  have hrn := run_build2 (rangeM 9 13) (oneM 32) w4
  unfold setV at hrn
  unfold setV
  go_wp2_with fail
  refine (union_any [rangeM 9 13, oneM 32] _ _ hrd).mono ?_
  rintro v w5 ⟨rfl, hb⟩
  have hb45 : Below w4.heap.size w4 w5 := ((Below.refl _ w4).alloc (Nat.le_refl _) _).trans (hb.mono (by simp))
  have h44 := h34.below hb45 h34.lt
  have h45 := h35.below hb45 h35.lt
  have h42 := h32.below hb45 h32.lt
  have hw5 := hw4.trans (hb45.mono hw4.size)
  clear h34 h35 h32 hw4 hb hrd hrn hb34 hb45
  rw [show setV (anyM [rangeM 9 13, oneM 32]) = setV spaceM from rfl]
  unfold setV
  by_cases h110 : c = 110
  · have hv : namedV c = oneM 10 := by subst h110; rfl
    have hm : (namedM c).isSome = true := by subst h110; rfl
    have HV := Lib.hid hv
    have HM := Lib.hid hm
    clear hv hm
    have h46 := Blk.new w5 (setL spaceM) 32
    have k44 := h44.alloc (.cells (setL spaceM).toArray 32)
    have k45 := h45.alloc (.cells (setL spaceM).toArray 32)
    have k42 := h42.alloc (.cells (setL spaceM).toArray 32)
    have kw := hw5.alloc hw5.size (.cells (setL spaceM).toArray 32)
    go_wp2_with fail
    refine (of_one (c := 10) (by omega) _ (by simp)).mono ?_
    rintro v w6 ⟨rfl, hb⟩
    have k62 := k42.below1 hb
    have kw6 := below1 kw kw.size hb
    unfold setV
    obtain ⟨y0, y1, y2, y3, f0, f1, f2, f3⟩ := k62.four
    go_wp2
    refine ret_set2 (b := w.heap.size) (r := 2) (s := 3) rfl rfl rfl (k62.set4 _ _ _ _) rfl ⟨ret_congr (by rw [HV.out, HM.out]; try rfl), below_set4 (kw6) (Nat.le_refl _) _ _ _ _⟩
  by_cases h116 : c = 116
  · have hv : namedV c = oneM 9 := by subst h116; rfl
    have hm : (namedM c).isSome = true := by subst h116; rfl
    have HV := Lib.hid hv
    have HM := Lib.hid hm
    clear hv hm
    have h46 := Blk.new w5 (setL spaceM) 32
    have k44 := h44.alloc (.cells (setL spaceM).toArray 32)
    have k45 := h45.alloc (.cells (setL spaceM).toArray 32)
    have k42 := h42.alloc (.cells (setL spaceM).toArray 32)
    have kw := hw5.alloc hw5.size (.cells (setL spaceM).toArray 32)
    go_wp2_with fail
    refine (of_one (c := 9) (by omega) _ (by simp)).mono ?_
    rintro v w6 ⟨rfl, hb⟩
    have k62 := k42.below1 hb
    have kw6 := below1 kw kw.size hb
    unfold setV
    obtain ⟨y0, y1, y2, y3, f0, f1, f2, f3⟩ := k62.four
    go_wp2
    refine ret_set2 (b := w.heap.size) (r := 2) (s := 3) rfl rfl rfl (k62.set4 _ _ _ _) rfl ⟨ret_congr (by rw [HV.out, HM.out]; try rfl), below_set4 (kw6) (Nat.le_refl _) _ _ _ _⟩
  by_cases h114 : c = 114
  · have hv : namedV c = oneM 13 := by subst h114; rfl
    have hm : (namedM c).isSome = true := by subst h114; rfl
    have HV := Lib.hid hv
    have HM := Lib.hid hm
    clear hv hm
    have h46 := Blk.new w5 (setL spaceM) 32
    have k44 := h44.alloc (.cells (setL spaceM).toArray 32)
    have k45 := h45.alloc (.cells (setL spaceM).toArray 32)
    have k42 := h42.alloc (.cells (setL spaceM).toArray 32)
    have kw := hw5.alloc hw5.size (.cells (setL spaceM).toArray 32)
    go_wp2_with fail
    refine (of_one (c := 13) (by omega) _ (by simp)).mono ?_
    rintro v w6 ⟨rfl, hb⟩
    have k62 := k42.below1 hb
    have kw6 := below1 kw kw.size hb
    unfold setV
    obtain ⟨y0, y1, y2, y3, f0, f1, f2, f3⟩ := k62.four
    go_wp2
    refine ret_set2 (b := w.heap.size) (r := 2) (s := 3) rfl rfl rfl (k62.set4 _ _ _ _) rfl ⟨ret_congr (by rw [HV.out, HM.out]; try rfl), below_set4 (kw6) (Nat.le_refl _) _ _ _ _⟩
  by_cases h102 : c = 102
  · have hv : namedV c = oneM 12 := by subst h102; rfl
    have hm : (namedM c).isSome = true := by subst h102; rfl
    have HV := Lib.hid hv
    have HM := Lib.hid hm
    clear hv hm
    have h46 := Blk.new w5 (setL spaceM) 32
    have k44 := h44.alloc (.cells (setL spaceM).toArray 32)
    have k45 := h45.alloc (.cells (setL spaceM).toArray 32)
    have k42 := h42.alloc (.cells (setL spaceM).toArray 32)
    have kw := hw5.alloc hw5.size (.cells (setL spaceM).toArray 32)
    go_wp2_with fail
    refine (of_one (c := 12) (by omega) _ (by simp)).mono ?_
    rintro v w6 ⟨rfl, hb⟩
    have k62 := k42.below1 hb
    have kw6 := below1 kw kw.size hb
    unfold setV
    obtain ⟨y0, y1, y2, y3, f0, f1, f2, f3⟩ := k62.four
    go_wp2
    refine ret_set2 (b := w.heap.size) (r := 2) (s := 3) rfl rfl rfl (k62.set4 _ _ _ _) rfl ⟨ret_congr (by rw [HV.out, HM.out]; try rfl), below_set4 (kw6) (Nat.le_refl _) _ _ _ _⟩
  by_cases h118 : c = 118
  · have hv : namedV c = oneM 11 := by subst h118; rfl
    have hm : (namedM c).isSome = true := by subst h118; rfl
    have HV := Lib.hid hv
    have HM := Lib.hid hm
    clear hv hm
    have h46 := Blk.new w5 (setL spaceM) 32
    have k44 := h44.alloc (.cells (setL spaceM).toArray 32)
    have k45 := h45.alloc (.cells (setL spaceM).toArray 32)
    have k42 := h42.alloc (.cells (setL spaceM).toArray 32)
    have kw := hw5.alloc hw5.size (.cells (setL spaceM).toArray 32)
    go_wp2_with fail
    refine (of_one (c := 11) (by omega) _ (by simp)).mono ?_
    rintro v w6 ⟨rfl, hb⟩
    have k62 := k42.below1 hb
    have kw6 := below1 kw kw.size hb
    unfold setV
    obtain ⟨y0, y1, y2, y3, f0, f1, f2, f3⟩ := k62.four
    go_wp2
    refine ret_set2 (b := w.heap.size) (r := 2) (s := 3) rfl rfl rfl (k62.set4 _ _ _ _) rfl ⟨ret_congr (by rw [HV.out, HM.out]; try rfl), below_set4 (kw6) (Nat.le_refl _) _ _ _ _⟩
  by_cases h100 : c = 100
  · have hv : namedV c = digitsM := by subst h100; rfl
    have hm : (namedM c).isSome = true := by subst h100; rfl
    have HV := Lib.hid hv
    have HM := Lib.hid hm
    clear hv hm
    have h46 := Blk.new w5 (setL spaceM) 32
    have k44 := h44.alloc (.cells (setL spaceM).toArray 32)
    have k45 := h45.alloc (.cells (setL spaceM).toArray 32)
    have k42 := h42.alloc (.cells (setL spaceM).toArray 32)
    have kw := hw5.alloc hw5.size (.cells (setL spaceM).toArray 32)
    obtain ⟨x0, x1, x2, x3, _, _, _, _⟩ := k44.four
    obtain ⟨y0, y1, y2, y3, f0, f1, f2, f3⟩ := (k42).four
    go_wp2
    refine ret_set2 (b := w.heap.size) (r := 2) (s := 3) rfl rfl rfl (k42.set4 _ _ _ _) rfl ⟨ret_congr (by rw [HV.out, HM.out]; try rfl), below_set4 (kw) (Nat.le_refl _) _ _ _ _⟩
  by_cases h119 : c = 119
  · have hv : namedV c = wordM := by subst h119; rfl
    have hm : (namedM c).isSome = true := by subst h119; rfl
    have HV := Lib.hid hv
    have HM := Lib.hid hm
    clear hv hm
    have h46 := Blk.new w5 (setL spaceM) 32
    have k44 := h44.alloc (.cells (setL spaceM).toArray 32)
    have k45 := h45.alloc (.cells (setL spaceM).toArray 32)
    have k42 := h42.alloc (.cells (setL spaceM).toArray 32)
    have kw := hw5.alloc hw5.size (.cells (setL spaceM).toArray 32)
    obtain ⟨x0, x1, x2, x3, _, _, _, _⟩ := k45.four
    obtain ⟨y0, y1, y2, y3, f0, f1, f2, f3⟩ := (k42).four
    go_wp2
    refine ret_set2 (b := w.heap.size) (r := 2) (s := 3) rfl rfl rfl (k42.set4 _ _ _ _) rfl ⟨ret_congr (by rw [HV.out, HM.out]; try rfl), below_set4 (kw) (Nat.le_refl _) _ _ _ _⟩
  by_cases h115 : c = 115
  · have hv : namedV c = spaceM := by subst h115; rfl
    have hm : (namedM c).isSome = true := by subst h115; rfl
    have HV := Lib.hid hv
    have HM := Lib.hid hm
    clear hv hm
    have h46 := Blk.new w5 (setL spaceM) 32
    have k44 := h44.alloc (.cells (setL spaceM).toArray 32)
    have k45 := h45.alloc (.cells (setL spaceM).toArray 32)
    have k42 := h42.alloc (.cells (setL spaceM).toArray 32)
    have kw := hw5.alloc hw5.size (.cells (setL spaceM).toArray 32)
    obtain ⟨x0, x1, x2, x3, _, _, _, _⟩ := h46.four
    obtain ⟨y0, y1, y2, y3, f0, f1, f2, f3⟩ := (k42).four
    go_wp2
    refine ret_set2 (b := w.heap.size) (r := 2) (s := 3) rfl rfl rfl (k42.set4 _ _ _ _) rfl ⟨ret_congr (by rw [HV.out, HM.out]; try rfl), below_set4 (kw) (Nat.le_refl _) _ _ _ _⟩
  by_cases h68 : c = 68
  · have hv : namedV c = notM digitsM := by subst h68; rfl
    have hm : (namedM c).isSome = true := by subst h68; rfl
    have HV := Lib.hid hv
    have HM := Lib.hid hm
    clear hv hm
    have h46 := Blk.new w5 (setL spaceM) 32
    have k44 := h44.alloc (.cells (setL spaceM).toArray 32)
    have k45 := h45.alloc (.cells (setL spaceM).toArray 32)
    have k42 := h42.alloc (.cells (setL spaceM).toArray 32)
    have kw := hw5.alloc hw5.size (.cells (setL spaceM).toArray 32)
    obtain ⟨x0, x1, x2, x3, _, _, _, _⟩ := k44.four
    go_wp2_with fail
    refine (not_any digitsM _).mono ?_
    rintro v w6 ⟨rfl, hb⟩
    have k62 := (k42).below hb (k42).lt
    have kw6 := (kw).trans (hb.mono (kw).size)
    unfold setV
    obtain ⟨y0, y1, y2, y3, f0, f1, f2, f3⟩ := k62.four
    go_wp2
    refine ret_set2 (b := w.heap.size) (r := 2) (s := 3) rfl rfl rfl (k62.set4 _ _ _ _) rfl ⟨ret_congr (by rw [HV.out, HM.out]; try rfl), below_set4 (kw6) (Nat.le_refl _) _ _ _ _⟩
  by_cases h87 : c = 87
  · have hv : namedV c = notM wordM := by subst h87; rfl
    have hm : (namedM c).isSome = true := by subst h87; rfl
    have HV := Lib.hid hv
    have HM := Lib.hid hm
    clear hv hm
    have h46 := Blk.new w5 (setL spaceM) 32
    have k44 := h44.alloc (.cells (setL spaceM).toArray 32)
    have k45 := h45.alloc (.cells (setL spaceM).toArray 32)
    have k42 := h42.alloc (.cells (setL spaceM).toArray 32)
    have kw := hw5.alloc hw5.size (.cells (setL spaceM).toArray 32)
    obtain ⟨x0, x1, x2, x3, _, _, _, _⟩ := k45.four
    go_wp2_with fail
    refine (not_any wordM _).mono ?_
    rintro v w6 ⟨rfl, hb⟩
    have k62 := (k42).below hb (k42).lt
    have kw6 := (kw).trans (hb.mono (kw).size)
    unfold setV
    obtain ⟨y0, y1, y2, y3, f0, f1, f2, f3⟩ := k62.four
    go_wp2
    refine ret_set2 (b := w.heap.size) (r := 2) (s := 3) rfl rfl rfl (k62.set4 _ _ _ _) rfl ⟨ret_congr (by rw [HV.out, HM.out]; try rfl), below_set4 (kw6) (Nat.le_refl _) _ _ _ _⟩
  by_cases h83 : c = 83
  · have hv : namedV c = notM spaceM := by subst h83; rfl
    have hm : (namedM c).isSome = true := by subst h83; rfl
    have HV := Lib.hid hv
    have HM := Lib.hid hm
    clear hv hm
    have h46 := Blk.new w5 (setL spaceM) 32
    have k44 := h44.alloc (.cells (setL spaceM).toArray 32)
    have k45 := h45.alloc (.cells (setL spaceM).toArray 32)
    have k42 := h42.alloc (.cells (setL spaceM).toArray 32)
    have kw := hw5.alloc hw5.size (.cells (setL spaceM).toArray 32)
    obtain ⟨x0, x1, x2, x3, _, _, _, _⟩ := h46.four
    go_wp2_with fail
    refine (not_any spaceM _).mono ?_
    rintro v w6 ⟨rfl, hb⟩
    have k62 := (k42).below hb (k42).lt
    have kw6 := (kw).trans (hb.mono (kw).size)
    unfold setV
    obtain ⟨y0, y1, y2, y3, f0, f1, f2, f3⟩ := k62.four
    go_wp2
    refine ret_set2 (b := w.heap.size) (r := 2) (s := 3) rfl rfl rfl (k62.set4 _ _ _ _) rfl ⟨ret_congr (by rw [HV.out, HM.out]; try rfl), below_set4 (kw6) (Nat.le_refl _) _ _ _ _⟩
  have hv : namedM c = none := by
    unfold namedM
    rw [if_neg h110, if_neg h116, if_neg h114, if_neg h102, if_neg h118, if_neg h100, if_neg h119, if_neg h115, if_neg h68, if_neg h87, if_neg h83]
  have hv2 : namedV c = noSet := by unfold namedV; rw [hv]; rfl
  have hm : (namedM c).isSome = false := by rw [hv]; rfl
  have HV := Lib.hid hv2
  have HM := Lib.hid hm
  clear hv hv2 hm
  have k42 := h42.alloc (.cells (setL spaceM).toArray 32)
  have kw := hw5.alloc hw5.size (.cells (setL spaceM).toArray 32)
  obtain ⟨y0, y1, y2, y3, f0, f1, f2, f3⟩ := k42.four
  go_wp2
  refine ret_set2 (b := w.heap.size) (r := 2) (s := 3) rfl rfl rfl (k42.set4 _ _ _ _) rfl ⟨?_, below_set4 kw (Nat.le_refl _) _ _ _ _⟩
  rw [HV.out, HM.out]
  have := setL_none
  unfold setL at this
  unfold setV
  rw [this]
  rfl
end Go.Proofs.YtofhkgafgnldnaaDoor
