/- token.named: the set of a letter behind a backslash. -/
import Derived.Test.YtpiimcbbgalhfaaGreatDoorBb
import Derived.Deep.Cut
namespace Go.Proofs.YtpiimcbbgalhfaaGreatDoor
set_option maxRecDepth 100000
open Go.RowKit
noncomputable def nmd_ops : Array Oper := regOf Tryz.f222 2
def nmd_S (_u : Unit) : List RK := [RK.eq (setV digitsM), RK.eq (setV (rangeM 97 122)), RK.eq (setV (rangeM 65 90)), RK.val (RG.rd .u8 [95]), RK.eq (setV (ofM [95])), RK.val (RG.sets [digitsM, (rangeM 97 122), (rangeM 65 90), (ofM [95])]), RK.eq (setV (anyM [digitsM, (rangeM 97 122), (rangeM 65 90), (ofM [95])])), RK.new 24 4, RK.put 7 (setL (anyM [digitsM, (rangeM 97 122), (rangeM 65 90), (ofM [95])]))]
theorem nmd_o0 (_u : Unit) (b : Nat) (Q : Exit → Act → World → Prop) (a0 : Act) (w0 : World) (hs4 : a0.tmps.getD 4 undef = .pointer (some ⟨b, 0, none⟩)) (hB4 : Blk w0 b 24 (setL digitsM)) : Obl Tryz.prog nmd_ops (nmd_S _u) Q a0 w0 0 :=
  obl_load_old 4 (b) rfl none (by kernel_rfl) (by kernel_rfl) hs4 hB4 (fun a w N H D => (fun _ _ hg => by cases hg))
theorem nmd_o1 (_u : Unit) (Q : Exit → Act → World → Prop) (a0 : Act) (w0 : World)  : Obl Tryz.prog nmd_ops (nmd_S _u) Q a0 w0 1 :=
  obl_val (.call { callee := .value (.func 257), args := #[.const (.int .u8 97), .const (.int .u8 122)], argTypes := #[5, 5] }) none rfl (by kernel_rfl) fun a w N H D => ⟨(fun _ _ hg => by cases hg), fun _ ho => wp_call_eq ho (fun xs w => by kernel_rfl) (by simp only [List.map_toArray, List.map_cons, List.map_nil]; rfl) (range_any 97 122 (by omega) (by omega) _)⟩
theorem nmd_o2 (_u : Unit) (Q : Exit → Act → World → Prop) (a0 : Act) (w0 : World)  : Obl Tryz.prog nmd_ops (nmd_S _u) Q a0 w0 2 :=
  obl_val (.call { callee := .value (.func 257), args := #[.const (.int .u8 65), .const (.int .u8 90)], argTypes := #[5, 5] }) none rfl (by kernel_rfl) fun a w N H D => ⟨(fun _ _ hg => by cases hg), fun _ ho => wp_call_eq ho (fun xs w => by kernel_rfl) (by simp only [List.map_toArray, List.map_cons, List.map_nil]; rfl) (range_any 65 90 (by omega) (by omega) _)⟩
theorem nmd_o3 (_u : Unit) (Q : Exit → Act → World → Prop) (a0 : Act) (w0 : World)  : Obl Tryz.prog nmd_ops (nmd_S _u) Q a0 w0 3 :=
  obl_val (.buildSlice 115 1 #[(0, .const (.int .u8 95))]) none rfl (by kernel_rfl) fun a w N H D => ⟨(fun _ _ hg => by cases hg), fun _ ho => wp_build_u8 ho rfl⟩
theorem nmd_o4 (_u : Unit) (Q : Exit → Act → World → Prop) (a0 : Act) (w0 : World)  : Obl Tryz.prog nmd_ops (nmd_S _u) Q a0 w0 4 :=
  obl_val (.call { callee := .value (.func 71), args := #[.tmp 11], argTypes := #[115] }) none rfl (by kernel_rfl) fun a w N H D => ⟨(fun _ _ hg => by cases hg), fun _ ho => wp_of (l := [95]) ho (fact_val (D 3 (by kernel_rfl)) rfl (by kernel_rfl)) (by intro x hx; obtain rfl := List.mem_singleton.1 hx; omega)⟩
theorem nmd_o5 (_u : Unit) (Q : Exit → Act → World → Prop) (a0 : Act) (w0 : World)  : Obl Tryz.prog nmd_ops (nmd_S _u) Q a0 w0 5 :=
  obl_val (.buildSlice 132 4 #[(0, .tmp 8), (1, .tmp 9), (2, .tmp 10), (3, .tmp 12)]) none rfl (by kernel_rfl) fun a w N H D => ⟨(fun _ _ hg => by cases hg), fun _ ho => wp_build4 ho (fact_eq (c := setV digitsM) (D 0 (by kernel_rfl)) rfl (by kernel_rfl)) (fact_eq (c := setV (rangeM 97 122)) (D 1 (by kernel_rfl)) rfl (by kernel_rfl)) (fact_eq (c := setV (rangeM 65 90)) (D 2 (by kernel_rfl)) rfl (by kernel_rfl)) (fact_eq (c := setV (ofM [95])) (D 4 (by kernel_rfl)) rfl (by kernel_rfl))⟩
theorem nmd_o6 (_u : Unit) (Q : Exit → Act → World → Prop) (a0 : Act) (w0 : World)  : Obl Tryz.prog nmd_ops (nmd_S _u) Q a0 w0 6 :=
  obl_val (.call { callee := .value (.func 226), args := #[.tmp 13], argTypes := #[132] }) none rfl (by kernel_rfl) fun a w N H D => ⟨(fun _ _ hg => by cases hg), fun _ ho => wp_call_eq (xs := #[a.eval (.tmp 13)]) ho (fun xs w => by kernel_rfl) (by simp only [List.map_toArray, List.map_cons, List.map_nil]) (union_any [digitsM, (rangeM 97 122), (rangeM 65 90), (ofM [95])] _ _ (RG.sets_rd (fact_val (D 5 (by kernel_rfl)) rfl (by kernel_rfl))))⟩
theorem nmd_o7 (_u : Unit) (Q : Exit → Act → World → Prop) (a0 : Act) (w0 : World)  : Obl Tryz.prog nmd_ops (nmd_S _u) Q a0 w0 7 :=
  obl_new rfl (by kernel_rfl)
theorem nmd_o8 (_u : Unit) (Q : Exit → Act → World → Prop) (a0 : Act) (w0 : World)  : Obl Tryz.prog nmd_ops (nmd_S _u) Q a0 w0 8 :=
  obl_put 5 7 14 6 rfl (by kernel_rfl) (by kernel_rfl) rfl (by kernel_rfl) rfl (by kernel_rfl) (by kernel_rfl) (by kernel_rfl)
theorem nmd_all (_u : Unit) (b : Nat) (Q : Exit → Act → World → Prop) (a0 : Act) (w0 : World) (hs4 : a0.tmps.getD 4 undef = .pointer (some ⟨b, 0, none⟩)) (hB4 : Blk w0 b 24 (setL digitsM)) : ∀ i, i < nmd_ops.size → Obl Tryz.prog nmd_ops (nmd_S _u) Q a0 w0 i := by
  intro i hi_
  have hs : nmd_ops.size = 9 := by kernel_rfl
  rw [hs] at hi_
  clear hs
  match i, hi_ with
  | 0, _ => exact nmd_o0 _u b Q a0 w0 hs4 hB4
  | 1, _ => exact nmd_o1 _u  Q a0 w0 
  | 2, _ => exact nmd_o2 _u  Q a0 w0 
  | 3, _ => exact nmd_o3 _u  Q a0 w0 
  | 4, _ => exact nmd_o4 _u  Q a0 w0 
  | 5, _ => exact nmd_o5 _u  Q a0 w0 
  | 6, _ => exact nmd_o6 _u  Q a0 w0 
  | 7, _ => exact nmd_o7 _u  Q a0 w0 
  | 8, _ => exact nmd_o8 _u  Q a0 w0 
  | i + 9, h => exact absurd h (by omega)
theorem ret_set2 {fn : Func} {R : Ending → World → Prop} {a : Act} {w : World} {b r s : Nat} {u0 u1 u2 u3 v : Value} (hres : fn.results = #[.cell r 24, .tmp s])
    (hr : a.tmps.getD r undef = .pointer (some ⟨b, 0, none⟩)) (hs : a.tmps.getD s undef = v) (h : Blk w b 24 [u0, u1, u2, u3]) (hd : a.defers = []) (hR : R (.returned (.tuple #[.agg #[u0, u1, u2, u3], v])) w) : bodyPost Tryz.prog fn R .ret a w := by
  obtain ⟨c0, c1, c2, c3, _⟩ := h.four
  refine bodyPost_ret (v := .tuple #[.agg #[u0, u1, u2, u3], v]) ?_ hd hR
  have hr' : a.tmps[r]?.getD undef = .pointer (some ⟨b, 0, none⟩) := by simpa using hr
  have hs' : a.tmps[s]?.getD undef = v := by simpa using hs
  simp [results, hres, go_sem, hr', hs', c0, c1, c2, c3]
def namedV (c : Nat) : Nat → Bool := (namedM c).getD noSet
theorem setL_none : setL noSet = [.int .u64 0, .int .u64 0, .int .u64 0, .int .u64 0] := by unfold noSet; simp only [setL, word_none]
theorem rd_u8 (w : World) (c : Nat) : Rd (w.alloc (.cells #[.int .u8 ((c : Nat) : Int)] 5)) .u8 (.slice (some ⟨w.heap.size, 0, none⟩) 1 1) [((c : Nat) : Int)] :=
  ⟨_, _, rfl, Nat.le_refl _, by simp, fun i x hi => ⟨_, rfl, (Blk.new w [.int .u8 ((c : Nat) : Int)] 5).lt, by
    match i, hi with
    | 0, hi =>
      simp only [List.getElem?_cons_zero, Option.some.injEq] at hi
      subst hi
      exact (Blk.new w [.int .u8 ((c : Nat) : Int)] 5).cell 0
    | i + 1, hi => simp at hi⟩⟩
theorem of_one {c : Nat} (hc : c < 256) {g : Nat} (w : World) (hg : w.heap.size = g) : Calls Tryz.prog 71 #[.slice (some ⟨g, 0, none⟩) 1 1] (w.alloc (.cells #[.int .u8 ((c : Nat) : Int)] 5)) fun e w' => e = .returned (setV (oneM c)) ∧ Below (w.heap.size + 1) (w.alloc (.cells #[.int .u8 ((c : Nat) : Int)] 5)) w' := by
  subst hg
  have h := of_any [((c : Nat) : Int)] _ _ (rd_u8 w c) (by intro x hx; obtain rfl := List.mem_singleton.1 hx; omega)
  rwa [show (w.alloc (.cells #[.int .u8 ((c : Nat) : Int)] 5)).heap.size = w.heap.size + 1 by simp] at h
theorem Blk.below1 {w w' : World} {b t : Nat} {l : List Value} {o : Obj} (h : Blk w b t l) (hb : Below (w.heap.size + 1) (w.alloc o) w') : Blk w' b t l := (h.alloc o).below hb (Nat.lt_succ_of_lt h.lt)
theorem below1 {B : Nat} {a w w' : World} {o : Obj} (h : Below B a w) (hB : B ≤ w.heap.size) (hb : Below (w.heap.size + 1) (w.alloc o) w') : Below B a w' := (h.alloc hB o).trans (hb.mono (Nat.le_succ_of_le hB))
set_option maxRecDepth 100000 in
set_option maxHeartbeats 2000000 in
theorem named_at (c : Nat) (hc : c < 256) (w : World) : Calls Tryz.prog 222 #[.int .u8 ((c : Nat) : Int)] w fun v w' => v = .returned (.tuple #[setV (namedV c), .bool (namedM c).isSome]) ∧ Below w.heap.size w w' := by
  go_enter Tryz.func222, Tryz.ntmps222
  go_wp2_with fail
  have hr := range_any 48 57 (by omega) (by omega) (w.alloc (.cells #[.int .u64 0, .int .u64 0, .int .u64 0, .int .u64 0] 24))
  refine hr.mono ?_
  clear hr
  rintro v w1 ⟨rfl, hb⟩
  have hB2 : Blk w1 w.heap.size 24 (setL noSet) := by
    have h0 := Blk.new w (setL noSet) 24
    rw [setL_none] at h0 ⊢
    exact h0.below hb h0.lt
  have hw1 : Below w.heap.size w w1 := ((Below.refl _ w).alloc (Nat.le_refl _) _).trans (hb.mono (by simp))
  clear hb
  rw [show setV (rangeM 48 57) = setV digitsM from rfl]
  unfold setV
  go_wp2_with fail
  have hB4 := Blk.new w1 (setL digitsM) 24
  have hB2' := hB2.alloc (.cells (setL digitsM).toArray 24)
  have hw1' := hw1.alloc hw1.size (.cells (setL digitsM).toArray 24)
  refine region_named (ops' := nmd_ops) (by kernel_rfl) (nmd_S ()) 63 rfl (by kernel_rfl) (by kernel_rfl) (nmd_all () w1.heap.size _ _ _ rfl hB4.drew) ?_
  rename_i hK
  intro a w2 N H hF
  obtain ⟨b5, q5, hB5⟩ : ∃ b, a.tmps.getD 5 undef = .pointer (some ⟨b, 0, none⟩) ∧ Blk w2 b 24 (setL wordM) := fact_put (hF 8 (by kernel_rfl)) rfl rfl (by kernel_rfl)
  have hb2 := H.below
  have hB24 := hB4.drew.below hb2 hB4.drew.lt
  have hB22 := hB2'.drew.below hb2 hB2'.drew.lt
  have hw2 : Below w.heap.size w w2 := hw1'.drew.trans (hb2.mono hw1'.drew.size)
  refine hK _ _ ?_
  rw [held_frame H [5, 8, 9, 10, 11, 12, 13, 14] (by kernel_rfl)]
  simp only [putAll, List.map_cons, List.map_nil, List.foldl_cons, List.foldl_nil, List.setIfInBounds_toArray, List.set_cons_zero, List.set_cons_succ, q5]
  generalize a.tmps.getD 8 undef = z8
  generalize a.tmps.getD 9 undef = z9
  generalize a.tmps.getD 10 undef = z10
  generalize a.tmps.getD 11 undef = z11
  generalize a.tmps.getD 12 undef = z12
  generalize a.tmps.getD 13 undef = z13
  generalize a.tmps.getD 14 undef = z14
  clear hF H q5 hK hB4 hB2 hB2' hw1 hw1' hb2
  clear a N
  generalize w1.heap.size = b4 at *
  clear w1
  go_wp2_with fail
  refine (range_any 9 13 (by omega) (by omega) _).mono ?_
  rintro v w3 ⟨rfl, hb⟩
  have h24 := hB24.below hb hB24.lt
  have h25 := hB5.below hb hB5.lt
  have h22 := hB22.below hb hB22.lt
  have hw3 := hw2.trans (hb.mono hw2.size)
  clear hB24 hB5 hB22 hw2 hb
  generalize hs9 : setV (rangeM 9 13) = v9
  go_wp2_with fail
  refine (of_one (c := 32) (by omega) _ rfl).mono ?_
  rintro v w4 ⟨rfl, hb⟩
  have hb34 : Below w3.heap.size w3 w4 := below1 (Below.refl _ w3) (Nat.le_refl _) hb
  have h34 := h24.below hb34 h24.lt
  have h35 := h25.below hb34 h25.lt
  have h32 := h22.below hb34 h22.lt
  have hw4 := hw3.trans (hb34.mono hw3.size)
  clear h24 h25 h22 hw3 hb
  subst hs9
  have hrd := rdS_new w4 [rangeM 9 13, oneM 32] 24 (by simp) _ rfl
  have hrn := run_build2 (rangeM 9 13) (oneM 32) w4
  unfold setV at hrn
  unfold setV
  go_wp2_with fail
  refine (union_any [rangeM 9 13, oneM 32] _ _ hrd).mono ?_
  rintro v w5 ⟨rfl, hb⟩
  have hb45 : Below w4.heap.size w4 w5 := ((Below.refl _ w4).alloc (Nat.le_refl _) _).trans (hb.mono (by simp))
  have h44 := h34.below hb45 h34.lt
  have h45 := h35.below hb45 h35.lt
  have h42 := h32.below hb45 h32.lt
  have hw5 := hw4.trans (hb45.mono hw4.size)
  clear h34 h35 h32 hw4 hb hrd hrn hb34 hb45
  rw [show setV (anyM [rangeM 9 13, oneM 32]) = setV spaceM from rfl]
  unfold setV
  by_cases h110 : c = 110
  · have hv : namedV c = oneM 10 := by subst h110; rfl
    have hm : (namedM c).isSome = true := by subst h110; rfl
    have HV := Lib.hid hv
    have HM := Lib.hid hm
    clear hv hm
    have h46 := Blk.new w5 (setL spaceM) 24
    have k44 := h44.alloc (.cells (setL spaceM).toArray 24)
    have k45 := h45.alloc (.cells (setL spaceM).toArray 24)
    have k42 := h42.alloc (.cells (setL spaceM).toArray 24)
    have kw := hw5.alloc hw5.size (.cells (setL spaceM).toArray 24)
    go_wp2_with fail
    refine (of_one (c := 10) (by omega) _ (by simp)).mono ?_
    rintro v w6 ⟨rfl, hb⟩
    have k62 := k42.below1 hb
    have kw6 := below1 kw kw.size hb
    unfold setV
    obtain ⟨y0, y1, y2, y3, f0, f1, f2, f3⟩ := k62.four
    go_wp2
    refine ret_set2 (b := w.heap.size) (r := 2) (s := 3) rfl rfl rfl (k62.set4 _ _ _ _) rfl ⟨ret_congr (by rw [HV.out, HM.out]; try rfl), below_set4 (kw6) (Nat.le_refl _) _ _ _ _⟩
  by_cases h116 : c = 116
  · have hv : namedV c = oneM 9 := by subst h116; rfl
    have hm : (namedM c).isSome = true := by subst h116; rfl
    have HV := Lib.hid hv
    have HM := Lib.hid hm
    clear hv hm
    have h46 := Blk.new w5 (setL spaceM) 24
    have k44 := h44.alloc (.cells (setL spaceM).toArray 24)
    have k45 := h45.alloc (.cells (setL spaceM).toArray 24)
    have k42 := h42.alloc (.cells (setL spaceM).toArray 24)
    have kw := hw5.alloc hw5.size (.cells (setL spaceM).toArray 24)
    go_wp2_with fail
    refine (of_one (c := 9) (by omega) _ (by simp)).mono ?_
    rintro v w6 ⟨rfl, hb⟩
    have k62 := k42.below1 hb
    have kw6 := below1 kw kw.size hb
    unfold setV
    obtain ⟨y0, y1, y2, y3, f0, f1, f2, f3⟩ := k62.four
    go_wp2
    refine ret_set2 (b := w.heap.size) (r := 2) (s := 3) rfl rfl rfl (k62.set4 _ _ _ _) rfl ⟨ret_congr (by rw [HV.out, HM.out]; try rfl), below_set4 (kw6) (Nat.le_refl _) _ _ _ _⟩
  by_cases h114 : c = 114
  · have hv : namedV c = oneM 13 := by subst h114; rfl
    have hm : (namedM c).isSome = true := by subst h114; rfl
    have HV := Lib.hid hv
    have HM := Lib.hid hm
    clear hv hm
    have h46 := Blk.new w5 (setL spaceM) 24
    have k44 := h44.alloc (.cells (setL spaceM).toArray 24)
    have k45 := h45.alloc (.cells (setL spaceM).toArray 24)
    have k42 := h42.alloc (.cells (setL spaceM).toArray 24)
    have kw := hw5.alloc hw5.size (.cells (setL spaceM).toArray 24)
    go_wp2_with fail
    refine (of_one (c := 13) (by omega) _ (by simp)).mono ?_
    rintro v w6 ⟨rfl, hb⟩
    have k62 := k42.below1 hb
    have kw6 := below1 kw kw.size hb
    unfold setV
    obtain ⟨y0, y1, y2, y3, f0, f1, f2, f3⟩ := k62.four
    go_wp2
    refine ret_set2 (b := w.heap.size) (r := 2) (s := 3) rfl rfl rfl (k62.set4 _ _ _ _) rfl ⟨ret_congr (by rw [HV.out, HM.out]; try rfl), below_set4 (kw6) (Nat.le_refl _) _ _ _ _⟩
  by_cases h102 : c = 102
  · have hv : namedV c = oneM 12 := by subst h102; rfl
    have hm : (namedM c).isSome = true := by subst h102; rfl
    have HV := Lib.hid hv
    have HM := Lib.hid hm
    clear hv hm
    have h46 := Blk.new w5 (setL spaceM) 24
    have k44 := h44.alloc (.cells (setL spaceM).toArray 24)
    have k45 := h45.alloc (.cells (setL spaceM).toArray 24)
    have k42 := h42.alloc (.cells (setL spaceM).toArray 24)
    have kw := hw5.alloc hw5.size (.cells (setL spaceM).toArray 24)
    go_wp2_with fail
    refine (of_one (c := 12) (by omega) _ (by simp)).mono ?_
    rintro v w6 ⟨rfl, hb⟩
    have k62 := k42.below1 hb
    have kw6 := below1 kw kw.size hb
    unfold setV
    obtain ⟨y0, y1, y2, y3, f0, f1, f2, f3⟩ := k62.four
    go_wp2
    refine ret_set2 (b := w.heap.size) (r := 2) (s := 3) rfl rfl rfl (k62.set4 _ _ _ _) rfl ⟨ret_congr (by rw [HV.out, HM.out]; try rfl), below_set4 (kw6) (Nat.le_refl _) _ _ _ _⟩
  by_cases h118 : c = 118
  · have hv : namedV c = oneM 11 := by subst h118; rfl
    have hm : (namedM c).isSome = true := by subst h118; rfl
    have HV := Lib.hid hv
    have HM := Lib.hid hm
    clear hv hm
    have h46 := Blk.new w5 (setL spaceM) 24
    have k44 := h44.alloc (.cells (setL spaceM).toArray 24)
    have k45 := h45.alloc (.cells (setL spaceM).toArray 24)
    have k42 := h42.alloc (.cells (setL spaceM).toArray 24)
    have kw := hw5.alloc hw5.size (.cells (setL spaceM).toArray 24)
    go_wp2_with fail
    refine (of_one (c := 11) (by omega) _ (by simp)).mono ?_
    rintro v w6 ⟨rfl, hb⟩
    have k62 := k42.below1 hb
    have kw6 := below1 kw kw.size hb
    unfold setV
    obtain ⟨y0, y1, y2, y3, f0, f1, f2, f3⟩ := k62.four
    go_wp2
    refine ret_set2 (b := w.heap.size) (r := 2) (s := 3) rfl rfl rfl (k62.set4 _ _ _ _) rfl ⟨ret_congr (by rw [HV.out, HM.out]; try rfl), below_set4 (kw6) (Nat.le_refl _) _ _ _ _⟩
  by_cases h100 : c = 100
  · have hv : namedV c = digitsM := by subst h100; rfl
    have hm : (namedM c).isSome = true := by subst h100; rfl
    have HV := Lib.hid hv
    have HM := Lib.hid hm
    clear hv hm
    have h46 := Blk.new w5 (setL spaceM) 24
    have k44 := h44.alloc (.cells (setL spaceM).toArray 24)
    have k45 := h45.alloc (.cells (setL spaceM).toArray 24)
    have k42 := h42.alloc (.cells (setL spaceM).toArray 24)
    have kw := hw5.alloc hw5.size (.cells (setL spaceM).toArray 24)
    obtain ⟨x0, x1, x2, x3, _, _, _, _⟩ := k44.four
    obtain ⟨y0, y1, y2, y3, f0, f1, f2, f3⟩ := (k42).four
    go_wp2
    refine ret_set2 (b := w.heap.size) (r := 2) (s := 3) rfl rfl rfl (k42.set4 _ _ _ _) rfl ⟨ret_congr (by rw [HV.out, HM.out]; try rfl), below_set4 (kw) (Nat.le_refl _) _ _ _ _⟩
  by_cases h119 : c = 119
  · have hv : namedV c = wordM := by subst h119; rfl
    have hm : (namedM c).isSome = true := by subst h119; rfl
    have HV := Lib.hid hv
    have HM := Lib.hid hm
    clear hv hm
    have h46 := Blk.new w5 (setL spaceM) 24
    have k44 := h44.alloc (.cells (setL spaceM).toArray 24)
    have k45 := h45.alloc (.cells (setL spaceM).toArray 24)
    have k42 := h42.alloc (.cells (setL spaceM).toArray 24)
    have kw := hw5.alloc hw5.size (.cells (setL spaceM).toArray 24)
    obtain ⟨x0, x1, x2, x3, _, _, _, _⟩ := k45.four
    obtain ⟨y0, y1, y2, y3, f0, f1, f2, f3⟩ := (k42).four
    go_wp2
    refine ret_set2 (b := w.heap.size) (r := 2) (s := 3) rfl rfl rfl (k42.set4 _ _ _ _) rfl ⟨ret_congr (by rw [HV.out, HM.out]; try rfl), below_set4 (kw) (Nat.le_refl _) _ _ _ _⟩
  by_cases h115 : c = 115
  · have hv : namedV c = spaceM := by subst h115; rfl
    have hm : (namedM c).isSome = true := by subst h115; rfl
    have HV := Lib.hid hv
    have HM := Lib.hid hm
    clear hv hm
    have h46 := Blk.new w5 (setL spaceM) 24
    have k44 := h44.alloc (.cells (setL spaceM).toArray 24)
    have k45 := h45.alloc (.cells (setL spaceM).toArray 24)
    have k42 := h42.alloc (.cells (setL spaceM).toArray 24)
    have kw := hw5.alloc hw5.size (.cells (setL spaceM).toArray 24)
    obtain ⟨x0, x1, x2, x3, _, _, _, _⟩ := h46.four
    obtain ⟨y0, y1, y2, y3, f0, f1, f2, f3⟩ := (k42).four
    go_wp2
    refine ret_set2 (b := w.heap.size) (r := 2) (s := 3) rfl rfl rfl (k42.set4 _ _ _ _) rfl ⟨ret_congr (by rw [HV.out, HM.out]; try rfl), below_set4 (kw) (Nat.le_refl _) _ _ _ _⟩
  by_cases h68 : c = 68
  · have hv : namedV c = notM digitsM := by subst h68; rfl
    have hm : (namedM c).isSome = true := by subst h68; rfl
    have HV := Lib.hid hv
    have HM := Lib.hid hm
    clear hv hm
    have h46 := Blk.new w5 (setL spaceM) 24
    have k44 := h44.alloc (.cells (setL spaceM).toArray 24)
    have k45 := h45.alloc (.cells (setL spaceM).toArray 24)
    have k42 := h42.alloc (.cells (setL spaceM).toArray 24)
    have kw := hw5.alloc hw5.size (.cells (setL spaceM).toArray 24)
    obtain ⟨x0, x1, x2, x3, _, _, _, _⟩ := k44.four
    go_wp2_with fail
    refine (not_any digitsM _).mono ?_
    rintro v w6 ⟨rfl, hb⟩
    have k62 := (k42).below hb (k42).lt
    have kw6 := (kw).trans (hb.mono (kw).size)
    unfold setV
    obtain ⟨y0, y1, y2, y3, f0, f1, f2, f3⟩ := k62.four
    go_wp2
    refine ret_set2 (b := w.heap.size) (r := 2) (s := 3) rfl rfl rfl (k62.set4 _ _ _ _) rfl ⟨ret_congr (by rw [HV.out, HM.out]; try rfl), below_set4 (kw6) (Nat.le_refl _) _ _ _ _⟩
  by_cases h87 : c = 87
  · have hv : namedV c = notM wordM := by subst h87; rfl
    have hm : (namedM c).isSome = true := by subst h87; rfl
    have HV := Lib.hid hv
    have HM := Lib.hid hm
    clear hv hm
    have h46 := Blk.new w5 (setL spaceM) 24
    have k44 := h44.alloc (.cells (setL spaceM).toArray 24)
    have k45 := h45.alloc (.cells (setL spaceM).toArray 24)
    have k42 := h42.alloc (.cells (setL spaceM).toArray 24)
    have kw := hw5.alloc hw5.size (.cells (setL spaceM).toArray 24)
    obtain ⟨x0, x1, x2, x3, _, _, _, _⟩ := k45.four
    go_wp2_with fail
    refine (not_any wordM _).mono ?_
    rintro v w6 ⟨rfl, hb⟩
    have k62 := (k42).below hb (k42).lt
    have kw6 := (kw).trans (hb.mono (kw).size)
    unfold setV
    obtain ⟨y0, y1, y2, y3, f0, f1, f2, f3⟩ := k62.four
    go_wp2
    refine ret_set2 (b := w.heap.size) (r := 2) (s := 3) rfl rfl rfl (k62.set4 _ _ _ _) rfl ⟨ret_congr (by rw [HV.out, HM.out]; try rfl), below_set4 (kw6) (Nat.le_refl _) _ _ _ _⟩
  by_cases h83 : c = 83
  · have hv : namedV c = notM spaceM := by subst h83; rfl
    have hm : (namedM c).isSome = true := by subst h83; rfl
    have HV := Lib.hid hv
    have HM := Lib.hid hm
    clear hv hm
    have h46 := Blk.new w5 (setL spaceM) 24
    have k44 := h44.alloc (.cells (setL spaceM).toArray 24)
    have k45 := h45.alloc (.cells (setL spaceM).toArray 24)
    have k42 := h42.alloc (.cells (setL spaceM).toArray 24)
    have kw := hw5.alloc hw5.size (.cells (setL spaceM).toArray 24)
    obtain ⟨x0, x1, x2, x3, _, _, _, _⟩ := h46.four
    go_wp2_with fail
    refine (not_any spaceM _).mono ?_
    rintro v w6 ⟨rfl, hb⟩
    have k62 := (k42).below hb (k42).lt
    have kw6 := (kw).trans (hb.mono (kw).size)
    unfold setV
    obtain ⟨y0, y1, y2, y3, f0, f1, f2, f3⟩ := k62.four
    go_wp2
    refine ret_set2 (b := w.heap.size) (r := 2) (s := 3) rfl rfl rfl (k62.set4 _ _ _ _) rfl ⟨ret_congr (by rw [HV.out, HM.out]; try rfl), below_set4 (kw6) (Nat.le_refl _) _ _ _ _⟩
  have hv : namedM c = none := by
    unfold namedM
    rw [if_neg h110, if_neg h116, if_neg h114, if_neg h102, if_neg h118, if_neg h100, if_neg h119, if_neg h115, if_neg h68, if_neg h87, if_neg h83]
  have hv2 : namedV c = noSet := by unfold namedV; rw [hv]; rfl
  have hm : (namedM c).isSome = false := by rw [hv]; rfl
  have HV := Lib.hid hv2
  have HM := Lib.hid hm
  clear hv hv2 hm
  have k42 := h42.alloc (.cells (setL spaceM).toArray 24)
  have kw := hw5.alloc hw5.size (.cells (setL spaceM).toArray 24)
  obtain ⟨y0, y1, y2, y3, f0, f1, f2, f3⟩ := k42.four
  go_wp2
  refine ret_set2 (b := w.heap.size) (r := 2) (s := 3) rfl rfl rfl (k42.set4 _ _ _ _) rfl ⟨?_, below_set4 kw (Nat.le_refl _) _ _ _ _⟩
  rw [HV.out, HM.out]
  have := setL_none
  unfold setL at this
  unfold setV
  rw [this]
  rfl
end Go.Proofs.YtpiimcbbgalhfaaGreatDoor
/- escape: the set of an escape, at a backslash. -/
namespace Go.Proofs.YtpiimcbbgalhfaaGreatDoor
set_option maxRecDepth 100000
open Go.RowKit
/-- What a reading of a set leaves: its set, where it stands, its error. -/
def SetIs (r : Res (Nat → Bool)) (m : Nat → Bool) (j e : Nat) : Prop := match r with
  | .ok m' j' => m = m' ∧ j = j' ∧ e = 0
  | .err j' e' => j = j' ∧ e = e' ∧ e' ≠ 0
theorem Rdr.inc {w : World} {b : Nat} {s : ByteArray} {i e : Nat} {lv : Value} (h : Rdr w b s i e lv) (hi : i + 1 ≤ s.size) :
    Rdr (w.setCell ⟨b, 1, none⟩ (.int .i64 (((i : Nat) : Int) + 1))) b s (i + 1) e lv ∧ w.grownBy (w.setCell ⟨b, 1, none⟩ (.int .i64 (((i : Nat) : Int) + 1))) (some b) := by
  have hg := only_setCell (only_refl w b) 1 (.int .i64 (((i : Nat) : Int) + 1))
  exact ⟨h.turn hg hi (h.blk.set 1 _), hg⟩
theorem Blk.turn {w w' : World} {b g t : Nat} {l : List Value} (h : Blk w b t l) (hg : w.grownBy w' (some g)) (hne : b ≠ g) : Blk w' b t l := (hg.block b h.lt (by simpa using hne)).trans h
/-- Only block b has turned, besides what is new. -/
theorem only_set4' {a w : World} {b g : Nat} (h : a.grownBy w (some b)) (hg : a.heap.size ≤ g) (v0 v1 v2 v3 : Value) :
    a.grownBy ((((w.setCell ⟨g, 0, none⟩ v0).setCell ⟨g, 1, none⟩ v1).setCell ⟨g, 2, none⟩ v2).setCell ⟨g, 3, none⟩ v3) (some b) := by
  have hk : ∀ (w : World) (o : Nat) (v : Value), a.grownBy w (some b) → a.grownBy (w.setCell ⟨g, o, none⟩ v) (some b) := fun w o v h =>
    ⟨h.os, h.tape, h.output, by simpa [World.setCell] using h.size, fun i hi hne => (Below.heap_setCell w ⟨g, o, none⟩ v i (fun e => by simp only at e; omega)).trans (h.block i hi hne)⟩
  exact hk _ _ _ (hk _ _ _ (hk _ _ _ (hk _ _ _ h)))
theorem only_alloc {a w : World} {b : Nat} (h : a.grownBy w (some b)) (o : Obj) : a.grownBy (w.alloc o) (some b) := only_below h ((Below.refl _ w).alloc (Nat.le_refl _) o)
theorem Rdr.far4 {w : World} {b g : Nat} {s : ByteArray} {i e : Nat} {lv : Value} (h : Rdr w b s i e lv) (hne : b ≠ g) (hg : 0 < g) (v0 v1 v2 v3 : Value) :
    Rdr ((((w.setCell ⟨g, 0, none⟩ v0).setCell ⟨g, 1, none⟩ v1).setCell ⟨g, 2, none⟩ v2).setCell ⟨g, 3, none⟩ v3) b s i e lv :=
  ⟨h.blk.far4 hne _ _ _ _, h.tab.only (only_set4 (only_refl _ g) _ _ _ _) (by omega), h.ne, h.le, h.size⟩
theorem tab_lt {w : World} (h : TabOk w) : 0 < w.heap.size := by
  have hc := h 0 (by omega)
  unfold World.cell? at hc
  rcases Nat.lt_or_ge 0 w.heap.size with hl | hl
  · exact hl
  · simp only [] at hc
    rw [Array.getElem?_eq_none hl] at hc
    cases hc
set_option maxRecDepth 100000 in
set_option maxHeartbeats 2000000 in
theorem esc_none {w : World} {b : Nat} {s : ByteArray} {i : Nat} {lv : Value} (h : Rdr w b s i 0 lv) (hi : i + 1 ≤ s.size) (hc : (bytesN s)[i + 1]? = none) :
    Calls Tryz.prog 171 #[.pointer (some ⟨b, 0, none⟩)] w fun v w' => ∃ m j e, v = .returned (setV m) ∧ Rdr w' b s j e lv ∧ w.grownBy w' (some b) ∧ SetIs (escM (bytesN s) i) m j e := by
  have hp : peekV (bytesN s) (i + 1) = .tuple #[.int .u8 ((0 : Nat) : Int), .bool false] := by unfold peekV; rw [hc]; rfl
  have HX := Lib.hid (show escM (bytesN s) i = .err (i + 1) 4 by unfold escM; rw [hc])
  clear hc
  obtain ⟨_, c1, _, _, f1, _, _⟩ := h.cells
  have hblt := h.blk.lt
  have hsz := h.size
  go_enter Tryz.func171, Tryz.ntmps171
  go_wp2_with fail
  obtain ⟨h0, g0⟩ := h.inc hi
  have hR1 := Blk.new (w.setCell ⟨b, 1, none⟩ (.int .i64 (((i : Nat) : Int) + 1))) (setL noSet) 24
  rw [setL_none, show (w.setCell ⟨b, 1, none⟩ (.int .i64 (((i : Nat) : Int) + 1))).heap.size = w.heap.size by simp [World.setCell], ← setL_none] at hR1
  have h1 := h0.below ((Below.refl _ _).alloc (Nat.le_refl _) (.cells (setL noSet).toArray 24))
  have g1 := only_alloc g0 (.cells (setL noSet).toArray 24)
  rw [show (setL noSet).toArray = #[.int .u64 0, .int .u64 0, .int .u64 0, .int .u64 0] by rw [setL_none]] at h1 g1 hR1
  clear h0 g0
  generalize (w.setCell _ _).alloc _ = w1 at *
  refine (peek_at h1).mono ?_
  rintro v w2 ⟨rfl, hb⟩
  rw [hp]
  have h2 := h1.below hb
  have hR2 := hR1.below hb hR1.lt
  have g2 := only_below g1 hb
  clear h1 hR1 g1 hb
  go_wp2_with fail
  refine (named_at 0 (by omega) _).mono ?_
  rintro v w3 ⟨rfl, hb⟩
  have h3 := h2.below hb
  have hR3 := hR2.below hb hR2.lt
  have g3 := only_below g2 hb
  clear h2 hR2 g2 hb
  rw [show namedV 0 = noSet from rfl, show (namedM 0).isSome = false from rfl]
  unfold setV
  have h6 : Blk (w3.alloc (.cells #[.int .u64 (word noSet 0), .int .u64 (word noSet 1), .int .u64 (word noSet 2), .int .u64 (word noSet 3)] 24)) w3.heap.size 24 (setL noSet) := Blk.new w3 (setL noSet) 24
  have h4 := h3.below ((Below.refl _ w3).alloc (Nat.le_refl _) (.cells #[.int .u64 (word noSet 0), .int .u64 (word noSet 1), .int .u64 (word noSet 2), .int .u64 (word noSet 3)] 24))
  have hR4 := hR3.alloc (.cells #[.int .u64 (word noSet 0), .int .u64 (word noSet 1), .int .u64 (word noSet 2), .int .u64 (word noSet 3)] 24)
  have g4 := only_alloc g3 (.cells #[.int .u64 (word noSet 0), .int .u64 (word noSet 1), .int .u64 (word noSet 2), .int .u64 (word noSet 3)] 24)
  have hne6 : w3.heap.size ≠ w.heap.size := by have := hR3.lt; omega
  have hneb : w3.heap.size ≠ b := by have := h3.blk.lt; omega
  have hle6 : w.heap.size < w3.heap.size := hR3.lt
  go_wp2_with fail
  generalize w3.alloc _ = w4 at *
  generalize w3.heap.size = b6 at *
  obtain ⟨_, c1, _, _, f1, _, _⟩ := h4.cells
  go_still_tail 8, (by kernel_rfl)
  change wpList _ _ _ _ _ w4.drew
  go_wp2_with fail
  refine (fail_at (k := 4) (h4.below (Below.refl _ _).drew) (by have := h4.le; omega)).mono ?_
  rintro v w7 ⟨⟨u, rfl⟩, h7, hg⟩
  have hg7 := only_trans (only_of b ((Below.refl w4.heap.size _).drew)) hg
  have g7 := only_trans g4 hg7
  have hR7 := hR4.turn hg7 (by omega)
  have h67 := h6.turn hg7 (by omega)
  obtain ⟨x0, x1, x2, x3, _, _, _, _⟩ := h67.four
  obtain ⟨y0, y1, y2, y3, k0, k1, k2, k3⟩ := hR7.four
  go_wp2
  refine ret_set (b := w.heap.size) rfl rfl (hR7.set4 _ _ _ _) rfl ?_
  refine ⟨noSet, i + 1, 4, rfl, ⟨h7.blk.far4 (g := w.heap.size) (by omega) _ _ _ _, ?_, h7.ne, h7.le, h7.size⟩, only_set4' g7 (Nat.le_refl _) _ _ _ _, by rw [HX.out]; exact ⟨rfl, rfl, by omega⟩⟩
  exact h7.tab.only (only_set4 (only_refl _ w.heap.size) _ _ _ _) (by have := tab_lt h.tab; omega)
set_option maxRecDepth 100000 in
set_option maxHeartbeats 2000000 in
theorem esc_special {w : World} {b : Nat} {s : ByteArray} {i : Nat} {lv : Value} (h : Rdr w b s i 0 lv) (hi : i + 1 ≤ s.size) (c : Nat) (hc : (bytesN s)[i + 1]? = some c) (hs : specialL.contains c = true) :
    Calls Tryz.prog 171 #[.pointer (some ⟨b, 0, none⟩)] w fun v w' => ∃ m j e, v = .returned (setV m) ∧ Rdr w' b s j e lv ∧ w.grownBy w' (some b) ∧ SetIs (escM (bytesN s) i) m j e := by
  have hp : peekV (bytesN s) (i + 1) = .tuple #[.int .u8 ((c : Nat) : Int), .bool true] := by unfold peekV; rw [hc]
  have hc256 := bytesN_lt hc
  have hle : i + 1 + 1 ≤ s.size := (bytesN_some hc).1
  have HX := Lib.hid (show escM (bytesN s) i = .ok (oneM c) (i + 2) by unfold escM; rw [hc]; simp only []; rw [if_pos hs])
  clear hc
  obtain ⟨_, c1, _, _, f1, _, _⟩ := h.cells
  have hblt := h.blk.lt
  have hsz := h.size
  go_enter Tryz.func171, Tryz.ntmps171
  go_wp2_with fail
  obtain ⟨h0, g0⟩ := h.inc hi
  have hR1 := Blk.new (w.setCell ⟨b, 1, none⟩ (.int .i64 (((i : Nat) : Int) + 1))) (setL noSet) 24
  rw [setL_none, show (w.setCell ⟨b, 1, none⟩ (.int .i64 (((i : Nat) : Int) + 1))).heap.size = w.heap.size by simp [World.setCell], ← setL_none] at hR1
  have h1 := h0.below ((Below.refl _ _).alloc (Nat.le_refl _) (.cells (setL noSet).toArray 24))
  have g1 := only_alloc g0 (.cells (setL noSet).toArray 24)
  rw [show (setL noSet).toArray = #[.int .u64 0, .int .u64 0, .int .u64 0, .int .u64 0] by rw [setL_none]] at h1 g1 hR1
  clear h0 g0
  generalize (w.setCell _ _).alloc _ = w1 at *
  refine (peek_at h1).mono ?_
  rintro v w2 ⟨rfl, hb⟩
  rw [hp]
  have h2 := h1.below hb
  have hR2 := hR1.below hb hR1.lt
  have g2 := only_below g1 hb
  clear h1 hR1 g1 hb
  go_wp2_with fail
  refine (named_at c hc256 _).mono ?_
  rintro v w3 ⟨rfl, hb⟩
  have h3 := h2.below hb
  have hR3 := hR2.below hb hR2.lt
  have g3 := only_below g2 hb
  clear h2 hR2 g2 hb
  generalize namedV c = mm
  generalize (namedM c).isSome = kk
  unfold setV
  have h6 : Blk (w3.alloc (.cells #[.int .u64 (word mm 0), .int .u64 (word mm 1), .int .u64 (word mm 2), .int .u64 (word mm 3)] 24)) w3.heap.size 24 (setL mm) := Blk.new w3 (setL mm) 24
  have h4 := h3.below ((Below.refl _ w3).alloc (Nat.le_refl _) (.cells #[.int .u64 (word mm 0), .int .u64 (word mm 1), .int .u64 (word mm 2), .int .u64 (word mm 3)] 24))
  have hR4 := hR3.alloc (.cells #[.int .u64 (word mm 0), .int .u64 (word mm 1), .int .u64 (word mm 2), .int .u64 (word mm 3)] 24)
  have g4 := only_alloc g3 (.cells #[.int .u64 (word mm 0), .int .u64 (word mm 1), .int .u64 (word mm 2), .int .u64 (word mm 3)] 24)
  have hne6 : w3.heap.size ≠ w.heap.size := by have := hR3.lt; omega
  have hneb : w3.heap.size ≠ b := by have := h3.blk.lt; omega
  have hle6 : w.heap.size < w3.heap.size := hR3.lt
  go_wp2_with fail
  generalize w3.alloc _ = w4 at *
  generalize w3.heap.size = b6 at *
  obtain ⟨_, c1, _, _, f1, _, _⟩ := h4.cells
  refine (index_in _ specialL special_ix c hc256 _).mono ?_
  rintro v w5 ⟨⟨n, rfl, hn⟩, rfl⟩
  rename World => w4
  rw [if_pos hs] at hn
  go_wp2_with fail
  refine (of_one hc256 _ rfl).mono ?_
  rintro v w6 ⟨rfl, hb⟩
  have hbb := below1 (Below.refl _ w4) (Nat.le_refl _) hb
  have h5 := h4.below hbb
  have hR5 := hR4.below hbb hR4.lt
  have h65 := h6.below hbb h6.lt
  have g5 := only_below g4 hbb
  clear c1 f1 hb h4 hR4 h6 g4
  obtain ⟨_, c1, _, _, f1, _, _⟩ := h5.cells
  unfold setV
  obtain ⟨x0, x1, x2, x3, p0, p1, p2, p3⟩ := h65.four
  obtain ⟨y0, y1, y2, y3, k0, k1, k2, k3⟩ := hR5.four
  go_upto_region 10 with fail
  have hA := h5.far4 (g := b6) (by omega) (by have := tab_lt h.tab; omega) (.int .u64 (word (oneM c) 0)) (.int .u64 (word (oneM c) 1)) (.int .u64 (word (oneM c) 2)) (.int .u64 (word (oneM c) 3))
  have hRa := hR5.far4 (g := b6) (by omega) (.int .u64 (word (oneM c) 0)) (.int .u64 (word (oneM c) 1)) (.int .u64 (word (oneM c) 2)) (.int .u64 (word (oneM c) 3))
  have h6a := h65.set4 (.int .u64 (word (oneM c) 0)) (.int .u64 (word (oneM c) 1)) (.int .u64 (word (oneM c) 2)) (.int .u64 (word (oneM c) 3))
  have gA := only_set4' g5 (g := b6) (by omega) (.int .u64 (word (oneM c) 0)) (.int .u64 (word (oneM c) 1)) (.int .u64 (word (oneM c) 2)) (.int .u64 (word (oneM c) 3))
  clear x0 x1 x2 x3 p0 p1 p2 p3 y0 y1 y2 y3 k0 k1 k2 k3 c1 f1 h5 hR5 h65 g5
  generalize (((w6.setCell _ _).setCell _ _).setCell _ _).setCell _ _ = wa at *
  obtain ⟨_, c1, _, _, f1, _, _⟩ := hA.cells
  obtain ⟨x0, x1, x2, x3, p0, p1, p2, p3⟩ := h6a.four
  obtain ⟨y0, y1, y2, y3, k0, k1, k2, k3⟩ := hRa.four
  go_wp2
  obtain ⟨hB, gB⟩ := hA.inc hle
  refine ret_set (b := w.heap.size) rfl rfl ((hRa.far (p := ⟨b, 1, none⟩) (by show w.heap.size ≠ b; omega) _).set4 _ _ _ _) rfl ?_
  exact ⟨oneM c, i + 1 + 1, 0, rfl, (hB).far4 (by omega) (by have := tab_lt h.tab; omega) _ _ _ _, only_set4' (only_trans gA gB) (Nat.le_refl _) _ _ _ _, by rw [HX.out]; exact ⟨rfl, rfl, rfl⟩⟩
set_option maxRecDepth 100000 in
set_option maxHeartbeats 2000000 in
theorem esc_known {w : World} {b : Nat} {s : ByteArray} {i : Nat} {lv : Value} (h : Rdr w b s i 0 lv) (hi : i + 1 ≤ s.size) (c : Nat) (hc : (bytesN s)[i + 1]? = some c) (m : Nat → Bool) (hs : specialL.contains c = false) (hm : namedM c = some m) :
    Calls Tryz.prog 171 #[.pointer (some ⟨b, 0, none⟩)] w fun v w' => ∃ m j e, v = .returned (setV m) ∧ Rdr w' b s j e lv ∧ w.grownBy w' (some b) ∧ SetIs (escM (bytesN s) i) m j e := by
  have hp : peekV (bytesN s) (i + 1) = .tuple #[.int .u8 ((c : Nat) : Int), .bool true] := by unfold peekV; rw [hc]
  have hc256 := bytesN_lt hc
  have hle : i + 1 + 1 ≤ s.size := (bytesN_some hc).1
  have HX := Lib.hid (show escM (bytesN s) i = .ok m (i + 2) by unfold escM; rw [hc]; simp only []; rw [if_neg (by rw [hs]; simp), hm])
  clear hc
  obtain ⟨_, c1, _, _, f1, _, _⟩ := h.cells
  have hblt := h.blk.lt
  have hsz := h.size
  go_enter Tryz.func171, Tryz.ntmps171
  go_wp2_with fail
  obtain ⟨h0, g0⟩ := h.inc hi
  have hR1 := Blk.new (w.setCell ⟨b, 1, none⟩ (.int .i64 (((i : Nat) : Int) + 1))) (setL noSet) 24
  rw [setL_none, show (w.setCell ⟨b, 1, none⟩ (.int .i64 (((i : Nat) : Int) + 1))).heap.size = w.heap.size by simp [World.setCell], ← setL_none] at hR1
  have h1 := h0.below ((Below.refl _ _).alloc (Nat.le_refl _) (.cells (setL noSet).toArray 24))
  have g1 := only_alloc g0 (.cells (setL noSet).toArray 24)
  rw [show (setL noSet).toArray = #[.int .u64 0, .int .u64 0, .int .u64 0, .int .u64 0] by rw [setL_none]] at h1 g1 hR1
  clear h0 g0
  generalize (w.setCell _ _).alloc _ = w1 at *
  refine (peek_at h1).mono ?_
  rintro v w2 ⟨rfl, hb⟩
  rw [hp]
  have h2 := h1.below hb
  have hR2 := hR1.below hb hR1.lt
  have g2 := only_below g1 hb
  clear h1 hR1 g1 hb
  go_wp2_with fail
  refine (named_at c hc256 _).mono ?_
  rintro v w3 ⟨rfl, hb⟩
  have h3 := h2.below hb
  have hR3 := hR2.below hb hR2.lt
  have g3 := only_below g2 hb
  clear h2 hR2 g2 hb
  rw [show namedV c = m by unfold namedV; rw [hm]; rfl, show (namedM c).isSome = true by rw [hm]; rfl]
  unfold setV
  have h6 : Blk (w3.alloc (.cells #[.int .u64 (word m 0), .int .u64 (word m 1), .int .u64 (word m 2), .int .u64 (word m 3)] 24)) w3.heap.size 24 (setL m) := Blk.new w3 (setL m) 24
  have h4 := h3.below ((Below.refl _ w3).alloc (Nat.le_refl _) (.cells #[.int .u64 (word m 0), .int .u64 (word m 1), .int .u64 (word m 2), .int .u64 (word m 3)] 24))
  have hR4 := hR3.alloc (.cells #[.int .u64 (word m 0), .int .u64 (word m 1), .int .u64 (word m 2), .int .u64 (word m 3)] 24)
  have g4 := only_alloc g3 (.cells #[.int .u64 (word m 0), .int .u64 (word m 1), .int .u64 (word m 2), .int .u64 (word m 3)] 24)
  have hne6 : w3.heap.size ≠ w.heap.size := by have := hR3.lt; omega
  have hneb : w3.heap.size ≠ b := by have := h3.blk.lt; omega
  have hle6 : w.heap.size < w3.heap.size := hR3.lt
  go_wp2_with fail
  generalize w3.alloc _ = w4 at *
  generalize w3.heap.size = b6 at *
  obtain ⟨_, c1, _, _, f1, _, _⟩ := h4.cells
  refine (index_in _ specialL special_ix c hc256 _).mono ?_
  rintro v w5 ⟨⟨n, rfl, hn⟩, rfl⟩
  rename World => w4
  rw [if_neg (by rw [hs]; simp)] at hn
  obtain ⟨x0, x1, x2, x3, p0, p1, p2, p3⟩ := h6.four
  obtain ⟨y0, y1, y2, y3, k0, k1, k2, k3⟩ := hR4.four
  go_wp2
  obtain ⟨hB, gB⟩ := h4.inc hle
  refine ret_set (b := w.heap.size) rfl rfl ((hR4.far (p := ⟨b, 1, none⟩) (by show w.heap.size ≠ b; omega) _).set4 _ _ _ _) rfl ?_
  exact ⟨m, i + 1 + 1, 0, rfl, (hB).far4 (by omega) (by have := tab_lt h.tab; omega) _ _ _ _, only_set4' (only_trans g4 gB) (Nat.le_refl _) _ _ _ _, by rw [HX.out]; exact ⟨rfl, rfl, rfl⟩⟩
set_option maxRecDepth 100000 in
set_option maxHeartbeats 2000000 in
theorem esc_other {w : World} {b : Nat} {s : ByteArray} {i : Nat} {lv : Value} (h : Rdr w b s i 0 lv) (hi : i + 1 ≤ s.size) (c : Nat) (hc : (bytesN s)[i + 1]? = some c) (hs : specialL.contains c = false) (hm : namedM c = none) (hx : c ≠ 120) (ho : otherL.contains c = true) :
    Calls Tryz.prog 171 #[.pointer (some ⟨b, 0, none⟩)] w fun v w' => ∃ m j e, v = .returned (setV m) ∧ Rdr w' b s j e lv ∧ w.grownBy w' (some b) ∧ SetIs (escM (bytesN s) i) m j e := by
  have hp : peekV (bytesN s) (i + 1) = .tuple #[.int .u8 ((c : Nat) : Int), .bool true] := by unfold peekV; rw [hc]
  have hc256 := bytesN_lt hc
  have hle : i + 1 + 1 ≤ s.size := (bytesN_some hc).1
  have HX := Lib.hid (show escM (bytesN s) i = .err i 6 by unfold escM; rw [hc]; simp only []; rw [if_neg (by rw [hs]; simp), hm]; simp only []; rw [if_neg hx, if_pos ho])
  clear hc
  obtain ⟨_, c1, _, _, f1, _, _⟩ := h.cells
  have hblt := h.blk.lt
  have hsz := h.size
  go_enter Tryz.func171, Tryz.ntmps171
  go_wp2_with fail
  obtain ⟨h0, g0⟩ := h.inc hi
  have hR1 := Blk.new (w.setCell ⟨b, 1, none⟩ (.int .i64 (((i : Nat) : Int) + 1))) (setL noSet) 24
  rw [setL_none, show (w.setCell ⟨b, 1, none⟩ (.int .i64 (((i : Nat) : Int) + 1))).heap.size = w.heap.size by simp [World.setCell], ← setL_none] at hR1
  have h1 := h0.below ((Below.refl _ _).alloc (Nat.le_refl _) (.cells (setL noSet).toArray 24))
  have g1 := only_alloc g0 (.cells (setL noSet).toArray 24)
  rw [show (setL noSet).toArray = #[.int .u64 0, .int .u64 0, .int .u64 0, .int .u64 0] by rw [setL_none]] at h1 g1 hR1
  clear h0 g0
  generalize (w.setCell _ _).alloc _ = w1 at *
  refine (peek_at h1).mono ?_
  rintro v w2 ⟨rfl, hb⟩
  rw [hp]
  have h2 := h1.below hb
  have hR2 := hR1.below hb hR1.lt
  have g2 := only_below g1 hb
  clear h1 hR1 g1 hb
  go_wp2_with fail
  refine (named_at c hc256 _).mono ?_
  rintro v w3 ⟨rfl, hb⟩
  have h3 := h2.below hb
  have hR3 := hR2.below hb hR2.lt
  have g3 := only_below g2 hb
  clear h2 hR2 g2 hb
  rw [show namedV c = noSet by unfold namedV; rw [hm]; rfl, show (namedM c).isSome = false by rw [hm]; rfl]
  unfold setV
  have h6 : Blk (w3.alloc (.cells #[.int .u64 (word noSet 0), .int .u64 (word noSet 1), .int .u64 (word noSet 2), .int .u64 (word noSet 3)] 24)) w3.heap.size 24 (setL noSet) := Blk.new w3 (setL noSet) 24
  have h4 := h3.below ((Below.refl _ w3).alloc (Nat.le_refl _) (.cells #[.int .u64 (word noSet 0), .int .u64 (word noSet 1), .int .u64 (word noSet 2), .int .u64 (word noSet 3)] 24))
  have hR4 := hR3.alloc (.cells #[.int .u64 (word noSet 0), .int .u64 (word noSet 1), .int .u64 (word noSet 2), .int .u64 (word noSet 3)] 24)
  have g4 := only_alloc g3 (.cells #[.int .u64 (word noSet 0), .int .u64 (word noSet 1), .int .u64 (word noSet 2), .int .u64 (word noSet 3)] 24)
  have hne6 : w3.heap.size ≠ w.heap.size := by have := hR3.lt; omega
  have hneb : w3.heap.size ≠ b := by have := h3.blk.lt; omega
  have hle6 : w.heap.size < w3.heap.size := hR3.lt
  go_wp2_with fail
  generalize w3.alloc _ = w4 at *
  generalize w3.heap.size = b6 at *
  obtain ⟨_, c1, _, _, f1, _, _⟩ := h4.cells
  refine (index_in _ specialL special_ix c hc256 _).mono ?_
  rintro v w5 ⟨⟨n, rfl, hn⟩, rfl⟩
  rename World => w4
  rw [if_neg (by rw [hs]; simp)] at hn
  go_wp2_with fail
  refine (index_in _ otherL other_ix c hc256 _).mono ?_
  rintro v w5 ⟨⟨n2, rfl, hn2⟩, rfl⟩
  rename World => w4
  rw [if_pos ho] at hn2
  go_wp2_with fail
  refine (fail_at (k := 6) h4 (by omega)).mono ?_
  rintro v w7 ⟨⟨u, rfl⟩, h7, hg⟩
  have g7 := only_trans g4 hg
  have hR7 := hR4.turn hg (by omega)
  have h67 := h6.turn hg (by omega)
  obtain ⟨x0, x1, x2, x3, _, _, _, _⟩ := h67.four
  obtain ⟨y0, y1, y2, y3, k0, k1, k2, k3⟩ := hR7.four
  go_wp2
  refine ret_set (b := w.heap.size) rfl rfl (hR7.set4 _ _ _ _) rfl ?_
  refine ⟨noSet, i, 6, rfl, ⟨h7.blk.far4 (g := w.heap.size) (by omega) _ _ _ _, ?_, h7.ne, h7.le, h7.size⟩, only_set4' g7 (Nat.le_refl _) _ _ _ _, by rw [HX.out]; exact ⟨rfl, rfl, by omega⟩⟩
  exact h7.tab.only (only_set4 (only_refl _ w.heap.size) _ _ _ _) (by have := tab_lt h.tab; omega)
set_option maxRecDepth 100000 in
set_option maxHeartbeats 2000000 in
theorem esc_else {w : World} {b : Nat} {s : ByteArray} {i : Nat} {lv : Value} (h : Rdr w b s i 0 lv) (hi : i + 1 ≤ s.size) (c : Nat) (hc : (bytesN s)[i + 1]? = some c) (hs : specialL.contains c = false) (hm : namedM c = none) (hx : c ≠ 120) (ho : otherL.contains c = false) :
    Calls Tryz.prog 171 #[.pointer (some ⟨b, 0, none⟩)] w fun v w' => ∃ m j e, v = .returned (setV m) ∧ Rdr w' b s j e lv ∧ w.grownBy w' (some b) ∧ SetIs (escM (bytesN s) i) m j e := by
  have hp : peekV (bytesN s) (i + 1) = .tuple #[.int .u8 ((c : Nat) : Int), .bool true] := by unfold peekV; rw [hc]
  have hc256 := bytesN_lt hc
  have hle : i + 1 + 1 ≤ s.size := (bytesN_some hc).1
  have HX := Lib.hid (show escM (bytesN s) i = .err (i + 1) 4 by unfold escM; rw [hc]; simp only []; rw [if_neg (by rw [hs]; simp), hm]; simp only []; rw [if_neg hx, if_neg (by rw [ho]; simp)])
  clear hc
  obtain ⟨_, c1, _, _, f1, _, _⟩ := h.cells
  have hblt := h.blk.lt
  have hsz := h.size
  go_enter Tryz.func171, Tryz.ntmps171
  go_wp2_with fail
  obtain ⟨h0, g0⟩ := h.inc hi
  have hR1 := Blk.new (w.setCell ⟨b, 1, none⟩ (.int .i64 (((i : Nat) : Int) + 1))) (setL noSet) 24
  rw [setL_none, show (w.setCell ⟨b, 1, none⟩ (.int .i64 (((i : Nat) : Int) + 1))).heap.size = w.heap.size by simp [World.setCell], ← setL_none] at hR1
  have h1 := h0.below ((Below.refl _ _).alloc (Nat.le_refl _) (.cells (setL noSet).toArray 24))
  have g1 := only_alloc g0 (.cells (setL noSet).toArray 24)
  rw [show (setL noSet).toArray = #[.int .u64 0, .int .u64 0, .int .u64 0, .int .u64 0] by rw [setL_none]] at h1 g1 hR1
  clear h0 g0
  generalize (w.setCell _ _).alloc _ = w1 at *
  refine (peek_at h1).mono ?_
  rintro v w2 ⟨rfl, hb⟩
  rw [hp]
  have h2 := h1.below hb
  have hR2 := hR1.below hb hR1.lt
  have g2 := only_below g1 hb
  clear h1 hR1 g1 hb
  go_wp2_with fail
  refine (named_at c hc256 _).mono ?_
  rintro v w3 ⟨rfl, hb⟩
  have h3 := h2.below hb
  have hR3 := hR2.below hb hR2.lt
  have g3 := only_below g2 hb
  clear h2 hR2 g2 hb
  rw [show namedV c = noSet by unfold namedV; rw [hm]; rfl, show (namedM c).isSome = false by rw [hm]; rfl]
  unfold setV
  have h6 : Blk (w3.alloc (.cells #[.int .u64 (word noSet 0), .int .u64 (word noSet 1), .int .u64 (word noSet 2), .int .u64 (word noSet 3)] 24)) w3.heap.size 24 (setL noSet) := Blk.new w3 (setL noSet) 24
  have h4 := h3.below ((Below.refl _ w3).alloc (Nat.le_refl _) (.cells #[.int .u64 (word noSet 0), .int .u64 (word noSet 1), .int .u64 (word noSet 2), .int .u64 (word noSet 3)] 24))
  have hR4 := hR3.alloc (.cells #[.int .u64 (word noSet 0), .int .u64 (word noSet 1), .int .u64 (word noSet 2), .int .u64 (word noSet 3)] 24)
  have g4 := only_alloc g3 (.cells #[.int .u64 (word noSet 0), .int .u64 (word noSet 1), .int .u64 (word noSet 2), .int .u64 (word noSet 3)] 24)
  have hne6 : w3.heap.size ≠ w.heap.size := by have := hR3.lt; omega
  have hneb : w3.heap.size ≠ b := by have := h3.blk.lt; omega
  have hle6 : w.heap.size < w3.heap.size := hR3.lt
  go_wp2_with fail
  generalize w3.alloc _ = w4 at *
  generalize w3.heap.size = b6 at *
  obtain ⟨_, c1, _, _, f1, _, _⟩ := h4.cells
  refine (index_in _ specialL special_ix c hc256 _).mono ?_
  rintro v w5 ⟨⟨n, rfl, hn⟩, rfl⟩
  rename World => w4
  rw [if_neg (by rw [hs]; simp)] at hn
  go_wp2_with fail
  refine (index_in _ otherL other_ix c hc256 _).mono ?_
  rintro v w5 ⟨⟨n2, rfl, hn2⟩, rfl⟩
  rename World => w4
  rw [if_neg (by rw [ho]; simp)] at hn2
  go_wp2_with fail
  go_still_tail 8, (by kernel_rfl)
  change wpList _ _ _ _ _ w4.drew
  go_wp2_with fail
  refine (fail_at (k := 4) (h4.below (Below.refl _ _).drew) (by have := h4.le; omega)).mono ?_
  rintro v w7 ⟨⟨u, rfl⟩, h7, hg⟩
  have hg7 := only_trans (only_of b ((Below.refl w4.heap.size _).drew)) hg
  have g7 := only_trans g4 hg7
  have hR7 := hR4.turn hg7 (by omega)
  have h67 := h6.turn hg7 (by omega)
  obtain ⟨x0, x1, x2, x3, _, _, _, _⟩ := h67.four
  obtain ⟨y0, y1, y2, y3, k0, k1, k2, k3⟩ := hR7.four
  go_wp2
  refine ret_set (b := w.heap.size) rfl rfl (hR7.set4 _ _ _ _) rfl ?_
  refine ⟨noSet, i + 1, 4, rfl, ⟨h7.blk.far4 (g := w.heap.size) (by omega) _ _ _ _, ?_, h7.ne, h7.le, h7.size⟩, only_set4' g7 (Nat.le_refl _) _ _ _ _, by rw [HX.out]; exact ⟨rfl, rfl, by omega⟩⟩
  exact h7.tab.only (only_set4 (only_refl _ w.heap.size) _ _ _ _) (by have := tab_lt h.tab; omega)
end Go.Proofs.YtpiimcbbgalhfaaGreatDoor
/- escape, at an x; and the whole. -/
namespace Go.Proofs.YtpiimcbbgalhfaaGreatDoor
set_option maxRecDepth 100000
open Go.RowKit
theorem Rdr.incv {w : World} {b : Nat} {s : ByteArray} {i e : Nat} {lv : Value} (h : Rdr w b s i e lv) {v : Int} (hv : v = ((i + 1 : Nat) : Int)) (hi : i + 1 ≤ s.size) :
    Rdr (w.setCell ⟨b, 1, none⟩ (.int .i64 v)) b s (i + 1) e lv ∧ w.grownBy (w.setCell ⟨b, 1, none⟩ (.int .i64 v)) (some b) := by
  subst hv
  have hg := only_setCell (only_refl w b) 1 (.int .i64 ((i + 1 : Nat) : Int))
  exact ⟨h.turn hg hi (h.blk.set 1 _), hg⟩
set_option maxRecDepth 100000 in
set_option maxHeartbeats 2000000 in
theorem esc_x1 {w : World} {b : Nat} {s : ByteArray} {i : Nat} {lv : Value} (h : Rdr w b s i 0 lv) (hi : i + 1 ≤ s.size) (c : Nat) (hc : (bytesN s)[i + 1]? = some c) (hs : specialL.contains c = false) (hm : namedM c = none) (hx : c = 120) (h1x : hexAt (bytesN s) (i + 1 + 1) = none) :
    Calls Tryz.prog 171 #[.pointer (some ⟨b, 0, none⟩)] w fun v w' => ∃ m j e, v = .returned (setV m) ∧ Rdr w' b s j e lv ∧ w.grownBy w' (some b) ∧ SetIs (escM (bytesN s) i) m j e := by
  have hp : peekV (bytesN s) (i + 1) = .tuple #[.int .u8 ((c : Nat) : Int), .bool true] := by unfold peekV; rw [hc]
  have hc256 := bytesN_lt hc
  have hle : i + 1 + 1 ≤ s.size := (bytesN_some hc).1
  have HX := Lib.hid (show escM (bytesN s) i = .err (i + 2) 4 by unfold escM; rw [hc]; simp only []; rw [if_neg (by rw [hs]; simp), hm]; simp only []; rw [if_pos hx, h1x])
  clear hc
  have HXX := Lib.hid hx
  clear hx
  obtain ⟨_, c1, _, _, f1, _, _⟩ := h.cells
  have hblt := h.blk.lt
  have hsz := h.size
  go_enter Tryz.func171, Tryz.ntmps171
  go_wp2_with fail
  obtain ⟨h0, g0⟩ := h.inc hi
  have hR1 := Blk.new (w.setCell ⟨b, 1, none⟩ (.int .i64 (((i : Nat) : Int) + 1))) (setL noSet) 24
  rw [setL_none, show (w.setCell ⟨b, 1, none⟩ (.int .i64 (((i : Nat) : Int) + 1))).heap.size = w.heap.size by simp [World.setCell], ← setL_none] at hR1
  have h1 := h0.below ((Below.refl _ _).alloc (Nat.le_refl _) (.cells (setL noSet).toArray 24))
  have g1 := only_alloc g0 (.cells (setL noSet).toArray 24)
  rw [show (setL noSet).toArray = #[.int .u64 0, .int .u64 0, .int .u64 0, .int .u64 0] by rw [setL_none]] at h1 g1 hR1
  clear h0 g0
  generalize (w.setCell _ _).alloc _ = w1 at *
  refine (peek_at h1).mono ?_
  rintro v w2 ⟨rfl, hb⟩
  rw [hp]
  have h2 := h1.below hb
  have hR2 := hR1.below hb hR1.lt
  have g2 := only_below g1 hb
  clear h1 hR1 g1 hb
  go_wp2_with fail
  refine (named_at c hc256 _).mono ?_
  rintro v w3 ⟨rfl, hb⟩
  have h3 := h2.below hb
  have hR3 := hR2.below hb hR2.lt
  have g3 := only_below g2 hb
  clear h2 hR2 g2 hb
  rw [show namedV c = noSet by unfold namedV; rw [hm]; rfl, show (namedM c).isSome = false by rw [hm]; rfl]
  unfold setV
  have h6 : Blk (w3.alloc (.cells #[.int .u64 (word noSet 0), .int .u64 (word noSet 1), .int .u64 (word noSet 2), .int .u64 (word noSet 3)] 24)) w3.heap.size 24 (setL noSet) := Blk.new w3 (setL noSet) 24
  have h4 := h3.below ((Below.refl _ w3).alloc (Nat.le_refl _) (.cells #[.int .u64 (word noSet 0), .int .u64 (word noSet 1), .int .u64 (word noSet 2), .int .u64 (word noSet 3)] 24))
  have hR4 := hR3.alloc (.cells #[.int .u64 (word noSet 0), .int .u64 (word noSet 1), .int .u64 (word noSet 2), .int .u64 (word noSet 3)] 24)
  have g4 := only_alloc g3 (.cells #[.int .u64 (word noSet 0), .int .u64 (word noSet 1), .int .u64 (word noSet 2), .int .u64 (word noSet 3)] 24)
  have hne6 : w3.heap.size ≠ w.heap.size := by have := hR3.lt; omega
  have hneb : w3.heap.size ≠ b := by have := h3.blk.lt; omega
  have hle6 : w.heap.size < w3.heap.size := hR3.lt
  go_wp2_with fail
  generalize w3.alloc _ = w4 at *
  generalize w3.heap.size = b6 at *
  obtain ⟨_, c1, _, _, f1, _, _⟩ := h4.cells
  refine (index_in _ specialL special_ix c hc256 _).mono ?_
  rintro v w5 ⟨⟨n, rfl, hn⟩, rfl⟩
  rename World => w4
  rw [if_neg (by rw [hs]; simp)] at hn
  have hx' : ((c : Nat) : Int) = 120 := by have := HXX.out; omega
  go_wp2_with fail
  obtain ⟨hB, gB⟩ := h4.incv (v := ((i : Nat) : Int) + 1 + 1) (by omega) hle
  have hRb := hR4.far (p := ⟨b, 1, none⟩) (by show w.heap.size ≠ b; omega) (.int .i64 (((i : Nat) : Int) + 1 + 1))
  have h6b := h6.far (p := ⟨b, 1, none⟩) (by show b6 ≠ b; omega) (.int .i64 (((i : Nat) : Int) + 1 + 1))
  generalize w4.setCell _ _ = wb at *
  refine (hex_at hB).mono ?_
  rintro v w7 ⟨n1, j1, e1, rfl, h7, g7, hn1, hh1⟩
  rw [h1x] at hh1
  obtain ⟨rfl, rfl⟩ := hh1
  have hR7 := Blk.turn hRb g7 (by omega)
  have h67 := Blk.turn h6b g7 (by omega)
  replace g7 := only_trans (only_trans g4 gB) g7
  clear hRb h6b hB gB h4 hR4 h6 g4 c1 f1
  go_wp2_with fail
  refine (bad_at h7).mono ?_
  rintro v w8 ⟨rfl, hb8⟩
  have h8 := h7.below hb8
  have hR8 := hR7.below hb8 hR7.lt
  have h68 := h67.below hb8 h67.lt
  have g8 := only_below g7 hb8
  clear h7 hR7 h67 g7 hb8
  rw [show decide ((4 : Nat) ≠ 0) = true from rfl]
  obtain ⟨x0, x1, x2, x3, _, _, _, _⟩ := h68.four
  obtain ⟨y0, y1, y2, y3, k0, k1, k2, k3⟩ := hR8.four
  go_wp2
  refine ret_set (b := w.heap.size) rfl rfl (hR8.set4 _ _ _ _) rfl ?_
  refine ⟨noSet, i + 1 + 1, 4, rfl, ⟨h8.blk.far4 (g := w.heap.size) (by omega) _ _ _ _, ?_, h8.ne, h8.le, h8.size⟩, only_set4' g8 (Nat.le_refl _) _ _ _ _, by rw [HX.out]; exact ⟨rfl, rfl, by omega⟩⟩
  exact h8.tab.only (only_set4 (only_refl _ w.heap.size) _ _ _ _) (by have := tab_lt h.tab; omega)
set_option maxRecDepth 100000 in
set_option maxHeartbeats 2000000 in
theorem esc_x2 {w : World} {b : Nat} {s : ByteArray} {i : Nat} {lv : Value} (h : Rdr w b s i 0 lv) (hi : i + 1 ≤ s.size) (c : Nat) (hc : (bytesN s)[i + 1]? = some c) (hs : specialL.contains c = false) (hm : namedM c = none) (hx : c = 120) (d : Nat) (h1x : hexAt (bytesN s) (i + 1 + 1) = some d) (h2x : hexAt (bytesN s) (i + 1 + 1 + 1) = none) :
    Calls Tryz.prog 171 #[.pointer (some ⟨b, 0, none⟩)] w fun v w' => ∃ m j e, v = .returned (setV m) ∧ Rdr w' b s j e lv ∧ w.grownBy w' (some b) ∧ SetIs (escM (bytesN s) i) m j e := by
  have hp : peekV (bytesN s) (i + 1) = .tuple #[.int .u8 ((c : Nat) : Int), .bool true] := by unfold peekV; rw [hc]
  have hc256 := bytesN_lt hc
  have hle : i + 1 + 1 ≤ s.size := (bytesN_some hc).1
  have HX := Lib.hid (show escM (bytesN s) i = .err (i + 3) 4 by unfold escM; rw [hc]; simp only []; rw [if_neg (by rw [hs]; simp), hm]; simp only []; rw [if_pos hx, h1x]; simp only []; rw [h2x])
  clear hc
  have HXX := Lib.hid hx
  clear hx
  obtain ⟨_, c1, _, _, f1, _, _⟩ := h.cells
  have hblt := h.blk.lt
  have hsz := h.size
  go_enter Tryz.func171, Tryz.ntmps171
  go_wp2_with fail
  obtain ⟨h0, g0⟩ := h.inc hi
  have hR1 := Blk.new (w.setCell ⟨b, 1, none⟩ (.int .i64 (((i : Nat) : Int) + 1))) (setL noSet) 24
  rw [setL_none, show (w.setCell ⟨b, 1, none⟩ (.int .i64 (((i : Nat) : Int) + 1))).heap.size = w.heap.size by simp [World.setCell], ← setL_none] at hR1
  have h1 := h0.below ((Below.refl _ _).alloc (Nat.le_refl _) (.cells (setL noSet).toArray 24))
  have g1 := only_alloc g0 (.cells (setL noSet).toArray 24)
  rw [show (setL noSet).toArray = #[.int .u64 0, .int .u64 0, .int .u64 0, .int .u64 0] by rw [setL_none]] at h1 g1 hR1
  clear h0 g0
  generalize (w.setCell _ _).alloc _ = w1 at *
  refine (peek_at h1).mono ?_
  rintro v w2 ⟨rfl, hb⟩
  rw [hp]
  have h2 := h1.below hb
  have hR2 := hR1.below hb hR1.lt
  have g2 := only_below g1 hb
  clear h1 hR1 g1 hb
  go_wp2_with fail
  refine (named_at c hc256 _).mono ?_
  rintro v w3 ⟨rfl, hb⟩
  have h3 := h2.below hb
  have hR3 := hR2.below hb hR2.lt
  have g3 := only_below g2 hb
  clear h2 hR2 g2 hb
  rw [show namedV c = noSet by unfold namedV; rw [hm]; rfl, show (namedM c).isSome = false by rw [hm]; rfl]
  unfold setV
  have h6 : Blk (w3.alloc (.cells #[.int .u64 (word noSet 0), .int .u64 (word noSet 1), .int .u64 (word noSet 2), .int .u64 (word noSet 3)] 24)) w3.heap.size 24 (setL noSet) := Blk.new w3 (setL noSet) 24
  have h4 := h3.below ((Below.refl _ w3).alloc (Nat.le_refl _) (.cells #[.int .u64 (word noSet 0), .int .u64 (word noSet 1), .int .u64 (word noSet 2), .int .u64 (word noSet 3)] 24))
  have hR4 := hR3.alloc (.cells #[.int .u64 (word noSet 0), .int .u64 (word noSet 1), .int .u64 (word noSet 2), .int .u64 (word noSet 3)] 24)
  have g4 := only_alloc g3 (.cells #[.int .u64 (word noSet 0), .int .u64 (word noSet 1), .int .u64 (word noSet 2), .int .u64 (word noSet 3)] 24)
  have hne6 : w3.heap.size ≠ w.heap.size := by have := hR3.lt; omega
  have hneb : w3.heap.size ≠ b := by have := h3.blk.lt; omega
  have hle6 : w.heap.size < w3.heap.size := hR3.lt
  go_wp2_with fail
  generalize w3.alloc _ = w4 at *
  generalize w3.heap.size = b6 at *
  obtain ⟨_, c1, _, _, f1, _, _⟩ := h4.cells
  refine (index_in _ specialL special_ix c hc256 _).mono ?_
  rintro v w5 ⟨⟨n, rfl, hn⟩, rfl⟩
  rename World => w4
  rw [if_neg (by rw [hs]; simp)] at hn
  have hx' : ((c : Nat) : Int) = 120 := by have := HXX.out; omega
  go_wp2_with fail
  obtain ⟨hB, gB⟩ := h4.incv (v := ((i : Nat) : Int) + 1 + 1) (by omega) hle
  have hRb := hR4.far (p := ⟨b, 1, none⟩) (by show w.heap.size ≠ b; omega) (.int .i64 (((i : Nat) : Int) + 1 + 1))
  have h6b := h6.far (p := ⟨b, 1, none⟩) (by show b6 ≠ b; omega) (.int .i64 (((i : Nat) : Int) + 1 + 1))
  generalize w4.setCell _ _ = wb at *
  refine (hex_at hB).mono ?_
  rintro v w7 ⟨n1, j1, e1, rfl, h7, g7, hn1, hh1⟩
  rw [h1x] at hh1
  obtain ⟨rfl, rfl, rfl⟩ := hh1
  have hR7 := Blk.turn hRb g7 (by omega)
  have h67 := Blk.turn h6b g7 (by omega)
  replace g7 := only_trans (only_trans g4 gB) g7
  clear hRb h6b hB gB h4 hR4 h6 g4 c1 f1
  go_wp2_with fail
  refine (bad_at h7).mono ?_
  rintro v w8 ⟨rfl, hb8⟩
  have h8 := h7.below hb8
  have hR8 := hR7.below hb8 hR7.lt
  have h68 := h67.below hb8 h67.lt
  have g8 := only_below g7 hb8
  clear h7 hR7 h67 g7 hb8
  rw [show decide ((0 : Nat) ≠ 0) = false from rfl]
  go_wp2_with fail
  refine (hex_at h8).mono ?_
  rintro v w9 ⟨n2, j2, e2, rfl, h9, g9, hn2, hh2⟩
  rw [h2x] at hh2
  obtain ⟨rfl, rfl⟩ := hh2
  have hR9 := Blk.turn hR8 g9 (by omega)
  have h69 := Blk.turn h68 g9 (by omega)
  replace g9 := only_trans g8 g9
  clear h8 hR8 h68 g8
  go_wp2_with fail
  rw [show (16 * ((n1 : Nat) : Int) + ((n2 : Nat) : Int)) = ((16 * n1 + n2 : Nat) : Int) by omega]
  refine (of_one (c := 16 * n1 + n2) (by omega) _ rfl).mono ?_
  rintro v w6 ⟨rfl, hb⟩
  have hbb := below1 (Below.refl _ w9) (Nat.le_refl _) hb
  have h5 := h9.below hbb
  have hR5 := hR9.below hbb hR9.lt
  have h65 := h69.below hbb h69.lt
  have g5 := only_below g9 hbb
  clear hb h9 hR9 h69 g9 hbb
  generalize hmo : oneM (16 * n1 + n2) = mo at *
  have HMO := Lib.hid hmo
  clear hmo
  unfold setV
  obtain ⟨x0, x1, x2, x3, p0, p1, p2, p3⟩ := h65.four
  go_upto_region 20 with fail
  have hA := h5.far4 (g := b6) (by omega) (by have := tab_lt h.tab; omega) (.int .u64 (word mo 0)) (.int .u64 (word mo 1)) (.int .u64 (word mo 2)) (.int .u64 (word mo 3))
  have hRa := hR5.far4 (g := b6) (by omega) (.int .u64 (word mo 0)) (.int .u64 (word mo 1)) (.int .u64 (word mo 2)) (.int .u64 (word mo 3))
  have h6a := h65.set4 (.int .u64 (word mo 0)) (.int .u64 (word mo 1)) (.int .u64 (word mo 2)) (.int .u64 (word mo 3))
  have gA := only_set4' g5 (g := b6) (by omega) (.int .u64 (word mo 0)) (.int .u64 (word mo 1)) (.int .u64 (word mo 2)) (.int .u64 (word mo 3))
  clear x0 x1 x2 x3 p0 p1 p2 p3 h5 hR5 h65 g5
  generalize (((w6.setCell _ _).setCell _ _).setCell _ _).setCell _ _ = wa at *
  obtain ⟨x0, x1, x2, x3, _, _, _, _⟩ := h6a.four
  obtain ⟨y0, y1, y2, y3, k0, k1, k2, k3⟩ := hRa.four
  go_wp2
  refine ret_set (b := w.heap.size) rfl rfl (hRa.set4 _ _ _ _) rfl ?_
  refine ⟨mo, i + 1 + 1 + 1, 4, rfl, ⟨hA.blk.far4 (g := w.heap.size) (by omega) _ _ _ _, ?_, hA.ne, hA.le, hA.size⟩, only_set4' gA (Nat.le_refl _) _ _ _ _, by rw [HX.out]; exact ⟨rfl, rfl, by omega⟩⟩
  exact hA.tab.only (only_set4 (only_refl _ w.heap.size) _ _ _ _) (by have := tab_lt h.tab; omega)
set_option maxRecDepth 100000 in
set_option maxHeartbeats 2000000 in
theorem esc_x3 {w : World} {b : Nat} {s : ByteArray} {i : Nat} {lv : Value} (h : Rdr w b s i 0 lv) (hi : i + 1 ≤ s.size) (c : Nat) (hc : (bytesN s)[i + 1]? = some c) (hs : specialL.contains c = false) (hm : namedM c = none) (hx : c = 120) (d d2 : Nat) (h1x : hexAt (bytesN s) (i + 1 + 1) = some d) (h2x : hexAt (bytesN s) (i + 1 + 1 + 1) = some d2) :
    Calls Tryz.prog 171 #[.pointer (some ⟨b, 0, none⟩)] w fun v w' => ∃ m j e, v = .returned (setV m) ∧ Rdr w' b s j e lv ∧ w.grownBy w' (some b) ∧ SetIs (escM (bytesN s) i) m j e := by
  have hp : peekV (bytesN s) (i + 1) = .tuple #[.int .u8 ((c : Nat) : Int), .bool true] := by unfold peekV; rw [hc]
  have hc256 := bytesN_lt hc
  have hle : i + 1 + 1 ≤ s.size := (bytesN_some hc).1
  have HX := Lib.hid (show escM (bytesN s) i = .ok (oneM (16 * d + d2)) (i + 4) by unfold escM; rw [hc]; simp only []; rw [if_neg (by rw [hs]; simp), hm]; simp only []; rw [if_pos hx, h1x]; simp only []; rw [h2x])
  clear hc
  have HXX := Lib.hid hx
  clear hx
  obtain ⟨_, c1, _, _, f1, _, _⟩ := h.cells
  have hblt := h.blk.lt
  have hsz := h.size
  go_enter Tryz.func171, Tryz.ntmps171
  go_wp2_with fail
  obtain ⟨h0, g0⟩ := h.inc hi
  have hR1 := Blk.new (w.setCell ⟨b, 1, none⟩ (.int .i64 (((i : Nat) : Int) + 1))) (setL noSet) 24
  rw [setL_none, show (w.setCell ⟨b, 1, none⟩ (.int .i64 (((i : Nat) : Int) + 1))).heap.size = w.heap.size by simp [World.setCell], ← setL_none] at hR1
  have h1 := h0.below ((Below.refl _ _).alloc (Nat.le_refl _) (.cells (setL noSet).toArray 24))
  have g1 := only_alloc g0 (.cells (setL noSet).toArray 24)
  rw [show (setL noSet).toArray = #[.int .u64 0, .int .u64 0, .int .u64 0, .int .u64 0] by rw [setL_none]] at h1 g1 hR1
  clear h0 g0
  generalize (w.setCell _ _).alloc _ = w1 at *
  refine (peek_at h1).mono ?_
  rintro v w2 ⟨rfl, hb⟩
  rw [hp]
  have h2 := h1.below hb
  have hR2 := hR1.below hb hR1.lt
  have g2 := only_below g1 hb
  clear h1 hR1 g1 hb
  go_wp2_with fail
  refine (named_at c hc256 _).mono ?_
  rintro v w3 ⟨rfl, hb⟩
  have h3 := h2.below hb
  have hR3 := hR2.below hb hR2.lt
  have g3 := only_below g2 hb
  clear h2 hR2 g2 hb
  rw [show namedV c = noSet by unfold namedV; rw [hm]; rfl, show (namedM c).isSome = false by rw [hm]; rfl]
  unfold setV
  have h6 : Blk (w3.alloc (.cells #[.int .u64 (word noSet 0), .int .u64 (word noSet 1), .int .u64 (word noSet 2), .int .u64 (word noSet 3)] 24)) w3.heap.size 24 (setL noSet) := Blk.new w3 (setL noSet) 24
  have h4 := h3.below ((Below.refl _ w3).alloc (Nat.le_refl _) (.cells #[.int .u64 (word noSet 0), .int .u64 (word noSet 1), .int .u64 (word noSet 2), .int .u64 (word noSet 3)] 24))
  have hR4 := hR3.alloc (.cells #[.int .u64 (word noSet 0), .int .u64 (word noSet 1), .int .u64 (word noSet 2), .int .u64 (word noSet 3)] 24)
  have g4 := only_alloc g3 (.cells #[.int .u64 (word noSet 0), .int .u64 (word noSet 1), .int .u64 (word noSet 2), .int .u64 (word noSet 3)] 24)
  have hne6 : w3.heap.size ≠ w.heap.size := by have := hR3.lt; omega
  have hneb : w3.heap.size ≠ b := by have := h3.blk.lt; omega
  have hle6 : w.heap.size < w3.heap.size := hR3.lt
  go_wp2_with fail
  generalize w3.alloc _ = w4 at *
  generalize w3.heap.size = b6 at *
  obtain ⟨_, c1, _, _, f1, _, _⟩ := h4.cells
  refine (index_in _ specialL special_ix c hc256 _).mono ?_
  rintro v w5 ⟨⟨n, rfl, hn⟩, rfl⟩
  rename World => w4
  rw [if_neg (by rw [hs]; simp)] at hn
  have hx' : ((c : Nat) : Int) = 120 := by have := HXX.out; omega
  go_wp2_with fail
  obtain ⟨hB, gB⟩ := h4.incv (v := ((i : Nat) : Int) + 1 + 1) (by omega) hle
  have hRb := hR4.far (p := ⟨b, 1, none⟩) (by show w.heap.size ≠ b; omega) (.int .i64 (((i : Nat) : Int) + 1 + 1))
  have h6b := h6.far (p := ⟨b, 1, none⟩) (by show b6 ≠ b; omega) (.int .i64 (((i : Nat) : Int) + 1 + 1))
  generalize w4.setCell _ _ = wb at *
  refine (hex_at hB).mono ?_
  rintro v w7 ⟨n1, j1, e1, rfl, h7, g7, hn1, hh1⟩
  rw [h1x] at hh1
  obtain ⟨rfl, rfl, rfl⟩ := hh1
  have hR7 := Blk.turn hRb g7 (by omega)
  have h67 := Blk.turn h6b g7 (by omega)
  replace g7 := only_trans (only_trans g4 gB) g7
  clear hRb h6b hB gB h4 hR4 h6 g4 c1 f1
  go_wp2_with fail
  refine (bad_at h7).mono ?_
  rintro v w8 ⟨rfl, hb8⟩
  have h8 := h7.below hb8
  have hR8 := hR7.below hb8 hR7.lt
  have h68 := h67.below hb8 h67.lt
  have g8 := only_below g7 hb8
  clear h7 hR7 h67 g7 hb8
  rw [show decide ((0 : Nat) ≠ 0) = false from rfl]
  go_wp2_with fail
  refine (hex_at h8).mono ?_
  rintro v w9 ⟨n2, j2, e2, rfl, h9, g9, hn2, hh2⟩
  rw [h2x] at hh2
  obtain ⟨rfl, rfl, rfl⟩ := hh2
  have hR9 := Blk.turn hR8 g9 (by omega)
  have h69 := Blk.turn h68 g9 (by omega)
  replace g9 := only_trans g8 g9
  clear h8 hR8 h68 g8
  go_wp2_with fail
  rw [show (16 * ((n1 : Nat) : Int) + ((n2 : Nat) : Int)) = ((16 * n1 + n2 : Nat) : Int) by omega]
  refine (of_one (c := 16 * n1 + n2) (by omega) _ rfl).mono ?_
  rintro v w6 ⟨rfl, hb⟩
  have hbb := below1 (Below.refl _ w9) (Nat.le_refl _) hb
  have h5 := h9.below hbb
  have hR5 := hR9.below hbb hR9.lt
  have h65 := h69.below hbb h69.lt
  have g5 := only_below g9 hbb
  clear hb h9 hR9 h69 g9 hbb
  generalize hmo : oneM (16 * n1 + n2) = mo at *
  have HMO := Lib.hid hmo
  clear hmo
  unfold setV
  obtain ⟨x0, x1, x2, x3, p0, p1, p2, p3⟩ := h65.four
  go_upto_region 20 with fail
  have hA := h5.far4 (g := b6) (by omega) (by have := tab_lt h.tab; omega) (.int .u64 (word mo 0)) (.int .u64 (word mo 1)) (.int .u64 (word mo 2)) (.int .u64 (word mo 3))
  have hRa := hR5.far4 (g := b6) (by omega) (.int .u64 (word mo 0)) (.int .u64 (word mo 1)) (.int .u64 (word mo 2)) (.int .u64 (word mo 3))
  have h6a := h65.set4 (.int .u64 (word mo 0)) (.int .u64 (word mo 1)) (.int .u64 (word mo 2)) (.int .u64 (word mo 3))
  have gA := only_set4' g5 (g := b6) (by omega) (.int .u64 (word mo 0)) (.int .u64 (word mo 1)) (.int .u64 (word mo 2)) (.int .u64 (word mo 3))
  clear x0 x1 x2 x3 p0 p1 p2 p3 h5 hR5 h65 g5
  generalize (((w6.setCell _ _).setCell _ _).setCell _ _).setCell _ _ = wa at *
  obtain ⟨x0, x1, x2, x3, _, _, _, _⟩ := h6a.four
  obtain ⟨y0, y1, y2, y3, k0, k1, k2, k3⟩ := hRa.four
  go_wp2
  refine ret_set (b := w.heap.size) rfl rfl (hRa.set4 _ _ _ _) rfl ?_
  refine ⟨mo, i + 1 + 1 + 1 + 1, 0, rfl, ⟨hA.blk.far4 (g := w.heap.size) (by omega) _ _ _ _, ?_, hA.ne, hA.le, hA.size⟩, only_set4' gA (Nat.le_refl _) _ _ _ _, by rw [HX.out]; exact ⟨rfl, rfl, rfl⟩⟩
  exact hA.tab.only (only_set4 (only_refl _ w.heap.size) _ _ _ _) (by have := tab_lt h.tab; omega)
theorem escape_at {w : World} {b : Nat} {s : ByteArray} {i : Nat} {lv : Value} (h : Rdr w b s i 0 lv) (hi : i + 1 ≤ s.size) :
    Calls Tryz.prog 171 #[.pointer (some ⟨b, 0, none⟩)] w fun v w' => ∃ m j e, v = .returned (setV m) ∧ Rdr w' b s j e lv ∧ w.grownBy w' (some b) ∧ SetIs (escM (bytesN s) i) m j e := by
  cases hc : (bytesN s)[i + 1]? with
  | none => exact esc_none h hi hc
  | some c =>
    cases hs : specialL.contains c with
    | true => exact esc_special h hi c hc hs
    | false =>
      cases hm : namedM c with
      | some m => exact esc_known h hi c hc m hs hm
      | none =>
        by_cases hx : c = 120
        · cases h1 : hexAt (bytesN s) (i + 1 + 1) with
          | none => exact esc_x1 h hi c hc hs hm hx h1
          | some d =>
            cases h2 : hexAt (bytesN s) (i + 1 + 1 + 1) with
            | none => exact esc_x2 h hi c hc hs hm hx d h1 h2
            | some d2 => exact esc_x3 h hi c hc hs hm hx d d2 h1 h2
        · cases ho : otherL.contains c with
          | true => exact esc_other h hi c hc hs hm hx ho
          | false => exact esc_else h hi c hc hs hm hx ho
end Go.Proofs.YtpiimcbbgalhfaaGreatDoor
