/- Weights: place. -/
import Derived.Test.YtpiimcbbgalhfaaGreatDoorDc
import Derived.Test.YtpiimcbbgalhfaaGreatDoorBs
import Derived.Test.YtpiimcbbgalhfaaGreatDoorBb
namespace Go.Proofs.YtpiimcbbgalhfaaGreatDoor
set_option maxRecDepth 100000
open Go.RowKit Go.Maps
theorem wpList_insert_bag {w : World} {ops : Array Oper} {rest : List Oper} {o : Oper} {a : Act} {Q : Exit → Act → World → Prop} {n b p : Nat} {β : Bag} {v : Int} (hg : o.guard = none) (m x y : Operand)
    (hop : o.op = .insert 135 m x y) (hm : a.eval m = .map (some b)) (hx : a.eval x = .int .i64 ((p : Nat) : Int)) (hv : a.eval y = .int .i64 v) (hB : BagAt w n b β) (hp : p < n) (hn : n ≤ 1000) (hvr : 0 < v ∧ v ≤ mostI)
    (hK : ∀ w', BagAt w' n b (fun q => if q = p then v else β q) → w.grownBy w' (some b) → wpList Tryz.prog ops Q rest (a.put o.dst undef) w') : wpList Tryz.prog ops Q (o :: rest) a w := by
  refine wpList_plain hg fun K' hK' => ?_
  obtain ⟨D, hmap, hD⟩ := hB
  obtain ⟨w', hrun, h1, h2⟩ := hmap.update (key := .int .i64 ((p : Nat) : Int)) (val := .int .i64 v) kint Tryz.underlying135 (by unfold maxLen; omega) (key_of (by omega)) (plainElem_int Tryz.underlying3 (wf_i64 (by have := hvr.2; unfold mostI at this; omega)))
  have hD' := bagD_put hmap.isMap hD hp hvr
  unfold Oper.wp
  simp [execOp, hop, hm, hx, hv, hrun, Result.andThen]
  exact hK' _ _ (hK w' ⟨_, map_tight h1 hD', hD'⟩ h2)
theorem elem_bags : Elem Tryz.prog 138 135 1 8 := by
  obtain ⟨i, hi, h0, h1, h2⟩ := info_parts (by kernel_rfl : (Tryz.prog.info? 135).map (fun i => (i.zero, i.size, i.bytes)) = some (some (.map none), 1, 8))
  exact ⟨i, _, Tryz.underlying138, hi, h0, h1, h2, rfl, by omega⟩
theorem one_mapV (b : Nat) : ∀ u ∈ [mapV b], u.oneCell' = true := by
  intro u hu
  rw [List.mem_singleton.1 hu]
  rfl
theorem bag_put_new (w : World) (n : Nat) (p : Addr) (v : Value) : BagAt ((w.setCell p v).alloc (.map #[] 0)) n w.heap.size zeroB := by
  have := bag_new (w.setCell p v) n
  rw [show (w.setCell p v).heap.size = w.heap.size by simp [World.setCell]] at this
  exact this
theorem info_known : (Tryz.prog.info? 137).map (·.size) = some 3 := by kernel_rfl
theorem load_known {w : World} {b : Nat} {x y z : Value} (h : Blk w b 137 [x, y, z]) : (loadVar 137 ⟨b, 0, none⟩).run Tryz.prog w = .ok (.agg #[x, y, z]) w :=
  run_loadVar_row w b 137 _ #[x, y, z] (0, 0) _ h Tryz.underlying137 rfl (by rw [info_known]; simp)
theorem ret_known {fn : Func} {R : Ending → World → Prop} {a : Act} {w : World} {b r : Nat} {x y z : Value} (hres : fn.results = #[.cell r 137])
    (hr : a.tmps.getD r undef = .pointer (some ⟨b, 0, none⟩)) (h : Blk w b 137 [x, y, z]) (hd : a.defers = []) (hR : R (.returned (.agg #[x, y, z])) w) : bodyPost Tryz.prog fn R .ret a w := by
  have hld := load_known h
  refine bodyPost_ret (v := .agg #[x, y, z]) ?_ hd hR
  have hr' : a.tmps[r]?.getD undef = .pointer (some ⟨b, 0, none⟩) := by simpa using hr
  simp [results, hres, hr', hld, asAddr]
theorem place_kb (w : World) (A : Obj) (cs : List Value) {t : TypeId} : Blk ((w.alloc A).alloc (.cells cs.toArray t)).drew (w.heap.size + 1) t cs := by
  have h : Blk ((w.alloc A).alloc (.cells cs.toArray t)) (w.heap.size + 1) t cs := by
    have := Blk.new (w.alloc A) cs t
    simpa using this
  exact h
theorem place_below2 {w w' : World} (hg : (w.alloc (.map #[] 0)).grownBy w' (some w.heap.size)) : Below w.heap.size w w' :=
  ((Below.refl _ w).alloc (Nat.le_refl _) _).grown hg (by simp) (fun k e => by cases e; exact Nat.le_refl _)
theorem place_below {w w' : World} {p : Addr} {v : Value} (hg : ((w.setCell p v).alloc (.map #[] 0)).grownBy w' (some w.heap.size)) : Below (w.setCell p v).heap.size (w.setCell p v) w' := by
  have e : (w.setCell p v).heap.size = w.heap.size := by simp [World.setCell]
  rw [← e] at hg
  exact place_below2 hg
theorem place_kept2 {w w' : World} {b r : Nat} {t : TypeId} {cs : List Value} {o : Obj} (hb : Blk w b t cs) (hg : (w.alloc o).grownBy w' (some r)) (hr : b ≠ r) : Blk w' b t cs :=
  (hg.block b (by have := hb.lt; simp; omega) (by simpa using hr)).trans ((Below.heap_alloc w o b hb.lt).trans hb)
/-- What is known of a core, as it lies. -/
def KnAt (w : World) (n : Nat) (S : Nat → Prop) (k : Kn) (v : Value) : Prop := ∃ a b, v = .agg #[.int .i64 k.void, mapV a, mapV b] ∧ BagAt w n a k.first ∧ BagAt w n b k.last ∧ S a ∧ S b
theorem KnAt.keep {w w' : World} {n : Nat} {S S' : Nat → Prop} {k : Kn} {v : Value} (h : KnAt w n S k v) (hk : Keep w S w' S') : KnAt w' n S' k v := by
  obtain ⟨a, b, e, h1, h2, h3, h4⟩ := h
  exact ⟨a, b, e, h1.heap (hk.2 a h3 h1.lt).1, h2.heap (hk.2 b h4 h2.lt).1, (hk.2 a h3 h1.lt).2, (hk.2 b h4 h2.lt).2⟩
/-- What walk leaves behind. -/
def WalkIs (w0 w w' : World) (W n : Nat) (fb : List Nat) (sv fv : Value) (r : Kn × Wg) (v : Value) : Prop :=
  ∃ fb' sv' fv', WtAt w0 w' W n fb' sv' fv' r.2 ∧ Keep w (SW W sv fv fb) w' (SW W sv' fv' fb') ∧ KnAt w' n (SW W sv' fv' fb') r.1 v
set_option maxHeartbeats 8000000 in
theorem place_at {w0 w : World} {W n : Nat} {fb : List Nat} {sv fv : Value} {G : Wg} (h : WtAt w0 w W n fb sv fv G) (m : Nat → Bool) (hlen : G.fol.length = G.ms.length) (hl : G.ms.length < n) (hn : n ≤ 1000) :
    Calls Tryz.prog 139 #[.pointer (some ⟨W, 0, none⟩), .agg (setL m).toArray] w fun v w' => ∃ kv, v = .returned kv ∧ WalkIs w0 w w' W n fb sv fv (⟨0, oneB G.ms.length, oneB G.ms.length⟩, G.place m) kv := by
  obtain ⟨so, sc, rfl⟩ : ∃ so sc, sv = .slice so G.ms.length sc := by
    rcases h.sets.2 with ⟨e, e0⟩ | ⟨g, cap, cur, e, _⟩
    · exact ⟨none, 0, by rw [e, e0]⟩
    · exact ⟨_, _, e⟩
  have HLEN := Lib.hid hlen
  have hfn : G.fol.length ≤ 1000 := by omega
  have hfl := h.blk.lt
  have H := Lib.hid h
  clear hlen
  have hB1 : Below w.heap.size w ((w.alloc (.cells (setL m).toArray 24)).alloc (.cells #[.int .i64 0, .map none, .map none] 137)).drew := (((Below.refl _ w).alloc (Nat.le_refl _) _).alloc (by simp) _).drew
  have HW1 := Lib.hid (H.out.under hB1)
  have HNW := Lib.hid (fun k hk => H.out.new (k := k) hk)
  have HB1 := Lib.hid hB1
  have HOW := Lib.hid (own_below H.out.sets hB1)
  have HBL := Lib.hid (H.out.blk.below hB1 hfl)
  have hmm := @run_makeMap Tryz.prog
  have c3 : w.cell? ⟨W, 3, none⟩ = some (.slice so G.ms.length sc) := h.blk.cell 3
  have c3c : ∀ o p q, (((w.alloc o).alloc p).alloc q).cell? ⟨W, 3, none⟩ = some (.slice so G.ms.length sc) := fun o p q => ((((Below.refl w.heap.size w).alloc (Nat.le_refl _) o).alloc (by simp) p).alloc (by simp; omega) q).cell (p := ⟨W, 3, none⟩) hfl |>.trans c3
  clear h hB1
  go_enter Tryz.func139, Tryz.ntmps139
  go_wp2_with fail
  go_region_law (first
    | (refine step_append_far rfl (.tmp 15) (.tmp 17) 132 rfl (W + 1) 24 4 32 elem_sets _ _ _ (by simp [Act.eval]) HOW.out (setL m) (by simp [Act.eval]) rfl (one_set _) (by omega) (by omega) (by simp; omega) ?_; intro g5 cap5 w5 hown5 hmv; have hk5 := hmv.blk HBL.out HOW.out (Nat.lt_succ_self W); have f35 := hk5.frozen 3; have c35 : w5.cell? ⟨W, 3, none⟩ = some (.slice so G.ms.length sc) := hk5.cell 3; have hl5 := hk5.lt; have HM5 := Lib.hid hmv; have HO5 := Lib.hid hown5; clear hmv hown5 hk5))
  all_goals
    obtain ⟨hF6, hK6⟩ := HW1.out.setted (Below.refl _ _) HO5.out HM5.out
    have hk6 := hK6.2 (w.heap.size + 1) (HNW.out _ (by omega)) (by simp)
    have hkb6 : Blk (w5.setCell ⟨W, 3, none⟩ (.slice (some ⟨g5, 0, none⟩) (G.ms.length + 1) cap5)) (w.heap.size + 1) 137 [.int .i64 0, .map none, .map none] := hk6.1.trans (place_kb w _ _)
    have HSB6 := Lib.hid hk6.2
    obtain ⟨w6, hw6⟩ : ∃ w6, w5.setCell ⟨W, 3, none⟩ (.slice (some ⟨g5, 0, none⟩) (G.ms.length + 1) cap5) = w6 := ⟨_, rfl⟩
    rw [hw6] at hF6 hK6 hkb6 ⊢
    have hc46 : w6.cell? ⟨W, 4, none⟩ = some fv := hF6.blk.cell 4
    have hB6 : Below w6.heap.size w6 (w6.alloc (.map #[] 0)) := (Below.refl _ _).alloc (Nat.le_refl _) _
    have HB6 := Lib.hid hB6
    have HOW6 := Lib.hid (show (w6.alloc (.map #[] 0)).ownsRow (W + 1) 135 1 fv G.fol.length (fb.map mapV) from own_below hF6.fol hB6)
    have HBL6 := Lib.hid (hF6.blk.below hB6 hF6.blk.lt)
    have hl6 := hF6.blk.lt
    have hlk := hkb6.lt
    have HF6 := Lib.hid hF6
    have HK6 := Lib.hid hK6
    have HKB6 := Lib.hid hkb6
    clear HO5 HM5 f35 c35 hl5 hw6 hF6 hK6 hkb6 hk6 hB6 c3 c3c HOW HBL
    go_wp2_with (first
      | (at_builtin; refine append_far rfl (.tmp 25) (.tmp 27) 138 rfl (W + 1) 135 1 8 elem_bags fv _ _ rfl HOW6.out [mapV w6.heap.size] (by simp [Act.eval]) rfl (one_mapV _) (by omega) (by omega) (by simp; omega) ?_; intro g7 cap7 w7 hown7 hmv7; obtain ⟨hF8, hK8⟩ := HF6.out.foled HB6.out (Nat.le_refl _) (bag_new w6 n) hown7 hmv7; have hk8 := hK8.2 (w.heap.size + 1) HSB6.out hlk; have HSB8 := Lib.hid hk8.2; have hkb8 := hk8.1.trans HKB6.out; have HN8b := Lib.hid (hF8.new (k := w7.heap.size) (by simp [World.setCell])); have hn8 := bag_put_new w7 n ⟨W, 4, none⟩ (.slice (some ⟨g7, 0, none⟩) (G.fol.length + 1) cap7); have hk7 := hmv7.blk HBL6.out HOW6.out (Nat.lt_succ_self W); have f47 := hk7.frozen 4; have c47 : w7.cell? ⟨W, 4, none⟩ = some fv := hk7.cell 4; have hl7 := hk7.lt; have hs7 : w6.heap.size + 1 ≤ w7.heap.size := Nat.le_trans (by simp) hmv7.size; have hHF8 := Lib.hid hF8; have HK8 := Lib.hid hK8; have HKB8 := Lib.hid hkb8; have HN8 := Lib.hid hn8; clear hmv7 hown7 hk7 hF8 hK8 hkb8 hn8 hk8)
      | (refine wpList_insert_bag rfl (.tmp 31) (.tmp 32) (.const (.int .i64 1)) rfl rfl rfl rfl HN8.out hl hn ⟨by omega, by unfold mostI; omega⟩ ?_; intro w9 hB9 hg9; have hn9 := bag_new w9 n; have HN9 := Lib.hid hn9; have HB9 := Lib.hid hB9; have HL9 := Lib.hid (place_below hg9);  have hs9 : w7.heap.size + 1 ≤ w9.heap.size := Nat.le_trans (by simp [World.setCell]) hg9.size; have hkb9 := place_kept2 HKB8.out hg9 (by omega); have HKB9 := Lib.hid hkb9; clear hB9 hg9 hn9 hkb9)
      | (refine wpList_insert_bag rfl (.tmp 34) (.tmp 35) (.const (.int .i64 1)) rfl rfl rfl rfl HN9.out hl hn ⟨by omega, by unfold mostI; omega⟩ ?_; intro w10 hB10 hg10; have HB10 := Lib.hid hB10; have HL10 := Lib.hid (place_below2 hg10);  have hs10 : w9.heap.size + 1 ≤ w10.heap.size := Nat.le_trans (by simp) hg10.size; have hkb10 := place_kept2 HKB9.out hg10 (by omega); have f10 := hkb10.frozen 0; have l10 := hkb10.lt; have d0 : w10.cell? ⟨w.heap.size + 1, 0, none⟩ = some (.int .i64 0) := hkb10.cell 0; have d1 : w10.cell? ⟨w.heap.size + 1, 1, none⟩ = some (.map none) := hkb10.cell 1; have d2 : w10.cell? ⟨w.heap.size + 1, 2, none⟩ = some (.map none) := hkb10.cell 2; have f11 := hkb10.frozen 1; have f12 := hkb10.frozen 2; have HKB10 := Lib.hid hkb10; clear hB10 hg10 hkb10)
      | go_in)
    have hE2 := ((HKB10.out.set 0 (.int .i64 0)).set 1 (.map (some w7.heap.size))).set 2 (.map (some w9.heap.size))
    refine ret_known (b := w.heap.size + 1) rfl rfl hE2 rfl ⟨_, rfl, ?_⟩
    have hg8 := only_setCell (only_setCell (only_setCell (only_of (w.heap.size + 1) (HL9.out.trans (HL10.out.mono HL9.out.size))) 0 (.int .i64 0)) 1 (.map (some w7.heap.size))) 2 (.map (some w9.heap.size))
    have hKw := ((Keep.below (S := SW W (.slice so G.ms.length sc) fv fb) HB1.out).trans HK6.out).trans HK8.out
    have h1 := HB9.out.under HL10.out
    have h2 := HB10.out
    have hne1 : w7.heap.size ≠ w.heap.size + 1 := by omega
    have hne2 : w9.heap.size ≠ w.heap.size + 1 := by omega
    have e1 : ∀ (w' : World) (k j : Nat) (x : Value), k ≠ w.heap.size + 1 → (w'.setCell ⟨w.heap.size + 1, j, none⟩ x).heap[k]? = w'.heap[k]? := fun w' k j x hk => Below.heap_setCell w' ⟨w.heap.size + 1, j, none⟩ x k hk
    refine ⟨_, _, _, hHF8.out.kept hg8 HSB8.out (by have := H.out.below.size; omega), ⟨Nat.le_trans hKw.1 hg8.size, fun k hk hl => ⟨(hg8.block k (Nat.lt_of_lt_of_le hl hKw.1) (by simp; omega)).trans (hKw.2 k hk hl).1, (hKw.2 k hk hl).2⟩⟩, w7.heap.size, w9.heap.size, rfl, ?_, ?_, HN8b.out, ?_⟩
    · exact (h1.heap (by rw [e1 _ _ _ _ hne1, e1 _ _ _ _ hne1, e1 _ _ _ _ hne1])).eq fun p => rfl
    · exact (h2.heap (by rw [e1 _ _ _ _ hne2, e1 _ _ _ _ hne2, e1 _ _ _ _ hne2])).eq fun p => rfl
    · exact hHF8.out.new (by simp [World.setCell]; omega)
end Go.Proofs.YtpiimcbbgalhfaaGreatDoor
