/- Weights: cat. -/
import Derived.Test.YtpiimcbbgalhfaaGreatDoorDe
namespace Go.Proofs.YtpiimcbbgalhfaaGreatDoor
set_option maxRecDepth 100000
open Go.RowKit Go.Maps
theorem three_a (w : World) (l l2 l3 : List Value) {t t2 t3 : TypeId} : Blk (((w.alloc (.cells l.toArray t)).alloc (.cells l2.toArray t2)).alloc (.cells l3.toArray t3)) w.heap.size t l :=
  (Below.heap_alloc _ _ _ (by simp; omega)).trans ((Below.heap_alloc _ _ _ (by simp)).trans (Blk.new w l t))
theorem three_b (w : World) (l l2 l3 : List Value) {t t2 t3 : TypeId} : Blk (((w.alloc (.cells l.toArray t)).alloc (.cells l2.toArray t2)).alloc (.cells l3.toArray t3)) (w.heap.size + 1) t2 l2 := by
  have h := Blk.new (w.alloc (.cells l.toArray t)) l2 t2
  rw [World.size_alloc] at h
  exact (Below.heap_alloc _ _ _ (by simp)).trans h
theorem three_c (w : World) (l l2 l3 : List Value) {t t2 t3 : TypeId} : Blk (((w.alloc (.cells l.toArray t)).alloc (.cells l2.toArray t2)).alloc (.cells l3.toArray t3)) (w.heap.size + 2) t3 l3 := by
  have h := Blk.new ((w.alloc (.cells l.toArray t)).alloc (.cells l2.toArray t2)) l3 t3
  rw [World.size_alloc, World.size_alloc] at h
  exact h
set_option maxHeartbeats 8000000 in
theorem kcat_at {w0 w : World} {W n : Nat} {fb : List Nat} {sv fv : Value} {G : Wg} {a b : Kn} {va vb : Value} (h : WtAt w0 w W n fb sv fv G) (ha : KnAt w n (SW W sv fv fb) a va) (hb : KnAt w n (SW W sv fv fb) b vb)
    (hoa : KnOk G.fol.length a) (hob : KnOk G.fol.length b) (hn : n ≤ 1000) (hln : G.fol.length ≤ n) :
    Calls Tryz.prog 140 #[.pointer (some ⟨W, 0, none⟩), va, vb] w fun v w' => ∃ kv, v = .returned kv ∧
      WalkIs w0 w w' W n fb sv fv (⟨mulL [a.void, b.void], sumB a.first b.first a.void, sumB b.last a.last b.void⟩, G.link a.last b.first) kv := by
  obtain ⟨A1, A2, rfl, ha1, ha2, sa1, sa2⟩ := ha
  obtain ⟨C1, C2, rfl, hb1, hb2, sb1, sb2⟩ := hb
  have hB3 : Below w.heap.size w (((w.alloc (.cells [Value.int .i64 a.void, mapV A1, mapV A2].toArray 137)).alloc (.cells [Value.int .i64 b.void, mapV C1, mapV C2].toArray 137)).alloc (.cells [Value.int .i64 0, .map none, .map none].toArray 137)) := (((Below.refl _ w).alloc (Nat.le_refl _) _).alloc (by simp) _).alloc (by simp; omega) _
  have HB3 := Lib.hid hB3
  have HW := Lib.hid (h.under hB3)
  have HNW := Lib.hid (fun k hk => h.new (k := k) hk)
  have HL := Lib.hid (link_at (h.under hB3) (ha2.under hB3) (hb1.under hB3) sa2 sb1 (fun p hp => (hoa.last p).2.2 hp) hn hln)
  have HA1 := Lib.hid ha1
  have HA2 := Lib.hid ha2
  have HC1 := Lib.hid hb1
  have HC2 := Lib.hid hb2
  have HSA := Lib.hid (And.intro sa1 sa2)
  have HSC := Lib.hid (And.intro sb1 sb2)
  have HOA := Lib.hid hoa
  have HOB := Lib.hid hob
  have hWl := h.blk.lt
  clear h ha1 ha2 hb1 hb2 sa1 sa2 sb1 sb2 hB3
  go_enter Tryz.func140, Tryz.ntmps140
  go_wp2_with fail
  refine HL.out.mono ?_
  rintro v w4 ⟨⟨u, rfl⟩, hW4, hK4⟩
  have kp := hK4.2 w.heap.size (HNW.out _ (Nat.le_refl _)) (by simp; omega)
  have kq := hK4.2 (w.heap.size + 1) (HNW.out _ (by omega)) (by simp)
  have kr := hK4.2 (w.heap.size + 2) (HNW.out _ (by omega)) (by simp)
  have hp4 : Blk w4 w.heap.size 137 [.int .i64 a.void, mapV A1, mapV A2] := kp.1.trans (three_a w _ _ _)
  have hq4 : Blk w4 (w.heap.size + 1) 137 [.int .i64 b.void, mapV C1, mapV C2] := kq.1.trans (three_b w _ _ _)
  have hr4 : Blk w4 (w.heap.size + 2) 137 [.int .i64 0, .map none, .map none] := kr.1.trans (three_c w _ _ _)
  have hk4 := (Keep.below (S := SW W sv fv fb) HB3.out).trans hK4
  have hA1 := HA1.out.heap (hk4.2 A1 HSA.out.1 HA1.out.lt).1
  have hA2 := HA2.out.heap (hk4.2 A2 HSA.out.2 HA2.out.lt).1
  have hC1 := HC1.out.heap (hk4.2 C1 HSC.out.1 HC1.out.lt).1
  have hC2 := HC2.out.heap (hk4.2 C2 HSC.out.2 HC2.out.lt).1
  have lp := hp4.lt
  have lq := hq4.lt
  have lr := hr4.lt
  have hall := fun Q a0 h1 h2 => wct_all w4.heap.size n w.heap.size (w.heap.size + 1) A1 A2 C1 C2 a.void b.void a.first a.last b.first b.last Q a0 w4.drew h1 h2 ⟨hp4.cell 0, lp⟩ ⟨hp4.cell 1, lp⟩ ⟨hp4.cell 2, lp⟩ ⟨hq4.cell 0, lq⟩ ⟨hq4.cell 1, lq⟩ ⟨hq4.cell 2, lq⟩ (hA1.under (Below.refl _ _).drew) (hA2.under (Below.refl _ _).drew) (hC1.under (Below.refl _ _).drew) (hC2.under (Below.refl _ _).drew) HOA.out.void HOB.out.void hn (Nat.le_refl _)
  have HALL := Lib.hid hall
  have HR4 := Lib.hid hr4
  have HW4 := Lib.hid hW4
  have HK4 := Lib.hid hk4
  have HKR := Lib.hid kr.2
  clear hall hr4 hW4 hk4 kp kq kr hp4 hq4 hA1 hA2 hC1 hC2 hK4
  go_wp2_with fail
  refine region_last (ops' := wct_ops) (by kernel_rfl) (wct_S w4.heap.size n w.heap.size (w.heap.size + 1) A1 A2 C1 C2 a.void b.void a.first a.last b.first b.last) 34 21 rfl (by kernel_rfl) (by kernel_rfl) (by kernel_rfl) (HALL.out _ _ rfl rfl) ?_
  intro a5 w5 N H hF
  obtain ⟨c, d, q33, c0, d0, cN, dN, hc, hd⟩ := fact_val (hF 20 (by kernel_rfl)) rfl (by kernel_rfl)
  have hbl : Below w4.heap.size w4 w5 := (Below.refl w4.heap.size w4).drew.trans H.below
  have hr5 : Blk w5 (w.heap.size + 2) 137 [.int .i64 0, .map none, .map none] := HR4.out.below hbl lr
  have q6 : a5.eval (.tmp 6) = .pointer (some ⟨w.heap.size + 2, 0, none⟩) := held_base H 6 (by kernel_rfl) rfl
  refine wpOp_put_known 6 33 (by kernel_rfl) (by kernel_rfl) q6 q33 hr5 ?_
  have hE := ((hr5.set 0 (.int .i64 (mulL [a.void, b.void]))).set 1 (mapV c)).set 2 (mapV d)
  have HE := Lib.hid hE
  have hdf := H.defers
  have HCD := Lib.hid (And.intro hc hd)
  have HB5 := Lib.hid hbl
  clear hF H hE hr5 hc hd hbl
  go_wp2
  refine ret_known (b := w.heap.size + 2) rfl q6 HE.out hdf ⟨_, rfl, ?_⟩
  have hc := HCD.out.1
  have hd := HCD.out.2
  have hg8 := only_setCell (only_setCell (only_setCell (only_of (w.heap.size + 2) HB5.out) 0 (.int .i64 (mulL [a.void, b.void]))) 1 (mapV c)) 2 (mapV d)
  have hK := HK4.out
  have e1 : ∀ (w' : World) (k j : Nat) (x : Value), k ≠ w.heap.size + 2 → (w'.setCell ⟨w.heap.size + 2, j, none⟩ x).heap[k]? = w'.heap[k]? := fun w' k j x hk => Below.heap_setCell w' ⟨w.heap.size + 2, j, none⟩ x k hk
  have hne1 : c ≠ w.heap.size + 2 := by omega
  have hne2 : d ≠ w.heap.size + 2 := by omega
  refine ⟨_, _, _, HW4.out.kept hg8 HKR.out (by have := HW.out.low; omega), ⟨Nat.le_trans hK.1 hg8.size, fun k hk hl => ⟨(hg8.block k (Nat.lt_of_lt_of_le hl hK.1) (by simp; omega)).trans (hK.2 k hk hl).1, (hK.2 k hk hl).2⟩⟩, c, d, rfl, ?_, ?_, HW4.out.new c0, HW4.out.new d0⟩
  · exact hc.heap (by rw [e1 _ _ _ _ hne1, e1 _ _ _ _ hne1, e1 _ _ _ _ hne1])
  · exact hd.heap (by rw [e1 _ _ _ _ hne2, e1 _ _ _ _ hne2, e1 _ _ _ _ hne2])
end Go.Proofs.YtpiimcbbgalhfaaGreatDoor
/- Weights: walk: of nothing, of a set, of a star. -/
namespace Go.Proofs.YtpiimcbbgalhfaaGreatDoor
set_option maxRecDepth 100000
open Go.RowKit Go.Maps
theorem known_new (w : World) (x : Int) (u v : Value) : Blk (((((w.alloc (.cells #[.int .i64 0, .map none, .map none] 137)).setCell ⟨w.heap.size, 0, none⟩ (.int .i64 x)).setCell ⟨w.heap.size, 1, none⟩ u).setCell ⟨w.heap.size, 2, none⟩ v)) w.heap.size 137 [.int .i64 x, u, v] :=
  (((Blk.new w [.int .i64 0, .map none, .map none] 137).set 0 (.int .i64 x)).set 1 u).set 2 v
theorem below_new (w : World) (x u v : Value) (o : Obj) : Below w.heap.size w (((((w.alloc o).setCell ⟨w.heap.size, 0, none⟩ x).setCell ⟨w.heap.size, 1, none⟩ u).setCell ⟨w.heap.size, 2, none⟩ v)) :=
  ((((Below.refl _ w).alloc (Nat.le_refl _) o).setCell (p := ⟨w.heap.size, 0, none⟩) (Nat.le_refl _) _).setCell (p := ⟨w.heap.size, 1, none⟩) (Nat.le_refl _) _).setCell (p := ⟨w.heap.size, 2, none⟩) (Nat.le_refl _) _
/-- A known is laid into block b, that isn't the weights': what WalkIs says of the world ahead holds behind. -/
theorem WalkIs.put {w0 w w5 : World} {W n : Nat} {fb fb' : List Nat} {sv fv sv' fv' : Value} {r : Kn × Wg} {b A B : Nat} (hlow : w0.heap.size ≤ w.heap.size) (hW : WtAt w0 w5 W n fb' sv' fv' r.2) (hK : Keep w (SW W sv fv fb) w5 (SW W sv' fv' fb')) (hb : SW W sv' fv' fb' b) (hbw : w.heap.size ≤ b)
    (hA : BagAt w5 n A r.1.first) (hB : BagAt w5 n B r.1.last) (sA : SW W sv' fv' fb' A) (sB : SW W sv' fv' fb' B) (hAb : A ≠ b) (hBb : B ≠ b) (x : Int) (hx : x = r.1.void) :
    WalkIs w0 w (((w5.setCell ⟨b, 0, none⟩ (.int .i64 x)).setCell ⟨b, 1, none⟩ (mapV A)).setCell ⟨b, 2, none⟩ (mapV B)) W n fb sv fv r (.agg #[.int .i64 x, mapV A, mapV B]) := by
  subst hx
  have hg := only_setCell (only_setCell (only_setCell (only_refl w5 b) 0 (.int .i64 r.1.void)) 1 (mapV A)) 2 (mapV B)
  have e1 : ∀ (w' : World) (k j : Nat) (x : Value), k ≠ b → (w'.setCell ⟨b, j, none⟩ x).heap[k]? = w'.heap[k]? := fun w' k j x hk => Below.heap_setCell w' ⟨b, j, none⟩ x k hk
  refine ⟨_, _, _, hW.kept hg hb (Nat.le_trans hlow hbw), ⟨Nat.le_trans hK.1 hg.size, fun k hk hl => ⟨(hg.block k (Nat.lt_of_lt_of_le hl hK.1) (by simp; omega)).trans (hK.2 k hk hl).1, (hK.2 k hk hl).2⟩⟩, A, B, rfl, ?_, ?_, sA, sB⟩
  · exact hA.heap (by rw [e1 _ _ _ _ hAb, e1 _ _ _ _ hAb, e1 _ _ _ _ hAb])
  · exact hB.heap (by rw [e1 _ _ _ _ hBb, e1 _ _ _ _ hBb, e1 _ _ _ _ hBb])
theorem BagAt.ne {w : World} {n A b : Nat} {β : Bag} {t : TypeId} {cs : List Value} (h : BagAt w n A β) (hb : Blk w b t cs) : A ≠ b := by
  rintro rfl
  obtain ⟨D, ⟨es, clock, h1, -⟩, -⟩ := h
  have h2 : w.heap[A]? = some (.cells cs.toArray t) := hb
  rw [h1] at h2
  cases h2
section
variable {w0 w : World} {W n g : Nat} {fb : List Nat} {sv fv : Value} {G : Wg}
set_option maxHeartbeats 4000000 in
theorem walk_empty (h : WtAt w0 w W n fb sv fv G) (hc : CoreAt w (SW W sv fv fb) .empty g) :
    Calls Tryz.prog 94 #[.pointer (some ⟨W, 0, none⟩), cptr g] w fun v w' => ∃ kv, v = .returned kv ∧ WalkIs w0 w w' W n fb sv fv (walkK .empty G) kv := by
  have c0 : w.cell? ⟨g, 0, none⟩ = some (.int .i64 0) := hc.2.cell 0
  have hlt := hc.2.lt
  have hmm := @run_makeMap Tryz.prog
  have H := Lib.hid h
  clear h hc
  go_enter Tryz.func94, Tryz.ntmps94
  go_wp2
  have hb : Below w.heap.size w (((w.alloc (.cells [.int .i64 1, mapV (w.heap.size + 1), mapV (w.heap.size + 1 + 1)].toArray 137)).alloc (.map #[] 0)).alloc (.map #[] 0)) := (((Below.refl _ w).alloc (Nat.le_refl _) _).alloc (by simp) _).alloc (by simp; omega) _
  have h1 : Blk (((w.alloc (.cells [.int .i64 1, mapV (w.heap.size + 1), mapV (w.heap.size + 1 + 1)].toArray 137)).alloc (.map #[] 0)).alloc (.map #[] 0)) w.heap.size 137 [.int .i64 1, mapV (w.heap.size + 1), mapV (w.heap.size + 1 + 1)] :=
    (Below.heap_alloc _ _ _ (by simp; omega)).trans ((Below.heap_alloc _ _ _ (by simp)).trans (Blk.new w _ 137))
  refine ret_known (b := w.heap.size) rfl rfl h1 rfl ⟨_, rfl, _, _, _, H.out.under hb, Keep.below hb, w.heap.size + 1, w.heap.size + 1 + 1, rfl, ?_, ?_, H.out.new (by omega), H.out.new (by omega)⟩
  · have h2 := bag_new (w.alloc (.cells [.int .i64 1, mapV (w.heap.size + 1), mapV (w.heap.size + 1 + 1)].toArray 137)) n
    rw [World.size_alloc] at h2
    exact h2.heap (Below.heap_alloc _ _ _ (by simp))
  · have h2 := bag_new ((w.alloc (.cells [.int .i64 1, mapV (w.heap.size + 1), mapV (w.heap.size + 1 + 1)].toArray 137)).alloc (.map #[] 0)) n
    rw [World.size_alloc, World.size_alloc] at h2
    exact h2
set_option maxHeartbeats 4000000 in
theorem walk_set {m : Nat → Bool} (h : WtAt w0 w W n fb sv fv G) (hc : CoreAt w (SW W sv fv fb) (.set m) g) (hlen : G.fol.length = G.ms.length) (hl : G.ms.length < n) (hn : n ≤ 1000) :
    Calls Tryz.prog 94 #[.pointer (some ⟨W, 0, none⟩), cptr g] w fun v w' => ∃ kv, v = .returned kv ∧ WalkIs w0 w w' W n fb sv fv (walkK (.set m) G) kv := by
  have c0 : w.cell? ⟨g, 0, none⟩ = some (.int .i64 1) := hc.2.cell 0
  have c1 : w.cell? ⟨g, 1, none⟩ = some (.int .u64 (word m 0)) := hc.2.cell 1
  have c2 : w.cell? ⟨g, 2, none⟩ = some (.int .u64 (word m 1)) := hc.2.cell 2
  have c3 : w.cell? ⟨g, 3, none⟩ = some (.int .u64 (word m 2)) := hc.2.cell 3
  have c4 : w.cell? ⟨g, 4, none⟩ = some (.int .u64 (word m 3)) := hc.2.cell 4
  have hlt := hc.2.lt
  have hB1 : Below w.heap.size w (w.alloc (.cells #[.int .i64 0, .map none, .map none] 137)) := (Below.refl _ w).alloc (Nat.le_refl _) _
  have HP := Lib.hid (place_at (h.under hB1) m hlen hl hn)
  have HN := Lib.hid (h.new (Nat.le_refl _))
  have HB1 := Lib.hid hB1
  have HLO := Lib.hid h.below.size
  clear h hc hB1
  go_enter Tryz.func94, Tryz.ntmps94
  go_wp2_with fail
  refine HP.out.mono ?_
  rintro v w2 ⟨kv, rfl, fb2, sv2, fv2, hW2, hK2, A, B, rfl, hA, hB, sA, sB⟩
  have kb := hK2.2 w.heap.size HN.out (by simp)
  have hkb : Blk w2 w.heap.size 137 [.int .i64 0, .map none, .map none] := kb.1.trans (Blk.new w _ 137)
  have d0 : w2.cell? ⟨w.heap.size, 0, none⟩ = some (.int .i64 0) := hkb.cell 0
  have d1 : w2.cell? ⟨w.heap.size, 1, none⟩ = some (.map none) := hkb.cell 1
  have d2 : w2.cell? ⟨w.heap.size, 2, none⟩ = some (.map none) := hkb.cell 2
  have f0 := hkb.frozen 0
  have f1 := hkb.frozen 1
  have f2 := hkb.frozen 2
  have hl2 := hkb.lt
  have HKB := Lib.hid hkb
  have HSB := Lib.hid kb.2
  have HW2 := Lib.hid hW2
  have HK2 := Lib.hid ((Keep.below (S := SW W sv fv fb) HB1.out).trans hK2)
  have HAB := Lib.hid (And.intro hA hB)
  have HSS := Lib.hid (And.intro sA sB)
  clear hkb kb hW2 hK2 hA hB sA sB c0 c1 c2 c3 c4
  go_wp2
  exact ret_known (b := w.heap.size) rfl rfl (((HKB.out.set 0 (.int .i64 0)).set 1 (mapV A)).set 2 (mapV B)) rfl ⟨_, rfl, WalkIs.put HLO.out HW2.out HK2.out HSB.out (Nat.le_refl _) HAB.out.1 HAB.out.2 HSS.out.1 HSS.out.2 (HAB.out.1.ne HKB.out) (HAB.out.2.ne HKB.out) 0 rfl⟩
set_option maxHeartbeats 4000000 in
theorem walk_star {z : Bool} {x : CT} (h : WtAt w0 w W n fb sv fv G) (hc : CoreAt w (SW W sv fv fb) (.star z x) g) (hlen : (walkK x G).2.fol.length = (walkK x G).2.ms.length) (hok : KnOk (walkK x G).2.ms.length (walkK x G).1) (hl : (walkK x G).2.ms.length ≤ n) (hn : n ≤ 1000)
    (ih : ∀ (w1 : World) (p : Nat), WtAt w0 w1 W n fb sv fv G → CoreAt w1 (SW W sv fv fb) x p → Calls Tryz.prog 94 #[.pointer (some ⟨W, 0, none⟩), cptr p] w1 fun v w' => ∃ kv, v = .returned kv ∧ WalkIs w0 w1 w' W n fb sv fv (walkK x G) kv) :
    Calls Tryz.prog 94 #[.pointer (some ⟨W, 0, none⟩), cptr g] w fun v w' => ∃ kv, v = .returned kv ∧ WalkIs w0 w w' W n fb sv fv (walkK (.star z x) G) kv := by
  obtain ⟨_, p, hg, hx⟩ := hc
  have c0 : w.cell? ⟨g, 0, none⟩ = some (.int .i64 4) := hg.cell 0
  have c6 : w.cell? ⟨g, 6, none⟩ = some (cptr p) := hg.cell 6
  have hlt := hg.lt
  have hB1 : Below w.heap.size w (w.alloc (.cells #[.int .i64 0, .map none, .map none] 137)) := (Below.refl _ w).alloc (Nat.le_refl _) _
  have HP := Lib.hid (ih _ p (h.under hB1) (hx.under hB1))
  have HN := Lib.hid (h.new (Nat.le_refl _))
  have HB1 := Lib.hid hB1
  have HLO := Lib.hid h.below.size
  clear h hg hx hB1 ih
  go_enter Tryz.func94, Tryz.ntmps94
  go_wp2_with fail
  refine HP.out.mono ?_
  rintro v w2 ⟨kv, rfl, fb2, sv2, fv2, hW2, hK2, A, B, rfl, hA, hB, sA, sB⟩
  have kb := hK2.2 w.heap.size HN.out (by simp)
  have hkb : Blk w2 w.heap.size 137 [.int .i64 0, .map none, .map none] := kb.1.trans (Blk.new w _ 137)
  have hl2 := hkb.lt
  have hB2 : Below w2.heap.size w2 (w2.alloc (.cells #[.int .i64 (walkK x G).1.void, mapV A, mapV B] 137)) := (Below.refl _ w2).alloc (Nat.le_refl _) _
  have HL := Lib.hid (link_at (h := hW2.under hB2) (hB.under hB2) (hA.under hB2) sB sA (fun p hp => by rw [hlen]; exact (hok.last p).2.2 hp) hn (by rw [hlen]; exact hl))
  have HKB := Lib.hid (hkb.below hB2 hkb.lt)
  have HKX := Lib.hid (Blk.new w2 [.int .i64 (walkK x G).1.void, mapV A, mapV B] 137)
  have HSB := Lib.hid kb.2
  have HNX := Lib.hid (hW2.new (Nat.le_refl _))
  have HK2 := Lib.hid (((Keep.below (S := SW W sv fv fb) HB1.out).trans hK2).trans (Keep.below hB2))
  have HAB := Lib.hid (And.intro (hA.under hB2) (hB.under hB2))
  have HSS := Lib.hid (And.intro sA sB)
  clear hkb kb hW2 hK2 hA hB sA sB c0 c6 hB2
  go_wp2_with fail
  refine HL.out.mono ?_
  rintro v w3 ⟨⟨u, rfl⟩, hW3, hK3⟩
  have hkb : Blk w3 w.heap.size 137 [.int .i64 0, .map none, .map none] := (hK3.2 _ HSB.out (by simp; omega)).1.trans HKB.out
  have hkx : Blk w3 w2.heap.size 137 [.int .i64 (walkK x G).1.void, mapV A, mapV B] := (hK3.2 _ HNX.out (by simp)).1.trans HKX.out
  have d0 : w3.cell? ⟨w.heap.size, 0, none⟩ = some (.int .i64 0) := hkb.cell 0
  have d1 : w3.cell? ⟨w.heap.size, 1, none⟩ = some (.map none) := hkb.cell 1
  have d2 : w3.cell? ⟨w.heap.size, 2, none⟩ = some (.map none) := hkb.cell 2
  have e1 : w3.cell? ⟨w2.heap.size, 1, none⟩ = some (mapV A) := hkx.cell 1
  have e2 : w3.cell? ⟨w2.heap.size, 2, none⟩ = some (mapV B) := hkx.cell 2
  have f0 := hkb.frozen 0
  have f1 := hkb.frozen 1
  have f2 := hkb.frozen 2
  have hl3 := hkb.lt
  have hl4 := hkx.lt
  have hAA := HAB.out.1.heap (hK3.2 A HSS.out.1 HAB.out.1.lt).1
  have hBB := HAB.out.2.heap (hK3.2 B HSS.out.2 HAB.out.2.lt).1
  have HAB3 := Lib.hid (And.intro hAA hBB)
  have HKB3 := Lib.hid hkb
  have HW3 := Lib.hid hW3
  have HK3 := Lib.hid (HK2.out.trans hK3)
  clear hkb hkx hAA hBB hW3 hK3
  go_wp2
  exact ret_known (b := w.heap.size) rfl rfl (((HKB3.out.set 0 (.int .i64 1)).set 1 (mapV A)).set 2 (mapV B)) rfl ⟨_, rfl, WalkIs.put (r := walkK (.star z x) G) HLO.out HW3.out HK3.out HSB.out (Nat.le_refl _) HAB3.out.1 HAB3.out.2 HSS.out.1 HSS.out.2 (HAB3.out.1.ne HKB3.out) (HAB3.out.2.ne HKB3.out) 1 rfl⟩
end
end Go.Proofs.YtpiimcbbgalhfaaGreatDoor
