/- Weights: walk: of two, one behind the other. -/
import Derived.Test.YtpiimcbbgalhfaaGreatDoorDf
namespace Go.Proofs.YtpiimcbbgalhfaaGreatDoor
set_option maxRecDepth 100000
open Go.RowKit Go.Maps
section
variable {w0 w : World} {W n g : Nat} {fb : List Nat} {sv fv : Value} {G : Wg}
set_option maxHeartbeats 8000000 in
theorem walk_cat {x y : CT} (h : WtAt w0 w W n fb sv fv G) (hc : CoreAt w (SW W sv fv fb) (.cat x y) g) (hoa : KnOk (walkK y (walkK x G).2).2.fol.length (walkK x G).1) (hob : KnOk (walkK y (walkK x G).2).2.fol.length (walkK y (walkK x G).2).1) (hl : (walkK y (walkK x G).2).2.fol.length ≤ n) (hn : n ≤ 1000)
    (ihx : ∀ (w1 : World) (p : Nat), WtAt w0 w1 W n fb sv fv G → CoreAt w1 (SW W sv fv fb) x p → Calls Tryz.prog 94 #[.pointer (some ⟨W, 0, none⟩), cptr p] w1 fun v w' => ∃ kv, v = .returned kv ∧ WalkIs w0 w1 w' W n fb sv fv (walkK x G) kv)
    (ihy : ∀ (w1 : World) (fb1 : List Nat) (sv1 fv1 : Value) (p : Nat), WtAt w0 w1 W n fb1 sv1 fv1 (walkK x G).2 → CoreAt w1 (SW W sv1 fv1 fb1) y p → Calls Tryz.prog 94 #[.pointer (some ⟨W, 0, none⟩), cptr p] w1 fun v w' => ∃ kv, v = .returned kv ∧ WalkIs w0 w1 w' W n fb1 sv1 fv1 (walkK y (walkK x G).2) kv) :
    Calls Tryz.prog 94 #[.pointer (some ⟨W, 0, none⟩), cptr g] w fun v w' => ∃ kv, v = .returned kv ∧ WalkIs w0 w w' W n fb sv fv (walkK (.cat x y) G) kv := by
  obtain ⟨hSg, p, q, hg, hx, hy⟩ := hc
  have c0 : w.cell? ⟨g, 0, none⟩ = some (.int .i64 2) := hg.cell 0
  have c6 : w.cell? ⟨g, 6, none⟩ = some (cptr p) := hg.cell 6
  have hlt := hg.lt
  have hB1 : Below w.heap.size w (w.alloc (.cells #[.int .i64 0, .map none, .map none] 137)) := (Below.refl _ w).alloc (Nat.le_refl _) _
  have HP := Lib.hid (ihx _ p (h.under hB1) (hx.under hB1))
  have HN := Lib.hid (h.new (Nat.le_refl _))
  have HB1 := Lib.hid hB1
  have HLO := Lib.hid h.below.size
  have HG := Lib.hid (And.intro hSg hg)
  have HY := Lib.hid hy
  have HIY := Lib.hid ihy
  clear h hg hx hB1 ihx ihy hy
  go_enter Tryz.func94, Tryz.ntmps94
  go_wp2_with fail
  refine HP.out.mono ?_
  rintro v w2 ⟨kv, rfl, fb2, sv2, fv2, hW2, hK2, A, B, rfl, hA, hB, sA, sB⟩
  have hKw := (Keep.below (S := SW W sv fv fb) HB1.out).trans hK2
  have kb := hK2.2 w.heap.size HN.out (by simp)
  have hkb : Blk w2 w.heap.size 137 [.int .i64 0, .map none, .map none] := kb.1.trans (Blk.new w _ 137)
  have hl2 := hkb.lt
  have kg := hKw.2 g HG.out.1 hlt
  have hg2 : Blk w2 g 148 (coreV 2 noSet false (cptr p) (cptr q)) := kg.1.trans HG.out.2
  have hlg := hg2.lt
  have b7 : w2.cell? ⟨g, 7, none⟩ = some (cptr q) := hg2.cell 7
  have hB2 : Below w2.heap.size w2 (w2.alloc (.cells #[.int .i64 (walkK x G).1.void, mapV A, mapV B] 137)).drew := ((Below.refl _ w2).alloc (Nat.le_refl _) _).drew
  have HQ := Lib.hid (HIY.out _ fb2 sv2 fv2 q (hW2.under hB2) ((HY.out.keep hKw).under hB2))
  have HKB := Lib.hid (hkb.below hB2 hkb.lt)
  have HKX := Lib.hid (show Blk (w2.alloc (.cells [.int .i64 (walkK x G).1.void, mapV A, mapV B].toArray 137)).drew w2.heap.size 137 [.int .i64 (walkK x G).1.void, mapV A, mapV B] from Blk.new w2 _ 137)
  have HSB := Lib.hid kb.2
  have HNX := Lib.hid (hW2.new (Nat.le_refl _))
  have HK2 := Lib.hid (hKw.trans (Keep.below hB2))
  have HKA := Lib.hid (show KnAt (w2.alloc (.cells #[.int .i64 (walkK x G).1.void, mapV A, mapV B] 137)).drew n (SW W sv2 fv2 fb2) (walkK x G).1 (.agg #[.int .i64 (walkK x G).1.void, mapV A, mapV B]) from ⟨A, B, rfl, hA.under hB2, hB.under hB2, sA, sB⟩)
  generalize (walkK x G).1.void = vx at *
  clear hkb kb hW2 hK2 hA hB sA sB c0 c6 hB2 hg2 kg hKw HP
  go_wp2_with fail
  go_region_law (first
    | (go_simp; go_at_call 94; refine HQ.out.mono ?_; rintro v w3 ⟨kv3, rfl, fb3, sv3, fv3, hW3, hK3, C, E, rfl, hC, hE, sC, sE⟩; have HCAT := Lib.hid (kcat_at hW3 (HKA.out.keep hK3) ⟨C, E, rfl, hC, hE, sC, sE⟩ hoa hob hn hl); have kx := hK3.2 _ HNX.out (by simp); have hkx : Blk w3 w2.heap.size 137 [.int .i64 vx, mapV A, mapV B] := kx.1.trans HKX.out; have kb := hK3.2 _ HSB.out (by simp; omega); have hkb : Blk w3 w.heap.size 137 [.int .i64 0, .map none, .map none] := kb.1.trans HKB.out; have e0 : w3.cell? ⟨w2.heap.size, 0, none⟩ = some (.int .i64 vx) := hkx.cell 0; have e1 : w3.cell? ⟨w2.heap.size, 1, none⟩ = some (mapV A) := hkx.cell 1; have e2 : w3.cell? ⟨w2.heap.size, 2, none⟩ = some (mapV B) := hkx.cell 2; have hl3 := hkb.lt; have hl3b := hkx.lt; have HKB3 := Lib.hid hkb; have HSB3 := Lib.hid kb.2; have HK3 := Lib.hid (HK2.out.trans hK3); clear hkx hkb kx kb hW3 hK3 hC hE sC sE)
    | (go_simp; go_at_call 140; refine HCAT.out.mono ?_; rintro v w4 ⟨kv4, rfl, fb4, sv4, fv4, hW4, hK4, C4, E4, rfl, hC4, hE4, sC4, sE4⟩; have kb4 := hK4.2 _ HSB3.out hl3; have hkb4 : Blk w4 w.heap.size 137 [.int .i64 0, .map none, .map none] := kb4.1.trans HKB3.out; have d0 : w4.cell? ⟨w.heap.size, 0, none⟩ = some (.int .i64 0) := hkb4.cell 0; have d1 : w4.cell? ⟨w.heap.size, 1, none⟩ = some (.map none) := hkb4.cell 1; have d2 : w4.cell? ⟨w.heap.size, 2, none⟩ = some (.map none) := hkb4.cell 2; have f0 := hkb4.frozen 0; have f1 := hkb4.frozen 1; have f2 := hkb4.frozen 2; have hl4 := hkb4.lt; have HKB4 := Lib.hid hkb4; have HSB4 := Lib.hid kb4.2; have HW4 := Lib.hid hW4; have HK4 := Lib.hid (HK3.out.trans hK4); have HAB := Lib.hid (And.intro hC4 hE4); have HSS := Lib.hid (And.intro sC4 sE4); clear hkb4 kb4 hW4 hK4 hC4 hE4 sC4 sE4))
  all_goals
    go_wp2
    exact ret_known (b := w.heap.size) rfl rfl (((HKB4.out.set 0 _).set 1 (mapV C4)).set 2 (mapV E4)) rfl ⟨_, rfl, WalkIs.put (r := walkK (.cat x y) G) HLO.out HW4.out HK4.out HSB4.out (Nat.le_refl _) HAB.out.1 HAB.out.2 HSS.out.1 HSS.out.2 (HAB.out.1.ne HKB4.out) (HAB.out.2.ne HKB4.out) _ rfl⟩
end
end Go.Proofs.YtpiimcbbgalhfaaGreatDoor
/- Weights: walk: of one or another one. -/
namespace Go.Proofs.YtpiimcbbgalhfaaGreatDoor
set_option maxRecDepth 100000
open Go.RowKit Go.Maps
section
variable {w0 w : World} {W n g : Nat} {fb : List Nat} {sv fv : Value} {G : Wg}
set_option maxHeartbeats 8000000 in
theorem walk_alt {x y : CT} (h : WtAt w0 w W n fb sv fv G) (hc : CoreAt w (SW W sv fv fb) (.alt x y) g) (hva : 0 ≤ (walkK x G).1.void ∧ (walkK x G).1.void ≤ mostI) (hvb : 0 ≤ (walkK y (walkK x G).2).1.void ∧ (walkK y (walkK x G).2).1.void ≤ mostI) (hn : n ≤ 1000)
    (ihx : ∀ (w1 : World) (p : Nat), WtAt w0 w1 W n fb sv fv G → CoreAt w1 (SW W sv fv fb) x p → Calls Tryz.prog 94 #[.pointer (some ⟨W, 0, none⟩), cptr p] w1 fun v w' => ∃ kv, v = .returned kv ∧ WalkIs w0 w1 w' W n fb sv fv (walkK x G) kv)
    (ihy : ∀ (w1 : World) (fb1 : List Nat) (sv1 fv1 : Value) (p : Nat), WtAt w0 w1 W n fb1 sv1 fv1 (walkK x G).2 → CoreAt w1 (SW W sv1 fv1 fb1) y p → Calls Tryz.prog 94 #[.pointer (some ⟨W, 0, none⟩), cptr p] w1 fun v w' => ∃ kv, v = .returned kv ∧ WalkIs w0 w1 w' W n fb1 sv1 fv1 (walkK y (walkK x G).2) kv) :
    Calls Tryz.prog 94 #[.pointer (some ⟨W, 0, none⟩), cptr g] w fun v w' => ∃ kv, v = .returned kv ∧ WalkIs w0 w w' W n fb sv fv (walkK (.alt x y) G) kv := by
  obtain ⟨hSg, p, q, hg, hx, hy⟩ := hc
  have c0 : w.cell? ⟨g, 0, none⟩ = some (.int .i64 3) := hg.cell 0
  have c6 : w.cell? ⟨g, 6, none⟩ = some (cptr p) := hg.cell 6
  have hlt := hg.lt
  have hB1 : Below w.heap.size w (w.alloc (.cells #[.int .i64 0, .map none, .map none] 137)) := (Below.refl _ w).alloc (Nat.le_refl _) _
  have HP := Lib.hid (ihx _ p (h.under hB1) (hx.under hB1))
  have HN := Lib.hid (h.new (Nat.le_refl _))
  have HB1 := Lib.hid hB1
  have HLO := Lib.hid h.below.size
  have HG := Lib.hid (And.intro hSg hg)
  have HY := Lib.hid hy
  have HIY := Lib.hid ihy
  clear h hg hx hB1 ihx ihy hy hSg
  go_enter Tryz.func94, Tryz.ntmps94
  go_wp2_with fail
  refine HP.out.mono ?_
  rintro v w2 ⟨kv, rfl, fb2, sv2, fv2, hW2, hK2, A, B, rfl, hA, hB, sA, sB⟩
  have hKw := (Keep.below (S := SW W sv fv fb) HB1.out).trans hK2
  have kb := hK2.2 w.heap.size HN.out (by simp)
  have hkb : Blk w2 w.heap.size 137 [.int .i64 0, .map none, .map none] := kb.1.trans (Blk.new w _ 137)
  have hl2 := hkb.lt
  have kg := hKw.2 g HG.out.1 hlt
  have hg2 : Blk w2 g 148 (coreV 3 noSet false (cptr p) (cptr q)) := kg.1.trans HG.out.2
  have hlg := hg2.lt
  have b7 : w2.cell? ⟨g, 7, none⟩ = some (cptr q) := hg2.cell 7
  have hB2 : Below w2.heap.size w2 (w2.alloc (.cells #[.int .i64 (walkK x G).1.void, mapV A, mapV B] 137)) := ((Below.refl _ w2).alloc (Nat.le_refl _) _)
  have HQ := Lib.hid (HIY.out _ fb2 sv2 fv2 q (hW2.under hB2) ((HY.out.keep hKw).under hB2))
  have HKB := Lib.hid (hkb.below hB2 hkb.lt)
  have HKX := Lib.hid (show Blk (w2.alloc (.cells [.int .i64 (walkK x G).1.void, mapV A, mapV B].toArray 137)) w2.heap.size 137 [.int .i64 (walkK x G).1.void, mapV A, mapV B] from Blk.new w2 _ 137)
  have HSB := Lib.hid kb.2
  have HNX := Lib.hid (hW2.new (Nat.le_refl _))
  have HK2 := Lib.hid (hKw.trans (Keep.below hB2))
  have HAB := Lib.hid (And.intro (hA.under hB2) (hB.under hB2))
  have HSS := Lib.hid (And.intro sA sB)
  clear hkb kb hW2 hK2 hA hB sA sB c0 c6 hB2 hg2 kg hKw HP
  go_wp2_with fail
  refine HQ.out.mono ?_
  rintro v w3 ⟨kv3, rfl, fb3, sv3, fv3, hW3, hK3, C, E, rfl, hC, hE, sC, sE⟩
  have kx := hK3.2 _ HNX.out (by simp)
  have hkx : Blk w3 w2.heap.size 137 [.int .i64 (walkK x G).1.void, mapV A, mapV B] := kx.1.trans HKX.out
  have kb := hK3.2 _ HSB.out (by simp; omega)
  have hkb : Blk w3 w.heap.size 137 [.int .i64 0, .map none, .map none] := kb.1.trans HKB.out
  have hA3 := HAB.out.1.heap (hK3.2 A HSS.out.1 HAB.out.1.lt).1
  have hB3 := HAB.out.2.heap (hK3.2 B HSS.out.2 HAB.out.2.lt).1
  have hb4 : Below w3.heap.size w3 (w3.alloc (.cells [.int .i64 (walkK y (walkK x G).2).1.void, mapV C, mapV E].toArray 137)) := (Below.refl _ w3).alloc (Nat.le_refl _) _
  have hkx4 := hkx.below hb4 hkx.lt
  have hkb4 := hkb.below hb4 hkb.lt
  have hky4 := Blk.new w3 [.int .i64 (walkK y (walkK x G).2).1.void, mapV C, mapV E] 137
  have hkxd := hkx4.below (Below.refl _ _).drew hkx4.lt
  have hkyd := hky4.below (Below.refl _ _).drew hky4.lt
  have hall := fun Q a0 h1 h2 => wal_all (w3.heap.size + 1) n w2.heap.size w3.heap.size A B C E (walkK x G).1.void (walkK y (walkK x G).2).1.void (walkK x G).1.first (walkK x G).1.last (walkK y (walkK x G).2).1.first (walkK y (walkK x G).2).1.last Q a0 (w3.alloc (.cells [.int .i64 (walkK y (walkK x G).2).1.void, mapV C, mapV E].toArray 137)).drew h1 h2 ⟨hkxd.cell 0, hkxd.lt⟩ ⟨hkxd.cell 1, hkxd.lt⟩ ⟨hkxd.cell 2, hkxd.lt⟩ ⟨hkyd.cell 0, hkyd.lt⟩ ⟨hkyd.cell 1, hkyd.lt⟩ ⟨hkyd.cell 2, hkyd.lt⟩ ((hA3.under hb4).under (Below.refl _ _).drew) ((hB3.under hb4).under (Below.refl _ _).drew) ((hC.under hb4).under (Below.refl _ _).drew) ((hE.under hb4).under (Below.refl _ _).drew) hva hvb hn (by rw [World.size_drew, World.size_alloc]; exact Nat.le_refl _)
  have HALL := Lib.hid hall
  have hl3 := hkb.lt
  have HKB4 := Lib.hid hkb4
  have HSB3 := Lib.hid kb.2
  have HW4 := Lib.hid (hW3.under hb4)
  have HK4 := Lib.hid ((HK2.out.trans hK3).trans (Keep.below hb4))
  clear hall hkxd hkyd hkx4 hkb4 hky4 hkx hkb kx kb hW3 hK3 hC hE sC sE hA3 hB3 hb4 b7
  go_wp2_with fail
  refine region_last (ops' := wal_ops) (by kernel_rfl) (wal_S (w3.heap.size + 1) n w2.heap.size w3.heap.size A B C E (walkK x G).1.void (walkK y (walkK x G).2).1.void (walkK x G).1.first (walkK x G).1.last (walkK y (walkK x G).2).1.first (walkK y (walkK x G).2).1.last) 91 17 rfl (by kernel_rfl) (by kernel_rfl) (by kernel_rfl) (HALL.out _ _ rfl rfl) ?_
  intro a5 w5 N H hF
  obtain ⟨c, d, q68, hc0, hd0, cN, dN, hc, hd⟩ := fact_val (hF 16 (by kernel_rfl)) rfl (by kernel_rfl)
  have hbl := (Below.refl _ (w3.alloc (.cells [.int .i64 (walkK y (walkK x G).2).1.void, mapV C, mapV E].toArray 137))).drew.trans H.below
  have hr5 := HKB4.out.below hbl HKB4.out.lt
  have q4 : a5.eval (.tmp 4) = .pointer (some ⟨w.heap.size, 0, none⟩) := held_base H 4 (by kernel_rfl) rfl
  refine wpOp_put_known 4 68 (by kernel_rfl) (by kernel_rfl) q4 q68 hr5 ?_
  have HE := Lib.hid (((hr5.set 0 (.int .i64 (addL [(walkK x G).1.void, (walkK y (walkK x G).2).1.void]))).set 1 (mapV c)).set 2 (mapV d))
  have hdf := H.defers
  have HCD := Lib.hid (And.intro hc hd)
  have HR5 := Lib.hid hr5
  have HW5 := Lib.hid (HW4.out.under hbl)
  have HK5 := Lib.hid (HK4.out.trans (Keep.below hbl))
  have hnc : SW W sv3 fv3 fb3 c ∧ SW W sv3 fv3 fb3 d := ⟨HW4.out.new (by rw [World.size_alloc]; exact hc0), HW4.out.new (by rw [World.size_alloc]; exact hd0)⟩
  clear hF H hr5 hc hd hbl HALL
  go_wp2
  exact ret_known (b := w.heap.size) rfl q4 HE.out hdf ⟨_, rfl, WalkIs.put (r := walkK (.alt x y) G) HLO.out HW5.out HK5.out HSB3.out (Nat.le_refl _) HCD.out.1 HCD.out.2 hnc.1 hnc.2 (HCD.out.1.ne HR5.out) (HCD.out.2.ne HR5.out) _ rfl⟩
/-- walk finds what is known of a core. -/
theorem walk_at (c : CT) : ∀ {w0 w : World} {W n g : Nat} {fb : List Nat} {sv fv : Value} {G : Wg}, WtAt w0 w W n fb sv fv G → CoreAt w (SW W sv fv fb) c g → G.fol.length = G.ms.length → FolOk G → G.ms.length + setsN8 c ≤ n → n ≤ 1000 →
    Calls Tryz.prog 94 #[.pointer (some ⟨W, 0, none⟩), cptr g] w fun v w' => ∃ kv, v = .returned kv ∧ WalkIs w0 w w' W n fb sv fv (walkK c G) kv := by
  induction c with
  | empty => intro w0 w W n g fb sv fv G h hc _ _ _ _; exact walk_empty h hc
  | set m => intro w0 w W n g fb sv fv G h hc hl _ hs hn; exact walk_set h hc hl (by simp only [setsN8] at hs; omega) hn
  | star z x ih =>
    intro w0 w W n g fb sv fv G h hc hl hf hs hn
    simp only [setsN8] at hs
    have hk := walk_ok x G hf
    exact walk_star h hc (walk_fol x G hl) hk.1 (by rw [walk_len]; exact hs) hn (fun w1 p h1 h2 => ih h1 h2 hl hf hs hn)
  | cat x y ihx ihy =>
    intro w0 w W n g fb sv fv G h hc hl hf hs hn
    simp only [setsN8] at hs
    have hk := walk_ok x G hf
    have hl1 := walk_fol x G hl
    have hk2 := walk_ok y _ hk.2
    have hl2 := walk_fol y _ hl1
    have hle : (walkK y (walkK x G).2).2.ms.length ≤ n := by rw [walk_len, walk_len]; omega
    exact walk_cat h hc (by rw [hl2]; exact hk.1.mono (by rw [walk_len y]; omega)) (by rw [hl2]; exact hk2.1) (by rw [hl2]; exact hle) hn (fun w1 p h1 h2 => ihx h1 h2 hl hf (by omega) hn) (fun w1 fb1 sv1 fv1 p h1 h2 => ihy h1 h2 hl1 hk.2 (by rw [walk_len]; omega) hn)
  | alt x y ihx ihy =>
    intro w0 w W n g fb sv fv G h hc hl hf hs hn
    simp only [setsN8] at hs
    have hk := walk_ok x G hf
    have hl1 := walk_fol x G hl
    have hk2 := walk_ok y _ hk.2
    exact walk_alt h hc hk.1.void hk2.1.void hn (fun w1 p h1 h2 => ihx h1 h2 hl hf (by omega) hn) (fun w1 fb1 sv1 fv1 p h1 h2 => ihy h1 h2 hl1 hk.2 (by rw [walk_len]; omega) hn)
end
end Go.Proofs.YtpiimcbbgalhfaaGreatDoor
