/- Weights: operations of regions that reckon with bags. -/
import Derived.Test.YtpiimcbbgalhfaaGreatDoorDb
import Derived.Test.YtpiimcbbgalhfaaGreatDoorBb
import Derived.Test.YtpiimcbbgalhfaaGreatDoorBt
import Derived.Test.YtpiimcbbgalhfaaGreatDoorCg
import Derived.Test.YtpiimcbbgalhfaaGreatDoorBq
namespace Go.Proofs.YtpiimcbbgalhfaaGreatDoor
set_option maxRecDepth 100000
open Go.RowKit Go.Maps
theorem ranges_has {w : World} {b r n : Nat} {D : DataW Unit} {left : Lit → Bool} {cnt : Nat} (h : w.ranges Tryz.prog 3 (plainElem Tryz.prog 3) b r n D left cnt) {kl : Lit} (hl : left kl = true) : Maps.has D kl = true := by
  obtain ⟨es, clock, since, seen, c0, h1, h2, h3, rfl, h5, h6, h7, h8, h9, h10⟩ := h
  obtain ⟨x, hx, hk⟩ := h9 kl hl
  have hkl := (fit_keys (P := Tryz.prog) (k := 3) h2 (WideElems.rg Tryz.prog 3 (plainElem Tryz.prog 3) x) (List.mem_map.2 ⟨x, hx, rfl⟩))
  rw [has_eq, List.any_eq_true]
  refine ⟨WideElems.rg Tryz.prog 3 (plainElem Tryz.prog 3) x, mem_sorted.2 (List.mem_map.2 ⟨x, hx, rfl⟩), ?_⟩
  rw [hk] at hkl ⊢
  obtain ⟨v, hv⟩ := hkl
  exact WideAt.sameKey_self (kint.key hv)
section
variable {ops : Array Oper} {S : List RK} {Q : Exit → Act → World → Prop} {a0 : Act} {w0 : World} {a : Act} {w : World} {N : Nat → Prop}
theorem wp_lookup_bag {o : Oper} {x y : Operand} {n b p : Nat} {β : Bag} (ho : o.op = .lookup 135 x y false) (hx : a.eval x = .map (some b)) (hy : a.eval y = .int .i64 ((p : Nat) : Int)) (hB : BagAt w n b β) (hp : p ≤ 1000000) :
    o.wp Tryz.prog a w (fun a' w' => ∃ u, a' = a.put o.dst u ∧ Below w.heap.size w w' ∧ ∀ N' : Nat → Prop, (∀ k, k < w.heap.size → N k → N' k) → (∀ k, w.heap.size ≤ k → N' k) → (RG.eq (.int .i64 (β p))).g u w' N') Q := by
  obtain ⟨D, hm, hD⟩ := hB
  obtain ⟨c, hrun, hat, -⟩ := hm.lookup_int kint Tryz.underlying135 Tryz.underlying3 (zero_int w) (key_of hp)
  have hc : β p = c := by
    have h := hD.val p
    rw [hat] at h
    injection h with h
    injection h with _ h
    exact h.symm
  rw [hc]
  refine wp_quiet ?_
  simp only [execOp, ho, hx, hy]
  simp [hrun]
/-- A row of numbers in a block of one's own. -/
def RG.ints (l : List Int) : RG where
  g v w N := ∃ b, v = .slice (some ⟨b, 0, none⟩) l.length l.length ∧ N b ∧ Blk w b 3 (l.map (Value.int .i64))
  mono := by
    rintro v w w' N N' ⟨b, rfl, hN, hb⟩ hs hk
    exact ⟨b, rfl, (hk b hb.lt hN).1, ((hk b hb.lt hN).2).trans hb⟩
theorem run_build2i (p q : Int) (w : World) : (Instr.buildSlice 52 2 #[(0, .int .i64 p), (1, .int .i64 q)]).run Tryz.prog w = .ok (.slice (some ⟨w.heap.size, 0, none⟩) 2 2) (w.alloc (.cells #[.int .i64 p, .int .i64 q] 3)) := by kernel_rfl
theorem wp_build2i {o : Oper} {x0 x1 : Operand} {p q : Int} (ho : o.op = .buildSlice 52 2 #[(0, x0), (1, x1)]) (h0 : a.eval x0 = .int .i64 p) (h1 : a.eval x1 = .int .i64 q) :
    o.wp Tryz.prog a w (fun a' w' => ∃ u, a' = a.put o.dst u ∧ Below w.heap.size w w' ∧ ∀ N' : Nat → Prop, (∀ k, k < w.heap.size → N k → N' k) → (∀ k, w.heap.size ≤ k → N' k) → (RG.ints [p, q]).g u w' N') Q := by
  have hr := run_build2i p q w
  refine wp_of_run (v := .slice (some ⟨w.heap.size, 0, none⟩) 2 2) (w' := w.alloc (.cells #[.int .i64 p, .int .i64 q] 3)) (by simp only [execOp, ho, List.map_toArray, List.map_cons, List.map_nil, h0, h1]; simp [hr]) ⟨_, rfl, (Below.refl _ _).alloc (Nat.le_refl _) _, fun N' _ hN => ?_⟩
  exact ⟨w.heap.size, rfl, hN _ (Nat.le_refl _), Blk.new w [.int .i64 p, .int .i64 q] 3⟩
theorem ints_rd {v : Value} {w : World} {N : Nat → Prop} {l : List Int} (h : (RG.ints l).g v w N) (hl : l.length ≤ 1000) : Rd w .i64 v l := by
  obtain ⟨b, rfl, -, hb⟩ := h
  refine ⟨_, _, rfl, Nat.le_refl _, by omega, fun i x hx => ⟨_, rfl, hb.lt, ?_⟩⟩
  rw [show (⟨b, 0, none⟩ : Addr).add i = ⟨b, i, none⟩ by unfold Addr.add; split <;> simp_all]
  rw [hb.cell i, List.getElem?_map, hx]
  rfl
theorem wp_mul2 {o : Oper} {x : Operand} {p q : Int} {ts : Array TypeId} (ho : o.op = .call { callee := .value (.func 185), args := #[x], argTypes := ts }) (hx : (RG.ints [p, q]).g (a.eval x) w N) (hp : I64 p) (hq : I64 q) :
    o.wp Tryz.prog a w (fun a' w' => ∃ u, a' = a.put o.dst u ∧ Below w.heap.size w w' ∧ ∀ N' : Nat → Prop, (∀ k, k < w.heap.size → N k → N' k) → (∀ k, w.heap.size ≤ k → N' k) → (RG.eq (.int .i64 (mulL [p, q]))).g u w' N') Q :=
  wp_call_eq (xs := #[a.eval x]) ho (fun xs w => by kernel_rfl) (by simp) ((mulv_at (ints_rd hx (by simp)) (ints2 hp hq)).mono fun e w' ⟨h1, h2⟩ => ⟨h1, h2 ▸ Below.refl _ _⟩)
theorem wp_add2 {o : Oper} {x : Operand} {p q : Int} {ts : Array TypeId} (ho : o.op = .call { callee := .value (.func 99), args := #[x], argTypes := ts }) (hx : (RG.ints [p, q]).g (a.eval x) w N) (hp : I64 p) (hq : I64 q) :
    o.wp Tryz.prog a w (fun a' w' => ∃ u, a' = a.put o.dst u ∧ Below w.heap.size w w' ∧ ∀ N' : Nat → Prop, (∀ k, k < w.heap.size → N k → N' k) → (∀ k, w.heap.size ≤ k → N' k) → (RG.eq (.int .i64 (addL [p, q]))).g u w' N') Q :=
  wp_call_eq (xs := #[a.eval x]) ho (fun xs w => by kernel_rfl) (by simp) ((addv_at (ints_rd hx (by simp)) (ints2 hp hq)).mono fun e w' ⟨h1, h2⟩ => ⟨h1, h2 ▸ Below.refl _ _⟩)
end
theorem wpOp_put_bag {ops : Array Oper} {Q : Exit → Act → World → Prop} {K : Nat} {a : Act} {w : World} {n b p : Nat} {β : Bag} {v : Int} (sm sx sv : Nat) {Kc : Act → World → Prop}
    (hop : (ops[K]?).map (fun o => (o.op, o.guard)) = some (.mapUpdate 135 (.tmp sm) (.tmp sx) (.tmp sv), none)) (hd : dstOf ops K = none)
    (hm : a.eval (.tmp sm) = .map (some b)) (hx : a.eval (.tmp sx) = .int .i64 ((p : Nat) : Int)) (hv : a.eval (.tmp sv) = .int .i64 v) (hB : BagAt w n b β) (hp : p < n) (hn : n ≤ 1000) (hvr : 0 < v ∧ v ≤ mostI)
    (hK : ∀ w', BagAt w' n b (fun q => if q = p then v else β q) → w.grownBy w' (some b) → Kc a w') : wpOp Tryz.prog ops Q K Kc a w := by
  cases ho : ops[K]? with
  | none => rw [ho] at hop; cases hop
  | some o =>
    rw [ho] at hop
    simp only [Option.map_some, Option.some.injEq, Prod.mk.injEq] at hop
    have hdst : dstOf ops K = o.dst := by unfold dstOf; rw [ho]; rfl
    obtain ⟨D, hmap, hD⟩ := hB
    obtain ⟨w', hrun, h1, h2⟩ := hmap.update (key := .int .i64 ((p : Nat) : Int)) (val := .int .i64 v) kint Tryz.underlying135 (by unfold maxLen; omega) (key_of (by omega)) (plainElem_int Tryz.underlying3 (wf_i64 (by have := hvr.2; unfold mostI at this; omega)))
    have hD' := bagD_put hmap.isMap hD hp hvr
    unfold wpOp
    simp only [ho]
    rw [if_pos (by unfold Region.wanted; rw [hop.2])]
    left
    have hrun' : (execOp a.eval o).run Tryz.prog w = .ok .skip w' := by
      simp only [execOp, hop.1, hm, hx, hv]
      simp [hrun]
    unfold Oper.wp
    rw [hrun']
    show Kc (a.put o.dst undef) _
    rw [show a.put o.dst undef = a by rw [← hdst, hd]; rfl]
    exact hK w' ⟨_, map_tight h1 hD', hD'⟩ h2
end Go.Proofs.YtpiimcbbgalhfaaGreatDoor
/- weigh's add: its region. -/
namespace Go.Proofs.YtpiimcbbgalhfaaGreatDoor
open Go.RowKit
theorem mulL_i64 (l : List Int) : I64 (mulL l) := (rng_mul l).i64
noncomputable def bad_ops : Array Oper := regOf Tryz.f186 4
def bad_S (n B p : Nat) (β : Bag) (c k : Int) : List RK := [RK.eq (.map (some B)), RK.eq (.int .i64 ((p : Nat) : Int)), RK.eq (.map (some B)), RK.eq (.int .i64 ((p : Nat) : Int)), RK.eq (.int .i64 (β p)), RK.eq (.int .i64 c), RK.eq (.int .i64 k), RK.val (RG.ints [c, k]), RK.eq (.int .i64 (mulL [c, k])), RK.val (RG.ints [(β p), (mulL [c, k])]), RK.eq (.int .i64 (addL [(β p), (mulL [c, k])]))]
theorem bad_o0 (n B p : Nat) (β : Bag) (c k : Int) (Q : Exit → Act → World → Prop) (a0 : Act) (w0 : World) (hs0 : a0.tmps.getD 0 undef = .map (some B)) : Obl Tryz.prog bad_ops (bad_S n B p β c k) Q a0 w0 0 :=
  obl_val (.move (.tmp 0)) none rfl (by kernel_rfl) fun a w N H D => ⟨(fun _ _ hg => by cases hg), fun _ ho => wp_move (.inl ho) (held_base H 0 (by kernel_rfl) hs0)⟩
theorem bad_o1 (n B p : Nat) (β : Bag) (c k : Int) (Q : Exit → Act → World → Prop) (a0 : Act) (w0 : World) (hs6 : a0.tmps.getD 6 undef = .int .i64 ((p : Nat) : Int)) : Obl Tryz.prog bad_ops (bad_S n B p β c k) Q a0 w0 1 :=
  obl_val (.move (.tmp 6)) none rfl (by kernel_rfl) fun a w N H D => ⟨(fun _ _ hg => by cases hg), fun _ ho => wp_move (.inl ho) (held_base H 6 (by kernel_rfl) hs6)⟩
theorem bad_o2 (n B p : Nat) (β : Bag) (c k : Int) (Q : Exit → Act → World → Prop) (a0 : Act) (w0 : World) (hs0 : a0.tmps.getD 0 undef = .map (some B)) : Obl Tryz.prog bad_ops (bad_S n B p β c k) Q a0 w0 2 :=
  obl_val (.move (.tmp 0)) none rfl (by kernel_rfl) fun a w N H D => ⟨(fun _ _ hg => by cases hg), fun _ ho => wp_move (.inl ho) (held_base H 0 (by kernel_rfl) hs0)⟩
theorem bad_o3 (n B p : Nat) (β : Bag) (c k : Int) (Q : Exit → Act → World → Prop) (a0 : Act) (w0 : World) (hs6 : a0.tmps.getD 6 undef = .int .i64 ((p : Nat) : Int)) : Obl Tryz.prog bad_ops (bad_S n B p β c k) Q a0 w0 3 :=
  obl_val (.move (.tmp 6)) none rfl (by kernel_rfl) fun a w N H D => ⟨(fun _ _ hg => by cases hg), fun _ ho => wp_move (.inl ho) (held_base H 6 (by kernel_rfl) hs6)⟩
theorem bad_o4 (n B p : Nat) (β : Bag) (c k : Int) (Q : Exit → Act → World → Prop) (a0 : Act) (w0 : World) (hB : BagAt w0 n B β) (hp : p ≤ 1000000) : Obl Tryz.prog bad_ops (bad_S n B p β c k) Q a0 w0 4 :=
  obl_val (.lookup 135 (.tmp 19) (.tmp 20) false) none rfl (by kernel_rfl) fun a w N H D => ⟨(fun _ _ hg => by cases hg), fun _ ho => wp_lookup_bag (n := n) ho (fact_eq (c := .map (some B)) (D 2 (by kernel_rfl)) rfl (by kernel_rfl)) (fact_eq (c := .int .i64 ((p : Nat) : Int)) (D 3 (by kernel_rfl)) rfl (by kernel_rfl)) (hB.heap (H.below.block B hB.lt)) hp⟩
theorem bad_o5 (n B p : Nat) (β : Bag) (c k : Int) (Q : Exit → Act → World → Prop) (a0 : Act) (w0 : World) (hs7 : a0.tmps.getD 7 undef = .int .i64 c) : Obl Tryz.prog bad_ops (bad_S n B p β c k) Q a0 w0 5 :=
  obl_val (.move (.tmp 7)) none rfl (by kernel_rfl) fun a w N H D => ⟨(fun _ _ hg => by cases hg), fun _ ho => wp_move (.inl ho) (held_base H 7 (by kernel_rfl) hs7)⟩
theorem bad_o6 (n B p : Nat) (β : Bag) (c k : Int) (Q : Exit → Act → World → Prop) (a0 : Act) (w0 : World) (hs2 : a0.tmps.getD 2 undef = .int .i64 k) : Obl Tryz.prog bad_ops (bad_S n B p β c k) Q a0 w0 6 :=
  obl_val (.move (.tmp 2)) none rfl (by kernel_rfl) fun a w N H D => ⟨(fun _ _ hg => by cases hg), fun _ ho => wp_move (.inl ho) (held_base H 2 (by kernel_rfl) hs2)⟩
theorem bad_o7 (n B p : Nat) (β : Bag) (c k : Int) (Q : Exit → Act → World → Prop) (a0 : Act) (w0 : World)  : Obl Tryz.prog bad_ops (bad_S n B p β c k) Q a0 w0 7 :=
  obl_val (.buildSlice 52 2 #[(0, .tmp 22), (1, .tmp 23)]) none rfl (by kernel_rfl) fun a w N H D => ⟨(fun _ _ hg => by cases hg), fun _ ho => wp_build2i ho (fact_eq (c := .int .i64 c) (D 5 (by kernel_rfl)) rfl (by kernel_rfl)) (fact_eq (c := .int .i64 k) (D 6 (by kernel_rfl)) rfl (by kernel_rfl))⟩
theorem bad_o8 (n B p : Nat) (β : Bag) (c k : Int) (Q : Exit → Act → World → Prop) (a0 : Act) (w0 : World) (hc : I64 c) (hk : I64 k) (hv : I64 (β p)) : Obl Tryz.prog bad_ops (bad_S n B p β c k) Q a0 w0 8 :=
  obl_val (.call { callee := .value (.func 185), args := #[.tmp 24], argTypes := #[52] }) none rfl (by kernel_rfl) fun a w N H D => ⟨(fun _ _ hg => by cases hg), fun _ ho => wp_mul2 ho (fact_val (D 7 (by kernel_rfl)) rfl (by kernel_rfl)) hc hk⟩
theorem bad_o9 (n B p : Nat) (β : Bag) (c k : Int) (Q : Exit → Act → World → Prop) (a0 : Act) (w0 : World)  : Obl Tryz.prog bad_ops (bad_S n B p β c k) Q a0 w0 9 :=
  obl_val (.buildSlice 52 2 #[(0, .tmp 21), (1, .tmp 25)]) none rfl (by kernel_rfl) fun a w N H D => ⟨(fun _ _ hg => by cases hg), fun _ ho => wp_build2i ho (fact_eq (c := .int .i64 (β p)) (D 4 (by kernel_rfl)) rfl (by kernel_rfl)) (fact_eq (c := .int .i64 (mulL [c, k])) (D 8 (by kernel_rfl)) rfl (by kernel_rfl))⟩
theorem bad_o10 (n B p : Nat) (β : Bag) (c k : Int) (Q : Exit → Act → World → Prop) (a0 : Act) (w0 : World) (hc : I64 c) (hk : I64 k) (hv : I64 (β p)) : Obl Tryz.prog bad_ops (bad_S n B p β c k) Q a0 w0 10 :=
  obl_val (.call { callee := .value (.func 99), args := #[.tmp 26], argTypes := #[52] }) none rfl (by kernel_rfl) fun a w N H D => ⟨(fun _ _ hg => by cases hg), fun _ ho => wp_add2 ho (fact_val (D 9 (by kernel_rfl)) rfl (by kernel_rfl)) hv (mulL_i64 _)⟩
theorem bad_all (n B p : Nat) (β : Bag) (c k : Int) (Q : Exit → Act → World → Prop) (a0 : Act) (w0 : World) (hs0 : a0.tmps.getD 0 undef = .map (some B)) (hs2 : a0.tmps.getD 2 undef = .int .i64 k) (hs6 : a0.tmps.getD 6 undef = .int .i64 ((p : Nat) : Int)) (hs7 : a0.tmps.getD 7 undef = .int .i64 c) (hB : BagAt w0 n B β) (hp : p ≤ 1000000) (hc : I64 c) (hk : I64 k) (hv : I64 (β p)) : ∀ i, i < 11 → Obl Tryz.prog bad_ops (bad_S n B p β c k) Q a0 w0 i := by
  intro i hi_
  match i, hi_ with
  | 0, _ => exact bad_o0 n B p β c k  Q a0 w0 hs0
  | 1, _ => exact bad_o1 n B p β c k  Q a0 w0 hs6
  | 2, _ => exact bad_o2 n B p β c k  Q a0 w0 hs0
  | 3, _ => exact bad_o3 n B p β c k  Q a0 w0 hs6
  | 4, _ => exact bad_o4 n B p β c k  Q a0 w0 hB hp
  | 5, _ => exact bad_o5 n B p β c k  Q a0 w0 hs7
  | 6, _ => exact bad_o6 n B p β c k  Q a0 w0 hs2
  | 7, _ => exact bad_o7 n B p β c k  Q a0 w0 
  | 8, _ => exact bad_o8 n B p β c k  Q a0 w0 hc hk hv
  | 9, _ => exact bad_o9 n B p β c k  Q a0 w0 
  | 10, _ => exact bad_o10 n B p β c k  Q a0 w0 hc hk hv
  | i + 11, h => exact absurd h (by omega)
end Go.Proofs.YtpiimcbbgalhfaaGreatDoor
/- weigh: add. -/
namespace Go.Proofs.YtpiimcbbgalhfaaGreatDoor
set_option maxRecDepth 100000
open Go.RowKit Go.Maps
theorem addB_zero (β μ : Bag) : addB β μ 0 = β := by
  funext p
  unfold addB
  rw [if_pos (.inl rfl)]
theorem key_self (q : Nat) : (keyI q).sameKey (Lit.int .i64 ((q : Nat) : Int)) = true := WideAt.sameKey_self (a := keyI q) trivial
theorem low_grown {w w' : World} (hb : Below w.heap.size w w') : w.grownBy w' none := ⟨hb.os, hb.tape, hb.output, hb.size, fun k hk _ => hb.block k hk⟩
set_option maxHeartbeats 4000000 in
theorem badd_at {w : World} {n B M : Nat} {β μ : Bag} (hβ : BagAt w n B β) (hμ : BagAt w n M μ) (hne : B ≠ M) (hn : n ≤ 1000) (k : Int) (hk : 0 ≤ k ∧ k ≤ mostI) :
    Calls Tryz.prog 186 #[.map (some B), .map (some M), .int .i64 k] w fun v w' => (∃ u, v = .returned u) ∧ BagAt w' n B (addB β μ k) ∧ w.grownBy w' (some B) := by
  by_cases hk0 : k = 0
  · subst hk0
    rw [addB_zero]
    have HB := Lib.hid hβ
    clear hβ hμ
    go_enter Tryz.func186, Tryz.ntmps186
    go_wp2
    go_returns
    exact ⟨⟨_, rfl⟩, HB.out, World.grownBy.refl _ _⟩
  have hkz : (k == 0) = false := beq_eq_false_iff_ne.2 hk0
  have HK := Lib.hid (show 0 < k by omega)
  have HKI := Lib.hid (show I64 k from ⟨by omega, by have := hk.2; unfold mostI at this; omega⟩)
  have HOKB := Lib.hid hβ.ok
  have HOKM := Lib.hid hμ.ok
  obtain ⟨Dμ, hmμ, hDμ⟩ := hμ
  have HDM := Lib.hid hDμ
  have HBB := Lib.hid hβ
  have hBl := hβ.lt
  have hMl := hmμ.lt
  clear hk hk0 hDμ hβ
  go_enter Tryz.func186, Tryz.ntmps186
  go_wp2_with (first
    | (at_range; refine wpList_range_own _ rfl _ 135 rfl 3 3 kint Tryz.underlying135 _ M n _ rfl hmμ ?_; intro w0 hrg0 hg0 hs0)
    | go_in)
  go_frame
  go_loopw [6, 7] (fun _ _ wr => ∃ (left : Lit → Bool) (cnt : Nat) (γ : Bag), wr.ranges Tryz.prog 3 (plainElem Tryz.prog 3) M w.heap.size n Dμ left cnt ∧ BagAt wr n B γ ∧ Hid (∀ p : Nat, γ p = if left (keyI p) = true then β p else addB β μ k p) ∧ w.grownBy wr (some B) ∧ w.heap.size < wr.heap.size)
    (fun _ _ wr => wr.rangeLeft M w.heap.size)
  case atStart =>
    refine ⟨_, _, β, hrg0, HBB.out.kept hg0 (by simp), Lib.hid (fun p => ?_), hg0.but _, by omega⟩
    cases hh : Maps.has Dμ (keyI p) with
    | true => rw [if_pos rfl]
    | false =>
      rw [if_neg (by simp)]
      have hz : μ p = 0 := by
        by_cases h : μ p = 0
        · exact h
        · rw [HDM.out.has p h] at hh
          cases hh
      unfold addB
      rw [if_pos (.inr hz)]
  case round =>
    obtain ⟨left, cnt, γ, hrg, hγ, HG, hgw, hsz⟩ := hrel
    have HGW := Lib.hid hgw
    have HGA := Lib.hid hγ
    have hle := hgw.size
    clear hgw
    go_wp2_with (first
      | (at_next; refine wpList_next_ranges_ii _ rfl _ rfl 3 3 .i64 .i64 kint Tryz.underlying3 Tryz.underlying3 M w.heap.size n _ _ _ rfl hrg ?_ ?_)
      | go_in)
    · intro hc0 hl0
      have HF := Lib.hid (HGA.out.eq (γ := addB β μ k) (fun p => by rw [HG.out p, if_neg (by rw [hl0]; simp)]))
      clear hl0
      go_wp2
      go_returns
      exact ⟨⟨_, rfl⟩, HF.out, HGW.out⟩
    · intro x c w1 cnt1 hwx hwc hlx hat hrg1 hlt hg1 hs1 hen
      obtain ⟨p, hp, hp0⟩ := HDM.out.key _ (ranges_has hrg hlx)
      obtain rfl : x = ((p : Nat) : Int) := by
        injection hp
      have hc : c = μ p := by
        have h := (hat (valI 0)).symm.trans (HDM.out.val p)
        injection h with h
        injection h
      subst hc
      have hpn : p < n := (HOKM.out p).2.2 hp0
      have hγp : γ p = β p := by rw [HG.out p, if_pos hlx]
      have hb1 := HGA.out.kept hg1 (by simp; omega)
      have HB1 := Lib.hid hb1
      have hB1 := hb1.under (Below.refl w1.heap.size w1).drew
      have hci : I64 (μ p) := ⟨by have := (HOKM.out p).1; omega, by have := (HOKM.out p).2.1; unfold mostI at this; omega⟩
      have hvi : I64 (γ p) := ⟨by rw [hγp]; have := (HOKB.out p).1; omega, by rw [hγp]; have := (HOKB.out p).2.1; unfold mostI at this; omega⟩
      have HRG1 := Lib.hid hrg1
      have HEN := Lib.hid hlt
      have HLX := Lib.hid hlx
      have HPP := Lib.hid hp0
      have HG1 := Lib.hid hg1
      have HLE := Lib.hid hrg.left_eq
      clear hrg hrg1 hlx hat hp hp0 hb1 hγ hg1
      go_wp2_with fail
      refine region_last (ops' := bad_ops) (by kernel_rfl) (bad_S n B p γ (μ p) k) 28 11 rfl (by kernel_rfl) (by kernel_rfl) (by kernel_rfl) (bad_all n B p γ (μ p) k _ _ _ rfl rfl rfl rfl hB1 (by omega) hci HKI.out hvi) ?_
      intro a w4 N H hF
      have q17 : a.tmps.getD 17 undef = .map (some B) := fact_eq (hF 0 (by kernel_rfl)) rfl (by kernel_rfl)
      have q18 : a.tmps.getD 18 undef = .int .i64 ((p : Nat) : Int) := fact_eq (hF 1 (by kernel_rfl)) rfl (by kernel_rfl)
      have q27 : a.tmps.getD 27 undef = .int .i64 (addL [γ p, mulL [μ p, k]]) := fact_eq (hF 10 (by kernel_rfl)) rfl (by kernel_rfl)
      have hB4 := hB1.under H.below
      have HBL := Lib.hid ((Below.refl w1.heap.size w1).drew.trans H.below)
      refine wpOp_put_bag 17 18 27 (by kernel_rfl) (by kernel_rfl) q17 q18 q27 hB4 hpn hn ⟨add_pos (by rw [hγp]; exact (HOKB.out p).1) (mul_pos (by have := (HOKM.out p).1; have := HPP.out; omega) HK.out), (addL_rng _).2⟩ ?_
      intro w5 hB5 hg5
      rw [held_frame H [17, 18, 19, 20, 21, 22, 23, 24, 25, 26, 27] (by kernel_rfl)]
      simp only [putAll, List.map_cons, List.map_nil, List.foldl_cons, List.foldl_nil, List.setIfInBounds_toArray, List.set_cons_zero, List.set_cons_succ, q17, q18, q27]
      generalize a.tmps.getD 19 undef = z19
      generalize a.tmps.getD 20 undef = z20
      generalize a.tmps.getD 21 undef = z21
      generalize a.tmps.getD 22 undef = z22
      generalize a.tmps.getD 23 undef = z23
      generalize a.tmps.getD 24 undef = z24
      generalize a.tmps.getD 25 undef = z25
      generalize a.tmps.getD 26 undef = z26
      clear hF H q17 q18 q27 hB4 hB1
      clear a N
      have hrg5 := (HRG1.out.kept (row := none) (low_grown HBL.out) (by simp) (by simp)).kept hg5 (by simp; omega) (by simp; omega)
      go_wp2
      go_roundw
      case rel =>
        refine ⟨_, cnt1, _, hrg5, hB5, Lib.hid (fun q => ?_), ?_, ?_⟩
        · by_cases e : q = p
          · subst e
            rw [if_pos rfl, if_neg (by rw [key_self]; simp), hγp]
            unfold addB
            rw [if_neg (by intro h; rcases h with h | h; have := HK.out; omega; exact HPP.out h)]
          · rw [if_neg e, sameKey_ne (fun h => e (keyI_inj h))]
            simp only [Bool.not_false, Bool.and_true]
            exact HG.out q
        · exact ((HGW.out.andThen HG1.out (fun j hj => by cases hj; exact .inl (Nat.le_refl _))).andThen (low_grown HBL.out) (fun j hj => by cases hj)).andThen hg5 (fun j hj => by cases hj; exact .inr rfl)
        · have h1 := HBL.out.size
          have h2 := hg5.size
          omega
      case measure =>
        rw [hrg5.left_eq, HLE.out]
        exact HEN.out
set_option maxHeartbeats 2000000 in
/-- sum: both, the second one with a factor, in a map of one's own. -/
theorem bsum_at {w : World} {n B M : Nat} {β μ : Bag} (hβ : BagAt w n B β) (hμ : BagAt w n M μ) (hn : n ≤ 1000) (k : Int) (hk : 0 ≤ k ∧ k ≤ mostI) :
    Calls Tryz.prog 141 #[.map (some B), .map (some M), .int .i64 k] w fun v w' => ∃ b, v = .returned (.map (some b)) ∧ w.heap.size ≤ b ∧ BagAt w' n b (sumB β μ k) ∧ Below w.heap.size w w' := by
  have h0 := bag_new w n
  have hB1 : Below w.heap.size w (w.alloc (.map #[] 0)) := (Below.refl _ _).alloc (Nat.le_refl _) _
  have hne1 : w.heap.size ≠ B := by have := hβ.lt; omega
  have hne2 : w.heap.size ≠ M := by have := hμ.lt; omega
  have HM2 := Lib.hid (hμ.under hB1)
  have HA := Lib.hid (badd_at h0 (hβ.under hB1) hne1 hn 1 (by unfold mostI; omega))
  have HB1 := Lib.hid hB1
  have hmm := @run_makeMap Tryz.prog
  clear h0 hB1 hne1 hβ hμ
  go_enter Tryz.func141, Tryz.ntmps141
  go_wp2_with fail
  refine HA.out.mono ?_
  rintro v w1 ⟨⟨u, rfl⟩, h1, hg1⟩
  have HA2 := Lib.hid (badd_at h1 (HM2.out.kept hg1 (by simp; omega)) hne2 hn k hk)
  have HG1 := Lib.hid hg1
  clear h1 hg1
  go_wp2_with fail
  refine HA2.out.mono ?_
  rintro v w2 ⟨⟨u, rfl⟩, h2, hg2⟩
  have HG2 := Lib.hid hg2
  have H2 := Lib.hid h2
  clear h2 hg2
  go_wp2
  go_returns
  exact ⟨_, rfl, Nat.le_refl _, H2.out, (HB1.out.grown HG1.out (by simp) (fun j hj => by cases hj; exact Nat.le_refl _)).grown HG2.out (by have := HG1.out.size; have := HB1.out.size; omega) (fun j hj => by cases hj; exact Nat.le_refl _)⟩
end Go.Proofs.YtpiimcbbgalhfaaGreatDoor
/- Weights: a core's, as they lie in memory; link. -/
namespace Go.Proofs.YtpiimcbbgalhfaaGreatDoor
set_option maxRecDepth 100000
open Go.RowKit Go.Maps
abbrev mapV (b : Nat) : Value := .map (some b)
abbrev wtL (sv fv : Value) : List Value := [.int .i64 0, .map none, .map none, sv, fv]
theorem mapsC_get (fb : List Nat) (i b : Nat) (h : fb[i]? = some b) : (fb.map mapV)[i]? = some (mapV b) := by rw [List.getElem?_map, h]; rfl
/-- The weights at block W, as they lie while a core is walked. -/
structure WtAt (w0 w : World) (W n : Nat) (fb : List Nat) (sv fv : Value) (G : Wg) : Prop where
  low : w0.heap.size ≤ W
  below : Below w0.heap.size w0 w
  blk : Blk w W 140 (wtL sv fv)
  sets : w.ownsRow (W + 1) 24 4 sv G.ms.length (setsC G.ms)
  fol : w.ownsRow (W + 1) 135 1 fv G.fol.length (fb.map mapV)
  len : fb.length = G.fol.length
  bags : ∀ (i b : Nat) (β : Bag), fb[i]? = some b → G.fol[i]? = some β → BagAt w n b β
  own : ∀ b ∈ fb, W < b ∧ b < w.heap.size ∧ sv.ownBlock ≠ some b ∧ fv.ownBlock ≠ some b
  nodup : fb.Nodup
  apart : Apart sv fv
/-- The blocks that stay: all but those of the weights. -/
def SW (W : Nat) (sv fv : Value) (fb : List Nat) : Nat → Prop := fun k => k ≠ W ∧ sv.ownBlock ≠ some k ∧ fv.ownBlock ≠ some k ∧ k ∉ fb
section
variable {w0 w : World} {W n : Nat} {fb : List Nat} {sv fv : Value} {G : Wg}
theorem WtAt.under {w' : World} (h : WtAt w0 w W n fb sv fv G) (hb : Below w.heap.size w w') : WtAt w0 w' W n fb sv fv G where
  low := h.low
  below := h.below.trans (hb.mono h.below.size)
  blk := h.blk.below hb h.blk.lt
  sets := own_below h.sets hb
  fol := own_below h.fol hb
  len := h.len
  bags := fun i b β hi hβ => (h.bags i b β hi hβ).under hb
  own := fun b hb' => ⟨(h.own b hb').1, Nat.lt_of_lt_of_le (h.own b hb').2.1 hb.size, (h.own b hb').2.2⟩
  nodup := h.nodup
  apart := h.apart
theorem WtAt.new (h : WtAt w0 w W n fb sv fv G) {k : Nat} (hk : w.heap.size ≤ k) : SW W sv fv fb k :=
  ⟨fun e => by have := h.blk.lt; omega, fun e => by have := (h.sets.lt k e).2; omega, fun e => by have := (h.fol.lt k e).2; omega, fun e => by have := (h.own k e).2.1; omega⟩
theorem WtAt.nth (h : WtAt w0 w W n fb sv fv G) {p : Nat} (hp : p < G.fol.length) : ∃ (b g c : Nat) (β : Bag), fb[p]? = some b ∧ G.fol[p]? = some β ∧ BagAt w n b β ∧ fv = .slice (some ⟨g, 0, none⟩) G.fol.length c ∧ w.cell? ⟨g, p, none⟩ = some (mapV b) ∧ g < w.heap.size ∧ W < g := by
  have hp2 : p < fb.length := by rw [h.len]; exact hp
  have e1 := List.getElem?_eq_getElem hp2
  have e2 := List.getElem?_eq_getElem hp
  have hr := h.fol
  rcases hr.2 with ⟨-, e⟩ | ⟨g, c, cur, e, _⟩
  · omega
  · have hl := hr.lt g (by rw [e]; rfl)
    rw [e] at hr
    exact ⟨_, g, c, _, e1, e2, h.bags _ _ _ e1 e2, e, own_cell1 hr p _ (mapsC_get fb p _ e1), hl.2, hl.1⟩
theorem WtAt.kept {w' : World} {r : Nat} (h : WtAt w0 w W n fb sv fv G) (hg : w.grownBy w' (some r)) (hr : SW W sv fv fb r) (hlow : w0.heap.size ≤ r) : WtAt w0 w' W n fb sv fv G where
  low := h.low
  below := h.below.grown hg h.below.size (fun k e => by cases e; exact hlow)
  blk := (hg.block W h.blk.lt (by simp; exact fun e => hr.1 e.symm)).trans h.blk
  sets := h.sets.kept hg (.inr hr.2.1)
  fol := h.fol.kept hg (.inr hr.2.2.1)
  len := h.len
  bags := fun i b β hi hβ => (h.bags i b β hi hβ).kept hg (by simp; rintro rfl; exact hr.2.2.2 (List.mem_iff_getElem?.2 ⟨i, hi⟩))
  own := fun b hb' => ⟨(h.own b hb').1, Nat.lt_of_lt_of_le (h.own b hb').2.1 hg.size, (h.own b hb').2.2⟩
  nodup := h.nodup
  apart := h.apart
/-- One follower's bag is another one. -/
theorem WtAt.bag {w' : World} {p b : Nat} {γ : Bag} (h : WtAt w0 w W n fb sv fv G) (hp : fb[p]? = some b) (hg : w.grownBy w' (some b)) (hb : BagAt w' n b γ) : WtAt w0 w' W n fb sv fv ⟨G.ms, G.fol.set p γ⟩ ∧ Keep w (SW W sv fv fb) w' (SW W sv fv fb) := by
  have hm : b ∈ fb := List.mem_iff_getElem?.2 ⟨p, hp⟩
  obtain ⟨o1, o2, o3, o4⟩ := h.own b hm
  refine ⟨⟨h.low, h.below.grown hg h.below.size (fun k e => by cases e; have := h.low; omega), (hg.block W h.blk.lt (by simp; omega)).trans h.blk, h.sets.kept hg (.inr o3), ?_, ?_, ?_, ?_, h.nodup, h.apart⟩, hg.size, fun k hk hl => ⟨hg.block k hl (by simp; rintro rfl; exact hk.2.2.2 hm), hk⟩⟩
  · rw [List.length_set]; exact h.fol.kept hg (.inr o4)
  · rw [List.length_set]; exact h.len
  · intro i c β hi hβ
    by_cases e : i = p
    · subst e
      have hc : b = c := by rw [hp] at hi; injection hi
      subst hc
      have hl : i < G.fol.length := by rw [← h.len]; exact (List.getElem?_eq_some_iff.1 hp).1
      simp only [List.getElem?_set_self hl, Option.some.injEq] at hβ
      rw [← hβ]
      exact hb
    · rw [List.getElem?_set_ne (fun e' => e e'.symm)] at hβ
      refine (h.bags i c β hi hβ).kept hg ?_
      intro e2
      have e3 : c = b := by injection e2
      subst e3
      have h1 := (List.getElem?_eq_some_iff.1 hp)
      have h2 := (List.getElem?_eq_some_iff.1 hi)
      exact e ((List.getElem_inj h.nodup).1 (h2.2.trans h1.2.symm))
  · exact fun c hc => ⟨(h.own c hc).1, Nat.lt_of_lt_of_le (h.own c hc).2.1 hg.size, (h.own c hc).2.2⟩
/-- A set is appended. -/
theorem WtAt.setted (h : WtAt w0 w W n fb sv fv G) {W1 w' : World} {g cap : Nat} {m : Nat → Bool} (hW : Below w.heap.size w W1)
    (hown : w'.ownsRow (W + 1) 24 4 (.slice (some ⟨g, 0, none⟩) (G.ms.length + 1) cap) (G.ms.length + 1) (setsC G.ms ++ setL m)) (hm : Moved W1 w' sv g) :
    WtAt w0 (w'.setCell ⟨W, 3, none⟩ (.slice (some ⟨g, 0, none⟩) (G.ms.length + 1) cap)) W n fb (.slice (some ⟨g, 0, none⟩) (G.ms.length + 1) cap) fv ⟨G.ms ++ [m], G.fol⟩ ∧
    Keep w (SW W sv fv fb) (w'.setCell ⟨W, 3, none⟩ (.slice (some ⟨g, 0, none⟩) (G.ms.length + 1) cap)) (SW W (.slice (some ⟨g, 0, none⟩) (G.ms.length + 1) cap) fv fb) := by
  have hsz := hW.size
  have hsz2 := hm.size
  have hs1 := own_below h.sets hW
  have hf1 := own_below h.fol hW
  have hWl := h.blk.lt
  have hbk := hm.blk (h.blk.below hW hWl) hs1 (Nat.lt_succ_self W)
  have hng : ∀ k, k < w.heap.size → sv.ownBlock ≠ some k → (Value.slice (some ⟨g, 0, none⟩) (G.ms.length + 1) cap).ownBlock ≠ some k := fun k hl hk e => by
    have hgk : g = k := by injection e
    subst hgk
    rcases hm.lies with h1 | h1
    · exact hk h1
    · omega
  have hst : ∀ k, k < w.heap.size → k ≠ W → sv.ownBlock ≠ some k → (w'.setCell ⟨W, 3, none⟩ (.slice (some ⟨g, 0, none⟩) (G.ms.length + 1) cap)).heap[k]? = w.heap[k]? := fun k hl h1 h2 => by
    rw [Below.heap_setCell w' ⟨W, 3, none⟩ _ k h1, hm.keep k (by omega) h2, hW.block k hl]
  have hsize : (w'.setCell ⟨W, 3, none⟩ (.slice (some ⟨g, 0, none⟩) (G.ms.length + 1) cap)).heap.size = w'.heap.size := by simp only [World.setCell, Array.size_modify]
  refine ⟨⟨h.low, ?_, hbk.set 3 _, ?_, ownsRow_setCell_below (hm.own hf1 h.apart.symm) (Nat.lt_succ_self W) _, h.len, ?_, ?_, h.nodup, (hm.apart hf1 h.apart.symm _ _).symm⟩, by rw [hsize]; omega, fun k hk hl => ⟨hst k hl hk.1 hk.2.1, hk.1, hng k hl hk.2.1, hk.2.2⟩⟩
  · exact (hm.below (h.below.trans (hW.mono h.below.size)) (Nat.le_trans h.below.size hsz) (fun k hk => by have := (hs1.lt k hk).1; have := h.low; omega)).setCell (p := ⟨W, 3, none⟩) h.low _
  · have := ownsRow_setCell_below hown (a := ⟨W, 3, none⟩) (Nat.lt_succ_self W) (.slice (some ⟨g, 0, none⟩) (G.ms.length + 1) cap)
    rw [List.length_append, List.length_singleton, setsC_snoc]
    exact this
  · intro i b β hi hβ
    obtain ⟨o1, o2, o3, o4⟩ := h.own b (List.mem_iff_getElem?.2 ⟨i, hi⟩)
    exact (h.bags i b β hi hβ).heap (hst b o2 (by omega) o3)
  · intro b hb
    obtain ⟨o1, o2, o3, o4⟩ := h.own b hb
    exact ⟨o1, by rw [hsize]; omega, hng b o2 o3, o4⟩
/-- A bag is appended. -/
theorem WtAt.foled (h : WtAt w0 w W n fb sv fv G) {W1 w' : World} {g cap b : Nat} (hW : Below w.heap.size w W1) (hb : w.heap.size ≤ b) (hbag : BagAt W1 n b zeroB)
    (hown : w'.ownsRow (W + 1) 135 1 (.slice (some ⟨g, 0, none⟩) (G.fol.length + 1) cap) (G.fol.length + 1) (fb.map mapV ++ [mapV b])) (hm : Moved W1 w' fv g) :
    WtAt w0 (w'.setCell ⟨W, 4, none⟩ (.slice (some ⟨g, 0, none⟩) (G.fol.length + 1) cap)) W n (fb ++ [b]) sv (.slice (some ⟨g, 0, none⟩) (G.fol.length + 1) cap) ⟨G.ms, G.fol ++ [zeroB]⟩ ∧
    Keep w (SW W sv fv fb) (w'.setCell ⟨W, 4, none⟩ (.slice (some ⟨g, 0, none⟩) (G.fol.length + 1) cap)) (SW W sv (.slice (some ⟨g, 0, none⟩) (G.fol.length + 1) cap) (fb ++ [b])) := by
  have hsz := hW.size
  have hsz2 := hm.size
  have hs1 := own_below h.sets hW
  have hf1 := own_below h.fol hW
  have hWl := h.blk.lt
  have hbl := hbag.lt
  have hbk := hm.blk (h.blk.below hW hWl) hf1 (Nat.lt_succ_self W)
  have hng : ∀ k, k < W1.heap.size → fv.ownBlock ≠ some k → (Value.slice (some ⟨g, 0, none⟩) (G.fol.length + 1) cap).ownBlock ≠ some k := fun k hl hk e => by
    have hgk : g = k := by injection e
    subst hgk
    rcases hm.lies with h1 | h1
    · exact hk h1
    · omega
  have hst1 : ∀ k, k < W1.heap.size → k ≠ W → fv.ownBlock ≠ some k → (w'.setCell ⟨W, 4, none⟩ (.slice (some ⟨g, 0, none⟩) (G.fol.length + 1) cap)).heap[k]? = W1.heap[k]? := fun k hl h1 h2 => by
    rw [Below.heap_setCell w' ⟨W, 4, none⟩ _ k h1, hm.keep k (by omega) h2]
  have hst : ∀ k, k < w.heap.size → k ≠ W → fv.ownBlock ≠ some k → (w'.setCell ⟨W, 4, none⟩ (.slice (some ⟨g, 0, none⟩) (G.fol.length + 1) cap)).heap[k]? = w.heap[k]? := fun k hl h1 h2 => by
    rw [hst1 k (by omega) h1 h2, hW.block k hl]
  have hsize : (w'.setCell ⟨W, 4, none⟩ (.slice (some ⟨g, 0, none⟩) (G.fol.length + 1) cap)).heap.size = w'.heap.size := by simp only [World.setCell, Array.size_modify]
  have hbf : b ∉ fb := fun e => by have := (h.own b e).2.1; omega
  have hfb : fv.ownBlock ≠ some b := fun e => by have := (h.fol.lt b e).2; omega
  refine ⟨⟨h.low, ?_, hbk.set 4 _, ownsRow_setCell_below (hm.own hs1 h.apart) (Nat.lt_succ_self W) _, ?_, ?_, ?_, ?_, ?_, hm.apart hs1 h.apart _ _⟩, by rw [hsize]; omega, fun k hk hl => ⟨hst k hl hk.1 hk.2.2.1, hk.1, hk.2.1, hng k (by omega) hk.2.2.1, ?_⟩⟩
  · exact (hm.below (h.below.trans (hW.mono h.below.size)) (Nat.le_trans h.below.size hsz) (fun k hk => by have := (hf1.lt k hk).1; have := h.low; omega)).setCell (p := ⟨W, 4, none⟩) h.low _
  · have := ownsRow_setCell_below hown (a := ⟨W, 4, none⟩) (Nat.lt_succ_self W) (.slice (some ⟨g, 0, none⟩) (G.fol.length + 1) cap)
    rw [List.length_append, List.length_singleton, List.map_append]
    exact this
  · rw [List.length_append, List.length_append, h.len]
    rfl
  · intro i c β hi hβ
    by_cases e : i < fb.length
    · rw [List.getElem?_append_left e] at hi
      rw [List.getElem?_append_left (by rw [← h.len]; exact e)] at hβ
      obtain ⟨o1, o2, o3, o4⟩ := h.own c (List.mem_iff_getElem?.2 ⟨i, hi⟩)
      exact (h.bags i c β hi hβ).heap (hst c o2 (by omega) o4)
    · have hl := h.len
      rw [List.getElem?_append_right (by omega)] at hi hβ
      have e0 : i - fb.length = 0 := by
        have := (List.getElem?_eq_some_iff.1 hi).1
        simp only [List.length_singleton] at this
        omega
      rw [e0] at hi
      rw [show i - G.fol.length = 0 by omega] at hβ
      have h1 : b = c := by injection hi
      have h2 : zeroB = β := by injection hβ
      subst h1
      subst h2
      exact hbag.heap (hst1 b hbl (by omega) hfb)
  · intro c hc
    rcases List.mem_append.1 hc with hc | hc
    · obtain ⟨o1, o2, o3, o4⟩ := h.own c hc
      exact ⟨o1, by rw [hsize]; omega, o3, hng c (by omega) o4⟩
    · rw [List.mem_singleton.1 hc]
      exact ⟨by omega, by rw [hsize]; omega, fun e => by have := (h.sets.lt b e).2; omega, hng b hbl hfb⟩
  · rw [List.nodup_append]
    exact ⟨h.nodup, by simp, fun x hx y hy => by rw [List.mem_singleton.1 hy]; rintro rfl; exact hbf hx⟩
  · intro e
    rcases List.mem_append.1 e with e | e
    · exact hk.2.2.2 e
    · have := List.mem_singleton.1 e
      omega
end
theorem linkL_of {fol γs : List Bag} {α μ : Bag} (hl : γs.length = fol.length) (h : ∀ (i : Nat) (f γ : Bag), fol[i]? = some f → γs[i]? = some γ → ∀ p, γ p = addB f μ (α i) p) : γs = linkL fol α μ := by
  apply List.ext_getElem?
  intro i
  by_cases hi : i < fol.length
  · have hi2 : i < γs.length := by omega
    have e1 := List.getElem?_eq_getElem hi
    have e2 := List.getElem?_eq_getElem hi2
    rw [link_get fol α μ i _ e1, e2]
    exact congrArg some (funext (h i _ _ e1 e2))
  · rw [List.getElem?_eq_none (by omega), List.getElem?_eq_none (by rw [linkL_length]; omega)]
set_option maxHeartbeats 4000000 in
theorem link_at {w0 w : World} {W n A B : Nat} {fb : List Nat} {sv fv : Value} {G : Wg} {α μ : Bag} (h : WtAt w0 w W n fb sv fv G) (hα : BagAt w n A α) (hμ : BagAt w n B μ) (hA : SW W sv fv fb A) (hB : SW W sv fv fb B) (hin : ∀ p, α p ≠ 0 → p < G.fol.length) (hn : n ≤ 1000) (hln : G.fol.length ≤ n) :
    Calls Tryz.prog 142 #[.pointer (some ⟨W, 0, none⟩), .map (some A), .map (some B)] w fun v w' => (∃ u, v = .returned u) ∧ WtAt w0 w' W n fb sv fv (G.link α μ) ∧ Keep w (SW W sv fv fb) w' (SW W sv fv fb) := by
  have HH := Lib.hid h
  have HM := Lib.hid hμ
  have HOK := Lib.hid hα.ok
  have HIN := Lib.hid hin
  have HA := Lib.hid hA
  have HB := Lib.hid hB
  obtain ⟨D, hmα, hD⟩ := hα
  have HD := Lib.hid hD
  have HZ := Lib.hid h.blk.lt
  clear h hμ hA hB hin hD
  go_enter Tryz.func142, Tryz.ntmps142
  go_wp2_with (first
    | (at_range; refine wpList_range_own _ rfl _ 135 rfl 3 3 kint Tryz.underlying135 _ A n _ rfl hmα ?_; intro w1 hrg0 hg0 hs0)
    | go_in)
  go_frame
  go_loopw [6, 7] (fun _ _ wr => ∃ (left : Lit → Bool) (cnt : Nat) (γs : List Bag), wr.ranges Tryz.prog 3 (plainElem Tryz.prog 3) A w.heap.size n D left cnt ∧ γs.length = G.fol.length ∧ WtAt w0 wr W n fb sv fv ⟨G.ms, γs⟩ ∧ Hid (∀ (i : Nat) (f γ : Bag), G.fol[i]? = some f → γs[i]? = some γ → ∀ p, γ p = if left (keyI i) = true then f p else addB f μ (α i) p) ∧ Keep w (SW W sv fv fb) wr (SW W sv fv fb))
    (fun _ _ wr => wr.rangeLeft A w.heap.size)
  case atStart =>
    refine ⟨_, _, G.fol, hrg0, rfl, ?_, Lib.hid (fun i f γ h1 h2 p => ?_), ⟨hg0.size, fun k hk hl => ⟨hg0.block k hl (by simp), hk⟩⟩⟩
    · exact HH.out.under ⟨hg0.os, hg0.tape, hg0.output, hg0.size, fun k hk => hg0.block k hk (by simp)⟩
    · have e : f = γ := by rw [h1] at h2; injection h2
      subst e
      cases hh : Maps.has D (keyI i) with
      | true => rw [if_pos rfl]
      | false =>
        rw [if_neg (by simp)]
        have hz : α i = 0 := by
          by_cases h : α i = 0
          · exact h
          · rw [HD.out.has i h] at hh
            cases hh
        rw [hz, addB_zero]
  case round =>
    obtain ⟨left, cnt, γs, hrg, hγl, hW, HG, hK⟩ := hrel
    have HW := Lib.hid hW
    have HK := Lib.hid hK
    have hle := hK.1
    clear hW hK
    go_wp2_with (first
      | (at_next; refine wpList_next_ranges_ii _ rfl _ rfl 3 3 .i64 .i64 kint Tryz.underlying3 Tryz.underlying3 A w.heap.size n _ _ _ rfl hrg ?_ ?_)
      | go_in)
    · intro hc0 hl0
      have HE := Lib.hid (linkL_of (γs := γs) (fol := G.fol) (α := α) (μ := μ) hγl (fun i f γ h1 h2 p => by rw [HG.out i f γ h1 h2 p, if_neg (by rw [hl0]; simp)]))
      clear hl0
      go_wp2
      go_returns
      refine ⟨⟨_, rfl⟩, ?_, HK.out⟩
      have := HW.out
      rw [HE.out] at this
      exact this
    · intro x c w2 cnt1 hwx hwc hlx hat hrg1 hlt hg1 hs1 hen
      obtain ⟨p, hp, hp0⟩ := HD.out.key _ (ranges_has hrg hlx)
      obtain rfl : x = ((p : Nat) : Int) := by
        injection hp
      have hc : c = α p := by
        have h := (hat (valI 0)).symm.trans (HD.out.val p)
        injection h with h
        injection h
      subst hc
      have hpf : p < γs.length := by rw [hγl]; exact HIN.out p hp0
      have hr := HH.out.new (Nat.le_refl _)
      have hW2 := HW.out.kept hg1 hr HH.out.below.size
      obtain ⟨b, g, cf, γ, hfb, hγ, hbag, hfv, hcell, hgl, hgW⟩ := hW2.nth (p := p) hpf
      have hbw := (HH.out.own b (List.mem_iff_getElem?.2 ⟨p, hfb⟩)).2.1
      have hbA : b ≠ A := by rintro rfl; exact HA.out.2.2.2 (List.mem_iff_getElem?.2 ⟨p, hfb⟩)
      have hbB : b ≠ B := by rintro rfl; exact HB.out.2.2.2 (List.mem_iff_getElem?.2 ⟨p, hfb⟩)
      have hμ2 : BagAt w2 n B μ := HM.out.heap ((hg1.block B (Nat.lt_of_lt_of_le HM.out.lt hle) (by simp; have := HM.out.lt; omega)).trans (HK.out.2 B HB.out HM.out.lt).1)
      have HCALL := Lib.hid (badd_at hbag hμ2 hbB hn (α p) ⟨(HOK.out p).1, (HOK.out p).2.1⟩)
      have c4 : w2.cell? ⟨W, 4, none⟩ = some fv := hW2.blk.cell 4
      have hWl := hW2.blk.lt
      have HFB := Lib.hid hfb
      have HGM := Lib.hid hγ
      have HBG := Lib.hid hbag
      have HW2 := Lib.hid hW2
      have HEN := Lib.hid hlt
      have HLX := Lib.hid hlx
      have HRG := Lib.hid hrg1
      have HG1 := Lib.hid hg1
      have HLE := Lib.hid hrg.left_eq
      subst hfv
      clear hW2 hfb hγ hbag hμ2 hlt hlx hrg1 hg1 hrg hmα hat hp hwx hwc
      go_wp2_with fail
      refine HCALL.out.mono ?_
      rintro v w3 ⟨⟨u, rfl⟩, hB3, hg3⟩
      obtain ⟨hW3, hK3⟩ := HW2.out.bag HFB.out hg3 hB3
      have hrg3 := HRG.out.kept hg3 (by simp; omega) (by simp; omega)
      have HW3 := Lib.hid hW3
      have HK3 := Lib.hid hK3
      clear hB3 hg3 hW3 hK3 hcell
      go_wp2
      go_roundw
      case rel =>
        refine ⟨_, cnt1, _, hrg3, (List.length_set ..).trans hγl, HW3.out, Lib.hid (fun i f γ' h1 h2 q => ?_), Keep.trans ⟨Nat.le_trans hle HG1.out.size, fun k hk hl => ⟨(HG1.out.block k (Nat.lt_of_lt_of_le hl hle) (by simp; omega)).trans (HK.out.2 k hk hl).1, hk⟩⟩ HK3.out⟩
        by_cases e : i = p
        · subst e
          simp only [List.getElem?_set_self hpf, Option.some.injEq] at h2
          rw [← h2, if_neg (by rw [key_self]; simp)]
          have := HG.out i f γ h1 HGM.out
          rw [show γ = f from funext fun q => by rw [this q, if_pos HLX.out]]
        · rw [List.getElem?_set_ne (fun e' => e e'.symm)] at h2
          rw [sameKey_ne (fun h => e (keyI_inj h))]
          simp only [Bool.not_false, Bool.and_true]
          exact HG.out i f γ' h1 h2 q
      case measure =>
        rw [hrg3.left_eq, HLE.out]
        exact HEN.out
end Go.Proofs.YtpiimcbbgalhfaaGreatDoor
