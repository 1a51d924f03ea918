/- caltroplaw04.together: are two bytes alike in all sets? -/
import Derived.Test.YtanimknpnniabaaDoorNew
import Derived.Test.YtanimknpnniabaaDoorRef01
namespace Go.Proofs.YtanimknpnniabaaDoor
open Go.RowKit
/-- A set lies at address p. -/
def SetAt (w : World) (p : Addr) (m : Nat → Bool) : Prop := p.block < w.heap.size ∧ w.cell? p = some (.int .u64 (word m 0)) ∧ w.cell? ⟨p.block, p.off + 1, none⟩ = some (.int .u64 (word m 1)) ∧ w.cell? ⟨p.block, p.off + 2, none⟩ = some (.int .u64 (word m 2)) ∧ w.cell? ⟨p.block, p.off + 3, none⟩ = some (.int .u64 (word m 3))
theorem SetAt.at_ {w w' : World} {p : Addr} {m : Nat → Bool} (h : SetAt w p m) (hb : Below w.heap.size w w') : SetAt w' p m :=
  ⟨Nat.lt_of_lt_of_le h.1 hb.size, (hb.cell h.1).trans h.2.1, (hb.cell (p := ⟨p.block, p.off + 1, none⟩) h.1).trans h.2.2.1, (hb.cell (p := ⟨p.block, p.off + 2, none⟩) h.1).trans h.2.2.2.1, (hb.cell (p := ⟨p.block, p.off + 3, none⟩) h.1).trans h.2.2.2.2⟩
section
variable {Q : Exit → Act → World → Prop} {a : Act} {w : World} {N : Nat → Prop}
theorem wp_index_setsA {o : Oper} {x y : Operand} {ad : Addr} {n c k : Nat} (ho : o.op = .indexAddr 22 x y) (hx : a.eval x = .slice (some ad) n c) (hy : a.eval y = .int .i64 k) (h1 : k < n) :
    o.wp Tryd.prog a w (fun a' w' => ∃ u, a' = a.put o.dst u ∧ Below w.heap.size w w' ∧ ∀ N' : Nat → Prop, (∀ k, k < w.heap.size → N k → N' k) → (∀ k, w.heap.size ≤ k → N' k) → (RG.eq (.pointer (some (ad.add (k * 4))))).g u w' N') Q := by
  refine wp_quiet ?_
  simp only [execOp, ho, hx, hy]
  simp [go_sem, h1]
theorem wp_load_setA {o : Oper} {x : Operand} {p : Addr} {m : Nat → Bool} (ho : o.op = .load 35 x) (hx : a.eval x = .pointer (some p)) (hc : SetAt w p m) :
    o.wp Tryd.prog a w (fun a' w' => ∃ u, a' = a.put o.dst u ∧ Below w.heap.size w w' ∧ ∀ N' : Nat → Prop, (∀ k, k < w.heap.size → N k → N' k) → (∀ k, w.heap.size ≤ k → N' k) → (RG.eq (setV m)).g u w' N') Q := by
  obtain ⟨_, c0, c1, c2, c3⟩ := hc
  refine wp_quiet ?_
  simp only [execOp, ho, hx]
  simp [go_sem, c0, c1, c2, c3]
theorem wp_neqb {o : Oper} {x y : Operand} {p q : Bool} {t : TypeId} (ho : o.op = .binOp .neq 4 x y t) (hx : a.eval x = .bool p) (hy : a.eval y = .bool q) :
    o.wp Tryd.prog a w (fun a' w' => ∃ u, a' = a.put o.dst u ∧ Below w.heap.size w w' ∧ ∀ N' : Nat → Prop, (∀ k, k < w.heap.size → N k → N' k) → (∀ k, w.heap.size ≤ k → N' k) → (RG.eq (.bool (p != q))).g u w' N') Q := by
  refine wp_quiet ?_
  simp only [execOp, ho, hx, hy]
  simp [go_sem, bne]
end
theorem keyL_take (l : List (Nat → Bool)) (x y k : Nat) (hk : k < l.length) : keyL (l.take (k + 1)) x = keyL (l.take (k + 1)) y ↔ keyL (l.take k) x = keyL (l.take k) y ∧ l[k] x = l[k] y := by
  rw [List.take_succ_eq_append_getElem hk, ← keyL_snoc, Prod.mk.injEq]
theorem keyL_full (l : List (Nat → Bool)) (x y k : Nat) (hk : k < l.length) (hne : l[k] x ≠ l[k] y) : keyL l x ≠ keyL l y := by
  intro h
  apply hne
  have := congrArg (fun t : List Bool => t[k]?) h
  simp only [keyL, List.getElem?_map, List.getElem?_eq_getElem hk, Option.map_some, Option.some.injEq] at this
  exact this
noncomputable def tog_ops : Array Oper := regOf Tryd.f11 3
def tog_S (ad : Addr) (n c k x y : Nat) (m : Nat → Bool) (hk : k < n) (_hx : x < 256) (_hy : y < 256) : List RK := [RK.eq (.slice (some ad) n c), RK.eq (.int .i64 ((k : Nat) : Int)), RK.eq (.pointer (some (ad.add (k * 4)))), RK.eq (setV m), RK.eq (.int .i64 ((x : Nat) : Int)), RK.eq (.bool (m (((x : Nat) : Int)).toNat)), RK.eq (.slice (some ad) n c), RK.eq (.int .i64 ((k : Nat) : Int)), RK.eq (.pointer (some (ad.add (k * 4)))), RK.eq (setV m), RK.eq (.int .i64 ((y : Nat) : Int)), RK.eq (.bool (m (((y : Nat) : Int)).toNat)), RK.eq (.bool ((m (((x : Nat) : Int)).toNat) != (m (((y : Nat) : Int)).toNat)))]
theorem tog_o0 (ad : Addr) (n c k x y : Nat) (m : Nat → Bool) (hk : k < n) (_hx : x < 256) (_hy : y < 256) (Q : Exit → Act → World → Prop) (a0 : Act) (w0 : World) (hs0 : a0.tmps.getD 0 undef = .slice (some ad) n c) : Obl Tryd.prog tog_ops (tog_S ad n c k x y m hk _hx _hy) Q a0 w0 0 :=
  obl_val (.move (.tmp 0)) none rfl (by kernel_rfl) fun a w N H D => ⟨(fun _ _ hg => by cases hg), fun _ ho => wp_move (.inl ho) (held_base H 0 (by kernel_rfl) hs0)⟩
theorem tog_o1 (ad : Addr) (n c k x y : Nat) (m : Nat → Bool) (hk : k < n) (_hx : x < 256) (_hy : y < 256) (Q : Exit → Act → World → Prop) (a0 : Act) (w0 : World) (hs7 : a0.tmps.getD 7 undef = .int .i64 ((k : Nat) : Int)) : Obl Tryd.prog tog_ops (tog_S ad n c k x y m hk _hx _hy) Q a0 w0 1 :=
  obl_val (.move (.tmp 7)) none rfl (by kernel_rfl) fun a w N H D => ⟨(fun _ _ hg => by cases hg), fun _ ho => wp_move (.inl ho) (held_base H 7 (by kernel_rfl) hs7)⟩
theorem tog_o2 (ad : Addr) (n c k x y : Nat) (m : Nat → Bool) (hk : k < n) (_hx : x < 256) (_hy : y < 256) (Q : Exit → Act → World → Prop) (a0 : Act) (w0 : World)  : Obl Tryd.prog tog_ops (tog_S ad n c k x y m hk _hx _hy) Q a0 w0 2 :=
  obl_val (.indexAddr 22 (.tmp 14) (.tmp 15)) none rfl (by kernel_rfl) fun a w N H D => ⟨(fun _ _ hg => by cases hg), fun _ ho => wp_index_setsA ho (fact_eq (c := .slice (some ad) n c) (D 0 (by kernel_rfl)) rfl (by kernel_rfl)) (fact_eq (c := .int .i64 ((k : Nat) : Int)) (D 1 (by kernel_rfl)) rfl (by kernel_rfl)) hk⟩
theorem tog_o3 (ad : Addr) (n c k x y : Nat) (m : Nat → Bool) (hk : k < n) (_hx : x < 256) (_hy : y < 256) (Q : Exit → Act → World → Prop) (a0 : Act) (w0 : World) (hC : SetAt w0 (ad.add (k * 4)) m) : Obl Tryd.prog tog_ops (tog_S ad n c k x y m hk _hx _hy) Q a0 w0 3 :=
  obl_val (.load 35 (.tmp 16)) none rfl (by kernel_rfl) fun a w N H D => ⟨(fun _ _ hg => by cases hg), fun _ ho => wp_load_setA ho (fact_eq (c := .pointer (some (ad.add (k * 4)))) (D 2 (by kernel_rfl)) rfl (by kernel_rfl)) (hC.at_ H.below)⟩
theorem tog_o4 (ad : Addr) (n c k x y : Nat) (m : Nat → Bool) (hk : k < n) (_hx : x < 256) (_hy : y < 256) (Q : Exit → Act → World → Prop) (a0 : Act) (w0 : World) (hs1 : a0.tmps.getD 1 undef = .int .i64 ((x : Nat) : Int)) : Obl Tryd.prog tog_ops (tog_S ad n c k x y m hk _hx _hy) Q a0 w0 4 :=
  obl_val (.move (.tmp 1)) none rfl (by kernel_rfl) fun a w N H D => ⟨(fun _ _ hg => by cases hg), fun _ ho => wp_move (.inl ho) (held_base H 1 (by kernel_rfl) hs1)⟩
theorem tog_o5 (ad : Addr) (n c k x y : Nat) (m : Nat → Bool) (hk : k < n) (_hx : x < 256) (_hy : y < 256) (Q : Exit → Act → World → Prop) (a0 : Act) (w0 : World)  : Obl Tryd.prog tog_ops (tog_S ad n c k x y m hk _hx _hy) Q a0 w0 5 :=
  obl_val (.call { callee := .value (.func 33), args := #[.tmp 17, .tmp 18], argTypes := #[35, 3] }) none rfl (by kernel_rfl) fun a w N H D => ⟨(fun _ _ hg => by cases hg), fun _ ho => wp_call_eq ho (fun xs w => by kernel_rfl) (by simp only [List.map_toArray, List.map_cons, List.map_nil]; rw [(fact_eq (c := setV m) (D 3 (by kernel_rfl)) rfl (by kernel_rfl)), (fact_eq (c := .int .i64 ((x : Nat) : Int)) (D 4 (by kernel_rfl)) rfl (by kernel_rfl))]) (refhas_any m (((x : Nat) : Int)) (by omega) (by omega) _)⟩
theorem tog_o6 (ad : Addr) (n c k x y : Nat) (m : Nat → Bool) (hk : k < n) (_hx : x < 256) (_hy : y < 256) (Q : Exit → Act → World → Prop) (a0 : Act) (w0 : World) (hs0 : a0.tmps.getD 0 undef = .slice (some ad) n c) : Obl Tryd.prog tog_ops (tog_S ad n c k x y m hk _hx _hy) Q a0 w0 6 :=
  obl_val (.move (.tmp 0)) none rfl (by kernel_rfl) fun a w N H D => ⟨(fun _ _ hg => by cases hg), fun _ ho => wp_move (.inl ho) (held_base H 0 (by kernel_rfl) hs0)⟩
theorem tog_o7 (ad : Addr) (n c k x y : Nat) (m : Nat → Bool) (hk : k < n) (_hx : x < 256) (_hy : y < 256) (Q : Exit → Act → World → Prop) (a0 : Act) (w0 : World) (hs7 : a0.tmps.getD 7 undef = .int .i64 ((k : Nat) : Int)) : Obl Tryd.prog tog_ops (tog_S ad n c k x y m hk _hx _hy) Q a0 w0 7 :=
  obl_val (.move (.tmp 7)) none rfl (by kernel_rfl) fun a w N H D => ⟨(fun _ _ hg => by cases hg), fun _ ho => wp_move (.inl ho) (held_base H 7 (by kernel_rfl) hs7)⟩
theorem tog_o8 (ad : Addr) (n c k x y : Nat) (m : Nat → Bool) (hk : k < n) (_hx : x < 256) (_hy : y < 256) (Q : Exit → Act → World → Prop) (a0 : Act) (w0 : World)  : Obl Tryd.prog tog_ops (tog_S ad n c k x y m hk _hx _hy) Q a0 w0 8 :=
  obl_val (.indexAddr 22 (.tmp 20) (.tmp 21)) none rfl (by kernel_rfl) fun a w N H D => ⟨(fun _ _ hg => by cases hg), fun _ ho => wp_index_setsA ho (fact_eq (c := .slice (some ad) n c) (D 6 (by kernel_rfl)) rfl (by kernel_rfl)) (fact_eq (c := .int .i64 ((k : Nat) : Int)) (D 7 (by kernel_rfl)) rfl (by kernel_rfl)) hk⟩
theorem tog_o9 (ad : Addr) (n c k x y : Nat) (m : Nat → Bool) (hk : k < n) (_hx : x < 256) (_hy : y < 256) (Q : Exit → Act → World → Prop) (a0 : Act) (w0 : World) (hC : SetAt w0 (ad.add (k * 4)) m) : Obl Tryd.prog tog_ops (tog_S ad n c k x y m hk _hx _hy) Q a0 w0 9 :=
  obl_val (.load 35 (.tmp 22)) none rfl (by kernel_rfl) fun a w N H D => ⟨(fun _ _ hg => by cases hg), fun _ ho => wp_load_setA ho (fact_eq (c := .pointer (some (ad.add (k * 4)))) (D 8 (by kernel_rfl)) rfl (by kernel_rfl)) (hC.at_ H.below)⟩
theorem tog_o10 (ad : Addr) (n c k x y : Nat) (m : Nat → Bool) (hk : k < n) (_hx : x < 256) (_hy : y < 256) (Q : Exit → Act → World → Prop) (a0 : Act) (w0 : World) (hs2 : a0.tmps.getD 2 undef = .int .i64 ((y : Nat) : Int)) : Obl Tryd.prog tog_ops (tog_S ad n c k x y m hk _hx _hy) Q a0 w0 10 :=
  obl_val (.move (.tmp 2)) none rfl (by kernel_rfl) fun a w N H D => ⟨(fun _ _ hg => by cases hg), fun _ ho => wp_move (.inl ho) (held_base H 2 (by kernel_rfl) hs2)⟩
theorem tog_o11 (ad : Addr) (n c k x y : Nat) (m : Nat → Bool) (hk : k < n) (_hx : x < 256) (_hy : y < 256) (Q : Exit → Act → World → Prop) (a0 : Act) (w0 : World)  : Obl Tryd.prog tog_ops (tog_S ad n c k x y m hk _hx _hy) Q a0 w0 11 :=
  obl_val (.call { callee := .value (.func 33), args := #[.tmp 23, .tmp 24], argTypes := #[35, 3] }) none rfl (by kernel_rfl) fun a w N H D => ⟨(fun _ _ hg => by cases hg), fun _ ho => wp_call_eq ho (fun xs w => by kernel_rfl) (by simp only [List.map_toArray, List.map_cons, List.map_nil]; rw [(fact_eq (c := setV m) (D 9 (by kernel_rfl)) rfl (by kernel_rfl)), (fact_eq (c := .int .i64 ((y : Nat) : Int)) (D 10 (by kernel_rfl)) rfl (by kernel_rfl))]) (refhas_any m (((y : Nat) : Int)) (by omega) (by omega) _)⟩
theorem tog_o12 (ad : Addr) (n c k x y : Nat) (m : Nat → Bool) (hk : k < n) (_hx : x < 256) (_hy : y < 256) (Q : Exit → Act → World → Prop) (a0 : Act) (w0 : World)  : Obl Tryd.prog tog_ops (tog_S ad n c k x y m hk _hx _hy) Q a0 w0 12 :=
  obl_val (.binOp .neq 4 (.tmp 19) (.tmp 25) 4) none rfl (by kernel_rfl) fun a w N H D => ⟨(fun _ _ hg => by cases hg), fun _ ho => wp_neqb ho (fact_eq (c := .bool (m (((x : Nat) : Int)).toNat)) (D 5 (by kernel_rfl)) rfl (by kernel_rfl)) (fact_eq (c := .bool (m (((y : Nat) : Int)).toNat)) (D 11 (by kernel_rfl)) rfl (by kernel_rfl))⟩
theorem tog_all (ad : Addr) (n c k x y : Nat) (m : Nat → Bool) (hk : k < n) (_hx : x < 256) (_hy : y < 256) (Q : Exit → Act → World → Prop) (a0 : Act) (w0 : World) (hs0 : a0.tmps.getD 0 undef = .slice (some ad) n c) (hs1 : a0.tmps.getD 1 undef = .int .i64 ((x : Nat) : Int)) (hs2 : a0.tmps.getD 2 undef = .int .i64 ((y : Nat) : Int)) (hs7 : a0.tmps.getD 7 undef = .int .i64 ((k : Nat) : Int)) (hC : SetAt w0 (ad.add (k * 4)) m) : ∀ i, i < tog_ops.size → Obl Tryd.prog tog_ops (tog_S ad n c k x y m hk _hx _hy) Q a0 w0 i := by
  intro i hi_
  have hs : tog_ops.size = 13 := by kernel_rfl
  rw [hs] at hi_
  clear hs
  match i, hi_ with
  | 0, _ => exact tog_o0 ad n c k x y m hk _hx _hy  Q a0 w0 hs0
  | 1, _ => exact tog_o1 ad n c k x y m hk _hx _hy  Q a0 w0 hs7
  | 2, _ => exact tog_o2 ad n c k x y m hk _hx _hy  Q a0 w0 
  | 3, _ => exact tog_o3 ad n c k x y m hk _hx _hy  Q a0 w0 hC
  | 4, _ => exact tog_o4 ad n c k x y m hk _hx _hy  Q a0 w0 hs1
  | 5, _ => exact tog_o5 ad n c k x y m hk _hx _hy  Q a0 w0 
  | 6, _ => exact tog_o6 ad n c k x y m hk _hx _hy  Q a0 w0 hs0
  | 7, _ => exact tog_o7 ad n c k x y m hk _hx _hy  Q a0 w0 hs7
  | 8, _ => exact tog_o8 ad n c k x y m hk _hx _hy  Q a0 w0 
  | 9, _ => exact tog_o9 ad n c k x y m hk _hx _hy  Q a0 w0 hC
  | 10, _ => exact tog_o10 ad n c k x y m hk _hx _hy  Q a0 w0 hs2
  | 11, _ => exact tog_o11 ad n c k x y m hk _hx _hy  Q a0 w0 
  | 12, _ => exact tog_o12 ad n c k x y m hk _hx _hy  Q a0 w0 
  | i + 13, h => exact absurd h (by omega)
set_option maxRecDepth 100000 in
set_option maxHeartbeats 1000000 in
theorem together_any (l : List (Nat → Bool)) (v : Value) (x y : Nat) (hx : x < 256) (hy : y < 256) (w : World) (hv : RdS w v l) :
    Calls Tryd.prog 11 #[v, .int .i64 ((x : Nat) : Int), .int .i64 ((y : Nat) : Int)] w fun e w' => e = .returned (.bool (decide (keyL l x = keyL l y))) ∧ Below w.heap.size w w' := by
  obtain ⟨A, c, rfl, h1, h2, h3⟩ := hv
  have H3 := Lib.hid h3
  clear h3
  go_enter Tryd.func11, Tryd.ntmps11
  go_wp2
  go_loopw [7] (fun i wr => ∃ k : Nat, k ≤ l.length ∧ i = .int .i64 ((k : Nat) : Int) ∧ keyL (l.take k) x = keyL (l.take k) y ∧ Below w.heap.size w wr) (fun i _ => l.length - (intOf i).toNat)
  case atStart => exact ⟨0, Nat.zero_le _, rfl, rfl, Below.refl _ _⟩
  case round =>
    obtain ⟨k, hk, rfl, hsame, hbw⟩ := hrel
    by_cases hlt : k < l.length
    · obtain ⟨ad, rfl, had, e0, e1, e2, e3⟩ := H3.out k l[k] (List.getElem?_eq_getElem hlt)
      have hS : SetAt wr (ad.add (k * 4)) l[k] := SetAt.at_ (w := w) ⟨by rw [add_block]; exact had, e0, e1, e2, e3⟩ hbw
      have HT := Lib.hid (keyL_take l x y k hlt)
      have HF := Lib.hid (keyL_full l x y k hlt)
      have HS := Lib.hid hsame
      clear e0 e1 e2 e3 hsame
      generalize l[k] = m at *
      go_wp2_with fail
      refine region_named (ops' := tog_ops) (by kernel_rfl) (tog_S ad l.length c k x y m hlt hx hy) 27 rfl (by kernel_rfl) (by kernel_rfl) (tog_all ad l.length c k x y m hlt hx hy _ _ _ rfl rfl rfl rfl (show SetAt wr.drew (ad.add (k * 4)) m from hS)) ?_
      rename_i hK
      intro a w1 N H hF
      have q0 : a.tmps.getD 0 undef = .slice (some ad) l.length c := held_base H 0 (by kernel_rfl) rfl
      have q1 : a.tmps.getD 1 undef = .int .i64 ((x : Nat) : Int) := held_base H 1 (by kernel_rfl) rfl
      have q2 : a.tmps.getD 2 undef = .int .i64 ((y : Nat) : Int) := held_base H 2 (by kernel_rfl) rfl
      have q3 : a.tmps.getD 3 undef = undef := held_base H 3 (by kernel_rfl) rfl
      have q4 : a.tmps.getD 4 undef = undef := held_base H 4 (by kernel_rfl) rfl
      have q5 : a.tmps.getD 5 undef = undef := held_base H 5 (by kernel_rfl) rfl
      have q7 : a.tmps.getD 7 undef = .int .i64 ((k : Nat) : Int) := held_base H 7 (by kernel_rfl) rfl
      have q26 : a.tmps.getD 26 undef = .bool (m x != m y) := fact_eq (hF 12 (by kernel_rfl)) rfl (by kernel_rfl)
      have hd : a.defers = [] := H.defers
      have Hsz : a.tmps.size = 27 := H.size
      have hbw1 : Below w.heap.size w w1 := hbw.drew.trans (H.below.mono (by have := hbw.size; simpa using this))
      clear hF H hS
      by_cases hxy : m x = m y
      · have hg : (m x != m y) = false := by simp [hxy]
        rw [hg] at q26
        clear hg
        refine hK _ _ ?_
        rw [act_eq a 27 Hsz, show List.range 27 = [0, 1, 2, 3, 4, 5, 6, 7, 8, 9, 10, 11, 12, 13, 14, 15, 16, 17, 18, 19, 20, 21, 22, 23, 24, 25, 26] from rfl]
        simp only [List.map_cons, List.map_nil, q0, q1, q2, q3, q4, q5, q7, q26, hd]
        generalize a.tmps.getD 6 undef = z6
        generalize a.tmps.getD 8 undef = z8
        generalize a.tmps.getD 9 undef = z9
        generalize a.tmps.getD 10 undef = z10
        generalize a.tmps.getD 11 undef = z11
        generalize a.tmps.getD 12 undef = z12
        generalize a.tmps.getD 13 undef = z13
        generalize a.tmps.getD 14 undef = z14
        generalize a.tmps.getD 15 undef = z15
        generalize a.tmps.getD 16 undef = z16
        generalize a.tmps.getD 17 undef = z17
        generalize a.tmps.getD 18 undef = z18
        generalize a.tmps.getD 19 undef = z19
        generalize a.tmps.getD 20 undef = z20
        generalize a.tmps.getD 21 undef = z21
        generalize a.tmps.getD 22 undef = z22
        generalize a.tmps.getD 23 undef = z23
        generalize a.tmps.getD 24 undef = z24
        generalize a.tmps.getD 25 undef = z25
        go_wp2
        go_roundw
        case rel => exact ⟨k + 1, by omega, by go_num, (HT.out).2 ⟨HS.out, hxy⟩, hbw1⟩
        case measure => simp [intOf]; omega
      · have hg : (m x != m y) = true := by simp [hxy]
        rw [hg] at q26
        clear hg
        refine hK _ _ ?_
        rw [act_eq a 27 Hsz, show List.range 27 = [0, 1, 2, 3, 4, 5, 6, 7, 8, 9, 10, 11, 12, 13, 14, 15, 16, 17, 18, 19, 20, 21, 22, 23, 24, 25, 26] from rfl]
        simp only [List.map_cons, List.map_nil, q0, q1, q2, q3, q4, q5, q7, q26, hd]
        generalize a.tmps.getD 6 undef = z6
        generalize a.tmps.getD 8 undef = z8
        generalize a.tmps.getD 9 undef = z9
        generalize a.tmps.getD 10 undef = z10
        generalize a.tmps.getD 11 undef = z11
        generalize a.tmps.getD 12 undef = z12
        generalize a.tmps.getD 13 undef = z13
        generalize a.tmps.getD 14 undef = z14
        generalize a.tmps.getD 15 undef = z15
        generalize a.tmps.getD 16 undef = z16
        generalize a.tmps.getD 17 undef = z17
        generalize a.tmps.getD 18 undef = z18
        generalize a.tmps.getD 19 undef = z19
        generalize a.tmps.getD 20 undef = z20
        generalize a.tmps.getD 21 undef = z21
        generalize a.tmps.getD 22 undef = z22
        generalize a.tmps.getD 23 undef = z23
        generalize a.tmps.getD 24 undef = z24
        generalize a.tmps.getD 25 undef = z25
        go_wp2
        go_returns
        exact ⟨congrArg (fun t => Ending.returned (.bool t)) (decide_eq_false (HF.out hxy)).symm, hbw1⟩
    · obtain rfl : k = l.length := by omega
      rw [List.take_length] at hsame
      have HS := Lib.hid hsame
      clear hsame
      go_wp2
      go_returns
      exact ⟨congrArg (fun t => Ending.returned (.bool t)) (decide_eq_true HS.out).symm, hbw⟩
end Go.Proofs.YtanimknpnniabaaDoor
