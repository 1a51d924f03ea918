/- core.Sets: what it answers; operations. -/
import Derived.Test.YtpiimcbbgalhfaaGreatDoorDg
import Derived.Test.YtpiimcbbgalhfaaGreatDoorDk
import Derived.Laws.AppendOwnNone
namespace Go.Proofs.YtpiimcbbgalhfaaGreatDoor
set_option maxRecDepth 100000
open Go.RowKit
def setsL8 : CT → List (Nat → Bool)
  | .empty => []
  | .set m => [m]
  | .cat x y => setsL8 x ++ setsL8 y
  | .alt x y => setsL8 x ++ setsL8 y
  | .star _ x => setsL8 x
theorem setsL8_length (c : CT) : (setsL8 c).length = setsN8 c := by
  induction c with
  | empty => rfl
  | set m => rfl
  | cat x y hx hy => simp [setsL8, setsN8, hx, hy]
  | alt x y hx hy => simp [setsL8, setsN8, hx, hy]
  | star z x hx => simp [setsL8, setsN8, hx]
/-- A call that answers the row of sets l. -/
def SetsIs (w w' : World) (l : List (Nat → Bool)) (v : Ending) : Prop := ∃ lv, v = .returned lv ∧ w'.ownsRow w.heap.size 24 4 lv l.length (setsC l) ∧ Below w.heap.size w w' ∧ (l.length = 0 → lv = .slice none 0 0)
theorem csets_nil (w : World) : Calls Tryz.prog 93 #[.pointer none] w fun v w' => SetsIs w w' [] v := by
  go_enter Tryz.func93, Tryz.ntmps93
  go_wp2
  go_returns
  exact ⟨_, rfl, World.ownsRow_nil _ _ _ _, Below.refl _ _, fun _ => rfl⟩
set_option maxHeartbeats 4000000 in
theorem csets_set {w : World} {S : Nat → Prop} {m : Nat → Bool} {g : Nat} (hc : CoreAt w S (.set m) g) : Calls Tryz.prog 93 #[cptr g] w fun v w' => SetsIs w w' [m] v := by
  have c0 : w.cell? ⟨g, 0, none⟩ = some (.int .i64 1) := hc.2.cell 0
  have c1 : w.cell? ⟨g, 1, none⟩ = some (.int .u64 (word m 0)) := hc.2.cell 1
  have c2 : w.cell? ⟨g, 2, none⟩ = some (.int .u64 (word m 1)) := hc.2.cell 2
  have c3 : w.cell? ⟨g, 3, none⟩ = some (.int .u64 (word m 2)) := hc.2.cell 3
  have c4 : w.cell? ⟨g, 4, none⟩ = some (.int .u64 (word m 3)) := hc.2.cell 4
  have hlt := hc.2.lt
  clear hc
  go_enter Tryz.func93, Tryz.ntmps93
  go_wp2
  go_returns
  refine ⟨_, rfl, ?_, (Below.refl _ w).alloc (Nat.le_refl _) _, fun e => absurd e (by simp)⟩
  exact World.ownsRow_lit w (setL m).toArray 1 (Nat.le_refl _) (by decide) rfl
theorem own_heap {w w' : World} {base size n : Nat} {e : TypeId} {v : Value} {xs : List Value} (h : w.ownsRow base e size v n xs) (hk : ∀ k, v.ownBlock = some k → w'.heap[k]? = w.heap[k]?) : w'.ownsRow base e size v n xs := by
  obtain ⟨h1, h2⟩ := h
  refine ⟨h1, ?_⟩
  rcases h2 with h2 | ⟨g, cap, cur, rfl, h3, h4, h5⟩
  · exact .inl h2
  · exact .inr ⟨g, cap, cur, rfl, h3, (hk g rfl).trans h4, h5⟩
/-- A row of sets, of one's own. -/
def RG.srow (B : Nat) (l : List (Nat → Bool)) : RG where
  g v w N := w.ownsRow B 24 4 v l.length (setsC l) ∧ (∀ k, v.ownBlock = some k → N k) ∧ (l.length = 0 → v = .slice none 0 0)
  mono := by
    rintro v w w' N N' ⟨h1, h2, h3⟩ hs hk
    exact ⟨own_heap h1 (fun k e => (hk k (h1.lt k e).2 (h2 k e)).2), fun k e => (hk k (h1.lt k e).2 (h2 k e)).1, h3⟩
section
variable {ops : Array Oper} {S : List RK} {Q : Exit → Act → World → Prop} {a0 : Act} {w0 : World} {a : Act} {w : World} {N : Nat → Prop}
theorem wp_cn3 {o : Oper} {x : Operand} {b : Nat} (ho : o.op = .fieldAddr 148 x 3) (hx : a.eval x = .pointer (some ⟨b, 0, none⟩)) :
    o.wp Tryz.prog a w (fun a' w' => ∃ u, a' = a.put o.dst u ∧ Below w.heap.size w w' ∧ ∀ N' : Nat → Prop, (∀ k, k < w.heap.size → N k → N' k) → (∀ k, w.heap.size ≤ k → N' k) → (RG.eq (.pointer (some ⟨b, 6, none⟩))).g u w' N') Q := by
  refine wp_quiet ?_
  simp only [execOp, ho, hx]
  simp [go_sem]
theorem wp_cn4 {o : Oper} {x : Operand} {b : Nat} (ho : o.op = .fieldAddr 148 x 4) (hx : a.eval x = .pointer (some ⟨b, 0, none⟩)) :
    o.wp Tryz.prog a w (fun a' w' => ∃ u, a' = a.put o.dst u ∧ Below w.heap.size w w' ∧ ∀ N' : Nat → Prop, (∀ k, k < w.heap.size → N k → N' k) → (∀ k, w.heap.size ≤ k → N' k) → (RG.eq (.pointer (some ⟨b, 7, none⟩))).g u w' N') Q := by
  refine wp_quiet ?_
  simp only [execOp, ho, hx]
  simp [go_sem]
theorem wp_cload {o : Oper} {x : Operand} {p : Addr} {b : Option Addr} (ho : o.op = .load 47 x) (hx : a.eval x = .pointer (some p)) (hc : w.cell? p = some (.pointer b)) :
    o.wp Tryz.prog a w (fun a' w' => ∃ u, a' = a.put o.dst u ∧ Below w.heap.size w w' ∧ ∀ N' : Nat → Prop, (∀ k, k < w.heap.size → N k → N' k) → (∀ k, w.heap.size ≤ k → N' k) → (RG.eq (.pointer b)).g u w' N') Q := by
  refine wp_quiet ?_
  simp only [execOp, ho, hx]
  simp [go_sem, hc]
theorem wp_cnil {o : Oper} {x : Operand} {p : Addr} (ho : o.op = .nilCheck x) (hx : a.eval x = .pointer (some p)) :
    o.wp Tryz.prog a w (fun a' w' => ∃ u, a' = a.put o.dst u ∧ Below w.heap.size w w' ∧ ∀ N' : Nat → Prop, (∀ k, k < w.heap.size → N k → N' k) → (∀ k, w.heap.size ≤ k → N' k) → (RG.eq (.pointer (some p))).g u w' N') Q := by
  refine wp_quiet ?_
  simp only [execOp, ho, hx]
  simp [go_sem]
theorem wp_csets {o : Oper} {x : Operand} {ts : Array TypeId} {p : Option Addr} {B : Nat} {l : List (Nat → Bool)} (ho : o.op = .call { callee := .value (.func 93), args := #[x], argTypes := ts }) (hx : a.eval x = .pointer p)
    (hc : Calls Tryz.prog 93 #[.pointer p] w fun v w' => SetsIs w w' l v) (hB : B ≤ w.heap.size) :
    o.wp Tryz.prog a w (fun a' w' => ∃ u, a' = a.put o.dst u ∧ Below w.heap.size w w' ∧ ∀ N' : Nat → Prop, (∀ k, k < w.heap.size → N k → N' k) → (∀ k, w.heap.size ≤ k → N' k) → (RG.srow B l).g u w' N') Q := by
  refine wp_callee ho (fun xs w => by kernel_rfl) ?_
  simp only [List.map_toArray, List.map_cons, List.map_nil, hx]
  refine hc.mono ?_
  rintro e w' ⟨lv, rfl, hown, hw, hz⟩
  exact ⟨_, rfl, _, rfl, hw, fun N' _ hN => ⟨own_base hown hB, fun k e => hN k (hown.lt k e).1, hz⟩⟩
end
/-- 'v = append(v, x...)', v and x rows of sets, as the last but one operation. -/
theorem wpOp_append_rows {ops : Array Oper} {Q : Exit → Act → World → Prop} {K : Nat} {a : Act} {w : World} {B d : Nat} {l m : List (Nat → Bool)} {u v : Value} (s x : Nat) {Kc : Act → World → Prop}
    (hop : (ops[K]?).map (fun o => (o.dst, o.op, o.guard)) = some (some d, .call { callee := .builtin .append, args := #[.tmp s, .tmp x], argTypes := #[132, 132] }, none))
    (hs : a.eval (.tmp s) = v) (hx : a.eval (.tmp x) = u) (hv : w.ownsRow B 24 4 v l.length (setsC l)) (hu : w.ownsRow B 24 4 u m.length (setsC m)) (hv0 : l.length = 0 → v = .slice none 0 0) (hu0 : m.length = 0 → u = .slice none 0 0) (hB : B ≤ w.heap.size) (hlen : l.length + m.length ≤ 1000000)
    (hK : ∀ v' w', w'.ownsRow B 24 4 v' (l ++ m).length (setsC (l ++ m)) → Below B w w' → ((l ++ m).length = 0 → v' = .slice none 0 0) → Kc (a.put (some d) v') w') : wpOp Tryz.prog ops Q K Kc a w := by
  cases ho : ops[K]? with
  | none => rw [ho] at hop; cases hop
  | some o =>
    rw [ho] at hop
    simp only [Option.map_some, Option.some.injEq, Prod.mk.injEq] at hop
    obtain ⟨hdst, hop2, hg⟩ := hop
    unfold wpOp
    simp only [ho]
    rw [if_pos (by unfold Region.wanted; rw [hg])]
    left
    obtain ⟨i, z, ht, hi, hz, hsize, hby, hzs, hsz⟩ := elem_sets
    rw [List.length_append, setsC_append] at hK
    by_cases h0 : m.length = 0
    · have hm : m = [] := List.eq_nil_of_length_eq_zero h0
      subst hm
      have hun := hu0 rfl
      subst hun
      have hrun := run_append_owned_none (P := Tryz.prog) (w := w) B 132 o.type 24 i 4 ht hi v l.length (setsC l) hv
      unfold Oper.wp
      simp [execOp, hop2, resolve, invoke, builtin, hs, hx, hrun, Result.andThen]
      show Kc (a.put o.dst v) w
      rw [hdst]
      exact hK v w (by simpa [setsC] using hv) (Below.refl _ _) (fun e => hv0 (by simpa using e))
    · obtain ⟨g, cap, rfl⟩ : ∃ g cap, u = .slice (some ⟨g, 0, none⟩) m.length cap := by
        rcases own_form hu with ⟨_, e⟩ | h
        · exact absurd e h0
        · exact h
      refine wp_append_lies w (.tmp s) (.tmp x) 132 hop2 B 24 i z 4 32 ht hi hz hsize hby hzs hsz v l.length (setsC l) hs hv ⟨g, 0, none⟩ m.length cap (setsC m) hx (setsC_length m) (fun j u hj => hu.cells rfl j u hj) (one_sets m) (by omega) (by unfold maxLen; omega) (by omega) hB _ rfl ?_
      intro g' cap' w' hown' hgr _ _
      rw [hdst]
      exact hK _ w' hown' ((Below.refl B w).grown hgr hB (fun k hk => (hv.lt k hk).1)) (fun e => by omega)
end Go.Proofs.YtpiimcbbgalhfaaGreatDoor
/- core.Sets: its region. -/
namespace Go.Proofs.YtpiimcbbgalhfaaGreatDoor
open Go.RowKit
noncomputable def cst_ops : Array Oper := regOf Tryz.f93 5
def cst_S (B g : Nat) (oa ob : Option Addr) (la lb : List (Nat → Bool)) : List RK := [RK.eq (.pointer (some ⟨g, 0, none⟩)), RK.eq (.pointer (some ⟨g, 0, none⟩)), RK.eq (.pointer (some ⟨g, 6, none⟩)), RK.eq (.pointer oa), RK.val (RG.srow B la), RK.eq (.pointer (some ⟨g, 0, none⟩)), RK.eq (.pointer (some ⟨g, 0, none⟩)), RK.eq (.pointer (some ⟨g, 7, none⟩)), RK.eq (.pointer ob), RK.val (RG.srow B lb)]
theorem cst_o0 (B g : Nat) (oa ob : Option Addr) (la lb : List (Nat → Bool)) (Q : Exit → Act → World → Prop) (a0 : Act) (w0 : World) (hs0 : a0.tmps.getD 0 undef = .pointer (some ⟨g, 0, none⟩)) : Obl Tryz.prog cst_ops (cst_S B g oa ob la lb) Q a0 w0 0 :=
  obl_val (.move (.tmp 0)) none rfl (by kernel_rfl) fun a w N H D => ⟨(fun _ _ hg => by cases hg), fun _ ho => wp_move (.inl ho) (held_base H 0 (by kernel_rfl) hs0)⟩
theorem cst_o1 (B g : Nat) (oa ob : Option Addr) (la lb : List (Nat → Bool)) (Q : Exit → Act → World → Prop) (a0 : Act) (w0 : World)  : Obl Tryz.prog cst_ops (cst_S B g oa ob la lb) Q a0 w0 1 :=
  obl_val (.nilCheck (.tmp 15)) none rfl (by kernel_rfl) fun a w N H D => ⟨(fun _ _ hg => by cases hg), fun _ ho => wp_cnil ho (fact_eq (c := .pointer (some ⟨g, 0, none⟩)) (D 0 (by kernel_rfl)) rfl (by kernel_rfl))⟩
theorem cst_o2 (B g : Nat) (oa ob : Option Addr) (la lb : List (Nat → Bool)) (Q : Exit → Act → World → Prop) (a0 : Act) (w0 : World)  : Obl Tryz.prog cst_ops (cst_S B g oa ob la lb) Q a0 w0 2 :=
  obl_val (.fieldAddr 148 (.tmp 16) 3) none rfl (by kernel_rfl) fun a w N H D => ⟨(fun _ _ hg => by cases hg), fun _ ho => wp_cn3 ho (fact_eq (c := .pointer (some ⟨g, 0, none⟩)) (D 1 (by kernel_rfl)) rfl (by kernel_rfl))⟩
theorem cst_o3 (B g : Nat) (oa ob : Option Addr) (la lb : List (Nat → Bool)) (Q : Exit → Act → World → Prop) (a0 : Act) (w0 : World) (hg6 : w0.cell? ⟨g, 6, none⟩ = some (.pointer oa) ∧ g < w0.heap.size) : Obl Tryz.prog cst_ops (cst_S B g oa ob la lb) Q a0 w0 3 :=
  obl_val (.load 47 (.tmp 17)) none rfl (by kernel_rfl) fun a w N H D => ⟨(fun _ _ hg => by cases hg), fun _ ho => wp_cload ho (fact_eq (c := .pointer (some ⟨g, 6, none⟩)) (D 2 (by kernel_rfl)) rfl (by kernel_rfl)) ((H.below.cell hg6.2).trans hg6.1)⟩
theorem cst_o4 (B g : Nat) (oa ob : Option Addr) (la lb : List (Nat → Bool)) (Q : Exit → Act → World → Prop) (a0 : Act) (w0 : World) (hx : ∀ W, Below w0.heap.size w0 W → Calls Tryz.prog 93 #[.pointer oa] W fun v w' => SetsIs W w' la v) (hB : B ≤ w0.heap.size) : Obl Tryz.prog cst_ops (cst_S B g oa ob la lb) Q a0 w0 4 :=
  obl_val (.call { callee := .value (.func 93), args := #[.tmp 18], argTypes := #[47] }) none rfl (by kernel_rfl) fun a w N H D => ⟨(fun _ _ hg => by cases hg), fun _ ho => wp_csets ho (fact_eq (c := .pointer oa) (D 3 (by kernel_rfl)) rfl (by kernel_rfl)) (hx _ H.below) (Nat.le_trans hB H.below.size)⟩
theorem cst_o5 (B g : Nat) (oa ob : Option Addr) (la lb : List (Nat → Bool)) (Q : Exit → Act → World → Prop) (a0 : Act) (w0 : World) (hs0 : a0.tmps.getD 0 undef = .pointer (some ⟨g, 0, none⟩)) : Obl Tryz.prog cst_ops (cst_S B g oa ob la lb) Q a0 w0 5 :=
  obl_val (.move (.tmp 0)) none rfl (by kernel_rfl) fun a w N H D => ⟨(fun _ _ hg => by cases hg), fun _ ho => wp_move (.inl ho) (held_base H 0 (by kernel_rfl) hs0)⟩
theorem cst_o6 (B g : Nat) (oa ob : Option Addr) (la lb : List (Nat → Bool)) (Q : Exit → Act → World → Prop) (a0 : Act) (w0 : World)  : Obl Tryz.prog cst_ops (cst_S B g oa ob la lb) Q a0 w0 6 :=
  obl_val (.nilCheck (.tmp 20)) none rfl (by kernel_rfl) fun a w N H D => ⟨(fun _ _ hg => by cases hg), fun _ ho => wp_cnil ho (fact_eq (c := .pointer (some ⟨g, 0, none⟩)) (D 5 (by kernel_rfl)) rfl (by kernel_rfl))⟩
theorem cst_o7 (B g : Nat) (oa ob : Option Addr) (la lb : List (Nat → Bool)) (Q : Exit → Act → World → Prop) (a0 : Act) (w0 : World)  : Obl Tryz.prog cst_ops (cst_S B g oa ob la lb) Q a0 w0 7 :=
  obl_val (.fieldAddr 148 (.tmp 21) 4) none rfl (by kernel_rfl) fun a w N H D => ⟨(fun _ _ hg => by cases hg), fun _ ho => wp_cn4 ho (fact_eq (c := .pointer (some ⟨g, 0, none⟩)) (D 6 (by kernel_rfl)) rfl (by kernel_rfl))⟩
theorem cst_o8 (B g : Nat) (oa ob : Option Addr) (la lb : List (Nat → Bool)) (Q : Exit → Act → World → Prop) (a0 : Act) (w0 : World) (hg7 : w0.cell? ⟨g, 7, none⟩ = some (.pointer ob) ∧ g < w0.heap.size) : Obl Tryz.prog cst_ops (cst_S B g oa ob la lb) Q a0 w0 8 :=
  obl_val (.load 47 (.tmp 22)) none rfl (by kernel_rfl) fun a w N H D => ⟨(fun _ _ hg => by cases hg), fun _ ho => wp_cload ho (fact_eq (c := .pointer (some ⟨g, 7, none⟩)) (D 7 (by kernel_rfl)) rfl (by kernel_rfl)) ((H.below.cell hg7.2).trans hg7.1)⟩
theorem cst_o9 (B g : Nat) (oa ob : Option Addr) (la lb : List (Nat → Bool)) (Q : Exit → Act → World → Prop) (a0 : Act) (w0 : World) (hy : ∀ W, Below w0.heap.size w0 W → Calls Tryz.prog 93 #[.pointer ob] W fun v w' => SetsIs W w' lb v) (hB : B ≤ w0.heap.size) : Obl Tryz.prog cst_ops (cst_S B g oa ob la lb) Q a0 w0 9 :=
  obl_val (.call { callee := .value (.func 93), args := #[.tmp 23], argTypes := #[47] }) none rfl (by kernel_rfl) fun a w N H D => ⟨(fun _ _ hg => by cases hg), fun _ ho => wp_csets ho (fact_eq (c := .pointer ob) (D 8 (by kernel_rfl)) rfl (by kernel_rfl)) (hy _ H.below) (Nat.le_trans hB H.below.size)⟩
theorem cst_all (B g : Nat) (oa ob : Option Addr) (la lb : List (Nat → Bool)) (Q : Exit → Act → World → Prop) (a0 : Act) (w0 : World) (hs0 : a0.tmps.getD 0 undef = .pointer (some ⟨g, 0, none⟩)) (hg6 : w0.cell? ⟨g, 6, none⟩ = some (.pointer oa) ∧ g < w0.heap.size) (hg7 : w0.cell? ⟨g, 7, none⟩ = some (.pointer ob) ∧ g < w0.heap.size) (hx : ∀ W, Below w0.heap.size w0 W → Calls Tryz.prog 93 #[.pointer oa] W fun v w' => SetsIs W w' la v) (hy : ∀ W, Below w0.heap.size w0 W → Calls Tryz.prog 93 #[.pointer ob] W fun v w' => SetsIs W w' lb v) (hB : B ≤ w0.heap.size) : ∀ i, i < 10 → Obl Tryz.prog cst_ops (cst_S B g oa ob la lb) Q a0 w0 i := by
  intro i hi_
  match i, hi_ with
  | 0, _ => exact cst_o0 B g oa ob la lb  Q a0 w0 hs0
  | 1, _ => exact cst_o1 B g oa ob la lb  Q a0 w0 
  | 2, _ => exact cst_o2 B g oa ob la lb  Q a0 w0 
  | 3, _ => exact cst_o3 B g oa ob la lb  Q a0 w0 hg6
  | 4, _ => exact cst_o4 B g oa ob la lb  Q a0 w0 hx hB
  | 5, _ => exact cst_o5 B g oa ob la lb  Q a0 w0 hs0
  | 6, _ => exact cst_o6 B g oa ob la lb  Q a0 w0 
  | 7, _ => exact cst_o7 B g oa ob la lb  Q a0 w0 
  | 8, _ => exact cst_o8 B g oa ob la lb  Q a0 w0 hg7
  | 9, _ => exact cst_o9 B g oa ob la lb  Q a0 w0 hy hB
  | i + 10, h => exact absurd h (by omega)
end Go.Proofs.YtpiimcbbgalhfaaGreatDoor
/- core.Sets: of any core. -/
namespace Go.Proofs.YtpiimcbbgalhfaaGreatDoor
set_option maxRecDepth 100000
open Go.RowKit
set_option maxHeartbeats 4000000 in
theorem csets_node {w : World} {g : Nat} {k : Int} {m : Nat → Bool} {z : Bool} {oa ob : Option Addr} {la lb : List (Nat → Bool)} (hb : Blk w g 148 (coreV k m z (.pointer oa) (.pointer ob))) (hk : k ≠ 1) (hl : la.length + lb.length ≤ 1000000)
    (hx : ∀ W, Below w.heap.size w W → Calls Tryz.prog 93 #[.pointer oa] W fun v w' => SetsIs W w' la v) (hy : ∀ W, Below w.heap.size w W → Calls Tryz.prog 93 #[.pointer ob] W fun v w' => SetsIs W w' lb v) :
    Calls Tryz.prog 93 #[cptr g] w fun v w' => SetsIs w w' (la ++ lb) v := by
  have a0 : w.cell? ⟨g, 0, none⟩ = some (.int .i64 k) := hb.cell 0
  have hlt := hb.lt
  have hbd := hb.below (Below.refl _ w).drew hb.lt
  have HALL := Lib.hid (fun Q a1 hs => cst_all w.heap.size g oa ob la lb Q a1 w.drew hs ⟨hbd.cell 6, hbd.lt⟩ ⟨hbd.cell 7, hbd.lt⟩ (fun W hW => hx W ((Below.refl _ w).drew.trans hW)) (fun W hW => hy W ((Below.refl _ w).drew.trans hW)) (Nat.le_refl _))
  have hk1 : (k == 1) = false := beq_eq_false_iff_ne.2 hk
  clear hb hx hy hk hbd
  go_enter Tryz.func93, Tryz.ntmps93
  go_wp2_with fail
  refine region_two (ops' := cst_ops) (by kernel_rfl) (cst_S w.heap.size g oa ob la lb) 26 10 rfl (by kernel_rfl) (by kernel_rfl) (by kernel_rfl) (HALL.out _ _ rfl) ?_
  intro a w5 N H hF
  obtain ⟨hA, -, hA0⟩ := fact_val (hF 4 (by kernel_rfl)) rfl (by kernel_rfl)
  obtain ⟨hB, -, hB0⟩ := fact_val (hF 9 (by kernel_rfl)) rfl (by kernel_rfl)
  have hbl := (Below.refl _ w).drew.trans H.below
  refine wpOp_append_rows (d := 25) 19 24 (by kernel_rfl) rfl rfl hA hB hA0 hB0 hbl.size hl ?_
  intro v6 w6 hown6 hb6 h60
  have hsz : a.tmps.size = 26 := H.size
  have hdf := H.defers
  refine wpOp_assign 2 25 (by kernel_rfl) (v := v6) (by simp [Act.put, hsz]) ?_
  have HB6 := Lib.hid (hbl.trans hb6)
  have HO6 := Lib.hid hown6
  have H60 := Lib.hid h60
  clear hF H hA hB hA0 hB0 hbl hown6 hb6 h60 HALL
  generalize ha7 : ((a.put (some 25) v6).put (some 2) v6) = a7
  have hd7 : a7.defers = [] := by rw [← ha7]; exact hdf
  have h7 : a7.tmps.getD 2 undef = v6 := by rw [← ha7]; simp [Act.put, hsz]
  clear ha7 hdf hsz
  go_wp2
  refine bodyPost_ret (v := v6) ?_ hd7 ⟨_, rfl, HO6.out, HB6.out, H60.out⟩
  rw [← h7]
  exact results_tmp rfl _ _ _
theorem csets_at (c : CT) : ∀ {w : World} {S : Nat → Prop} {g : Nat}, CoreAt w S c g → setsN8 c ≤ 1000000 → Calls Tryz.prog 93 #[cptr g] w fun v w' => SetsIs w w' (setsL8 c) v := by
  induction c with
  | empty => exact fun {w S g} h _ => csets_node h.2 (by decide) (by simp) (fun W _ => csets_nil W) (fun W _ => csets_nil W)
  | set m => exact fun {w S g} h _ => csets_set h
  | cat x y ihx ihy =>
    rintro w S g ⟨_, p, q, hb, hx, hy⟩ hs
    simp only [setsN8] at hs
    exact csets_node hb (by decide) (by rw [setsL8_length, setsL8_length]; exact hs) (fun W hW => ihx (hx.under hW) (by omega)) (fun W hW => ihy (hy.under hW) (by omega))
  | alt x y ihx ihy =>
    rintro w S g ⟨_, p, q, hb, hx, hy⟩ hs
    simp only [setsN8] at hs
    exact csets_node hb (by decide) (by rw [setsL8_length, setsL8_length]; exact hs) (fun W hW => ihx (hx.under hW) (by omega)) (fun W hW => ihy (hy.under hW) (by omega))
  | star z x ihx =>
    rintro w S g ⟨_, p, hb, hx⟩ hs
    have h := csets_node (lb := []) hb (by decide) (by rw [setsL8_length]; simpa [setsN8] using hs) (fun W hW => ihx (hx.under hW) hs) (fun W _ => csets_nil W)
    rw [List.append_nil] at h
    exact h
end Go.Proofs.YtpiimcbbgalhfaaGreatDoor
