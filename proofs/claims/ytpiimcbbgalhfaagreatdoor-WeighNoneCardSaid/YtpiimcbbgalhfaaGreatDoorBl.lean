/- syntax: grouped, Deep. -/
import Derived.Test.YtpiimcbbgalhfaaGreatDoorBj
import Derived.Test.YtpiimcbbgalhfaaGreatDoorBk
import Derived.Deep.RegionWith
import Derived.Test.YtpiimcbbgalhfaaGreatDoorBb
namespace Go.Proofs.YtpiimcbbgalhfaaGreatDoor
set_option maxRecDepth 100000
open Go.RowKit
mutual
def deepT : Tree → Nat
  | .mk k _ _ _ _ kids _ _ => if k = 2 ∨ k = 3 then deepL kids + 1 else deepL kids
def deepL : List Tree → Nat
  | [] => 0
  | n :: l => max (deepT n) (deepL l)
end
theorem deepL_snoc (l : List Tree) (n : Tree) : deepL (l ++ [n]) = max (deepL l) (deepT n) := by
  induction l with
  | nil => simp [deepL]
  | cons m l ih => simp only [List.cons_append, deepL, ih]; omega
theorem deepL_mem {l : List Tree} {n : Tree} (h : n ∈ l) : deepT n ≤ deepL l := by
  induction l with
  | nil => cases h
  | cons m l ih =>
    simp only [deepL]
    rcases List.mem_cons.1 h with rfl | h
    · omega
    · have := ih h; omega
theorem deepL_take {l : List Tree} {k : Nat} (h : k < l.length) : deepL (l.take (k + 1)) = max (deepL (l.take k)) (deepT l[k]) := by
  rw [List.take_succ_eq_append_getElem h, deepL_snoc]
theorem deepL_le {l : List Tree} (k : Nat) : deepL (l.take k) ≤ deepL l := by
  induction l generalizing k with
  | nil => simp
  | cons n l ih =>
    cases k with
    | zero => simp [deepL]
    | succ k => simp only [List.take_succ_cons, deepL]; have := ih k; omega
def grpB (k : Int) : Bool := decide (k = 2 ∨ k = 3)
theorem deepT_mk (k : Int) (set : Nat → Bool) (lo hi : Int) (lazy : Bool) (kids : List Tree) (f t : Nat) : deepT (.mk k set lo hi lazy kids f t) = if grpB k then deepL kids + 1 else deepL kids := by
  simp only [deepT]
  by_cases hk2 : k = 2 ∨ k = 3
  · rw [if_pos hk2, show grpB k = true from decide_eq_true hk2]; rfl
  · rw [if_neg hk2, show grpB k = false from decide_eq_false hk2]; rfl
theorem grouped_c {w : World} {b : Nat} {k : Int} (c0 : w.cell? ⟨b, 0, none⟩ = some (.int .i64 k)) :
    Calls Tryz.prog 184 #[ptrV b] w fun v w' => v = .returned (.bool (grpB k)) ∧ w' = w := by
  by_cases h2 : k = 2
  · subst h2
    go_enter Tryz.func184, Tryz.ntmps184
    go_wp2
    go_returns
    exact ⟨rfl, rfl⟩
  · have q2 : (k == 2) = false := by rw [beq_eq_false_iff_ne]; exact h2
    by_cases h3 : k = 3
    · subst h3
      clear h2 q2
      go_enter Tryz.func184, Tryz.ntmps184
      go_wp2
      go_returns
      exact ⟨rfl, rfl⟩
    · have q3 : (k == 3) = false := by rw [beq_eq_false_iff_ne]; exact h3
      have HF := Lib.hid (show grpB k = false by unfold grpB; rw [decide_eq_false_iff_not]; omega)
      clear h2 h3
      go_enter Tryz.func184, Tryz.ntmps184
      go_wp2
      go_returns
      exact ⟨by rw [HF.out]; rfl, rfl⟩
set_option maxHeartbeats 4000000 in
theorem deep_at {w : World} {S : Nat → Prop} {n : Tree} {b : Nat} (h : TreeAt w S n b) (hd : deepT n ≤ 1000000) :
    Calls Tryz.prog 137 #[ptrV b] w fun v w' => v = .returned (.int .i64 ((deepT n : Nat) : Int)) ∧ w' = w := by
  induction h with
  | @mk k set lo hi lazy kids f t b ga c A bs hSb hb hl hm hA hc hk ih =>
    have hdl : deepL kids ≤ 1000000 := by
      simp only [deepT] at hd
      split at hd <;> omega
    have c0 := hb.cell 0
    have c8 := hb.cell 8
    have hlt := hb.lt
    have HD := Lib.hid (deepT_mk k set lo hi lazy kids f t)
    have c0' : w.cell? ⟨b, 0, none⟩ = some (.int .i64 k) := c0
    have c8' : w.cell? ⟨b, 8, none⟩ = some (.slice A kids.length c) := c8
    have HI := Lib.hid (show ∀ (i : Nat) (hi : i < kids.length), ∃ g, A = some ⟨ga, 0, none⟩ ∧ w.cell? ⟨ga, i, none⟩ = some (ptrV g) ∧ (deepT kids[i] ≤ 1000000 → Calls Tryz.prog 137 #[ptrV g] w fun v w' => v = .returned (.int .i64 ((deepT kids[i] : Nat) : Int)) ∧ w' = w) from fun i hi => by
      have hne : kids ≠ [] := by intro e; rw [e] at hi; exact absurd hi (Nat.not_lt_zero _)
      have hib : i < bs.length := by omega
      exact ⟨bs[i], (hA hne).1, hc i _ (List.getElem?_eq_getElem hib), ih i _ _ (List.getElem?_eq_getElem hi) (List.getElem?_eq_getElem hib)⟩)
    have HM := Lib.hid (show ∀ (i : Nat) (hi : i < kids.length), deepT kids[i] ≤ deepL kids from fun i hi => deepL_mem (List.getElem_mem hi))
    have HT := Lib.hid (show ∀ i, i < kids.length → ∀ hi, deepL (kids.take (i + 1)) = max (deepL (kids.take i)) (deepT (kids[i]'hi)) from fun i h _ => deepL_take h)
    have HLE := Lib.hid (show ∀ i, deepL (kids.take i) ≤ deepL kids from fun i => deepL_le i)
    have HTL := Lib.hid (show deepL (kids.take kids.length) = deepL kids by rw [List.take_length])
    clear hb c0 c8 hl hA hc hk ih hd
    go_enter Tryz.func137, Tryz.ntmps137
    go_wp2_with fail
    go_loopw [3, 13] (fun mv iv wr => ∃ i : Nat, i ≤ kids.length ∧ iv = .int .i64 ((i : Nat) : Int) ∧ mv = .int .i64 ((deepL (kids.take i) : Nat) : Int) ∧ wr = w) (fun _ iv _ => kids.length - (intOf iv).toNat)
    case atStart => exact ⟨0, Nat.zero_le _, rfl, by simp [deepL], rfl⟩
    case round =>
      obtain ⟨i, hi, rfl, rfl, rfl⟩ := hrel
      rename World => w
      by_cases hlt2 : i < kids.length
      · obtain ⟨g, rfl, cg, hcall⟩ := HI.out i hlt2
        have hx := HM.out i hlt2
        have hle := HLE.out i
        have HTi := Lib.hid (HT.out i hlt2 hlt2)
        have HC := Lib.hid (hcall (by omega))
        clear hcall
        have hgl := cell_lt0 cg
        generalize deepT kids[i] = y at *
        generalize deepL (kids.take i) = z at *
        go_wp2_with fail
        refine HC.out.mono ?_
        rintro v w1 ⟨rfl, rfl⟩
        rename World => w
        go_wp2
        go_roundw
        case rel => exact ⟨i + 1, hlt2, by go_num, by rw [HTi.out]; congr 1; omega, trivial⟩
        case measure => simp [intOf]; omega
      · obtain rfl : i = kids.length := by omega
        rw [HTL.out]
        generalize deepL kids = z at *
        go_wp2_with fail
        refine (grouped_c c0').mono ?_
        rintro v w1 ⟨rfl, rfl⟩
        rename World => w
        have HD2 := Lib.hid HD.out
        cases hg : grpB k with
        | true =>
          have HG := Lib.hid hg
          clear hg
          go_wp2
          go_returns
          exact ⟨by rw [HD.out, HG.out]; rfl, rfl⟩
        | false =>
          have HG := Lib.hid hg
          clear hg
          go_wp2
          go_returns
          exact ⟨by rw [HD.out, HG.out]; rfl, rfl⟩
theorem deep_nil (w : World) : Calls Tryz.prog 137 #[.pointer none] w fun v w' => v = .returned (.int .i64 0) ∧ w' = w := by
  go_enter Tryz.func137, Tryz.ntmps137
  go_wp2
  go_returns
  exact ⟨rfl, rfl⟩
end Go.Proofs.YtpiimcbbgalhfaaGreatDoor
/- syntax: what comes of no tree; layer 6's example. -/
namespace Go.Proofs.YtpiimcbbgalhfaaGreatDoor
set_option maxRecDepth 100000
open Go.RowKit
theorem size_nil (w : World) : Calls Tryz.prog 16 #[.pointer none] w fun v w' => v = .returned (.int .i64 0) ∧ Below w.heap.size w w' := by
  have heach : ∀ (f : Value) (w : World), Calls Tryz.prog 82 #[.pointer none, f] w fun v w' => (∃ u, v = .returned u) ∧ w' = w := by
    intro f w
    go_enter Tryz.func82, Tryz.ntmps82
    go_wp2
    go_returns
    exact ⟨⟨_, rfl⟩, rfl⟩
  have HE := Lib.hid heach
  clear heach
  go_enter Tryz.func16, Tryz.ntmps16
  go_wp2_with fail
  refine (HE.out _ _).mono ?_
  rintro v w1 ⟨⟨u, rfl⟩, rfl⟩
  go_wp2
  go_returns
  exact ⟨rfl, (Below.refl _ w).alloc (Nat.le_refl _) _⟩
theorem groups_nil (w : World) : Calls Tryz.prog 22 #[.pointer none] w fun v w' => v = .returned (.int .i64 0) ∧ Below w.heap.size w w' := by
  have heach : ∀ (f : Value) (w : World), Calls Tryz.prog 82 #[.pointer none, f] w fun v w' => (∃ u, v = .returned u) ∧ w' = w := by
    intro f w
    go_enter Tryz.func82, Tryz.ntmps82
    go_wp2
    go_returns
    exact ⟨⟨_, rfl⟩, rfl⟩
  have HE := Lib.hid heach
  clear heach
  go_enter Tryz.func22, Tryz.ntmps22
  go_wp2_with fail
  refine (HE.out _ _).mono ?_
  rintro v w1 ⟨⟨u, rfl⟩, rfl⟩
  go_wp2
  go_returns
  exact ⟨rfl, (Below.refl _ w).alloc (Nat.le_refl _) _⟩
theorem formed_nil (w : World) : Calls Tryz.prog 136 #[.pointer none] w fun v w' => v = .returned (.bool false) ∧ w' = w := by
  go_enter Tryz.func136, Tryz.ntmps136
  go_wp2
  go_returns
  exact ⟨rfl, rfl⟩
theorem right_nil (w : World) : Calls Tryz.prog 87 #[.pointer none] w fun v w' => v = .returned (.bool false) ∧ w' = w := by
  go_enter Tryz.func87, Tryz.ntmps87
  go_wp2_with fail
  refine (formed_nil w).mono ?_
  rintro v w1 ⟨rfl, rfl⟩
  go_wp2
  go_returns
  exact ⟨rfl, rfl⟩
theorem same_nil2 (w : World) : Calls Tryz.prog 21 #[.pointer none, .pointer none] w fun v w' => v = .returned (.bool true) ∧ w' = w := by
  go_enter Tryz.func21, Tryz.ntmps21
  go_wp2
  go_returns
  exact ⟨rfl, rfl⟩
theorem same_nil1 (b : Nat) (w : World) : Calls Tryz.prog 21 #[ptrV b, .pointer none] w fun v w' => v = .returned (.bool false) ∧ w' = w := by
  go_enter Tryz.func21, Tryz.ntmps21
  go_wp2
  go_returns
  exact ⟨rfl, rfl⟩
theorem run_nil_ptr (d b : Nat) (w : World) : (Op.equalIn (d + 1) 26 (.pointer none) (.pointer (some ⟨b, 0, none⟩))).run Tryz.prog w = .ok false w := by
  simp [Op.equalIn, run_underlying Tryz.underlying26]
set_option maxHeartbeats 1000000 in
theorem same_nil0 (b : Nat) (w : World) : Calls Tryz.prog 21 #[.pointer none, ptrV b] w fun v w' => v = .returned (.bool false) ∧ w' = w := by
  have hrun : ∀ w : World, (binOp .eql 26 (.pointer none) (.pointer (some ⟨b, 0, none⟩))).run Tryz.prog w = .ok (.bool false) w := by
    intro w
    simp only [binOp]
    simp [Op.equal, Op.maxDepth, run_nil_ptr 9999 b w]
  go_enter Tryz.func21, Tryz.ntmps21
  go_wp2
  go_returns
  exact ⟨rfl, rfl⟩
def awake6S : ByteArray := { data := #[97, 124, 98, 42] }
def awake6T : Tree := .mk 5 noSet 0 0 false [.mk 1 (oneM 97) 0 0 false [] 0 1, .mk 6 noSet 0 (-1) false [.mk 1 (oneM 98) 0 0 false [] 2 3] 2 4] 0 4
theorem awake6_parse : parseB awake6S = .ok awake6T 4 := by rfl
end Go.Proofs.YtpiimcbbgalhfaaGreatDoor
/- The reference of layer 6: what is read, one step ahead. No program in sight. -/
namespace Go.Proofs.YtpiimcbbgalhfaaGreatDoor
set_option maxRecDepth 100000
section
variable {T : List Tk} {size : Nat}
theorem cat_next {rec : Nat → Nat → PRes} {d f q J : Nat} {l L : List Tree} (hc : catLoop T size rec d (f + 1) l q = .ok L J) (hq : q < J) : ∃ x, T[q]? = some x ∧ x.1.kind ≠ 3 ∧ x.1.kind ≠ 4 ∧ ∃ n k, itemW T size rec d q x = .ok n k ∧ catLoop T size rec d f (l ++ [n]) k = .ok L J := by
  unfold catLoop at hc
  cases hx : T[q]? with
  | none => rw [hx] at hc; simp only [] at hc; injection hc with _ h; omega
  | some x =>
    rw [hx] at hc
    simp only [] at hc
    by_cases hk : x.1.kind = 4 ∨ x.1.kind = 3
    · rw [if_pos hk] at hc; injection hc with _ h; omega
    · rw [if_neg hk] at hc
      refine ⟨x, rfl, fun h => hk (.inr h), fun h => hk (.inl h), ?_⟩
      cases hi : itemW T size rec d q x with
      | err p e => rw [hi] at hc; cases hc
      | ok n k => rw [hi] at hc; exact ⟨n, k, rfl, hc⟩
theorem item_parts {rec : Nat → Nat → PRes} {d q k : Nat} {x : Tk} {n : Tree} (h : itemW T size rec d q x = .ok n k) : ∃ n0 k0, baseW T size rec d q x = .ok n0 k0 ∧
    ((∃ c, T[k0]? = some c ∧ c.1.kind = 5 ∧ n = repT x c n0 ∧ k = k0 + 1) ∨ ((∀ c, T[k0]? = some c → c.1.kind ≠ 5) ∧ n = n0 ∧ k = k0)) := by
  unfold itemW at h
  cases hb : baseW T size rec d q x with
  | err p e => rw [hb] at h; cases h
  | ok n0 k0 =>
    rw [hb] at h
    simp only [] at h
    refine ⟨n0, k0, rfl, ?_⟩
    cases hc : T[k0]? with
    | none =>
      rw [hc] at h
      simp only [] at h
      injection h with h1 h2
      exact .inr ⟨(fun c h => by cases h), h1.symm, h2.symm⟩
    | some c =>
      rw [hc] at h
      simp only [] at h
      by_cases h5 : c.1.kind = 5
      · rw [if_pos h5] at h
        injection h with h1 h2
        exact .inl ⟨c, rfl, h5, h1.symm, h2.symm⟩
      · rw [if_neg h5] at h
        injection h with h1 h2
        exact .inr ⟨(fun c' h => by injection h with h; subst h; exact h5), h1.symm, h2.symm⟩
theorem base_parts {rec : Nat → Nat → PRes} {d q k0 : Nat} {x : Tk} {n0 : Tree} (h : baseW T size rec d q x = .ok n0 k0) : (x.1.kind = 0 ∧ n0 = leafT x ∧ k0 = q + 1) ∨
    ((x.1.kind = 1 ∨ x.1.kind = 2) ∧ ∃ n1 m y, rec (d + 1) (q + 1) = .ok n1 m ∧ T[m]? = some y ∧ y.1.kind = 3 ∧ n0 = groupT x n1 y.2.2 ∧ k0 = m + 1) := by
  unfold baseW at h
  by_cases h0 : x.1.kind = 0
  · rw [if_pos h0] at h
    injection h with h1 h2
    exact .inl ⟨h0, h1.symm, h2.symm⟩
  · rw [if_neg h0] at h
    by_cases h12 : x.1.kind = 1 ∨ x.1.kind = 2
    · rw [if_pos h12] at h
      refine .inr ⟨h12, ?_⟩
      unfold groupW at h
      by_cases hd : 200 ≤ d
      · rw [if_pos hd] at h; cases h
      · rw [if_neg hd] at h
        cases hr : rec (d + 1) (q + 1) with
        | err p e => rw [hr] at h; cases h
        | ok n1 m =>
          rw [hr] at h
          simp only [] at h
          cases hy : T[m]? with
          | none => rw [hy] at h; cases h
          | some y =>
            rw [hy] at h
            simp only [] at h
            by_cases h3 : y.1.kind = 3
            · rw [if_pos h3] at h
              injection h with h1 h2
              exact ⟨n1, m, y, rfl, hy, h3, h1.symm, h2.symm⟩
            · rw [if_neg h3] at h; cases h
    · rw [if_neg h12] at h; cases h
/-- What is taken at a time, with where it ends: from a place of an alternative on. -/
structure CatAt (T : List Tk) (size n d : Nat) (l : List Tree) (q : Nat) (L : List Tree) (J : Nat) : Prop where
  run : ∃ f, T.length - q < f ∧ catLoop T size (altF T size n) d f l q = .ok L J
  le : q ≤ J
  lt : J ≤ T.length
  fuel : T.length - q ≤ n
  stop : catStop T J
theorem CatAt.of {n d i : Nat} {l L : List Tree} {J f : Nat} (h : catLoop T size (altF T size n) d f l i = .ok L J) (hf : T.length - i < f) (hi : i ≤ T.length) (hn : T.length - i ≤ n) : CatAt T size n d l i L J := by
  have := cat_even (T := T) (size := size) (rec := altF T size n) (d := d) f l i hi hf (fun k h1 h2 => altF_even n (d + 1) (k + 1) h2 (by omega))
  rw [h] at this
  exact ⟨⟨f, hf, h⟩, this.2.1.le, this.1, hn, this.2.2.2⟩
theorem CatAt.next {n d q J : Nat} {l L : List Tree} (h : CatAt T size n d l q L J) (hq : q < J) : ∃ x, T[q]? = some x ∧ ∃ n0 k0, ((x.1.kind = 0 ∧ n0 = leafT x ∧ k0 = q + 1) ∨
      ((x.1.kind = 1 ∨ x.1.kind = 2) ∧ ∃ n1 m y, altF T size n (d + 1) (q + 1) = .ok n1 m ∧ q + 1 ≤ m ∧ EvenP T (q + 1) m ∧ T[m]? = some y ∧ y.1.kind = 3 ∧ n0 = groupT x n1 y.2.2 ∧ k0 = m + 1)) ∧ q < k0 ∧ k0 ≤ J ∧
      ((∃ c, T[k0]? = some c ∧ c.1.kind = 5 ∧ k0 < J ∧ CatAt T size n d (l ++ [repT x c n0]) (k0 + 1) L J) ∨ ((∀ c, T[k0]? = some c → c.1.kind ≠ 5) ∧ CatAt T size n d (l ++ [n0]) k0 L J)) := by
  obtain ⟨f, hf, hc⟩ := h.run
  obtain ⟨f, rfl⟩ : ∃ g, f = g + 1 := ⟨f - 1, by omega⟩
  obtain ⟨x, hx, h3, h4, nn, k, hi, hc⟩ := cat_next hc hq
  have hlt := h.lt
  have hn := h.fuel
  have hrec : EvenA T (q + 1) (altF T size n (d + 1) (q + 1)) := altF_even n (d + 1) (q + 1) (by omega) (by omega)
  have he := item_even (size := size) hx h3 h4 hrec
  rw [hi] at he
  simp only [] at he
  obtain ⟨e1, e2, e3, e4⟩ := he
  have hnext : CatAt T size n d (l ++ [nn]) k L J := CatAt.of hc (by omega) e2 (by omega)
  obtain ⟨n0, k0, hb, hp⟩ := item_parts hi
  have hbp := base_parts hb
  have hk0 : q < k0 := by
    rcases hbp with ⟨_, _, rfl⟩ | ⟨_, n1, m, y, hr, hm, hy, _, rfl⟩
    · omega
    · rw [hr] at hrec
      have := hrec.1.le
      omega
  refine ⟨x, hx, n0, k0, ?_, hk0, ?_, ?_⟩
  · rcases hbp with h | ⟨h12, n1, m, y, hr, hm, hy, h5, h6⟩
    · exact .inl h
    · rw [hr] at hrec
      exact .inr ⟨h12, n1, m, y, hr, hrec.1.le, hrec.1, hm, hy, h5, h6⟩
  · have := hnext.le
    rcases hp with ⟨_, _, _, _, rfl⟩ | ⟨_, _, rfl⟩ <;> omega
  · rcases hp with ⟨c, h1, h2, rfl, rfl⟩ | ⟨h1, rfl, rfl⟩
    · exact .inl ⟨c, h1, h2, by have := hnext.le; omega, hnext⟩
    · exact .inr ⟨h1, hnext⟩
theorem CatAt.done {n d q : Nat} {l L : List Tree} (h : CatAt T size n d l q L q) : L = l := by
  obtain ⟨f, hf, hc⟩ := h.run
  obtain ⟨f, rfl⟩ : ∃ g, f = g + 1 := ⟨f - 1, by omega⟩
  unfold catLoop at hc
  have hst := h.stop
  cases hx : T[q]? with
  | none => rw [hx] at hc; simp only [] at hc; injection hc with h _; exact h.symm
  | some x =>
    rw [hx] at hc
    simp only [] at hc
    have hk := kind_some hx
    rw [if_pos (by
      rcases hst with h | h | h
      · rw [hk] at h; cases h
      · rw [hk] at h; injection h with h; exact .inr h
      · rw [hk] at h; injection h with h; exact .inl h)] at hc
    injection hc with h _
    exact h.symm
theorem cat_run {n d i J : Nat} {t : Tree} (h : catW T size (altF T size n) d i = .ok t J) (hi : i ≤ T.length) (hn : T.length - i ≤ n) : ∃ L, CatAt T size n d [] i L J ∧ ((L = [] ∧ t = emptyT (fromAt T size i)) ∨ (0 < L.length ∧ t = manyT 4 L)) := by
  unfold catW at h
  cases hc : catLoop T size (altF T size n) d (T.length + 1 - i) [] i with
  | err p e => rw [hc] at h; cases h
  | ok L J' =>
    rw [hc] at h
    cases L with
    | nil =>
      simp only [catEnd] at h
      injection h with h1 h2
      subst h2
      exact ⟨[], CatAt.of hc (by omega) hi hn, .inl ⟨rfl, h1.symm⟩⟩
    | cons a L =>
      simp only [catEnd] at h
      injection h with h1 h2
      subst h2
      exact ⟨a :: L, CatAt.of hc (by omega) hi hn, .inr ⟨by simp, h1.symm⟩⟩
end
end Go.Proofs.YtpiimcbbgalhfaaGreatDoor
/- The reference of layer 6: alternatives, one step ahead. No program in sight. -/
namespace Go.Proofs.YtpiimcbbgalhfaaGreatDoor
set_option maxRecDepth 100000
section
variable {T : List Tk} {size : Nat}
/-- The alternative that begins at a is being gone through, at q; those ahead of it are l. -/
structure AltAt (T : List Tk) (size n d : Nat) (l : List Tree) (a q : Nat) (L : List Tree) (j : Nat) : Prop where
  run : ∃ nn k f, catW T size (altF T size n) d a = .ok nn k ∧ q ≤ k ∧ T.length - k < f ∧ altLoop T size (altF T size n) d f (l ++ [nn]) k = .ok L j
  aq : a ≤ q
  fuel : T.length - a ≤ n
  al : a ≤ T.length
theorem AltAt.inside {n d a q j : Nat} {l L : List Tree} (h : AltAt T size n d l a q L j) : ∃ nn k, catW T size (altF T size n) d a = .ok nn k ∧ q ≤ k ∧ k ≤ j ∧ j ≤ T.length ∧ EvenP T a k ∧ NoBar T a k ∧
    (q < k → AltAt T size n d l a (q + 1) L j) ∧ (k < j → kindAt T k = some 4 ∧ AltAt T size n d (l ++ [nn]) (k + 1) (k + 1) L j) ∧ (k = j → L = l ++ [nn]) := by
  obtain ⟨nn, k, f, hc, hqk, hf, ha⟩ := h.run
  have haq := h.aq
  have hfu := h.fuel
  have hal := h.al
  have he := catW_even (T := T) (size := size) (rec := altF T size n) (d := d) hal (fun k h1 h2 => altF_even n (d + 1) (k + 1) h2 (by omega))
  rw [hc] at he
  simp only [] at he
  obtain ⟨e1, e2, e3, e4⟩ := he
  have hek := e2.le
  have hrec : ∀ i, k ≤ i → i < T.length → EvenA T (i + 1) (altF T size n (d + 1) (i + 1)) := fun i h1 h2 => altF_even n (d + 1) (i + 1) h2 (by omega)
  have hal2 := alt_even (T := T) (size := size) (rec := altF T size n) (d := d) f (l ++ [nn]) k e1 hf e4 hrec
  rw [ha] at hal2
  simp only [] at hal2
  obtain ⟨b1, b2, b3⟩ := hal2
  have hkj := b2.le
  refine ⟨nn, k, hc, hqk, hkj, b1, e2, e3, fun hlt => ⟨⟨nn, k, f, hc, hlt, hf, ha⟩, by omega, hfu, hal⟩, ?_, ?_⟩
  · intro hlt
    obtain ⟨f, rfl⟩ : ∃ g, f = g + 1 := ⟨f - 1, by omega⟩
    unfold altLoop at ha
    by_cases hk : kindAt T k = some 4
    · rw [if_pos hk] at ha
      refine ⟨hk, ?_⟩
      cases hc2 : catW T size (altF T size n) d (k + 1) with
      | err p e => rw [hc2] at ha; cases ha
      | ok n2 k2 =>
        rw [hc2] at ha
        simp only [] at ha
        have he2 := catW_even (T := T) (size := size) (rec := altF T size n) (d := d) (i := k + 1) (by omega) (fun i h1 h2 => hrec i (by omega) h2)
        rw [hc2] at he2
        have hle2 := he2.2.1.le
        exact ⟨⟨n2, k2, f, hc2, hle2, by omega, ha⟩, Nat.le_refl _, by omega, by omega⟩
    · rw [if_neg hk] at ha
      injection ha with _ h
      omega
  · intro hkj2
    subst hkj2
    obtain ⟨f, rfl⟩ : ∃ g, f = g + 1 := ⟨f - 1, by omega⟩
    unfold altLoop at ha
    rw [if_neg (by rcases b3 with h | h <;> rw [h] <;> simp)] at ha
    injection ha with h _
    exact h.symm
theorem altLoop_pos {rec : Nat → Nat → PRes} {d : Nat} : ∀ (f k : Nat) (l L : List Tree) (j : Nat), altLoop T size rec d f l k = .ok L j → l.length ≤ L.length := by
  intro f
  induction f with
  | zero => intro k l L j h; unfold altLoop at h; injection h with h _; rw [h]; exact Nat.le_refl _
  | succ f ih =>
    intro k l L j h
    unfold altLoop at h
    split at h
    · cases hc : catW T size rec d (k + 1) with
      | err p e => rw [hc] at h; cases h
      | ok n2 k2 =>
        rw [hc] at h
        have := ih k2 _ L j h
        simp at this
        omega
    · injection h with h _; rw [h]; exact Nat.le_refl _
theorem alt_run {n d i j : Nat} {t : Tree} (h : altF T size (n + 1) d i = .ok t j) (hi : i ≤ T.length) (hn : T.length - i < n + 1) : ∃ L, AltAt T size n d [] i i L j ∧ 0 < L.length ∧ t = manyT 5 L := by
  change altW T size (altF T size n) d i = .ok t j at h
  unfold altW at h
  cases hc : catW T size (altF T size n) d i with
  | err p e => rw [hc] at h; cases h
  | ok nn k =>
    rw [hc] at h
    simp only [] at h
    cases ha : altLoop T size (altF T size n) d (T.length + 1 - k) [nn] k with
    | err p e => rw [ha] at h; cases h
    | ok L j' =>
      rw [ha] at h
      simp only [altEnd] at h
      injection h with h1 h2
      subst h2
      have he := catW_even (T := T) (size := size) (rec := altF T size n) (d := d) hi (fun k h1 h2 => altF_even n (d + 1) (k + 1) h2 (by omega))
      rw [hc] at he
      have hle := he.2.1.le
      have hkl := he.1
      have hp := altLoop_pos _ _ _ _ _ ha
      exact ⟨L, ⟨⟨nn, k, T.length + 1 - k, hc, hle, by omega, ha⟩, Nat.le_refl _, by omega, hi⟩, by simp at hp; omega, h1.symm⟩
end
end Go.Proofs.YtpiimcbbgalhfaaGreatDoor
