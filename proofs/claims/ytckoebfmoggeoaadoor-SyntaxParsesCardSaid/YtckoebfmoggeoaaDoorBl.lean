/- syntax: grouped, Deep. -/
import Derived.Test.YtckoebfmoggeoaaDoorBj
import Derived.Test.YtckoebfmoggeoaaDoorBk
import Derived.Deep.RegionWith
namespace Go.Proofs.YtckoebfmoggeoaaDoor
set_option maxRecDepth 100000
open Go.RowKit
mutual
def deepT : Tree → Nat
  | .mk k _ _ _ _ kids _ _ => if k = 2 ∨ k = 3 then deepL kids + 1 else deepL kids
def deepL : List Tree → Nat
  | [] => 0
  | n :: l => max (deepT n) (deepL l)
end
theorem deepL_snoc (l : List Tree) (n : Tree) : deepL (l ++ [n]) = max (deepL l) (deepT n) := by
  induction l with
  | nil => simp [deepL]
  | cons m l ih => simp only [List.cons_append, deepL, ih]; omega
theorem deepL_mem {l : List Tree} {n : Tree} (h : n ∈ l) : deepT n ≤ deepL l := by
  induction l with
  | nil => cases h
  | cons m l ih =>
    simp only [deepL]
    rcases List.mem_cons.1 h with rfl | h
    · omega
    · have := ih h; omega
theorem deepL_take {l : List Tree} {k : Nat} (h : k < l.length) : deepL (l.take (k + 1)) = max (deepL (l.take k)) (deepT l[k]) := by
  rw [List.take_succ_eq_append_getElem h, deepL_snoc]
theorem deepL_le {l : List Tree} (k : Nat) : deepL (l.take k) ≤ deepL l := by
  induction l generalizing k with
  | nil => simp
  | cons n l ih =>
    cases k with
    | zero => simp [deepL]
    | succ k => simp only [List.take_succ_cons, deepL]; have := ih k; omega
def grpB (k : Int) : Bool := decide (k = 2 ∨ k = 3)
theorem deepT_mk (k : Int) (set : Nat → Bool) (lo hi : Int) (lazy : Bool) (kids : List Tree) (f t : Nat) : deepT (.mk k set lo hi lazy kids f t) = if grpB k then deepL kids + 1 else deepL kids := by
  simp only [deepT]
  by_cases hk2 : k = 2 ∨ k = 3
  · rw [if_pos hk2, show grpB k = true from decide_eq_true hk2]; rfl
  · rw [if_neg hk2, show grpB k = false from decide_eq_false hk2]; rfl
theorem grouped_c {w : World} {b : Nat} {k : Int} (c0 : w.cell? ⟨b, 0, none⟩ = some (.int .i64 k)) :
    Calls Tryd.prog 35 #[ptrV b] w fun v w' => v = .returned (.bool (grpB k)) ∧ w' = w := by
  by_cases h2 : k = 2
  · subst h2
    go_enter Tryd.func35, Tryd.ntmps35
    go_wp2
    go_returns
    exact ⟨rfl, rfl⟩
  · have q2 : (k == 2) = false := by rw [beq_eq_false_iff_ne]; exact h2
    by_cases h3 : k = 3
    · subst h3
      clear h2 q2
      go_enter Tryd.func35, Tryd.ntmps35
      go_wp2
      go_returns
      exact ⟨rfl, rfl⟩
    · have q3 : (k == 3) = false := by rw [beq_eq_false_iff_ne]; exact h3
      have HF := Lib.hid (show grpB k = false by unfold grpB; rw [decide_eq_false_iff_not]; omega)
      clear h2 h3
      go_enter Tryd.func35, Tryd.ntmps35
      go_wp2
      go_returns
      exact ⟨by rw [HF.out]; rfl, rfl⟩
set_option maxHeartbeats 4000000 in
theorem deep_at {w : World} {S : Nat → Prop} {n : Tree} {b : Nat} (h : TreeAt w S n b) (hd : deepT n ≤ 1000000) :
    Calls Tryd.prog 20 #[ptrV b] w fun v w' => v = .returned (.int .i64 ((deepT n : Nat) : Int)) ∧ w' = w := by
  induction h with
  | @mk k set lo hi lazy kids f t b ga c A bs hSb hb hl hm hA hc hk ih =>
    have hdl : deepL kids ≤ 1000000 := by
      simp only [deepT] at hd
      split at hd <;> omega
    have c0 := hb.cell 0
    have c8 := hb.cell 8
    have hlt := hb.lt
    have HD := Lib.hid (deepT_mk k set lo hi lazy kids f t)
    have c0' : w.cell? ⟨b, 0, none⟩ = some (.int .i64 k) := c0
    have c8' : w.cell? ⟨b, 8, none⟩ = some (.slice A kids.length c) := c8
    have HI := Lib.hid (show ∀ (i : Nat) (hi : i < kids.length), ∃ g, A = some ⟨ga, 0, none⟩ ∧ w.cell? ⟨ga, i, none⟩ = some (ptrV g) ∧ (deepT kids[i] ≤ 1000000 → Calls Tryd.prog 20 #[ptrV g] w fun v w' => v = .returned (.int .i64 ((deepT kids[i] : Nat) : Int)) ∧ w' = w) from fun i hi => by
      have hne : kids ≠ [] := by intro e; rw [e] at hi; exact absurd hi (Nat.not_lt_zero _)
      have hib : i < bs.length := by omega
      exact ⟨bs[i], (hA hne).1, hc i _ (List.getElem?_eq_getElem hib), ih i _ _ (List.getElem?_eq_getElem hi) (List.getElem?_eq_getElem hib)⟩)
    have HM := Lib.hid (show ∀ (i : Nat) (hi : i < kids.length), deepT kids[i] ≤ deepL kids from fun i hi => deepL_mem (List.getElem_mem hi))
    have HT := Lib.hid (show ∀ i, i < kids.length → ∀ hi, deepL (kids.take (i + 1)) = max (deepL (kids.take i)) (deepT (kids[i]'hi)) from fun i h _ => deepL_take h)
    have HLE := Lib.hid (show ∀ i, deepL (kids.take i) ≤ deepL kids from fun i => deepL_le i)
    have HTL := Lib.hid (show deepL (kids.take kids.length) = deepL kids by rw [List.take_length])
    clear hb c0 c8 hl hA hc hk ih hd
    go_enter Tryd.func20, Tryd.ntmps20
    go_wp2_with fail
    go_loopw [3, 13] (fun mv iv wr => ∃ i : Nat, i ≤ kids.length ∧ iv = .int .i64 ((i : Nat) : Int) ∧ mv = .int .i64 ((deepL (kids.take i) : Nat) : Int) ∧ wr = w) (fun _ iv _ => kids.length - (intOf iv).toNat)
    case atStart => exact ⟨0, Nat.zero_le _, rfl, by simp [deepL], rfl⟩
    case round =>
      obtain ⟨i, hi, rfl, rfl, rfl⟩ := hrel
      rename World => w
      by_cases hlt2 : i < kids.length
      · obtain ⟨g, rfl, cg, hcall⟩ := HI.out i hlt2
        have hx := HM.out i hlt2
        have hle := HLE.out i
        have HTi := Lib.hid (HT.out i hlt2 hlt2)
        have HC := Lib.hid (hcall (by omega))
        clear hcall
        have hgl := cell_lt0 cg
        generalize deepT kids[i] = y at *
        generalize deepL (kids.take i) = z at *
        go_wp2_with fail
        refine HC.out.mono ?_
        rintro v w1 ⟨rfl, rfl⟩
        rename World => w
        go_wp2
        go_roundw
        case rel => exact ⟨i + 1, hlt2, by go_num, by rw [HTi.out]; congr 1; omega, trivial⟩
        case measure => simp [intOf]; omega
      · obtain rfl : i = kids.length := by omega
        rw [HTL.out]
        generalize deepL kids = z at *
        go_wp2_with fail
        refine (grouped_c c0').mono ?_
        rintro v w1 ⟨rfl, rfl⟩
        rename World => w
        have HD2 := Lib.hid HD.out
        cases hg : grpB k with
        | true =>
          have HG := Lib.hid hg
          clear hg
          go_wp2
          go_returns
          exact ⟨by rw [HD.out, HG.out]; rfl, rfl⟩
        | false =>
          have HG := Lib.hid hg
          clear hg
          go_wp2
          go_returns
          exact ⟨by rw [HD.out, HG.out]; rfl, rfl⟩
theorem deep_nil (w : World) : Calls Tryd.prog 20 #[.pointer none] w fun v w' => v = .returned (.int .i64 0) ∧ w' = w := by
  go_enter Tryd.func20, Tryd.ntmps20
  go_wp2
  go_returns
  exact ⟨rfl, rfl⟩
end Go.Proofs.YtckoebfmoggeoaaDoor
/- syntax: what comes of no tree; layer 6's example. -/
namespace Go.Proofs.YtckoebfmoggeoaaDoor
set_option maxRecDepth 100000
open Go.RowKit
theorem size_nil (w : World) : Calls Tryd.prog 16 #[.pointer none] w fun v w' => v = .returned (.int .i64 0) ∧ Below w.heap.size w w' := by
  have heach : ∀ (f : Value) (w : World), Calls Tryd.prog 31 #[.pointer none, f] w fun v w' => (∃ u, v = .returned u) ∧ w' = w := by
    intro f w
    go_enter Tryd.func31, Tryd.ntmps31
    go_wp2
    go_returns
    exact ⟨⟨_, rfl⟩, rfl⟩
  have HE := Lib.hid heach
  clear heach
  go_enter Tryd.func16, Tryd.ntmps16
  go_wp2_with fail
  refine (HE.out _ _).mono ?_
  rintro v w1 ⟨⟨u, rfl⟩, rfl⟩
  go_wp2
  go_returns
  exact ⟨rfl, (Below.refl _ w).alloc (Nat.le_refl _) _⟩
theorem groups_nil (w : World) : Calls Tryd.prog 18 #[.pointer none] w fun v w' => v = .returned (.int .i64 0) ∧ Below w.heap.size w w' := by
  have heach : ∀ (f : Value) (w : World), Calls Tryd.prog 31 #[.pointer none, f] w fun v w' => (∃ u, v = .returned u) ∧ w' = w := by
    intro f w
    go_enter Tryd.func31, Tryd.ntmps31
    go_wp2
    go_returns
    exact ⟨⟨_, rfl⟩, rfl⟩
  have HE := Lib.hid heach
  clear heach
  go_enter Tryd.func18, Tryd.ntmps18
  go_wp2_with fail
  refine (HE.out _ _).mono ?_
  rintro v w1 ⟨⟨u, rfl⟩, rfl⟩
  go_wp2
  go_returns
  exact ⟨rfl, (Below.refl _ w).alloc (Nat.le_refl _) _⟩
theorem sets_nil (w : World) : Calls Tryd.prog 14 #[.pointer none] w fun v w' => v = .returned (.slice none 0 0) ∧ Below w.heap.size w w' := by
  have heach : ∀ (f : Value) (w : World), Calls Tryd.prog 31 #[.pointer none, f] w fun v w' => (∃ u, v = .returned u) ∧ w' = w := by
    intro f w
    go_enter Tryd.func31, Tryd.ntmps31
    go_wp2
    go_returns
    exact ⟨⟨_, rfl⟩, rfl⟩
  have HE := Lib.hid heach
  clear heach
  go_enter Tryd.func14, Tryd.ntmps14
  go_wp2_with fail
  refine (HE.out _ _).mono ?_
  rintro v w1 ⟨⟨u, rfl⟩, rfl⟩
  go_wp2
  go_returns
  exact ⟨rfl, (Below.refl _ w).alloc (Nat.le_refl _) _⟩
theorem formed_nil (w : World) : Calls Tryd.prog 30 #[.pointer none] w fun v w' => v = .returned (.bool false) ∧ w' = w := by
  go_enter Tryd.func30, Tryd.ntmps30
  go_wp2
  go_returns
  exact ⟨rfl, rfl⟩
theorem right_nil (w : World) : Calls Tryd.prog 12 #[.pointer none] w fun v w' => v = .returned (.bool false) ∧ w' = w := by
  go_enter Tryd.func12, Tryd.ntmps12
  go_wp2_with fail
  refine (formed_nil w).mono ?_
  rintro v w1 ⟨rfl, rfl⟩
  go_wp2
  go_returns
  exact ⟨rfl, rfl⟩
theorem same_nil2 (w : World) : Calls Tryd.prog 10 #[.pointer none, .pointer none] w fun v w' => v = .returned (.bool true) ∧ w' = w := by
  go_enter Tryd.func10, Tryd.ntmps10
  go_wp2
  go_returns
  exact ⟨rfl, rfl⟩
theorem same_nil1 (b : Nat) (w : World) : Calls Tryd.prog 10 #[ptrV b, .pointer none] w fun v w' => v = .returned (.bool false) ∧ w' = w := by
  go_enter Tryd.func10, Tryd.ntmps10
  go_wp2
  go_returns
  exact ⟨rfl, rfl⟩
theorem run_nil_ptr (d b : Nat) (w : World) : (Op.equalIn (d + 1) 23 (.pointer none) (.pointer (some ⟨b, 0, none⟩))).run Tryd.prog w = .ok false w := by
  simp [Op.equalIn, run_underlying Tryd.underlying23]
set_option maxHeartbeats 1000000 in
theorem same_nil0 (b : Nat) (w : World) : Calls Tryd.prog 10 #[.pointer none, ptrV b] w fun v w' => v = .returned (.bool false) ∧ w' = w := by
  have hrun : ∀ w : World, (binOp .eql 23 (.pointer none) (.pointer (some ⟨b, 0, none⟩))).run Tryd.prog w = .ok (.bool false) w := by
    intro w
    simp only [binOp]
    simp [Op.equal, Op.maxDepth, run_nil_ptr 9999 b w]
  go_enter Tryd.func10, Tryd.ntmps10
  go_wp2
  go_returns
  exact ⟨rfl, rfl⟩
def awake6S : ByteArray := { data := #[97, 124, 98, 42] }
def awake6T : Tree := .mk 5 noSet 0 0 false [.mk 1 (oneM 97) 0 0 false [] 0 1, .mk 6 noSet 0 (-1) false [.mk 1 (oneM 98) 0 0 false [] 2 3] 2 4] 0 4
theorem awake6_parse : parseB awake6S = .ok awake6T 4 := by rfl
set_option maxHeartbeats 4000000 in
theorem awake06_at (w : World) (hT : TabOk w) :
    Calls Tryd.prog 7 #[] w fun e w' => e = .returned (.bool true) ∧ Below w.heap.size w w' := by
  go_enter Tryd.func7, Tryd.ntmps7
  go_wp2_with fail
  refine (sparse_at awake6S w hT).mono ?_
  rintro v w1 ⟨hp, hb⟩
  unfold ParseIs at hp
  rw [awake6_parse] at hp
  obtain ⟨b, rfl, htr⟩ := hp
  obtain ⟨A, c, hn, -, hk⟩ := htr.node
  obtain ⟨ga, g0, rfl, -, -⟩ := hk 0 _ rfl
  obtain ⟨ga', g1, e, c1, ht1⟩ := hk 1 _ rfl
  obtain rfl : ga = ga' := by injection e with e; injection e
  obtain ⟨A2, cc2, hn1, -, -⟩ := ht1.node
  have n0 : w1.cell? ⟨b, 0, none⟩ = some (.int .i64 5) := hn.cell 0
  have n8 : w1.cell? ⟨b, 8, none⟩ = some (.slice (some ⟨ga, 0, none⟩) 2 c) := hn.cell 8
  have n1 : w1.cell? ⟨g1, 0, none⟩ = some (.int .i64 6) := hn1.cell 0
  clear hk hn hn1 ht1 htr
  go_wp2
  go_returns
  exact ⟨rfl, hb⟩
end Go.Proofs.YtckoebfmoggeoaaDoor
