/- SyntaxRight: the plain law. -/
import Derived.Test.YtckoebfmoggeoaaDoorBq
import Derived.Test.YtckoebfmoggeoaaDoorBn
import Derived.Deep.Slices
namespace Go.Proofs.YtckoebfmoggeoaaDoor
set_option maxRecDepth 100000
open Go.RowKit
def kidT (s : Nat → Bool) (x : Int) : Tree :=
  if x = 1 then .mk 1 s 0 0 false [] 0 0
  else if x = 2 ∨ x = 3 then .mk x noSet 0 0 false [emptyT 0] 0 0
  else if x = 4 ∨ x = 5 then .mk x noSet 0 0 false [.mk 1 noSet 0 0 false [] 0 0, .mk 1 s 0 0 false [] 0 0] 0 0
  else emptyT 0
def kindX (x : Int) : Int := if 1 ≤ x ∧ x ≤ 5 then x else 0
theorem kidT_kind (s : Nat → Bool) (x : Int) : (kidT s x).kind = kindX x := by
  unfold kidT kindX
  by_cases h1 : x = 1
  · subst h1; rfl
  by_cases h2 : x = 2 ∨ x = 3
  · rw [if_neg h1, if_pos h2, if_pos (by omega)]; rfl
  by_cases h4 : x = 4 ∨ x = 5
  · rw [if_neg h1, if_neg h2, if_pos h4, if_pos (by omega)]; rfl
  rw [if_neg h1, if_neg h2, if_neg h4, if_neg (by omega)]; rfl
theorem eqB_no : eqB noSet (fun _ => false) = true := (eqB_iff _ _).2 fun _ _ => rfl
theorem kidT_fit (s : Nat → Bool) (x : Int) : fitT (kidT s x) = true := by
  unfold kidT
  by_cases h1 : x = 1
  · rw [if_pos h1]; simp [fitT, fitL, formB]
  by_cases h2 : x = 2 ∨ x = 3
  · rw [if_neg h1, if_pos h2]
    rcases h2 with rfl | rfl <;> simp [fitT, fitL, formB, eqB_no, emptyT]
  by_cases h4 : x = 4 ∨ x = 5
  · rw [if_neg h1, if_neg h2, if_pos h4]
    rcases h4 with rfl | rfl <;> simp [fitT, fitL, formB, eqB_no, kdOf, List.range_succ, Tree.kind]
  rw [if_neg h1, if_neg h2, if_neg h4]
  simp [fitT, fitL, formB, eqB_no, emptyT]
theorem kidT_deep (s : Nat → Bool) (x : Int) : deepT (kidT s x) ≤ 1 := by
  unfold kidT
  by_cases h1 : x = 1
  · rw [if_pos h1]; simp [deepT, deepL]
  by_cases h2 : x = 2 ∨ x = 3
  · rw [if_neg h1, if_pos h2]
    rcases h2 with rfl | rfl <;> simp [deepT, deepL, emptyT]
  by_cases h4 : x = 4 ∨ x = 5
  · rw [if_neg h1, if_neg h2, if_pos h4]
    rcases h4 with rfl | rfl <;> simp [deepT, deepL]
  rw [if_neg h1, if_neg h2, if_neg h4]
  simp [deepT, deepL, emptyT]
def rootT (k lo hi : Int) (lazy : Bool) (l : List Int) (s : Nat → Bool) : Tree := .mk k s lo hi lazy (l.map (kidT s)) 0 0
theorem root_fitL (l : List Int) (s : Nat → Bool) : fitL (l.map (kidT s)) = true := (fitL_iff _).2 fun n hn => by
  obtain ⟨x, -, rfl⟩ := List.mem_map.1 hn
  exact kidT_fit s x
theorem root_deepL (l : List Int) (s : Nat → Bool) : deepL (l.map (kidT s)) ≤ 1 := by
  induction l with
  | nil => simp [deepL]
  | cons x l ih =>
    have := kidT_deep s x
    simp only [List.map_cons, deepL]
    omega
theorem root_any (l : List Int) (s : Nat → Bool) (p : Int → Bool) : ((List.range l.length).any fun i => p (kdOf (l.map (kidT s)) i)) = l.any fun x => p (kindX x) := by
  rw [Bool.eq_iff_iff, List.any_eq_true, List.any_eq_true]
  constructor
  · rintro ⟨i, hi, hp⟩
    have hi := List.mem_range.1 hi
    refine ⟨l[i], List.getElem_mem hi, ?_⟩
    rw [kdOf_at (by rw [List.length_map]; exact hi), List.getElem_map, kidT_kind] at hp
    exact hp
  · rintro ⟨x, hx, hp⟩
    obtain ⟨i, hi, rfl⟩ := List.getElem_of_mem hx
    refine ⟨i, List.mem_range.2 hi, ?_⟩
    rw [kdOf_at (by rw [List.length_map]; exact hi), List.getElem_map, kidT_kind]
    exact hp
def noneX (x : Int) : Bool := !(decide (1 ≤ x) && decide (x ≤ 5))
/-- What the law awaits. -/
def wantB (k lo hi : Int) (lazy : Bool) (l : List Int) (z : Bool) : Bool :=
  ((k == 1 || z) && (k == 6 || (lo == 0 && hi == 0 && !lazy))) &&
  (if k = 0 ∨ k = 1 then (l.length : Int) == 0
   else if k = 2 ∨ k = 3 then (l.length : Int) == 1
   else if k = 4 then decide ((1 : Int) < l.length) && !l.any noneX && !l.any (· == 4) && !l.any (· == 5)
   else if k = 5 then decide ((1 : Int) < l.length) && !l.any (· == 5)
   else if k = 6 then (l.length : Int) == 1 && !l.any noneX && !l.any (· == 4) && !l.any (· == 5) && decide (0 ≤ lo) && decide (lo ≤ 1000) && (hi == -1 || (decide (lo ≤ hi) && decide (hi ≤ 1000)))
   else false)
theorem any3 (l : List Int) : (l.any fun x => [4, 0, 5].contains (kindX x)) = (l.any noneX || l.any (· == 4) || l.any (· == 5)) := by
  induction l with
  | nil => rfl
  | cons x l ih =>
    simp only [List.any_cons]
    rw [ih]
    have hx : [4, 0, 5].contains (kindX x) = (noneX x || x == 4 || x == 5) := by
      unfold kindX noneX
      by_cases h : 1 ≤ x ∧ x ≤ 5
      · rw [if_pos h, decide_eq_true h.1, decide_eq_true h.2]
        have h0 : (x == 0) = false := by rw [beq_eq_false_iff_ne]; omega
        simp only [List.contains_cons, List.contains_nil, h0]
        cases (x == 4) <;> cases (x == 5) <;> rfl
      · rw [if_neg h]
        have : (!(decide (1 ≤ x) && decide (x ≤ 5))) = true := by
          simp only [Bool.not_eq_true', Bool.and_eq_false_iff, decide_eq_false_iff_not]
          omega
        rw [this]
        rfl
    rw [hx]
    cases noneX x <;> cases (x == 4) <;> cases (x == 5) <;> cases l.any noneX <;> cases l.any (· == 4) <;> cases l.any (· == 5) <;> rfl
theorem any1 (l : List Int) : (l.any fun x => [5].contains (kindX x)) = l.any (· == 5) := by
  congr 1
  funext x
  unfold kindX
  by_cases h : 1 ≤ x ∧ x ≤ 5
  · rw [if_pos h]
    simp only [List.contains_cons, List.contains_nil, Bool.or_false]
  · rw [if_neg h]
    have h0 : (x == 5) = false := by rw [beq_eq_false_iff_ne]; omega
    rw [h0]
    rfl
theorem root_six (x : Int) : (kindX x == 1 || grpB (kindX x)) = (!noneX x && !(x == 4) && !(x == 5)) := by
  by_cases h : 1 ≤ x ∧ x ≤ 5
  · have h5 : x = 1 ∨ x = 2 ∨ x = 3 ∨ x = 4 ∨ x = 5 := by omega
    rcases h5 with rfl | rfl | rfl | rfl | rfl <;> decide
  · have hk : kindX x = 0 := by unfold kindX; rw [if_neg h]
    have hn : noneX x = true := by
      unfold noneX
      simp only [Bool.not_eq_true', Bool.and_eq_false_iff, decide_eq_false_iff_not]
      omega
    rw [hk, hn]
    rfl
theorem root_fit (k lo hi : Int) (lazy : Bool) (l : List Int) (s : Nat → Bool) : (fitT (rootT k lo hi lazy l s) && decide (deepT (rootT k lo hi lazy l s) ≤ 200)) = wantB k lo hi lazy l (eqB s (fun _ => false)) := by
  have hd : deepT (rootT k lo hi lazy l s) ≤ 200 := by
    have := root_deepL l s
    unfold rootT
    rw [deepT_mk]
    split <;> omega
  rw [decide_eq_true hd, Bool.and_true]
  unfold rootT
  simp only [fitT]
  rw [root_fitL, Bool.and_true, List.length_map]
  generalize eqB s (fun _ => false) = z
  unfold formB wantB
  rw [root_any l s (fun y => [4, 0, 5].contains y), root_any l s (fun y => [5].contains y), any3, any1]
  by_cases h6 : k = 6
  · subst h6
    cases z with
    | false => simp
    | true =>
      by_cases hl : l.length = 1
      · obtain ⟨x, rfl⟩ := List.length_eq_one_iff.1 hl
        rw [kdOf_at (by simp), List.getElem_map, kidT_kind]
        simp only [List.getElem_cons_zero, List.any_cons, List.any_nil, Bool.or_false, List.length_singleton]
        have hx : (kindX x == 1 || grpB (kindX x)) = (!noneX x && !(x == 4) && !(x == 5)) := root_six x
        rw [hx]
        generalize (hi == -1 || (decide (lo ≤ hi) && decide (hi ≤ 1000))) = c3
        cases noneX x <;> cases (x == 4) <;> cases (x == 5) <;> cases decide (0 ≤ lo) <;> cases decide (lo ≤ 1000) <;> cases c3 <;> rfl
      · have hN : ((l.length : Int) == 1) = false := by rw [beq_eq_false_iff_ne]; omega
        simp [hN]
  · have g6 : (k == 6) = false := by rw [beq_eq_false_iff_ne]; exact h6
    have e6 : (k != 6) = true := by simp [bne, g6]
    have e1 : (k != 1) = !(k == 1) := rfl
    rw [e6, e1, g6, if_neg h6, if_neg h6]
    generalize (lo == 0 && hi == 0 && !lazy) = pl
    generalize (k == 1) = k1
    cases k1 <;> cases z <;> cases pl <;> simp [Bool.and_assoc]
end Go.Proofs.YtckoebfmoggeoaaDoor
/- Trees of one node, and of one or two below it, as they are laid. -/
namespace Go.Proofs.YtckoebfmoggeoaaDoor
set_option maxRecDepth 100000
open Go.RowKit
/-- The slice value v reads as the numbers l, however many. -/
def RdL (w : World) (k : IntKind) (v : Value) (l : List Int) : Prop :=
  ∃ A c, v = .slice A l.length c ∧ l.length ≤ c ∧ l.length ≤ 9223372036854775807 ∧ ∀ i x, l[i]? = some x → ∃ ad, A = some ad ∧ ad.block < w.heap.size ∧ w.cell? (ad.add i) = some (.int k x)
theorem kid1 (s : Nat → Bool) : kidT s 1 = .mk 1 s 0 0 false [] 0 0 := by simp [kidT]
theorem kid2 (s : Nat → Bool) : kidT s 2 = .mk 2 noSet 0 0 false [.mk 0 noSet 0 0 false [] 0 0] 0 0 := by simp [kidT, emptyT]
theorem kid3 (s : Nat → Bool) : kidT s 3 = .mk 3 noSet 0 0 false [.mk 0 noSet 0 0 false [] 0 0] 0 0 := by simp [kidT, emptyT]
theorem kid4 (s : Nat → Bool) : kidT s 4 = .mk 4 noSet 0 0 false [.mk 1 noSet 0 0 false [] 0 0, .mk 1 s 0 0 false [] 0 0] 0 0 := by simp [kidT]
theorem kid5 (s : Nat → Bool) : kidT s 5 = .mk 5 noSet 0 0 false [.mk 1 noSet 0 0 false [] 0 0, .mk 1 s 0 0 false [] 0 0] 0 0 := by simp [kidT]
theorem from_le {w : World} {q : Nat} (h : w.heap.size ≤ q) : From w q := h
abbrev zeroL (k : Int) (L : Value) : List Value := [.int .i64 k, .int .u64 0, .int .u64 0, .int .u64 0, .int .u64 0, .int .i64 0, .int .i64 0, .bool false, L, .int .i64 0, .int .i64 0]
theorem zero_node {w : World} {b t : Nat} {k : Int} {L : Value} (h : Blk w b t (zeroL k L)) : Blk w b t (nodeL k noSet 0 0 false L 0 0) := by
  rw [nodeL_noset]
  exact h
theorem lay_leaf {w : World} {S : Nat → Prop} {b f t : Nat} {k lo hi : Int} {set : Nat → Bool} {lazy : Bool} {c : Nat} {A : Option Addr} (hS : S b) (hb : Blk w b 44 (nodeL k set lo hi lazy (.slice A 0 c) f t)) :
    TreeAt w S (.mk k set lo hi lazy [] f t) b :=
  .mk (ga := 0) (bs := []) (c := c) (A := A) hS hb rfl (Nat.zero_le _) (fun h => absurd rfl h) (fun i g h => by cases h) (fun i n g h => by cases h)
theorem lay_one {w : World} {S : Nat → Prop} {b b1 g f t c : Nat} {k lo hi : Int} {set : Nat → Bool} {lazy : Bool} {n : Tree} (hS : S b) (hg : S g) (hb : Blk w b 44 (nodeL k set lo hi lazy (.slice (some ⟨g, 0, none⟩) 1 c) f t))
    (h0 : w.cell? ⟨g, 0, none⟩ = some (ptrV b1)) (h1 : TreeAt w S n b1) : TreeAt w S (.mk k set lo hi lazy [n] f t) b :=
  .mk (ga := g) (bs := [b1]) (c := c) hS hb rfl (by simp) (fun _ => ⟨rfl, hg⟩)
    (fun i q h => by
      rcases i with - | i
      · injection h with h
        subst h
        exact h0
      · cases h)
    (fun i m q h hq => by
      rcases i with - | i
      · injection h with h
        injection hq with hq
        subst h
        subst hq
        exact h1
      · cases h)
theorem lay_two {w : World} {S : Nat → Prop} {b b1 b2 g f t c : Nat} {k lo hi : Int} {set : Nat → Bool} {lazy : Bool} {n m : Tree} (hS : S b) (hg : S g) (hb : Blk w b 44 (nodeL k set lo hi lazy (.slice (some ⟨g, 0, none⟩) 2 c) f t))
    (h0 : w.cell? ⟨g, 0, none⟩ = some (ptrV b1)) (h1 : TreeAt w S n b1) (h2 : w.cell? ⟨g, 1, none⟩ = some (ptrV b2)) (h3 : TreeAt w S m b2) : TreeAt w S (.mk k set lo hi lazy [n, m] f t) b :=
  .mk (ga := g) (bs := [b1, b2]) (c := c) hS hb rfl (by simp) (fun _ => ⟨rfl, hg⟩)
    (fun i q h => by
      rcases i with - | - | i
      · injection h with h
        subst h
        exact h0
      · injection h with h
        subst h
        exact h2
      · cases h)
    (fun i x q h hq => by
      rcases i with - | - | i
      · injection h with h
        injection hq with hq
        subst h
        subst hq
        exact h1
      · injection h with h
        injection hq with hq
        subst h
        subst hq
        exact h3
      · cases h)
theorem kindX_rng (x : Int) : 0 ≤ kindX x ∧ kindX x ≤ 9223372036854775807 := by
  unfold kindX
  split <;> omega
theorem kids_rng (l : List Int) (s : Nat → Bool) (i : Nat) : 0 ≤ kdOf (l.map (kidT s)) i ∧ kdOf (l.map (kidT s)) i ≤ 9223372036854775807 := by
  rcases Nat.lt_or_ge i l.length with h | h
  · rw [kdOf_at (by rw [List.length_map]; exact h), List.getElem_map, kidT_kind]
    exact kindX_rng _
  · unfold kdOf
    rw [List.getElem?_eq_none (by rw [List.length_map]; exact h)]
    exact ⟨Int.le_refl _, by decide⟩
theorem kdOf_nil (i : Nat) : kdOf [] i = 0 := rfl
theorem kdOf_one (n : Tree) (i : Nat) : kdOf [n] i = if i = 0 then n.kind else 0 := by
  rcases i with - | i <;> rfl
theorem kdOf_two (n m : Tree) (i : Nat) : kdOf [n, m] i = if i = 0 then n.kind else if i = 1 then m.kind else 0 := by
  rcases i with - | - | i <;> rfl
theorem kidT_rng (s : Nat → Bool) (x : Int) : RngT (kidT s x) := by
  unfold kidT
  split
  · simp [RngT, RngL, kdOf_nil]
  · split
    · simp only [RngT, RngL, emptyT, kdOf_nil, kdOf_one, Tree.kind]
      refine ⟨by omega, by omega, fun i => by split <;> omega, ⟨by omega, by omega, fun i => by omega, trivial⟩, trivial⟩
    · split
      · simp only [RngT, RngL, kdOf_nil, kdOf_two, Tree.kind]
        refine ⟨by omega, by omega, fun i => by split <;> (try split) <;> omega, ⟨by omega, by omega, fun i => by omega, trivial⟩, ⟨by omega, by omega, fun i => by omega, trivial⟩, trivial⟩
      · simp [RngT, RngL, kdOf_nil, emptyT]
theorem kids_rngL (l : List Int) (s : Nat → Bool) : RngL (l.map (kidT s)) := by
  induction l with
  | nil => trivial
  | cons x l ih => exact ⟨kidT_rng s x, ih⟩
theorem root_deep (k lo hi : Int) (lazy : Bool) (l : List Int) (s : Nat → Bool) : deepT (rootT k lo hi lazy l s) ≤ 1000000 := by
  have := root_deepL l s
  unfold rootT
  rw [deepT_mk]
  split <;> omega
end Go.Proofs.YtckoebfmoggeoaaDoor
/- How an argument []int is opened. -/
namespace Go.Proofs.YtckoebfmoggeoaaDoor
set_option maxRecDepth 100000
open Go.ChangeShapes Go.WideShapes Go.ChangeAt Go.RowKit Go.Deep
theorem i64_bounds {n : Int} (h : (Lit.int .i64 n).wf = true) : -9223372036854775808 ≤ n ∧ n ≤ 9223372036854775807 := by
  simp [Lit.wf, IntKind.min, IntKind.max, IntKind.signed, IntKind.bits] at h
  omega
theorem open_intsL {H : Type} {enc : TypeId × Value → H} {W : World} {base : Nat} {v : Value} {d : DataW H} {p : List MemPlace} (hv : Value.okWide Tryd.prog W .any base 40 v)
    (h : DataW.Trod enc Tryd.prog W 0 (fun _ => true) true 40 v d p) : ∃ l : List Int, RdL W .i64 v l := by
  obtain ⟨a0, len, cap, rfl⟩ := okWide_slice Tryd.underlying40 hv
  obtain ⟨fuel, hf⟩ := h
  have hC : Tryd.prog.cellsOf 3 = 1 := by kernel_rfl
  rcases open_slice1 Tryd.underlying40 hC hf with ⟨hcs, _⟩ | ⟨a, len', cap', m, n, V, D, Pl, hcs, _, hle, hmax, hm, _, hx⟩
  · simp [Value.cells] at hcs
    obtain ⟨rfl, rfl, rfl⟩ := hcs
    exact ⟨[], none, 0, rfl, Nat.le_refl _, Nat.zero_le _, fun i p h => by simp at h⟩
  · simp [Value.cells] at hcs
    obtain ⟨rfl, rfl, rfl⟩ := hcs
    simp only [if_true] at hm
    subst hm
    obtain ⟨Z, hZ⟩ := choose_lt (α := Int) (n := len) (p := fun i z => W.cell? (a.add i) = some (.int .i64 z)) (fun i hi => by
      obtain ⟨hc, ht⟩ := hx i (by omega)
      obtain ⟨z, hcs, _, wz⟩ := DataW.trod_int Tryd.underlying3 ht
      simp at hcs
      rw [hcs] at hc
      exact ⟨z, hc⟩)
    refine ⟨(List.range len).map Z, some a, m, by simp, by simpa using hle, by unfold maxLen at hmax; simp; omega, fun i p hi => ?_⟩
    rw [List.getElem?_map] at hi
    obtain ⟨j, hj, rfl⟩ := Option.map_eq_some_iff.1 hi
    have hlt : i < len := by
      have := (List.getElem?_eq_some_iff.1 hj).1
      simpa using this
    rw [List.getElem?_range hlt] at hj
    obtain rfl := Option.some.inj hj
    have h := hZ i hlt
    exact ⟨a, rfl, by have := cell_lt' h; rwa [add_block] at this, h⟩
end Go.Proofs.YtckoebfmoggeoaaDoor
