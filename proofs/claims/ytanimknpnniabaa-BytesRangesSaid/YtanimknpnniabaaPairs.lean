/- Rows of pairs of bytes; a rising list's runs. -/
import Derived.Test.YtanimknpnniabaaCount
import Derived.Test.YtanimknpnniabaaUnion
namespace Go.Proofs.Ytanimknpnniabaa
open Go.RowKit
def pairsC (l : List (Int × Int)) : List Value := l.flatMap fun p => [.int .u8 p.1, .int .u8 p.2]
theorem pairsC_length (l : List (Int × Int)) : (pairsC l).length = l.length * 2 := by
  induction l with
  | nil => rfl
  | cons p l ih =>
    simp only [pairsC, List.flatMap_cons, List.length_append, List.length_cons, List.length_nil] at ih ⊢
    omega
theorem pairsC_append (a b : List (Int × Int)) : pairsC (a ++ b) = pairsC a ++ pairsC b := by simp [pairsC]
theorem pairsC_at (l : List (Int × Int)) : ∀ i p, l[i]? = some p → (pairsC l)[i * 2]? = some (.int .u8 p.1) ∧ (pairsC l)[i * 2 + 1]? = some (.int .u8 p.2) := by
  induction l with
  | nil => intro i p h; simp at h
  | cons q l ih =>
    intro i p h
    match i, h with
    | 0, h =>
      simp only [List.getElem?_cons_zero, Option.some.injEq] at h
      subst h
      exact ⟨rfl, rfl⟩
    | i + 1, h =>
      rw [List.getElem?_cons_succ] at h
      have h2 := ih i p h
      rw [show (i + 1) * 2 = i * 2 + 1 + 1 by omega]
      exact h2
theorem pairs_put (L : List (Int × Int)) (lo hi b : Int) : pairsC (L ++ [(lo, b)]) = (pairsC (L ++ [(lo, hi)])).set (L.length * 2 + 1) (.int .u8 b) := by
  rw [pairsC_append, pairsC_append, ← pairsC_length, List.set_append_right _ _ (by omega)]
  congr 1
  rw [show (pairsC L).length + 1 - (pairsC L).length = 1 by omega]
  rfl
def runStep (out : List (Int × Int)) (b : Int) : List (Int × Int) :=
  match out.getLast? with
  | some p => if p.2 + 1 = b then out.dropLast ++ [(p.1, b)] else out ++ [(b, b)]
  | none => [(b, b)]
def runsM (l : List Int) : List (Int × Int) := l.foldl runStep []
theorem runsM_snoc (l : List Int) (b : Int) : runsM (l ++ [b]) = runStep (runsM l) b := by simp [runsM]
theorem runStep_nil (b : Int) : runStep [] b = [(b, b)] := rfl
theorem runStep_more (L : List (Int × Int)) (lo hi b : Int) (h : hi + 1 = b) : runStep (L ++ [(lo, hi)]) b = L ++ [(lo, b)] := by simp [runStep, h]
theorem runStep_new (L : List (Int × Int)) (lo hi b : Int) (h : hi + 1 ≠ b) : runStep (L ++ [(lo, hi)]) b = (L ++ [(lo, hi)]) ++ [(b, b)] := by simp [runStep, h]
/-- Runs: what they have, that they rise, and none is beside another one. -/
structure RunsOK (out : List (Int × Int)) (l : List Int) : Prop where
  has : ∀ x, (∃ p ∈ out, p.1 ≤ x ∧ x ≤ p.2) ↔ x ∈ l
  le : ∀ p ∈ out, p.1 ≤ p.2
  gap : out.Pairwise fun p q => p.2 + 1 < q.1
  short : out.length ≤ l.length
theorem some_snoc {α : Type} {P : α → Prop} (L : List α) (q : α) : (∃ p ∈ L ++ [q], P p) ↔ (∃ p ∈ L, P p) ∨ P q := by
  constructor
  · rintro ⟨p, hp, h⟩
    rcases List.mem_append.1 hp with hp | hp
    · exact .inl ⟨p, hp, h⟩
    · obtain rfl := List.mem_singleton.1 hp
      exact .inr h
  · rintro (⟨p, hp, h⟩ | h)
    · exact ⟨p, List.mem_append_left _ hp, h⟩
    · exact ⟨q, by simp, h⟩
theorem runs_step {out : List (Int × Int)} {l : List Int} {b : Int} (h : RunsOK out l) (hb : ∀ x ∈ l, x < b) : RunsOK (runStep out b) (l ++ [b]) := by
  rcases List.eq_nil_or_concat out with rfl | ⟨L, ⟨lo, hi⟩, rfl⟩
  · rw [runStep_nil]
    refine ⟨fun x => ?_, ?_, ?_, ?_⟩
    · have := h.has x
      simp only [List.not_mem_nil, false_and, exists_false, false_iff] at this
      simp only [List.mem_singleton, exists_eq_left, List.mem_append, this, false_or]
      omega
    · simp
    · simp
    · simp
  · rw [List.concat_eq_append] at h ⊢
    have hlo : lo ≤ hi := h.le (lo, hi) (by simp)
    have hhi : hi < b := hb hi ((h.has hi).1 ⟨(lo, hi), by simp, hlo, Int.le_refl _⟩)
    have hg := List.pairwise_append.1 h.gap
    have hsh := h.short
    by_cases e : hi + 1 = b
    · rw [runStep_more L lo hi b e]
      refine ⟨fun x => ?_, ?_, ?_, ?_⟩
      · have := h.has x
        rw [List.mem_append, List.mem_singleton, ← this, some_snoc, some_snoc, or_assoc]
        refine or_congr Iff.rfl ?_
        simp only []
        omega
      · intro p hp
        rcases List.mem_append.1 hp with hp | hp
        · exact h.le p (by simp [hp])
        · obtain rfl := List.mem_singleton.1 hp
          simp only []
          omega
      · refine List.pairwise_append.2 ⟨hg.1, by simp, fun p hp q hq => ?_⟩
        obtain rfl := List.mem_singleton.1 hq
        exact hg.2.2 p hp (lo, hi) (by simp)
      · simp only [List.length_append, List.length_singleton] at hsh ⊢
        omega
    · rw [runStep_new L lo hi b e]
      refine ⟨fun x => ?_, ?_, ?_, ?_⟩
      · have := h.has x
        rw [List.mem_append, List.mem_singleton, ← this, some_snoc]
        refine or_congr Iff.rfl ?_
        simp only []
        omega
      · intro p hp
        rcases List.mem_append.1 hp with hp | hp
        · exact h.le p hp
        · obtain rfl := List.mem_singleton.1 hp
          exact Int.le_refl _
      · refine List.pairwise_append.2 ⟨h.gap, by simp, fun p hp q hq => ?_⟩
        obtain rfl := List.mem_singleton.1 hq
        rcases List.mem_append.1 hp with hp | hp
        · have := hg.2.2 p hp (lo, hi) (by simp)
          simp only [] at this ⊢
          omega
        · obtain rfl := List.mem_singleton.1 hp
          simp only []
          omega
      · simp only [List.length_append, List.length_singleton] at hsh ⊢
        omega
theorem runs_ok (l : List Int) : ∀ k, (∀ i j : Nat, i < j → ∀ x y : Int, l[i]? = some x → l[j]? = some y → x < y) → k ≤ l.length → RunsOK (runsM (l.take k)) (l.take k) := by
  intro k hs
  induction k with
  | zero => intro _; rw [List.take_zero]; exact ⟨by simp [runsM], by simp [runsM], by simp [runsM], by simp [runsM]⟩
  | succ k ih =>
    intro hk
    have hlt : k < l.length := by omega
    rw [List.take_succ_eq_append_getElem hlt, runsM_snoc]
    refine runs_step (ih (by omega)) fun x hx => ?_
    obtain ⟨i, hi, rfl⟩ := List.getElem_of_mem hx
    rw [List.length_take] at hi
    rw [List.getElem_take]
    exact hs i k (by omega) _ _ (List.getElem?_eq_getElem (by omega)) (List.getElem?_eq_getElem hlt)
theorem own_pair {w : World} {base : Nat} {e : TypeId} {g n cap : Nat} {l : List (Int × Int)} (h : w.ownsRow base e 2 (.slice (some ⟨g, 0, none⟩) n cap) n (pairsC l)) (i : Nat) (p : Int × Int) (hi : l[i]? = some p) :
    w.cell? ⟨g, i * 2, none⟩ = some (.int .u8 p.1) ∧ w.cell? ⟨g, i * 2 + 1, none⟩ = some (.int .u8 p.2) := by
  have hn : l.length = n := by have := h.1; rw [pairsC_length] at this; omega
  have hlt := (List.getElem?_eq_some_iff.1 hi).1
  obtain ⟨h0, h1⟩ := pairsC_at l i p hi
  exact ⟨(h.cellAt _ (by omega)).trans h0, (h.cellAt _ (by omega)).trans h1⟩
/-- The slice value v reads as pairs of bytes. -/
def RdP (w : World) (v : Value) (l : List (Int × Int)) : Prop :=
  ∃ A c, v = .slice A l.length c ∧ l.length ≤ c ∧ l.length ≤ 9223372036854775807 ∧ ∀ i p, l[i]? = some p → ∃ ad, A = some ad ∧ ad.block < w.heap.size ∧
    w.cell? (ad.add (i * 2)) = some (.int .u8 p.1) ∧ w.cell? ⟨(ad.add (i * 2)).block, (ad.add (i * 2)).off + 1, none⟩ = some (.int .u8 p.2)
theorem RdP.below {w w' : World} {v : Value} {l : List (Int × Int)} (h : RdP w v l) (hb : Below w.heap.size w w') : RdP w' v l := by
  obtain ⟨A, c, rfl, h1, h2, h3⟩ := h
  refine ⟨A, c, rfl, h1, h2, fun i x hi => ?_⟩
  obtain ⟨ad, rfl, hlt, c0, c1⟩ := h3 i x hi
  have hl : (ad.add (i * 2)).block < w.heap.size := by rw [add_block]; exact hlt
  exact ⟨ad, rfl, Nat.lt_of_lt_of_le hlt hb.size, (hb.cell hl).trans c0, (hb.cell (p := ⟨(ad.add (i * 2)).block, (ad.add (i * 2)).off + 1, none⟩) hl).trans c1⟩
theorem own_rdP {w : World} {base : Nat} {e : TypeId} {v : Value} {n : Nat} {l : List (Int × Int)} (h : w.ownsRow base e 2 v n (pairsC l)) (hn : n ≤ 140737488355328) : RdP w v l := by
  have hlen : l.length = n := by have := h.1; rw [pairsC_length] at this; omega
  have h' := h
  rcases h.2 with ⟨rfl, h0⟩ | ⟨g, cap, cur, rfl, hb, hg, h1, h2, h3, h4⟩
  · refine ⟨none, 0, by rw [hlen, h0], by omega, by omega, fun i x hi => ?_⟩
    rw [List.eq_nil_of_length_eq_zero (by omega : l.length = 0)] at hi
    simp at hi
  · refine ⟨some ⟨g, 0, none⟩, cap, by rw [hlen], by omega, by omega, fun i x hi => ⟨_, rfl, (Array.getElem?_eq_some_iff.1 hg).1, ?_⟩⟩
    have hc := own_pair h' i x hi
    rw [show (⟨g, 0, none⟩ : Addr).add (i * 2) = ⟨g, i * 2, none⟩ by unfold Addr.add; split <;> simp_all]
    exact hc
def fromM (l : List (Int × Int)) (x : Nat) : Bool := l.any fun p => rangeM p.1 p.2 x
theorem fromM_snoc (l : List (Int × Int)) (p : Int × Int) : anyM [fromM l, rangeM p.1 p.2] = fromM (l ++ [p]) := by
  funext x
  simp [anyM, fromM]
theorem two_int (k : IntKind) (n m : Int) : ∀ u ∈ [Value.int k n, Value.int k m], u.oneCell' = true := by
  intro u hu
  simp only [List.mem_cons, List.not_mem_nil, or_false] at hu
  rcases hu with rfl | rfl <;> rfl
theorem own_form {w : World} {base : Nat} {e : TypeId} {size : Nat} {v : Value} {n : Nat} {xs : List Value} (h : w.ownsRow base e size v n xs) : ∃ A c, v = .slice A n c := by
  rcases h.2 with ⟨rfl, rfl⟩ | ⟨g, cap, cur, rfl, _⟩
  · exact ⟨_, _, rfl⟩
  · exact ⟨_, _, rfl⟩
theorem elem_pair : Elem Try.prog 37 40 2 2 := by
  obtain ⟨i, hi, h0, h1, h2⟩ := info_parts (by kernel_rfl : (Try.prog.info? 40).map (fun i => (i.zero, i.size, i.bytes)) = some (some (.agg #[.int .u8 0, .int .u8 0]), 2, 2))
  exact ⟨i, _, Try.underlying37, hi, h0, h1, h2, rfl, by decide⟩
end Go.Proofs.Ytanimknpnniabaa
