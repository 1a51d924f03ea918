/- The list of the classes' least bytes. No program in sight. -/
import Derived.Test.YtanimknpnniabaaDoorMeth
namespace Go.Proofs.YtanimknpnniabaaDoor
open Go.RowKit
section
variable {κ : Type} [DecidableEq κ] {key : Nat → κ}
theorem first_or (b : Nat) : (∀ c, c < b → key c ≠ key b) ∨ ∃ c, c < b ∧ key c = key b := by
  by_cases h : ∀ c, c < b → key c ≠ key b
  · exact .inl h
  · refine .inr ?_
    apply Classical.byContradiction
    intro g
    exact h fun c hc e => g ⟨c, hc, e⟩
theorem firsts_at (n k c : Nat) (h : (firsts key n)[k]? = some c) : c < n ∧ numOf key c = k ∧ ∀ d, d < c → key d ≠ key c := by
  induction n with
  | zero => simp [firsts] at h
  | succ n ih =>
    rw [firsts_succ] at h
    split at h
    · rename_i hf
      rcases Nat.lt_or_ge k (firsts key n).length with hlt | hge
      · rw [List.getElem?_append_left hlt] at h
        obtain ⟨h1, h2⟩ := ih h
        exact ⟨by omega, h2⟩
      · rw [List.getElem?_append_right hge] at h
        have hk : k - (firsts key n).length = 0 := by
          rcases Nat.eq_zero_or_pos (k - (firsts key n).length) with e | e
          · exact e
          · rw [List.getElem?_eq_none (by simp; omega)] at h
            cases h
        rw [hk] at h
        simp only [List.getElem?_cons_zero, Option.some.injEq] at h
        subst h
        refine ⟨by omega, ?_, hf⟩
        rw [num_first hf]
        show (firsts key n).length = k
        omega
    · obtain ⟨h1, h2⟩ := ih h
      exact ⟨by omega, h2⟩
theorem firsts_get (n k : Nat) (h : k < cntOf key n) : ∃ c, (firsts key n)[k]? = some c ∧ c < n ∧ numOf key c = k ∧ ∀ d, d < c → key d ≠ key c :=
  ⟨_, List.getElem?_eq_getElem h, firsts_at n k _ (List.getElem?_eq_getElem h)⟩
/-- A class that was met ahead; one that wasn't. -/
theorem met_old {b : Nat} (h : numOf key b < cntOf key b) : firsts key (b + 1) = firsts key b := by
  rw [firsts_succ, if_neg]
  intro hf
  rw [num_first hf] at h
  omega
theorem met_new {b : Nat} (h : ¬numOf key b < cntOf key b) : numOf key b = cntOf key b ∧ firsts key (b + 1) = firsts key b ++ [b] := by
  rcases first_or (key := key) b with hf | ⟨c, hc, e⟩
  · exact ⟨num_first hf, by rw [firsts_succ, if_pos hf]⟩
  · exact absurd (num_congr e ▸ numOf_lt hc) h
end
/-- The number under which a class is found among the first k; -1: it isn't. -/
def wantAt (q k : Nat) : Int := if q < k then q else -1
theorem want_zero (q : Nat) : wantAt q 0 = -1 := rfl
theorem want_lt {q k : Nat} (h : q < k) : wantAt q k = q := if_pos h
theorem want_ge {q k : Nat} (h : ¬q < k) : wantAt q k = -1 := if_neg h
theorem want_hit {q k : Nat} (h : q = k) : wantAt q (k + 1) = k := by rw [want_lt (by omega), h]
theorem want_miss {q k : Nat} (h : q ≠ k) : wantAt q (k + 1) = wantAt q k := by
  unfold wantAt
  by_cases e : q < k
  · rw [if_pos e, if_pos (by omega)]
  · rw [if_neg e, if_neg (by omega)]
def fsZ (l : List (Nat → Bool)) (n : Nat) : List Int := (firsts (keyL l) n).map fun c => ((c : Nat) : Int)
theorem fsZ_length (l : List (Nat → Bool)) (n : Nat) : (fsZ l n).length = cntOf (keyL l) n := by simp [fsZ, cntOf]
theorem first_class (l : List (Nat → Bool)) (k c : Nat) (h : (firsts (keyL l) 256)[k]? = some c) : firstM (clsZ (numL l) k) = some c := by
  obtain ⟨h1, h2, h3⟩ := firsts_at _ _ _ h
  refine firstM_some ?_ h1 fun j hj => ?_
  · simp [clsZ, h1, numL, h2]
  · have hne : ¬((numL l j : Int) = k) := by
      intro e
      have e' : numOf (keyL l) j = numOf (keyL l) c := by
        rw [h2]
        have : (numL l j : Int) = k := e
        unfold numL at this
        omega
      exact h3 j hj (num_inj e')
    simp [clsZ, hne]
theorem elem_int : Elem Tryd.prog 26 3 1 8 := by
  obtain ⟨i, hi, h0, h1, h2⟩ := info_parts (by kernel_rfl : (Tryd.prog.info? 3).map (fun i => (i.zero, i.size, i.bytes)) = some (some (.int .i64 0), 1, 8))
  exact ⟨i, _, Tryd.underlying26, hi, h0, h1, h2, rfl, by omega⟩
/-- RdS, whatever its length. -/
def RdSw (w : World) (v : Value) (l : List (Nat → Bool)) : Prop :=
  ∃ A c, v = .slice A l.length c ∧ l.length ≤ c ∧ l.length ≤ 9223372036854775807 ∧ ∀ i m, l[i]? = some m → ∃ ad, A = some ad ∧ ad.block < w.heap.size ∧
    w.cell? (ad.add (i * 4)) = some (.int .u64 (word m 0)) ∧ w.cell? ⟨(ad.add (i * 4)).block, (ad.add (i * 4)).off + 1, none⟩ = some (.int .u64 (word m 1)) ∧
    w.cell? ⟨(ad.add (i * 4)).block, (ad.add (i * 4)).off + 2, none⟩ = some (.int .u64 (word m 2)) ∧ w.cell? ⟨(ad.add (i * 4)).block, (ad.add (i * 4)).off + 3, none⟩ = some (.int .u64 (word m 3))
theorem RdSw.rdS {w : World} {v : Value} {l : List (Nat → Bool)} (h : RdSw w v l) (hl : l.length ≤ 1000) : RdS w v l := by
  obtain ⟨A, c, rfl, h1, _, h3⟩ := h
  exact ⟨A, c, rfl, h1, by omega, h3⟩
theorem own_shape {w : World} {base : Nat} {e : TypeId} {size : Nat} {v : Value} {n : Nat} {xs : List Value} (h : w.ownsRow base e size v n xs) : ∃ A c, v = .slice A n c := by
  rcases h.2 with ⟨rfl, rfl⟩ | ⟨g, cap, cur, rfl, _⟩
  · exact ⟨none, 0, rfl⟩
  · exact ⟨_, _, rfl⟩
theorem own_at {w : World} {base : Nat} {e : TypeId} {k : IntKind} {A : Option Addr} {n c : Nat} {l : List Int} (h : w.ownsRow base e 1 (.slice A n c) n (l.map (.int k))) (i : Nat) (x : Int) (hi : l[i]? = some x) :
    ∃ ad, A = some ad ∧ base ≤ ad.block ∧ ad.block < w.heap.size ∧ w.cell? (ad.add i) = some (.int k x) := by
  obtain ⟨A2, c2, e2, _, h2⟩ := own_cells h
  injection e2 with e3 e4 e5
  subst e3
  exact h2 i x hi
theorem fsZ_get (l : List (Nat → Bool)) (n k c : Nat) (h : (firsts (keyL l) n)[k]? = some c) : (fsZ l n)[k]? = some ((c : Nat) : Int) := by simp [fsZ, h]
end Go.Proofs.YtanimknpnniabaaDoor
