/- Unlike sets are told unlike, unlike bytes too: plain. -/
import Derived.Test.YtpiimcbbgalhfaaGreatDoorCc
namespace Go.Proofs.YtpiimcbbgalhfaaGreatDoor
set_option maxRecDepth 100000
open Go.RowKit
theorem toList_eq (s : ByteArray) : s.toList = s.data.toList := by
  have hl : ∀ (n i : Nat) (r : List UInt8), n = s.size - i → ByteArray.toList.loop s i r = r.reverse ++ s.data.toList.drop i := by
    intro n
    induction n with
    | zero =>
      intro i r hn
      unfold ByteArray.toList.loop
      rw [if_neg (by omega), List.drop_eq_nil_of_le (by rw [Array.length_toList]; exact (by omega : s.size ≤ i))]
      simp
    | succ n ih =>
      intro i r hn
      have hi : i < s.size := by omega
      have hi2 : i < s.data.toList.length := by rw [Array.length_toList]; exact hi
      unfold ByteArray.toList.loop
      rw [if_pos hi, ih (i + 1) _ (by omega), List.drop_eq_getElem_cons hi2]
      simp [ByteArray.get!, hi]
  rw [ByteArray.toList, hl _ 0 [] rfl]
  simp
abbrev bL (b : Nat) : List UInt8 := (byteS b).data.toList
def hv (c : UInt8) : Nat := if c.toNat < 58 then c.toNat - 48 else c.toNat - 87
/-- The byte that stands ahead in a text, and how many bytes it takes. -/
def decB : List UInt8 → Nat
  | 92 :: 120 :: h :: k :: _ => hv h * 16 + hv k
  | 92 :: c :: _ => c.toNat
  | c :: _ => c.toNat
  | [] => 0
def shapeB (b : Nat) : Bool := match bL b with
  | [c] => c != 92 && c.toNat == b && c != 45 && c != 46 && c != 91 && c != 93 && c != 94
  | [92, c] => c != 120 && c.toNat == b
  | [92, 120, h, k] => hv h * 16 + hv k == b
  | _ => false
theorem shape_all : ∀ b : Fin 256, shapeB b.val = true := by decide
theorem shape_cases {b : Nat} (hb : b < 256) : (∃ c, bL b = [c] ∧ c ≠ 92 ∧ c.toNat = b ∧ c ≠ 45 ∧ c ≠ 46 ∧ c ≠ 91 ∧ c ≠ 93 ∧ c ≠ 94) ∨ (∃ c, bL b = [92, c] ∧ c ≠ 120 ∧ c.toNat = b) ∨ ∃ h k, bL b = [92, 120, h, k] ∧ hv h * 16 + hv k = b := by
  have h := shape_all ⟨b, hb⟩
  unfold shapeB at h
  simp only [] at h
  split at h
  · rename_i c hc
    simp only [Bool.and_eq_true, bne_iff_ne, beq_iff_eq, ne_eq] at h
    exact .inl ⟨c, hc, h.1.1.1.1.1.1, h.1.1.1.1.1.2, h.1.1.1.1.2, h.1.1.1.2, h.1.1.2, h.1.2, h.2⟩
  · rename_i c hc
    simp only [Bool.and_eq_true, bne_iff_ne, beq_iff_eq, ne_eq] at h
    exact .inr (.inl ⟨c, hc, h.1, h.2⟩)
  · rename_i x k hc
    exact .inr (.inr ⟨x, k, hc, by simpa using h⟩)
  · cases h
theorem decB_one {c : UInt8} (h : c ≠ 92) (r : List UInt8) : decB (c :: r) = c.toNat := by
  unfold decB
  split <;> simp_all
theorem decB_two {c : UInt8} (h : c ≠ 120) (r : List UInt8) : decB (92 :: c :: r) = c.toNat := by
  unfold decB
  split
  · rename_i heq
    injection heq with e1 e2
    injection e2 with e3
    exact absurd e3 h
  · rename_i heq
    injection heq with e1 e2
    injection e2 with e3
    rw [e3]
  · rename_i n1 heq
    injection heq with e1 e2
    exact absurd e2 (fun e => by subst e; exact n1 _ _ e1.symm rfl)
  · rename_i heq
    cases heq
theorem decB_byte {b : Nat} (hb : b < 256) (r : List UInt8) : decB (bL b ++ r) = b := by
  rcases shape_cases hb with ⟨c, h1, h2, h3, -⟩ | ⟨c, h1, h2, h3⟩ | ⟨h, k, h1, h2⟩
  · rw [h1]
    exact (decB_one h2 _).trans h3
  · rw [h1]
    exact (decB_two h2 _).trans h3
  · rw [h1]
    exact h2
theorem bL_head {b : Nat} (hb : b < 256) : ∃ c r, bL b = c :: r ∧ c ≠ 45 ∧ c ≠ 46 ∧ c ≠ 91 ∧ c ≠ 93 ∧ c ≠ 94 := by
  rcases shape_cases hb with ⟨c, h1, h2, h3, h4⟩ | ⟨c, h1, h2, h3⟩ | ⟨h, k, h1, h2⟩
  · exact ⟨c, [], h1, h4⟩
  · exact ⟨92, [c], h1, by decide, by decide, by decide, by decide, by decide⟩
  · exact ⟨92, [120, h, k], h1, by decide, by decide, by decide, by decide, by decide⟩
/-- No byte's text begins another one's. -/
theorem bL_apart {a b : Nat} (ha : a < 256) (hb : b < 256) {r r' : List UInt8} (h : bL a ++ r = bL b ++ r') : a = b ∧ r = r' := by
  have h1 := decB_byte ha r
  rw [h, decB_byte hb r'] at h1
  subst h1
  exact ⟨rfl, List.append_cancel_left h⟩
theorem pair_list (a b : Nat) : (pairS ((a : Int), (b : Int))).data.toList = bL a ++ (if a = b then [] else 45 :: bL b) := by
  unfold pairS
  rw [ByteArray.data_append, Array.toList_append]
  simp only [Int.toNat_natCast]
  by_cases h : a = b
  · rw [if_pos (by rw [h]), if_pos h]
  · rw [if_neg (by omega), if_neg h, ByteArray.data_append, Array.toList_append]
    rfl
def InB (R : List (Int × Int)) : Prop := ∀ p ∈ R, ∃ a b : Nat, p = ((a : Int), (b : Int)) ∧ a < 256 ∧ b < 256
def flR (R : List (Int × Int)) : List UInt8 := R.flatMap (fun p => (pairS p).data.toList) ++ [93]
theorem flR_cons (a b : Nat) (R : List (Int × Int)) : flR (((a : Int), (b : Int)) :: R) = bL a ++ ((if a = b then [] else 45 :: bL b) ++ flR R) := by
  simp only [flR, List.flatMap_cons, pair_list, List.append_assoc]
theorem flR_head {R : List (Int × Int)} (h : InB R) : ∃ c r, flR R = c :: r ∧ c ≠ 45 ∧ c ≠ 94 := by
  cases R with
  | nil => exact ⟨93, [], rfl, by decide, by decide⟩
  | cons p R =>
    obtain ⟨a, b, rfl, ha, hb⟩ := h p (by simp)
    obtain ⟨c, r, h1, h2, -, -, -, h6⟩ := bL_head ha
    rw [flR_cons, h1]
    exact ⟨c, _, rfl, h2, h6⟩
theorem flR_inj : ∀ R R' : List (Int × Int), InB R → InB R' → flR R = flR R' → R = R'
  | [], [], _, _, _ => rfl
  | [], p :: R', _, h', he => by
    obtain ⟨a, b, rfl, ha, hb⟩ := h' p (by simp)
    obtain ⟨c, r, h1, -, -, -, h5, -⟩ := bL_head ha
    rw [flR_cons, h1] at he
    injection he with e1 e2
    exact absurd e1.symm h5
  | p :: R, [], h, _, he => by
    obtain ⟨a, b, rfl, ha, hb⟩ := h p (by simp)
    obtain ⟨c, r, h1, -, -, -, h5, -⟩ := bL_head ha
    rw [flR_cons, h1] at he
    injection he with e1 e2
    exact absurd e1 h5
  | p :: R, q :: R', h, h', he => by
    have hR : InB R := fun x hx => h x (by simp [hx])
    have hR' : InB R' := fun x hx => h' x (by simp [hx])
    obtain ⟨a, b, rfl, ha, hb⟩ := h p (by simp)
    obtain ⟨c, d, rfl, hc, hd⟩ := h' q (by simp)
    rw [flR_cons, flR_cons] at he
    obtain ⟨rfl, he2⟩ := bL_apart ha hc he
    by_cases e1 : a = b
    · by_cases e2 : a = d
      · rw [if_pos e1, if_pos e2] at he2
        rw [flR_inj R R' hR hR' he2, ← e1, ← e2]
      · rw [if_pos e1, if_neg e2] at he2
        obtain ⟨x, r, h1, h2, -⟩ := flR_head hR
        rw [List.nil_append, h1] at he2
        injection he2 with e3 e4
        exact absurd e3 h2
    · by_cases e2 : a = d
      · rw [if_neg e1, if_pos e2] at he2
        obtain ⟨x, r, h1, h2, -⟩ := flR_head hR'
        rw [List.nil_append, h1] at he2
        injection he2 with e3 e4
        exact absurd e3.symm h2
      · rw [if_neg e1, if_neg e2] at he2
        injection he2 with e3 e4
        obtain ⟨rfl, he5⟩ := bL_apart hb hd e4
        rw [flR_inj R R' hR hR' he5]
theorem eqB_mem {m m' : Nat → Bool} (h : ∀ x : Int, x ∈ listM m 256 ↔ x ∈ listM m' 256) : eqB m m' = true := by
  refine eqB_true fun x hx => ?_
  have h1 := h (x : Int)
  rw [mem_listM, mem_listM] at h1
  simp only [Int.toNat_natCast] at h1
  rw [Bool.eq_iff_iff]
  constructor
  · intro e; exact (h1.1 ⟨by omega, by omega, e⟩).2.2
  · intro e; exact (h1.2 ⟨by omega, by omega, e⟩).2.2
theorem runs_tell {m m' : Nat → Bool} (h : runsM (listM m 256) = runsM (listM m' 256)) : eqB m m' = true := by
  have hok : ∀ q : Nat → Bool, RunsOK (runsM (listM q 256)) (listM q 256) := fun q => by
    have := runs_ok (listM q 256) (listM q 256).length (listM_rise q 256) (Nat.le_refl _)
    rwa [List.take_length] at this
  exact eqB_mem fun x => by rw [← (hok m).has x, ← (hok m').has x, h]
theorem one_list {m : Nat → Bool} {b : Nat} (hf : firstM m = some b) (hc : cnt m 256 = 1) : listM m 256 = [(b : Int)] := by
  have hlen : (listM m 256).length = 1 := by rw [cnt_listM]; exact hc
  obtain ⟨x, hx⟩ := List.length_eq_one_iff.1 hlen
  have hb : (b : Int) ∈ listM m 256 := (mem_listM m 256 b).2 ⟨by omega, by have := List.mem_range.1 (List.mem_of_find?_eq_some hf); omega, by simpa using List.find?_some hf⟩
  rw [hx, List.mem_singleton] at hb
  rw [hx, hb]
abbrev sL (m : Nat → Bool) : List UInt8 := (setS m).data.toList
theorem set_form (m : Nat → Bool) : (firstM m = none ∧ sL m = nothingB.data.toList) ∨ (eqB m dotM = true ∧ sL m = [46]) ∨ (∃ b, firstM m = some b ∧ b < 256 ∧ cnt m 256 = 1 ∧ sL m = bL b) ∨ sL m = 91 :: flR (runsM (listM m 256)) := by
  unfold sL setS
  cases hf : firstM m with
  | none => exact .inl ⟨rfl, rfl⟩
  | some b =>
    have hb : b < 256 := List.mem_range.1 (List.mem_of_find?_eq_some hf)
    simp only []
    by_cases h1 : eqB m dotM = true
    · rw [if_pos h1]
      exact .inr (.inl ⟨h1, rfl⟩)
    · rw [if_neg h1]
      by_cases h2 : cnt m 256 = 1
      · rw [if_pos h2]
        exact .inr (.inr (.inl ⟨b, rfl, hb, h2, rfl⟩))
      · rw [if_neg h2]
        exact .inr (.inr (.inr rfl))
def tagL : List UInt8 → Nat
  | 91 :: 94 :: _ => 0
  | 46 :: _ => 1
  | 91 :: _ => 3
  | _ => 2
theorem tag_byte {b : Nat} (hb : b < 256) : tagL (bL b) = 2 := by
  obtain ⟨c, r, h1, h2, h3, h4, h5, h6⟩ := bL_head hb
  rw [h1]
  unfold tagL
  split <;> simp_all
theorem tag_class {R : List (Int × Int)} (h : InB R) : tagL (91 :: flR R) = 3 := by
  obtain ⟨c, r, h1, h2, h3⟩ := flR_head h
  rw [h1]
  unfold tagL
  split <;> simp_all
theorem none_all {m m' : Nat → Bool} (h : firstM m = none) (h' : firstM m' = none) : eqB m m' = true := by
  have hn : ∀ q : Nat → Bool, firstM q = none → ∀ x, x < 256 → q x = false := fun q hq x hx => by
    have := List.find?_eq_none.1 hq x (List.mem_range.2 hx)
    simpa using this
  exact eqB_true fun x hx => by rw [hn m h x hx, hn m' h' x hx]
theorem setS_inj {m m' : Nat → Bool} (h : setS m = setS m') : eqB m m' = true := by
  have he : sL m = sL m' := by unfold sL; rw [h]
  have ht : tagL (sL m) = tagL (sL m') := by rw [he]
  have hin : ∀ q : Nat → Bool, InB (runsM (listM q 256)) := fun q => (runs_in q).2
  have t0 : tagL nothingB.data.toList = 0 := by decide
  have t1 : tagL [46] = 1 := by decide
  rcases set_form m with ⟨f, e⟩ | ⟨f, e⟩ | ⟨b, f, hb, hc, e⟩ | e <;> rcases set_form m' with ⟨f', e'⟩ | ⟨f', e'⟩ | ⟨b', f', hb', hc', e'⟩ | e' <;> rw [e, e'] at ht <;> (try simp (disch := assumption) only [t0, t1, tag_byte, tag_class (hin _), reduceCtorEq, Nat.reduceEqDiff] at ht)
  · exact none_all f f'
  · exact eqB_true fun x hx => by rw [(eqB_iff _ _).1 f x hx, (eqB_iff _ _).1 f' x hx]
  · rw [e, e'] at he
    obtain ⟨rfl, -⟩ := bL_apart (r := []) (r' := []) hb hb' (by rw [he])
    exact eqB_mem fun x => by rw [one_list f hc, one_list f' hc']
  · rw [e, e'] at he
    injection he with e1 e2
    exact runs_tell (flR_inj _ _ (hin m) (hin m') e2)
theorem byteS_inj {a b : Nat} (ha : a < 256) (hb : b < 256) (h : byteS a = byteS b) : a = b :=
  (bL_apart (r := []) (r' := []) ha hb (by unfold bL; rw [h])).1
end Go.Proofs.YtpiimcbbgalhfaaGreatDoor
