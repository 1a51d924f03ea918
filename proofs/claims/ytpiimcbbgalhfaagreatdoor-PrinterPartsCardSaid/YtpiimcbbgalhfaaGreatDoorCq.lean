/- What is printed of a byte, of a set, of a count is scanned again as that. Plain. -/
import Derived.Test.YtpiimcbbgalhfaaGreatDoorCd
import Derived.Test.YtpiimcbbgalhfaaGreatDoorCe
import Derived.Test.YtpiimcbbgalhfaaGreatDoorBb
import Derived.Test.YtpiimcbbgalhfaaGreatDoorBy
import Derived.Test.YtpiimcbbgalhfaaGreatDoorBq
import Derived.Lib.ItoaMem
namespace Go.Proofs.YtpiimcbbgalhfaaGreatDoor
set_option maxRecDepth 100000
open Go.RowKit
def natsOf (l : List UInt8) : List Nat := l.map (·.toNat)
theorem natsOf_append (l r : List UInt8) : natsOf (l ++ r) = natsOf l ++ natsOf r := by simp [natsOf]
abbrev bN (b : Nat) : List Nat := natsOf (bL b)
def freeL : List Nat := [92, 91, 40, 41, 124, 46, 42, 43, 63, 123, 94, 36, 93, 125]
def shapeN (b : Nat) : Bool := match bN b with
  | [c] => c == b && !innerL.contains c && !freeL.contains c
  | [92, c] => c == b && specialL.contains c
  | [92, 120, h, k] => match hexM h, hexM k with
    | some x, some y => 16 * x + y == b
    | _, _ => false
  | _ => false
theorem shapeN_all : ∀ b : Fin 256, shapeN b.val = true := by decide
theorem shapeN_cases {b : Nat} (hb : b < 256) : (bN b = [b] ∧ innerL.contains b = false ∧ freeL.contains b = false) ∨ (bN b = [92, b] ∧ specialL.contains b = true) ∨ ∃ h k x y, bN b = [92, 120, h, k] ∧ hexM h = some x ∧ hexM k = some y ∧ 16 * x + y = b := by
  have h := shapeN_all ⟨b, hb⟩
  unfold shapeN at h
  simp only [] at h
  split at h
  · rename_i c hc
    simp only [Bool.and_eq_true, Bool.not_eq_true', beq_iff_eq] at h
    obtain ⟨⟨rfl, h2⟩, h3⟩ := h
    exact .inl ⟨hc, h2, h3⟩
  · rename_i c hc
    simp only [Bool.and_eq_true, beq_iff_eq] at h
    obtain ⟨rfl, h2⟩ := h
    exact .inr (.inl ⟨hc, h2⟩)
  · rename_i x k hc
    split at h
    · rename_i u v hu hv
      exact .inr (.inr ⟨x, k, u, v, hc, hu, hv, by simpa using h⟩)
    · cases h
  · cases h
theorem not_in {l : List Nat} {b c : Nat} (h : l.contains b = false) (hc : l.contains c = true) : b ≠ c := by
  rintro rfl
  rw [h] at hc
  cases hc
theorem spec_not120 {b : Nat} (h : specialL.contains b = true) : b ≠ 120 := by
  rintro rfl
  revert h
  decide
theorem esc_spec {b : Nat} (h : specialL.contains b = true) (r : List Nat) : escM (92 :: b :: r) 0 = .ok (oneM b) 2 := by
  unfold escM
  simp only [Nat.zero_add, List.getElem?_cons_succ, List.getElem?_cons_zero]
  rw [if_pos h]
theorem esc_hex {h k x y : Nat} (hx : hexM h = some x) (hy : hexM k = some y) (r : List Nat) : escM (92 :: 120 :: h :: k :: r) 0 = .ok (oneM (16 * x + y)) 4 := by
  unfold escM
  simp only [Nat.zero_add, List.getElem?_cons_succ, List.getElem?_cons_zero]
  rw [if_neg (by decide), show namedM 120 = none from rfl]
  simp only [hexAt, List.getElem?_cons_succ, List.getElem?_cons_zero, Option.bind_some, hx, hy, if_true]
theorem itm_byte {b : Nat} (hb : b < 256) (r : List Nat) : itemM (bN b ++ r) 0 = .ok (oneM b) (bN b).length := by
  rcases shapeN_cases hb with ⟨h1, h2, h3⟩ | ⟨h1, h2⟩ | ⟨h, k, x, y, h1, h2, h3, h4⟩
  · rw [h1]
    unfold itemM
    simp only [List.cons_append, List.getElem?_cons_zero]
    rw [if_neg (by rw [h2]; exact Bool.false_ne_true), if_neg (not_in h3 (by decide))]
    rfl
  · rw [h1]
    unfold itemM
    simp only [List.cons_append, List.nil_append, List.getElem?_cons_zero]
    rw [if_neg (by decide), if_pos trivial, esc_spec h2]
    rfl
  · rw [h1]
    unfold itemM
    simp only [List.cons_append, List.nil_append, List.getElem?_cons_zero]
    rw [if_neg (by decide), if_pos trivial, esc_hex h2 h3, h4]
    rfl
theorem tok_byte {b : Nat} (hb : b < 256) (r : List Nat) : tokM (bN b ++ r) 0 = .ok (setTok (oneM b)) (bN b).length := by
  rcases shapeN_cases hb with ⟨h1, h2, h3⟩ | ⟨h1, h2⟩ | ⟨h, k, x, y, h1, h2, h3, h4⟩
  · rw [h1]
    unfold tokM
    simp only [List.cons_append, List.getElem?_cons_zero]
    have hn : ∀ c, freeL.contains c = true → ¬b = c := fun c hc => not_in h3 hc
    rw [if_neg (hn 92 (by decide)), if_neg (hn 91 (by decide)), if_neg (hn 40 (by decide)), if_neg (hn 41 (by decide)), if_neg (hn 124 (by decide)), if_neg (hn 46 (by decide)), if_neg (hn 42 (by decide)), if_neg (hn 43 (by decide)), if_neg (hn 63 (by decide)), if_neg (hn 123 (by decide)),
      if_neg (by rintro (h | h); exact hn 94 (by decide) h; exact hn 36 (by decide) h), if_neg (by
        intro h
        have : b = 93 ∨ b = 125 := by simpa [loneL] using h
        rcases this with h | h
        · exact hn 93 (by decide) h
        · exact hn 125 (by decide) h)]
    rfl
  · rw [h1]
    unfold tokM
    simp only [List.cons_append, List.nil_append, List.getElem?_cons_zero]
    rw [if_pos trivial, esc_spec h2]
    rfl
  · rw [h1]
    unfold tokM
    simp only [List.cons_append, List.nil_append, List.getElem?_cons_zero]
    rw [if_pos trivial, esc_hex h2 h3, h4]
    rfl
theorem oneM_is (b x : Nat) : oneM b x = decide (x = b) := by
  unfold oneM ofM
  apply decide_eq_decide.2
  rw [List.mem_singleton]
  omega
theorem cnt_false {f : Nat → Bool} : ∀ n, (∀ x, x < n → f x = false) → cnt f n = 0 := by
  intro n
  induction n with
  | zero => intro _; rfl
  | succ n ih =>
    intro h
    rw [cnt, ih (fun x hx => h x (by omega)), h n (by omega)]
    rfl
theorem cnt_one (b : Nat) : ∀ n, b < n → cnt (oneM b) n = 1 := by
  intro n
  induction n with
  | zero => intro h; omega
  | succ n ih =>
    intro h
    rw [cnt, oneM_is]
    by_cases e : n = b
    · rw [cnt_false n (fun x hx => by rw [oneM_is]; exact decide_eq_false (by omega)), decide_eq_true e]
      rfl
    · rw [ih (by omega), decide_eq_false e]
      rfl
theorem first_one {b : Nat} (hb : b < 256) : firstM (oneM b) = some b := by
  unfold firstM
  cases h : (List.range 256).find? (oneM b) with
  | none =>
    have := List.find?_eq_none.1 h b (List.mem_range.2 hb)
    rw [oneM_is] at this
    simp at this
  | some c =>
    have := List.find?_some h
    rw [oneM_is] at this
    rw [of_decide_eq_true this]
theorem only_one {b : Nat} (hb : b < 256) : onlyM (oneM b) = some b := by
  unfold onlyM
  rw [cnt_one b 256 hb, if_pos rfl, first_one hb]
abbrev pN (a b : Nat) : List Nat := bN a ++ (if a = b then [] else 45 :: bN b)
theorem span_pair {a b : Nat} (ha : a < 256) (hb : b < 256) (hab : a ≤ b) {r : List Nat} (hr : r[0]? ≠ some 45) : ∃ m, spanM (pN a b ++ r) 0 = .ok m (pN a b).length ∧ ∀ x, m x = decide (a ≤ x ∧ x ≤ b) := by
  by_cases e : a = b
  · subst e
    refine ⟨oneM a, ?_, fun x => by rw [oneM_is]; exact decide_eq_decide.2 (by omega)⟩
    unfold pN
    rw [if_pos rfl, List.append_nil]
    unfold spanM
    rw [itm_byte ha]
    simp only []
    rw [if_neg]
    rw [List.getElem?_append_right (Nat.le_refl _), Nat.sub_self]
    exact hr
  · refine ⟨rangeM a b, ?_, fun x => by unfold rangeM; exact decide_eq_decide.2 (by omega)⟩
    unfold pN
    rw [if_neg e, List.append_assoc]
    unfold spanM
    rw [itm_byte ha]
    simp only []
    rw [if_pos (by rw [List.getElem?_append_right (Nat.le_refl _), Nat.sub_self]; rfl), only_one ha]
    have h2 : itemM (bN a ++ (45 :: bN b ++ r)) ((bN a).length + 1) = .ok (oneM b) ((bN a ++ 45 :: bN b).length) := by
      have := itemM_shift (bN a ++ [45]) (bN b ++ r) 0
      rw [itm_byte hb] at this
      simp only [List.append_assoc, List.singleton_append, List.length_append, List.length_singleton, Nat.add_zero] at this
      rw [List.cons_append, this]
      simp only [Res.shift, List.length_append, List.length_cons, Nat.add_assoc, Nat.add_comm 1]
    simp only []
    rw [h2]
    simp only []
    rw [only_one hb]
    simp only []
    rw [if_neg (by omega)]
abbrev rN (R : List (Int × Int)) : List Nat := natsOf (flR R)
theorem rN_cons (a b : Nat) (R : List (Int × Int)) : rN (((a : Int), (b : Int)) :: R) = pN a b ++ rN R := by
  unfold rN pN
  rw [flR_cons, natsOf_append, natsOf_append, ← List.append_assoc]
  congr 2
  split <;> simp [natsOf]
theorem rN_head {R : List (Int × Int)} (h : InB R) (r : List Nat) : (rN R ++ r)[0]? ≠ some 45 ∧ (rN R ++ r)[0]? ≠ some 94 := by
  obtain ⟨c, l, h1, h2, h3⟩ := flR_head h
  unfold rN
  rw [h1]
  simp only [natsOf, List.map_cons, List.cons_append, List.getElem?_cons_zero, Option.some.injEq, ne_eq]
  exact ⟨fun e => h2 (UInt8.toNat_inj.1 e), fun e => h3 (UInt8.toNat_inj.1 e)⟩
theorem rN_not93 (a b : Nat) (ha : a < 256) (R : List (Int × Int)) (r : List Nat) : (rN (((a : Int), (b : Int)) :: R) ++ r)[0]? ≠ some 93 := by
  obtain ⟨c, l, h1, h2, h3, h4, h5, h6⟩ := bL_head ha
  rw [rN_cons]
  unfold pN bN
  rw [h1]
  simp only [natsOf, List.map_cons, List.cons_append, List.getElem?_cons_zero, Option.some.injEq, ne_eq]
  exact fun e => h5 (UInt8.toNat_inj.1 e)
def inR (R : List (Int × Int)) (x : Nat) : Bool := R.any fun p => decide (p.1 ≤ (x : Int) ∧ (x : Int) ≤ p.2)
/-- Pairs, each of a least and a most byte. -/
def PairsOk (R : List (Int × Int)) : Prop := ∀ p ∈ R, ∃ a b : Nat, p = ((a : Int), (b : Int)) ∧ a < 256 ∧ b < 256 ∧ a ≤ b
theorem PairsOk.inB {R : List (Int × Int)} (h : PairsOk R) : InB R := fun p hp => by
  obtain ⟨a, b, h1, h2, h3, -⟩ := h p hp
  exact ⟨a, b, h1, h2, h3⟩
theorem class_loop : ∀ (R : List (Int × Int)) (pre r : List Nat) (m : Nat → Bool) (f : Nat), PairsOk R → R.length < f →
    ∃ m', classLoop (pre ++ (rN R ++ r)) f m pre.length = .ok m' (pre.length + (rN R).length) ∧ ∀ x, m' x = (m x || inR R x) := by
  intro R
  induction R with
  | nil =>
    intro pre r m f _ hf
    obtain ⟨f, rfl⟩ : ∃ g, f = g + 1 := ⟨f - 1, by simp at hf; omega⟩
    refine ⟨m, ?_, fun x => by simp [inR]⟩
    unfold classLoop
    have h0 : rN [] = [93] := rfl
    rw [h0, if_pos (by rw [List.getElem?_append_right (Nat.le_refl _), Nat.sub_self]; rfl)]
    rfl
  | cons p R ih =>
    intro pre r m f h hf
    obtain ⟨f, rfl⟩ : ∃ g, f = g + 1 := ⟨f - 1, by simp at hf; omega⟩
    have hR : PairsOk R := fun q hq => h q (List.mem_cons_of_mem _ hq)
    obtain ⟨a, b, rfl, ha, hb, hab⟩ := h p (List.mem_cons_self ..)
    obtain ⟨m2, h2, h3⟩ := span_pair ha hb hab (r := rN R ++ r) (rN_head hR.inB r).1
    obtain ⟨m', h4, h5⟩ := ih (pre ++ pN a b) r (anyM [m, m2]) f hR (by simp at hf; omega)
    refine ⟨m', ?_, fun x => ?_⟩
    · unfold classLoop
      rw [if_neg (by rw [List.getElem?_append_right (Nat.le_refl _), Nat.sub_self]; exact rN_not93 a b ha R r)]
      have hs := spanM_shift pre (rN (((a : Int), (b : Int)) :: R) ++ r) 0
      rw [Nat.add_zero, rN_cons, List.append_assoc, h2] at hs
      rw [rN_cons, List.append_assoc, hs]
      simp only [Res.shift]
      rw [List.append_assoc, show (pre ++ pN a b).length = pre.length + (pN a b).length from List.length_append] at h4
      rw [h4]
      congr 1
      simp only [List.length_append]
      omega
    · rw [h5]
      simp only [anyM, List.any_cons, List.any_nil, Bool.or_false, h3, inR]
      rw [Bool.or_assoc]
      congr 2
      exact decide_eq_decide.2 (by omega)
theorem pN_pos (a b : Nat) (ha : a < 256) : 1 ≤ (pN a b).length := by
  obtain ⟨c, l, h1, -⟩ := bL_head ha
  unfold pN bN
  rw [h1]
  simp [natsOf]
theorem rN_len : ∀ {R : List (Int × Int)}, PairsOk R → R.length < (rN R).length
  | [], _ => by simp [natsOf, flR]
  | p :: R, h => by
    obtain ⟨a, b, rfl, ha, hb, hab⟩ := h p (List.mem_cons_self ..)
    have := rN_len (R := R) fun q hq => h q (List.mem_cons_of_mem _ hq)
    have := pN_pos a b ha
    rw [rN_cons, List.length_append, List.length_cons]
    omega
theorem class_body {R : List (Int × Int)} (h : PairsOk R) (hne : R ≠ []) (pre r : List Nat) : ∃ m', classBody (pre ++ (rN R ++ r)) pre.length = .ok m' (pre.length + (rN R).length) ∧ ∀ x, m' x = inR R x := by
  cases R with
  | nil => exact absurd rfl hne
  | cons p R =>
    have hR : PairsOk R := fun q hq => h q (List.mem_cons_of_mem _ hq)
    have hl := rN_len hR
    obtain ⟨a, b, rfl, ha, hb, hab⟩ := h p (List.mem_cons_self ..)
    obtain ⟨m2, h2, h3⟩ := span_pair ha hb hab (r := rN R ++ r) (rN_head hR.inB r).1
    have hs := spanM_shift pre (rN (((a : Int), (b : Int)) :: R) ++ r) 0
    rw [Nat.add_zero, rN_cons, List.append_assoc, h2] at hs
    obtain ⟨m', h4, h5⟩ := class_loop R (pre ++ pN a b) r m2 ((pre ++ (pN a b ++ (rN R ++ r))).length + 1 - (pre.length + (pN a b).length)) hR (by simp only [List.length_append]; omega)
    refine ⟨m', ?_, fun x => ?_⟩
    · unfold classBody
      rw [rN_cons, List.append_assoc, hs]
      simp only [Res.shift]
      rw [List.append_assoc, show (pre ++ pN a b).length = pre.length + (pN a b).length from List.length_append] at h4
      rw [h4]
      congr 1
      simp only [List.length_append]
      omega
    · rw [h5, h3]
      simp only [inR, List.any_cons]
      congr 1
      exact decide_eq_decide.2 (by omega)
theorem tok_class {R : List (Int × Int)} (h : PairsOk R) (hne : R ≠ []) (r : List Nat) : ∃ m', tokM (91 :: (rN R ++ r)) 0 = .ok (setTok m') (1 + (rN R).length) ∧ ∀ x, m' x = inR R x := by
  obtain ⟨m', h1, h2⟩ := class_body h hne [91] r
  refine ⟨m', ?_, h2⟩
  unfold tokM
  simp only [List.getElem?_cons_zero]
  rw [if_neg (by decide), if_pos trivial]
  unfold classM
  rw [Nat.zero_add, if_neg (by rw [List.getElem?_cons_succ]; exact (rN_head h.inB r).2)]
  rw [show (91 :: (rN R ++ r)) = [91] ++ (rN R ++ r) from rfl, show (1 : Nat) = [91].length from rfl, h1]
  rfl
abbrev sN (m : Nat → Bool) : List Nat := natsOf (sL m)
theorem runs_pairs (m : Nat → Bool) : PairsOk (runsM (listM m 256)) := fun p hp => by
  obtain ⟨a, b, h1, h2, h3⟩ := (runs_in m).2 p hp
  have hok : RunsOK (runsM (listM m 256)) (listM m 256) := by
    have := runs_ok (listM m 256) (listM m 256).length (listM_rise m 256) (Nat.le_refl _)
    rwa [List.take_length] at this
  have := hok.le p hp
  rw [h1] at this
  exact ⟨a, b, h1, h2, h3, by simp only [] at this; omega⟩
theorem runs_has (m : Nat → Bool) (x : Nat) (hx : x < 256) : inR (runsM (listM m 256)) x = m x := by
  have hok : RunsOK (runsM (listM m 256)) (listM m 256) := by
    have := runs_ok (listM m 256) (listM m 256).length (listM_rise m 256) (Nat.le_refl _)
    rwa [List.take_length] at this
  have h1 := hok.has (x : Int)
  rw [mem_listM] at h1
  simp only [Int.toNat_natCast] at h1
  rw [Bool.eq_iff_iff]
  unfold inR
  rw [List.any_eq_true]
  constructor
  · rintro ⟨p, hp, h⟩
    exact (h1.1 ⟨p, hp, of_decide_eq_true h⟩).2.2
  · intro h
    obtain ⟨p, hp, h⟩ := h1.2 ⟨by omega, by omega, h⟩
    exact ⟨p, hp, decide_eq_true h⟩
theorem tok_nothing (r : List Nat) : ∃ m', tokM (natsOf nothingB.data.toList ++ r) 0 = .ok (setTok m') (natsOf nothingB.data.toList).length ∧ ∀ x, x < 256 → m' x = false := by
  have hR : PairsOk [(((0 : Nat) : Int), ((255 : Nat) : Int))] := fun p hp => ⟨0, 255, List.mem_singleton.1 hp, by omega, by omega, by omega⟩
  obtain ⟨m', h1, h2⟩ := class_body hR (by simp) [91, 94] r
  have e : natsOf nothingB.data.toList = [91, 94] ++ rN [(((0 : Nat) : Int), ((255 : Nat) : Int))] := by decide
  refine ⟨notM m', ?_, fun x hx => by simp [notM, h2, inR]; omega⟩
  rw [e, List.append_assoc]
  unfold tokM
  simp only [List.cons_append, List.getElem?_cons_zero]
  rw [if_neg (by decide), if_pos trivial]
  unfold classM
  rw [Nat.zero_add, if_pos (by simp)]
  have h3 : classBody (91 :: 94 :: ([] ++ (rN [(((0 : Nat) : Int), ((255 : Nat) : Int))] ++ r))) (0 + 2) = .ok m' (2 + (rN [(((0 : Nat) : Int), ((255 : Nat) : Int))]).length) := h1
  rw [h3]
  simp only [setRes, List.length_cons, List.length_append, List.length_nil]
  rw [Nat.add_comm 2]
  simp
theorem first_some {m : Nat → Bool} {b : Nat} (h : firstM m = some b) : b < 256 ∧ m b = true := ⟨List.mem_range.1 (List.mem_of_find?_eq_some h), List.find?_some h⟩
/-- A set that is printed is scanned again as that. -/
theorem tok_set (m : Nat → Bool) (r : List Nat) : ∃ m', tokM (sN m ++ r) 0 = .ok (setTok m') (sN m).length ∧ eqB m m' = true := by
  unfold sN sL setS
  cases hf : firstM m with
  | none =>
    obtain ⟨m', h1, h2⟩ := tok_nothing r
    refine ⟨m', h1, eqB_true fun x hx => ?_⟩
    rw [h2 x hx]
    have := List.find?_eq_none.1 hf x (List.mem_range.2 hx)
    simpa using this
  | some b =>
    obtain ⟨hb, hm⟩ := first_some hf
    simp only []
    by_cases h1 : eqB m dotM = true
    · rw [if_pos h1]
      exact ⟨notM (oneM 10), rfl, h1⟩
    · rw [if_neg h1]
      by_cases h2 : cnt m 256 = 1
      · rw [if_pos h2]
        refine ⟨oneM b, tok_byte hb r, eqB_mem fun x => ?_⟩
        rw [one_list hf h2, one_list (first_one hb) (cnt_one b 256 hb)]
      · rw [if_neg h2]
        have hne : runsM (listM m 256) ≠ [] := fun e => by
          have := runs_has m b hb
          rw [e, hm] at this
          cases this
        obtain ⟨m', h3, h4⟩ := tok_class (runs_pairs m) hne r
        refine ⟨m', ?_, eqB_true fun x hx => by rw [h4, runs_has m x hx]⟩
        have e : natsOf (classS m).data.toList = 91 :: rN (runsM (listM m 256)) := rfl
        rw [e, List.cons_append, h3, List.length_cons, Nat.add_comm]
theorem sN_head (m : Nat → Bool) (r : List Nat) : ∃ c l, sN m = c :: l ∧ c ≠ 63 ∧ c ≠ 43 ∧ (sN m ++ r)[0]? = some c := by
  have key : ∃ c l, sN m = c :: l ∧ c ≠ 63 ∧ c ≠ 43 := by
    rcases set_form m with ⟨f, e⟩ | ⟨f, e⟩ | ⟨b, f, hb, hc, e⟩ | e
    · unfold sN; rw [e]; exact ⟨91, _, rfl, by decide, by decide⟩
    · unfold sN; rw [e]; exact ⟨46, _, rfl, by decide, by decide⟩
    · unfold sN
      rw [e]
      rcases shapeN_cases hb with ⟨h1, h2, h3⟩ | ⟨h1, h2⟩ | ⟨h, k, x, y, h1, h2, h3, h4⟩
      · exact ⟨b, [], h1, not_in h3 (by decide), not_in h3 (by decide)⟩
      · exact ⟨92, _, h1, by decide, by decide⟩
      · exact ⟨92, _, h1, by decide, by decide⟩
    · unfold sN; rw [e]; exact ⟨91, _, rfl, by decide, by decide⟩
  obtain ⟨c, l, h1, h2, h3⟩ := key
  exact ⟨c, l, h1, h2, h3, by rw [h1]; rfl⟩
end Go.Proofs.YtpiimcbbgalhfaaGreatDoor
/- What is printed of tokens is scanned again to the same tokens. Plain. -/
namespace Go.Proofs.YtpiimcbbgalhfaaGreatDoor
set_option maxRecDepth 100000
open Go.RowKit
abbrev dN (u : Nat) : List Nat := natsOf (Lib.decDigits u)
theorem digit_nat (d : Nat) (h : d < 10) : natsOf [UInt8.ofNat (48 + d)] = [48 + d] := by
  simp only [natsOf, List.map_cons, List.map_nil, UInt8.toNat_ofNat']
  rw [Nat.mod_eq_of_lt (by omega)]
theorem dN_small {u : Nat} (h : u < 10) : dN u = [48 + u] := by
  unfold dN
  rw [Lib.decDigits, dif_pos h, digit_nat u h]
theorem dN_big {u : Nat} (h : ¬u < 10) : dN u = dN (u / 10) ++ [48 + u % 10] := by
  unfold dN
  rw [Lib.decDigits, dif_neg h, natsOf_append, digit_nat (u % 10) (Nat.mod_lt _ (by omega))]
theorem dN_head (u : Nat) : ∃ d l, dN u = (48 + d) :: l ∧ d < 10 := by
  induction u using Nat.strongRecOn with
  | ind u ih =>
    by_cases h : u < 10
    · exact ⟨u, [], dN_small h, h⟩
    · obtain ⟨d, l, h1, h2⟩ := ih (u / 10) (by omega)
      exact ⟨d, l ++ [48 + u % 10], by rw [dN_big h, h1]; rfl, h2⟩
theorem digit_at {pre : List Nat} {d : Nat} (hd : d < 10) (r : List Nat) : digitAt (pre ++ ((48 + d) :: r)) pre.length = some d := by
  unfold digitAt
  rw [List.getElem?_append_right (Nat.le_refl _), Nat.sub_self]
  simp only [List.getElem?_cons_zero, Option.bind_some]
  rw [if_pos (by omega)]
  congr 1
  omega
theorem num_digits (u : Nat) : ∀ (pre r : List Nat), numFrom (pre ++ (dN u ++ r)) 0 pre.length = numFrom (pre ++ (dN u ++ r)) u (pre.length + (dN u).length) := by
  induction u using Nat.strongRecOn with
  | ind u ih =>
    intro pre r
    by_cases h : u < 10
    · rw [dN_small h, List.singleton_append, numFrom_next 0 (digit_at h r)]
      simp
    · have := ih (u / 10) (by omega) pre ([48 + u % 10] ++ r)
      rw [dN_big h, List.append_assoc, this]
      have hd := digit_at (pre := pre ++ dN (u / 10)) (d := u % 10) (Nat.mod_lt _ (by omega)) r
      rw [List.append_assoc, List.length_append] at hd
      rw [List.singleton_append, numFrom_next _ hd, List.length_append, List.length_singleton, ← Nat.add_assoc]
      congr 1
      omega
theorem num_at8 {u : Nat} (hu : u ≤ 1000) (pre : List Nat) {r : List Nat} (hr : ∀ c, r[0]? = some c → c < 48 ∨ 57 < c) : numberM (pre ++ (dN u ++ r)) pre.length = .ok u (pre.length + (dN u).length) := by
  obtain ⟨d, l, h1, h2⟩ := dN_head u
  have hd : digitAt (pre ++ (dN u ++ r)) pre.length = some d := by rw [h1, List.cons_append]; exact digit_at h2 _
  have he : digitAt (pre ++ (dN u ++ r)) (pre.length + (dN u).length) = none := by
    unfold digitAt
    rw [List.getElem?_append_right (by omega), Nat.add_sub_cancel_left, List.getElem?_append_right (Nat.le_refl _), Nat.sub_self]
    cases hc : r[0]? with
    | none => rfl
    | some c =>
      have := hr c hc
      simp only [Option.bind_some]
      rw [if_neg (by omega)]
  have hn : numLoop (pre ++ (dN u ++ r)) ((pre ++ (dN u ++ r)).length - pre.length) 0 pre.length = (u, pre.length + (dN u).length) := (num_digits u pre r).trans (numFrom_end u he)
  unfold numberM
  rw [hd]
  simp only []
  rw [hn]
  simp only []
  rw [if_neg (by omega)]
abbrev zN (z : Bool) : List Nat := if z then [63] else []
theorem lazy_at (lo : Nat) (hi : Int) (z : Bool) (pre : List Nat) {r : List Nat} (h1 : r[0]? ≠ some 63) (h2 : r[0]? ≠ some 43) : lazyM (pre ++ (zN z ++ r)) lo hi pre.length = .ok ⟨5, noSet, lo, hi, z⟩ (pre.length + (zN z).length) := by
  cases z with
  | false =>
    rw [show zN false = [] from rfl, List.nil_append]
    have g : (pre ++ r)[pre.length]? = r[0]? := by rw [List.getElem?_append_right (Nat.le_refl _), Nat.sub_self]
    unfold lazyM
    simp only [g, h1, if_false]
    rw [if_neg h2]
    simp
  | true =>
    rw [show zN true = [63] from rfl]
    have g1 : (pre ++ ([63] ++ r))[pre.length]? = some 63 := by rw [List.getElem?_append_right (Nat.le_refl _), Nat.sub_self]; rfl
    have g2 : (pre ++ ([63] ++ r))[pre.length + 1]? = r[0]? := by rw [List.getElem?_append_right (by omega), Nat.add_sub_cancel_left]; rfl
    unfold lazyM
    simp only [g1, if_true, g2]
    rw [if_neg h2]
    simp
abbrev cN (lo hi : Int) (z : Bool) : List Nat := natsOf (toL (countS lo hi z))
theorem cN_eq (lo hi : Int) (z : Bool) : cN lo hi z = (if lo = 0 ∧ hi = -1 then [42] else if lo = 1 ∧ hi = -1 then [43] else if lo = 0 ∧ hi = 1 then [63] else
    [123] ++ (natsOf (Lib.itoa lo) ++ ((if hi = -1 then [44] else if hi ≠ lo then 44 :: natsOf (Lib.itoa hi) else []) ++ [125]))) ++ zN z := by
  have e1 : ∀ a b : ByteArray, natsOf (toL (a ++ b)) = natsOf (toL a) ++ natsOf (toL b) := fun a b => by
    unfold toL
    rw [ByteArray.data_append, Array.toList_append, natsOf_append]
  unfold cN countS
  rw [e1]
  congr 1
  · split
    · rfl
    · split
      · rfl
      · split
        · rfl
        · unfold bracesS
          rw [e1, e1, e1, List.append_assoc, List.append_assoc]
          congr 2
          congr 1
          split
          · rfl
          · split
            · rw [e1]
              rfl
            · rfl
  · split <;> rfl
theorem brc_at8 {lo : Nat} {hi : Int} (h1 : lo ≤ 1000) (h2 : hi = -1 ∨ (((lo : Nat) : Int) ≤ hi ∧ hi ≤ 1000)) (r : List Nat) :
    ∃ o, bracesM ([123] ++ (natsOf (Lib.itoa lo) ++ ((if hi = -1 then [44] else if hi ≠ lo then 44 :: natsOf (Lib.itoa hi) else []) ++ [125])) ++ r) 1 = .ok (lo, o) ([123] ++ (natsOf (Lib.itoa lo) ++ ((if hi = -1 then [44] else if hi ≠ lo then 44 :: natsOf (Lib.itoa hi) else []) ++ [125]))).length ∧ hiZ o = hi := by
  rw [Lib.itoa_nonneg]
  have hget : ∀ (p q : List Nat) (k : Nat), k = p.length → (p ++ q)[k]? = q[0]? := fun p q k e => by rw [e, List.getElem?_append_right (Nat.le_refl _), Nat.sub_self]
  by_cases e1 : hi = -1
  · refine ⟨none, ?_, e1.symm⟩
    rw [if_pos e1]
    have hn : numberM ([123] ++ (dN lo ++ (44 :: 125 :: r))) 1 = .ok lo (1 + (dN lo).length) := num_at8 h1 [123] (r := 44 :: 125 :: r) (fun c hc => by injection hc with hc; omega)
    have e : [123] ++ (natsOf (Lib.decDigits lo) ++ ([44] ++ [125])) ++ r = [123] ++ (dN lo ++ (44 :: 125 :: r)) := by simp
    have g1 : ([123] ++ (dN lo ++ (44 :: 125 :: r)))[1 + (dN lo).length]? = some 44 := by
      rw [← List.append_assoc, hget _ _ _ (by simp only [List.length_append, List.length_cons, List.length_nil] <;> omega)]
      rfl
    have g2 : ([123] ++ (dN lo ++ (44 :: 125 :: r)))[1 + (dN lo).length + 1]? = some 125 := by
      rw [show [123] ++ (dN lo ++ (44 :: 125 :: r)) = ([123] ++ (dN lo ++ [44])) ++ (125 :: r) by simp, hget _ _ _ (by simp only [List.length_append, List.length_cons, List.length_nil] <;> omega)]
      rfl
    rw [e]
    unfold bracesM
    rw [hn]
    simp only []
    rw [if_pos g1, if_pos g2]
    congr 1
    simp only [dN, List.length_append, List.length_cons, List.length_nil]
    omega
  · rw [if_neg e1]
    obtain ⟨h3, h4⟩ : ((lo : Nat) : Int) ≤ hi ∧ hi ≤ 1000 := by
      rcases h2 with h | h
      · exact absurd h e1
      · exact h
    obtain ⟨u, rfl⟩ : ∃ u : Nat, hi = (u : Int) := ⟨hi.toNat, by omega⟩
    by_cases e2 : (u : Int) = lo
    · obtain rfl : u = lo := by omega
      refine ⟨some u, ?_, rfl⟩
      rw [if_neg (by simp)]
      have hn : numberM ([123] ++ (dN u ++ (125 :: r))) 1 = .ok u (1 + (dN u).length) := num_at8 h1 [123] (r := 125 :: r) (fun c hc => by injection hc with hc; omega)
      have e : [123] ++ (natsOf (Lib.decDigits u) ++ ([] ++ [125])) ++ r = [123] ++ (dN u ++ (125 :: r)) := by simp
      have g1 : ([123] ++ (dN u ++ (125 :: r)))[1 + (dN u).length]? = some 125 := by
        rw [← List.append_assoc, hget _ _ _ (by simp only [List.length_append, List.length_cons, List.length_nil] <;> omega)]
        rfl
      rw [e]
      unfold bracesM
      rw [hn]
      simp only []
      rw [g1, if_neg (by simp), if_pos rfl]
      congr 1
      simp only [dN, List.length_append, List.length_cons, List.length_nil]
      omega
    · refine ⟨some u, ?_, rfl⟩
      rw [if_pos e2, Lib.itoa_nonneg]
      have hn : numberM ([123] ++ (dN lo ++ (44 :: (dN u ++ (125 :: r))))) 1 = .ok lo (1 + (dN lo).length) := num_at8 h1 [123] (r := 44 :: (dN u ++ (125 :: r))) (fun c hc => by injection hc with hc; omega)
      have hn2 := num_at8 (u := u) (by omega) ([123] ++ (dN lo ++ [44])) (r := 125 :: r) (fun c hc => by injection hc with hc; omega)
      have e : [123] ++ (natsOf (Lib.decDigits lo) ++ (44 :: natsOf (Lib.decDigits u) ++ [125])) ++ r = [123] ++ (dN lo ++ (44 :: (dN u ++ (125 :: r)))) := by simp
      have e' : ([123] ++ (dN lo ++ [44])) ++ (dN u ++ (125 :: r)) = [123] ++ (dN lo ++ (44 :: (dN u ++ (125 :: r)))) := by simp
      have hk : ([123] ++ (dN lo ++ [44])).length = 1 + (dN lo).length + 1 := by simp only [List.length_append, List.length_cons, List.length_nil] <;> omega
      rw [e', hk] at hn2
      have g1 : ([123] ++ (dN lo ++ (44 :: (dN u ++ (125 :: r)))))[1 + (dN lo).length]? = some 44 := by
        rw [← List.append_assoc, hget _ _ _ (by simp only [List.length_append, List.length_cons, List.length_nil] <;> omega)]
        rfl
      have g2 : ([123] ++ (dN lo ++ (44 :: (dN u ++ (125 :: r)))))[1 + (dN lo).length + 1]? ≠ some 125 := by
        rw [← e', hget _ _ _ (by simp only [List.length_append, List.length_cons, List.length_nil] <;> omega)]
        obtain ⟨d, l, h5, h6⟩ := dN_head u
        rw [h5, List.cons_append, List.getElem?_cons_zero]
        intro h7
        injection h7 with h7
        omega
      have g3 : ([123] ++ (dN lo ++ (44 :: (dN u ++ (125 :: r)))))[1 + (dN lo).length + 1 + (dN u).length]? = some 125 := by
        rw [← e', ← List.append_assoc, hget _ _ _ (by simp only [List.length_append, List.length_cons, List.length_nil] <;> omega)]
        rfl
      rw [e]
      unfold bracesM
      rw [hn]
      simp only []
      rw [if_pos g1, if_neg g2, hn2]
      simp only []
      rw [if_neg (by omega), if_pos g3]
      congr 1
      simp only [dN, List.length_append, List.length_cons, List.length_nil]
      omega
theorem tok_count_at {lo : Nat} {hi : Int} (z : Bool) (h1 : lo ≤ 1000) (h2 : hi = -1 ∨ (((lo : Nat) : Int) ≤ hi ∧ hi ≤ 1000)) {r : List Nat} (h3 : r[0]? ≠ some 63) (h4 : r[0]? ≠ some 43) :
    tokM (cN lo hi z ++ r) 0 = .ok ⟨5, noSet, lo, hi, z⟩ (cN lo hi z).length := by
  rw [cN_eq]
  by_cases e1 : ((lo : Nat) : Int) = 0 ∧ hi = -1
  · obtain ⟨e, rfl⟩ := e1
    obtain rfl : lo = 0 := by omega
    rw [if_pos ⟨rfl, rfl⟩, List.append_assoc]
    have := lazy_at 0 (-1) z [42] h3 h4
    unfold tokM
    simp only [List.cons_append, List.nil_append, List.getElem?_cons_zero] at this ⊢
    rw [if_neg (by decide), if_neg (by decide), if_neg (by decide), if_neg (by decide), if_neg (by decide), if_neg (by decide), if_pos trivial]
    refine this.trans ?_
    rw [List.length_cons, Nat.add_comm]
    rfl
  rw [if_neg e1]
  by_cases e2 : ((lo : Nat) : Int) = 1 ∧ hi = -1
  · obtain ⟨e, rfl⟩ := e2
    obtain rfl : lo = 1 := by omega
    rw [if_pos ⟨rfl, rfl⟩, List.append_assoc]
    have := lazy_at 1 (-1) z [43] h3 h4
    unfold tokM
    simp only [List.cons_append, List.nil_append, List.getElem?_cons_zero] at this ⊢
    rw [if_neg (by decide), if_neg (by decide), if_neg (by decide), if_neg (by decide), if_neg (by decide), if_neg (by decide), if_neg (by decide), if_pos trivial]
    refine this.trans ?_
    rw [List.length_cons, Nat.add_comm]
    rfl
  rw [if_neg e2]
  by_cases e3 : ((lo : Nat) : Int) = 0 ∧ hi = 1
  · obtain ⟨e, rfl⟩ := e3
    obtain rfl : lo = 0 := by omega
    rw [if_pos ⟨rfl, rfl⟩, List.append_assoc]
    have := lazy_at 0 1 z [63] h3 h4
    unfold tokM
    simp only [List.cons_append, List.nil_append, List.getElem?_cons_zero] at this ⊢
    rw [if_neg (by decide), if_neg (by decide), if_neg (by decide), if_neg (by decide), if_neg (by decide), if_neg (by decide), if_neg (by decide), if_neg (by decide), if_pos trivial]
    refine this.trans ?_
    rw [List.length_cons, Nat.add_comm]
    rfl
  rw [if_neg e3]
  obtain ⟨o, hb, ho⟩ := brc_at8 h1 h2 (zN z ++ r)
  rw [List.append_assoc]
  have hl := lazy_at lo hi z ([123] ++ (natsOf (Lib.itoa lo) ++ ((if hi = -1 then [44] else if hi ≠ lo then 44 :: natsOf (Lib.itoa hi) else []) ++ [125]))) h3 h4
  generalize (natsOf (Lib.itoa lo) ++ ((if hi = -1 then [44] else if hi ≠ lo then 44 :: natsOf (Lib.itoa hi) else []) ++ [125])) = Q at *
  unfold tokM
  have g : ([123] ++ Q ++ (zN z ++ r))[0]? = some 123 := rfl
  rw [g]
  simp only [show ¬(123 : Nat) = 92 by decide, show ¬(123 : Nat) = 91 by decide, show ¬(123 : Nat) = 40 by decide, show ¬(123 : Nat) = 41 by decide, show ¬(123 : Nat) = 124 by decide, show ¬(123 : Nat) = 46 by decide, show ¬(123 : Nat) = 42 by decide, show ¬(123 : Nat) = 43 by decide, show ¬(123 : Nat) = 63 by decide, if_false, if_true]
  rw [Nat.zero_add, hb]
  simp only []
  rw [ho, hl, ← List.length_append]
/-- A token as it is scanned. -/
def NormTok (x : Tok) : Prop := x = setTok x.set ∨ (∃ k, (k = 1 ∨ k = 2 ∨ k = 3 ∨ k = 4) ∧ x = kindTok k) ∨ (x = ⟨5, noSet, x.lo, x.hi, x.lazy⟩ ∧ CountOk x)
def tokT (x : Tok) : List Nat := if x.kind = 0 then sN x.set else if x.kind = 1 then [40] else if x.kind = 2 then [40, 63, 58] else if x.kind = 3 then [41] else if x.kind = 4 then [124] else cN x.lo x.hi x.lazy
structure TokEq (x y : Tok) : Prop where
  kind : y.kind = x.kind
  lo : y.lo = x.lo
  hi : y.hi = x.hi
  lazy : y.lazy = x.lazy
  set : eqB x.set y.set = true
theorem eqB_self (m : Nat → Bool) : eqB m m = true := eqB_true fun _ _ => rfl
theorem tok_text {x : Tok} (h : NormTok x) {r : List Nat} (h1 : x.kind = 1 → r[0]? ≠ some 63) (h5 : x.kind = 5 → r[0]? ≠ some 63 ∧ r[0]? ≠ some 43) : ∃ y, tokM (tokT x ++ r) 0 = .ok y (tokT x).length ∧ TokEq x y := by
  rcases h with h | ⟨k, hk, rfl⟩ | ⟨h, hc⟩
  · have hk : x.kind = 0 := by rw [h]; rfl
    obtain ⟨m', h2, h3⟩ := tok_set x.set r
    refine ⟨setTok m', ?_, by rw [h]; exact ⟨rfl, rfl, rfl, rfl, h3⟩⟩
    unfold tokT
    rw [if_pos hk]
    exact h2
  · refine ⟨kindTok k, ?_, ⟨rfl, rfl, rfl, rfl, eqB_self _⟩⟩
    rcases hk with rfl | rfl | rfl | rfl
    · have h6 := h1 rfl
      have e : tokT (kindTok 1) = [40] := rfl
      rw [e]
      unfold tokM
      simp only [List.cons_append, List.nil_append, List.getElem?_cons_zero]
      rw [if_neg (by decide), if_neg (by decide), if_pos trivial]
      unfold groupM
      simp only [Nat.zero_add, List.getElem?_cons_succ]
      rw [if_neg h6]
      rfl
    · rfl
    · rfl
    · rfl
  · have hk : x.kind = 5 := by rw [h]
    obtain ⟨h6, h7⟩ := h5 hk
    obtain ⟨h8, h9⟩ := hc hk
    refine ⟨⟨5, noSet, x.lo, x.hi, x.lazy⟩, ?_, by rw [h]; exact ⟨rfl, rfl, rfl, rfl, eqB_self _⟩⟩
    unfold tokT
    rw [hk]
    simp only [show ¬(5 : Nat) = 0 by decide, show ¬(5 : Nat) = 1 by decide, show ¬(5 : Nat) = 2 by decide, show ¬(5 : Nat) = 3 by decide, show ¬(5 : Nat) = 4 by decide, if_false]
    exact tok_count_at x.lazy h8 h9 h6 h7
theorem tokT_head {x : Tok} (h : NormTok x) : ∃ c l, tokT x = c :: l ∧ (x.kind ≠ 5 → c ≠ 63 ∧ c ≠ 43) := by
  rcases h with h | ⟨k, hk, rfl⟩ | ⟨h, hc⟩
  · have hk : x.kind = 0 := by rw [h]; rfl
    obtain ⟨c, l, h1, h2, h3, -⟩ := sN_head x.set []
    exact ⟨c, l, by unfold tokT; rw [if_pos hk, h1], fun _ => ⟨h2, h3⟩⟩
  · rcases hk with rfl | rfl | rfl | rfl
    · exact ⟨40, [], rfl, fun _ => ⟨by decide, by decide⟩⟩
    · exact ⟨40, [63, 58], rfl, fun _ => ⟨by decide, by decide⟩⟩
    · exact ⟨41, [], rfl, fun _ => ⟨by decide, by decide⟩⟩
    · exact ⟨124, [], rfl, fun _ => ⟨by decide, by decide⟩⟩
  · have hk : x.kind = 5 := by rw [h]
    have key : ∃ c l, tokT x = c :: l := by
      unfold tokT
      rw [hk]
      simp only [show ¬(5 : Nat) = 0 by decide, show ¬(5 : Nat) = 1 by decide, show ¬(5 : Nat) = 2 by decide, show ¬(5 : Nat) = 3 by decide, show ¬(5 : Nat) = 4 by decide, if_false]
      rw [cN_eq]
      split
      · exact ⟨_, _, rfl⟩
      · split
        · exact ⟨_, _, rfl⟩
        · split
          · exact ⟨_, _, rfl⟩
          · exact ⟨_, _, rfl⟩
    obtain ⟨c, l, h1⟩ := key
    exact ⟨c, l, h1, fun h => absurd hk h⟩
/-- No count stands behind an open bracket or another count. -/
def ChainOk : List Tok → Prop
  | [] => True
  | x :: l => (x.kind = 1 ∨ x.kind = 5 → ∀ y, l.head? = some y → y.kind ≠ 5) ∧ ChainOk l
def textN (l : List Tok) : List Nat := l.flatMap tokT
theorem textN_head {l : List Tok} (hn : ∀ x ∈ l, NormTok x) (h : ∀ y, l.head? = some y → y.kind ≠ 5) : (textN l)[0]? ≠ some 63 ∧ (textN l)[0]? ≠ some 43 := by
  cases l with
  | nil => simp [textN]
  | cons x l =>
    obtain ⟨c, r, h1, h2⟩ := tokT_head (hn x (by simp))
    have := h2 (h x rfl)
    unfold textN
    rw [List.flatMap_cons, h1, List.cons_append, List.getElem?_cons_zero]
    simp only [ne_eq, Option.some.injEq]
    exact this
/-- Tokens alike, one by one. -/
inductive ToksEq : List Tok → List Tk → Prop where
  | nil : ToksEq [] []
  | cons {x : Tok} {y : Tk} {l : List Tok} {T : List Tk} (h : TokEq x y.1) (hl : ToksEq l T) : ToksEq (x :: l) (y :: T)
theorem scan_text : ∀ (l : List Tok) (pre : List Nat) (acc : List Tk) (f : Nat), (∀ x ∈ l, NormTok x) → ChainOk l → l.length < f →
    ∃ T j, scanLoop (pre ++ textN l) f pre.length acc = .ok (acc ++ T) j ∧ ToksEq l T := by
  intro l
  induction l with
  | nil =>
    intro pre acc f _ _ hf
    obtain ⟨f, rfl⟩ : ∃ g, f = g + 1 := ⟨f - 1, by simp at hf; omega⟩
    refine ⟨[], pre.length, ?_, .nil⟩
    unfold scanLoop
    rw [if_neg (by simp [textN]), List.append_nil]
  | cons x l ih =>
    intro pre acc f hn hc hf
    obtain ⟨f, rfl⟩ : ∃ g, f = g + 1 := ⟨f - 1, by simp at hf; omega⟩
    have hnl : ∀ y ∈ l, NormTok y := fun y hy => hn y (List.mem_cons_of_mem _ hy)
    have hx := hn x (List.mem_cons_self ..)
    obtain ⟨y, h1, h2⟩ := tok_text hx (r := textN l) (fun h => (textN_head hnl (hc.1 (.inl h))).1) (fun h => textN_head hnl (hc.1 (.inr h)))
    have hs := tokM_shift pre (tokT x ++ textN l) 0
    rw [Nat.add_zero, h1] at hs
    obtain ⟨T, j, h3, h4⟩ := ih (pre ++ tokT x) (acc ++ [(y, pre.length, pre.length + (tokT x).length)]) f hnl hc.2 (by simp at hf; omega)
    refine ⟨(y, pre.length, pre.length + (tokT x).length) :: T, j, ?_, .cons h2 h4⟩
    obtain ⟨c, r, h5, -⟩ := tokT_head hx
    unfold scanLoop
    have e : textN (x :: l) = tokT x ++ textN l := by unfold textN; rw [List.flatMap_cons]
    rw [e, if_pos (by rw [h5]; simp), hs]
    simp only [Res.shift]
    rw [List.append_assoc, List.length_append] at h3
    rw [h3, List.append_assoc]
    rfl
theorem text_len : ∀ (l : List Tok), (∀ x ∈ l, NormTok x) → l.length ≤ (textN l).length
  | [], _ => Nat.zero_le _
  | x :: l, h => by
    have := text_len l fun y hy => h y (List.mem_cons_of_mem _ hy)
    obtain ⟨c, r, h5, -⟩ := tokT_head (h x (List.mem_cons_self ..))
    unfold textN at this ⊢
    rw [List.flatMap_cons, List.length_append, h5, List.length_cons, List.length_cons]
    omega
theorem scanM_text {l : List Tok} (hn : ∀ x ∈ l, NormTok x) (hc : ChainOk l) : ∃ T j, scanM (textN l) = .ok T j ∧ ToksEq l T := by
  obtain ⟨T, j, h1, h2⟩ := scan_text l [] [] ((textN l).length + 1) hn hc (by have := text_len l hn; omega)
  exact ⟨T, j, h1, h2⟩
end Go.Proofs.YtpiimcbbgalhfaaGreatDoor
