/- What is printed of a tree that was read is read as the same tree, and printed as itself. Plain. -/
import Derived.Test.YtpiimcbbgalhfaaGreatDoorCr
import Derived.Test.YtpiimcbbgalhfaaGreatDoorBq
import Derived.Test.YtpiimcbbgalhfaaGreatDoorCc
namespace Go.Proofs.YtpiimcbbgalhfaaGreatDoor
set_option maxRecDepth 100000
open Go.RowKit
def tokB (x : Tok) : List UInt8 := if x.kind = 0 then sL x.set else if x.kind = 1 then [40] else if x.kind = 2 then [40, 63, 58] else if x.kind = 3 then [41] else if x.kind = 4 then [124] else toL (countS x.lo x.hi x.lazy)
theorem tokT_nat (x : Tok) : tokT x = natsOf (tokB x) := by
  unfold tokT tokB
  repeat' split
  all_goals rfl
def textB (l : List Tok) : List UInt8 := l.flatMap tokB
theorem textB_append (a b : List Tok) : textB (a ++ b) = textB a ++ textB b := by simp [textB]
theorem textB_cons (x : Tok) (l : List Tok) : textB (x :: l) = tokB x ++ textB l := by simp [textB]
theorem textN_nat (l : List Tok) : textN l = natsOf (textB l) := by
  induction l with
  | nil => rfl
  | cons x l ih =>
    rw [textB_cons, natsOf_append, ← ih, ← tokT_nat]
    simp [textN]
def Prints8 (t : Tree) : Prop := fitT t = true → ∀ acc : Acc, acc.length + (textB (toksT t)).length ≤ 1048576 → nodeP t acc = acc ++ textB (toksT t)
theorem fold_text (sep : Acc) : ∀ (l : List Tree), (∀ n ∈ l, ∀ acc : Acc, acc.length + (textB (toksT n)).length ≤ 1048576 → nodeP n acc = acc ++ textB (toksT n)) →
    ∀ acc : Acc, acc.length + (l.flatMap fun n => sep ++ textB (toksT n)).length ≤ 1048576 → (l.map nodeP).foldl (fun a g => g (a ++ sep)) acc = acc ++ l.flatMap fun n => sep ++ textB (toksT n) := by
  intro l
  induction l with
  | nil => intro _ acc _; simp
  | cons n l ih =>
    intro h acc hl
    simp only [List.flatMap_cons, List.length_append] at hl
    rw [List.map_cons, List.foldl_cons, h n (by simp) (acc ++ sep) (by rw [List.length_append]; omega)]
    rw [ih (fun m hm => h m (by simp [hm])) _ (by simp only [List.length_append]; omega)]
    simp only [List.flatMap_cons, List.append_assoc]
theorem fit_mem {l : List Tree} (h : fitL l = true) {n : Tree} (hn : n ∈ l) : fitT n = true := by
  induction l with
  | nil => cases hn
  | cons m l ih =>
    simp only [fitL, Bool.and_eq_true] at h
    rcases List.mem_cons.1 hn with rfl | hn
    · exact h.1
    · exact ih h.2 hn
theorem head_text {kids : List Tree} (h : ∀ n ∈ kids, ∀ acc : Acc, acc.length + (textB (toksT n)).length ≤ 1048576 → nodeP n acc = acc ++ textB (toksT n)) (acc : Acc) (hl : acc.length + (textB (headK (toksL kids))).length ≤ 1048576) :
    headF (kidsP kids) acc = acc ++ textB (headK (toksL kids)) := by
  cases kids with
  | nil => simp [headF, kidsP, headK, toksL, textB]
  | cons n l =>
    simp only [kidsP, headF, toksL, headK] at hl ⊢
    exact h n (by simp) acc hl
theorem textB_flat (F : List (List Tok)) : textB F.flatten = F.flatMap textB := by
  induction F with
  | nil => rfl
  | cons f F ih => rw [List.flatten_cons, textB_append, ih, List.flatMap_cons]
theorem textB_bars (r : List (List Tok)) : textB (r.flatMap fun g => kindTok 4 :: g) = r.flatMap fun g => [124] ++ textB g := by
  induction r with
  | nil => rfl
  | cons f F ih =>
    rw [List.flatMap_cons, textB_append, ih, List.flatMap_cons, textB_cons]
    rfl
theorem cform8 {k : Int} {z pl : Bool} {lo hi : Int} {n : Nat} {kd : Nat → Int} (h : formB k z pl lo hi n kd = true) (hk : k = 6) : 0 ≤ lo ∧ lo ≤ 1000 ∧ (hi = -1 ∨ (lo ≤ hi ∧ hi ≤ 1000)) := by
  subst hk
  unfold formB at h
  split at h
  · cases h
  · simp only [show ¬((6 : Int) = 0 ∨ (6 : Int) = 1) by decide, show ¬((6 : Int) = 2 ∨ (6 : Int) = 3) by decide, show ¬(6 : Int) = 4 by decide, show ¬(6 : Int) = 5 by decide, if_false, if_true, Bool.and_eq_true, Bool.or_eq_true, decide_eq_true_eq, beq_iff_eq] at h
    obtain ⟨⟨-, ⟨h1, h2⟩, h3⟩, -⟩ := h
    exact ⟨h1, h2, h3⟩
theorem node_of {k : Int} {set : Nat → Bool} {lo hi : Int} {z : Bool} {kids : List Tree} {f t : Nat} (hs : ∀ n ∈ kids, Prints8 n) : Prints8 (.mk k set lo hi z kids f t) := by
  intro hf acc hl
  simp only [fitT, Bool.and_eq_true] at hf
  have hk : ∀ n ∈ kids, ∀ acc : Acc, acc.length + (textB (toksT n)).length ≤ 1048576 → nodeP n acc = acc ++ textB (toksT n) := fun n hn => hs n hn (fit_mem hf.2 hn)
  have hcf := cform8 hf.1
  simp only [toksT] at hl ⊢
  simp only [nodeP]
  unfold nodeK
  rw [if_neg (by omega)]
  unfold toksK at hl ⊢
  by_cases h1 : k = 1
  · rw [if_pos h1] at hl ⊢
    rw [if_pos h1]
    simp [textB, tokB, setTok, sL]
  rw [if_neg h1] at hl ⊢
  rw [if_neg h1]
  by_cases h2 : k = 2
  · rw [if_pos h2] at hl ⊢
    rw [if_pos h2]
    rw [textB_cons, textB_append] at hl ⊢
    have e1 : tokB (kindTok 1) = [40] := rfl
    have e3 : textB [kindTok 3] = [41] := rfl
    rw [e1, e3] at hl ⊢
    simp only [List.length_append, List.length_singleton] at hl
    rw [head_text hk _ (by simp only [List.length_append, List.length_singleton]; omega)]
    simp only [List.append_assoc]
  rw [if_neg h2] at hl ⊢
  rw [if_neg h2]
  by_cases h3 : k = 3
  · rw [if_pos h3] at hl ⊢
    rw [if_pos h3]
    rw [textB_cons, textB_append] at hl ⊢
    have e1 : tokB (kindTok 2) = [40, 63, 58] := rfl
    have e3 : textB [kindTok 3] = [41] := rfl
    rw [e1, e3] at hl ⊢
    simp only [List.length_append, List.length_cons, List.length_nil] at hl
    rw [head_text hk _ (by simp only [List.length_append, List.length_cons, List.length_nil]; omega)]
    simp only [List.append_assoc, List.cons_append, List.nil_append]
  rw [if_neg h3] at hl ⊢
  rw [if_neg h3]
  by_cases h4 : k = 4
  · rw [if_pos h4] at hl ⊢
    rw [if_pos h4]
    rw [toksL_map, textB_flat, List.flatMap_map] at hl ⊢
    rw [kidsP_map]
    cases kids with
    | nil => simp [joinF]
    | cons n l =>
      simp only [List.flatMap_cons, List.length_append] at hl
      simp only [List.map_cons, joinF, List.flatMap_cons]
      rw [hk n (by simp) acc (by omega)]
      have := fold_text [] l (fun m hm => hk m (by simp [hm])) (acc ++ textB (toksT n)) (by simp only [List.nil_append, List.length_append]; omega)
      simp only [List.nil_append] at this
      rw [this, List.append_assoc]
  rw [if_neg h4] at hl ⊢
  rw [if_neg h4]
  by_cases h5 : k = 5
  · rw [if_pos h5] at hl ⊢
    rw [if_pos h5]
    rw [toksL_map] at hl ⊢
    rw [kidsP_map]
    cases kids with
    | nil => simp [joinF, joinK, textB]
    | cons n l =>
      simp only [List.map_cons, joinK] at hl ⊢
      rw [textB_append, textB_bars, List.flatMap_map] at hl ⊢
      simp only [List.length_append] at hl
      simp only [joinF]
      rw [hk n (by simp) acc (by omega)]
      rw [fold_text [124] l (fun m hm => hk m (by simp [hm])) (acc ++ textB (toksT n)) (by simp only [List.length_append]; omega), List.append_assoc]
  rw [if_neg h5] at hl ⊢
  rw [if_neg h5]
  by_cases h6 : k = 6
  · rw [if_pos h6] at hl ⊢
    rw [if_pos h6]
    rw [textB_append] at hl ⊢
    simp only [List.length_append] at hl
    rw [head_text hk _ (by omega)]
    have e : textB [(⟨5, noSet, lo.toNat, hi, z⟩ : Tok)] = toL (countS lo hi z) := by
      have := (hcf h6).1
      rw [textB_cons]
      simp only [textB, List.flatMap_nil, List.append_nil, tokB]
      simp only [show ¬(5 : Nat) = 0 by decide, show ¬(5 : Nat) = 1 by decide, show ¬(5 : Nat) = 2 by decide, show ¬(5 : Nat) = 3 by decide, show ¬(5 : Nat) = 4 by decide, if_false]
      rw [Int.toNat_of_nonneg this]
    rw [e, List.append_assoc]
  rw [if_neg h6] at hl ⊢
  rw [if_neg h6]
  simp [textB]
mutual
theorem node_text : ∀ t : Tree, Prints8 t
  | .mk _ _ _ _ _ kids _ _ => node_of (kids_text kids)
theorem kids_text : ∀ l : List Tree, ∀ n ∈ l, Prints8 n
  | [] => fun n hn => nomatch hn
  | m :: l => fun n hn => by
    rcases List.mem_cons.1 hn with h | h
    · rw [h]
      exact node_text m
    · exact kids_text l n h
end
theorem list_eq {m m' : Nat → Bool} (h : eqB m m' = true) : listM m 256 = listM m' 256 := by
  unfold listM
  congr 1
  exact List.filter_congr fun x hx => (eqB_iff m m').1 h x (List.mem_range.1 hx)
theorem first_eq {m m' : Nat → Bool} (h : eqB m m' = true) : firstM m = firstM m' := by
  have key : ∀ l : List Nat, (∀ x ∈ l, m x = m' x) → l.find? m = l.find? m' := by
    intro l
    induction l with
    | nil => intro _; rfl
    | cons a l ih =>
      intro hl
      rw [List.find?_cons, List.find?_cons, hl a (by simp), ih fun x hx => hl x (by simp [hx])]
  exact key _ fun x hx => (eqB_iff m m').1 h x (List.mem_range.1 hx)
theorem setS_eq {m m' : Nat → Bool} (h : eqB m m' = true) : setS m = setS m' := by
  have h1 : cnt m 256 = cnt m' 256 := by rw [← cnt_listM, ← cnt_listM, list_eq h]
  have h2 : eqB m dotM = eqB m' dotM := by
    rw [Bool.eq_iff_iff, eqB_iff, eqB_iff]
    have := (eqB_iff m m').1 h
    constructor
    · intro e x hx
      rw [← this x hx]
      exact e x hx
    · intro e x hx
      rw [this x hx]
      exact e x hx
  unfold setS
  rw [first_eq h, h1, h2]
  unfold classS classL
  rw [list_eq h]
theorem same_parts {k k' : Int} {s s' : Nat → Bool} {lo lo' hi hi' : Int} {z z' : Bool} {kids kids' : List Tree} {f t f' t' : Nat} (h : sameT (.mk k s lo hi z kids f t) (.mk k' s' lo' hi' z' kids' f' t') = true) :
    k = k' ∧ eqB s s' = true ∧ lo = lo' ∧ hi = hi' ∧ z = z' ∧ sameL kids kids' = true := by
  simpa only [sameT, Bool.and_eq_true, beq_iff_eq] using h
mutual
theorem same_text : ∀ t t' : Tree, sameT t t' = true → textB (toksT t) = textB (toksT t') ∧ countT 2 t = countT 2 t' ∧ sizeT t = sizeT t'
  | .mk k s lo hi z kids f t, .mk k' s' lo' hi' z' kids' f' t' => fun h => by
    obtain ⟨rfl, h2, rfl, rfl, rfl, h6⟩ := same_parts h
    obtain ⟨h7, h8, h9⟩ := same_textL kids kids' h6
    have hh : textB (headK (toksL kids)) = textB (headK (toksL kids')) := by
      rw [toksL_map, toksL_map]
      cases kids with
      | nil =>
        cases kids' with
        | nil => rfl
        | cons b r => simp [sameL] at h6
      | cons a l =>
        cases kids' with
        | nil => simp [sameL] at h6
        | cons b r =>
          simp only [List.map_cons, List.cons.injEq] at h7
          exact h7.1
    have hj : (toksL kids).flatMap textB = (toksL kids').flatMap textB := by
      rw [toksL_map, toksL_map, List.flatMap_map, List.flatMap_map, List.flatMap_def, List.flatMap_def, h7]
    have hb : textB (joinK (toksL kids)) = textB (joinK (toksL kids')) := by
      rw [toksL_map, toksL_map]
      cases kids with
      | nil =>
        cases kids' with
        | nil => rfl
        | cons b r => simp [sameL] at h6
      | cons a l =>
        cases kids' with
        | nil => simp [sameL] at h6
        | cons b r =>
          simp only [List.map_cons, List.cons.injEq] at h7
          simp only [List.map_cons, joinK]
          rw [textB_append, textB_append, textB_bars, textB_bars, List.flatMap_map, List.flatMap_map, h7.1]
          congr 1
          have e : ∀ q : List Tree, (q.flatMap fun x => [124] ++ textB (toksT x)) = (q.map fun x => textB (toksT x)).flatMap fun y => [124] ++ y := fun q => by rw [List.flatMap_map]
          rw [e, e, h7.2]
    refine ⟨?_, by simp only [countT, h8], by simp only [sizeT, h9]⟩
    simp only [toksT, toksK]
    split
    · simp only [textB, List.flatMap_cons, List.flatMap_nil, tokB, setTok, if_true, sL, setS_eq h2]
    · split
      · rw [textB_cons, textB_cons, textB_append, textB_append, hh]
      · split
        · rw [textB_cons, textB_cons, textB_append, textB_append, hh]
        · split
          · rw [textB_flat, textB_flat, hj]
          · split
            · exact hb
            · split
              · rw [textB_append, textB_append, hh]
              · rfl
theorem same_textL : ∀ l l' : List Tree, sameL l l' = true → (l.map fun x => textB (toksT x)) = (l'.map fun x => textB (toksT x)) ∧ countL 2 l = countL 2 l' ∧ sizeL l = sizeL l'
  | [], [] => fun _ => ⟨rfl, rfl, rfl⟩
  | [], b :: r => fun h => by simp [sameL] at h
  | a :: l, [] => fun h => by simp [sameL] at h
  | a :: l, b :: r => fun h => by
    simp only [sameL, Bool.and_eq_true] at h
    obtain ⟨h1, h2, h5⟩ := same_text a b h.1
    obtain ⟨h3, h4, h6⟩ := same_textL l r h.2
    exact ⟨by rw [List.map_cons, List.map_cons, h1, h3], by simp only [countL, h2, h4], by simp only [sizeL, h5, h6]⟩
end
theorem setS_size (m : Nat → Bool) : (sL m).length ≤ 2310 := by
  unfold sL setS
  cases hf : firstM m with
  | none =>
    show nothingB.data.toList.length ≤ 2310
    decide
  | some b =>
    simp only []
    split
    · show ({ data := #[46] } : ByteArray).data.toList.length ≤ 2310
      decide
    · split
      · have := byteS_size b
        rw [Array.length_toList]
        exact Nat.le_trans this (by decide)
      · have h1 := classA_len (runsM (listM m 256))
        have h2 := (runs_in m).1
        show (classA (runsM (listM m 256)) ++ [93]).length ≤ 2310
        rw [List.length_append, List.length_singleton]
        omega
theorem digits_len {u : Nat} (h : u ≤ 1000) : (Lib.decDigits u).length ≤ 4 := by
  have e : ∀ u, (Lib.decDigits u).length = Lib.nDigits u := Lib.decDigits_length
  rw [e]
  by_cases h1 : u < 10
  · rw [Lib.nDigits_small h1]
    omega
  · rw [Lib.nDigits_big h1]
    by_cases h2 : u / 10 < 10
    · rw [Lib.nDigits_small h2]
      omega
    · rw [Lib.nDigits_big h2]
      by_cases h3 : u / 10 / 10 < 10
      · rw [Lib.nDigits_small h3]
        omega
      · rw [Lib.nDigits_big h3, Lib.nDigits_small (by omega)]
        omega
theorem count_len {lo hi : Int} (z : Bool) (h1 : 0 ≤ lo ∧ lo ≤ 1000) (h2 : hi = -1 ∨ (lo ≤ hi ∧ hi ≤ 1000)) : (toL (countS lo hi z)).length ≤ 20 := by
  have hl : (toL (countS lo hi z)).length = (cN lo hi z).length := by unfold cN natsOf; rw [List.length_map]
  rw [hl, cN_eq]
  obtain ⟨u, rfl⟩ := Int.eq_ofNat_of_zero_le h1.1
  have hd := digits_len (u := u) (by omega)
  have hz : (zN z).length ≤ 1 := by cases z <;> decide
  have hn : ∀ l : List UInt8, (natsOf l).length = l.length := fun l => by unfold natsOf; rw [List.length_map]
  rw [List.length_append]
  split
  · simp only [List.length_singleton]; omega
  · split
    · simp only [List.length_singleton]; omega
    · split
      · simp only [List.length_singleton]; omega
      · simp only [List.length_append, List.length_singleton, hn, Lib.itoa_nonneg]
        split
        · simp only [List.length_singleton]; omega
        · rename_i hne
          obtain ⟨h3, h4⟩ : (u : Int) ≤ hi ∧ hi ≤ 1000 := by
            rcases h2 with h | h
            · exact absurd h hne
            · exact h
          obtain ⟨v, rfl⟩ := Int.eq_ofNat_of_zero_le (show 0 ≤ hi by omega)
          have hd2 := digits_len (u := v) (by omega)
          split
          · rw [List.length_cons, Lib.itoa_nonneg, hn]
            omega
          · simp only [List.length_nil]; omega
theorem tokB_len {x : Tok} (h : NormTok x) : (tokB x).length ≤ 2310 := by
  rcases h with h | ⟨k, hk, rfl⟩ | ⟨h, hc⟩
  · have hk : x.kind = 0 := by rw [h]; rfl
    unfold tokB
    rw [if_pos hk]
    exact setS_size _
  · rcases hk with rfl | rfl | rfl | rfl <;> simp [tokB, kindTok]
  · have hk : x.kind = 5 := by rw [h]
    obtain ⟨h1, h2⟩ := hc hk
    unfold tokB
    rw [hk]
    simp only [show ¬(5 : Nat) = 0 by decide, show ¬(5 : Nat) = 1 by decide, show ¬(5 : Nat) = 2 by decide, show ¬(5 : Nat) = 3 by decide, show ¬(5 : Nat) = 4 by decide, if_false]
    exact Nat.le_trans (count_len x.lazy ⟨by omega, by omega⟩ h2) (by decide)
theorem textB_len : ∀ {l : List Tok}, (∀ x ∈ l, NormTok x) → (textB l).length ≤ 2310 * l.length
  | [], _ => by simp [textB]
  | x :: l, h => by
    have := textB_len (l := l) fun y hy => h y (List.mem_cons_of_mem _ hy)
    have := tokB_len (h x (List.mem_cons_self ..))
    rw [textB_cons, List.length_append, List.length_cons]
    omega
theorem bytesN_mk (l : List UInt8) : bytesN ⟨l.toArray⟩ = natsOf l := rfl
/-- What is printed of a tree that was read. -/
theorem back_plain {s : ByteArray} {t : Tree} {j : Nat} (hs : s.size ≤ 300) (h : parseM s = .ok t j) :
    (nodeP t []).length ≤ 1048576 ∧ ∃ t' k, parseM ⟨(nodeP t []).toArray⟩ = .ok t' k ∧ sameT t t' = true ∧ countT 2 t = countT 2 t' ∧ sizeT t = sizeT t' ∧ nodeP t' [] = nodeP t [] := by
  have hgood := parse_good h
  have hN : (∀ x ∈ toksT t, NormTok x) ∧ (toksT t).length ≤ 300 := by
    have h' := h
    unfold parseM at h'
    cases hsc : scanM (bytesN s) with
    | err a b => rw [hsc] at h'; cases h'
    | ok L n =>
      rw [hsc] at h'
      simp only [] at h'
      have hN := scan_norms hsc
      have hl := scan_len hsc
      rw [bytesN_length] at hl
      rw [(tree_unp hN h').1]
      refine ⟨fun x hx => ?_, by rw [List.length_map]; omega⟩
      obtain ⟨y, hy, rfl⟩ := List.mem_map.1 hx
      exact hN y hy
  have hlen := textB_len hN.1
  have hle : (textB (toksT t)).length ≤ 1048576 := by omega
  have e : nodeP t [] = textB (toksT t) := by
    rw [node_text t hgood.fit [] (by simpa using hle), List.nil_append]
  obtain ⟨t', k, h1, h2⟩ := parse_text (r := ⟨(textB (toksT t)).toArray⟩) h (by rw [bytesN_mk, textN_nat])
  obtain ⟨h3, h4, h5⟩ := same_text t t' h2
  have hgood' := parse_good h1
  refine ⟨by rw [e]; exact hle, t', k, by rw [e]; exact h1, h2, h4, h5, ?_⟩
  rw [e, node_text t' hgood'.fit [] (by rw [← h3]; simpa using hle), List.nil_append, h3]
mutual
/-- A tree of which each node has what it may have can be printed. -/
theorem prok_of (hcnt : ∀ lo hi z, 0 ≤ lo ∧ lo ≤ 1000 → (hi = -1 ∨ (lo ≤ hi ∧ hi ≤ 1000)) → CntOk lo hi z) : ∀ t : Tree, fitT t = true → PrOk t
  | .mk k set lo hi z kids f t => fun h => by
    simp only [fitT, Bool.and_eq_true] at h
    simp only [PrOk]
    refine ⟨fun _ => ⟨set_any set, ?_⟩, fun hk => ?_, prok_ofL hcnt kids h.2⟩
    · have := setS_size set
      unfold sL at this
      rw [Array.length_toList] at this
      exact Nat.le_trans this (by decide)
    · obtain ⟨h1, h2, h3⟩ := cform8 h.1 hk
      refine ⟨hcnt lo hi z ⟨h1, h2⟩ h3, ?_⟩
      have := count_len z ⟨h1, h2⟩ h3
      unfold toL at this
      rw [Array.length_toList] at this
      exact Nat.le_trans this (by decide)
theorem prok_ofL (hcnt : ∀ lo hi z, 0 ≤ lo ∧ lo ≤ 1000 → (hi = -1 ∨ (lo ≤ hi ∧ hi ≤ 1000)) → CntOk lo hi z) : ∀ l : List Tree, fitL l = true → PrOkL l
  | [] => fun _ => trivial
  | n :: l => fun h => by
    simp only [fitL, Bool.and_eq_true] at h
    exact ⟨prok_of hcnt n h.1, prok_ofL hcnt l h.2⟩
end
end Go.Proofs.YtpiimcbbgalhfaaGreatDoor
