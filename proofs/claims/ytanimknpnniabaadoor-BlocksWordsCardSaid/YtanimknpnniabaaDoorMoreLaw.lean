/- BlocksMore: the blocks of sets, and of one more, are those of all of them; the order of sets is all one. -/
import Derived.Test.YtanimknpnniabaaDoorMore
import Derived.Test.YtanimknpnniabaaDoorAwake04
import Derived.Test.YtanimknpnniabaaDoorFirsts
import Derived.Laws.AppendOwnNone
namespace Go.Proofs.YtanimknpnniabaaDoor
open Go.RowKit
attribute [local go_sem] eq_words eqB_words eqB_zero
theorem keyL_turn (l : List (Nat → Bool)) (m : Nat → Bool) (a b : Nat) : keyL (m :: l) a = keyL (m :: l) b ↔ keyL (l ++ [m]) a = keyL (l ++ [m]) b := by
  rw [← keyL_snoc]
  simp only [keyL, List.map_cons, List.cons.injEq, Prod.mk.injEq]
  exact ⟨fun h => ⟨h.2, h.1⟩, fun h => ⟨h.2, h.1⟩⟩
theorem numL_turn (l : List (Nat → Bool)) (m : Nat → Bool) : numL (m :: l) = numL (l ++ [m]) := by
  funext b
  exact num_alike (keyL_turn l m) b
theorem cntL_turn (l : List (Nat → Bool)) (m : Nat → Bool) : cntL (m :: l) = cntL (l ++ [m]) := cntOf_alike (keyL_turn l m) 256
/-- nil, or at some address. -/
def FormS (v : Value) : Prop := v = .slice none 0 0 ∨ ∃ ad n c, v = .slice (some ad) n c
theorem rdS_cells {w : World} {ad : Addr} {n c : Nat} {l : List (Nat → Bool)} (h : RdS w (.slice (some ad) n c) l) (j : Nat) (u : Value) (hj : (setsC l)[j]? = some u) : w.cell? (ad.add j) = some u := by
  obtain ⟨A, c', e, _, _, h3⟩ := h
  injection e with e1 e2 e3
  subst e1
  have hlt : j < l.length * 4 := by
    have := (List.getElem?_eq_some_iff.1 hj).1
    rwa [setsC_length] at this
  have hi : l[j / 4]? = some (l[j / 4]'(by omega)) := List.getElem?_eq_getElem (by omega)
  obtain ⟨ad', e', _, c0, c1, c2, c3⟩ := h3 _ _ hi
  obtain rfl := Option.some.inj e'
  have hs := setsC_at l (j / 4) _ hi (j % 4) (by omega)
  rw [show j / 4 * 4 + j % 4 = j by omega, hj] at hs
  have hadd : ∀ r, 0 < r → (ad.add (j / 4 * 4 + r)) = ⟨(ad.add (j / 4 * 4)).block, (ad.add (j / 4 * 4)).off + r, none⟩ := fun r hr => by
    unfold Addr.add
    rw [if_neg (by omega)]
    split
    · rename_i h0
      rw [h0]
      simp
    · simp [Nat.add_assoc]
  have hm : j % 4 = 0 ∨ j % 4 = 1 ∨ j % 4 = 2 ∨ j % 4 = 3 := by omega
  rw [show ad.add j = ad.add (j / 4 * 4 + j % 4) by congr 1; omega]
  rcases hm with e | e | e | e <;> rw [e] at hs ⊢ <;> simp only [setL, List.getElem?_cons_zero, List.getElem?_cons_succ, Option.some.injEq] at hs
  · rw [Nat.add_zero, c0, ← hs]
  · rw [hadd 1 (by omega), c1, ← hs]
  · rw [hadd 2 (by omega), c2, ← hs]
  · rw [hadd 3 (by omega), c3, ← hs]
theorem setsC_one (l : List (Nat → Bool)) : ∀ u ∈ setsC l, u.oneCell' = true := by
  intro u hu
  obtain ⟨m, _, hm⟩ := List.mem_flatMap.1 hu
  exact one_set m u hm
theorem setsC_append (l l' : List (Nat → Bool)) : setsC l ++ setsC l' = setsC (l ++ l') := by simp [setsC]
/-- 'append(v, x...)', v a row of sets of one's own, x any row of sets. -/
theorem append_sets {W : World} {ops : Array Oper} {rest : List Oper} {o : Oper} {a : Act} {Q : Exit → Act → World → Prop} (hgd : o.guard = none) (s x : Operand)
    (ho : o.op = .call { callee := .builtin .append, args := #[s, x], argTypes := #[22, 22] }) (base : Nat) (v : Value) (n : Nat) (xs : List (Nat → Bool)) (hs : a.eval s = v)
    (hown : W.ownsRow base 35 4 v n (setsC xs)) (l : List (Nat → Bool)) (v2 : Value) (hx : a.eval x = v2) (hr : RdS W v2 l) (hform : FormS v2) (h1000 : n + l.length ≤ 1000) (hbase : base ≤ W.heap.size)
    (h : ∀ v' w', w'.ownsRow base 35 4 v' (n + l.length) (setsC (xs ++ l)) → Below base W w' → wpList Tryd.prog ops Q rest (a.put o.dst v') w') : wpList Tryd.prog ops Q (o :: rest) a W := by
  obtain ⟨i, hi, h0, h1, h2⟩ := info_parts (by kernel_rfl : (Tryd.prog.info? 35).map (fun i => (i.zero, i.size, i.bytes)) = some (some (.agg #[.int .u64 0, .int .u64 0, .int .u64 0, .int .u64 0]), 4, 32))
  rcases hform with rfl | ⟨ad, n2, c, rfl⟩
  · have hl : l = [] := by
      obtain ⟨A, c', e, _, _, _⟩ := hr
      injection e with e1 e2 e3
      exact List.eq_nil_of_length_eq_zero e2.symm
    subst hl
    refine wpList_append_own_none hgd s x 22 ho base 35 i 4 Tryd.underlying22 hi v n (setsC xs) hs hown hx ?_
    exact h _ _ (by simpa using hown) (Below.refl _ _)
  · have hc := rdS_cells hr
    obtain ⟨A, c', e, _, hl, _⟩ := hr
    injection e with e1 e2 e3
    subst e2
    refine wpList_append_own _ hgd s x 22 ho base 35 i _ 4 32 Tryd.underlying22 hi h0 h1 h2 rfl (by omega) v n (setsC xs) hs hown ad l.length c (setsC l) hx (setsC_length l) hc (setsC_one l) (by unfold maxLen; omega) (by omega) hbase ?_
    intro v' w' hown' hg _
    rw [setsC_append] at hown'
    refine h v' w' hown' ?_
    exact (Below.refl base W).grown hg hbase (fun k hk => ((hown.lt) k hk).1)
set_option maxRecDepth 100000 in
set_option maxHeartbeats 2000000 in
theorem more_law (l : List (Nat → Bool)) (m : Nat → Bool) (v : Value) (w : World) (hv : RdSw w v l) (hform : FormS v) (hT : TabOk w) :
    Calls Tryd.prog 5 #[v, setV m] w fun e w' => e = .returned (.bool true) ∧ Below w.heap.size w w' := by
  have HT := Lib.hid hT
  have HV := Lib.hid hv
  have HF := Lib.hid hform
  clear hT hform
  obtain ⟨A, c, rfl, h1, h2, h3⟩ := hv
  clear h3
  unfold setV
  go_enter Tryd.func5, Tryd.ntmps5
  have hB := Blk.new w (setL m) 35
  have hw0 : Below w.heap.size w (w.alloc (.cells (setL m).toArray 35)) := (Below.refl _ w).alloc (Nat.le_refl _) _
  by_cases hlen : 20 < l.length
  · go_wp2_with fail
    refine (awake04_any _ (HT.out.below hw0)).mono ?_
    rintro e w1 ⟨rfl, hb⟩
    go_wp2
    go_returns
    exact ⟨rfl, hw0.trans (hb.mono hw0.size)⟩
  · have HV := Lib.hid (HV.out.rdS (by omega))
    go_wp2_with fail
    refine (awake04_any _ (HT.out.below hw0)).mono ?_
    rintro e w1 ⟨rfl, hb⟩
    have hw1 := hw0.trans (hb.mono hw0.size)
    have hB1 := hB.below hb hB.lt
    clear hB hw0 hb
    go_wp2_with fail
    refine (new_any l _ _ (HV.out.below hw1)).mono ?_
    rintro e w2 ⟨x, g, rfl, hx, _, _, hb⟩
    have hw2 := hw1.trans (hb.mono hw1.size)
    have hB2 := hB1.below hb hB1.lt
    have HX := Lib.hid hx
    clear hB1 hw1 hb hx
    obtain ⟨c0, c1, c2, c3, _, _, _, _⟩ := hB2.four
    go_wp2_with fail
    refine (more_at l m _ HX.out).mono ?_
    rintro e w3 ⟨y, gy, rfl, hy, _, _, hb⟩
    have hw3 := hw2.trans (hb.mono hw2.size)
    have hB3 := hB2.below hb hB2.lt
    have HY := Lib.hid hy
    clear hB2 hw2 hb hy c0 c1 c2 c3
    obtain ⟨c0, c1, c2, c3, _, _, _, _⟩ := hB3.four
    have hlit := World.ownsRow_lit (base := w3.heap.size) (e := 35) (size := 4) w3 (setsC [m]).toArray 1 (Nat.le_refl _) (by unfold maxLen; omega) rfl
    have hwa : Below w.heap.size w (w3.alloc (.cells (setsC [m]).toArray 35)) := hw3.alloc hw3.size _
    have HL := Lib.hid hlit
    have HR := Lib.hid (HV.out.below hwa)
    clear hlit
    go_wp2_with (at_builtin; refine append_sets rfl (.tmp 24) (.tmp 25) rfl w3.heap.size _ 1 [m] rfl HL.out l _ rfl HR.out HF.out (by omega) (by simp) ?_; intro v2 w4 hown hb4)
    have hs34 : w3.heap.size ≤ w4.heap.size := Nat.le_trans (by simp) hb4.size
    have hw4 : Below w.heap.size w w4 := hwa.trans (hb4.mono hw3.size)
    have hr4 : RdS w4 v2 (m :: l) := by
      have := own_rdS hown (by omega)
      simpa using this
    have HR4 := Lib.hid hr4
    clear hown hr4
    refine (new_any (m :: l) _ _ HR4.out).mono ?_
    rintro e w5 ⟨z, gz, rfl, hz, _, _, hb⟩
    rw [numL_turn, cntL_turn] at hz
    have hw5 := hw4.trans (hb.mono hw4.size)
    have hb35 : Below w3.heap.size w3 w5 := (((Below.refl _ w3).alloc (Nat.le_refl _) _).trans hb4).trans (hb.mono hs34)
    have HZ := Lib.hid hz
    have HY5 := Lib.hid (HY.out.below hb35)
    have HT5 := Lib.hid (HT.out.below hw5)
    have HQ := Lib.hid (numL_lt (l ++ [m]))
    have hn := cntL_le (l ++ [m])
    clear hb4 hw4 hb hz hb35 hs34 HR4 HL HR HY HX HV HF HT hwa hw3 hB3 c0 c1 c2 c3
    generalize numL (l ++ [m]) = q at *
    generalize cntL (l ++ [m]) = n at *
    go_wp2_with fail
    refine (count_at _ HY5.out).mono ?_
    rintro e w6 ⟨rfl, hb6⟩
    go_wp2_with fail
    refine (count_at _ (HZ.out.below hb6)).mono ?_
    rintro e w7 ⟨rfl, hb7⟩
    have hb57 := hb6.trans (hb7.mono hb6.size)
    clear hb6 hb7
    go_wp2
    go_loopw [8] (fun i wr => ∃ b : Nat, b ≤ 256 ∧ i = .int .i64 ((b : Nat) : Int) ∧ Below w5.heap.size w5 wr) (fun i _ => 256 - (intOf i).toNat)
    case atStart => exact ⟨0, by omega, rfl, hb57⟩
    case round =>
      clear hb57
      obtain ⟨b, hb256, rfl, hbl⟩ := hrel
      have hsz := hbl.size
      by_cases hlt : b < 256
      · go_wp2_with fail
        refine (ofm_any b hlt _ (HY5.out.below hbl)).mono ?_
        rintro e w8 ⟨rfl, hb8⟩
        have hbl8 := hbl.trans (hb8.mono hsz)
        go_wp2_with fail
        refine (ofm_any b hlt _ (HZ.out.below hbl8)).mono ?_
        rintro e w9 ⟨rfl, hb9⟩
        have hbl9 := hbl8.trans (hb9.mono hbl8.size)
        clear hb8 hb9 hbl8
        go_wp2
        go_roundw
        case rel => exact ⟨b + 1, by omega, by go_num, hbl9⟩
        case measure => simp [intOf]; omega
      · go_wp2
        go_loopw [9] (fun i wr => ∃ b : Nat, b ≤ n ∧ i = .int .i64 ((b : Nat) : Int) ∧ Below w5.heap.size w5 wr) (fun i _ => n - (intOf i).toNat)
        case atStart => exact ⟨0, Nat.zero_le _, rfl, hbl⟩
        case round =>
          obtain ⟨k, hkn, rfl, hbk⟩ := hrel
          have hszk := hbk.size
          rename_i wk
          by_cases hlk : k < n
          · go_wp2_with fail
            refine (count_at _ (HY5.out.below hbk)).mono ?_
            rintro e w8 ⟨rfl, hb8⟩
            have hbk8 := hbk.trans (hb8.mono hszk)
            go_wp2_with fail
            refine (set_at _ _ (HY5.out.below hbk8) HQ.out).mono ?_
            rintro e w9 ⟨rfl, hb9⟩
            have hbk9 := hbk8.trans (hb9.mono hbk8.size)
            have he : eqB (clsZ q ((k : Nat) : Int)) (clsZ q ((k : Nat) : Int)) = true := eqB_true fun _ _ => rfl
            unfold setV
            go_wp2_with fail
            refine (set_at _ _ (HZ.out.below hbk9) HQ.out).mono ?_
            rintro e w10 ⟨rfl, hb10⟩
            have hbk10 := hbk9.trans (hb10.mono hbk9.size)
            unfold setV
            clear hb8 hb9 hb10 hbk8 hbk9
            go_wp2
            go_roundw
            case rel => exact ⟨k + 1, by omega, by go_num, hbk10⟩
            case measure => simp [intOf]; omega
          · obtain rfl : k = n := by omega
            go_wp2_with fail
            refine (count_at _ (HY5.out.below hbk)).mono ?_
            rintro e w8 ⟨rfl, hb8⟩
            have hbk8 := hbk.trans (hb8.mono hszk)
            go_wp2
            go_returns
            exact ⟨rfl, hw5.trans (hbk8.mono hw5.size)⟩
end Go.Proofs.YtanimknpnniabaaDoor
