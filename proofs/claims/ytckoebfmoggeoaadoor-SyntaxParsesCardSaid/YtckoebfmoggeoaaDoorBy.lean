/- The reference of layer 5: Class: the plain part. -/
import Derived.Test.YtckoebfmoggeoaaDoorBx
import Derived.Test.YtckoebfmoggeoaaDoorBb
namespace Go.Proofs.YtckoebfmoggeoaaDoor
set_option maxRecDepth 100000
open Go.RowKit
theorem escM_ne {t : List Nat} {i j e : Nat} (h : escM t i = .err j e) : e ≠ 0 := by
  unfold escM at h
  split at h
  · injection h with _ h; omega
  · split at h
    · cases h
    · split at h
      · cases h
      · split at h
        · split at h
          · injection h with _ h; omega
          · split at h
            · injection h with _ h; omega
            · cases h
        · split at h
          · injection h with _ h; omega
          · injection h with _ h; omega
theorem itemM_ne {t : List Nat} {i j e : Nat} (h : itemM t i = .err j e) : e ≠ 0 := by
  unfold itemM at h
  split at h
  · injection h with _ h; omega
  · split at h
    · injection h with _ h; omega
    · split at h
      · exact escM_ne h
      · cases h
/-- A row of 256 Bools. -/
def bl (f : Nat → Bool) : List Value := (List.range 256).map fun x => .bool (f x)
theorem bl_length (f : Nat → Bool) : (bl f).length = 256 := by simp [bl]
theorem bl_get (f : Nat → Bool) {b : Nat} (h : b < 256) : (bl f)[b]? = some (.bool (f b)) := by
  unfold bl
  rw [List.getElem?_map, List.getElem?_range h]
  rfl
theorem bl_congr {f g : Nat → Bool} (h : ∀ x, x < 256 → f x = g x) : bl f = bl g := by
  unfold bl
  exact List.map_congr_left fun x hx => by rw [h x (List.mem_range.1 hx)]
theorem bl_set (f : Nat → Bool) (b : Nat) (v : Bool) : (bl f).set b (.bool v) = bl (fun x => if x = b then v else f x) := by
  apply List.ext_getElem
  · simp [bl]
  · intro i h1 h2
    simp only [bl, List.getElem_map, List.getElem_range, List.getElem_set]
    by_cases h : b = i
    · subst h; simp
    · rw [if_neg h, if_neg (fun e => h e.symm)]
theorem bl_none : bl noSet = List.replicate 256 (.bool false) := by
  have := falses (fun _ => false) 256
  rw [← this]
  unfold bl noSet
  simp
def mixM (m lo : Nat → Bool) (b x : Nat) : Bool := m x || (decide (x < b) && lo x)
theorem mix_zero (m lo : Nat → Bool) : bl (mixM m lo 0) = bl m := bl_congr fun x _ => by simp [mixM]
theorem mix_step (m lo : Nat → Bool) (b : Nat) : (bl (mixM m lo b)).set b (.bool (m b || lo b)) = bl (mixM m lo (b + 1)) := by
  rw [bl_set]
  refine bl_congr fun x _ => ?_
  unfold mixM
  by_cases h : x = b
  · subst h; simp
  · rw [if_neg h]
    congr 2
    simp only [decide_eq_decide]; omega
theorem mix_at (m lo : Nat → Bool) (b : Nat) : mixM m lo b b = m b := by simp [mixM]
theorem mix_end (m lo : Nat → Bool) : bl (mixM m lo 256) = bl (anyM [m, lo]) := bl_congr fun x hx => by simp [mixM, anyM, hx]
/-- A range laid over: from a to below c. -/
def overM (m : Nat → Bool) (a c x : Nat) : Bool := m x || (decide (a ≤ x) && decide (x < c))
theorem over_zero (m : Nat → Bool) (a : Nat) : bl (overM m a a) = bl m := bl_congr fun x _ => by
  unfold overM
  cases m x with
  | true => rfl
  | false =>
    simp only [Bool.false_or, Bool.and_eq_false_iff, decide_eq_false_iff_not]
    omega
theorem over_step (m : Nat → Bool) (a c : Nat) (h : a ≤ c) : (bl (overM m a c)).set c (.bool true) = bl (overM m a (c + 1)) := by
  rw [bl_set]
  refine bl_congr fun x _ => ?_
  unfold overM
  by_cases hx : x = c
  · subst hx; simp [h]
  · rw [if_neg hx]
    congr 2
    simp only [decide_eq_decide]; omega
theorem only_is {m : Nat → Bool} {a : Nat} (h : onlyM m = some a) : a < 256 ∧ m a = true ∧ ∀ x, x < 256 → m x = true → x = a := by
  unfold onlyM at h
  split at h
  · rename_i hc
    obtain ⟨b, h1, h2, h3, h4⟩ := last_single hc
    rw [firstM_some h3 h1 h4] at h
    injection h with h
    subst h
    refine ⟨h1, h3, fun x hx hm => ?_⟩
    rcases Nat.lt_trichotomy x b with hl | hl | hl
    · rw [h4 x hl] at hm; cases hm
    · exact hl
    · have : lastM m 256 ≥ ((x : Nat) : Int) := by
        have key : ∀ n, x < n → lastM m n ≥ ((x : Nat) : Int) := by
          intro n
          induction n with
          | zero => intro h; omega
          | succ n ih =>
            intro hn
            simp only [lastM]
            split
            · omega
            · rename_i hmn
              rcases Nat.lt_or_ge x n with h | h
              · exact ih h
              · obtain rfl : x = n := by omega
                exact absurd hm hmn
        exact key 256 hx
      omega
  · cases h
theorem over_end (m lo : Nat → Bool) (a b : Nat) (ha : onlyM lo = some a) (hab : a ≤ b) : bl (overM (anyM [m, lo]) a (b + 1)) = bl (anyM [m, rangeM ((a : Nat) : Int) ((b : Nat) : Int)]) := bl_congr fun x hx => by
  obtain ⟨h1, h2, h3⟩ := only_is ha
  simp only [overM, anyM, List.any_cons, List.any_nil, Bool.or_false, rangeM]
  cases hm : m x with
  | true => simp
  | false =>
    simp only [Bool.false_or]
    cases hl : lo x with
    | true =>
      obtain rfl := h3 x hx hl
      simp only [Bool.true_or]
      symm
      rw [decide_eq_true_iff]
      omega
    | false =>
      simp only [Bool.false_or]
      rw [← Bool.decide_and, decide_eq_decide]
      omega
def negM (m : Nat → Bool) (b x : Nat) : Bool := if x < b then !m x else m x
theorem neg_zero (m : Nat → Bool) : bl (negM m 0) = bl m := bl_congr fun x _ => by unfold negM; rw [if_neg (by omega)]
theorem neg_at (m : Nat → Bool) (b : Nat) : negM m b b = m b := by unfold negM; rw [if_neg (by omega)]
theorem neg_step (m : Nat → Bool) (b : Nat) : (bl (negM m b)).set b (.bool (!m b)) = bl (negM m (b + 1)) := by
  rw [bl_set]
  refine bl_congr fun x _ => ?_
  unfold negM
  by_cases hx : x = b
  · subst hx; simp
  · rw [if_neg hx]
    by_cases h : x < b
    · rw [if_pos h, if_pos (by omega)]
    · rw [if_neg h, if_neg (by omega)]
theorem neg_end (m : Nat → Bool) : bl (negM m 256) = bl (notM m) := bl_congr fun x hx => by unfold negM notM; rw [if_pos hx]
theorem make_bl (m : Nat → Bool) : setV (makeM (((List.range 256).map m).take 256)) = setV m := setV_congr fun x hx => by
  rw [List.take_of_length_le (by simp)]
  simp [makeM, List.getD_eq_getElem?_getD, hx]
theorem bl_map (m : Nat → Bool) : ((List.range 256).map m).map Value.bool = bl m := by unfold bl; rw [List.map_map]; rfl
def ntRes (nt : Bool) (r : Res (Nat → Bool)) : Res (Nat → Bool) := match r with
  | .err j e => .err j e
  | .ok m j => .ok (if nt then notM m else m) j
def bodyFrom (t : List Nat) (first : Bool) (m : Nat → Bool) (k : Nat) : Res (Nat → Bool) := if first then classBody t k else classFrom t m k
theorem any_none (m : Nat → Bool) : anyM [noSet, m] = m := by funext x; simp [anyM, noSet]
theorem body_next {t : List Nat} {k : Nat} {first : Bool} {m : Nat → Bool} (hk : k ≤ t.length) (hf : first = true → m = noSet) (hx : first = false → t[k]? ≠ some 93) :
    bodyFrom t first m k = match spanM t k with | .err j e => .err j e | .ok m2 j => bodyFrom t false (anyM [m, m2]) j := by
  cases first with
  | true =>
    obtain rfl := hf rfl
    simp only [any_none]
    exact classBody_from t k
  | false => exact classFrom_next m hk (hx rfl)
theorem body_end {t : List Nat} {k : Nat} {m : Nat → Bool} (h : t[k]? = some 93) : bodyFrom t false m k = .ok m (k + 1) := classFrom_end m h
theorem class_start (t : List Nat) (i : Nat) : classM t i = ntRes (decide (t[i + 1]? = some 94)) (bodyFrom t true noSet (if t[i + 1]? = some 94 then i + 2 else i + 1)) := by
  unfold classM
  by_cases h : t[i + 1]? = some 94
  · rw [if_pos h, if_pos h, decide_eq_true h]
    show _ = ntRes true (classBody t (i + 2))
    cases classBody t (i + 2) <;> rfl
  · rw [if_neg h, if_neg h, decide_eq_false h]
    show _ = ntRes false (classBody t (i + 1))
    cases classBody t (i + 1) <;> rfl
theorem span_e1 {t : List Nat} {k j e : Nat} (h : itemM t k = .err j e) : spanM t k = .err j e := by unfold spanM; rw [h]
theorem span_lone {t : List Nat} {k j : Nat} {lo : Nat → Bool} (h : itemM t k = .ok lo j) (hd : t[j]? ≠ some 45) : spanM t k = .ok lo j := by unfold spanM; rw [h]; simp only []; rw [if_neg hd]
theorem span_noa {t : List Nat} {k j : Nat} {lo : Nat → Bool} (h : itemM t k = .ok lo j) (hd : t[j]? = some 45) (ha : onlyM lo = none) : spanM t k = .err j 4 := by unfold spanM; rw [h]; simp only []; rw [if_pos hd, ha]
theorem span_e2 {t : List Nat} {k j a n e : Nat} {lo : Nat → Bool} (h : itemM t k = .ok lo j) (hd : t[j]? = some 45) (ha : onlyM lo = some a) (h2 : itemM t (j + 1) = .err n e) : spanM t k = .err n e := by unfold spanM; rw [h]; simp only []; rw [if_pos hd, ha]; simp only []; rw [h2]
theorem span_nob {t : List Nat} {k j a n : Nat} {lo hi : Nat → Bool} (h : itemM t k = .ok lo j) (hd : t[j]? = some 45) (ha : onlyM lo = some a) (h2 : itemM t (j + 1) = .ok hi n) (hb : onlyM hi = none) : spanM t k = .err (j + 1) 4 := by unfold spanM; rw [h]; simp only []; rw [if_pos hd, ha]; simp only []; rw [h2]; simp only []; rw [hb]
theorem span_low {t : List Nat} {k j a b n : Nat} {lo hi : Nat → Bool} (h : itemM t k = .ok lo j) (hd : t[j]? = some 45) (ha : onlyM lo = some a) (h2 : itemM t (j + 1) = .ok hi n) (hb : onlyM hi = some b) (hlt : b < a) : spanM t k = .err k 5 := by unfold spanM; rw [h]; simp only []; rw [if_pos hd, ha]; simp only []; rw [h2]; simp only []; rw [hb]; simp only []; rw [if_pos hlt]
theorem span_rng {t : List Nat} {k j a b n : Nat} {lo hi : Nat → Bool} (h : itemM t k = .ok lo j) (hd : t[j]? = some 45) (ha : onlyM lo = some a) (h2 : itemM t (j + 1) = .ok hi n) (hb : onlyM hi = some b) (hlt : ¬b < a) : spanM t k = .ok (rangeM ((a : Nat) : Int) ((b : Nat) : Int)) n := by unfold spanM; rw [h]; simp only []; rw [if_pos hd, ha]; simp only []; rw [h2]; simp only []; rw [hb]; simp only []; rw [if_neg hlt]
theorem St.tail {w0 w : World} {x : Nat × TypeId × List Value} {L : BlkL} (h : St w0 w (x :: L)) : St w0 w L :=
  ⟨h.below, fun e he => h.blk e (List.mem_cons_of_mem _ he), fun e he => h.base e (List.mem_cons_of_mem _ he), (List.pairwise_cons.1 h.apart).2⟩
end Go.Proofs.YtckoebfmoggeoaaDoor
/- The reference of layer 5: Class. -/
namespace Go.Proofs.YtckoebfmoggeoaaDoor
set_option maxRecDepth 100000
open Go.RowKit
theorem get_at (s : ByteArray) {i : Nat} (h : i < s.size) : (bytesN s)[i]? = some (s[i]'h).toNat := by
  unfold bytesN
  rw [List.getElem?_map, Array.getElem?_toList, Array.getElem?_eq_getElem h]
  rfl
theorem get_ne {s : ByteArray} {i c : Nat} (h : i < s.size) (hc : (s[i]'h).toNat ≠ c) : (bytesN s)[i]? ≠ some c := by
  rw [get_at s h]
  intro e
  injection e with e
  exact hc e
theorem get_out {s : ByteArray} {i c : Nat} (h : s.size ≤ i) : (bytesN s)[i]? ≠ some c := by
  rw [List.getElem?_eq_none (by rw [bytesN_length]; exact h)]
  simp
theorem noneRow : ∃ cs : List Value, Hid (cs = bl noSet) ∧ ∀ w : World, (Instr.makeSlice 126 (.int .i64 256) (.int .i64 256)).run Tryd.prog w = .ok (.slice (some ⟨w.heap.size, 0, none⟩) 256 256) (w.alloc (.cells cs.toArray 4)) :=
  ⟨List.replicate 256 (.bool false), Lib.hid bl_none.symm, fun w => make_bools w⟩
theorem onlyZ_of {m : Nat → Bool} : (onlyM m = none ∧ onlyZ m = -1) ∨ ∃ a, onlyM m = some a ∧ onlyZ m = ((a : Nat) : Int) ∧ a < 256 := by
  unfold onlyZ
  cases h : onlyM m with
  | none => exact .inl ⟨rfl, rfl⟩
  | some a => exact .inr ⟨a, rfl, rfl, (only_is h).1⟩
set_option maxRecDepth 100000 in
set_option maxHeartbeats 8000000 in
theorem refclass_end (s : ByteArray) (i : Nat) (hi : i + 1 = s.size) (hs : s.size ≤ 1048576) (w : World) :
    Calls Tryd.prog 57 #[.string s, .int .i64 ((i : Nat) : Int)] w fun v w' => v = .returned (refV (classM (bytesN s) i)) ∧ Below w.heap.size w w' := by
  have HST := Lib.hid (show classM (bytesN s) i = ntRes false (bodyFrom (bytesN s) true noSet (i + 1)) by rw [class_start, decide_eq_false (get_out (by omega)), if_neg (get_out (by omega))])
  have hk0 : i + 1 ≤ s.size := by omega
  have hi' : i + 1 = s.size := hi
  have hge : ((s.size : Nat) : Int) ≤ ((i : Nat) : Int) + 1 := by omega
  have hlt0 : i < s.size := by omega
  have hout0 : s.size ≤ i + 1 := by omega
  clear hi' hi
  obtain ⟨cs, HC, hrun⟩ := noneRow
  go_enter Tryd.func57, Tryd.ntmps57
  go_wp2_with fail
  have st := (((St.nil w).alloc rfl [.int .u64 0, .int .u64 0, .int .u64 0, .int .u64 0] 29).alloc (n := w.heap.size + 1) (by simp) [.int .i64 0, .int .i64 0] 88).alloc (n := w.heap.size + 2) (by simp) cs 4
  generalize ((w.alloc _).alloc _).alloc _ = wa at *
  rw [HC.out] at st
  clear HC hrun hge
  go_loopw [6, 9] (fun kv fv wr => ∃ k : Nat, kv = .int .i64 ((k : Nat) : Int) ∧ fv = .bool true ∧ k ≤ s.size ∧ s.size ≤ k ∧ St w wr [(w.heap.size + 2, 4, bl noSet), (w.heap.size + 1, 88, [.int .i64 0, .int .i64 0]), (w.heap.size, 29, [.int .u64 0, .int .u64 0, .int .u64 0, .int .u64 0])] ∧ Hid (classM (bytesN s) i = ntRes false (bodyFrom (bytesN s) true noSet k))) (fun kv _ _ => s.size - (intOf kv).toNat)
  case atStart => exact ⟨i + 1, by go_num, rfl, hk0, hout0, st, HST⟩
  case round =>
    clear st HST hk0 hout0
    obtain ⟨k, rfl, rfl, hk, hout, st, HMod⟩ := hrel
    rename World => wo
    have HF := Lib.hid (show true = true → noSet = noSet from fun _ => rfl)
    have HX := Lib.hid (show true = false → (bytesN s)[k]? ≠ some 93 from fun h => by cases h)
    have HB := Lib.hid (HMod.out.trans (congrArg (ntRes false) (body_next (by rw [bytesN_length]; exact hk) HF.out HX.out)))
    clear HX HF HMod
    go_wp2_with fail
    refine (refitem_at s k hk hs _).mono ?_
    rintro u w1 ⟨rfl, hb⟩
    replace st := st.below' hb
    clear hb
    obtain ⟨lo, j1, e1, hr, hr'⟩ := refV_form (itemM (bytesN s) k)
    rw [hr]
    clear hr
    have stL := (st.alloc (n := w1.heap.size) rfl (setL lo) 29).alloc (n := w1.heap.size + 1) (by simp) (endL j1 e1) 88
    have hbl : w.heap.size < w1.heap.size := (st.get 2 rfl).lt
    have hbl1 : w.heap.size + 1 < w1.heap.size := (st.get 1 rfl).lt
    have hbl2 : w.heap.size + 2 < w1.heap.size := (st.get 0 rfl).lt
    clear st
    rcases hr' with ⟨lo', j', hi1, rfl, rfl, rfl⟩ | ⟨j', e', hi1, rfl, rfl, rfl⟩
    rotate_left
    · have HI := Lib.hid hi1
      have he := itemM_ne hi1
      have he1 : (((e1 : Nat) : Int) != 0) = true := by rw [bne_iff_ne]; omega
      have he2 : (((e1 : Nat) : Int) == 0) = false := by rw [beq_eq_false_iff_ne]; omega
      clear hi1 he
      have HE2 := Lib.hid he1
      unfold setV
      go_upto_region 11 with fail
      generalize (w1.alloc _).alloc _ = w2 at *
      obtain ⟨⟨x0, x1, x2, x3⟩, x4, x5, x6, x7⟩ := stL.four 4 rfl
      obtain ⟨⟨y0, y1⟩, y2, y3⟩ := stL.two 3 rfl
      obtain ⟨⟨z0, z1⟩, z2, z3⟩ := stL.two 0 rfl
      go_wp2_with fail
      go_region
      all_goals
        have stz := ((((((stL.set 4 rfl 0 (.int .u64 0)).set 4 rfl 1 (.int .u64 0)).set 4 rfl 2 (.int .u64 0)).set 4 rfl 3 (.int .u64 0)).set 3 rfl 0 (.int .i64 ((j1 : Nat) : Int))).set 3 rfl 1 (.int .i64 ((e1 : Nat) : Int))).drew
        generalize World.drew _ = wz at *
        clear x0 x1 x2 x3 x4 x5 x6 x7 y0 y1 y2 y3 z0 z1 z2 z3
        go_wp2
        refine ret_two (b := w.heap.size) (b' := w.heap.size + 1) (m := noSet) (j := j1) (e := e1) rfl rfl rfl (by rw [setL_none]; exact stz.get 4 rfl) (stz.get 3 rfl) rfl ⟨?_, stz.below⟩
        exact congrArg Ending.returned (show _ = refV (classM (bytesN s) i) from by rw [HB.out, span_e1 HI.out]; rfl)
    · have hjl := itemM_le hi1
      rw [bytesN_length] at hjl
      omega
end Go.Proofs.YtckoebfmoggeoaaDoor
