/- A region that draws its order, whose last two operations stand behind all others, one behind the other. No program in sight. -/
import Derived.Test.YtpiimcbbgalhfaaGreatDoorBb
namespace Go.Proofs.YtpiimcbbgalhfaaGreatDoor
set_option maxRecDepth 100000
open Go.RowKit
def okTwo (ops : Array Oper) (K : Nat) : Bool := ops.size == K + 2 && ((List.range K).all fun i => (marks ops K).contains i) && ((depsIn ops K).all fun d => decide (d < K)) && (depsIn ops (K + 1)).contains K && (depsIn ops (K + 1)).all fun d => decide (d < K + 1)
theorem mem_deps {ops : Array Oper} {i : Nat} {o : Oper} {e : Edge} (ho : ops[i]? = some o) (he : e ∈ o.after) (hb : Region.binds .any e = true) : e.on ∈ depsIn ops i := by
  unfold depsIn
  rw [ho]
  simp only [Option.map_some, Option.getD_some, List.mem_map, List.mem_filter]
  exact ⟨e, ⟨by simpa using he, hb⟩, rfl⟩
theorem deps_mem {ops : Array Oper} {i d : Nat} {o : Oper} (ho : ops[i]? = some o) (h : d ∈ depsIn ops i) : ∃ e ∈ o.after, Region.binds .any e = true ∧ e.on = d := by
  unfold depsIn at h
  rw [ho] at h
  simp only [Option.map_some, Option.getD_some, List.mem_map, List.mem_filter] at h
  obtain ⟨e, ⟨he, hb⟩, rfl⟩ := h
  exact ⟨e, by simpa using he, hb, rfl⟩
theorem region_two {P : Program} {ops ops' : Array Oper} {id : Nat} {Q : Exit → Act → World → Prop} {a0 : Act} {w : World} (he : ops = ops') (S : List RK) (n K : Nat) (hn : a0.tmps.size = n) (hm : P.follows .mixedOrders = true)
    (hok : okUpto n ops' S K = true) (hlast : okTwo ops' K = true) (hop : ∀ i, i < K → Obl P ops' S Q a0 w.drew i)
    (hend : ∀ a w' N, Held ops' a0 w.drew a w' N → (∀ i, decide (i < K) = true → Fact ops' S i a w' N) → wpOp P ops' Q K (fun a w => wpOp P ops' Q (K + 1) (fun a w => Q .normal a w) a w) a w') : (Code.region id ops true).wp P Q a0 w := by
  subst he
  unfold okTwo at hlast
  simp only [Bool.and_eq_true, beq_iff_eq] at hlast
  obtain ⟨⟨⟨⟨hsize, hmarks⟩, hdl⟩, hdk⟩, hdl2⟩ := hlast
  have hback := ok_back hok
  refine wp_region_any hm ?_
  change wpAny _ _ _ _ _ _ _ (World.drew w)
  refine wpAny_law (fun listed a w1 => (listed.getD K false = false ∧ listed.getD (K + 1) false = false ∧ RJ ops S a0 w.drew listed a w1) ∨ ((∀ i, i < K + 1 → listed.getD i false = true) ∧ listed.getD (K + 1) false = false ∧ wpOp P ops Q (K + 1) (fun a w => Q .normal a w) a w1) ∨
    ((∀ i, i < ops.size → listed.getD i false = true) ∧ Q .normal a w1)) ?_ ?_ ?_ _ _ _ _ (by simp) ?_ ?_
  · intro i o ho e he hb
    have hi := (Array.getElem?_eq_some_iff.1 ho).1
    rcases Nat.lt_or_ge i K with h | h
    · exact hback i h o ho e he hb
    · rcases Nat.lt_or_ge i (K + 1) with h1 | h1
      · obtain rfl : i = K := by omega
        exact of_decide_eq_true (List.all_eq_true.1 hdl _ (mem_deps ho he hb))
      · obtain rfl : i = K + 1 := by omega
        exact of_decide_eq_true (List.all_eq_true.1 hdl2 _ (mem_deps ho he hb))
  · intro listed a w1 i hsz hi hJ
    obtain ⟨hun, o, ho, hall⟩ := mem_ready.1 hi
    have hilt := (Array.getElem?_eq_some_iff.1 ho).1
    have hunf : listed.getD i false = false := by
      have hi' : i < listed.size := by omega
      simp only [Array.getD_eq_getD_getElem?, Array.getElem?_eq_getElem hi', Option.getD_some] at hun ⊢
      exact hun
    rcases hJ with ⟨hKn, hKn1, hJ⟩ | ⟨hK, hKn1, hQ⟩ | ⟨hJ, _⟩
    · rcases Nat.lt_or_ge i K with h | h
      · have hlt : ∀ j, listed.getD j false = true → j < K := by
          intro j hj
          have := listed_lt hsz hj
          rcases Nat.lt_or_ge j K with h | h
          · exact h
          · have : j = K ∨ j = K + 1 := by omega
            rcases this with rfl | rfl
            · rw [hKn] at hj
              cases hj
            · rw [hKn1] at hj
              cases hj
        refine wpOp_mono ?_ (rj_step S n K hn (by omega) hok hop listed a w1 i hsz hlt h hi hJ)
        intro a' w' hJ'
        exact .inl ⟨by rw [getD_set_ne false (by omega)]; exact hKn, by rw [getD_set_ne false (by omega)]; exact hKn1, hJ'⟩
      · rcases Nat.lt_or_ge i (K + 1) with h1 | h1
        · obtain rfl : i = K := by omega
          obtain ⟨N, H, hF, hD, hC⟩ := hJ
          have hlisted : ∀ j, j < i → listed.getD j false = true := by
            intro j hj
            have hm := marks_all (ops := ops) (K := i) (L := fun x => x = i ∨ listed.getD x false = true) (.inl rfl) (fun x hx d hd => by
              cases hox : ops[x]? with
              | none => unfold depsIn at hd; rw [hox] at hd; simp at hd
              | some ox =>
                obtain ⟨e, he, hb, rfl⟩ := deps_mem hox hd
                rcases hx with rfl | hx
                · have : ox = o := Option.some.inj (hox.symm.trans ho)
                  subst this
                  exact .inr (hall e he hb)
                · exact .inr (hC x ox hox hx e he hb)) j (by simpa using List.all_eq_true.1 hmarks j (List.mem_range.2 hj))
            rcases hm with rfl | hm
            · omega
            · exact hm
          refine wpOp_mono ?_ (hend a w1 N H fun j hj => hF j (hlisted j (of_decide_eq_true hj)))
          intro a' w' hQ
          refine .inr (.inl ⟨fun j hj => ?_, by rw [getD_set_ne false (by omega)]; exact hKn1, hQ⟩)
          by_cases e : j = i
          · subst e
            have : j < listed.size := by omega
            simp [this]
          · exact getD_set_true (hlisted j (by omega))
        · obtain rfl : i = K + 1 := by omega
          obtain ⟨e, he, hb, hon⟩ := deps_mem ho (by simpa using hdk)
          have := hall e he hb
          rw [hon, hKn] at this
          cases this
    · rcases Nat.lt_or_ge i (K + 1) with h | h
      · rw [hK i h] at hunf
        cases hunf
      · obtain rfl : i = K + 1 := by omega
        refine wpOp_mono ?_ hQ
        intro a' w' hQ'
        refine .inr (.inr ⟨fun j hj => ?_, hQ'⟩)
        by_cases e : j = K + 1
        · subst e
          have : K + 1 < listed.size := by omega
          simp [this]
        · exact getD_set_true (hK j (by omega))
    · rw [hJ i hilt] at hunf
      cases hunf
  · intro listed a w1 hJ hall
    rcases hJ with ⟨hKn, _⟩ | ⟨_, hKn1, _⟩ | ⟨_, hQ⟩
    · rw [hall K (by omega)] at hKn
      cases hKn
    · rw [hall (K + 1) (by omega)] at hKn1
      cases hKn1
    · exact hQ
  · have h : ∀ i, i < ops.size → (Array.replicate ops.size false).getD i true = false := by
      intro i hi
      simp [hi]
    rw [List.filter_eq_self.2 (fun i hi => by rw [h i (List.mem_range.1 hi)]; rfl), List.length_range]
  · refine .inl ⟨by rw [getD_replicate_false], by rw [getD_replicate_false], fun _ => True, ⟨rfl, rfl, fun _ _ => rfl, Below.refl _ _, fun _ _ => trivial, fun _ _ => trivial⟩, ?_, ?_, ?_⟩
    · intro i hi
      rw [getD_replicate_false] at hi
      cases hi
    · intro i j _ hi
      rw [getD_replicate_false] at hi
      cases hi
    · intro i o _ hi
      rw [getD_replicate_false] at hi
      cases hi
end Go.Proofs.YtpiimcbbgalhfaaGreatDoor
/- A region that draws its order, whose last operation stands behind all others and writes a slot that is read ahead of it. No program in sight. -/
namespace Go.Proofs.YtpiimcbbgalhfaaGreatDoor
set_option maxRecDepth 100000
open Go.RowKit
/-- Operation K writes nothing. -/
def noLast (ops : Array Oper) (K : Nat) : Array Oper := ops.modify K fun o => { o with dst := none }
theorem noLast_size (ops : Array Oper) (K : Nat) : (noLast ops K).size = ops.size := by simp [noLast]
theorem noLast_at {ops : Array Oper} {K i : Nat} (h : i ≠ K) : (noLast ops K)[i]? = ops[i]? := by
  unfold noLast
  rw [Array.getElem?_modify, if_neg (Ne.symm h)]
def okGuards (ops : Array Oper) (K : Nat) : Bool := (List.range K).all fun i => match (ops[i]?).bind (·.guard) with | some (j, _) => decide (j < K) | none => true
theorem wpOp_noLast {P : Program} {ops : Array Oper} {Q : Exit → Act → World → Prop} {K i : Nat} (hg : okGuards ops K = true) (hi : i < K) {X : Act → World → Prop} {a : Act} {w : World} (h : wpOp P (noLast ops K) Q i X a w) : wpOp P ops Q i X a w := by
  unfold wpOp at h ⊢
  rw [noLast_at (by omega)] at h
  cases ho : ops[i]? with
  | none =>
    rw [ho] at h
    exact h
  | some o =>
    rw [ho] at h
    simp only at h ⊢
    have hw : Region.wanted o (yielded (noLast ops K) a.tmps) = Region.wanted o (yielded ops a.tmps) := by
      have := List.all_eq_true.1 hg i (List.mem_range.2 hi)
      rw [ho] at this
      simp only [Option.bind_some] at this
      unfold Region.wanted
      cases hgd : o.guard with
      | none => rfl
      | some jb =>
        obtain ⟨j, b⟩ := jb
        rw [hgd] at this
        simp only [decide_eq_true_eq] at this
        simp only [yielded, noLast_at (show j ≠ K by omega)]
    rw [hw] at h
    exact h
theorem ready_noLast {ops : Array Oper} {K i : Nat} {listed : Array Bool} (hi : i ≠ K) (h : i ∈ Region.ready .any ops listed) : i ∈ Region.ready .any (noLast ops K) listed := by
  rw [mem_ready] at h ⊢
  rw [noLast_at hi]
  exact h
theorem region_part {P : Program} {ops ops' : Array Oper} {id : Nat} {Q : Exit → Act → World → Prop} {a0 : Act} {w : World} (he : ops = ops') (S : List RK) (n K : Nat) (hn : a0.tmps.size = n) (hm : P.follows .mixedOrders = true)
    (hok : okUpto n (noLast ops' K) S K = true) (hlast : okLast ops' K = true) (hgd : okGuards ops' K = true) (hop : ∀ i, i < K → Obl P (noLast ops' K) S Q a0 w.drew i)
    (hend : ∀ a w' N, Held (noLast ops' K) a0 w.drew a w' N → (∀ i, decide (i < K) = true → Fact (noLast ops' K) S i a w' N) → wpOp P ops' Q K (fun a w => Q .normal a w) a w') : (Code.region id ops true).wp P Q a0 w := by
  subst he
  unfold okLast at hlast
  simp only [Bool.and_eq_true, beq_iff_eq] at hlast
  obtain ⟨⟨hsize, hmarks⟩, hdl⟩ := hlast
  have hback := ok_back hok
  refine wp_region_any hm ?_
  change wpAny _ _ _ _ _ _ _ (World.drew w)
  refine wpAny_law (fun listed a w1 => (listed.getD K false = false ∧ RJ (noLast ops K) S a0 w.drew listed a w1) ∨ ((∀ i, i < ops.size → listed.getD i false = true) ∧ Q .normal a w1)) ?_ ?_ ?_ _ _ _ _ (by simp) ?_ ?_
  · intro i o ho e he hb
    have hi := (Array.getElem?_eq_some_iff.1 ho).1
    rcases Nat.lt_or_ge i K with h | h
    · exact hback i h o (by rw [noLast_at (by omega)]; exact ho) e he hb
    · obtain rfl : i = K := by omega
      exact of_decide_eq_true (List.all_eq_true.1 hdl _ (mem_deps ho he hb))
  · intro listed a w1 i hsz hi hJ
    obtain ⟨hun, o, ho, hall⟩ := mem_ready.1 hi
    have hilt := (Array.getElem?_eq_some_iff.1 ho).1
    rcases hJ with ⟨hKn, hJ⟩ | ⟨hJ, _⟩
    · rcases Nat.lt_or_ge i K with h | h
      · have hlt : ∀ j, listed.getD j false = true → j < K := by
          intro j hj
          have := listed_lt hsz hj
          rcases Nat.lt_or_ge j K with h | h
          · exact h
          · obtain rfl : j = K := by omega
            rw [hKn] at hj
            cases hj
        refine wpOp_noLast hgd h (wpOp_mono ?_ (rj_step S n K hn (by rw [noLast_size]; omega) hok hop listed a w1 i (by rw [noLast_size]; exact hsz) hlt h (ready_noLast (by omega) hi) hJ))
        intro a' w' hJ'
        exact .inl ⟨by rw [getD_set_ne false (by omega)]; exact hKn, hJ'⟩
      · obtain rfl : i = K := by omega
        obtain ⟨N, H, hF, hD, hC⟩ := hJ
        have hlisted : ∀ j, j < i → listed.getD j false = true := by
          intro j hj
          have hm := marks_all (ops := ops) (K := i) (L := fun x => x = i ∨ listed.getD x false = true) (.inl rfl) (fun x hx d hd => by
            cases hox : ops[x]? with
            | none => unfold depsIn at hd; rw [hox] at hd; simp at hd
            | some ox =>
              obtain ⟨e, he, hb, rfl⟩ := deps_mem hox hd
              by_cases hxi : x = i
              · subst hxi
                have : ox = o := Option.some.inj (hox.symm.trans ho)
                subst this
                exact .inr (hall e he hb)
              · rcases hx with hx | hx
                · exact absurd hx hxi
                · exact .inr (hC x ox (by rw [noLast_at hxi]; exact hox) hx e he hb)) j (by simpa using List.all_eq_true.1 hmarks j (List.mem_range.2 hj))
          rcases hm with rfl | hm
          · omega
          · exact hm
        refine wpOp_mono ?_ (hend a w1 N H fun j hj => hF j (hlisted j (of_decide_eq_true hj)))
        intro a' w' hQ
        refine .inr ⟨fun j hj => ?_, hQ⟩
        by_cases e : j = i
        · subst e
          simp [hsz, hj]
        · exact getD_set_true (hlisted j (by omega))
    · have hc := hJ i hilt
      have : listed.getD i true = true := by
        have hi' : i < listed.size := by omega
        simp only [Array.getD_eq_getD_getElem?, Array.getElem?_eq_getElem hi', Option.getD_some] at hc ⊢
        exact hc
      rw [hun] at this
      cases this
  · intro listed a w1 hJ hall
    rcases hJ with ⟨hKn, _⟩ | ⟨_, hQ⟩
    · rw [hall K (by omega)] at hKn
      cases hKn
    · exact hQ
  · have h : ∀ i, i < ops.size → (Array.replicate ops.size false).getD i true = false := by
      intro i hi
      simp [hi]
    rw [List.filter_eq_self.2 (fun i hi => by rw [h i (List.mem_range.1 hi)]; rfl), List.length_range]
  · refine .inl ⟨by rw [getD_replicate_false], fun _ => True, ⟨rfl, rfl, fun _ _ => rfl, Below.refl _ _, fun _ _ => trivial, fun _ _ => trivial⟩, ?_, ?_, ?_⟩
    · intro i hi
      rw [getD_replicate_false] at hi
      cases hi
    · intro i j _ hi
      rw [getD_replicate_false] at hi
      cases hi
    · intro i o _ hi
      rw [getD_replicate_false] at hi
      cases hi
theorem wpOp_assign {P : Program} {ops : Array Oper} {Q : Exit → Act → World → Prop} {K : Nat} {a : Act} {w : World} {X : Act → World → Prop} (d s : Nat) (hop : (ops[K]?).map (fun o => (o.dst, o.op, o.guard)) = some (some d, .assign (.tmp s), none)) {v : Value} (hs : a.tmps.getD s undef = v)
    (h : X (a.put (some d) v) w) : wpOp P ops Q K X a w := by
  cases ho : ops[K]? with
  | none => rw [ho] at hop; cases hop
  | some o =>
    rw [ho] at hop
    simp only [Option.map_some, Option.some.injEq, Prod.mk.injEq] at hop
    unfold wpOp
    simp only [ho]
    rw [if_pos (by unfold Region.wanted; rw [hop.2.2])]
    left
    have hs' : a.eval (.tmp s) = v := hs
    refine wp_of_run (v := v) (w' := w) (by simp [execOp, hop.2.1, hs']) ?_
    rw [hop.1]
    exact h
end Go.Proofs.YtpiimcbbgalhfaaGreatDoor
