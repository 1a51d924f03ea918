/- A region that draws its order, whose last operation stands behind all others. No program in sight. -/
import Derived.Test.YtofhkgafgnldnaaDoorRegion
namespace Go.Proofs.YtofhkgafgnldnaaDoor
open Go.RowKit
def okUpto (n : Nat) (ops : Array Oper) (S : List RK) (K : Nat) : Bool :=
  (List.range K).all fun i =>
    ((ops[i]?).map fun o => o.after.all fun e => !Region.binds .any e || decide (e.on < i)).getD false &&
    (match dstOf ops i with
     | some d => decide (d < n) && ((specOf S i).kind == 0 || (specOf S i).kind == 1) && (List.range i).all fun j => dstOf ops j != some d
     | none => (specOf S i).kind == 2 && (specOf S (specOf S i).at_).kind == 1 && (specOf S i).cs.length == (specOf S (specOf S i).at_).len && ((ops[i]?).map fun o => o.after.any fun e => Region.binds .any e && e.on == (specOf S i).at_).getD false && (List.range i).all fun j => (specOf S j).kind != 2 || (specOf S j).at_ != (specOf S i).at_)
def depsIn (ops : Array Oper) (i : Nat) : List Nat := ((ops[i]?).map fun o => (o.after.toList.filter fun e => Region.binds .any e).map (·.on)).getD []
theorem ok_back {n : Nat} {ops : Array Oper} {S : List RK} {K : Nat} (hok : okUpto n ops S K = true) : ∀ i, i < K → ∀ o, ops[i]? = some o → ∀ e ∈ o.after, Region.binds .any e = true → e.on < i := by
  have hk : ∀ i, i < K → _ := fun i hi => List.all_eq_true.1 hok i (List.mem_range.2 hi)
  intro i hiK o ho e he hb
  have h := hk i hiK
  rw [Bool.and_eq_true] at h
  have h1 := h.1
  rw [ho] at h1
  simp only [Option.map_some, Option.getD_some, Array.all_eq_true_iff_forall_mem, Bool.or_eq_true, decide_eq_true_eq] at h1
  rcases h1 e he with h2 | h2
  · rw [hb] at h2; cases h2
  · exact h2
/-- One operation of the first K is done. -/
theorem rj_step {P : Program} {ops : Array Oper} {Q : Exit → Act → World → Prop} {a0 : Act} {w : World} (S : List RK) (n K : Nat) (hn : a0.tmps.size = n) (hKle : K ≤ ops.size) (hok : okUpto n ops S K = true) (hop : ∀ i, i < K → Obl P ops S Q a0 w.drew i)
    (listed : Array Bool) (a : Act) (w1 : World) (i : Nat) (hsz : listed.size = ops.size) (hlt : ∀ j, listed.getD j false = true → j < K) (hilt : i < K) (hi : i ∈ Region.ready .any ops listed) (hJ : RJ ops S a0 w.drew listed a w1) :
    wpOp P ops Q i (RJ ops S a0 w.drew (listed.setIfInBounds i true)) a w1 := by
  have hk : ∀ i, i < K → _ := fun i hi => List.all_eq_true.1 hok i (List.mem_range.2 hi)
  have hdst : ∀ i j, i < K → j < K → i ≠ j → (dstOf ops i).isSome = true → dstOf ops i ≠ dstOf ops j := by
    have key : ∀ i j, i < K → j < i → (dstOf ops i).isSome = true → dstOf ops j ≠ dstOf ops i := by
      intro i j hi hj hs
      obtain ⟨d, hd⟩ := Option.isSome_iff_exists.1 hs
      have h := (Bool.and_eq_true _ _ ▸ hk i hi).2
      simp only [hd, Bool.and_eq_true] at h
      have h2 := List.all_eq_true.1 h.2 j (List.mem_range.2 hj)
      rw [hd]
      simpa using h2
    intro i j hi hj hne hs
    rcases Nat.lt_or_gt_of_ne hne with h | h
    · intro e
      have hs' : (dstOf ops j).isSome = true := by rw [← e]; exact hs
      exact key j i hj h hs' e
    · exact fun e => key i j hi h hs e.symm
  have hkind : ∀ i, i < K → ((specOf S i).kind = 0 ∨ (specOf S i).kind = 1) → ∃ d, dstOf ops i = some d ∧ d < n := by
    intro i hi h01
    have h := (Bool.and_eq_true _ _ ▸ hk i hi).2
    cases hd : dstOf ops i with
    | none =>
      simp only [hd, Bool.and_eq_true, beq_iff_eq] at h
      have := h.1.1.1.1
      omega
    | some d =>
      simp only [hd, Bool.and_eq_true, decide_eq_true_eq] at h
      exact ⟨d, rfl, h.1.1⟩
  have hput : ∀ i, i < K → (specOf S i).kind ≠ 0 → (specOf S i).kind ≠ 1 → dstOf ops i = none ∧ (specOf S i).kind = 2 ∧ (specOf S (specOf S i).at_).kind = 1 ∧ (specOf S i).cs.length = (specOf S (specOf S i).at_).len ∧
      (∃ o, ops[i]? = some o ∧ ∃ e ∈ o.after, Region.binds .any e = true ∧ e.on = (specOf S i).at_) ∧ ∀ j, j < i → (specOf S j).kind = 2 → (specOf S j).at_ ≠ (specOf S i).at_ := by
    intro i hi h0 h1
    have h := (Bool.and_eq_true _ _ ▸ hk i hi).2
    cases hd : dstOf ops i with
    | some d =>
      simp only [hd, Bool.and_eq_true, Bool.or_eq_true, beq_iff_eq] at h
      rcases h.1.2 with h | h <;> contradiction
    | none =>
      simp only [hd, Bool.and_eq_true, beq_iff_eq] at h
      obtain ⟨⟨⟨⟨k1, k2⟩, k3⟩, k4⟩, k5⟩ := h
      refine ⟨rfl, k1, k2, k3, ?_, fun j hj hj2 => ?_⟩
      · rw [Array.getElem?_eq_getElem (Nat.lt_of_lt_of_le hi hKle)] at k4 ⊢
        simp only [Option.map_some, Option.getD_some] at k4
        obtain ⟨e, he, hb⟩ := Array.any_eq_true'.1 k4
        simp only [Bool.and_eq_true, beq_iff_eq] at hb
        exact ⟨_, rfl, e, he, hb.1, hb.2⟩
      · have := List.all_eq_true.1 k5 j (List.mem_range.2 hj)
        simp only [Bool.or_eq_true, bne_iff_ne, ne_eq] at this
        rcases this with h | h
        · exact absurd hj2 h
        · exact h
  obtain ⟨N, H, hF, hD, hC⟩ := hJ
  obtain ⟨hun, o, ho, hall⟩ := mem_ready.1 hi
  have hlt_of : i < ops.size := (Array.getElem?_eq_some_iff.1 ho).1
  refine wpOp_mono ?_ (hop i hilt a w1 N H (fun o' ho' e he hb => by
    have : o' = o := Option.some.inj (ho'.symm.trans ho)
    subst this
    exact hF _ (hall e he hb)))
  rintro a' w2 ⟨v, rfl, hdo⟩
  have hclosed : ∀ j o', ops[j]? = some o' → (listed.setIfInBounds i true).getD j false = true → ∀ e ∈ o'.after, Region.binds .any e = true → (listed.setIfInBounds i true).getD e.on false = true := by
    intro j o' ho' hl e he hb
    rcases listed_set hl with rfl | ⟨_, hl⟩
    · have : o' = o := Option.some.inj (ho'.symm.trans ho)
      subst this
      exact getD_set_true (hall e he hb)
    · exact getD_set_true (hC j o' ho' hl e he hb)
  have hval : ∀ j, j ≠ i → listed.getD j false = true → ((specOf S j).kind = 0 ∨ (specOf S j).kind = 1) → valOf ops j (a.put (dstOf ops i) v) = valOf ops j a := by
    intro j hne hl h01
    have hjl := hlt j hl
    obtain ⟨d, hd, _⟩ := hkind j hjl h01
    exact val_put (by rw [hd]; rfl) (hdst j i hjl hilt hne (by rw [hd]; rfl))
  have hframe : ∀ (N' : Nat → Prop), Below w.drew.heap.size w.drew w2 → (∀ k, k < w.drew.heap.size → N' k) → (∀ k, w2.heap.size ≤ k → N' k) → Held ops a0 w.drew (a.put (dstOf ops i) v) w2 N' := by
    intro N' hb ho hn'
    refine ⟨?_, ?_, fun s hs => ?_, hb, ho, hn'⟩
    · rw [← H.defers]; unfold Act.put; split <;> rfl
    · rw [← H.size]; unfold Act.put; split <;> simp
    · rw [← H.base s hs]
      unfold Act.put
      split
      · rename_i d hd
        have : d ≠ s := fun e => hs i (by rw [hd, e])
        simp [this]
      · rfl
  by_cases k0 : (specOf S i).kind = 0
  · obtain ⟨d, hd, hdn⟩ := hkind i hilt (.inl k0)
    simp only [Does, k0] at hdo
    obtain ⟨hb, hg⟩ := hdo
    have hb0 : Below w.drew.heap.size w.drew w2 := H.below.trans (hb.mono H.below.size)
    refine ⟨N, hframe N hb0 H.old (fun k hk' => H.new k (Nat.le_trans hb.size hk')), fun j hl => ?_, fun x y hxy hlx hly hx1 hy1 => ?_, hclosed⟩
    · rcases listed_set hl with rfl | ⟨hne, hl⟩
      · simp only [Fact, k0]
        rw [val_put_self hd (by rw [H.size, hn]; exact hdn)]
        exact hg N (fun _ _ h => h) H.new
      · have hf := hF j hl
        by_cases j0 : (specOf S j).kind = 0
        · simp only [Fact, j0] at hf ⊢
          rw [hval j hne hl (.inl j0)]
          exact (specOf S j).rg.mono _ _ _ _ _ hf hb.size (fun k hk' hN => ⟨hN, hb.block k hk'⟩)
        by_cases j1 : (specOf S j).kind = 1
        · simp only [Fact, j1] at hf ⊢
          obtain ⟨b, cs, h1, h2, h3, h4⟩ := hf
          exact ⟨b, cs, by rw [hval j hne hl (.inr j1)]; exact h1, h2, h3.below hb h3.lt, h4⟩
        · obtain ⟨_, j2, p1, _, ⟨oj, hoj, e, he, hbd, hon⟩, _⟩ := hput j (hlt j hl) j0 j1
          simp only [Fact, j2] at hf ⊢
          obtain ⟨b, h1, h2, h3⟩ := hf
          have hlp : listed.getD (specOf S j).at_ false = true := hon ▸ hC j oj hoj hl e he hbd
          have hne' : (specOf S j).at_ ≠ i := fun e => by rw [e] at p1; omega
          exact ⟨b, by rw [hval _ hne' hlp (.inr p1)]; exact h1, h2, h3.below hb h3.lt⟩
    · rcases listed_set hlx with rfl | ⟨hnx, hlx⟩
      · omega
      rcases listed_set hly with rfl | ⟨hny, hly⟩
      · omega
      rw [hval x hnx hlx (.inr hx1), hval y hny hly (.inr hy1)]
      exact hD x y hxy hlx hly hx1 hy1
  by_cases k1 : (specOf S i).kind = 1
  · obtain ⟨d, hd, hdn⟩ := hkind i hilt (.inr k1)
    simp only [Does, k1] at hdo
    obtain ⟨cs, rfl, rfl, hcs⟩ := hdo
    have hb : Below w1.heap.size w1 (w1.alloc (.cells cs.toArray (specOf S i).ty)) := (Below.refl _ _).alloc (Nat.le_refl _) _
    have hb0 : Below w.drew.heap.size w.drew (w1.alloc (.cells cs.toArray (specOf S i).ty)) := H.below.trans (hb.mono H.below.size)
    have hsz2 : (w1.alloc (.cells cs.toArray (specOf S i).ty)).heap.size = w1.heap.size + 1 := by simp
    have hself := val_put_self (ops := ops) (a := a) (v := .pointer (some ⟨w1.heap.size, 0, none⟩)) hd (by rw [H.size, hn]; exact hdn)
    refine ⟨fun k => N k ∧ k ≠ w1.heap.size, hframe _ hb0 (fun k hk' => ⟨H.old k hk', by have := H.below.size; omega⟩) (fun k hk' => ⟨H.new k (by omega), by omega⟩), fun j hl => ?_, fun x y hxy hlx hly hx1 hy1 => ?_, hclosed⟩
    · rcases listed_set hl with rfl | ⟨hne, hl⟩
      · simp only [Fact, k1]
        exact ⟨w1.heap.size, cs, hself, by simp, Blk.new _ _ _, hcs⟩
      · have hf := hF j hl
        by_cases j0 : (specOf S j).kind = 0
        · simp only [Fact, j0] at hf ⊢
          rw [hval j hne hl (.inl j0)]
          exact (specOf S j).rg.mono _ _ _ _ _ hf hb.size (fun k hk' hN => ⟨⟨hN, by omega⟩, hb.block k hk'⟩)
        by_cases j1 : (specOf S j).kind = 1
        · simp only [Fact, j1] at hf ⊢
          obtain ⟨b, cs', h1, h2, h3, h4⟩ := hf
          exact ⟨b, cs', by rw [hval j hne hl (.inr j1)]; exact h1, fun h => h2 h.1, h3.below hb h3.lt, h4⟩
        · obtain ⟨_, j2, p1, _, ⟨oj, hoj, e, he, hbd, hon⟩, _⟩ := hput j (hlt j hl) j0 j1
          simp only [Fact, j2] at hf ⊢
          obtain ⟨b, h1, h2, h3⟩ := hf
          have hlp : listed.getD (specOf S j).at_ false = true := hon ▸ hC j oj hoj hl e he hbd
          have hne' : (specOf S j).at_ ≠ i := fun e => by
            rw [e] at hlp
            have : listed.getD i true = true := by
              have hi' : i < listed.size := by omega
              simp only [Array.getD_eq_getD_getElem?, Array.getElem?_eq_getElem hi', Option.getD_some] at hlp ⊢
              exact hlp
            rw [hun] at this
            cases this
          exact ⟨b, by rw [hval _ hne' hlp (.inr p1)]; exact h1, fun h => h2 h.1, h3.below hb h3.lt⟩
    · have hptr : ∀ z, z ≠ i → listed.getD z false = true → (specOf S z).kind = 1 → valOf ops z a ≠ .pointer (some ⟨w1.heap.size, 0, none⟩) := by
        intro z _ hlz hz1 he
        have hf := hF z hlz
        simp only [Fact, hz1] at hf
        obtain ⟨b, cs', h1, _, h3, _⟩ := hf
        rw [he] at h1
        have hbz := h3.lt
        simp only [Value.pointer.injEq, Option.some.injEq, Addr.mk.injEq] at h1
        omega
      rcases listed_set hlx with rfl | ⟨hnx, hlx'⟩
      · rcases listed_set hly with rfl | ⟨hny, hly'⟩
        · exact absurd rfl hxy
        · rw [hself, hval y hny hly' (.inr hy1)]
          exact (hptr y hny hly' hy1).symm
      rcases listed_set hly with rfl | ⟨hny, hly'⟩
      · rw [hself, hval x hnx hlx' (.inr hx1)]
        exact hptr x hnx hlx' hx1
      rw [hval x hnx hlx' (.inr hx1), hval y hny hly' (.inr hy1)]
      exact hD x y hxy hlx' hly' hx1 hy1
  · obtain ⟨hd, k2, p1, hlen, ⟨oi, hoi, ei, hei, hbi, honi⟩, hat⟩ := hput i hilt k0 k1
    have hoi' : oi = o := Option.some.inj (hoi.symm.trans ho)
    subst hoi'
    have hlp : listed.getD (specOf S i).at_ false = true := honi ▸ hall ei hei hbi
    simp only [Does, k2] at hdo
    obtain ⟨b, hvb, hg, hsize, hblk⟩ := hdo
    have hfp := hF _ hlp
    simp only [Fact, p1] at hfp
    obtain ⟨b', csp, hvb', hNb, hblkp, _⟩ := hfp
    have hbb : b' = b := by
      rw [hvb] at hvb'
      simp only [Value.pointer.injEq, Option.some.injEq, Addr.mk.injEq] at hvb'
      exact hvb'.1.symm
    subst hbb
    have hput0 : a.put (dstOf ops i) v = a := by rw [hd]; rfl
    rw [hput0] at hframe hval ⊢
    have hb0 : Below w.drew.heap.size w.drew w2 := by
      refine H.below.trans ⟨hg.os, hg.tape, hg.output, hg.size, fun k hk' => hg.block k (Nat.lt_of_lt_of_le hk' H.below.size) (fun e => hNb ?_)⟩
      have : k = b' := by injection e
      exact this ▸ H.old k hk'
    have hdiff : ∀ z, z ≠ (specOf S i).at_ → listed.getD z false = true → (specOf S z).kind = 1 → ∀ bz, valOf ops z a = .pointer (some ⟨bz, 0, none⟩) → bz ≠ b' := by
      intro z hz hlz hz1 bz hbz e
      subst e
      exact hD z _ hz hlz hlp hz1 p1 (hbz.trans hvb.symm)
    have hkeep : ∀ bz, bz < w1.heap.size → bz ≠ b' → w2.heap[bz]? = w1.heap[bz]? := fun bz h1 h2 => hg.block bz h1 (fun e => h2 (by injection e))
    refine ⟨N, hframe N hb0 H.old (fun k hk' => H.new k (by omega)), fun j hl => ?_, fun x y hxy hlx hly hx1 hy1 => ?_, hclosed⟩
    · rcases listed_set hl with rfl | ⟨hne, hl⟩
      · simp only [Fact, k2]
        exact ⟨b', hvb, hNb, hblk⟩
      · have hf := hF j hl
        by_cases j0 : (specOf S j).kind = 0
        · simp only [Fact, j0] at hf ⊢
          exact (specOf S j).rg.mono _ _ _ _ _ hf hg.size (fun k hk' hN => ⟨hN, hkeep k hk' (fun e => hNb (e ▸ hN))⟩)
        by_cases j1 : (specOf S j).kind = 1
        · simp only [Fact, j1] at hf ⊢
          obtain ⟨bj, cs', h1, h2, h3, h4⟩ := hf
          by_cases hjp : j = (specOf S i).at_
          · subst hjp
            rw [hvb] at h1
            simp only [Value.pointer.injEq, Option.some.injEq, Addr.mk.injEq] at h1
            exact ⟨b', _, hvb, hNb, hblk, hlen⟩
          · exact ⟨bj, cs', h1, h2, (hkeep bj h3.lt (hdiff j hjp hl j1 bj h1)).trans h3, h4⟩
        · obtain ⟨_, j2, pj1, _, ⟨oj, hoj, e, he, hbd, hon⟩, hatj⟩ := hput j (hlt j hl) j0 j1
          simp only [Fact, j2] at hf ⊢
          obtain ⟨bj, h1, h2, h3⟩ := hf
          have hlpj : listed.getD (specOf S j).at_ false = true := hon ▸ hC j oj hoj hl e he hbd
          have hnp : (specOf S j).at_ ≠ (specOf S i).at_ := by
            rcases Nat.lt_or_gt_of_ne hne with h | h
            · exact hat j h j2
            · exact fun e => hatj i h k2 e.symm
          exact ⟨bj, h1, h2, (hkeep bj h3.lt (hdiff _ hnp hlpj pj1 bj h1)).trans h3⟩
    · rcases listed_set hlx with rfl | ⟨hnx, hlx⟩
      · omega
      rcases listed_set hly with rfl | ⟨hny, hly⟩
      · omega
      exact hD x y hxy hlx hly hx1 hy1
theorem listed_lt {listed : Array Bool} {i n : Nat} (hs : listed.size = n) (h : listed.getD i false = true) : i < n := by
  rcases Nat.lt_or_ge i listed.size with h' | h'
  · omega
  · simp [Array.getElem?_eq_none h'] at h
/-- All that the last operation asks for, and what that asks for. -/
def marks (ops : Array Oper) (K : Nat) : List Nat := ((List.range (K + 1)).reverse).foldl (fun m i => if m.contains i then m ++ depsIn ops i else m) [K]
def okLast (ops : Array Oper) (K : Nat) : Bool := ops.size == K + 1 && ((List.range K).all fun i => (marks ops K).contains i) && (depsIn ops K).all fun d => decide (d < K)
theorem marks_all {ops : Array Oper} {K : Nat} {L : Nat → Prop} (hK : L K) (h : ∀ i, L i → ∀ d ∈ depsIn ops i, L d) : ∀ x ∈ marks ops K, L x := by
  unfold marks
  have key : ∀ (l : List Nat) (m : List Nat), (∀ x ∈ m, L x) → ∀ x ∈ l.foldl (fun m i => if m.contains i then m ++ depsIn ops i else m) m, L x := by
    intro l
    induction l with
    | nil => exact fun m hm => hm
    | cons i l ih =>
      intro m hm
      refine ih _ fun x hx => ?_
      simp only [] at hx
      split at hx
      · rename_i hc
        rcases List.mem_append.1 hx with hx | hx
        · exact hm x hx
        · exact h i (hm i (by simpa using hc)) x hx
      · exact hm x hx
  exact key _ _ fun x hx => by
    obtain rfl := List.mem_singleton.1 hx
    exact hK
/-- A region whose last operation stands behind all others: that one may do whatever it likes. -/
theorem region_last {P : Program} {ops ops' : Array Oper} {id : Nat} {Q : Exit → Act → World → Prop} {a0 : Act} {w : World} (he : ops = ops') (S : List RK) (n K : Nat) (hn : a0.tmps.size = n) (hm : P.follows .mixedOrders = true)
    (hok : okUpto n ops' S K = true) (hlast : okLast ops' K = true) (hop : ∀ i, i < K → Obl P ops' S Q a0 w.drew i)
    (hend : ∀ a w' N, Held ops' a0 w.drew a w' N → (∀ i, decide (i < K) = true → Fact ops' S i a w' N) → wpOp P ops' Q K (fun a w => Q .normal a w) a w') : (Code.region id ops true).wp P Q a0 w := by
  subst he
  unfold okLast at hlast
  simp only [Bool.and_eq_true, beq_iff_eq] at hlast
  obtain ⟨⟨hsize, hmarks⟩, hdl⟩ := hlast
  have hback := ok_back hok
  refine wp_region_any hm ?_
  change wpAny _ _ _ _ _ _ _ (World.drew w)
  refine wpAny_law (fun listed a w1 => (listed.getD K false = false ∧ RJ ops S a0 w.drew listed a w1) ∨ ((∀ i, i < ops.size → listed.getD i false = true) ∧ Q .normal a w1)) ?_ ?_ ?_ _ _ _ _ (by simp) ?_ ?_
  · intro i o ho e he hb
    have hi := (Array.getElem?_eq_some_iff.1 ho).1
    rcases Nat.lt_or_ge i K with h | h
    · exact hback i h o ho e he hb
    · obtain rfl : i = K := by omega
      have hmem : e.on ∈ depsIn ops i := by
        unfold depsIn
        rw [ho]
        simp only [Option.map_some, Option.getD_some, List.mem_map, List.mem_filter]
        exact ⟨e, ⟨by simpa using he, hb⟩, rfl⟩
      exact of_decide_eq_true (List.all_eq_true.1 hdl _ hmem)
  · intro listed a w1 i hsz hi hJ
    obtain ⟨hun, o, ho, hall⟩ := mem_ready.1 hi
    have hilt := (Array.getElem?_eq_some_iff.1 ho).1
    rcases hJ with ⟨hKn, hJ⟩ | ⟨hJ, _⟩
    · rcases Nat.lt_or_ge i K with h | h
      · have hlt : ∀ j, listed.getD j false = true → j < K := by
          intro j hj
          have := listed_lt hsz hj
          rcases Nat.lt_or_ge j K with h | h
          · exact h
          · obtain rfl : j = K := by omega
            rw [hKn] at hj
            cases hj
        refine wpOp_mono ?_ (rj_step S n K hn (by omega) hok hop listed a w1 i hsz hlt h hi hJ)
        intro a' w' hJ'
        exact .inl ⟨by rw [getD_set_ne false (by omega)]; exact hKn, hJ'⟩
      · obtain rfl : i = K := by omega
        obtain ⟨N, H, hF, hD, hC⟩ := hJ
        have hlisted : ∀ j, j < i → listed.getD j false = true := by
          intro j hj
          have hm := marks_all (ops := ops) (K := i) (L := fun x => x = i ∨ listed.getD x false = true) (.inl rfl) (fun x hx d hd => by
            unfold depsIn at hd
            cases hox : ops[x]? with
            | none => rw [hox] at hd; simp at hd
            | some ox =>
              rw [hox] at hd
              simp only [Option.map_some, Option.getD_some, List.mem_map, List.mem_filter] at hd
              obtain ⟨e, ⟨he, hb⟩, rfl⟩ := hd
              rcases hx with rfl | hx
              · have : ox = o := Option.some.inj (hox.symm.trans ho)
                subst this
                exact .inr (hall e (by simpa using he) hb)
              · exact .inr (hC x ox hox hx e (by simpa using he) hb)) j (by simpa using List.all_eq_true.1 hmarks j (List.mem_range.2 hj))
          rcases hm with rfl | hm
          · omega
          · exact hm
        refine wpOp_mono ?_ (hend a w1 N H fun j hj => hF j (hlisted j (of_decide_eq_true hj)))
        intro a' w' hQ
        refine .inr ⟨fun j hj => ?_, hQ⟩
        by_cases e : j = i
        · subst e
          simp [hsz, hj]
        · exact getD_set_true (hlisted j (by omega))
    · have hc := hJ i hilt
      have : listed.getD i true = true := by
        have hi' : i < listed.size := by omega
        simp only [Array.getD_eq_getD_getElem?, Array.getElem?_eq_getElem hi', Option.getD_some] at hc ⊢
        exact hc
      rw [hun] at this
      cases this
  · intro listed a w1 hJ hall
    rcases hJ with ⟨hKn, _⟩ | ⟨_, hQ⟩
    · rw [hall K (by omega)] at hKn
      cases hKn
    · exact hQ
  · have h : ∀ i, i < ops.size → (Array.replicate ops.size false).getD i true = false := by
      intro i hi
      simp [hi]
    rw [List.filter_eq_self.2 (fun i hi => by rw [h i (List.mem_range.1 hi)]; rfl), List.length_range]
  · refine .inl ⟨by rw [getD_replicate_false], fun _ => True, ⟨rfl, rfl, fun _ _ => rfl, Below.refl _ _, fun _ _ => trivial, fun _ _ => trivial⟩, ?_, ?_, ?_⟩
    · intro i hi
      rw [getD_replicate_false] at hi
      cases hi
    · intro i j _ hi
      rw [getD_replicate_false] at hi
      cases hi
    · intro i o _ hi
      rw [getD_replicate_false] at hi
      cases hi
end Go.Proofs.YtofhkgafgnldnaaDoor
