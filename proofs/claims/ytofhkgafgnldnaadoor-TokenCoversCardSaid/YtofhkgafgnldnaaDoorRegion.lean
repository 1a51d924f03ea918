/- A region that draws its order, whatever it holds: what each operation leaves is said once, in no order; whatever order is drawn, all of it holds behind the region. No program in sight. -/
import Derived.Test.YtofhkgafgnldnaaDoorMem
import Derived.Orders
import Derived.StillTail
namespace Go.Proofs.YtofhkgafgnldnaaDoor
open Go.RowKit

/-- What is said of a value in a world, blocks within N alone looked at: it stays so while those blocks stay. -/
structure RG where
  g : Value → World → (Nat → Prop) → Prop
  mono : ∀ v w w' (N N' : Nat → Prop), g v w N → w.heap.size ≤ w'.heap.size → (∀ k, k < w.heap.size → N k → N' k ∧ w'.heap[k]? = w.heap[k]?) → g v w' N'
/-- What an operation is: it yields a value of which g is said ('kind' 0), it makes a block of one's own ('kind' 1: of type ty, len cells), it stores cs into the block that operation 'at_' made ('kind' 2). -/
structure RK where
  kind : Nat
  rg : RG
  ty : TypeId
  len : Nat
  at_ : Nat
  cs : List Value
def RG.any : RG := ⟨fun _ _ _ => True, fun _ _ _ _ _ h _ _ => h⟩
def RG.eq (c : Value) : RG := ⟨fun v _ _ => v = c, fun _ _ _ _ _ h _ _ => h⟩
def RK.val (g : RG) : RK := ⟨0, g, 0, 0, 0, []⟩
def RK.eq (c : Value) : RK := RK.val (RG.eq c)
def RK.new (ty : TypeId) (len : Nat) : RK := ⟨1, RG.any, ty, len, 0, []⟩
def RK.put (p : Nat) (cs : List Value) : RK := ⟨2, RG.any, 0, 0, p, cs⟩
def dstOf (ops : Array Oper) (i : Nat) : Option Tmp := (ops[i]?).bind (·.dst)
def valOf (ops : Array Oper) (i : Nat) (a : Act) : Value := a.tmps.getD ((dstOf ops i).getD 0) undef
def specOf (S : List RK) (i : Nat) : RK := S.getD i (RK.val RG.any)
/-- What holds behind operation i. -/
def Fact (ops : Array Oper) (S : List RK) (i : Nat) (a : Act) (w : World) (N : Nat → Prop) : Prop :=
  match (specOf S i).kind with
  | 0 => (specOf S i).rg.g (valOf ops i a) w N
  | 1 => ∃ b cs, valOf ops i a = .pointer (some ⟨b, 0, none⟩) ∧ ¬N b ∧ Blk w b (specOf S i).ty cs ∧ cs.length = (specOf S i).len
  | _ => ∃ b, valOf ops (specOf S i).at_ a = .pointer (some ⟨b, 0, none⟩) ∧ ¬N b ∧ Blk w b (specOf S (specOf S i).at_).ty (specOf S i).cs
/-- What an operation does to the world. -/
def Does (ops : Array Oper) (S : List RK) (i : Nat) (a : Act) (w : World) (N : Nat → Prop) (v : Value) (w' : World) : Prop :=
  match (specOf S i).kind with
  | 0 => Below w.heap.size w w' ∧ ∀ N' : Nat → Prop, (∀ k, k < w.heap.size → N k → N' k) → (∀ k, w.heap.size ≤ k → N' k) → (specOf S i).rg.g v w' N'
  | 1 => ∃ cs : List Value, v = .pointer (some ⟨w.heap.size, 0, none⟩) ∧ w' = w.alloc (.cells cs.toArray (specOf S i).ty) ∧ cs.length = (specOf S i).len
  | _ => ∃ b, valOf ops (specOf S i).at_ a = .pointer (some ⟨b, 0, none⟩) ∧ w.grownBy w' (some b) ∧ w'.heap.size = w.heap.size ∧ Blk w' b (specOf S (specOf S i).at_).ty (specOf S i).cs
/-- The region's operations look back alone; no two write one temporary; 'new' and 'val' write one each, 'put' none, its block is made ahead of it. -/
def okRegion (n : Nat) (ops : Array Oper) (S : List RK) : Bool :=
  (List.range ops.size).all fun i =>
    ((ops[i]?).map fun o => o.after.all fun e => !Region.binds .any e || decide (e.on < i)).getD false &&
    (match dstOf ops i with
     | some d => decide (d < n) && ((specOf S i).kind == 0 || (specOf S i).kind == 1) && (List.range i).all fun j => dstOf ops j != some d
     | none => (specOf S i).kind == 2 && (specOf S (specOf S i).at_).kind == 1 && (specOf S i).cs.length == (specOf S (specOf S i).at_).len && ((ops[i]?).map fun o => o.after.any fun e => Region.binds .any e && e.on == (specOf S i).at_).getD false && (List.range i).all fun j => (specOf S j).kind != 2 || (specOf S j).at_ != (specOf S i).at_)
theorem wpAny_law {P : Program} {ops : Array Oper} {Q : Exit → Act → World → Prop} (J : Array Bool → Act → World → Prop)
    (hback : ∀ i o, ops[i]? = some o → ∀ e ∈ o.after, Region.binds .any e = true → e.on < i)
    (hstep : ∀ listed a w i, listed.size = ops.size → i ∈ Region.ready .any ops listed → J listed a w → wpOp P ops Q i (J (listed.setIfInBounds i true)) a w)
    (hend : ∀ listed a w, J listed a w → (∀ i, i < ops.size → listed.getD i false = true) → Q .normal a w) :
    ∀ (fuel : Nat) (listed : Array Bool) (a : Act) (w : World), listed.size = ops.size → ((List.range ops.size).filter fun i => !listed.getD i true).length = fuel → J listed a w → wpAny P .any ops Q fuel listed a w := by
  have hnil : ∀ listed : Array Bool, listed.size = ops.size → Region.ready .any ops listed = [] → ∀ i, i < ops.size → listed.getD i false = true := by
    intro listed hs hr i
    induction i using Nat.strongRecOn with
    | _ i ih =>
      intro hi
      by_cases h : listed.getD i false = true
      · exact h
      · exfalso
        have hmem : i ∈ Region.ready .any ops listed := by
          rw [mem_ready]
          refine ⟨?_, ops[i], Array.getElem?_eq_getElem hi, fun e he hb => ?_⟩
          · have hi' : i < listed.size := by omega
            simp only [Array.getD_eq_getD_getElem?, Array.getElem?_eq_getElem hi', Option.getD_some] at h ⊢
            simpa using h
          · have hlt := hback i _ (Array.getElem?_eq_getElem hi) e he hb
            exact ih e.on hlt (by omega)
        rw [hr] at hmem
        cases hmem
  intro fuel
  induction fuel with
  | zero =>
    intro listed a w hs hlen hJ
    have hr : Region.ready .any ops listed = [] := by
      have h0 := List.eq_nil_of_length_eq_zero hlen
      rw [List.eq_nil_iff_forall_not_mem]
      intro i hi
      have hi2 := mem_ready.1 hi
      obtain ⟨h1, o, ho, _⟩ := hi2
      have hlt : i < ops.size := (Array.getElem?_eq_some_iff.1 ho).1
      have : i ∈ (List.range ops.size).filter fun i => !listed.getD i true := by
        rw [List.mem_filter, List.mem_range]
        exact ⟨hlt, by rw [h1]; rfl⟩
      rw [h0] at this
      cases this
    exact ⟨hr, hend _ _ _ hJ (hnil _ hs hr)⟩
  | succ fuel ih =>
    intro listed a w hs hlen hJ
    refine ⟨fun hr => hend _ _ _ hJ (hnil _ hs hr), fun i hi => ?_⟩
    refine wpOp_mono (fun a' w' hJ' => ih _ a' w' (by simpa using hs) ?_ hJ') (hstep listed a w i hs hi hJ)
    obtain ⟨h1, o, ho, _⟩ := mem_ready.1 hi
    have hlt : i < ops.size := (Array.getElem?_eq_some_iff.1 ho).1
    have hcount : ∀ (l : List Nat), l.Nodup → i ∈ l → (l.filter fun j => !listed.getD j true).length = (l.filter fun j => !(listed.setIfInBounds i true).getD j true).length + 1 := by
      intro l
      induction l with
      | nil => intro _ h; cases h
      | cons x l ihl =>
        intro hnd hm
        rw [List.nodup_cons] at hnd
        by_cases hx : x = i
        · subst hx
          have he : (l.filter fun j => !listed.getD j true) = l.filter fun j => !(listed.setIfInBounds x true).getD j true := by
            apply List.filter_congr
            intro j hj
            have : x ≠ j := fun e => hnd.1 (e ▸ hj)
            rw [getD_set_ne true this]
          have hset : (listed.setIfInBounds x true).getD x true = true := by
            have hx' : x < listed.size := by omega
            simp [hx']
          rw [List.filter_cons_of_pos (by rw [h1]; rfl), List.filter_cons_of_neg (by rw [hset]; simp), he, List.length_cons]
        · have hm' : i ∈ l := by
            rcases List.mem_cons.1 hm with h | h
            · exact absurd h.symm hx
            · exact h
          have := ihl hnd.2 hm'
          rw [List.filter_cons, List.filter_cons, getD_set_ne true (Ne.symm hx)]
          split
          · simp only [List.length_cons]; omega
          · exact this
    have := hcount (List.range ops.size) List.nodup_range (List.mem_range.2 hlt)
    omega
/-- What stands at the head of each operation, and behind all. -/
structure Held (ops : Array Oper) (a0 : Act) (w0 : World) (a : Act) (w : World) (N : Nat → Prop) : Prop where
  defers : a.defers = a0.defers
  size : a.tmps.size = a0.tmps.size
  base : ∀ s, (∀ i, dstOf ops i ≠ some s) → a.tmps.getD s undef = a0.tmps.getD s undef
  below : Below w0.heap.size w0 w
  old : ∀ k, k < w0.heap.size → N k
  new : ∀ k, w.heap.size ≤ k → N k
def RJ (ops : Array Oper) (S : List RK) (a0 : Act) (w0 : World) (listed : Array Bool) (a : Act) (w : World) : Prop :=
  ∃ N, Held ops a0 w0 a w N ∧ (∀ i, listed.getD i false = true → Fact ops S i a w N) ∧
    (∀ i j, i ≠ j → listed.getD i false = true → listed.getD j false = true → (specOf S i).kind = 1 → (specOf S j).kind = 1 → valOf ops i a ≠ valOf ops j a) ∧
    (∀ i o, ops[i]? = some o → listed.getD i false = true → ∀ e ∈ o.after, Region.binds .any e = true → listed.getD e.on false = true)
/-- One operation's part. -/
def Obl (P : Program) (ops : Array Oper) (S : List RK) (Q : Exit → Act → World → Prop) (a0 : Act) (w0 : World) (i : Nat) : Prop :=
  ∀ a w N, Held ops a0 w0 a w N → (∀ o, ops[i]? = some o → ∀ e ∈ o.after, Region.binds .any e = true → Fact ops S e.on a w N) →
    wpOp P ops Q i (fun a' w' => ∃ v, a' = a.put (dstOf ops i) v ∧ Does ops S i a w N v w') a w
theorem val_put {ops : Array Oper} {a : Act} {i j : Nat} {v : Value} (hj : (dstOf ops j).isSome = true) (hne : dstOf ops j ≠ dstOf ops i) : valOf ops j (a.put (dstOf ops i) v) = valOf ops j a := by
  unfold valOf
  cases hi : dstOf ops i with
  | none => rfl
  | some d =>
    obtain ⟨c, hc⟩ := Option.isSome_iff_exists.1 hj
    have hcd : d ≠ c := fun e => hne (by rw [hc, hi, e])
    simp only [hc, Option.getD_some, Act.put]
    simp [hcd]
theorem val_put_self {ops : Array Oper} {a : Act} {i : Nat} {v : Value} {d : Tmp} (hi : dstOf ops i = some d) (hd : d < a.tmps.size) : valOf ops i (a.put (dstOf ops i) v) = v := by
  unfold valOf
  simp only [hi, Option.getD_some, Act.put]
  simp [hd]
theorem listed_set {listed : Array Bool} {i j : Nat} (h : (listed.setIfInBounds i true).getD j false = true) : j = i ∨ (j ≠ i ∧ listed.getD j false = true) := by
  by_cases e : j = i
  · exact .inl e
  · exact .inr ⟨e, by rwa [getD_set_ne false (Ne.symm e)] at h⟩
theorem region_law {P : Program} {ops : Array Oper} {id : Nat} {Q : Exit → Act → World → Prop} {a0 : Act} {w : World} (S : List RK) (n : Nat) (hn : a0.tmps.size = n) (hm : P.follows .mixedOrders = true)
    (hok : okRegion n ops S = true) (hop : ∀ i, i < ops.size → Obl P ops S Q a0 w.drew i)
    (hend : ∀ a w' N, Held ops a0 w.drew a w' N → (∀ i, i < ops.size → Fact ops S i a w' N) → Q .normal a w') : (Code.region id ops true).wp P Q a0 w := by
  have hk : ∀ i, i < ops.size → _ := fun i hi => List.all_eq_true.1 hok i (List.mem_range.2 hi)
  have hback : ∀ i o, ops[i]? = some o → ∀ e ∈ o.after, Region.binds .any e = true → e.on < i := by
    intro i o ho e he hb
    have h := hk i (Array.getElem?_eq_some_iff.1 ho).1
    rw [Bool.and_eq_true] at h
    have h1 := h.1
    rw [ho] at h1
    simp only [Option.map_some, Option.getD_some, Array.all_eq_true_iff_forall_mem, Bool.or_eq_true, decide_eq_true_eq] at h1
    rcases h1 e he with h2 | h2
    · rw [hb] at h2; cases h2
    · exact h2
  have hdst : ∀ i j, i < ops.size → j < ops.size → i ≠ j → (dstOf ops i).isSome = true → dstOf ops i ≠ dstOf ops j := by
    have key : ∀ i j, i < ops.size → j < i → (dstOf ops i).isSome = true → dstOf ops j ≠ dstOf ops i := by
      intro i j hi hj hs
      obtain ⟨d, hd⟩ := Option.isSome_iff_exists.1 hs
      have h := (Bool.and_eq_true _ _ ▸ hk i hi).2
      simp only [hd, Bool.and_eq_true] at h
      have h2 := List.all_eq_true.1 h.2 j (List.mem_range.2 hj)
      rw [hd]
      simpa using h2
    intro i j hi hj hne hs
    rcases Nat.lt_or_gt_of_ne hne with h | h
    · intro e
      have hs' : (dstOf ops j).isSome = true := by rw [← e]; exact hs
      exact key j i hj h hs' e
    · exact fun e => key i j hi h hs e.symm
  have hkind : ∀ i, i < ops.size → ((specOf S i).kind = 0 ∨ (specOf S i).kind = 1) → ∃ d, dstOf ops i = some d ∧ d < n := by
    intro i hi h01
    have h := (Bool.and_eq_true _ _ ▸ hk i hi).2
    cases hd : dstOf ops i with
    | none =>
      simp only [hd, Bool.and_eq_true, beq_iff_eq] at h
      have := h.1.1.1.1
      omega
    | some d =>
      simp only [hd, Bool.and_eq_true, decide_eq_true_eq] at h
      exact ⟨d, rfl, h.1.1⟩
  have hput : ∀ i, i < ops.size → (specOf S i).kind ≠ 0 → (specOf S i).kind ≠ 1 → dstOf ops i = none ∧ (specOf S i).kind = 2 ∧ (specOf S (specOf S i).at_).kind = 1 ∧ (specOf S i).cs.length = (specOf S (specOf S i).at_).len ∧
      (∃ o, ops[i]? = some o ∧ ∃ e ∈ o.after, Region.binds .any e = true ∧ e.on = (specOf S i).at_) ∧ ∀ j, j < i → (specOf S j).kind = 2 → (specOf S j).at_ ≠ (specOf S i).at_ := by
    intro i hi h0 h1
    have h := (Bool.and_eq_true _ _ ▸ hk i hi).2
    cases hd : dstOf ops i with
    | some d =>
      simp only [hd, Bool.and_eq_true, Bool.or_eq_true, beq_iff_eq] at h
      rcases h.1.2 with h | h <;> contradiction
    | none =>
      simp only [hd, Bool.and_eq_true, beq_iff_eq] at h
      obtain ⟨⟨⟨⟨k1, k2⟩, k3⟩, k4⟩, k5⟩ := h
      refine ⟨rfl, k1, k2, k3, ?_, fun j hj hj2 => ?_⟩
      · rw [Array.getElem?_eq_getElem hi] at k4 ⊢
        simp only [Option.map_some, Option.getD_some] at k4
        obtain ⟨e, he, hb⟩ := Array.any_eq_true'.1 k4
        simp only [Bool.and_eq_true, beq_iff_eq] at hb
        exact ⟨_, rfl, e, he, hb.1, hb.2⟩
      · have := List.all_eq_true.1 k5 j (List.mem_range.2 hj)
        simp only [Bool.or_eq_true, bne_iff_ne, ne_eq] at this
        rcases this with h | h
        · exact absurd hj2 h
        · exact h
  have hlt_of : ∀ (listed : Array Bool) i, listed.size = ops.size → listed.getD i false = true → i < ops.size := by
    intro listed i hs h
    rcases Nat.lt_or_ge i listed.size with h' | h'
    · omega
    · simp [Array.getElem?_eq_none h'] at h
  refine wp_region_any hm ?_
  change wpAny _ _ _ _ _ _ _ (World.drew w)
  refine wpAny_law (RJ ops S a0 w.drew) hback ?_ ?_ _ _ _ _ (by simp) ?_ ?_
  · intro listed a w1 i hsz hi hJ
    obtain ⟨N, H, hF, hD, hC⟩ := hJ
    obtain ⟨hun, o, ho, hall⟩ := mem_ready.1 hi
    have hilt : i < ops.size := (Array.getElem?_eq_some_iff.1 ho).1
    refine wpOp_mono ?_ (hop i hilt a w1 N H (fun o' ho' e he hb => by
      have : o' = o := Option.some.inj (ho'.symm.trans ho)
      subst this
      exact hF _ (hall e he hb)))
    rintro a' w2 ⟨v, rfl, hdo⟩
    have hclosed : ∀ j o', ops[j]? = some o' → (listed.setIfInBounds i true).getD j false = true → ∀ e ∈ o'.after, Region.binds .any e = true → (listed.setIfInBounds i true).getD e.on false = true := by
      intro j o' ho' hl e he hb
      rcases listed_set hl with rfl | ⟨_, hl⟩
      · have : o' = o := Option.some.inj (ho'.symm.trans ho)
        subst this
        exact getD_set_true (hall e he hb)
      · exact getD_set_true (hC j o' ho' hl e he hb)
    have hval : ∀ j, j ≠ i → listed.getD j false = true → ((specOf S j).kind = 0 ∨ (specOf S j).kind = 1) → valOf ops j (a.put (dstOf ops i) v) = valOf ops j a := by
      intro j hne hl h01
      have hjl := hlt_of listed j hsz hl
      obtain ⟨d, hd, _⟩ := hkind j hjl h01
      exact val_put (by rw [hd]; rfl) (hdst j i hjl hilt hne (by rw [hd]; rfl))
    have hframe : ∀ (N' : Nat → Prop), Below w.drew.heap.size w.drew w2 → (∀ k, k < w.drew.heap.size → N' k) → (∀ k, w2.heap.size ≤ k → N' k) → Held ops a0 w.drew (a.put (dstOf ops i) v) w2 N' := by
      intro N' hb ho hn'
      refine ⟨?_, ?_, fun s hs => ?_, hb, ho, hn'⟩
      · rw [← H.defers]; unfold Act.put; split <;> rfl
      · rw [← H.size]; unfold Act.put; split <;> simp
      · rw [← H.base s hs]
        unfold Act.put
        split
        · rename_i d hd
          have : d ≠ s := fun e => hs i (by rw [hd, e])
          simp [this]
        · rfl
    by_cases k0 : (specOf S i).kind = 0
    · obtain ⟨d, hd, hdn⟩ := hkind i hilt (.inl k0)
      simp only [Does, k0] at hdo
      obtain ⟨hb, hg⟩ := hdo
      have hb0 : Below w.drew.heap.size w.drew w2 := H.below.trans (hb.mono H.below.size)
      refine ⟨N, hframe N hb0 H.old (fun k hk' => H.new k (Nat.le_trans hb.size hk')), fun j hl => ?_, fun x y hxy hlx hly hx1 hy1 => ?_, hclosed⟩
      · rcases listed_set hl with rfl | ⟨hne, hl⟩
        · simp only [Fact, k0]
          rw [val_put_self hd (by rw [H.size, hn]; exact hdn)]
          exact hg N (fun _ _ h => h) H.new
        · have hf := hF j hl
          by_cases j0 : (specOf S j).kind = 0
          · simp only [Fact, j0] at hf ⊢
            rw [hval j hne hl (.inl j0)]
            exact (specOf S j).rg.mono _ _ _ _ _ hf hb.size (fun k hk' hN => ⟨hN, hb.block k hk'⟩)
          by_cases j1 : (specOf S j).kind = 1
          · simp only [Fact, j1] at hf ⊢
            obtain ⟨b, cs, h1, h2, h3, h4⟩ := hf
            exact ⟨b, cs, by rw [hval j hne hl (.inr j1)]; exact h1, h2, h3.below hb h3.lt, h4⟩
          · obtain ⟨_, j2, p1, _, ⟨oj, hoj, e, he, hbd, hon⟩, _⟩ := hput j (hlt_of listed j hsz hl) j0 j1
            simp only [Fact, j2] at hf ⊢
            obtain ⟨b, h1, h2, h3⟩ := hf
            have hlp : listed.getD (specOf S j).at_ false = true := hon ▸ hC j oj hoj hl e he hbd
            have hne' : (specOf S j).at_ ≠ i := fun e => by rw [e] at p1; omega
            exact ⟨b, by rw [hval _ hne' hlp (.inr p1)]; exact h1, h2, h3.below hb h3.lt⟩
      · rcases listed_set hlx with rfl | ⟨hnx, hlx⟩
        · omega
        rcases listed_set hly with rfl | ⟨hny, hly⟩
        · omega
        rw [hval x hnx hlx (.inr hx1), hval y hny hly (.inr hy1)]
        exact hD x y hxy hlx hly hx1 hy1
    by_cases k1 : (specOf S i).kind = 1
    · obtain ⟨d, hd, hdn⟩ := hkind i hilt (.inr k1)
      simp only [Does, k1] at hdo
      obtain ⟨cs, rfl, rfl, hcs⟩ := hdo
      have hb : Below w1.heap.size w1 (w1.alloc (.cells cs.toArray (specOf S i).ty)) := (Below.refl _ _).alloc (Nat.le_refl _) _
      have hb0 : Below w.drew.heap.size w.drew (w1.alloc (.cells cs.toArray (specOf S i).ty)) := H.below.trans (hb.mono H.below.size)
      have hsz2 : (w1.alloc (.cells cs.toArray (specOf S i).ty)).heap.size = w1.heap.size + 1 := by simp
      have hself := val_put_self (ops := ops) (a := a) (v := .pointer (some ⟨w1.heap.size, 0, none⟩)) hd (by rw [H.size, hn]; exact hdn)
      refine ⟨fun k => N k ∧ k ≠ w1.heap.size, hframe _ hb0 (fun k hk' => ⟨H.old k hk', by have := H.below.size; omega⟩) (fun k hk' => ⟨H.new k (by omega), by omega⟩), fun j hl => ?_, fun x y hxy hlx hly hx1 hy1 => ?_, hclosed⟩
      · rcases listed_set hl with rfl | ⟨hne, hl⟩
        · simp only [Fact, k1]
          exact ⟨w1.heap.size, cs, hself, by simp, Blk.new _ _ _, hcs⟩
        · have hf := hF j hl
          by_cases j0 : (specOf S j).kind = 0
          · simp only [Fact, j0] at hf ⊢
            rw [hval j hne hl (.inl j0)]
            exact (specOf S j).rg.mono _ _ _ _ _ hf hb.size (fun k hk' hN => ⟨⟨hN, by omega⟩, hb.block k hk'⟩)
          by_cases j1 : (specOf S j).kind = 1
          · simp only [Fact, j1] at hf ⊢
            obtain ⟨b, cs', h1, h2, h3, h4⟩ := hf
            exact ⟨b, cs', by rw [hval j hne hl (.inr j1)]; exact h1, fun h => h2 h.1, h3.below hb h3.lt, h4⟩
          · obtain ⟨_, j2, p1, _, ⟨oj, hoj, e, he, hbd, hon⟩, _⟩ := hput j (hlt_of listed j hsz hl) j0 j1
            simp only [Fact, j2] at hf ⊢
            obtain ⟨b, h1, h2, h3⟩ := hf
            have hlp : listed.getD (specOf S j).at_ false = true := hon ▸ hC j oj hoj hl e he hbd
            have hne' : (specOf S j).at_ ≠ i := fun e => by
              rw [e] at hlp
              have : listed.getD i true = true := by
                have hi' : i < listed.size := by omega
                simp only [Array.getD_eq_getD_getElem?, Array.getElem?_eq_getElem hi', Option.getD_some] at hlp ⊢
                exact hlp
              rw [hun] at this
              cases this
            exact ⟨b, by rw [hval _ hne' hlp (.inr p1)]; exact h1, fun h => h2 h.1, h3.below hb h3.lt⟩
      · have hptr : ∀ z, z ≠ i → listed.getD z false = true → (specOf S z).kind = 1 → valOf ops z a ≠ .pointer (some ⟨w1.heap.size, 0, none⟩) := by
          intro z _ hlz hz1 he
          have hf := hF z hlz
          simp only [Fact, hz1] at hf
          obtain ⟨b, cs', h1, _, h3, _⟩ := hf
          rw [he] at h1
          have hbz := h3.lt
          simp only [Value.pointer.injEq, Option.some.injEq, Addr.mk.injEq] at h1
          omega
        rcases listed_set hlx with rfl | ⟨hnx, hlx'⟩
        · rcases listed_set hly with rfl | ⟨hny, hly'⟩
          · exact absurd rfl hxy
          · rw [hself, hval y hny hly' (.inr hy1)]
            exact (hptr y hny hly' hy1).symm
        rcases listed_set hly with rfl | ⟨hny, hly'⟩
        · rw [hself, hval x hnx hlx' (.inr hx1)]
          exact hptr x hnx hlx' hx1
        rw [hval x hnx hlx' (.inr hx1), hval y hny hly' (.inr hy1)]
        exact hD x y hxy hlx' hly' hx1 hy1
    · obtain ⟨hd, k2, p1, hlen, ⟨oi, hoi, ei, hei, hbi, honi⟩, hat⟩ := hput i hilt k0 k1
      have hoi' : oi = o := Option.some.inj (hoi.symm.trans ho)
      subst hoi'
      have hlp : listed.getD (specOf S i).at_ false = true := honi ▸ hall ei hei hbi
      simp only [Does, k2] at hdo
      obtain ⟨b, hvb, hg, hsize, hblk⟩ := hdo
      have hfp := hF _ hlp
      simp only [Fact, p1] at hfp
      obtain ⟨b', csp, hvb', hNb, hblkp, _⟩ := hfp
      have hbb : b' = b := by
        rw [hvb] at hvb'
        simp only [Value.pointer.injEq, Option.some.injEq, Addr.mk.injEq] at hvb'
        exact hvb'.1.symm
      subst hbb
      have hput0 : a.put (dstOf ops i) v = a := by rw [hd]; rfl
      rw [hput0] at hframe hval ⊢
      have hb0 : Below w.drew.heap.size w.drew w2 := by
        refine H.below.trans ⟨hg.os, hg.tape, hg.output, hg.size, fun k hk' => hg.block k (Nat.lt_of_lt_of_le hk' H.below.size) (fun e => hNb ?_)⟩
        have : k = b' := by injection e
        exact this ▸ H.old k hk'
      have hdiff : ∀ z, z ≠ (specOf S i).at_ → listed.getD z false = true → (specOf S z).kind = 1 → ∀ bz, valOf ops z a = .pointer (some ⟨bz, 0, none⟩) → bz ≠ b' := by
        intro z hz hlz hz1 bz hbz e
        subst e
        exact hD z _ hz hlz hlp hz1 p1 (hbz.trans hvb.symm)
      have hkeep : ∀ bz, bz < w1.heap.size → bz ≠ b' → w2.heap[bz]? = w1.heap[bz]? := fun bz h1 h2 => hg.block bz h1 (fun e => h2 (by injection e))
      refine ⟨N, hframe N hb0 H.old (fun k hk' => H.new k (by omega)), fun j hl => ?_, fun x y hxy hlx hly hx1 hy1 => ?_, hclosed⟩
      · rcases listed_set hl with rfl | ⟨hne, hl⟩
        · simp only [Fact, k2]
          exact ⟨b', hvb, hNb, hblk⟩
        · have hf := hF j hl
          by_cases j0 : (specOf S j).kind = 0
          · simp only [Fact, j0] at hf ⊢
            exact (specOf S j).rg.mono _ _ _ _ _ hf hg.size (fun k hk' hN => ⟨hN, hkeep k hk' (fun e => hNb (e ▸ hN))⟩)
          by_cases j1 : (specOf S j).kind = 1
          · simp only [Fact, j1] at hf ⊢
            obtain ⟨bj, cs', h1, h2, h3, h4⟩ := hf
            by_cases hjp : j = (specOf S i).at_
            · subst hjp
              rw [hvb] at h1
              simp only [Value.pointer.injEq, Option.some.injEq, Addr.mk.injEq] at h1
              exact ⟨b', _, hvb, hNb, hblk, hlen⟩
            · exact ⟨bj, cs', h1, h2, (hkeep bj h3.lt (hdiff j hjp hl j1 bj h1)).trans h3, h4⟩
          · obtain ⟨_, j2, pj1, _, ⟨oj, hoj, e, he, hbd, hon⟩, hatj⟩ := hput j (hlt_of listed j hsz hl) j0 j1
            simp only [Fact, j2] at hf ⊢
            obtain ⟨bj, h1, h2, h3⟩ := hf
            have hlpj : listed.getD (specOf S j).at_ false = true := hon ▸ hC j oj hoj hl e he hbd
            have hnp : (specOf S j).at_ ≠ (specOf S i).at_ := by
              rcases Nat.lt_or_gt_of_ne hne with h | h
              · exact hat j h j2
              · exact fun e => hatj i h k2 e.symm
            exact ⟨bj, h1, h2, (hkeep bj h3.lt (hdiff _ hnp hlpj pj1 bj h1)).trans h3⟩
      · rcases listed_set hlx with rfl | ⟨hnx, hlx⟩
        · omega
        rcases listed_set hly with rfl | ⟨hny, hly⟩
        · omega
        exact hD x y hxy hlx hly hx1 hy1
  · intro listed a w1 hJ hall
    obtain ⟨N, H, hF, _, _⟩ := hJ
    exact hend a w1 N H (fun i hi => hF i (hall i hi))
  · have h : ∀ i, i < ops.size → (Array.replicate ops.size false).getD i true = false := by
      intro i hi
      simp [hi]
    rw [List.filter_eq_self.2 (fun i hi => by rw [h i (List.mem_range.1 hi)]; rfl), List.length_range]
  · refine ⟨fun _ => True, ⟨rfl, rfl, fun _ _ => rfl, Below.refl _ _, fun _ _ => trivial, fun _ _ => trivial⟩, ?_, ?_, ?_⟩
    · intro i hi
      rw [getD_replicate_false] at hi
      cases hi
    · intro i j _ hi
      rw [getD_replicate_false] at hi
      cases hi
    · intro i o _ hi
      rw [getD_replicate_false] at hi
      cases hi
/-- The same, of operations that go by a name. -/
theorem region_named {P : Program} {ops ops' : Array Oper} {id : Nat} {Q : Exit → Act → World → Prop} {a0 : Act} {w : World} (he : ops = ops') (S : List RK) (n : Nat) (hn : a0.tmps.size = n) (hm : P.follows .mixedOrders = true)
    (hok : okRegion n ops' S = true) (hop : ∀ i, i < ops'.size → Obl P ops' S Q a0 w.drew i)
    (hend : ∀ a w' N, Held ops' a0 w.drew a w' N → (∀ i, decide (i < ops'.size) = true → Fact ops' S i a w' N) → Q .normal a w') : (Code.region id ops true).wp P Q a0 w := by
  subst he
  exact region_law S n hn hm hok hop (fun a w' N H hF => hend a w' N H (fun i hi => hF i (of_decide_eq_true hi)))
theorem fact_put {ops : Array Oper} {S : List RK} {a : Act} {w : World} {N : Nat → Prop} {i p s : Nat} {cs : List Value} {t : TypeId} {n : Nat} (h : Fact ops S i a w N) (hs : specOf S i = RK.put p cs) (hp : specOf S p = RK.new t n) (hd : dstOf ops p = some s) :
    ∃ b, a.tmps.getD s undef = .pointer (some ⟨b, 0, none⟩) ∧ Blk w b t cs := by
  unfold Fact at h
  rw [hs] at h
  simp only [RK.put] at h
  obtain ⟨b, hb, _, hblk⟩ := h
  rw [hp] at hblk
  unfold valOf at hb
  rw [hd] at hb
  exact ⟨b, hb, hblk⟩
end Go.Proofs.YtofhkgafgnldnaaDoor
