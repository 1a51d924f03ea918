/- A tree's tokens are those from which it was read; no count stands behind a bracket that opens, nor behind a count. Plain. -/
import Derived.Test.YtpiimcbbgalhfaaGreatDoorCq
import Derived.Test.YtpiimcbbgalhfaaGreatDoorBl
import Derived.Test.YtpiimcbbgalhfaaGreatDoorBq
namespace Go.Proofs.YtpiimcbbgalhfaaGreatDoor
set_option maxRecDepth 100000
def headK : List (List Tok) → List Tok
  | [] => []
  | f :: _ => f
def joinK : List (List Tok) → List Tok
  | [] => []
  | f :: r => f ++ r.flatMap fun g => kindTok 4 :: g
def toksK (k : Int) (set : Nat → Bool) (lo hi : Int) (z : Bool) (F : List (List Tok)) : List Tok :=
  if k = 1 then [setTok set] else if k = 2 then kindTok 1 :: (headK F ++ [kindTok 3]) else if k = 3 then kindTok 2 :: (headK F ++ [kindTok 3]) else if k = 4 then F.flatten else if k = 5 then joinK F
  else if k = 6 then headK F ++ [⟨5, noSet, lo.toNat, hi, z⟩] else []
mutual
/-- The tokens of a tree. -/
def toksT : Tree → List Tok
  | .mk k set lo hi z kids _ _ => toksK k set lo hi z (toksL kids)
def toksL : List Tree → List (List Tok)
  | [] => []
  | n :: l => toksT n :: toksL l
end
theorem toksL_map (l : List Tree) : toksL l = l.map toksT := by
  induction l with
  | nil => rfl
  | cons n l ih => simp only [toksL, List.map_cons, ih]
theorem joinK_snoc (F : List (List Tok)) (g : List Tok) (h : F ≠ []) : joinK (F ++ [g]) = joinK F ++ kindTok 4 :: g := by
  cases F with
  | nil => exact absurd rfl h
  | cons f r => simp only [List.cons_append, joinK, List.flatMap_append, List.flatMap_cons, List.flatMap_nil, List.append_nil, List.append_assoc]
def NoHead5 (l : List Tok) : Prop := ∀ y, l.head? = some y → y.kind ≠ 5
theorem NoHead5.append {a b : List Tok} (ha : NoHead5 a) (hb : NoHead5 b) : NoHead5 (a ++ b) := by
  cases a with
  | nil => exact hb
  | cons x a => exact ha
theorem ChainOk.append {a b : List Tok} (ha : ChainOk a) (hb : ChainOk b) (hn : NoHead5 b) : ChainOk (a ++ b) := by
  induction a with
  | nil => exact hb
  | cons x a ih =>
    refine ⟨fun h y hy => ?_, ih ha.2⟩
    cases a with
    | nil => exact hn y hy
    | cons z a => exact ha.1 h y hy
theorem ChainOk.count {a : List Tok} (ha : ChainOk a) (hl : ∀ x, a.getLast? = some x → x.kind ≠ 1 ∧ x.kind ≠ 5) (c : Tok) : ChainOk (a ++ [c]) := by
  induction a with
  | nil => exact ⟨fun _ y hy => (nomatch hy), trivial⟩
  | cons x a ih =>
    cases a with
    | nil =>
      have := hl x rfl
      exact ⟨fun h => by omega, ⟨fun _ y hy => (nomatch hy), trivial⟩⟩
    | cons z a => exact ⟨fun h y hy => ha.1 h y hy, ih ha.2 fun y hy => hl y (by rw [List.getLast?_cons_cons]; exact hy)⟩
section
variable {T : List Tk} {size : Nat}
def segK (T : List Tk) (i j : Nat) : List Tok := ((T.map (·.1)).drop i).take (j - i)
theorem seg_refl (i : Nat) : segK T i i = [] := by simp [segK]
theorem seg_add {i j k : Nat} (h1 : i ≤ j) (h2 : j ≤ k) : segK T i j ++ segK T j k = segK T i k := by
  unfold segK
  obtain ⟨a, rfl⟩ : ∃ a, j = i + a := ⟨j - i, by omega⟩
  obtain ⟨b, rfl⟩ : ∃ b, k = i + a + b := ⟨k - (i + a), by omega⟩
  rw [show i + a - i = a by omega, show i + a + b - (i + a) = b by omega, show i + a + b - i = a + b by omega, ← List.drop_drop, List.take_add]
theorem seg_one {i : Nat} {x : Tk} (h : T[i]? = some x) : segK T i (i + 1) = [x.1] := by
  unfold segK
  have hi := (List.getElem?_eq_some_iff.1 h).1
  rw [show i + 1 - i = 1 by omega, List.drop_eq_getElem_cons (by simpa using hi)]
  simp only [List.getElem_map, List.take_succ_cons, List.take_zero]
  rw [(List.getElem?_eq_some_iff.1 h).2]
theorem seg_all : segK T 0 T.length = T.map (·.1) := by
  unfold segK
  rw [List.drop_zero, Nat.sub_zero, List.take_of_length_le (by simp)]
def NormsT (T : List Tk) : Prop := ∀ x ∈ T, NormTok x.1
theorem NormsT.at (h : NormsT T) {i : Nat} {x : Tk} (hx : T[i]? = some x) : NormTok x.1 := h x (List.mem_of_getElem? hx)
theorem norm_set {x : Tok} (h : NormTok x) (hk : x.kind = 0) : x = setTok x.set := by
  rcases h with h | ⟨k, h1, rfl⟩ | ⟨h, -⟩
  · exact h
  · simp only [kindTok] at hk
    omega
  · rw [h] at hk
    cases hk
theorem norm_kind {x : Tok} (h : NormTok x) {k : Nat} (h1 : k = 1 ∨ k = 2 ∨ k = 3 ∨ k = 4) (hk : x.kind = k) : x = kindTok k := by
  rcases h with h | ⟨k', h2, rfl⟩ | ⟨h, -⟩
  · rw [h] at hk
    simp only [setTok] at hk
    omega
  · simp only [kindTok] at hk
    rw [hk]
  · rw [h] at hk
    simp only [] at hk
    omega
theorem norm_count {x : Tok} (h : NormTok x) (hk : x.kind = 5) : x = ⟨5, noSet, x.lo, x.hi, x.lazy⟩ := by
  rcases h with h | ⟨k', h2, rfl⟩ | ⟨h, -⟩
  · rw [h] at hk
    cases hk
  · simp only [kindTok] at hk
    omega
  · exact h
/-- What is known of a tree that was read from here to there. -/
structure Unp (T : List Tk) (t : Tree) (i j : Nat) : Prop where
  le : i ≤ j
  lt : j ≤ T.length
  toks : toksT t = segK T i j
  chain : ChainOk (toksT t)
  head : NoHead5 (toksT t)
def AltU (T : List Tk) (size n : Nat) : Prop := ∀ (d i j : Nat) (t : Tree), i ≤ T.length → T.length - i < n → altF T size n d i = .ok t j → Unp T t i j
theorem base_unp (hN : NormsT T) {n d q k0 : Nat} {x : Tk} {n0 : Tree} (hx : T[q]? = some x) (hn : T.length - q ≤ n) (hg : AltU T size n) (hb : baseW T size (altF T size n) d q x = .ok n0 k0) :
    q < k0 ∧ Unp T n0 q k0 ∧ (toksT n0).head? ≠ none ∧ ∀ y, (toksT n0).getLast? = some y → y.kind ≠ 1 ∧ y.kind ≠ 5 := by
  have hq := (List.getElem?_eq_some_iff.1 hx).1
  rcases base_parts hb with ⟨h0, rfl, rfl⟩ | ⟨h12, n1, m, y, hr, hy, hy3, rfl, rfl⟩
  · have e : toksT (leafT x) = [x.1] := by
      unfold leafT
      simp only [toksT, toksK, if_true]
      rw [← norm_set (hN.at hx) h0]
    refine ⟨by omega, ⟨by omega, by omega, by rw [e, seg_one hx], by rw [e]; exact ⟨fun h => by omega, trivial⟩, fun y hy => ?_⟩, by rw [e]; simp, fun y hy => ?_⟩
    · rw [e] at hy
      injection hy with hy
      subst hy
      omega
    · rw [e] at hy
      simp only [List.getLast?_singleton, Option.some.injEq] at hy
      subst hy
      exact ⟨by omega, by omega⟩
  · have hu := hg (d + 1) (q + 1) m n1 (by omega) (by omega) hr
    have hm := (List.getElem?_eq_some_iff.1 hy).1
    have e : toksT (groupT x n1 y.2.2) = x.1 :: (toksT n1 ++ [kindTok 3]) := by
      unfold groupT
      rcases h12 with h | h
      · rw [show (if x.1.kind = 2 then (3 : Int) else 2) = 2 from if_neg (by omega)]
        simp only [toksT, toksK, toksL, headK, show ¬(2 : Int) = 1 by decide, if_false, if_true]
        rw [← norm_kind (hN.at hx) (by omega) h]
      · rw [show (if x.1.kind = 2 then (3 : Int) else 2) = 3 from if_pos h]
        simp only [toksT, toksK, toksL, headK, show ¬(3 : Int) = 1 by decide, show ¬(3 : Int) = 2 by decide, if_false, if_true]
        rw [← norm_kind (hN.at hx) (by omega) h]
    have h3 : NoHead5 [kindTok 3] := fun z hz => by injection hz with hz; subst hz; decide
    refine ⟨by have := hu.le; omega, ⟨by have := hu.le; omega, by omega, ?_, ?_, ?_⟩, by rw [e]; simp, fun z hz => ?_⟩
    · rw [e, hu.toks]
      have s1 := seg_add (T := T) (i := q) (j := q + 1) (k := m + 1) (by omega) (by have := hu.le; omega)
      have s2 := seg_add (T := T) (i := q + 1) (j := m) (k := m + 1) hu.le (by omega)
      rw [← s1, ← s2, seg_one hx, seg_one hy, norm_kind (hN.at hy) (by omega) hy3]
      rfl
    · rw [e]
      exact ⟨fun _ => hu.head.append h3, hu.chain.append ⟨fun h => by simp [kindTok] at h, trivial⟩ h3⟩
    · rw [e]
      intro z hz
      injection hz with hz
      subst hz
      omega
    · rw [e, ← List.cons_append, List.getLast?_append] at hz
      simp only [List.getLast?_singleton, Option.some_or, Option.some.injEq] at hz
      subst hz
      exact ⟨by decide, by decide⟩
theorem item_unp (hN : NormsT T) {n d q k : Nat} {x : Tk} {t : Tree} (hx : T[q]? = some x) (hn : T.length - q ≤ n) (hg : AltU T size n) (hb : itemW T size (altF T size n) d q x = .ok t k) : q < k ∧ Unp T t q k := by
  obtain ⟨n0, k0, hbase, hp⟩ := item_parts hb
  obtain ⟨h1, hu, h2, h3⟩ := base_unp hN hx hn hg hbase
  rcases hp with ⟨c, hc, hc5, rfl, rfl⟩ | ⟨hno, rfl, rfl⟩
  · have hk := (List.getElem?_eq_some_iff.1 hc).1
    have e : toksT (repT x c n0) = toksT n0 ++ [c.1] := by
      unfold repT
      simp only [toksT, toksK, toksL, headK, show ¬(6 : Int) = 1 by decide, show ¬(6 : Int) = 2 by decide, show ¬(6 : Int) = 3 by decide, show ¬(6 : Int) = 4 by decide, show ¬(6 : Int) = 5 by decide, if_false, if_true, Int.toNat_natCast]
      rw [← norm_count (hN.at hc) hc5]
    refine ⟨by omega, by omega, by omega, by rw [e, hu.toks, ← seg_one hc]; exact seg_add (by omega) (by omega), by rw [e]; exact hu.chain.count h3 _, ?_⟩
    rw [e]
    intro y hy
    cases ht : toksT n0 with
    | nil => rw [ht] at h2; exact absurd rfl h2
    | cons a r =>
      rw [ht] at hy
      exact hu.head y (by rw [ht]; exact hy)
  · exact ⟨h1, hu⟩
theorem cat_unp (hN : NormsT T) {n d : Nat} (hg : AltU T size n) : ∀ (f q : Nat) (l L : List Tree) (J : Nat), q ≤ T.length → T.length - q ≤ n → catLoop T size (altF T size n) d f l q = .ok L J →
    ChainOk (l.map toksT).flatten → NoHead5 (l.map toksT).flatten → q ≤ J ∧ J ≤ T.length ∧ (L.map toksT).flatten = (l.map toksT).flatten ++ segK T q J ∧ ChainOk (L.map toksT).flatten ∧ NoHead5 (L.map toksT).flatten := by
  intro f
  induction f with
  | zero =>
    intro q l L J hq hn hc h1 h2
    unfold catLoop at hc
    injection hc with e1 e2
    subst e1
    subst e2
    exact ⟨Nat.le_refl _, hq, by rw [seg_refl, List.append_nil], h1, h2⟩
  | succ f ih =>
    intro q l L J hq hn hc h1 h2
    unfold catLoop at hc
    cases hx : T[q]? with
    | none =>
      rw [hx] at hc
      injection hc with e1 e2
      subst e1
      subst e2
      exact ⟨Nat.le_refl _, hq, by rw [seg_refl, List.append_nil], h1, h2⟩
    | some x =>
      rw [hx] at hc
      simp only [] at hc
      by_cases hk : x.1.kind = 4 ∨ x.1.kind = 3
      · rw [if_pos hk] at hc
        injection hc with e1 e2
        subst e1
        subst e2
        exact ⟨Nat.le_refl _, hq, by rw [seg_refl, List.append_nil], h1, h2⟩
      · rw [if_neg hk] at hc
        cases hi : itemW T size (altF T size n) d q x with
        | err p e => rw [hi] at hc; cases hc
        | ok t k =>
          rw [hi] at hc
          simp only [] at hc
          obtain ⟨h3, hu⟩ := item_unp hN hx hn hg hi
          have e : ((l ++ [t]).map toksT).flatten = (l.map toksT).flatten ++ toksT t := by simp
          obtain ⟨h4, h5, h6, h7, h8⟩ := ih k (l ++ [t]) L J hu.lt (by omega) hc (by rw [e]; exact h1.append hu.chain hu.head) (by rw [e]; exact h2.append hu.head)
          exact ⟨by omega, h5, by rw [h6, e, List.append_assoc, hu.toks, seg_add (by omega) h4], h7, h8⟩
theorem many_toks {k : Int} (l : List Tree) (h4 : k = 4 ∨ k = 5) : toksT (manyT k l) = if k = 4 then (l.map toksT).flatten else joinK (l.map toksT) := by
  unfold manyT
  split
  · rename_i n
    split <;> simp [joinK]
  · rcases h4 with rfl | rfl
    · simp only [toksT, toksK, toksL_map, show ¬(4 : Int) = 1 by decide, show ¬(4 : Int) = 2 by decide, show ¬(4 : Int) = 3 by decide, if_false, if_true]
    · simp only [toksT, toksK, toksL_map, show ¬(5 : Int) = 1 by decide, show ¬(5 : Int) = 2 by decide, show ¬(5 : Int) = 3 by decide, show ¬(5 : Int) = 4 by decide, if_false, if_true]
theorem catW_unp (hN : NormsT T) {n d i j : Nat} {t : Tree} (hi : i ≤ T.length) (hn : T.length - i ≤ n) (hg : AltU T size n) (h : catW T size (altF T size n) d i = .ok t j) : Unp T t i j := by
  unfold catW at h
  cases hc : catLoop T size (altF T size n) d (T.length + 1 - i) [] i with
  | err p e => rw [hc] at h; cases h
  | ok L J =>
    rw [hc] at h
    obtain ⟨h4, h5, h6, h7, h8⟩ := cat_unp hN hg _ i [] L J hi hn hc trivial (fun y hy => nomatch hy)
    cases L with
    | nil =>
      simp only [catEnd] at h
      injection h with e1 e2
      subst e1
      subst e2
      exact ⟨h4, h5, h6, trivial, fun y hy => nomatch hy⟩
    | cons a L =>
      simp only [catEnd] at h
      injection h with e1 e2
      subst e1
      subst e2
      have e := many_toks (k := 4) (a :: L) (.inl rfl)
      rw [if_pos rfl] at e
      exact ⟨h4, h5, by rw [e]; exact h6, by rw [e]; exact h7, by rw [e]; exact h8⟩
theorem alt_unp (hN : NormsT T) {n d : Nat} (hg : AltU T size n) : ∀ (f q : Nat) (l L : List Tree) (J : Nat), q ≤ T.length → T.length - q ≤ n → l ≠ [] → altLoop T size (altF T size n) d f l q = .ok L J →
    ChainOk (joinK (l.map toksT)) → NoHead5 (joinK (l.map toksT)) → q ≤ J ∧ J ≤ T.length ∧ joinK (L.map toksT) = joinK (l.map toksT) ++ segK T q J ∧ ChainOk (joinK (L.map toksT)) ∧ NoHead5 (joinK (L.map toksT)) := by
  intro f
  induction f with
  | zero =>
    intro q l L J hq hn hl hc h1 h2
    unfold altLoop at hc
    injection hc with e1 e2
    subst e1
    subst e2
    exact ⟨Nat.le_refl _, hq, by rw [seg_refl, List.append_nil], h1, h2⟩
  | succ f ih =>
    intro q l L J hq hn hl hc h1 h2
    unfold altLoop at hc
    by_cases hk : kindAt T q = some 4
    · rw [if_pos hk] at hc
      obtain ⟨x, hx, hx4⟩ : ∃ x, T[q]? = some x ∧ x.1.kind = 4 := by
        unfold kindAt at hk
        cases hx : T[q]? with
        | none => rw [hx] at hk; cases hk
        | some x => rw [hx] at hk; injection hk with hk; exact ⟨x, rfl, hk⟩
      have hql := (List.getElem?_eq_some_iff.1 hx).1
      cases hcw : catW T size (altF T size n) d (q + 1) with
      | err p e => rw [hcw] at hc; cases hc
      | ok t k =>
        rw [hcw] at hc
        simp only [] at hc
        have hu := catW_unp hN (by omega) (by omega) hg hcw
        have e : joinK ((l ++ [t]).map toksT) = joinK (l.map toksT) ++ kindTok 4 :: toksT t := by
          rw [List.map_append, List.map_singleton, joinK_snoc _ _ (by simpa using hl)]
        have c4 : ChainOk (kindTok 4 :: toksT t) := ⟨fun h => by simp [kindTok] at h, hu.chain⟩
        have n4 : NoHead5 (kindTok 4 :: toksT t) := fun y hy => by injection hy with hy; subst hy; simp [kindTok]
        obtain ⟨h4, h5, h6, h7, h8⟩ := ih k (l ++ [t]) L J hu.lt (by have := hu.le; omega) (by simp) hc (by rw [e]; exact h1.append c4 n4) (by rw [e]; exact h2.append n4)
        refine ⟨by have := hu.le; omega, h5, ?_, h7, h8⟩
        have s1 := seg_add (T := T) (i := q) (j := q + 1) (k := J) (by omega) (by have := hu.le; omega)
        rw [h6, e, List.append_assoc, hu.toks, List.cons_append, seg_add hu.le h4, ← s1, seg_one hx, norm_kind (hN.at hx) (by omega) hx4]
        rfl
    · rw [if_neg hk] at hc
      injection hc with e1 e2
      subst e1
      subst e2
      exact ⟨Nat.le_refl _, hq, by rw [seg_refl, List.append_nil], h1, h2⟩
theorem altF_unp (hN : NormsT T) : ∀ n, AltU T size n := by
  intro n
  induction n with
  | zero => intro d i j t hi hn; omega
  | succ n ih =>
    intro d i j t hi hn h
    change altW T size (altF T size n) d i = .ok t j at h
    unfold altW at h
    cases hcw : catW T size (altF T size n) d i with
    | err p q => rw [hcw] at h; cases h
    | ok t0 k =>
      rw [hcw] at h
      simp only [] at h
      have hu := catW_unp hN hi (by omega) ih hcw
      cases ha : altLoop T size (altF T size n) d (T.length + 1 - k) [t0] k with
      | err p q => rw [ha] at h; cases h
      | ok L J =>
        rw [ha] at h
        simp only [altEnd] at h
        injection h with e1 e2
        subst e1
        subst e2
        have e0 : joinK ([t0].map toksT) = toksT t0 := by simp [joinK]
        obtain ⟨h4, h5, h6, h7, h8⟩ := alt_unp hN ih _ k [t0] L J hu.lt (by have := hu.le; omega) (by simp) ha (by rw [e0]; exact hu.chain) (by rw [e0]; exact hu.head)
        have e := many_toks (k := 5) L (.inr rfl)
        rw [if_neg (by decide)] at e
        exact ⟨by have := hu.le; omega, h5, by rw [e, h6, e0, hu.toks, seg_add hu.le h4], by rw [e]; exact h7, by rw [e]; exact h8⟩
theorem tree_unp (hN : NormsT T) {t : Tree} {j : Nat} (h : treeM T size = .ok t j) : toksT t = T.map (·.1) ∧ ChainOk (toksT t) := by
  unfold treeM at h
  cases ha : altF T size (T.length + 1) 0 0 with
  | err p e => rw [ha] at h; cases h
  | ok n k =>
    rw [ha] at h
    simp only [] at h
    have hu := altF_unp hN (T.length + 1) 0 0 k n (by omega) (by omega) ha
    cases hx : T[k]? with
    | some x => rw [hx] at h; cases h
    | none =>
      rw [hx] at h
      injection h with e1 e2
      subst e1
      have := List.getElem?_eq_none_iff.1 hx
      obtain rfl : k = T.length := by have := hu.lt; omega
      exact ⟨by rw [hu.toks, seg_all], hu.chain⟩
end
theorem lazy_norm {t : List Nat} {lo : Nat} {hi : Int} {i : Nat} {x : Tok} {j : Nat} (h : lazyM t lo hi i = .ok x j) : x = ⟨5, noSet, x.lo, x.hi, x.lazy⟩ := by
  unfold lazyM at h
  by_cases h1 : t[if t[i]? = some 63 then i + 1 else i]? = some 43
  · simp only [h1, if_true] at h
    cases h
  · simp only [h1, if_false] at h
    injection h with h _
    rw [← h]
theorem tok_norm {t : List Nat} {i : Nat} {x : Tok} {j : Nat} (h : tokM t i = .ok x j) : NormTok x := by
  have hc5 := tok_count h
  have hs : ∀ {r : Res (Nat → Bool)}, setRes r = .ok x j → NormTok x := fun {r} h => by
    cases r with
    | err k e => cases h
    | ok m k =>
      injection h with h _
      rw [← h]
      exact .inl rfl
  have hl : ∀ {lo : Nat} {hi : Int} {i : Nat}, lazyM t lo hi i = .ok x j → NormTok x := fun h => .inr (.inr ⟨lazy_norm h, hc5⟩)
  have hk : ∀ {k : Nat} {a : Nat}, (k = 1 ∨ k = 2 ∨ k = 3 ∨ k = 4) → (.ok (kindTok k) a : Res Tok) = .ok x j → NormTok x := fun {k a} h0 h => by
    injection h with h _
    rw [← h]
    exact .inr (.inl ⟨k, h0, rfl⟩)
  unfold tokM at h
  cases hc : t[i]? with
  | none => rw [hc] at h; cases h
  | some c =>
    rw [hc] at h
    dsimp only at h
    by_cases h0 : c = 92
    · rw [if_pos h0] at h
      exact hs h
    rw [if_neg h0] at h
    by_cases h1 : c = 91
    · rw [if_pos h1] at h
      exact hs h
    rw [if_neg h1] at h
    by_cases h2 : c = 40
    · rw [if_pos h2] at h
      unfold groupM at h
      split at h
      · split at h
        · exact hk (by omega) h
        · cases h
      · exact hk (by omega) h
    rw [if_neg h2] at h
    by_cases h3 : c = 41
    · rw [if_pos h3] at h
      exact hk (by omega) h
    rw [if_neg h3] at h
    by_cases h4 : c = 124
    · rw [if_pos h4] at h
      exact hk (by omega) h
    rw [if_neg h4] at h
    by_cases h5 : c = 46
    · rw [if_pos h5] at h
      injection h with h _
      rw [← h]
      exact .inl rfl
    rw [if_neg h5] at h
    by_cases h6 : c = 42
    · rw [if_pos h6] at h
      exact hl h
    rw [if_neg h6] at h
    by_cases h7 : c = 43
    · rw [if_pos h7] at h
      exact hl h
    rw [if_neg h7] at h
    by_cases h8 : c = 63
    · rw [if_pos h8] at h
      exact hl h
    rw [if_neg h8] at h
    by_cases h9 : c = 123
    · rw [if_pos h9] at h
      cases hb : bracesM t (i + 1) with
      | err k e => rw [hb] at h; cases h
      | ok v k =>
        rw [hb] at h
        obtain ⟨lo, hi⟩ := v
        exact hl h
    rw [if_neg h9] at h
    by_cases ha : c = 94 ∨ c = 36
    · rw [if_pos ha] at h
      cases h
    rw [if_neg ha] at h
    by_cases hlo : loneL.contains c = true
    · rw [if_pos hlo] at h
      cases h
    rw [if_neg hlo] at h
    injection h with h _
    rw [← h]
    exact .inl rfl
theorem scanLoop_norm {t : List Nat} : ∀ (f i : Nat) (l L : List Tk) (n : Nat), (∀ y ∈ l, NormTok y.1) → scanLoop t f i l = .ok L n → ∀ y ∈ L, NormTok y.1 := by
  intro f
  induction f with
  | zero => intro i l L n hl h; unfold scanLoop at h; injection h with h; subst h; exact hl
  | succ f ih =>
    intro i l L n hl h
    unfold scanLoop at h
    split at h
    · cases hk : tokM t i with
      | err j e => rw [hk] at h; cases h
      | ok x j =>
        rw [hk] at h
        refine ih j _ L n (fun y hy => ?_) h
        rcases List.mem_append.1 hy with hy | hy
        · exact hl y hy
        · obtain rfl := List.mem_singleton.1 hy
          exact tok_norm hk
    · injection h with h; subst h; exact hl
theorem scan_norms {t : List Nat} {L : List Tk} {n : Nat} (h : scanM t = .ok L n) : NormsT L := scanLoop_norm _ _ _ _ _ (fun y hy => by cases hy) h
end Go.Proofs.YtpiimcbbgalhfaaGreatDoor
/- Tokens alike are read as trees alike; what is printed of a tree is its tokens' text. Plain. -/
namespace Go.Proofs.YtpiimcbbgalhfaaGreatDoor
set_option maxRecDepth 100000
open Go.RowKit
section
variable {T T' : List Tk} {size size' : Nat}
/-- Two lists of tokens, alike but for places. -/
structure Alike (T T' : List Tk) : Prop where
  len : T'.length = T.length
  get : ∀ (i : Nat) (x : Tk), T[i]? = some x → ∃ y, T'[i]? = some y ∧ TokEq x.1 y.1
theorem Alike.none (h : Alike T T') {i : Nat} (hx : T[i]? = none) : T'[i]? = none := List.getElem?_eq_none (by rw [h.len]; exact List.getElem?_eq_none_iff.1 hx)
theorem Alike.kind (h : Alike T T') (i : Nat) : kindAt T' i = kindAt T i := by
  unfold kindAt
  cases hx : T[i]? with
  | none => rw [h.none hx]
  | some x =>
    obtain ⟨y, h1, h2⟩ := h.get i x hx
    rw [h1, Option.map_some, Option.map_some, h2.kind]
theorem toksEq_alike : ∀ {l : List Tok} {T : List Tk} {T' : List Tk}, l = T.map (·.1) → ToksEq l T' → Alike T T'
  | [], [], _, _, h => by cases h; exact ⟨rfl, fun i x hx => by simp at hx⟩
  | [], x :: T, _, e, _ => by cases e
  | a :: l, [], _, e, _ => by cases e
  | a :: l, x :: T, _, e, h => by
    injection e with e1 e2
    cases h with
    | @cons _ y _ T' h hl =>
      have ih := toksEq_alike e2 hl
      refine ⟨by rw [List.length_cons, List.length_cons, ih.len], fun i z hz => ?_⟩
      cases i with
      | zero =>
        injection hz with hz
        subst hz
        have e1 : a = x.1 := e1
        exact ⟨y, rfl, by rw [← e1]; exact h⟩
      | succ i => exact ih.get i z hz
theorem many_same {k : Int} {l r : List Tree} (h : sameL l r = true) : sameT (manyT k l) (manyT k r) = true := by
  match l, r, h with
  | [], [], _ => simp [manyT, sameT, sameL, eqB_self]
  | [], b :: r, h => simp [sameL] at h
  | a :: l, [], h => simp [sameL] at h
  | [a], [b], h => simpa [manyT, sameL] using h
  | [a], b :: c :: r, h => simp [sameL] at h
  | a :: b :: l, [c], h => simp [sameL] at h
  | a :: b :: l, c :: d :: r, h => simp only [manyT, sameT, h, eqB_self, beq_self_eq_true, Bool.and_self]
theorem sameL_snoc : ∀ {l r : List Tree} {n m : Tree}, sameL l r = true → sameT n m = true → sameL (l ++ [n]) (r ++ [m]) = true
  | [], [], n, m, _, h => by simp [sameL, h]
  | [], b :: r, _, _, h, _ => by simp [sameL] at h
  | a :: l, [], _, _, h, _ => by simp [sameL] at h
  | a :: l, b :: r, n, m, h, h2 => by
    simp only [sameL, Bool.and_eq_true] at h
    simp only [List.cons_append, sameL, h.1, Bool.true_and]
    exact sameL_snoc h.2 h2
def AltS (T T' : List Tk) (size size' n : Nat) : Prop := ∀ (d i j : Nat) (t : Tree), altF T size n d i = .ok t j → ∃ t', altF T' size' n d i = .ok t' j ∧ sameT t t' = true
theorem base_sim (hA : Alike T T') {n d q k0 : Nat} {x y : Tk} {n0 : Tree} (hxy : TokEq x.1 y.1) (hg : AltS T T' size size' n) (hb : baseW T size (altF T size n) d q x = .ok n0 k0) :
    ∃ m0, baseW T' size' (altF T' size' n) d q y = .ok m0 k0 ∧ sameT n0 m0 = true := by
  have hkk := hxy.kind
  unfold baseW at hb ⊢
  by_cases h0 : x.1.kind = 0
  · rw [if_pos h0] at hb
    rw [if_pos (by omega)]
    injection hb with e1 e2
    subst e1
    subst e2
    exact ⟨_, rfl, by simp [leafT, sameT, sameL, hxy.set]⟩
  · rw [if_neg h0] at hb
    rw [if_neg (by omega)]
    by_cases h12 : x.1.kind = 1 ∨ x.1.kind = 2
    · rw [if_pos h12] at hb
      rw [if_pos (by omega)]
      unfold groupW at hb ⊢
      by_cases hd : 200 ≤ d
      · rw [if_pos hd] at hb
        cases hb
      · rw [if_neg hd] at hb ⊢
        cases hr : altF T size n (d + 1) (q + 1) with
        | err p e => rw [hr] at hb; cases hb
        | ok n1 m =>
          rw [hr] at hb
          obtain ⟨n1', hr', hs⟩ := hg (d + 1) (q + 1) m n1 hr
          rw [hr']
          simp only [] at hb ⊢
          cases hy : T[m]? with
          | none => rw [hy] at hb; cases hb
          | some c =>
            rw [hy] at hb
            obtain ⟨c', hc, hcc⟩ := hA.get m c hy
            rw [hc]
            simp only [] at hb ⊢
            by_cases h3 : c.1.kind = 3
            · rw [if_pos h3] at hb
              rw [if_pos (by rw [hcc.kind]; exact h3)]
              injection hb with e1 e2
              subst e1
              subst e2
              exact ⟨_, rfl, by simp [groupT, sameT, sameL, hs, hkk, eqB_self]⟩
            · rw [if_neg h3] at hb
              cases hb
    · rw [if_neg h12] at hb
      cases hb
theorem item_sim (hA : Alike T T') {n d q k : Nat} {x y : Tk} {t : Tree} (hxy : TokEq x.1 y.1) (hg : AltS T T' size size' n) (hb : itemW T size (altF T size n) d q x = .ok t k) :
    ∃ t', itemW T' size' (altF T' size' n) d q y = .ok t' k ∧ sameT t t' = true := by
  obtain ⟨n0, k0, hbase, hp⟩ := item_parts hb
  obtain ⟨m0, h1, h2⟩ := base_sim hA hxy hg hbase
  unfold itemW
  rw [h1]
  simp only []
  rcases hp with ⟨c, hc, hc5, rfl, rfl⟩ | ⟨hno, rfl, rfl⟩
  · obtain ⟨c', h3, h4⟩ := hA.get k0 c hc
    rw [h3]
    simp only []
    rw [if_pos (by rw [h4.kind]; exact hc5)]
    exact ⟨_, rfl, by simp [repT, sameT, sameL, h2, h4.lo, h4.hi, h4.lazy, eqB_self]⟩
  · cases hc : T[k]? with
    | none =>
      rw [hA.none hc]
      exact ⟨_, rfl, h2⟩
    | some c =>
      obtain ⟨c', h3, h4⟩ := hA.get k c hc
      rw [h3]
      simp only []
      rw [if_neg (by rw [h4.kind]; exact hno c hc)]
      exact ⟨_, rfl, h2⟩
theorem cat_sim (hA : Alike T T') {n d : Nat} (hg : AltS T T' size size' n) : ∀ (f q : Nat) (l l' L : List Tree) (J : Nat), sameL l l' = true → catLoop T size (altF T size n) d f l q = .ok L J →
    ∃ L', catLoop T' size' (altF T' size' n) d f l' q = .ok L' J ∧ sameL L L' = true := by
  intro f
  induction f with
  | zero =>
    intro q l l' L J hl hc
    unfold catLoop at hc ⊢
    injection hc with e1 e2
    subst e1
    subst e2
    exact ⟨l', rfl, hl⟩
  | succ f ih =>
    intro q l l' L J hl hc
    unfold catLoop at hc ⊢
    cases hx : T[q]? with
    | none =>
      rw [hx] at hc
      rw [hA.none hx]
      injection hc with e1 e2
      subst e1
      subst e2
      exact ⟨l', rfl, hl⟩
    | some x =>
      rw [hx] at hc
      obtain ⟨y, hy, hxy⟩ := hA.get q x hx
      rw [hy]
      simp only [] at hc ⊢
      by_cases hk : x.1.kind = 4 ∨ x.1.kind = 3
      · rw [if_pos hk] at hc
        rw [if_pos (by rw [hxy.kind]; exact hk)]
        injection hc with e1 e2
        subst e1
        subst e2
        exact ⟨l', rfl, hl⟩
      · rw [if_neg hk] at hc
        rw [if_neg (by rw [hxy.kind]; exact hk)]
        cases hi : itemW T size (altF T size n) d q x with
        | err p e => rw [hi] at hc; cases hc
        | ok t k =>
          rw [hi] at hc
          obtain ⟨t', h1, h2⟩ := item_sim hA hxy hg hi
          rw [h1]
          exact ih k (l ++ [t]) (l' ++ [t']) L J (sameL_snoc hl h2) hc
theorem sameL_nil {l : List Tree} (h : sameL [] l = true) : l = [] := by
  cases l with
  | nil => rfl
  | cons a l => simp [sameL] at h
theorem catW_sim (hA : Alike T T') {n d i j : Nat} {t : Tree} (hg : AltS T T' size size' n) (h : catW T size (altF T size n) d i = .ok t j) : ∃ t', catW T' size' (altF T' size' n) d i = .ok t' j ∧ sameT t t' = true := by
  unfold catW at h ⊢
  rw [hA.len]
  cases hc : catLoop T size (altF T size n) d (T.length + 1 - i) [] i with
  | err p e => rw [hc] at h; cases h
  | ok L J =>
    rw [hc] at h
    obtain ⟨L', h1, h2⟩ := cat_sim (size' := size') (d := d) hA hg _ i [] [] L J rfl hc
    rw [h1]
    cases L with
    | nil =>
      obtain rfl := sameL_nil h2
      simp only [catEnd] at h ⊢
      injection h with e1 e2
      subst e1
      subst e2
      exact ⟨_, rfl, by simp [emptyT, sameT, sameL, eqB_self]⟩
    | cons a L =>
      cases L' with
      | nil => simp [sameL] at h2
      | cons b L' =>
        simp only [catEnd] at h ⊢
        injection h with e1 e2
        subst e1
        subst e2
        exact ⟨_, rfl, many_same h2⟩
theorem alt_sim (hA : Alike T T') {n d : Nat} (hg : AltS T T' size size' n) : ∀ (f q : Nat) (l l' L : List Tree) (J : Nat), sameL l l' = true → altLoop T size (altF T size n) d f l q = .ok L J →
    ∃ L', altLoop T' size' (altF T' size' n) d f l' q = .ok L' J ∧ sameL L L' = true := by
  intro f
  induction f with
  | zero =>
    intro q l l' L J hl hc
    unfold altLoop at hc ⊢
    injection hc with e1 e2
    subst e1
    subst e2
    exact ⟨l', rfl, hl⟩
  | succ f ih =>
    intro q l l' L J hl hc
    unfold altLoop at hc ⊢
    rw [hA.kind]
    by_cases hk : kindAt T q = some 4
    · rw [if_pos hk] at hc ⊢
      cases hcw : catW T size (altF T size n) d (q + 1) with
      | err p e => rw [hcw] at hc; cases hc
      | ok t k =>
        rw [hcw] at hc
        obtain ⟨t', h1, h2⟩ := catW_sim (size' := size') hA hg hcw
        rw [h1]
        exact ih k (l ++ [t]) (l' ++ [t']) L J (sameL_snoc hl h2) hc
    · rw [if_neg hk] at hc ⊢
      injection hc with e1 e2
      subst e1
      subst e2
      exact ⟨l', rfl, hl⟩
theorem altF_sim (hA : Alike T T') : ∀ n, AltS T T' size size' n := by
  intro n
  induction n with
  | zero => intro d i j t h; cases h
  | succ n ih =>
    intro d i j t h
    change altW T size (altF T size n) d i = .ok t j at h
    show ∃ t', altW T' size' (altF T' size' n) d i = .ok t' j ∧ sameT t t' = true
    unfold altW at h ⊢
    cases hcw : catW T size (altF T size n) d i with
    | err p q => rw [hcw] at h; cases h
    | ok t0 k =>
      rw [hcw] at h
      obtain ⟨t0', h1, h2⟩ := catW_sim (size' := size') hA ih hcw
      rw [h1]
      simp only [] at h ⊢
      rw [hA.len]
      cases ha : altLoop T size (altF T size n) d (T.length + 1 - k) [t0] k with
      | err p q => rw [ha] at h; cases h
      | ok L J =>
        rw [ha] at h
        simp only [altEnd] at h
        injection h with e1 e2
        subst e1
        subst e2
        obtain ⟨L', h3, h4⟩ := alt_sim (size' := size') (d := d) hA ih _ k [t0] [t0'] L J (by simp [sameL, h2]) ha
        rw [h3]
        exact ⟨_, rfl, many_same h4⟩
theorem tree_sim (hA : Alike T T') {t : Tree} {j : Nat} (h : treeM T size = .ok t j) : ∃ t', treeM T' size' = .ok t' j ∧ sameT t t' = true := by
  unfold treeM at h ⊢
  rw [hA.len]
  cases ha : altF T size (T.length + 1) 0 0 with
  | err p e => rw [ha] at h; cases h
  | ok n k =>
    rw [ha] at h
    obtain ⟨t', h1, h2⟩ := altF_sim (size' := size') hA _ 0 0 k n ha
    rw [h1]
    simp only [] at h ⊢
    cases hx : T[k]? with
    | some x => rw [hx] at h; cases h
    | none =>
      rw [hx] at h
      rw [hA.none hx]
      injection h with e1 e2
      subst e1
      subst e2
      exact ⟨t', rfl, h2⟩
end
/-- A pattern that is printed, token by token, is read as the same tree. -/
theorem parse_text {s r : ByteArray} {t : Tree} {j : Nat} (h : parseM s = .ok t j) (hr : bytesN r = textN (toksT t)) : ∃ t' k, parseM r = .ok t' k ∧ sameT t t' = true := by
  unfold parseM at h ⊢
  cases hs : scanM (bytesN s) with
  | err a b => rw [hs] at h; cases h
  | ok L n =>
    rw [hs] at h
    simp only [] at h
    have hN := scan_norms hs
    obtain ⟨h1, h2⟩ := tree_unp hN h
    have hn : ∀ x ∈ toksT t, NormTok x := fun x hx => by
      rw [h1] at hx
      obtain ⟨y, hy, rfl⟩ := List.mem_map.1 hx
      exact hN y hy
    obtain ⟨T, k, h3, h4⟩ := scanM_text hn h2
    rw [hr, h3]
    simp only []
    obtain ⟨t', h5, h6⟩ := tree_sim (size' := r.size) (toksEq_alike h1 h4) h
    exact ⟨t', _, h5, h6⟩
end Go.Proofs.YtpiimcbbgalhfaaGreatDoor
