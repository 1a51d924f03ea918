/- Weights: the plain model: in how many ways one may go on. No program in sight. -/
import Derived.Test.YtpiimcbbgalhfaaGreatDoorBr
import Derived.Test.YtpiimcbbgalhfaaGreatDoorBt
import Derived.Test.YtpiimcbbgalhfaaGreatDoorBa
import Derived.Maps.RangeWalk
import Derived.Maps.OwnSet
import Derived.Maps.OwnOps
import Derived.Maps.Ext
namespace Go.Proofs.YtpiimcbbgalhfaaGreatDoor
set_option maxRecDepth 100000
/-- Positions, each with a weight; nought: it isn't among them. -/
abbrev Bag := Nat → Int
def zeroB : Bag := fun _ => 0
def oneB (p : Nat) : Bag := fun q => if q = p then 1 else 0
def addB (b more : Bag) (k : Int) : Bag := fun p => if k = 0 ∨ more p = 0 then b p else addL [b p, mulL [more p, k]]
def sumB (a b : Bag) (k : Int) : Bag := addB (addB zeroB a 1) b k
/-- What is known of a core. -/
structure Kn where
  void : Int
  first : Bag
  last : Bag
/-- Positions' sets, and what comes behind each. -/
structure Wg where
  ms : List (Nat → Bool)
  fol : List Bag
def linkL (fol : List Bag) (a b : Bag) : List Bag := fol.mapIdx fun i f => addB f b (a i)
def Wg.link (W : Wg) (a b : Bag) : Wg := ⟨W.ms, linkL W.fol a b⟩
def Wg.place (W : Wg) (m : Nat → Bool) : Wg := ⟨W.ms ++ [m], W.fol ++ [zeroB]⟩
def walkK : CT → Wg → Kn × Wg
  | .empty, W => (⟨1, zeroB, zeroB⟩, W)
  | .set m, W => (⟨0, oneB W.ms.length, oneB W.ms.length⟩, W.place m)
  | .cat x y, W =>
    let a := walkK x W
    let b := walkK y a.2
    (⟨mulL [a.1.void, b.1.void], sumB a.1.first b.1.first a.1.void, sumB b.1.last a.1.last b.1.void⟩, b.2.link a.1.last b.1.first)
  | .alt x y, W =>
    let a := walkK x W
    let b := walkK y a.2
    (⟨addL [a.1.void, b.1.void], sumB a.1.first b.1.first 1, sumB a.1.last b.1.last 1⟩, b.2)
  | .star _ x, W =>
    let a := walkK x W
    (⟨1, a.1.first, a.1.last⟩, a.2.link a.1.last a.1.first)
def BagOk (N : Nat) (b : Bag) : Prop := ∀ p, 0 ≤ b p ∧ b p ≤ mostI ∧ (b p ≠ 0 → p < N)
theorem BagOk.mono {N N' : Nat} {b : Bag} (h : BagOk N b) (hN : N ≤ N') : BagOk N' b := fun p => ⟨(h p).1, (h p).2.1, fun e => Nat.lt_of_lt_of_le ((h p).2.2 e) hN⟩
theorem bag_zero (N : Nat) : BagOk N zeroB := fun p => ⟨Int.le_refl _, by unfold zeroB mostI; omega, fun h => absurd rfl h⟩
theorem bag_one {p N : Nat} (h : p < N) : BagOk N (oneB p) := fun q => by
  unfold oneB mostI
  split
  · exact ⟨by omega, by omega, fun _ => by omega⟩
  · exact ⟨by omega, by omega, fun h => absurd rfl h⟩
theorem bag_add {N : Nat} {b more : Bag} (hb : BagOk N b) (hm : BagOk N more) (k : Int) : BagOk N (addB b more k) := fun p => by
  unfold addB
  split
  · exact hb p
  · rename_i h
    exact ⟨(addL_rng _).1, (addL_rng _).2, fun _ => (hm p).2.2 fun e => h (.inr e)⟩
theorem bag_sum {N : Nat} {a b : Bag} (ha : BagOk N a) (hb : BagOk N b) (k : Int) : BagOk N (sumB a b k) := bag_add (bag_add (bag_zero N) ha 1) hb k
theorem mul_pos {a b : Int} (ha : 0 < a) (hb : 0 < b) : 0 < mulL [a, b] := by
  unfold mulL
  rw [if_neg (by simp; omega)]
  simp only [List.foldl_cons, List.foldl_nil, satM, lstI, mostI]
  have e1 : max a 0 = a := by omega
  have e2 : max b 0 = b := by omega
  have h1 : 0 < a * b := Int.mul_pos ha hb
  rw [e1, e2, show max (1 : Int) 0 * a = a by rw [show max (1 : Int) 0 = 1 by decide, Int.one_mul]]
  by_cases h : a ≤ 9223372036854775807
  · rw [show min a 9223372036854775807 = a by omega, e1]
    omega
  · rw [show min a 9223372036854775807 = 9223372036854775807 by omega]
    have : (0 : Int) < max 9223372036854775807 0 * b := Int.mul_pos (by decide) hb
    omega
theorem add_pos {a b : Int} (ha : 0 ≤ a) (hb : 0 < b) : 0 < addL [a, b] := by
  unfold addL
  simp only [List.foldl_cons, List.foldl_nil, satA, lstI, mostI]
  omega
theorem add_ne {b more : Bag} {k : Int} {p N : Nat} (hb : BagOk N b) (hm : BagOk N more) (hk : 0 < k) (h : more p ≠ 0) : addB b more k p ≠ 0 := by
  unfold addB
  rw [if_neg (by intro e; rcases e with e | e; omega; exact h e)]
  have h1 := (hm p).1
  have := add_pos (hb p).1 (mul_pos (show 0 < more p by omega) hk)
  omega
theorem linkL_length (fol : List Bag) (a b : Bag) : (linkL fol a b).length = fol.length := by simp [linkL]
theorem link_get (fol : List Bag) (a b : Bag) (i : Nat) (f : Bag) (h : fol[i]? = some f) : (linkL fol a b)[i]? = some (addB f b (a i)) := by
  simp [linkL, List.getElem?_mapIdx, h]
theorem Wg.link_ms (W : Wg) (a b : Bag) : (W.link a b).ms = W.ms := rfl
/-- How many positions a core has. -/
def setsN8 : CT → Nat
  | .empty => 0
  | .set _ => 1
  | .cat x y => setsN8 x + setsN8 y
  | .alt x y => setsN8 x + setsN8 y
  | .star _ x => setsN8 x
theorem walk_len (c : CT) : ∀ W : Wg, (walkK c W).2.ms.length = W.ms.length + setsN8 c := by
  induction c with
  | empty => intro W; rfl
  | set m => intro W; simp [walkK, Wg.place, setsN8]
  | cat x y hx hy =>
    intro W
    simp only [walkK, setsN8, Wg.link_ms]
    rw [hy, hx]
    omega
  | alt x y hx hy =>
    intro W
    simp only [walkK, setsN8]
    rw [hy, hx]
    omega
  | star z x hx =>
    intro W
    simp only [walkK, setsN8, Wg.link_ms]
    rw [hx]
theorem walk_fol (c : CT) : ∀ W : Wg, W.fol.length = W.ms.length → (walkK c W).2.fol.length = (walkK c W).2.ms.length := by
  induction c with
  | empty => intro W h; exact h
  | set m => intro W h; simp [walkK, Wg.place, h]
  | cat x y hx hy =>
    intro W h
    simp only [walkK, Wg.link, linkL_length]
    exact hy _ (hx _ h)
  | alt x y hx hy =>
    intro W h
    simp only [walkK]
    exact hy _ (hx _ h)
  | star z x hx =>
    intro W h
    simp only [walkK, Wg.link, linkL_length]
    exact hx _ h
structure KnOk (N : Nat) (k : Kn) : Prop where
  void : 0 ≤ k.void ∧ k.void ≤ mostI
  first : BagOk N k.first
  last : BagOk N k.last
theorem KnOk.mono {N N' : Nat} {k : Kn} (h : KnOk N k) (hN : N ≤ N') : KnOk N' k := ⟨h.void, h.first.mono hN, h.last.mono hN⟩
def FolOk (W : Wg) : Prop := ∀ f ∈ W.fol, BagOk W.ms.length f
theorem fol_link {W : Wg} {a b : Bag} (h : FolOk W) (hb : BagOk W.ms.length b) : FolOk (W.link a b) := by
  intro f hf
  obtain ⟨i, hi⟩ := List.mem_iff_getElem?.1 hf
  have hlen : i < W.fol.length := by
    have := (List.getElem?_eq_some_iff.1 hi).1
    simpa [Wg.link, linkL_length] using this
  have e := link_get W.fol a b i _ (List.getElem?_eq_getElem hlen)
  have : some f = some (addB W.fol[i] b (a i)) := hi.symm.trans e
  injection this with this
  rw [this]
  exact bag_add (h _ (List.getElem_mem hlen)) hb _
theorem walk_ok (c : CT) : ∀ W : Wg, FolOk W → KnOk (walkK c W).2.ms.length (walkK c W).1 ∧ FolOk (walkK c W).2 := by
  have h01 : (0 : Int) ≤ 1 ∧ (1 : Int) ≤ mostI := by unfold mostI; omega
  induction c with
  | empty => intro W h; exact ⟨⟨h01, bag_zero _, bag_zero _⟩, h⟩
  | set m =>
    intro W h
    have hl : W.ms.length < (W.ms ++ [m]).length := by simp
    refine ⟨⟨by simp only [walkK]; unfold mostI; omega, bag_one hl, bag_one hl⟩, fun f hf => ?_⟩
    simp only [walkK, Wg.place] at hf ⊢
    rcases List.mem_append.1 hf with hf | hf
    · exact (h f hf).mono (Nat.le_of_lt hl)
    · rw [List.mem_singleton.1 hf]
      exact bag_zero _
  | cat x y hx hy =>
    intro W h
    obtain ⟨h1, h2⟩ := hx W h
    obtain ⟨h3, h4⟩ := hy _ h2
    have hle : (walkK x W).2.ms.length ≤ (walkK y (walkK x W).2).2.ms.length := by rw [walk_len y]; omega
    have h5 := h1.mono hle
    simp only [walkK, Wg.link_ms]
    exact ⟨⟨mulL_rng _, bag_sum h5.first h3.first _, bag_sum h3.last h5.last _⟩, fol_link h4 h3.first⟩
  | alt x y hx hy =>
    intro W h
    obtain ⟨h1, h2⟩ := hx W h
    obtain ⟨h3, h4⟩ := hy _ h2
    have hle : (walkK x W).2.ms.length ≤ (walkK y (walkK x W).2).2.ms.length := by rw [walk_len y]; omega
    have h5 := h1.mono hle
    simp only [walkK]
    exact ⟨⟨addL_rng _, bag_sum h5.first h3.first _, bag_sum h5.last h3.last _⟩, h4⟩
  | star z x hx =>
    intro W h
    obtain ⟨h1, h2⟩ := hx W h
    simp only [walkK, Wg.link_ms]
    exact ⟨⟨h01, h1.first, h1.last⟩, fol_link h2 h1.first⟩
end Go.Proofs.YtpiimcbbgalhfaaGreatDoor
/- Weights: a bag, as it lies in memory: a map. -/
namespace Go.Proofs.YtpiimcbbgalhfaaGreatDoor
set_option maxRecDepth 100000
open Go.RowKit Go.Maps
theorem kint : Keyed Tryz.prog 3 := int_keyed Tryz.underlying3
theorem zero_int (w : World) : (zeroValue 3).run Tryz.prog w = .ok (.int .i64 0) w := by kernel_rfl
abbrev MapAt (w : World) (b n : Nat) (D : DataW Unit) : Prop := w.ownsMap Tryz.prog 3 (plainElem Tryz.prog 3) b n D
abbrev keyI (p : Nat) : Lit := .int .i64 ((p : Nat) : Int)
abbrev valI (n : Int) : DataW Unit := .lit (.int .i64 n)
theorem keyI_inj {p q : Nat} (h : keyI p = keyI q) : p = q := by
  injection h with _ h
  omega
theorem wf_i64 {n : Int} (h : -9223372036854775808 ≤ n ∧ n ≤ 9223372036854775807) : (Lit.int .i64 n).wf = true := by
  simp only [Lit.wf, IntKind.min, IntKind.max, IntKind.signed, IntKind.bits]
  simp
  omega
theorem key_of {p : Nat} (h : p ≤ 1000000) : keyOf Tryz.prog 3 (.int .i64 ((p : Nat) : Int)) = some (keyI p) := keyOf_int_mk Tryz.underlying3 (wf_i64 (by omega))
/-- What a map's datum says of a bag. -/
structure BagD (D : DataW Unit) (N : Nat) (β : Bag) : Prop where
  key : ∀ kl, Maps.has D kl = true → ∃ p : Nat, kl = keyI p ∧ β p ≠ 0
  has : ∀ p, β p ≠ 0 → Maps.has D (keyI p) = true
  val : ∀ p, D.atKey (keyI p) (valI 0) = valI (β p)
  ok : BagOk N β
theorem nodup_le : ∀ (N : Nat) (l : List Nat), l.Nodup → (∀ x ∈ l, x < N) → l.length ≤ N := by
  intro N
  induction N with
  | zero =>
    intro l _ h
    cases l with
    | nil => exact Nat.le_refl _
    | cons a l => exact absurd (h a (by simp)) (by omega)
  | succ N ih =>
    intro l hn h
    have h1 := ih (l.filter fun x => decide (x ≠ N)) (hn.filter _) (fun x hx => by
      rw [List.mem_filter] at hx
      have := h x hx.1
      have := of_decide_eq_true hx.2
      omega)
    have key : ∀ l : List Nat, l.Nodup → l.length ≤ (l.filter fun x => decide (x ≠ N)).length + 1 := by
      intro l
      induction l with
      | nil => intro _; simp
      | cons a l ihl =>
        intro hn
        rw [List.nodup_cons] at hn
        by_cases e : a = N
        · subst e
          have e2 : (l.filter fun x => decide (x ≠ a)) = l := List.filter_eq_self.2 fun x hx => decide_eq_true (fun e => hn.1 (e ▸ hx))
          rw [List.filter_cons_of_neg (by simp), e2, List.length_cons]
          exact Nat.le_refl _
        · rw [List.filter_cons_of_pos (by simpa using e), List.length_cons, List.length_cons]
          have := ihl hn.2
          omega
    have := key l hn
    omega
theorem bag_size {w : World} {b n : Nat} {D : DataW Unit} {N : Nat} {β : Bag} (hm : MapAt w b n D) (h : BagD D N β) : Maps.size D ≤ N := by
  obtain ⟨es, rfl, hp, hkl⟩ := hm.entries kint
  rw [size_eq]
  have hk : ∀ p ∈ es, ∃ q : Nat, p.1 = keyI q ∧ q < N := fun p hpm => by
    obtain ⟨q, h1, h2⟩ := h.key p.1 (by
      rw [has_eq, List.any_eq_true]
      exact ⟨p, hpm, WideAt.sameKey_self (hkl p hpm)⟩)
    exact ⟨q, h1, (h.ok q).2.2 h2⟩
  have hnum : ∀ l : List (Lit × DataW Unit), (∀ p ∈ l, ∃ q : Nat, p.1 = keyI q ∧ q < N) → l.Pairwise (fun p q => p.1 ≠ q.1) → ∃ L : List Nat, L.length = l.length ∧ L.Nodup ∧ (∀ x ∈ L, x < N) ∧ ∀ x ∈ L, ∃ p ∈ l, p.1 = keyI x := by
    intro l
    induction l with
    | nil => intro _ _; exact ⟨[], rfl, List.nodup_nil, (fun x hx => nomatch hx), fun x hx => nomatch hx⟩
    | cons p l ih =>
      intro h1 h2
      rw [List.pairwise_cons] at h2
      obtain ⟨L, e1, e2, e3, e4⟩ := ih (fun q hq => h1 q (List.mem_cons_of_mem _ hq)) h2.2
      obtain ⟨q, hq, hqN⟩ := h1 p (List.mem_cons_self ..)
      refine ⟨q :: L, by rw [List.length_cons, List.length_cons, e1], List.nodup_cons.2 ⟨fun hm => ?_, e2⟩, fun x hx => ?_, fun x hx => ?_⟩
      · obtain ⟨r, hr, hr2⟩ := e4 q hm
        exact h2.1 r hr (hq.trans hr2.symm)
      · rcases List.mem_cons.1 hx with rfl | hx
        · exact hqN
        · exact e3 x hx
      · rcases List.mem_cons.1 hx with rfl | hx
        · exact ⟨p, List.mem_cons_self .., hq⟩
        · obtain ⟨r, hr, hr2⟩ := e4 x hx
          exact ⟨r, List.mem_cons_of_mem _ hr, hr2⟩
  obtain ⟨L, e1, e2, e3, -⟩ := hnum es hk hp
  rw [← e1]
  exact nodup_le N L e2 e3
/-- The least bound on a map's entries is how many there are. -/
theorem map_tight {w : World} {b n N : Nat} {D : DataW Unit} {β : Bag} (h : MapAt w b n D) (hD : BagD D N β) : MapAt w b N D := by
  have hs := bag_size h hD
  obtain ⟨es, clock, hb, F, hn, rfl⟩ := h
  rw [size_eq, length_read] at hs
  exact ⟨es, clock, hb, F, hs, rfl⟩
/-- Block b is a map that reads as the bag. -/
def BagAt (w : World) (N b : Nat) (β : Bag) : Prop := ∃ D, MapAt w b N D ∧ BagD D N β
theorem BagAt.heap {w w' : World} {N b : Nat} {β : Bag} (h : BagAt w N b β) (hw : w'.heap[b]? = w.heap[b]?) : BagAt w' N b β := by
  obtain ⟨D, ⟨es, clock, hb, r⟩, hD⟩ := h
  exact ⟨D, ⟨es, clock, hw.trans hb, r⟩, hD⟩
theorem BagAt.lt {w : World} {N b : Nat} {β : Bag} (h : BagAt w N b β) : b < w.heap.size := by
  obtain ⟨D, h, -⟩ := h
  exact h.lt
theorem BagAt.kept {w w' : World} {N b : Nat} {β : Bag} {row : Option Nat} (h : BagAt w N b β) (hg : w.grownBy w' row) (hne : some b ≠ row) : BagAt w' N b β := h.heap (hg.block b h.lt hne)
theorem BagAt.under {w w' : World} {N b : Nat} {β : Bag} (h : BagAt w N b β) (hb : Below w.heap.size w w') : BagAt w' N b β := h.heap (hb.block b h.lt)
theorem BagAt.le {w : World} {N N' b : Nat} {β : Bag} (h : BagAt w N b β) (hN : N ≤ N') : BagAt w N' b β := by
  obtain ⟨D, h1, h2⟩ := h
  exact ⟨D, h1.mono hN, h2.key, h2.has, h2.val, h2.ok.mono hN⟩
theorem BagAt.ok {w : World} {N b : Nat} {β : Bag} (h : BagAt w N b β) : BagOk N β := by
  obtain ⟨D, -, h⟩ := h
  exact h.ok
theorem BagAt.eq {w : World} {N b : Nat} {β γ : Bag} (h : BagAt w N b β) (he : ∀ p, β p = γ p) : BagAt w N b γ := by
  rw [show γ = β from funext fun p => (he p).symm]
  exact h
theorem bag_new (w : World) (N : Nat) : BagAt (w.alloc (.map #[] 0)) N w.heap.size zeroB :=
  ⟨.map [], (World.ownsMap_made w Tryz.prog 3 (plainElem Tryz.prog 3)).mono (Nat.zero_le _), { key := fun kl h => (nomatch h), has := fun p h => absurd rfl h, val := fun p => rfl, ok := bag_zero N }⟩
theorem bagD_put {D : DataW Unit} {N : Nat} {β : Bag} (hM : IsMap D) (h : BagD D N β) {p : Nat} (hp : p < N) {v : Int} (hv : 0 < v ∧ v ≤ mostI) : BagD (D.put (keyI p) (valI v)) N (fun q => if q = p then v else β q) := by
  have hk : WideAt.IsKeyLit (keyI p) := trivial
  refine ⟨fun kl hh => ?_, fun q hq => ?_, fun q => ?_, fun q => ?_⟩
  · by_cases e : kl = keyI p
    · exact ⟨p, e, by rw [if_pos rfl]; omega⟩
    · rw [has_put_other e] at hh
      obtain ⟨q, h1, h2⟩ := h.key kl hh
      have : q ≠ p := by rintro rfl; exact e h1
      exact ⟨q, h1, by rw [if_neg this]; exact h2⟩
  · by_cases e : q = p
    · subst e
      exact has_put_same hM hk _
    · rw [if_neg e] at hq
      rw [has_put_other (fun e' => e (keyI_inj e'))]
      exact h.has q hq
  · by_cases e : q = p
    · subst e
      rw [if_pos rfl]
      exact atKey_put_same hM hk _ _
    · rw [if_neg e, atKey_put_other (fun e' => e (keyI_inj e'))]
      exact h.val q
  · split
    · exact ⟨by omega, hv.2, fun _ => by omega⟩
    · exact h.ok q
end Go.Proofs.YtpiimcbbgalhfaaGreatDoor
