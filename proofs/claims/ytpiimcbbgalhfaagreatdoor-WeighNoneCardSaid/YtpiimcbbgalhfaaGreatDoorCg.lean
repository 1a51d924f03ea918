/- Ways: the plain model of the finder of ways. No program in sight. -/
import Derived.Test.YtpiimcbbgalhfaaGreatDoorBr
import Derived.WalkSmall
import Derived.Test.YtpiimcbbgalhfaaGreatDoorBs
import Derived.Test.YtpiimcbbgalhfaaGreatDoorBb
import Derived.Deep.RegionHeld3
import Derived.Deep.Cut
import Derived.Deep.RegionLaw
import Derived.Deep.DeepCutAuto
import Derived.Outline
namespace Go.Proofs.YtpiimcbbgalhfaaGreatDoor
set_option maxRecDepth 100000
/-- What is still to do: a node, and the number of its first position; or to go on with a star, if something was read since a place. -/
inductive It where
  | fresh (c : CT) (first : Nat)
  | loop (z : Bool) (a : CT) (first since : Nat)
def It.c : It → CT
  | .fresh c _ => c
  | .loop z a _ _ => .star z a
def It.first : It → Nat
  | .fresh _ f => f
  | .loop _ _ f _ => f
def It.again : It → Bool
  | .fresh _ _ => false
  | .loop _ _ _ _ => true
def It.since : It → Nat
  | .fresh _ _ => 0
  | .loop _ _ _ s => s
structure Pt where
  pos : Nat
  read : List Nat
  todo : List It
def placesC : CT → Nat
  | .empty => 0
  | .set _ => 1
  | .cat a b => placesC a + placesC b
  | .alt a b => placesC a + placesC b
  | .star _ a => placesC a
structure Fd where
  l : List (List Nat)
  hits : Nat
  stopped : Bool
  back : List Pt
def Fd.push (F : Fd) (l : List Pt) : Fd := { F with back := F.back ++ l }
def starP (z : Bool) (a : CT) (f pos : Nat) (read : List Nat) (rest : List It) : List Pt :=
  if z then [⟨pos, read, .fresh a f :: .loop z a f pos :: rest⟩, ⟨pos, read, rest⟩] else [⟨pos, read, rest⟩, ⟨pos, read, .fresh a f :: .loop z a f pos :: rest⟩]
def hitF (s : List UInt8) (limit : Nat) (m : Nat → Bool) (f pos : Nat) (read : List Nat) (rest : List It) (F : Fd) : Fd :=
  match s[pos]? with
  | none => F
  | some b => if m b.toNat then (if limit ≤ F.hits then { F with stopped := true } else { F with hits := F.hits + 1, back := F.back ++ [⟨pos + 1, f :: read, rest⟩] }) else F
def foundF (most : Nat) (read : List Nat) (F : Fd) : Fd := if F.l.length = most then { F with stopped := true } else { F with l := F.l ++ [read.reverse] }
def stepF (s : List UInt8) (most limit : Nat) (p : Pt) (F : Fd) : Fd :=
  match p.todo with
  | [] => if p.pos = s.length then foundF most p.read F else F
  | .loop z a f since :: rest => if since < p.pos then F.push (starP z a f p.pos p.read rest) else F
  | .fresh .empty _ :: rest => F.push [⟨p.pos, p.read, rest⟩]
  | .fresh (.set m) f :: rest => hitF s limit m f p.pos p.read rest F
  | .fresh (.cat a b) f :: rest => F.push [⟨p.pos, p.read, .fresh a f :: .fresh b (f + placesC a) :: rest⟩]
  | .fresh (.alt a b) f :: rest => F.push [⟨p.pos, p.read, .fresh b (f + placesC a) :: rest⟩, ⟨p.pos, p.read, .fresh a f :: rest⟩]
  | .fresh (.star z a) f :: rest => F.push (starP z a f p.pos p.read rest)
/-- So many rounds. -/
def runF (s : List UInt8) (most limit : Nat) : Nat → Fd → Option Fd
  | 0, F => if F.stopped = true ∨ F.back = [] then some F else none
  | k + 1, F => if F.stopped = true then some F else match F.back.getLast? with
    | none => some F
    | some p => runF s most limit k (stepF s most limit p { F with back := F.back.dropLast })
theorem runF_stop {s : List UInt8} {most limit k : Nat} {F R : Fd} (h : runF s most limit k F = some R) (hs : F.stopped = true ∨ F.back = []) : R = F := by
  cases k with
  | zero =>
    unfold runF at h
    rw [if_pos hs] at h
    injection h with h
    exact h.symm
  | succ k =>
    unfold runF at h
    rcases hs with hs | hs
    · rw [if_pos hs] at h
      injection h with h
      exact h.symm
    · by_cases h2 : F.stopped = true
      · rw [if_pos h2] at h
        injection h with h
        exact h.symm
      · rw [if_neg h2, hs] at h
        injection h with h
        exact h.symm
theorem runF_go {s : List UInt8} {most limit k : Nat} {F R : Fd} {bs : List Pt} {p : Pt} (h : runF s most limit k F = some R) (hs : F.stopped = false) (hb : F.back = bs ++ [p]) :
    ∃ j, k = j + 1 ∧ runF s most limit j (stepF s most limit p { F with back := bs }) = some R := by
  cases k with
  | zero =>
    unfold runF at h
    rw [if_neg (by rw [hs, hb]; simp)] at h
    cases h
  | succ j =>
    refine ⟨j, rfl, ?_⟩
    unfold runF at h
    rw [if_neg (by rw [hs]; decide), hb] at h
    simpa using h
/-- All numbers of positions stay small. -/
def It.small (B : Nat) (x : It) : Prop := x.first + placesC x.c ≤ B
def Pt.small (B n : Nat) (p : Pt) : Prop := p.pos ≤ n ∧ (∀ x ∈ p.todo, x.small B ∧ x.since ≤ n) ∧ p.read.length ≤ p.pos ∧ ∀ q ∈ p.read, q ≤ B
/-- Of what holds of some number there is a least one. -/
theorem exists_left : ∃ left : (Nat → Prop) → Nat, ∀ P, (∃ k, P k) → P (left P) ∧ ∀ j, P j → left P ≤ j := by
  have h : ∀ P : Nat → Prop, ∃ n : Nat, (∃ k, P k) → P n ∧ ∀ j, P j → n ≤ j := by
    intro P
    by_cases he : ∃ k, P k
    · obtain ⟨k, hk⟩ := he
      induction k using Nat.strongRecOn with
      | _ k ih =>
        by_cases hl : ∃ j, j < k ∧ P j
        · obtain ⟨j, hj, hP⟩ := hl
          exact ih j hj hP
        · exact ⟨k, fun _ => ⟨hk, fun j hj => Nat.le_of_not_lt fun hlt => hl ⟨j, hlt, hj⟩⟩⟩
    · exact ⟨0, fun h => absurd h he⟩
  exact ⟨fun P => Classical.choose (h P), fun P => Classical.choose_spec (h P)⟩
end Go.Proofs.YtpiimcbbgalhfaaGreatDoor
/- Ways: what is still to do, what was read, points, as they lie in memory. -/
namespace Go.Proofs.YtpiimcbbgalhfaaGreatDoor
set_option maxRecDepth 100000
open Go.RowKit
/-- S is a set of blocks that stay: each step keeps them, and goes on in a set that has them. -/
def Keep (w : World) (S : Nat → Prop) (w' : World) (S' : Nat → Prop) : Prop := w.heap.size ≤ w'.heap.size ∧ ∀ k, S k → k < w.heap.size → w'.heap[k]? = w.heap[k]? ∧ S' k
theorem Keep.refl (w : World) (S : Nat → Prop) : Keep w S w S := ⟨Nat.le_refl _, fun _ h _ => ⟨rfl, h⟩⟩
theorem Keep.trans {w w1 w2 : World} {S S1 S2 : Nat → Prop} (h : Keep w S w1 S1) (h' : Keep w1 S1 w2 S2) : Keep w S w2 S2 :=
  ⟨Nat.le_trans h.1 h'.1, fun k hk hl => by
    obtain ⟨a, b⟩ := h.2 k hk hl
    obtain ⟨c, d⟩ := h'.2 k b (Nat.lt_of_lt_of_le hl h.1)
    exact ⟨c.trans a, d⟩⟩
theorem Keep.below {w w' : World} {S : Nat → Prop} (h : Below w.heap.size w w') : Keep w S w' S := ⟨h.size, fun k hk hl => ⟨h.block k hl, hk⟩⟩
theorem CoreAt.keep {w w' : World} {S S' : Nat → Prop} {c : CT} {b : Nat} (h : CoreAt w S c b) (hk : Keep w S w' S') : CoreAt w' S' c b := h.turn (fun k a b => (hk.2 k a b).1) (fun k a b => (hk.2 k a b).2)
/-- What is still to do, in nodes of type t. -/
def TodoAt (t : TypeId) (w : World) (S : Nat → Prop) : List It → Value → Prop
  | [], v => v = .pointer none
  | x :: l, v => ∃ b g u, v = cptr b ∧ S b ∧ Blk w b t [cptr g, .int .i64 ((x.first : Nat) : Int), .bool x.again, .int .i64 ((x.since : Nat) : Int), u] ∧ CoreAt w S x.c g ∧ TodoAt t w S l u
theorem TodoAt.keep {t : TypeId} {w w' : World} {S S' : Nat → Prop} (hk : Keep w S w' S') : ∀ {l : List It} {v : Value}, TodoAt t w S l v → TodoAt t w' S' l v
  | [], _, h => h
  | _ :: _, _, ⟨b, g, u, e, hS, hb, hc, hl⟩ => ⟨b, g, u, e, (hk.2 b hS hb.lt).2, ((hk.2 b hS hb.lt).1).trans hb, hc.keep hk, hl.keep hk⟩
theorem TodoAt.form {t : TypeId} {w : World} {S : Nat → Prop} {l : List It} {v : Value} (h : TodoAt t w S l v) : ∃ o, v = .pointer o ∧ (l = [] ↔ o = none) := by
  cases l with
  | nil => exact ⟨none, h, by simp⟩
  | cons x l => obtain ⟨b, g, u, e, _⟩ := h; exact ⟨_, e, by simp⟩
/-- What was read, the last one first, in nodes of type t. -/
def ReadAt (t : TypeId) (w : World) (S : Nat → Prop) : List Nat → Value → Prop
  | [], v => v = .pointer none
  | p :: l, v => ∃ b u, v = cptr b ∧ S b ∧ Blk w b t [.int .i64 ((p : Nat) : Int), u] ∧ ReadAt t w S l u
theorem ReadAt.keep {t : TypeId} {w w' : World} {S S' : Nat → Prop} (hk : Keep w S w' S') : ∀ {l : List Nat} {v : Value}, ReadAt t w S l v → ReadAt t w' S' l v
  | [], _, h => h
  | _ :: _, _, ⟨b, u, e, hS, hb, hl⟩ => ⟨b, u, e, (hk.2 b hS hb.lt).2, ((hk.2 b hS hb.lt).1).trans hb, hl.keep hk⟩
theorem ReadAt.form {t : TypeId} {w : World} {S : Nat → Prop} {l : List Nat} {v : Value} (h : ReadAt t w S l v) : ∃ o, v = .pointer o ∧ (l = [] ↔ o = none) := by
  cases l with
  | nil => exact ⟨none, h, by simp⟩
  | cons x l => obtain ⟨b, u, e, _⟩ := h; exact ⟨_, e, by simp⟩
/-- A row's cells are those of points: where, what was read, what is still to do. -/
def PtsAt (t r : TypeId) (w : World) (S : Nat → Prop) : List Pt → List Value → Prop
  | [], cs => cs = []
  | p :: l, cs => ∃ u v cr, cs = .int .i64 ((p.pos : Nat) : Int) :: u :: v :: cr ∧ ReadAt r w S p.read u ∧ TodoAt t w S p.todo v ∧ PtsAt t r w S l cr
theorem PtsAt.keep {t r : TypeId} {w w' : World} {S S' : Nat → Prop} (hk : Keep w S w' S') : ∀ {l : List Pt} {cs : List Value}, PtsAt t r w S l cs → PtsAt t r w' S' l cs
  | [], _, h => h
  | _ :: _, _, ⟨u, v, cr, e, h1, h2, h3⟩ => ⟨u, v, cr, e, h1.keep hk, h2.keep hk, h3.keep hk⟩
theorem PtsAt.length {t r : TypeId} {w : World} {S : Nat → Prop} : ∀ {l : List Pt} {cs : List Value}, PtsAt t r w S l cs → cs.length = l.length * 3
  | [], cs, h => by rw [show cs = [] from h]; rfl
  | p :: l, cs, ⟨u, v, cr, e, h1, h2, h3⟩ => by
    have := h3.length
    rw [e]
    simp only [List.length_cons, this]
    omega
theorem PtsAt.snoc {t r : TypeId} {w : World} {S : Nat → Prop} {p : Pt} {u v : Value} (hu : ReadAt r w S p.read u) (hv : TodoAt t w S p.todo v) : ∀ {l : List Pt} {cs : List Value}, PtsAt t r w S l cs → PtsAt t r w S (l ++ [p]) (cs ++ [.int .i64 ((p.pos : Nat) : Int), u, v])
  | [], cs, h => by rw [show cs = [] from h]; exact ⟨u, v, [], rfl, hu, hv, rfl⟩
  | q :: l, cs, ⟨a, b, cr, e, h1, h2, h3⟩ => by
    rw [e]
    exact ⟨a, b, cr ++ [.int .i64 ((p.pos : Nat) : Int), u, v], rfl, h1, h2, PtsAt.snoc hu hv h3⟩
theorem PtsAt.last {t r : TypeId} {w : World} {S : Nat → Prop} {p : Pt} : ∀ {l : List Pt} {cs : List Value}, PtsAt t r w S (l ++ [p]) cs → ∃ u v cr, cs = cr ++ [.int .i64 ((p.pos : Nat) : Int), u, v] ∧ PtsAt t r w S l cr ∧ ReadAt r w S p.read u ∧ TodoAt t w S p.todo v
  | [], cs, ⟨u, v, cr, e, h1, h2, h3⟩ => ⟨u, v, [], by rw [e, show cr = [] from h3]; rfl, rfl, h1, h2⟩
  | q :: l, cs, ⟨a, b, cr, e, h1, h2, h3⟩ => by
    obtain ⟨u, v, c2, e2, g1, g2, g3⟩ := PtsAt.last (l := l) h3
    exact ⟨u, v, .int .i64 ((q.pos : Nat) : Int) :: a :: b :: c2, by rw [e, e2]; rfl, ⟨a, b, c2, rfl, h1, h2, g1⟩, g2, g3⟩
/-- A way: a row of its own, of numbers. -/
def WayAt (w : World) (S : Nat → Prop) (v : Value) (l : List Nat) : Prop := w.ownsRow 0 3 1 v l.length (l.map fun p => .int .i64 ((p : Nat) : Int)) ∧ ∀ g, v.ownBlock = some g → S g
theorem WayAt.keep {w w' : World} {S S' : Nat → Prop} {v : Value} {l : List Nat} (h : WayAt w S v l) (hk : Keep w S w' S') : WayAt w' S' v l := by
  obtain ⟨⟨h1, h2⟩, h3⟩ := h
  rcases h2 with h2 | ⟨g, cap, cur, rfl, hb, hg, h4⟩
  · obtain ⟨rfl, hn⟩ := h2
    exact ⟨⟨h1, .inl ⟨rfl, hn⟩⟩, fun g e => by cases e⟩
  · have hlt : g < w.heap.size := (Array.getElem?_eq_some_iff.1 hg).1
    obtain ⟨a, b⟩ := hk.2 g (h3 g rfl) hlt
    refine ⟨⟨h1, .inr ⟨g, cap, cur, rfl, hb, a.trans hg, h4⟩⟩, fun k e => ?_⟩
    have : g = k := by injection e
    rw [← this]
    exact b
def WaysAt (w : World) (S : Nat → Prop) : List (List Nat) → List Value → Prop
  | [], vs => vs = []
  | l :: ls, vs => ∃ v vr, vs = v :: vr ∧ WayAt w S v l ∧ WaysAt w S ls vr
theorem WaysAt.keep {w w' : World} {S S' : Nat → Prop} (hk : Keep w S w' S') : ∀ {l : List (List Nat)} {vs : List Value}, WaysAt w S l vs → WaysAt w' S' l vs
  | [], _, h => h
  | _ :: _, _, ⟨v, vr, e, h1, h2⟩ => ⟨v, vr, e, h1.keep hk, h2.keep hk⟩
theorem WaysAt.snoc {w : World} {S : Nat → Prop} {x : List Nat} {v : Value} (hv : WayAt w S v x) : ∀ {l : List (List Nat)} {vs : List Value}, WaysAt w S l vs → WaysAt w S (l ++ [x]) (vs ++ [v])
  | [], vs, h => by rw [show vs = [] from h]; exact ⟨v, [], rfl, hv, rfl⟩
  | q :: l, vs, ⟨a, vr, e, h1, h2⟩ => by
    rw [e]
    exact ⟨a, vr ++ [v], rfl, h1, WaysAt.snoc hv h2⟩
theorem WaysAt.length {w : World} {S : Nat → Prop} : ∀ {l : List (List Nat)} {vs : List Value}, WaysAt w S l vs → vs.length = l.length
  | [], vs, h => by rw [show vs = [] from h]; rfl
  | l :: ls, vs, ⟨v, vr, e, h1, h2⟩ => by rw [e, List.length_cons, List.length_cons, h2.length]
theorem WaysAt.get {w : World} {S : Nat → Prop} : ∀ (l : List (List Nat)) (vs : List Value) (k : Nat) (x : List Nat), WaysAt w S l vs → l[k]? = some x → ∃ v, vs[k]? = some v ∧ WayAt w S v x
  | [], _, _, _, _, hk => by cases hk
  | l :: ls, vs, 0, x, ⟨v, vr, e, h1, h2⟩, hk => by
    subst e
    simp only [List.getElem?_cons_zero, Option.some.injEq] at hk
    subst hk
    exact ⟨v, rfl, h1⟩
  | l :: ls, vs, k + 1, x, ⟨v, vr, e, h1, h2⟩, hk => by
    subst e
    simp only [List.getElem?_cons_succ] at hk
    exact WaysAt.get ls vr k x h2 hk
/-- The blocks that stay: all but the finder's own three. -/
def SX (fb : Nat) (lv bv : Value) : Nat → Prop := fun k => k ≠ fb ∧ lv.ownBlock ≠ some k ∧ bv.ownBlock ≠ some k
abbrev findL (lv bv : Value) (whole : Bool) (s : ByteArray) (most limit hits : Nat) (stopped : Bool) : List Value :=
  [lv, .bool whole, .string s, .int .i64 ((most : Nat) : Int), .int .i64 ((limit : Nat) : Int), .int .i64 ((hits : Nat) : Int), .bool stopped, bv]
/-- The finder at block fb, as it lies. -/
structure FinAt (w0 w : World) (fb : Nat) (s : ByteArray) (most limit : Nat) (F : Fd) (lv bv : Value) (vs cs : List Value) : Prop where
  low : w0.heap.size ≤ fb
  below : Below w0.heap.size w0 w
  blk : Blk w fb 155 (findL lv bv false s most limit F.hits F.stopped)
  ways : w.ownsRow (fb + 1) 52 1 lv F.l.length vs
  each : WaysAt w (SX fb lv bv) F.l vs
  back : w.ownsRow (fb + 1) 160 3 bv F.back.length cs
  pts : PtsAt 164 284 w (SX fb lv bv) F.back cs
  apart : Apart lv bv
theorem FinAt.under {w0 w w' : World} {fb : Nat} {s : ByteArray} {most limit : Nat} {F : Fd} {lv bv : Value} {vs cs : List Value} (h : FinAt w0 w fb s most limit F lv bv vs cs) (hb : Below w.heap.size w w') : FinAt w0 w' fb s most limit F lv bv vs cs :=
  ⟨h.low, h.below.trans (hb.mono h.below.size), h.blk.below hb h.blk.lt, own_below h.ways hb, h.each.keep (Keep.below hb), own_below h.back hb, h.pts.keep (Keep.below hb), h.apart⟩
end Go.Proofs.YtpiimcbbgalhfaaGreatDoor
/- Ways: what becomes of the finder, as it lies, when a row grows, or a number of its own turns. No program's walk in sight. -/
namespace Go.Proofs.YtpiimcbbgalhfaaGreatDoor
set_option maxRecDepth 100000
open Go.RowKit
section
variable {w0 w : World} {fb : Nat} {s : ByteArray} {most limit : Nat} {F : Fd} {lv bv : Value} {vs cs : List Value}
theorem FinAt.pushed (h : FinAt w0 w fb s most limit F lv bv vs cs) {W w' : World} {g cap : Nat} {p : Pt} {u v : Value} (hW : Below w.heap.size w W) (hu : ReadAt 284 w (SX fb lv bv) p.read u) (hv : TodoAt 164 w (SX fb lv bv) p.todo v)
    (hown : w'.ownsRow (fb + 1) 160 3 (.slice (some ⟨g, 0, none⟩) (F.back.length + 1) cap) (F.back.length + 1) (cs ++ [.int .i64 ((p.pos : Nat) : Int), u, v])) (hm : Moved W w' bv g) :
    FinAt w0 (w'.setCell ⟨fb, 7, none⟩ (.slice (some ⟨g, 0, none⟩) (F.back.length + 1) cap)) fb s most limit (F.push [p]) lv (.slice (some ⟨g, 0, none⟩) (F.back.length + 1) cap) vs (cs ++ [.int .i64 ((p.pos : Nat) : Int), u, v]) ∧
    Keep w (SX fb lv bv) (w'.setCell ⟨fb, 7, none⟩ (.slice (some ⟨g, 0, none⟩) (F.back.length + 1) cap)) (SX fb lv (.slice (some ⟨g, 0, none⟩) (F.back.length + 1) cap)) := by
  have hsz := hW.size
  have hsz2 := hm.size
  have hwW := own_below h.ways hW
  have hbW := own_below h.back hW
  have hfl := h.blk.lt
  have hbk := hm.blk (h.blk.below hW hfl) hbW (Nat.lt_succ_self fb)
  have hkeep : Keep w (SX fb lv bv) (w'.setCell ⟨fb, 7, none⟩ (.slice (some ⟨g, 0, none⟩) (F.back.length + 1) cap)) (SX fb lv (.slice (some ⟨g, 0, none⟩) (F.back.length + 1) cap)) := by
    refine ⟨by simp only [World.setCell, Array.size_modify]; omega, fun k hk hl => ⟨?_, hk.1, hk.2.1, fun e => ?_⟩⟩
    · rw [Below.heap_setCell w' ⟨fb, 7, none⟩ _ k hk.1, hm.keep k (by omega) hk.2.2, hW.block k hl]
    · have hgk : g = k := by injection e
      subst hgk
      rcases hm.lies with h1 | h1
      · exact hk.2.2 h1
      · omega
  refine ⟨⟨h.low, ?_, hbk.set 7 _, ownsRow_setCell_below (hm.own hwW h.apart) (Nat.lt_succ_self fb) _, h.each.keep hkeep, ?_, (h.pts.keep hkeep).snoc (hu.keep hkeep) (hv.keep hkeep), hm.apart hwW h.apart _ _⟩, hkeep⟩
  · exact (hm.below (h.below.trans (hW.mono h.below.size)) (Nat.le_trans h.below.size hsz) (fun k hk => by have := (hbW.lt k hk).1; have := h.low; omega)).setCell (p := ⟨fb, 7, none⟩) h.low _
  · have := ownsRow_setCell_below hown (a := ⟨fb, 7, none⟩) (Nat.lt_succ_self fb) (.slice (some ⟨g, 0, none⟩) (F.back.length + 1) cap)
    simpa [Fd.push] using this
theorem FinAt.kept (h : FinAt w0 w fb s most limit F lv bv vs cs) {W w' : World} {g cap : Nat} {x : List Nat} {v : Value} (hW : Below w.heap.size w W) (hv : WayAt W (SX fb lv bv) v x)
    (hown : w'.ownsRow (fb + 1) 52 1 (.slice (some ⟨g, 0, none⟩) (F.l.length + 1) cap) (F.l.length + 1) (vs ++ [v])) (hm : Moved W w' lv g) :
    FinAt w0 (w'.setCell ⟨fb, 0, none⟩ (.slice (some ⟨g, 0, none⟩) (F.l.length + 1) cap)) fb s most limit { F with l := F.l ++ [x] } (.slice (some ⟨g, 0, none⟩) (F.l.length + 1) cap) bv (vs ++ [v]) cs ∧
    Keep w (SX fb lv bv) (w'.setCell ⟨fb, 0, none⟩ (.slice (some ⟨g, 0, none⟩) (F.l.length + 1) cap)) (SX fb (.slice (some ⟨g, 0, none⟩) (F.l.length + 1) cap) bv) := by
  have hsz := hW.size
  have hsz2 := hm.size
  have hwW := own_below h.ways hW
  have hbW := own_below h.back hW
  have hfl := h.blk.lt
  have hbk := hm.blk (h.blk.below hW hfl) hwW (Nat.lt_succ_self fb)
  have hkeepW : Keep W (SX fb lv bv) (w'.setCell ⟨fb, 0, none⟩ (.slice (some ⟨g, 0, none⟩) (F.l.length + 1) cap)) (SX fb (.slice (some ⟨g, 0, none⟩) (F.l.length + 1) cap) bv) := by
    refine ⟨by simp only [World.setCell, Array.size_modify]; omega, fun k hk hl => ⟨?_, hk.1, fun e => ?_, hk.2.2⟩⟩
    · rw [Below.heap_setCell w' ⟨fb, 0, none⟩ _ k hk.1, hm.keep k hl hk.2.1]
    · have hgk : g = k := by injection e
      subst hgk
      rcases hm.lies with h1 | h1
      · exact hk.2.1 h1
      · omega
  have hkeep := (Keep.below (S := SX fb lv bv) hW).trans hkeepW
  refine ⟨⟨h.low, ?_, hbk.set 0 _, ?_, (h.each.keep hkeep).snoc (hv.keep hkeepW), ownsRow_setCell_below (hm.own hbW h.apart.symm) (Nat.lt_succ_self fb) _, h.pts.keep hkeep, (hm.apart hbW h.apart.symm _ _).symm⟩, hkeep⟩
  · exact (hm.below (h.below.trans (hW.mono h.below.size)) (Nat.le_trans h.below.size hsz) (fun k hk => by have := (hwW.lt k hk).1; have := h.low; omega)).setCell (p := ⟨fb, 0, none⟩) h.low _
  · have := ownsRow_setCell_below hown (a := ⟨fb, 0, none⟩) (Nat.lt_succ_self fb) (.slice (some ⟨g, 0, none⟩) (F.l.length + 1) cap)
    simpa using this
/-- A number of the finder's own turns. -/
theorem FinAt.put (h : FinAt w0 w fb s most limit F lv bv vs cs) (j : Nat) (x : Value) {F' : Fd} (hl : F'.l = F.l) (hb : F'.back = F.back) (hx : (findL lv bv false s most limit F.hits F.stopped).set j x = findL lv bv false s most limit F'.hits F'.stopped) :
    FinAt w0 (w.setCell ⟨fb, j, none⟩ x) fb s most limit F' lv bv vs cs ∧ Keep w (SX fb lv bv) (w.setCell ⟨fb, j, none⟩ x) (SX fb lv bv) := by
  have hkeep : Keep w (SX fb lv bv) (w.setCell ⟨fb, j, none⟩ x) (SX fb lv bv) := ⟨by simp [World.setCell], fun k hk _ => ⟨Below.heap_setCell w ⟨fb, j, none⟩ _ k hk.1, hk⟩⟩
  refine ⟨⟨h.low, h.below.setCell (p := ⟨fb, j, none⟩) h.low _, by rw [← hx]; exact h.blk.set j x, ?_, ?_, ?_, ?_, h.apart⟩, hkeep⟩
  · rw [hl]; exact ownsRow_setCell_below h.ways (a := ⟨fb, j, none⟩) (Nat.lt_succ_self fb) _
  · rw [hl]; exact h.each.keep hkeep
  · rw [hb]; exact ownsRow_setCell_below h.back (a := ⟨fb, j, none⟩) (Nat.lt_succ_self fb) _
  · rw [hb]; exact h.pts.keep hkeep
/-- The last point is taken off. -/
theorem FinAt.pop {bs : List Pt} {p : Pt} {g cap n : Nat} (h : FinAt w0 w fb s most limit F lv (.slice (some ⟨g, 0, none⟩) n cap) vs cs) (hb : F.back = bs ++ [p]) :
    ∃ u v cr, cs = cr ++ [.int .i64 ((p.pos : Nat) : Int), u, v] ∧ n = bs.length + 1 ∧ ReadAt 284 w (SX fb lv (.slice (some ⟨g, 0, none⟩) n cap)) p.read u ∧ TodoAt 164 w (SX fb lv (.slice (some ⟨g, 0, none⟩) n cap)) p.todo v ∧
      FinAt w0 (w.setCell ⟨fb, 7, none⟩ (.slice (some ⟨g, 0, none⟩) bs.length cap)) fb s most limit { F with back := bs } lv (.slice (some ⟨g, 0, none⟩) bs.length cap) vs cr ∧
      Keep w (SX fb lv (.slice (some ⟨g, 0, none⟩) n cap)) (w.setCell ⟨fb, 7, none⟩ (.slice (some ⟨g, 0, none⟩) bs.length cap)) (SX fb lv (.slice (some ⟨g, 0, none⟩) bs.length cap)) := by
  have hp := h.pts
  rw [hb] at hp
  obtain ⟨u, v, cr, rfl, h1, h2, h3⟩ := hp.last
  have hn : n = bs.length + 1 := by
    have hr := h.back
    rw [hb] at hr
    rcases hr.2 with ⟨e, _⟩ | ⟨g', cap', cur, e, _⟩
    · cases e
    · injection e with _ e _
      rw [e]
      simp
  subst hn
  have hkeep : Keep w (SX fb lv (.slice (some ⟨g, 0, none⟩) (bs.length + 1) cap)) (w.setCell ⟨fb, 7, none⟩ (.slice (some ⟨g, 0, none⟩) bs.length cap)) (SX fb lv (.slice (some ⟨g, 0, none⟩) bs.length cap)) :=
    ⟨by simp [World.setCell], fun k hk _ => ⟨Below.heap_setCell w ⟨fb, 7, none⟩ _ k hk.1, hk⟩⟩
  have hback := h.back
  rw [hb] at hback
  simp only [List.length_append, List.length_singleton] at hback
  refine ⟨u, v, cr, rfl, rfl, h2, h3, ⟨h.low, h.below.setCell (p := ⟨fb, 7, none⟩) h.low _, h.blk.set 7 _, ownsRow_setCell_below h.ways (a := ⟨fb, 7, none⟩) (Nat.lt_succ_self fb) _, h.each.keep hkeep, ?_, h1.keep hkeep, h.apart⟩, hkeep⟩
  exact ownsRow_setCell_below (ownsRow_pop (by rw [h1.length]) hback) (a := ⟨fb, 7, none⟩) (Nat.lt_succ_self fb) _
theorem FinAt.cells (h : FinAt w0 w fb s most limit F lv bv vs cs) :
    (w.cell? ⟨fb, 0, none⟩ = some lv ∧ w.cell? ⟨fb, 1, none⟩ = some (.bool false) ∧ w.cell? ⟨fb, 2, none⟩ = some (.string s) ∧ w.cell? ⟨fb, 3, none⟩ = some (.int .i64 ((most : Nat) : Int)) ∧ w.cell? ⟨fb, 4, none⟩ = some (.int .i64 ((limit : Nat) : Int)) ∧
      w.cell? ⟨fb, 5, none⟩ = some (.int .i64 ((F.hits : Nat) : Int)) ∧ w.cell? ⟨fb, 6, none⟩ = some (.bool F.stopped) ∧ w.cell? ⟨fb, 7, none⟩ = some bv) ∧
    w.frozen? ⟨fb, 0, none⟩ = false ∧ w.frozen? ⟨fb, 1, none⟩ = false ∧ w.frozen? ⟨fb, 5, none⟩ = false ∧ w.frozen? ⟨fb, 6, none⟩ = false ∧ w.frozen? ⟨fb, 7, none⟩ = false :=
  ⟨⟨h.blk.cell 0, h.blk.cell 1, h.blk.cell 2, h.blk.cell 3, h.blk.cell 4, h.blk.cell 5, h.blk.cell 6, h.blk.cell 7⟩, h.blk.frozen 0, h.blk.frozen 1, h.blk.frozen 5, h.blk.frozen 6, h.blk.frozen 7⟩
end
end Go.Proofs.YtpiimcbbgalhfaaGreatDoor
/- Ways: places, parts, push. -/
namespace Go.Proofs.YtpiimcbbgalhfaaGreatDoor
set_option maxRecDepth 100000
open Go.RowKit
theorem places_nil (w : World) : Calls Tryz.prog 199 #[.pointer none] w fun v w' => v = .returned (.int .i64 ((0 : Nat) : Int)) ∧ ∃ n, w' = w.drewN n := by
  go_enter Tryz.func199, Tryz.ntmps199
  go_wp2
  go_returns
  exact ⟨rfl, 0, rfl⟩
set_option maxHeartbeats 2000000 in
theorem places_node {w : World} {b A B : Nat} {k : Int} {m : Nat → Bool} {z : Bool} {oa ob : Option Addr} (hb : Blk w b 148 (coreV k m z (.pointer oa) (.pointer ob))) (hk : k ≠ 1) (hle : A + B ≤ 1000000000)
    (hx : ∀ q, Calls Tryz.prog 199 #[.pointer oa] (w.drewN q) fun v w' => v = .returned (.int .i64 ((A : Nat) : Int)) ∧ ∃ n, w' = (w.drewN q).drewN n)
    (hy : ∀ q, Calls Tryz.prog 199 #[.pointer ob] (w.drewN q) fun v w' => v = .returned (.int .i64 ((B : Nat) : Int)) ∧ ∃ n, w' = (w.drewN q).drewN n) :
    Calls Tryz.prog 199 #[cptr b] w fun v w' => v = .returned (.int .i64 ((A + B : Nat) : Int)) ∧ ∃ n, w' = w.drewN n := by
  have HX := Lib.hid hx
  have HY := Lib.hid hy
  have a0 : w.cell? ⟨b, 0, none⟩ = some (.int .i64 k) := hb.cell 0
  have a6 : w.cell? ⟨b, 6, none⟩ = some (.pointer oa) := hb.cell 6
  have a7 : w.cell? ⟨b, 7, none⟩ = some (.pointer ob) := hb.cell 7
  have hlt := hb.lt
  have hk1 : (k == 1) = false := beq_eq_false_iff_ne.2 hk
  have hw : IntKind.i64.wrap (((A : Nat) : Int) + ((B : Nat) : Int)) = ((A : Nat) : Int) + ((B : Nat) : Int) := IntWalk.i64_in _ (by omega)
  clear hb hx hy hk
  go_enter Tryz.func199, Tryz.ntmps199
  go_wp2_with fail
  go_quiet ((go_at_call 199; first | with_reducible exact Calls.quiet_of (HX.out _) | with_reducible exact Calls.quiet_of (HY.out _)))
  go_wp2
  go_returns
  exact ⟨by go_num, _, rfl⟩
theorem places_set {w : World} {S : Nat → Prop} {b : Nat} {m : Nat → Bool} (h : CoreAt w S (.set m) b) : Calls Tryz.prog 199 #[cptr b] w fun v w' => v = .returned (.int .i64 ((1 : Nat) : Int)) ∧ ∃ n, w' = w.drewN n := by
  have a0 : w.cell? ⟨b, 0, none⟩ = some (.int .i64 1) := h.2.cell 0
  have hlt := h.2.lt
  clear h
  go_enter Tryz.func199, Tryz.ntmps199
  go_wp2
  go_returns
  exact ⟨rfl, 0, rfl⟩
theorem CoreAt.drewN {w : World} {S : Nat → Prop} {c : CT} {b : Nat} (h : CoreAt w S c b) (q : Nat) : CoreAt (w.drewN q) S c b := h.under (below_drewN (Below.refl _ _) q)
theorem places_at (c : CT) : ∀ {w : World} {S : Nat → Prop} {b : Nat}, CoreAt w S c b → placesC c ≤ 1000000000 →
    Calls Tryz.prog 199 #[cptr b] w fun v w' => v = .returned (.int .i64 ((placesC c : Nat) : Int)) ∧ ∃ n, w' = w.drewN n := by
  induction c with
  | empty => exact fun {w S b} h _ => places_node h.2 (by decide) (by omega) (fun q => places_nil _) (fun q => places_nil _)
  | set m => exact fun {w S b} h _ => places_set h
  | cat x y ihx ihy =>
    rintro w S b ⟨_, p, q, hb, hx, hy⟩ hs
    simp only [placesC] at hs
    exact places_node hb (by decide) hs (fun n => ihx (hx.drewN n) (by omega)) (fun n => ihy (hy.drewN n) (by omega))
  | alt x y ihx ihy =>
    rintro w S b ⟨_, p, q, hb, hx, hy⟩ hs
    simp only [placesC] at hs
    exact places_node hb (by decide) hs (fun n => ihx (hx.drewN n) (by omega)) (fun n => ihy (hy.drewN n) (by omega))
  | star z x ihx =>
    rintro w S b ⟨_, p, hb, hx⟩ hs
    simp only [placesC] at hs
    exact places_node (B := 0) hb (by decide) (by omega) (fun n => ihx (hx.drewN n) hs) (fun n => places_nil _)
end Go.Proofs.YtpiimcbbgalhfaaGreatDoor
/- Ways: parts. -/
namespace Go.Proofs.YtpiimcbbgalhfaaGreatDoor
set_option maxRecDepth 100000
open Go.RowKit
theorem info_wnode : (Tryz.prog.info? 162).map (·.size) = some 2 := by kernel_rfl
theorem load_wnode {w : World} {b t : Nat} {l : List Value} (h : Blk w b t l) (hl : l.length = 2) : (loadVar 162 ⟨b, 0, none⟩).run Tryz.prog w = .ok (.agg l.toArray) w :=
  run_loadVar_row w b t _ l.toArray (0, 0) _ h Tryz.underlying162 rfl (by rw [info_wnode]; simp [hl])
theorem ret_two {fn : Func} {R : Ending → World → Prop} {a : Act} {w : World} {b1 r1 t1 b2 r2 t2 : Nat} {v1 v2 : Value} (hres : fn.results = #[.cell r1 t1, .cell r2 t2])
    (hr1 : a.tmps.getD r1 undef = .pointer (some ⟨b1, 0, none⟩)) (hld1 : (loadVar t1 ⟨b1, 0, none⟩).run Tryz.prog w = .ok v1 w) (hr2 : a.tmps.getD r2 undef = .pointer (some ⟨b2, 0, none⟩)) (hld2 : (loadVar t2 ⟨b2, 0, none⟩).run Tryz.prog w = .ok v2 w)
    (hd : a.defers = []) (hR : R (.returned (.tuple #[v1, v2])) w) : bodyPost Tryz.prog fn R .ret a w := by
  refine bodyPost_ret (v := .tuple #[v1, v2]) ?_ hd hR
  have q1 : a.tmps[r1]?.getD undef = .pointer (some ⟨b1, 0, none⟩) := by simpa using hr1
  have q2 : a.tmps[r2]?.getD undef = .pointer (some ⟨b2, 0, none⟩) := by simpa using hr2
  simp [results, hres, q1, q2, hld1, hld2, asAddr]
theorem far_set {W : World} {p q : Addr} {u : Value} {v : Option Value} (h : W.cell? q = v) (hne : ¬q.block = p.block) : (W.setCell p u).cell? q = v := (World.cell?_of_block (Below.heap_setCell W p u q.block hne)).trans h
set_option maxHeartbeats 4000000 in
/-- A node's parts: with the number of the first position of each. -/
theorem parts_node {w : World} {b A f : Nat} {k : Int} {m : Nat → Bool} {z : Bool} {oa ob : Option Addr} (hb : Blk w b 148 (coreV k m z (.pointer oa) (.pointer ob))) (hle : f + A ≤ 1000000000)
    (hx : ∀ W, Below w.heap.size w W → Calls Tryz.prog 199 #[.pointer oa] W fun v w' => v = .returned (.int .i64 ((A : Nat) : Int)) ∧ ∃ n, w' = W.drewN n) :
    Calls Tryz.prog 151 #[.agg #[cptr b, .int .i64 ((f : Nat) : Int)]] w fun v w' => v = .returned (.tuple #[.agg #[.pointer oa, .int .i64 ((f : Nat) : Int)], .agg #[.pointer ob, .int .i64 ((f + A : Nat) : Int)]]) ∧ Below w.heap.size w w' := by
  have hb3 : Below w.heap.size w (((w.alloc (.cells #[cptr b, .int .i64 ((f : Nat) : Int)] 162)).alloc (.cells #[.pointer none, .int .i64 0] 162)).alloc (.cells #[.pointer none, .int .i64 0] 162)) :=
    (((Below.refl _ w).alloc (Nat.le_refl _) _).alloc (by simp) _).alloc (by simp; omega) _
  have hbb := hb.below hb3 hb.lt
  have st := (((St.nil w).alloc rfl [cptr b, .int .i64 ((f : Nat) : Int)] 162).alloc (n := w.heap.size + 1) (by simp) [.pointer none, .int .i64 0] 162).alloc (n := w.heap.size + 2) (by simp) [.pointer none, .int .i64 0] 162
  have hw : IntKind.i64.wrap (((f : Nat) : Int) + ((A : Nat) : Int)) = ((f : Nat) : Int) + ((A : Nat) : Int) := IntWalk.i64_in _ (by omega)
  have HX := Lib.hid (fun W (hW : Below w.heap.size w W) => hx W hW)
  have HB3 := Lib.hid hb3
  have hlb := hb.lt
  clear hx hb hb3
  go_enter Tryz.func151, Tryz.ntmps151
  go_upto_region 1 with fail
  generalize ((w.alloc _).alloc _).alloc _ = w1 at *
  obtain ⟨⟨p0, p1⟩, r0, r1⟩ := st.two 2 rfl
  obtain ⟨⟨q0, q1⟩, s0, s1⟩ := st.two 1 rfl
  obtain ⟨⟨u0, u1⟩, v0, v1⟩ := st.two 0 rfl
  have hl0 := (st.get 0 rfl).lt
  have hl1 := (st.get 1 rfl).lt
  have hl2 := (st.get 2 rfl).lt
  have a6 : w1.cell? ⟨b, 6, none⟩ = some (.pointer oa) := hbb.cell 6
  have a7 : w1.cell? ⟨b, 7, none⟩ = some (.pointer ob) := hbb.cell 7
  have hbl := hbb.lt
  have hbl0 := hlb
  have ST := Lib.hid st
  clear st hbb
  go_wp2_with fail
  have hBW : Below w.heap.size w w1.drew := HB3.out.drew
  have nb1 : ¬w.heap.size = w.heap.size + 1 := by omega
  have nb2 : ¬w.heap.size = w.heap.size + 1 + 1 := by omega
  have nb3 : ¬w.heap.size + 1 = w.heap.size + 1 + 1 := by omega
  have nb4 : ¬w.heap.size + 1 + 1 = w.heap.size + 1 := by omega
  have nb5 : ¬b = w.heap.size + 1 := by omega
  have nb6 : ¬b = w.heap.size + 1 + 1 := by omega
  have nc5 : ¬w.heap.size + 1 = b := by omega
  have nc6 : ¬w.heap.size + 1 + 1 = b := by omega
  go_region_held3 (fun x => x.cell? ⟨w.heap.size, 0, none⟩ = some (cptr b) ∧ x.cell? ⟨w.heap.size, 1, none⟩ = some (.int .i64 ((f : Nat) : Int)) ∧ x.cell? ⟨b, 6, none⟩ = some (.pointer oa) ∧ x.cell? ⟨b, 7, none⟩ = some (.pointer ob) ∧ Below w.heap.size w x)
    ((repeat' apply And.intro) <;> first | ((with_reducible refine far_set ?_ (by dsimp only; omega)); (with_reducible refine far_set ?_ (by dsimp only; omega)); (with_reducible refine far_set ?_ (by dsimp only; omega)); (with_reducible refine far_set ?_ (by dsimp only; omega)); first | exact p0 | exact p1 | exact a6 | exact a7) | ((with_reducible refine far_set ?_ (by dsimp only; omega)); (with_reducible refine far_set ?_ (by dsimp only; omega)); first | exact p0 | exact p1 | exact a6 | exact a7) | ((with_reducible refine Below.setCell ?_ (by dsimp only; omega) _); (with_reducible refine Below.setCell ?_ (by dsimp only; omega) _); (with_reducible refine Below.setCell ?_ (by dsimp only; omega) _); (with_reducible refine Below.setCell ?_ (by dsimp only; omega) _); first | exact HB3.out.drew | exact below_drewN HB3.out _) | ((with_reducible refine Below.setCell ?_ (by dsimp only; omega) _); (with_reducible refine Below.setCell ?_ (by dsimp only; omega) _); first | exact HB3.out.drew | exact below_drewN HB3.out _) | (first | exact p0 | exact p1 | exact a6 | exact a7) | (first | exact HB3.out.drew | exact below_drewN HB3.out _))
    (first | (go_at_call 199; refine (HX.out _ ?_).mono ?_; (go_split_ands; assumption); rintro e w8 ⟨rfl, n8, rfl⟩))
  all_goals
    have s5 := (((((ST.out.drewN (1 + n8)).set 1 rfl 0 (.pointer oa)).set 1 rfl 1 (.int .i64 ((f : Nat) : Int))).set 0 rfl 0 (.pointer ob)).set 0 rfl 1 (.int .i64 (((f : Nat) : Int) + ((A : Nat) : Int))))
    go_wp2
    exact ret_two (b1 := w.heap.size + 1) (b2 := w.heap.size + 2) (v1 := .agg #[.pointer oa, .int .i64 ((f : Nat) : Int)]) (v2 := .agg #[.pointer ob, .int .i64 (((f : Nat) : Int) + ((A : Nat) : Int))]) rfl rfl (load_wnode (s5.get 1 rfl) rfl) rfl (load_wnode (s5.get 0 rfl) rfl) rfl ⟨rfl, s5.below⟩
end Go.Proofs.YtpiimcbbgalhfaaGreatDoor
