/- Traces: the plain model of the tracer; how it lies in memory. -/
import Derived.Test.YtpiimcbbgalhfaaGreatDoorCg
import Derived.Test.YtpiimcbbgalhfaaGreatDoorCh
import Derived.Test.YtpiimcbbgalhfaaGreatDoorBa
import Derived.Deep.RegionHeld3
namespace Go.Proofs.YtpiimcbbgalhfaaGreatDoor
set_option maxRecDepth 100000
open Go.RowKit
structure Ev where
  kind : Nat
  pos : Nat
  p : Int
structure Br where
  pos : Nat
  todo : List It
structure Td where
  l : List Ev
  hits : Nat
  found : Bool
  stopped : Bool
  back : List Br
def Td.later (T : Td) (l : List Br) : Td := { T with back := T.back ++ l }
def Td.add (T : Td) (k pos : Nat) (p : Int) : Td := { T with l := T.l ++ [⟨k, pos, p⟩] }
def starB (z : Bool) (a : CT) (f pos : Nat) (rest : List It) : List Br :=
  if z then [⟨pos, .fresh a f :: .loop z a f pos :: rest⟩, ⟨pos, rest⟩] else [⟨pos, rest⟩, ⟨pos, .fresh a f :: .loop z a f pos :: rest⟩]
def readT (s : List UInt8) (limit : Nat) (m : Nat → Bool) (f pos : Nat) (rest : List It) (T : Td) : Td :=
  match s[pos]? with
  | none => T.add 3 pos (f : Int)
  | some b => if m b.toNat then (if limit ≤ T.hits then { T with stopped := true } else (({ T with hits := T.hits + 1 } : Td).add 0 pos (f : Int)).later [⟨pos + 1, rest⟩]) else T.add 3 pos (f : Int)
def endT (n pos : Nat) (T : Td) : Td := if pos < n then T.add 2 pos (-1) else { (T.add 1 pos (-1)) with found := true }
def doT (s : List UInt8) (limit : Nat) (p : Br) (T : Td) : Td :=
  match p.todo with
  | [] => endT s.length p.pos T
  | .loop z a f since :: rest => if since < p.pos then T.later (starB z a f p.pos rest) else T
  | .fresh .empty _ :: rest => T.later [⟨p.pos, rest⟩]
  | .fresh (.set m) f :: rest => readT s limit m f p.pos rest T
  | .fresh (.cat a b) f :: rest => T.later [⟨p.pos, .fresh a f :: .fresh b (f + placesC a) :: rest⟩]
  | .fresh (.alt a b) f :: rest => T.later [⟨p.pos, .fresh b (f + placesC a) :: rest⟩, ⟨p.pos, .fresh a f :: rest⟩]
  | .fresh (.star z a) f :: rest => T.later (starB z a f p.pos rest)
def Td.over (T : Td) : Prop := T.found = true ∨ T.stopped = true ∨ T.back = []
instance (T : Td) : Decidable T.over := by
  unfold Td.over
  have : Decidable (T.back = []) := match T.back with | [] => isTrue rfl | _ :: _ => isFalse (by simp)
  exact inferInstance
def runT (s : List UInt8) (limit : Nat) : Nat → Td → Option Td
  | 0, T => if T.over then some T else none
  | k + 1, T => if T.over then some T else match T.back.getLast? with
    | none => some T
    | some p => runT s limit k (doT s limit p { T with back := T.back.dropLast })
theorem runT_stop {s : List UInt8} {limit k : Nat} {T R : Td} (h : runT s limit k T = some R) (hs : T.over) : R = T := by
  cases k with
  | zero =>
    unfold runT at h
    rw [if_pos hs] at h
    injection h with h
    exact h.symm
  | succ k =>
    unfold runT at h
    rw [if_pos hs] at h
    injection h with h
    exact h.symm
theorem runT_go {s : List UInt8} {limit k : Nat} {T R : Td} {bs : List Br} {p : Br} (h : runT s limit k T = some R) (h1 : T.found = false) (h2 : T.stopped = false) (hb : T.back = bs ++ [p]) :
    ∃ j, k = j + 1 ∧ runT s limit j (doT s limit p { T with back := bs }) = some R := by
  have hno : ¬T.over := by
    rintro (h | h | h)
    · rw [h1] at h; cases h
    · rw [h2] at h; cases h
    · rw [hb] at h; simp at h
  cases k with
  | zero =>
    unfold runT at h
    rw [if_neg hno] at h
    cases h
  | succ j =>
    refine ⟨j, rfl, ?_⟩
    unfold runT at h
    rw [if_neg hno, hb] at h
    simpa using h
def Br.small (B n : Nat) (p : Br) : Prop := p.pos ≤ n ∧ ∀ x ∈ p.todo, x.small B ∧ x.since ≤ n
abbrev evL (e : Ev) : List Value := [.int .i64 ((e.kind : Nat) : Int), .int .i64 ((e.pos : Nat) : Int), .int .i64 e.p]
def BrsAt (t : TypeId) (w : World) (S : Nat → Prop) : List Br → List Value → Prop
  | [], cs => cs = []
  | p :: l, cs => ∃ v cr, cs = .int .i64 ((p.pos : Nat) : Int) :: v :: cr ∧ TodoAt t w S p.todo v ∧ BrsAt t w S l cr
theorem BrsAt.keep {t : TypeId} {w w' : World} {S S' : Nat → Prop} (hk : Keep w S w' S') : ∀ {l : List Br} {cs : List Value}, BrsAt t w S l cs → BrsAt t w' S' l cs
  | [], _, h => h
  | _ :: _, _, ⟨v, cr, e, h1, h3⟩ => ⟨v, cr, e, h1.keep hk, h3.keep hk⟩
theorem BrsAt.length {t : TypeId} {w : World} {S : Nat → Prop} : ∀ {l : List Br} {cs : List Value}, BrsAt t w S l cs → cs.length = l.length * 2
  | [], cs, h => by rw [show cs = [] from h]; rfl
  | p :: l, cs, ⟨v, cr, e, h1, h3⟩ => by
    have := h3.length
    rw [e]
    simp only [List.length_cons, this]
    omega
theorem BrsAt.snoc {t : TypeId} {w : World} {S : Nat → Prop} {p : Br} {v : Value} (hv : TodoAt t w S p.todo v) : ∀ {l : List Br} {cs : List Value}, BrsAt t w S l cs → BrsAt t w S (l ++ [p]) (cs ++ [.int .i64 ((p.pos : Nat) : Int), v])
  | [], cs, h => by rw [show cs = [] from h]; exact ⟨v, [], rfl, hv, rfl⟩
  | q :: l, cs, ⟨b, cr, e, h1, h3⟩ => by
    rw [e]
    exact ⟨b, cr ++ [.int .i64 ((p.pos : Nat) : Int), v], rfl, h1, BrsAt.snoc hv h3⟩
theorem BrsAt.last {t : TypeId} {w : World} {S : Nat → Prop} {p : Br} : ∀ {l : List Br} {cs : List Value}, BrsAt t w S (l ++ [p]) cs → ∃ v cr, cs = cr ++ [.int .i64 ((p.pos : Nat) : Int), v] ∧ BrsAt t w S l cr ∧ TodoAt t w S p.todo v
  | [], cs, ⟨v, cr, e, h1, h3⟩ => ⟨v, [], by rw [e, show cr = [] from h3]; rfl, rfl, h1⟩
  | q :: l, cs, ⟨b, cr, e, h1, h3⟩ => by
    obtain ⟨v, c2, e2, g1, g2⟩ := BrsAt.last (l := l) h3
    exact ⟨v, .int .i64 ((q.pos : Nat) : Int) :: b :: c2, by rw [e, e2]; rfl, ⟨b, c2, rfl, h1, g1⟩, g2⟩
abbrev traL (lv bv : Value) (hits : Nat) (found stopped : Bool) (s : ByteArray) (limit : Nat) : List Value :=
  [lv, .int .i64 ((hits : Nat) : Int), .bool found, .bool stopped, .string s, .int .i64 ((limit : Nat) : Int), bv]
structure TraAt (w0 w : World) (fb : Nat) (s : ByteArray) (limit : Nat) (T : Td) (lv bv : Value) (cs : List Value) : Prop where
  low : w0.heap.size ≤ fb
  below : Below w0.heap.size w0 w
  blk : Blk w fb 175 (traL lv bv T.hits T.found T.stopped s limit)
  evs : w.ownsRow (fb + 1) 169 3 lv T.l.length (T.l.flatMap evL)
  back : w.ownsRow (fb + 1) 183 2 bv T.back.length cs
  brs : BrsAt 181 w (SX fb lv bv) T.back cs
  apart : Apart lv bv
section
variable {w0 w : World} {fb : Nat} {s : ByteArray} {limit : Nat} {T : Td} {lv bv : Value} {cs : List Value}
theorem TraAt.under {w' : World} (h : TraAt w0 w fb s limit T lv bv cs) (hb : Below w.heap.size w w') : TraAt w0 w' fb s limit T lv bv cs :=
  ⟨h.low, h.below.trans (hb.mono h.below.size), h.blk.below hb h.blk.lt, own_below h.evs hb, own_below h.back hb, h.brs.keep (Keep.below hb), h.apart⟩
theorem TraAt.new (h : TraAt w0 w fb s limit T lv bv cs) {k : Nat} (hk : w.heap.size ≤ k) : SX fb lv bv k :=
  ⟨fun e => by have := h.blk.lt; omega, fun e => by have := (h.evs.lt k e).2; omega, fun e => by have := (h.back.lt k e).2; omega⟩
theorem TraAt.latered (h : TraAt w0 w fb s limit T lv bv cs) {W w' : World} {g cap : Nat} {p : Br} {v : Value} (hW : Below w.heap.size w W) (hv : TodoAt 181 w (SX fb lv bv) p.todo v)
    (hown : w'.ownsRow (fb + 1) 183 2 (.slice (some ⟨g, 0, none⟩) (T.back.length + 1) cap) (T.back.length + 1) (cs ++ [.int .i64 ((p.pos : Nat) : Int), v])) (hm : Moved W w' bv g) :
    TraAt w0 (w'.setCell ⟨fb, 6, none⟩ (.slice (some ⟨g, 0, none⟩) (T.back.length + 1) cap)) fb s limit (T.later [p]) lv (.slice (some ⟨g, 0, none⟩) (T.back.length + 1) cap) (cs ++ [.int .i64 ((p.pos : Nat) : Int), v]) ∧
    Keep w (SX fb lv bv) (w'.setCell ⟨fb, 6, none⟩ (.slice (some ⟨g, 0, none⟩) (T.back.length + 1) cap)) (SX fb lv (.slice (some ⟨g, 0, none⟩) (T.back.length + 1) cap)) := by
  have hsz := hW.size
  have hsz2 := hm.size
  have hwW := own_below h.evs hW
  have hbW := own_below h.back hW
  have hfl := h.blk.lt
  have hbk := hm.blk (h.blk.below hW hfl) hbW (Nat.lt_succ_self fb)
  have hkeep : Keep w (SX fb lv bv) (w'.setCell ⟨fb, 6, none⟩ (.slice (some ⟨g, 0, none⟩) (T.back.length + 1) cap)) (SX fb lv (.slice (some ⟨g, 0, none⟩) (T.back.length + 1) cap)) := by
    refine ⟨by simp only [World.setCell, Array.size_modify]; omega, fun k hk hl => ⟨?_, hk.1, hk.2.1, fun e => ?_⟩⟩
    · rw [Below.heap_setCell w' ⟨fb, 6, none⟩ _ k hk.1, hm.keep k (by omega) hk.2.2, hW.block k hl]
    · have hgk : g = k := by injection e
      subst hgk
      rcases hm.lies with h1 | h1
      · exact hk.2.2 h1
      · omega
  refine ⟨⟨h.low, ?_, hbk.set 6 _, ownsRow_setCell_below (hm.own hwW h.apart) (Nat.lt_succ_self fb) _, ?_, (h.brs.keep hkeep).snoc (hv.keep hkeep), hm.apart hwW h.apart _ _⟩, hkeep⟩
  · exact (hm.below (h.below.trans (hW.mono h.below.size)) (Nat.le_trans h.below.size hsz) (fun k hk => by have := (hbW.lt k hk).1; have := h.low; omega)).setCell (p := ⟨fb, 6, none⟩) h.low _
  · have := ownsRow_setCell_below hown (a := ⟨fb, 6, none⟩) (Nat.lt_succ_self fb) (.slice (some ⟨g, 0, none⟩) (T.back.length + 1) cap)
    simpa [Td.later] using this
theorem TraAt.added (h : TraAt w0 w fb s limit T lv bv cs) {W w' : World} {g cap : Nat} {e : Ev} (hW : Below w.heap.size w W)
    (hown : w'.ownsRow (fb + 1) 169 3 (.slice (some ⟨g, 0, none⟩) (T.l.length + 1) cap) (T.l.length + 1) (T.l.flatMap evL ++ evL e)) (hm : Moved W w' lv g) :
    TraAt w0 (w'.setCell ⟨fb, 0, none⟩ (.slice (some ⟨g, 0, none⟩) (T.l.length + 1) cap)) fb s limit (T.add e.kind e.pos e.p) (.slice (some ⟨g, 0, none⟩) (T.l.length + 1) cap) bv cs ∧
    Keep w (SX fb lv bv) (w'.setCell ⟨fb, 0, none⟩ (.slice (some ⟨g, 0, none⟩) (T.l.length + 1) cap)) (SX fb (.slice (some ⟨g, 0, none⟩) (T.l.length + 1) cap) bv) := by
  have hsz := hW.size
  have hsz2 := hm.size
  have hwW := own_below h.evs hW
  have hbW := own_below h.back hW
  have hfl := h.blk.lt
  have hbk := hm.blk (h.blk.below hW hfl) hwW (Nat.lt_succ_self fb)
  have hkeep : Keep w (SX fb lv bv) (w'.setCell ⟨fb, 0, none⟩ (.slice (some ⟨g, 0, none⟩) (T.l.length + 1) cap)) (SX fb (.slice (some ⟨g, 0, none⟩) (T.l.length + 1) cap) bv) := by
    refine ⟨by simp only [World.setCell, Array.size_modify]; omega, fun k hk hl => ⟨?_, hk.1, fun e => ?_, hk.2.2⟩⟩
    · rw [Below.heap_setCell w' ⟨fb, 0, none⟩ _ k hk.1, hm.keep k (by omega) hk.2.1, hW.block k hl]
    · have hgk : g = k := by injection e
      subst hgk
      rcases hm.lies with h1 | h1
      · exact hk.2.1 h1
      · omega
  refine ⟨⟨h.low, ?_, hbk.set 0 _, ?_, ownsRow_setCell_below (hm.own hbW h.apart.symm) (Nat.lt_succ_self fb) _, h.brs.keep hkeep, (hm.apart hbW h.apart.symm _ _).symm⟩, hkeep⟩
  · exact (hm.below (h.below.trans (hW.mono h.below.size)) (Nat.le_trans h.below.size hsz) (fun k hk => by have := (hwW.lt k hk).1; have := h.low; omega)).setCell (p := ⟨fb, 0, none⟩) h.low _
  · have := ownsRow_setCell_below hown (a := ⟨fb, 0, none⟩) (Nat.lt_succ_self fb) (.slice (some ⟨g, 0, none⟩) (T.l.length + 1) cap)
    simpa [Td.add] using this
theorem TraAt.put (h : TraAt w0 w fb s limit T lv bv cs) (j : Nat) (x : Value) {T' : Td} (hl : T'.l = T.l) (hb : T'.back = T.back) (hx : (traL lv bv T.hits T.found T.stopped s limit).set j x = traL lv bv T'.hits T'.found T'.stopped s limit) :
    TraAt w0 (w.setCell ⟨fb, j, none⟩ x) fb s limit T' lv bv cs ∧ Keep w (SX fb lv bv) (w.setCell ⟨fb, j, none⟩ x) (SX fb lv bv) := by
  have hkeep : Keep w (SX fb lv bv) (w.setCell ⟨fb, j, none⟩ x) (SX fb lv bv) := ⟨by simp [World.setCell], fun k hk _ => ⟨Below.heap_setCell w ⟨fb, j, none⟩ _ k hk.1, hk⟩⟩
  refine ⟨⟨h.low, h.below.setCell (p := ⟨fb, j, none⟩) h.low _, by rw [← hx]; exact h.blk.set j x, ?_, ?_, ?_, h.apart⟩, hkeep⟩
  · rw [hl]; exact ownsRow_setCell_below h.evs (a := ⟨fb, j, none⟩) (Nat.lt_succ_self fb) _
  · rw [hb]; exact ownsRow_setCell_below h.back (a := ⟨fb, j, none⟩) (Nat.lt_succ_self fb) _
  · rw [hb]; exact h.brs.keep hkeep
theorem TraAt.pop {bs : List Br} {p : Br} {g cap n : Nat} (h : TraAt w0 w fb s limit T lv (.slice (some ⟨g, 0, none⟩) n cap) cs) (hb : T.back = bs ++ [p]) :
    ∃ v cr, cs = cr ++ [.int .i64 ((p.pos : Nat) : Int), v] ∧ n = bs.length + 1 ∧ TodoAt 181 w (SX fb lv (.slice (some ⟨g, 0, none⟩) n cap)) p.todo v ∧
      TraAt w0 (w.setCell ⟨fb, 6, none⟩ (.slice (some ⟨g, 0, none⟩) bs.length cap)) fb s limit { T with back := bs } lv (.slice (some ⟨g, 0, none⟩) bs.length cap) cr ∧
      Keep w (SX fb lv (.slice (some ⟨g, 0, none⟩) n cap)) (w.setCell ⟨fb, 6, none⟩ (.slice (some ⟨g, 0, none⟩) bs.length cap)) (SX fb lv (.slice (some ⟨g, 0, none⟩) bs.length cap)) := by
  have hp := h.brs
  rw [hb] at hp
  obtain ⟨v, cr, rfl, h1, h3⟩ := hp.last
  have hn : n = bs.length + 1 := by
    have hr := h.back
    rw [hb] at hr
    rcases hr.2 with ⟨e, _⟩ | ⟨g', cap', cur, e, _⟩
    · cases e
    · injection e with _ e _
      rw [e]
      simp
  subst hn
  have hkeep : Keep w (SX fb lv (.slice (some ⟨g, 0, none⟩) (bs.length + 1) cap)) (w.setCell ⟨fb, 6, none⟩ (.slice (some ⟨g, 0, none⟩) bs.length cap)) (SX fb lv (.slice (some ⟨g, 0, none⟩) bs.length cap)) :=
    ⟨by simp [World.setCell], fun k hk _ => ⟨Below.heap_setCell w ⟨fb, 6, none⟩ _ k hk.1, hk⟩⟩
  have hback := h.back
  rw [hb] at hback
  simp only [List.length_append, List.length_singleton] at hback
  refine ⟨v, cr, rfl, rfl, h3, ⟨h.low, h.below.setCell (p := ⟨fb, 6, none⟩) h.low _, h.blk.set 6 _, ownsRow_setCell_below h.evs (a := ⟨fb, 6, none⟩) (Nat.lt_succ_self fb) _, ?_, h1.keep hkeep, h.apart⟩, hkeep⟩
  exact ownsRow_setCell_below (ownsRow_pop (by rw [h1.length]) hback) (a := ⟨fb, 6, none⟩) (Nat.lt_succ_self fb) _
theorem TraAt.cells (h : TraAt w0 w fb s limit T lv bv cs) :
    (w.cell? ⟨fb, 0, none⟩ = some lv ∧ w.cell? ⟨fb, 1, none⟩ = some (.int .i64 ((T.hits : Nat) : Int)) ∧ w.cell? ⟨fb, 2, none⟩ = some (.bool T.found) ∧ w.cell? ⟨fb, 3, none⟩ = some (.bool T.stopped) ∧ w.cell? ⟨fb, 4, none⟩ = some (.string s) ∧ w.cell? ⟨fb, 5, none⟩ = some (.int .i64 ((limit : Nat) : Int)) ∧ w.cell? ⟨fb, 6, none⟩ = some bv) ∧
    w.frozen? ⟨fb, 0, none⟩ = false ∧ w.frozen? ⟨fb, 1, none⟩ = false ∧ w.frozen? ⟨fb, 2, none⟩ = false ∧ w.frozen? ⟨fb, 3, none⟩ = false ∧ w.frozen? ⟨fb, 6, none⟩ = false :=
  ⟨⟨h.blk.cell 0, h.blk.cell 1, h.blk.cell 2, h.blk.cell 3, h.blk.cell 4, h.blk.cell 5, h.blk.cell 6⟩, h.blk.frozen 0, h.blk.frozen 1, h.blk.frozen 2, h.blk.frozen 3, h.blk.frozen 6⟩
end
end Go.Proofs.YtpiimcbbgalhfaaGreatDoor
/- Traces: width, add, later. -/
namespace Go.Proofs.YtpiimcbbgalhfaaGreatDoor
set_option maxRecDepth 100000
open Go.RowKit
theorem width_nil (w : World) : Calls Tryz.prog 155 #[.pointer none] w fun v w' => v = .returned (.int .i64 ((0 : Nat) : Int)) ∧ ∃ n, w' = w.drewN n := by
  go_enter Tryz.func155, Tryz.ntmps155
  go_wp2
  go_returns
  exact ⟨rfl, 0, rfl⟩
set_option maxHeartbeats 2000000 in
theorem width_node {w : World} {b A B : Nat} {k : Int} {m : Nat → Bool} {z : Bool} {oa ob : Option Addr} (hb : Blk w b 148 (coreV k m z (.pointer oa) (.pointer ob))) (hk : k ≠ 1) (hle : A + B ≤ 1000000000)
    (hx : ∀ q, Calls Tryz.prog 155 #[.pointer oa] (w.drewN q) fun v w' => v = .returned (.int .i64 ((A : Nat) : Int)) ∧ ∃ n, w' = (w.drewN q).drewN n)
    (hy : ∀ q, Calls Tryz.prog 155 #[.pointer ob] (w.drewN q) fun v w' => v = .returned (.int .i64 ((B : Nat) : Int)) ∧ ∃ n, w' = (w.drewN q).drewN n) :
    Calls Tryz.prog 155 #[cptr b] w fun v w' => v = .returned (.int .i64 ((A + B : Nat) : Int)) ∧ ∃ n, w' = w.drewN n := by
  have HX := Lib.hid hx
  have HY := Lib.hid hy
  have a0 : w.cell? ⟨b, 0, none⟩ = some (.int .i64 k) := hb.cell 0
  have a6 : w.cell? ⟨b, 6, none⟩ = some (.pointer oa) := hb.cell 6
  have a7 : w.cell? ⟨b, 7, none⟩ = some (.pointer ob) := hb.cell 7
  have hlt := hb.lt
  have hk1 : (k == 1) = false := beq_eq_false_iff_ne.2 hk
  have hw : IntKind.i64.wrap (((A : Nat) : Int) + ((B : Nat) : Int)) = ((A : Nat) : Int) + ((B : Nat) : Int) := IntWalk.i64_in _ (by omega)
  clear hb hx hy hk
  go_enter Tryz.func155, Tryz.ntmps155
  go_wp2_with fail
  go_quiet ((go_at_call 155; first | with_reducible exact Calls.quiet_of (HX.out _) | with_reducible exact Calls.quiet_of (HY.out _)))
  go_wp2
  go_returns
  exact ⟨by go_num, _, rfl⟩
theorem width_set {w : World} {S : Nat → Prop} {b : Nat} {m : Nat → Bool} (h : CoreAt w S (.set m) b) : Calls Tryz.prog 155 #[cptr b] w fun v w' => v = .returned (.int .i64 ((1 : Nat) : Int)) ∧ ∃ n, w' = w.drewN n := by
  have a0 : w.cell? ⟨b, 0, none⟩ = some (.int .i64 1) := h.2.cell 0
  have hlt := h.2.lt
  clear h
  go_enter Tryz.func155, Tryz.ntmps155
  go_wp2
  go_returns
  exact ⟨rfl, 0, rfl⟩
theorem width_at (c : CT) : ∀ {w : World} {S : Nat → Prop} {b : Nat}, CoreAt w S c b → placesC c ≤ 1000000000 →
    Calls Tryz.prog 155 #[cptr b] w fun v w' => v = .returned (.int .i64 ((placesC c : Nat) : Int)) ∧ ∃ n, w' = w.drewN n := by
  induction c with
  | empty => exact fun {w S b} h _ => width_node h.2 (by decide) (by omega) (fun q => width_nil _) (fun q => width_nil _)
  | set m => exact fun {w S b} h _ => width_set h
  | cat x y ihx ihy =>
    rintro w S b ⟨_, p, q, hb, hx, hy⟩ hs
    simp only [placesC] at hs
    exact width_node hb (by decide) hs (fun n => ihx (hx.drewN n) (by omega)) (fun n => ihy (hy.drewN n) (by omega))
  | alt x y ihx ihy =>
    rintro w S b ⟨_, p, q, hb, hx, hy⟩ hs
    simp only [placesC] at hs
    exact width_node hb (by decide) hs (fun n => ihx (hx.drewN n) (by omega)) (fun n => ihy (hy.drewN n) (by omega))
  | star z x ihx =>
    rintro w S b ⟨_, p, hb, hx⟩ hs
    simp only [placesC] at hs
    exact width_node (B := 0) hb (by decide) (by omega) (fun n => ihx (hx.drewN n) hs) (fun n => width_nil _)
theorem elem_event : Elem Tryz.prog 71 169 3 24 := by
  obtain ⟨i, hi, h0, h1, h2⟩ := info_parts (by kernel_rfl : (Tryz.prog.info? 169).map (fun i => (i.zero, i.size, i.bytes)) = some (some (.agg #[.int .i64 0, .int .i64 0, .int .i64 0]), 3, 24))
  exact ⟨i, _, Tryz.underlying71, hi, h0, h1, h2, rfl, by omega⟩
theorem elem_branch : Elem Tryz.prog 173 183 2 16 := by
  obtain ⟨i, hi, h0, h1, h2⟩ := info_parts (by kernel_rfl : (Tryz.prog.info? 183).map (fun i => (i.zero, i.size, i.bytes)) = some (some (.agg #[.int .i64 0, .pointer none]), 2, 16))
  exact ⟨i, _, Tryz.underlying173, hi, h0, h1, h2, rfl, by omega⟩
theorem one_event (a b c : Int) : ∀ u ∈ [Value.int .i64 a, Value.int .i64 b, Value.int .i64 c], u.oneCell' = true := by
  intro u hu
  simp only [List.mem_cons, List.not_mem_nil, or_false] at hu
  rcases hu with rfl | rfl | rfl <;> rfl
theorem one_branch (n : Int) (b : Option Addr) : ∀ u ∈ [Value.int .i64 n, Value.pointer b], u.oneCell' = true := by
  intro u hu
  simp only [List.mem_cons, List.not_mem_nil, or_false] at hu
  rcases hu with rfl | rfl <;> rfl
def TraIs (w0 w w' : World) (fb : Nat) (s : ByteArray) (limit : Nat) (T : Td) (lv bv : Value) : Prop := ∃ lv' bv' cs', TraAt w0 w' fb s limit T lv' bv' cs' ∧ Keep w (SX fb lv bv) w' (SX fb lv' bv')
set_option maxHeartbeats 4000000 in
theorem tadd_at {w0 w : World} {fb : Nat} {s : ByteArray} {limit : Nat} {T : Td} {lv bv : Value} {cs : List Value} (h : TraAt w0 w fb s limit T lv bv cs) (k pos : Nat) (p : Int) (hlen : T.l.length ≤ 1000000000) :
    Calls Tryz.prog 200 #[.pointer (some ⟨fb, 0, none⟩), .int .i64 ((k : Nat) : Int), .int .i64 ((pos : Nat) : Int), .int .i64 p] w fun e w' => (∃ r, e = .returned r) ∧ TraIs w0 w w' fb s limit (T.add k pos p) lv bv := by
  obtain ⟨⟨c0, -, -, -, -, -, -⟩, f0, -, -, -, -⟩ := h.cells
  have hfl := h.blk.lt
  have H := Lib.hid h
  clear h
  go_enter Tryz.func200, Tryz.ntmps200
  go_wp2_with (at_builtin; refine append_far rfl (.tmp 13) (.tmp 18) 71 rfl (fb + 1) 169 3 24 elem_event _ _ _ rfl H.out.evs [.int .i64 ((k : Nat) : Int), .int .i64 ((pos : Nat) : Int), .int .i64 p] rfl rfl (one_event _ _ _) ?g1 ?g2 ?g3 ?g4; (case g1 => omega); (case g2 => omega); (case g3 => omega); intro g5 cap5 w5 hown5 hmv; have hk5 := hmv.blk H.out.blk H.out.evs (Nat.lt_succ_self fb); have f05 := hk5.frozen 0; have c05 : w5.cell? ⟨fb, 0, none⟩ = some lv := hk5.cell 0; have hl5 := hk5.lt; have HM5 := Lib.hid hmv; have HO5 := Lib.hid hown5; clear hmv hown5 hk5)
  go_returns
  obtain ⟨hF, hK⟩ := H.out.added (e := ⟨k, pos, p⟩) (Below.refl _ _) HO5.out HM5.out
  exact ⟨⟨_, rfl⟩, _, _, _, hF, hK⟩
set_option maxHeartbeats 4000000 in
theorem later_at {w0 w : World} {fb : Nat} {s : ByteArray} {limit : Nat} {T : Td} {lv bv : Value} {cs : List Value} (h : TraAt w0 w fb s limit T lv bv cs) {p : Br} {v : Value} (hv : TodoAt 181 w (SX fb lv bv) p.todo v) (hlen : T.back.length ≤ 1000000000) :
    Calls Tryz.prog 105 #[.pointer (some ⟨fb, 0, none⟩), .int .i64 ((p.pos : Nat) : Int), v] w fun e w' => (∃ r, e = .returned r) ∧ TraIs w0 w w' fb s limit (T.later [p]) lv bv := by
  obtain ⟨vo, rfl, -⟩ := hv.form
  obtain ⟨⟨-, -, -, -, -, -, c6⟩, -, -, -, -, f6⟩ := h.cells
  have hfl := h.blk.lt
  have H := Lib.hid h
  have HV := Lib.hid hv
  clear h hv
  generalize hpp : p.pos = pos at *
  have HP := Lib.hid hpp
  clear hpp
  go_enter Tryz.func105, Tryz.ntmps105
  go_wp2_with (at_builtin; refine append_far rfl (.tmp 10) (.tmp 14) 173 rfl (fb + 1) 183 2 16 elem_branch _ _ _ rfl H.out.back [.int .i64 ((pos : Nat) : Int), .pointer vo] rfl rfl (one_branch _ _) ?g1 ?g2 ?g3 ?g4; (case g1 => omega); (case g2 => omega); (case g3 => omega); intro g5 cap5 w5 hown5 hmv; have hk5 := hmv.blk H.out.blk H.out.back (Nat.lt_succ_self fb); have f65 := hk5.frozen 6; have c65 : w5.cell? ⟨fb, 6, none⟩ = some bv := hk5.cell 6; have hl5 := hk5.lt; have HM5 := Lib.hid hmv; have HO5 := Lib.hid hown5; clear hmv hown5 hk5)
  go_returns
  obtain ⟨hF, hK⟩ := H.out.latered (p := p) (Below.refl _ _) HV.out (by rw [HP.out]; exact HO5.out) HM5.out
  exact ⟨⟨_, rfl⟩, _, _, _, hF, hK⟩
set_option maxHeartbeats 4000000 in
theorem tend_at {w0 w : World} {fb : Nat} {s : ByteArray} {limit : Nat} {T : Td} {lv bv : Value} {cs : List Value} (h : TraAt w0 w fb s limit T lv bv cs) (pos : Nat) (hlen : T.l.length ≤ 1000000000) :
    Calls Tryz.prog 153 #[.pointer (some ⟨fb, 0, none⟩), .int .i64 ((pos : Nat) : Int)] w fun e w' => (∃ r, e = .returned r) ∧ TraIs w0 w w' fb s limit (endT s.size pos T) lv bv := by
  obtain ⟨R, hR⟩ : ∃ R, endT s.size pos T = R := ⟨_, rfl⟩
  rw [hR]
  have HR := Lib.hid hR
  clear hR
  obtain ⟨⟨-, -, -, -, c4, -, -⟩, -, -, -, -, -⟩ := h.cells
  have hfl := h.blk.lt
  have H := Lib.hid h
  clear h
  by_cases hp : pos < s.size
  · have HE := Lib.hid (show R = T.add 2 pos (-1) by rw [← HR.out]; unfold endT; rw [if_pos hp])
    have hd : decide (pos < s.size) = true := decide_eq_true hp
    go_enter Tryz.func153, Tryz.ntmps153
    go_wp2_with fail
    refine (tadd_at H.out 2 pos (-1) hlen).mono ?_
    rintro e w2 ⟨⟨r2, rfl⟩, lv2, bv2, cs2, hF2, hK2⟩
    have HF2 := Lib.hid hF2
    have HK2 := Lib.hid hK2
    clear hF2 hK2 c4
    go_wp2
    go_returns
    rw [HE.out]
    exact ⟨⟨_, rfl⟩, _, _, _, HF2.out, HK2.out⟩
  · have HE := Lib.hid (show R = { (T.add 1 pos (-1)) with found := true } by rw [← HR.out]; unfold endT; rw [if_neg hp])
    have hd : decide (pos < s.size) = false := decide_eq_false hp
    go_enter Tryz.func153, Tryz.ntmps153
    go_wp2_with fail
    refine (tadd_at H.out 1 pos (-1) hlen).mono ?_
    rintro e w2 ⟨⟨r2, rfl⟩, lv2, bv2, cs2, hF2, hK2⟩
    have HF2 := Lib.hid hF2
    have HK2 := Lib.hid hK2
    obtain ⟨⟨-, -, c2, -, -, -, -⟩, -, -, f2, -, -⟩ := hF2.cells
    have hfl2 := hF2.blk.lt
    clear hF2 hK2 c4
    go_wp2
    go_returns
    obtain ⟨hF, hK⟩ := HF2.out.put 2 (.bool true) (T' := { (T.add 1 pos (-1)) with found := true }) rfl rfl rfl
    rw [HE.out]
    exact ⟨⟨_, rfl⟩, _, _, _, hF, HK2.out.trans hK⟩
end Go.Proofs.YtpiimcbbgalhfaaGreatDoor
/- Traces: star, read. -/
namespace Go.Proofs.YtpiimcbbgalhfaaGreatDoor
set_option maxRecDepth 100000
open Go.RowKit
set_option maxHeartbeats 8000000 in
theorem tstar_at {w0 w : World} {fb : Nat} {s : ByteArray} {limit : Nat} {T : Td} {lv bv : Value} {cs : List Value} (h : TraAt w0 w fb s limit T lv bv cs) {z : Bool} {a : CT} {f pos g : Nat} {rest : List It} {v : Value}
    (hc : CoreAt w (SX fb lv bv) (.star z a) g) (hv : TodoAt 181 w (SX fb lv bv) rest v) (hlen : T.back.length + 1 ≤ 1000000000) :
    Calls Tryz.prog 154 #[.pointer (some ⟨fb, 0, none⟩), .agg #[cptr g, .int .i64 ((f : Nat) : Int)], .int .i64 ((pos : Nat) : Int), v] w fun e w' => (∃ r, e = .returned r) ∧ TraIs w0 w w' fb s limit (T.later (starB z a f pos rest)) lv bv := by
  obtain ⟨vo, rfl, -⟩ := hv.form
  obtain ⟨hSg, pa, hbg, hca⟩ := hc
  have hB1 : Below w.heap.size w (w.alloc (.cells #[cptr g, .int .i64 ((f : Nat) : Int)] 179)) := (Below.refl _ w).alloc (Nat.le_refl _) _
  have HST := Lib.hid ((St.nil w).alloc rfl [cptr g, .int .i64 ((f : Nat) : Int)] 179)
  have HB1 := Lib.hid hB1
  have H := Lib.hid h
  have HV := Lib.hid hv
  have HCA := Lib.hid hca
  have HBG := Lib.hid (And.intro hSg hbg)
  clear h hv hca hbg hSg hB1
  go_enter Tryz.func154, Tryz.ntmps154
  go_upto_region 1 with fail
  generalize hw1 : w.alloc _ = w1 at *
  clear hw1
  have q0 := (HST.out.get 0 rfl).cell 0
  have q1 := (HST.out.get 0 rfl).cell 1
  have ql := (HST.out.get 0 rfl).lt
  simp only [List.getElem?_cons_zero, List.getElem?_cons_succ] at q0 q1
  have hbg1 := HBG.out.2.below HB1.out HBG.out.2.lt
  have g6 : w1.cell? ⟨g, 6, none⟩ = some (cptr pa) := hbg1.cell 6
  have hgl := hbg1.lt
  clear hbg1
  go_region_held3 (fun xw => xw.cell? ⟨w.heap.size, 0, none⟩ = some (cptr g) ∧ xw.cell? ⟨w.heap.size, 1, none⟩ = some (.int .i64 ((f : Nat) : Int)) ∧ xw.cell? ⟨g, 6, none⟩ = some (cptr pa)) (go_keep) (first | fail)
  all_goals
    have st4 := ((HST.out.alloc (n := w1.heap.size) rfl [cptr g, .int .i64 ((f : Nat) : Int), .bool true, .int .i64 ((pos : Nat) : Int), .pointer vo] 181).alloc (n := w1.heap.size + 1) (by simp) [cptr pa, .int .i64 ((f : Nat) : Int), .bool false, .int .i64 0, .pointer (some ⟨w1.heap.size, 0, none⟩)] 181).drew
    have HS1 := Lib.hid HB1.out.size
    clear q0 q1 ql g6 hgl
    generalize World.drew ((w1.alloc _).alloc _) = w4 at *
    have hF4 := H.out.under st4.below
    have hK4 := Keep.below (S := SX fb lv bv) st4.below
    have hn1 : SX fb lv bv w1.heap.size := H.out.new HS1.out
    have hn2 : SX fb lv bv (w1.heap.size + 1) := H.out.new (Nat.le_succ_of_le HS1.out)
    have hbg4 := HBG.out.2.below st4.below HBG.out.2.lt
    have hown : TodoAt 181 w4 (SX fb lv bv) (.fresh a f :: .loop z a f pos :: rest) (.pointer (some ⟨w1.heap.size + 1, 0, none⟩)) :=
      ⟨_, pa, _, rfl, hn2, st4.get 0 rfl, HCA.out.keep hK4, _, g, _, rfl, hn1, st4.get 1 rfl, ⟨(hK4.2 g HBG.out.1 HBG.out.2.lt).2, pa, hbg4, HCA.out.keep hK4⟩, HV.out.keep hK4⟩
    have q0 := (st4.get 2 rfl).cell 0
    have ql := (st4.get 2 rfl).lt
    simp only [List.getElem?_cons_zero] at q0
    have g5 : w4.cell? ⟨g, 5, none⟩ = some (.bool z) := hbg4.cell 5
    have hgl := hbg4.lt
    have HF4 := Lib.hid hF4
    have HOWN := Lib.hid hown
    have HR4 := Lib.hid (HV.out.keep hK4)
    have HK4 := Lib.hid hK4
    clear hF4 hK4 hn1 hn2 hown st4 hbg4
    cases z with
    | true =>
      go_wp2_with fail
      refine (later_at (p := ⟨pos, .fresh a f :: .loop true a f pos :: rest⟩) HF4.out HOWN.out (by omega)).mono ?_
      rintro e w5 ⟨⟨r5, rfl⟩, lv5, bv5, cs5, hF5, hK5⟩
      have HF5 := Lib.hid hF5
      have HR5 := Lib.hid (HR4.out.keep hK5)
      have HK5 := Lib.hid (HK4.out.trans hK5)
      have hlen5 : (T.later [⟨pos, .fresh a f :: .loop true a f pos :: rest⟩]).back.length ≤ 1000000000 := by simp [Td.later]; omega
      clear hF5 hK5 q0 ql g5 hgl
      go_wp2_with fail
      refine (later_at (p := ⟨pos, rest⟩) HF5.out HR5.out hlen5).mono ?_
      rintro e w6 ⟨⟨r6, rfl⟩, lv6, bv6, cs6, hF6, hK6⟩
      have HF6 := Lib.hid hF6
      have HK6 := Lib.hid (HK5.out.trans hK6)
      clear hF6 hK6
      go_wp2
      go_returns
      refine ⟨⟨_, rfl⟩, lv6, bv6, cs6, ?_, HK6.out⟩
      have := HF6.out
      simp only [Td.later, List.append_assoc, List.cons_append, List.nil_append] at this
      exact this
    | false =>
      go_wp2_with fail
      refine (later_at (p := ⟨pos, rest⟩) HF4.out HR4.out (by omega)).mono ?_
      rintro e w5 ⟨⟨r5, rfl⟩, lv5, bv5, cs5, hF5, hK5⟩
      have HF5 := Lib.hid hF5
      have HO5 := Lib.hid (HOWN.out.keep hK5)
      have HK5 := Lib.hid (HK4.out.trans hK5)
      have hlen5 : (T.later [⟨pos, rest⟩]).back.length ≤ 1000000000 := by simp [Td.later]; omega
      clear hF5 hK5 q0 ql g5 hgl
      go_wp2_with fail
      refine (later_at (p := ⟨pos, .fresh a f :: .loop false a f pos :: rest⟩) HF5.out HO5.out hlen5).mono ?_
      rintro e w6 ⟨⟨r6, rfl⟩, lv6, bv6, cs6, hF6, hK6⟩
      have HF6 := Lib.hid hF6
      have HK6 := Lib.hid (HK5.out.trans hK6)
      clear hF6 hK6
      go_wp2
      go_returns
      refine ⟨⟨_, rfl⟩, lv6, bv6, cs6, ?_, HK6.out⟩
      have := HF6.out
      simp only [Td.later, List.append_assoc, List.cons_append, List.nil_append] at this
      exact this
theorem read_no {s : List UInt8} {limit : Nat} {m : Nat → Bool} {f pos : Nat} {rest : List It} {T : Td} (h : s[pos]? = none) : readT s limit m f pos rest T = T.add 3 pos (f : Int) := by unfold readT; rw [h]
theorem read_not {s : List UInt8} {limit : Nat} {m : Nat → Bool} {f pos : Nat} {rest : List It} {T : Td} {b : UInt8} (h : s[pos]? = some b) (hm : m b.toNat = false) : readT s limit m f pos rest T = T.add 3 pos (f : Int) := by unfold readT; rw [h]; simp only []; rw [if_neg (by simp [hm])]
theorem read_stop {s : List UInt8} {limit : Nat} {m : Nat → Bool} {f pos : Nat} {rest : List It} {T : Td} {b : UInt8} (h : s[pos]? = some b) (hm : m b.toNat = true) (hl : limit ≤ T.hits) : readT s limit m f pos rest T = { T with stopped := true } := by unfold readT; rw [h]; simp only []; rw [if_pos hm, if_pos hl]
theorem read_go {s : List UInt8} {limit : Nat} {m : Nat → Bool} {f pos : Nat} {rest : List It} {T : Td} {b : UInt8} (h : s[pos]? = some b) (hm : m b.toNat = true) (hl : ¬limit ≤ T.hits) : readT s limit m f pos rest T = (({ T with hits := T.hits + 1 } : Td).add 0 pos (f : Int)).later [⟨pos + 1, rest⟩] := by unfold readT; rw [h]; simp only []; rw [if_pos hm, if_neg hl]
set_option maxHeartbeats 8000000 in
theorem tread_at {w0 w : World} {fb : Nat} {s : ByteArray} {limit : Nat} {T : Td} {lv bv : Value} {cs : List Value} (h : TraAt w0 w fb s limit T lv bv cs) {m : Nat → Bool} {f pos g : Nat} {rest : List It} {v : Value}
    (hc : CoreAt w (SX fb lv bv) (.set m) g) (hv : TodoAt 181 w (SX fb lv bv) rest v) (hlen : T.back.length ≤ 1000000000) (hll : T.l.length + 1 ≤ 1000000000) (hs : s.size ≤ 1000000000) (hl : limit ≤ 1000000000) (hp : pos ≤ s.size) :
    Calls Tryz.prog 156 #[.pointer (some ⟨fb, 0, none⟩), .agg #[cptr g, .int .i64 ((f : Nat) : Int)], .int .i64 ((pos : Nat) : Int), v] w fun e w' => (∃ r, e = .returned r) ∧ TraIs w0 w w' fb s limit (readT s.data.toList limit m f pos rest T) lv bv := by
  obtain ⟨R, hR⟩ : ∃ R, readT s.data.toList limit m f pos rest T = R := ⟨_, rfl⟩
  rw [hR]
  have HR := Lib.hid hR
  clear hR
  obtain ⟨vo, rfl, -⟩ := hv.form
  have hB1 : Below w.heap.size w (w.alloc (.cells #[cptr g, .int .i64 ((f : Nat) : Int)] 179)) := (Below.refl _ w).alloc (Nat.le_refl _) _
  have HST := Lib.hid ((St.nil w).alloc rfl [cptr g, .int .i64 ((f : Nat) : Int)] 179)
  have HB1 := Lib.hid hB1
  have H := Lib.hid h
  have HV := Lib.hid hv
  have hF1 := h.under hB1
  have hbg1 := hc.2.below hB1 hc.2.lt
  have HSZ := Lib.hid (And.intro hlen (And.intro hs hl))
  clear h hv hc hB1 hlen hs hl
  go_enter Tryz.func156, Tryz.ntmps156
  go_upto_region 1 with fail
  generalize hw1 : w.alloc _ = w1 at *
  clear hw1
  have q0 := (HST.out.get 0 rfl).cell 0
  have ql := (HST.out.get 0 rfl).lt
  simp only [List.getElem?_cons_zero] at q0
  obtain ⟨⟨-, -, -, -, c4, -, -⟩, -, -, -, -, -⟩ := hF1.cells
  have hfl := hF1.blk.lt
  have hgl := hbg1.lt
  have k1 : w1.cell? ⟨g, 1, none⟩ = some (.int .u64 (word m 0)) := hbg1.cell 1
  have k2 : w1.cell? ⟨g, 2, none⟩ = some (.int .u64 (word m 1)) := hbg1.cell 2
  have k3 : w1.cell? ⟨g, 3, none⟩ = some (.int .u64 (word m 2)) := hbg1.cell 3
  have k4 : w1.cell? ⟨g, 4, none⟩ = some (.int .u64 (word m 3)) := hbg1.cell 4
  have HF1 := Lib.hid hF1
  clear hF1 hbg1
  by_cases hlt : pos < s.size
  · have hsp : s.data.toList[pos]? = some s[pos] := by
      rw [List.getElem?_eq_getElem (by simpa using hlt)]
      rfl
    obtain ⟨y, hy⟩ : ∃ y, m s[pos].toNat = y := ⟨_, rfl⟩
    have HH := Lib.hid (fun W => (has_any m ((s[pos].toNat : Nat) : Int) (by omega) (by have := s[pos].toNat_lt; omega) W).mono fun e w' ⟨h1, h2⟩ => ⟨by rw [h1, Int.toNat_natCast, hy], h2⟩ :
      ∀ W, Calls Tryz.prog 115 #[.agg #[.int .u64 (word m 0), .int .u64 (word m 1), .int .u64 (word m 2), .int .u64 (word m 3)], .int .u8 ((s[pos].toNat : Nat) : Int)] W fun e w' => e = .returned (.bool y) ∧ Below W.heap.size W w')
    have HSP := Lib.hid hsp
    have HY := Lib.hid hy
    have hd1 : decide (((s.size : Nat) : Int) ≤ ((pos : Nat) : Int)) = false := decide_eq_false (by omega)
    have hd2 : ((pos : Nat) : Int) < ((s.size : Nat) : Int) := by omega
    have hd3 : decide (s.size ≤ pos) = false := decide_eq_false (by omega)
    clear hsp hy
    go_wp2_with fail
    go_region_held3 (fun x => x.cell? ⟨w.heap.size, 0, none⟩ = some (cptr g) ∧ x.cell? ⟨fb, 4, none⟩ = some (.string s) ∧ x.cell? ⟨g, 1, none⟩ = some (.int .u64 (word m 0)) ∧ x.cell? ⟨g, 2, none⟩ = some (.int .u64 (word m 1)) ∧ x.cell? ⟨g, 3, none⟩ = some (.int .u64 (word m 2)) ∧ x.cell? ⟨g, 4, none⟩ = some (.int .u64 (word m 3))) (go_keep)
      (first | (go_at_call 115; refine (HH.out _).mono ?_; rintro e w8 ⟨rfl, hb8'⟩; have hb8 : Below w1.heap.size w1 w8 := (Below.refl _ w1).drew.trans hb8'; have z0 := (hb8.cell (p := ⟨w.heap.size, 0, none⟩) ql).trans q0; have z2 := (hb8.cell (p := ⟨fb, 4, none⟩) hfl).trans c4; have y1 := (hb8.cell (p := ⟨g, 1, none⟩) hgl).trans k1; have y2 := (hb8.cell (p := ⟨g, 2, none⟩) hgl).trans k2; have y3 := (hb8.cell (p := ⟨g, 3, none⟩) hgl).trans k3; have y4 := (hb8.cell (p := ⟨g, 4, none⟩) hgl).trans k4; have HB8 := Lib.hid hb8; clear hb8 hb8'))
    all_goals
      clear z0 z2 y1 y2 y3 y4 q0 ql c4 hfl hgl k1 k2 k3 k4 hd1 hd3
      have HF8 := Lib.hid (HF1.out.under HB8.out)
      have HB18 := Lib.hid (HB1.out.trans (HB8.out.mono HB1.out.size))
      have HST8 := Lib.hid (HST.out.below' HB8.out)
      clear HF1 HST HB8
      cases y with
      | false =>
        have q1 := (HST8.out.get 0 rfl).cell 1
        have ql := (HST8.out.get 0 rfl).lt
        simp only [List.getElem?_cons_zero, List.getElem?_cons_succ] at q1
        go_wp2_with fail
        refine (tadd_at HF8.out 3 pos ((f : Nat) : Int) (by omega)).mono ?_
        rintro e w9 ⟨⟨r9, rfl⟩, lv9, bv9, cs9, hF9, hK9⟩
        have HF9 := Lib.hid hF9
        have HK9 := Lib.hid hK9
        clear hF9 hK9 q1 ql
        go_wp2
        go_returns
        rw [← HR.out, read_not HSP.out HY.out]
        exact ⟨⟨_, rfl⟩, _, _, _, HF9.out, (Keep.below HB18.out).trans HK9.out⟩
      | true =>
        obtain ⟨⟨-, c1, -, -, -, c5, -⟩, -, -, -, -, -⟩ := HF8.out.cells
        have hfl := HF8.out.blk.lt
        by_cases hlim : limit ≤ T.hits
        · have HLM := Lib.hid hlim
          have hg1 : decide (limit ≤ T.hits) = true := decide_eq_true hlim
          clear hlim
          go_wp2_with fail
          go_quiet (fail)
          rename_i nq _
          clear c1 c5 hfl hg1
          have hq := below_drewN (Below.refl w8.heap.size w8) nq
          have hF9 := HF8.out.under hq
          have HK9 := Lib.hid (Keep.below (S := SX fb lv bv) (HB18.out.trans (hq.mono HB18.out.size)))
          generalize w8.drewN nq = w9 at *
          obtain ⟨⟨-, -, -, c3, -, -, -⟩, -, -, -, f3, -⟩ := hF9.cells
          have hfl := hF9.blk.lt
          have HF9 := Lib.hid hF9
          clear hF9 hq
          go_wp2
          go_returns
          obtain ⟨hF, hK⟩ := HF9.out.put 3 (.bool true) (T' := { T with stopped := true }) rfl rfl rfl
          rw [← HR.out, read_stop HSP.out HY.out HLM.out]
          exact ⟨⟨_, rfl⟩, lv, bv, cs, hF, HK9.out.trans hK⟩
        · have HLM := Lib.hid hlim
          have hg1 : decide (limit ≤ T.hits) = false := decide_eq_false hlim
          clear hlim
          go_wp2_with fail
          go_quiet (fail)
          rename_i nq _
          clear c1 c5 hfl hg1
          have hq := below_drewN (Below.refl w8.heap.size w8) nq
          have hF9 := HF8.out.under hq
          have HK9 := Lib.hid (Keep.below (S := SX fb lv bv) (HB18.out.trans (hq.mono HB18.out.size)))
          have HST9 := Lib.hid (HST8.out.below' hq)
          generalize w8.drewN nq = w9 at *
          obtain ⟨⟨-, c1, -, -, -, -, -⟩, -, f1, -, -, -⟩ := hF9.cells
          have hfl := hF9.blk.lt
          have HF9 := Lib.hid hF9
          clear hF9 hq HF8 HST8
          have hw5 : IntKind.i64.wrap (((T.hits : Nat) : Int) + 1) = ((T.hits : Nat) : Int) + 1 := IntWalk.i64_in _ (by have := HLM.out; have := HSZ.out.2.2; omega)
          go_upto_region 6 with fail
          obtain ⟨hF, hK⟩ := HF9.out.put 1 (.int .i64 (((T.hits : Nat) : Int) + 1)) (T' := { T with hits := T.hits + 1 }) rfl rfl rfl
          have hbb := (hK.2 w.heap.size (H.out.new (Nat.le_refl _)) (HST9.out.get 0 rfl).lt).1.trans (HST9.out.get 0 rfl)
          have HKw := Lib.hid (HK9.out.trans hK)
          have HF10 := Lib.hid hF
          clear hF hK c1 f1 hfl hw5
          generalize w9.setCell _ _ = w10 at *
          have hbb2 : Blk w10 w.heap.size 179 [cptr g, .int .i64 ((f : Nat) : Int)] := hbb
          have q1 : w10.cell? ⟨w.heap.size, 1, none⟩ = some (.int .i64 ((f : Nat) : Int)) := hbb2.cell 1
          have ql := hbb2.lt
          clear hbb hbb2
          go_wp2_with fail
          refine (tadd_at HF10.out 0 pos ((f : Nat) : Int) (by simp only []; omega)).mono ?_
          rintro e w11 ⟨⟨r11, rfl⟩, lv11, bv11, cs11, hF11, hK11⟩
          have HF11 := Lib.hid hF11
          have HV11 := Lib.hid ((HV.out.keep HKw.out).keep hK11)
          have HK11 := Lib.hid (HKw.out.trans hK11)
          have hw1 : IntKind.i64.wrap (((pos : Nat) : Int) + 1) = ((pos : Nat) : Int) + 1 := IntWalk.i64_in _ (by have := HSZ.out.2.1; omega)
          have HLT := Lib.hid (show Calls Tryz.prog 105 #[.pointer (some ⟨fb, 0, none⟩), .int .i64 (((pos : Nat) : Int) + 1), .pointer vo] w11 _ from later_at (p := ⟨pos + 1, rest⟩) hF11 HV11.out HSZ.out.1)
          clear hF11 hK11 q1 ql
          go_wp2_with fail
          refine HLT.out.mono ?_
          rintro e w12 ⟨⟨r12, rfl⟩, lv12, bv12, cs12, hF12, hK12⟩
          have HF12 := Lib.hid hF12
          have HK12 := Lib.hid (HK11.out.trans hK12)
          clear hF12 hK12
          go_wp2
          go_returns
          rw [← HR.out, read_go HSP.out HY.out HLM.out]
          exact ⟨⟨_, rfl⟩, lv12, bv12, cs12, HF12.out, HK12.out⟩
  · have HE := Lib.hid (read_no (limit := limit) (m := m) (f := f) (rest := rest) (T := T) (show s.data.toList[pos]? = none from List.getElem?_eq_none (by simp; exact Nat.le_of_not_lt hlt)))
    have hge : ((s.size : Nat) : Int) ≤ ((pos : Nat) : Int) := by omega
    have hd1 : decide (((s.size : Nat) : Int) ≤ ((pos : Nat) : Int)) = true := decide_eq_true hge
    go_wp2_with fail
    go_quiet (fail)
    rename_i nq _
    have hb2 := below_drewN (Below.refl w1.heap.size w1) nq
    have HF2 := Lib.hid (HF1.out.under hb2)
    have hst2 := HST.out.below' hb2
    have HB2 := Lib.hid (HB1.out.trans (hb2.mono HB1.out.size))
    clear q0 ql c4 hfl hgl k1 k2 k3 k4 hd1 hge hb2
    generalize w1.drewN nq = w2 at *
    have q1 := (hst2.get 0 rfl).cell 1
    have ql := (hst2.get 0 rfl).lt
    simp only [List.getElem?_cons_zero, List.getElem?_cons_succ] at q1
    clear hst2
    go_wp2_with fail
    refine (tadd_at HF2.out 3 pos ((f : Nat) : Int) (by omega)).mono ?_
    rintro e w9 ⟨⟨r9, rfl⟩, lv9, bv9, cs9, hF9, hK9⟩
    have HF9 := Lib.hid hF9
    have HK9 := Lib.hid hK9
    clear hF9 hK9 q1 ql
    go_wp2
    go_returns
    rw [← HR.out, HE.out]
    exact ⟨⟨_, rfl⟩, lv9, bv9, cs9, HF9.out, (Keep.below HB2.out).trans HK9.out⟩
end Go.Proofs.YtpiimcbbgalhfaaGreatDoor
