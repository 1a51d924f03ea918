/- Several rows of the call's own side by side: one is appended to, the others stay. No program in sight. -/
import Derived.Test.YtanimknpnniabaaMem
import Derived.Deep.AppendLies
namespace Go.Proofs.Ytanimknpnniabaa
open Go.RowKit
/-- v's row has turned, nothing else that was there; its new block is g. -/
structure Moved (W w' : World) (v : Value) (g : Nat) : Prop where
  os : w'.os = W.os
  tape : w'.tape = W.tape
  output : w'.output = W.output
  size : W.heap.size ≤ w'.heap.size
  keep : ∀ k, k < W.heap.size → v.ownBlock ≠ some k → w'.heap[k]? = W.heap[k]?
  lies : v.ownBlock = some g ∨ W.heap.size ≤ g
def Apart (u v : Value) : Prop := ∀ g, u.ownBlock = some g → v.ownBlock ≠ some g
theorem Apart.symm {u v : Value} (h : Apart u v) : Apart v u := fun g hv hu => h g hu hv
theorem apart_nil (v : Value) : Apart (.slice none 0 0) v := fun g h => by cases h
theorem Moved.below {W W0 w' : World} {v : Value} {g B : Nat} (h : Moved W w' v g) (hb : Below B W0 W) (hB : B ≤ W.heap.size) (hv : ∀ k, v.ownBlock = some k → B ≤ k) : Below B W0 w' :=
  hb.trans ⟨h.os, h.tape, h.output, h.size, fun k hk => h.keep k (by omega) (fun e => by have := hv k e; omega)⟩
theorem Moved.own {W w' : World} {v u : Value} {g base n size : Nat} {e : TypeId} {xs : List Value} (h : Moved W w' v g) (hu : W.ownsRow base e size u n xs) (ha : Apart u v) : w'.ownsRow base e size u n xs := by
  obtain ⟨h1, h2⟩ := hu
  refine ⟨h1, ?_⟩
  rcases h2 with h2 | ⟨b, cap, cur, rfl, hb, hg, h3⟩
  · exact .inl h2
  · exact .inr ⟨b, cap, cur, rfl, hb, (h.keep b (Array.getElem?_eq_some_iff.1 hg).1 (ha b rfl)).trans hg, h3⟩
theorem Moved.apart {W w' : World} {v u : Value} {g base n size : Nat} {e : TypeId} {xs : List Value} (h : Moved W w' v g) (hu : W.ownsRow base e size u n xs) (ha : Apart u v) (len cap : Nat) : Apart u (.slice (some ⟨g, 0, none⟩) len cap) := by
  intro b hub hgb
  have hbg : g = b := by injection hgb
  subst hbg
  rcases h.lies with hl | hl
  · exact ha g hub hl
  · have := (hu.lt g hub).2
    omega
/-- 'v = append(v, x)', v one of several rows. -/
theorem append_far {P : Program} {W : World} {ops : Array Oper} {rest : List Oper} {o : Oper} {a : Act} {Q : Exit → Act → World → Prop} (hgd : o.guard = none) (s x : Operand) (t : TypeId)
    (ho : o.op = .call { callee := .builtin .append, args := #[s, x], argTypes := #[t, t] }) (base : Nat) (e : TypeId) (size bytes : Nat) (he : Elem P t e size bytes)
    (v : Value) (n : Nat) (xs : List Value) (hs : a.eval s = v) (hown : W.ownsRow base e size v n xs) (news : List Value) (hx : a.eval x = .slice (some ⟨W.heap.size, 0, none⟩) 1 1)
    (hl : news.length = size) (h1 : ∀ u ∈ news, u.oneCell' = true) (h63 : n + 1 ≤ 9223372036854775807) (hbytes : (n + 1) * bytes ≤ 140737488355328) (hbase : base ≤ W.heap.size)
    (h : ∀ g cap w', w'.ownsRow base e size (.slice (some ⟨g, 0, none⟩) (n + 1) cap) (n + 1) (xs ++ news) → Moved W w' v g → wpList P ops Q rest (a.put o.dst (.slice (some ⟨g, 0, none⟩) (n + 1) cap)) w') : wpList P ops Q (o :: rest) a (W.alloc (.cells news.toArray e)) := by
  obtain ⟨i, z, ht, hi, hz, hsize, hby, hzs, hsz⟩ := he
  refine wpList_append_lies (w := W.alloc (.cells news.toArray e)) hgd s x t ho base e i z size bytes ht hi hz hsize hby hzs hsz v n xs hs (hown.alloc _) ⟨W.heap.size, 0, none⟩ 1 1 news hx (by omega) ?_ h1 (by omega) h63 hbytes (by simp; omega) _ rfl ?_
  · intro j u hu
    rw [show (⟨W.heap.size, 0, none⟩ : Addr).add j = ⟨W.heap.size, j, none⟩ by unfold Addr.add; split <;> simp_all]
    rw [(Blk.new W news e).cell j, hu]
  · intro g cap w' hown' hg hlie _
    have hsz' : (W.alloc (.cells news.toArray e)).heap.size = W.heap.size + 1 := by simp
    refine h g cap w' hown' ⟨hg.os, hg.tape, hg.output, by have := hg.size; omega, fun k hk hne => ?_, ?_⟩
    · exact (hg.block k (by omega) (fun e => hne e.symm)).trans (Below.heap_alloc W _ k hk)
    · rcases hlie with h | h
      · exact .inl h
      · exact .inr (by omega)
/-- Four rows of one-cell elements of type e. -/
structure Rows4 (w : World) (base : Nat) (e : TypeId) (v1 v2 v3 v4 : Value) (l1 l2 l3 l4 : List Value) : Prop where
  o1 : w.ownsRow base e 1 v1 l1.length l1
  o2 : w.ownsRow base e 1 v2 l2.length l2
  o3 : w.ownsRow base e 1 v3 l3.length l3
  o4 : w.ownsRow base e 1 v4 l4.length l4
  a12 : Apart v1 v2
  a13 : Apart v1 v3
  a14 : Apart v1 v4
  a23 : Apart v2 v3
  a24 : Apart v2 v4
  a34 : Apart v3 v4
theorem Rows4.nil (w : World) (base : Nat) (e : TypeId) : Rows4 w base e (.slice none 0 0) (.slice none 0 0) (.slice none 0 0) (.slice none 0 0) [] [] [] [] :=
  ⟨World.ownsRow_nil _ _ _ _, World.ownsRow_nil _ _ _ _, World.ownsRow_nil _ _ _ _, World.ownsRow_nil _ _ _ _, apart_nil _, apart_nil _, apart_nil _, apart_nil _, apart_nil _, apart_nil _⟩
theorem Rows4.below {w w' : World} {base : Nat} {e : TypeId} {v1 v2 v3 v4 : Value} {l1 l2 l3 l4 : List Value} (h : Rows4 w base e v1 v2 v3 v4 l1 l2 l3 l4) (hb : Below w.heap.size w w') : Rows4 w' base e v1 v2 v3 v4 l1 l2 l3 l4 :=
  ⟨own_below h.o1 hb, own_below h.o2 hb, own_below h.o3 hb, own_below h.o4 hb, h.a12, h.a13, h.a14, h.a23, h.a24, h.a34⟩
/-- The first row has grown; and the next one stands first. -/
theorem Rows4.step {w w' : World} {base : Nat} {e : TypeId} {v1 v2 v3 v4 : Value} {l1 l2 l3 l4 : List Value} (h : Rows4 w base e v1 v2 v3 v4 l1 l2 l3 l4) {g cap : Nat} {x : Value}
    (hn : w'.ownsRow base e 1 (.slice (some ⟨g, 0, none⟩) (l1.length + 1) cap) (l1.length + 1) (l1 ++ [x])) (hm : Moved w w' v1 g) :
    Rows4 w' base e v2 v3 v4 (.slice (some ⟨g, 0, none⟩) (l1.length + 1) cap) l2 l3 l4 (l1 ++ [x]) :=
  ⟨hm.own h.o2 h.a12.symm, hm.own h.o3 h.a13.symm, hm.own h.o4 h.a14.symm, by simpa using hn, h.a23, h.a24, hm.apart h.o2 h.a12.symm _ _, h.a34, hm.apart h.o3 h.a13.symm _ _, hm.apart h.o4 h.a14.symm _ _⟩
theorem Rows4.far {w : World} {base : Nat} {e : TypeId} {v1 v2 v3 v4 : Value} {l1 l2 l3 l4 : List Value} (h : Rows4 w base e v1 v2 v3 v4 l1 l2 l3 l4) {p : Addr} (hp : p.block < base) (u : Value) : Rows4 (w.setCell p u) base e v1 v2 v3 v4 l1 l2 l3 l4 :=
  ⟨ownsRow_setCell_below h.o1 hp u, ownsRow_setCell_below h.o2 hp u, ownsRow_setCell_below h.o3 hp u, ownsRow_setCell_below h.o4 hp u, h.a12, h.a13, h.a14, h.a23, h.a24, h.a34⟩
/-- A row that grows lies beyond what stood there: that is as it was, but for block f. -/
theorem Moved.only {a W w' : World} {v : Value} {g f base n size : Nat} {e : TypeId} {xs : List Value} (h : Moved W w' v g) (ha : a.grownBy W (some f)) (hv : W.ownsRow base e size v n xs) (hb : a.heap.size ≤ base) : a.grownBy w' (some f) :=
  ⟨h.os.trans ha.os, h.tape.trans ha.tape, h.output.trans ha.output, Nat.le_trans ha.size h.size, fun k hk hne => (h.keep k (Nat.lt_of_lt_of_le hk ha.size) (fun e => by have := (hv.lt k e).1; omega)).trans (ha.block k hk hne)⟩
theorem Moved.blk {W w' : World} {v : Value} {g b base n size : Nat} {e t : TypeId} {xs cs : List Value} (h : Moved W w' v g) (hblk : Blk W b t cs) (hv : W.ownsRow base e size v n xs) (hb : b < base) : Blk w' b t cs :=
  (h.keep b hblk.lt (fun e => by have := (hv.lt b e).1; omega)).trans hblk
/-- What stays while rows from 'base' on grow: blocks that are known whole, and all that was there ahead of the call. -/
structure Stay (w : World) (base : Nat) (bs : List (Nat × TypeId × List Value)) (wr : World) : Prop where
  blk : ∀ p ∈ bs, Blk wr p.1 p.2.1 p.2.2
  low : ∀ p ∈ bs, p.1 < base
  below : Below w.heap.size w wr
  size : base ≤ wr.heap.size
  old : w.heap.size ≤ base
theorem Stay.moved {w wr w' : World} {base : Nat} {bs : List (Nat × TypeId × List Value)} (h : Stay w base bs wr) {v : Value} {g n size : Nat} {e : TypeId} {xs : List Value} (hm : Moved wr w' v g) (hv : wr.ownsRow base e size v n xs) : Stay w base bs w' :=
  ⟨fun p hp => hm.blk (h.blk p hp) hv (h.low p hp), h.low, hm.below h.below (Nat.le_trans h.old h.size) (fun k hk => Nat.le_trans h.old (hv.lt k hk).1), Nat.le_trans h.size hm.size, h.old⟩
theorem Stay.below' {w wr w' : World} {base : Nat} {bs : List (Nat × TypeId × List Value)} (h : Stay w base bs wr) (hb : Below wr.heap.size wr w') : Stay w base bs w' :=
  ⟨fun p hp => (h.blk p hp).below hb (h.blk p hp).lt, h.low, h.below.trans (hb.mono h.below.size), Nat.le_trans h.size hb.size, h.old⟩
/-- A store into the last of the blocks. -/
theorem Stay.set {w wr : World} {base g : Nat} {t : TypeId} {cs : List Value} {bs : List (Nat × TypeId × List Value)} (h : Stay w base ((g, t, cs) :: bs) wr) (hne : ∀ p ∈ bs, p.1 ≠ g) (hg : w.heap.size ≤ g) (j : Nat) (u : Value) : Stay w base ((g, t, cs.set j u) :: bs) (wr.setCell ⟨g, j, none⟩ u) := by
  refine ⟨fun p hp => ?_, fun p hp => ?_, h.below.setCell (p := ⟨g, j, none⟩) hg u, by simpa [World.setCell] using h.size, h.old⟩
  · rcases List.mem_cons.1 hp with rfl | hp
    · exact (h.blk (g, t, cs) (by simp)).set j u
    · exact (h.blk p (by simp [hp])).far (p := ⟨g, j, none⟩) (hne p hp) u
  · rcases List.mem_cons.1 hp with rfl | hp
    · exact h.low (g, t, cs) (by simp)
    · exact h.low p (by simp [hp])
end Go.Proofs.Ytanimknpnniabaa
