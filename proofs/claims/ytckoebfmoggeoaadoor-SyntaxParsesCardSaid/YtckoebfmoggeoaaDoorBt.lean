/- Trees by value: how the reference's trees lie. -/
import Derived.Test.YtckoebfmoggeoaaDoorBb
import Derived.Test.YtckoebfmoggeoaaDoorBe
namespace Go.Proofs.YtckoebfmoggeoaaDoor
set_option maxRecDepth 100000
open Go.RowKit
/-- The cells are the tree's node; the rows of its parts lie in blocks of S. -/
inductive RefT (w : World) (S : Nat → Prop) : Tree → List Value → Prop
  | mk {k : Int} {set : Nat → Bool} {lo hi : Int} {lazy : Bool} {kids : List Tree} {f t ga c : Nat} {A : Option Addr} {css : List (List Value)} (hl : css.length = kids.length) (hm : kids.length ≤ 1048577)
      (hA : kids ≠ [] → A = some ⟨ga, 0, none⟩ ∧ S ga) (hc : ∀ (i : Nat) (cs : List Value), css[i]? = some cs → ∀ (j : Nat) (v : Value), cs[j]? = some v → w.cell? ⟨ga, i * 11 + j, none⟩ = some v)
      (hk : ∀ (i : Nat) (n : Tree) (cs : List Value), kids[i]? = some n → css[i]? = some cs → RefT w S n cs) : RefT w S (.mk k set lo hi lazy kids f t) (nodeL k set lo hi lazy (.slice A kids.length c) f t)
theorem RefT.len {w : World} {S : Nat → Prop} {n : Tree} {cs : List Value} (h : RefT w S n cs) : cs.length = 11 := by
  cases h
  rfl
theorem RefT.turn {w w' : World} {S S' : Nat → Prop} {n : Tree} {cs : List Value} (h : RefT w S n cs) (hw : ∀ k, S k → k < w.heap.size → w'.heap[k]? = w.heap[k]?) (hS : ∀ k, S k → k < w.heap.size → S' k) : RefT w' S' n cs := by
  induction h with
  | @mk k set lo hi lazy kids f t ga c A css hl hm hA hc hk ih =>
    have hga : kids ≠ [] → S ga ∧ ga < w.heap.size := fun hne => by
      refine ⟨(hA hne).2, ?_⟩
      cases css with
      | nil => exact absurd (List.eq_nil_of_length_eq_zero (by rw [← hl]; rfl)) hne
      | cons cs0 _ =>
        have h0 : 0 < kids.length := List.length_pos_iff.2 hne
        have hlen := (hk 0 kids[0] cs0 (List.getElem?_eq_getElem h0) rfl).len
        exact cell_lt0 (hc 0 cs0 rfl 0 cs0[0] (List.getElem?_eq_getElem (by omega)))
    refine .mk (ga := ga) (css := css) hl hm (fun h => ⟨(hA h).1, hS ga (hga h).1 (hga h).2⟩) (fun i cs hi j v hj => ?_) (fun i n cs hn hi => ih i n cs hn hi)
    have hne : kids ≠ [] := by
      intro e
      rw [e] at hl
      rw [List.eq_nil_of_length_eq_zero hl] at hi
      cases hi
    rw [← hc i cs hi j v hj]
    exact World.cell?_of_block (hw ga (hga hne).1 (hga hne).2)
theorem RefT.under {w w' : World} {S : Nat → Prop} {n : Tree} {cs : List Value} (h : RefT w S n cs) (hb : Below w.heap.size w w') : RefT w' S n cs := h.turn (fun k _ hk => hb.block k hk) (fun _ h _ => h)
theorem RefT.mono {w : World} {S S' : Nat → Prop} {n : Tree} {cs : List Value} (h : RefT w S n cs) (hS : ∀ k, S k → k < w.heap.size → S' k) : RefT w S' n cs := h.turn (fun _ _ _ => rfl) hS
theorem RefT.only {w w' : World} {S : Nat → Prop} {n : Tree} {cs : List Value} {p : Nat} (h : RefT w S n cs) (hg : w.grownBy w' (some p)) (hp : ∀ k, S k → k ≠ p) : RefT w' S n cs :=
  h.turn (fun k hS hk => hg.block k hk (fun e => hp k hS (by injection e))) (fun _ h _ => h)
theorem RefT.one {w : World} {S : Nat → Prop} {n : Tree} {cs : List Value} (h : RefT w S n cs) : ∀ u ∈ cs, u.oneCell' = true := by
  cases h
  intro u hu
  simp only [nodeL, List.mem_cons, List.not_mem_nil, or_false] at hu
  rcases hu with rfl | rfl | rfl | rfl | rfl | rfl | rfl | rfl | rfl | rfl | rfl <;> rfl
/-- The node, and its parts. -/
theorem RefT.node {w : World} {S : Nat → Prop} {n : Tree} {cs : List Value} (h : RefT w S n cs) : ∃ A c, cs = nodeL n.kind n.set n.lo n.hi n.lazy (.slice A n.kids.length c) n.f n.t ∧ n.kids.length ≤ 1048577 ∧
    (∀ i x, n.kids[i]? = some x → ∃ ga cs', A = some ⟨ga, 0, none⟩ ∧ ga < w.heap.size ∧ S ga ∧ (∀ (j : Nat) (v : Value), cs'[j]? = some v → w.cell? ⟨ga, i * 11 + j, none⟩ = some v) ∧ RefT w S x cs') := by
  cases h with
  | @mk k set lo hi lazy kids f t ga c A css hl hm hA hc hk =>
    refine ⟨A, c, rfl, hm, fun i x hx => ?_⟩
    have hi : i < css.length := by rw [hl]; exact (List.getElem?_eq_some_iff.1 hx).1
    have hne : kids ≠ [] := by intro e; rw [e] at hl; rw [hl] at hi; exact absurd hi (Nat.not_lt_zero _)
    have hcs := List.getElem?_eq_getElem hi
    have ht := hk i x _ hx hcs
    have hlen := ht.len
    exact ⟨ga, css[i], (hA hne).1, cell_lt0 (hc i _ hcs 0 _ (List.getElem?_eq_getElem (by omega))), (hA hne).2, hc i _ hcs, ht⟩
theorem flat_get {css : List (List Value)} (h11 : ∀ cs ∈ css, cs.length = 11) : ∀ {i j : Nat} {cs : List Value} {v : Value}, css[i]? = some cs → cs[j]? = some v → css.flatten[i * 11 + j]? = some v := by
  induction css with
  | nil => intro i j cs v h; cases h
  | cons c css ih =>
    intro i j cs v h hj
    have hc := h11 c (by simp)
    rcases i with - | i
    · injection h with h
      subst h
      rw [List.flatten_cons, Nat.zero_mul, Nat.zero_add, List.getElem?_append_left (List.getElem?_eq_some_iff.1 hj).1]
      exact hj
    · rw [List.flatten_cons, List.getElem?_append_right (by omega), hc, show (i + 1) * 11 + j - 11 = i * 11 + j by omega]
      exact ih (fun cs h => h11 cs (by simp [h])) h hj
/-- The slice value lv is a row of the call's own, of the trees l by value. -/
def RowR (w0 w : World) (lv : Value) (l : List Tree) : Prop := ∃ css : List (List Value), css.length = l.length ∧ w.ownsRow w0.heap.size 32 11 lv l.length css.flatten ∧ (∀ cs ∈ css, cs.length = 11) ∧
  ∀ (k : Nat) (n : Tree) (cs : List Value), l[k]? = some n → css[k]? = some cs → RefT w (fun q => w0.heap.size ≤ q ∧ lv.ownBlock ≠ some q) n cs
theorem RowR.nil (w0 w : World) : RowR w0 w (.slice none 0 0) [] := ⟨[], rfl, World.ownsRow_nil _ _ _ _, (fun cs h => by cases h), fun k n g h => by cases h⟩
theorem RowR.below {w0 w w' : World} {lv : Value} {l : List Tree} (h : RowR w0 w lv l) (hb : Below w.heap.size w w') : RowR w0 w' lv l := by
  obtain ⟨css, h1, h2, h4, h3⟩ := h
  exact ⟨css, h1, own_below h2 hb, h4, fun k n g hk hg => (h3 k n g hk hg).under hb⟩
theorem RowR.own {w0 w : World} {lv : Value} {l : List Tree} (h : RowR w0 w lv l) : ∀ k, lv.ownBlock = some k → w0.heap.size ≤ k ∧ k < w.heap.size := by
  obtain ⟨css, h1, h2, h4, h3⟩ := h
  exact fun k hk => h2.lt k hk
theorem RowR.snoc {w0 w1 W w' : World} {lv : Value} {l : List Tree} {n : Tree} {g cap : Nat} {css : List (List Value)} {cs : List Value} (hl : css.length = l.length) (h11 : ∀ cs ∈ css, cs.length = 11)
    (h3 : ∀ (k : Nat) (n : Tree) (cs : List Value), l[k]? = some n → css[k]? = some cs → RefT W (fun q => w0.heap.size ≤ q ∧ lv.ownBlock ≠ some q) n cs) (hlt : ∀ k, lv.ownBlock = some k → k < w1.heap.size) (hw : w0.heap.size ≤ w1.heap.size) (hn : RefT W (fun q => w1.heap.size ≤ q) n cs)
    (hown : w'.ownsRow w0.heap.size 32 11 (.slice (some ⟨g, 0, none⟩) (l.length + 1) cap) (l.length + 1) (css.flatten ++ cs)) (hm : Moved W w' lv g) : RowR w0 w' (.slice (some ⟨g, 0, none⟩) (l.length + 1) cap) (l ++ [n]) := by
  have hall : ∀ (k : Nat) (m : Tree) (q : List Value), (l ++ [n])[k]? = some m → (css ++ [cs])[k]? = some q → RefT W (fun q => w0.heap.size ≤ q ∧ lv.ownBlock ≠ some q) m q := by
    intro k m q hk hq
    rcases Nat.lt_or_ge k l.length with hkl | hkl
    · rw [List.getElem?_append_left hkl] at hk
      rw [List.getElem?_append_left (by omega)] at hq
      exact h3 k m q hk hq
    · obtain rfl : k = l.length := by
        have := (List.getElem?_eq_some_iff.1 hk).1
        simp at this
        omega
      rw [List.getElem?_append_right (Nat.le_refl _), Nat.sub_self] at hk
      rw [List.getElem?_append_right (by omega), hl, Nat.sub_self] at hq
      injection hk with hk
      injection hq with hq
      subst hk
      subst hq
      refine hn.mono fun q hq _ => ⟨Nat.le_trans hw hq, fun e => ?_⟩
      have := hlt q e
      omega
  refine ⟨css ++ [cs], by simp [hl], by simpa using hown, fun c hc => ?_, fun k m q hk hq => (hall k m q hk hq).turn (fun i hi hil => hm.keep i hil hi.2) (fun i hi hil => ⟨hi.1, fun e => ?_⟩)⟩
  · rcases List.mem_append.1 hc with hc | hc
    · exact h11 c hc
    · obtain rfl := List.mem_singleton.1 hc
      exact hn.len
  · have hgi : g = i := by injection e
    subst hgi
    rcases hm.lies with h | h
    · exact hi.2 h
    · omega
theorem own_cellR {w : World} {base size n g c : Nat} {e : TypeId} {xs : List Value} (h : w.ownsRow base e size (.slice (some ⟨g, 0, none⟩) n c) n xs) (j : Nat) (u : Value) (hu : xs[j]? = some u) : w.cell? ⟨g, j, none⟩ = some u := by
  have := h.cells rfl j u hu
  rw [show (⟨g, 0, none⟩ : Addr).add j = ⟨g, j, none⟩ by unfold Addr.add; split <;> simp_all] at this
  exact this
/-- A row of trees, read. -/
theorem RowR.cells {w0 w : World} {g c L : Nat} {l : List Tree} (h : RowR w0 w (.slice (some ⟨g, 0, none⟩) L c) l) : L = l.length ∧ w0.heap.size ≤ g ∧ g < w.heap.size ∧ ∃ css : List (List Value), css.length = l.length ∧
    (∀ (i : Nat) (cs : List Value), css[i]? = some cs → ∀ (j : Nat) (v : Value), cs[j]? = some v → w.cell? ⟨g, i * 11 + j, none⟩ = some v) ∧ ∀ (k : Nat) (n : Tree) (cs : List Value), l[k]? = some n → css[k]? = some cs → RefT w (fun q => w0.heap.size ≤ q) n cs := by
  obtain ⟨css, h1, h2, h4, h3⟩ := h
  have hL : L = l.length := by
    rcases h2.2 with ⟨e, _⟩ | ⟨g', cap, cur, e, _⟩
    · cases e
    · injection e
  subst hL
  exact ⟨rfl, (h2.lt g rfl).1, (h2.lt g rfl).2, css, h1, fun i cs hi j v hj => own_cellR h2 _ _ (flat_get h4 hi hj), fun k n cs hk hcs => (h3 k n cs hk hcs).mono fun q hq _ => hq.1⟩
/-- A node of several. -/
theorem RowR.node {w0 w W : World} {g c : Nat} {k : Int} {f t : Nat} {l : List Tree} (hm : l.length ≤ 1048577) (h : RowR w0 w (.slice (some ⟨g, 0, none⟩) l.length c) l) (hb : Below w.heap.size w W) : RefT W (fun q => w0.heap.size ≤ q) (.mk k noSet 0 0 false l f t) (nodeL k noSet 0 0 false (.slice (some ⟨g, 0, none⟩) l.length c) f t) := by
  obtain ⟨-, hg, -, css, h1, hc, hk⟩ := h.cells
  have hr : RefT w (fun q => w0.heap.size ≤ q) (.mk k noSet 0 0 false l f t) (nodeL k noSet 0 0 false (.slice (some ⟨g, 0, none⟩) l.length c) f t) := .mk (ga := g) (css := css) h1 hm (fun _ => ⟨rfl, hg⟩) hc hk
  exact hr.under hb
theorem lay_ref0 {w : World} {S : Nat → Prop} {f t : Nat} {k lo hi : Int} {set : Nat → Bool} {lazy : Bool} {c : Nat} {A : Option Addr} : RefT w S (.mk k set lo hi lazy [] f t) (nodeL k set lo hi lazy (.slice A 0 c) f t) :=
  .mk (ga := 0) (css := []) (c := c) (A := A) rfl (Nat.zero_le _) (fun h => absurd rfl h) (fun i g h => by cases h) (fun i n g h => by cases h)
theorem lay_ref1 {w : World} {S : Nat → Prop} {g f t c : Nat} {k lo hi : Int} {set : Nat → Bool} {lazy : Bool} {n : Tree} {cs : List Value} (hg : S g)
    (h0 : ∀ (j : Nat) (v : Value), cs[j]? = some v → w.cell? ⟨g, j, none⟩ = some v) (h1 : RefT w S n cs) : RefT w S (.mk k set lo hi lazy [n] f t) (nodeL k set lo hi lazy (.slice (some ⟨g, 0, none⟩) 1 c) f t) :=
  .mk (ga := g) (css := [cs]) (c := c) rfl (by simp) (fun _ => ⟨rfl, hg⟩)
    (fun i q h => by
      rcases i with - | i
      · injection h with h
        subst h
        simpa using h0
      · cases h)
    (fun i m q h hq => by
      rcases i with - | i
      · injection h with h
        injection hq with hq
        subst h
        subst hq
        exact h1
      · cases h)
end Go.Proofs.YtckoebfmoggeoaaDoor
/- The reference of layer 6: rows of tokens; close, begin. -/
namespace Go.Proofs.YtckoebfmoggeoaaDoor
set_option maxRecDepth 100000
open Go.RowKit
/-- The tokens, as the reference has them. -/
structure Toks (w : World) (o : Option Addr) (T : List Tk) : Prop where
  row : ∀ k x f t, T[k]? = some (x, f, t) → ∃ g, o = some ⟨g, 0, none⟩ ∧ g < w.heap.size ∧ ∀ r v, (tokL x f t)[r]? = some v → w.cell? ⟨g, k * 10 + r, none⟩ = some v
  len : T.length ≤ 1048576
theorem Toks.below {w w' : World} {o : Option Addr} {T : List Tk} (h : Toks w o T) (hb : Below w.heap.size w w') : Toks w' o T :=
  ⟨fun k x f t hk => by
    obtain ⟨g, h1, h2, h3⟩ := h.row k x f t hk
    exact ⟨g, h1, Nat.lt_of_lt_of_le h2 hb.size, fun r v hv => (hb.cell (p := ⟨g, k * 10 + r, none⟩) h2).trans (h3 r v hv)⟩, h.len⟩
theorem info_fault : (Tryd.prog.info? 34).map (·.size) = some 2 := by kernel_rfl
theorem info_rnode : (Tryd.prog.info? 32).map (·.size) = some 11 := by kernel_rfl
theorem load_fault {w : World} {b t : Nat} {l : List Value} (h : Blk w b t l) (hl : l.length = 2) : (loadVar 34 ⟨b, 0, none⟩).run Tryd.prog w = .ok (.agg l.toArray) w :=
  run_loadVar_row w b t _ l.toArray (0, 0) _ h Tryd.underlying34 rfl (by rw [info_fault]; simp [hl])
theorem load_rnode {w : World} {b t : Nat} {l : List Value} (h : Blk w b t l) (hl : l.length = 11) : (loadVar 32 ⟨b, 0, none⟩).run Tryd.prog w = .ok (.agg l.toArray) w :=
  run_loadVar_row w b t _ l.toArray (0, 0) _ h Tryd.underlying32 rfl (by rw [info_rnode]; simp [hl])
/-- A result that lies in a block. -/
theorem ret_load {fn : Func} {R : Ending → World → Prop} {a : Act} {w : World} {b r t : Nat} {v : Value} (hres : fn.results = #[.cell r t])
    (hr : a.tmps.getD r undef = .pointer (some ⟨b, 0, none⟩)) (hld : (loadVar t ⟨b, 0, none⟩).run Tryd.prog w = .ok v w) (hd : a.defers = []) (hR : R (.returned v) w) : bodyPost Tryd.prog fn R .ret a w := by
  refine bodyPost_ret (v := v) ?_ hd hR
  have hr' : a.tmps[r]?.getD undef = .pointer (some ⟨b, 0, none⟩) := by simpa using hr
  simp [results, hres, hr', hld, asAddr]
theorem ret_load2 {fn : Func} {R : Ending → World → Prop} {a : Act} {w : World} {b1 r1 t1 b2 r2 t2 : Nat} {v1 v2 : Value} (hres : fn.results = #[.cell r1 t1, .cell r2 t2])
    (hr1 : a.tmps.getD r1 undef = .pointer (some ⟨b1, 0, none⟩)) (hld1 : (loadVar t1 ⟨b1, 0, none⟩).run Tryd.prog w = .ok v1 w) (hr2 : a.tmps.getD r2 undef = .pointer (some ⟨b2, 0, none⟩)) (hld2 : (loadVar t2 ⟨b2, 0, none⟩).run Tryd.prog w = .ok v2 w)
    (hd : a.defers = []) (hR : R (.returned (.tuple #[v1, v2])) w) : bodyPost Tryd.prog fn R .ret a w := by
  refine bodyPost_ret (v := .tuple #[v1, v2]) ?_ hd hR
  have q1 : a.tmps[r1]?.getD undef = .pointer (some ⟨b1, 0, none⟩) := by simpa using hr1
  have q2 : a.tmps[r2]?.getD undef = .pointer (some ⟨b2, 0, none⟩) := by simpa using hr2
  simp [results, hres, q1, q2, hld1, hld2, asAddr]
abbrev zeroN : List Value := [.int .i64 0, .int .u64 0, .int .u64 0, .int .u64 0, .int .u64 0, .int .i64 0, .int .i64 0, .bool false, .slice none 0 0, .int .i64 0, .int .i64 0]
theorem elem_rnode : Elem Tryd.prog 30 32 11 104 := by
  obtain ⟨i, hi, h0, h1, h2⟩ := info_parts (by kernel_rfl : (Tryd.prog.info? 32).map (fun i => (i.zero, i.size, i.bytes)) = some (some (.agg zeroN.toArray), 11, 104))
  exact ⟨i, _, Tryd.underlying30, hi, h0, h1, h2, rfl, by omega⟩
/-- The eleven cells of a block. -/
theorem Blk.eleven {w : World} {b t : Nat} {u0 u1 u2 u3 u4 u5 u6 u7 u8 u9 u10 : Value} (h : Blk w b t [u0, u1, u2, u3, u4, u5, u6, u7, u8, u9, u10]) :
    (w.cell? ⟨b, 0, none⟩ = some u0 ∧ w.cell? ⟨b, 1, none⟩ = some u1 ∧ w.cell? ⟨b, 2, none⟩ = some u2 ∧ w.cell? ⟨b, 3, none⟩ = some u3 ∧ w.cell? ⟨b, 4, none⟩ = some u4 ∧ w.cell? ⟨b, 5, none⟩ = some u5 ∧ w.cell? ⟨b, 6, none⟩ = some u6 ∧ w.cell? ⟨b, 7, none⟩ = some u7 ∧ w.cell? ⟨b, 8, none⟩ = some u8 ∧ w.cell? ⟨b, 9, none⟩ = some u9 ∧ w.cell? ⟨b, 10, none⟩ = some u10) ∧
    w.frozen? ⟨b, 0, none⟩ = false ∧ w.frozen? ⟨b, 1, none⟩ = false ∧ w.frozen? ⟨b, 2, none⟩ = false ∧ w.frozen? ⟨b, 3, none⟩ = false ∧ w.frozen? ⟨b, 4, none⟩ = false ∧ w.frozen? ⟨b, 5, none⟩ = false ∧ w.frozen? ⟨b, 6, none⟩ = false ∧ w.frozen? ⟨b, 7, none⟩ = false ∧ w.frozen? ⟨b, 8, none⟩ = false ∧ w.frozen? ⟨b, 9, none⟩ = false ∧ w.frozen? ⟨b, 10, none⟩ = false :=
  ⟨⟨h.cell 0, h.cell 1, h.cell 2, h.cell 3, h.cell 4, h.cell 5, h.cell 6, h.cell 7, h.cell 8, h.cell 9, h.cell 10⟩, h.frozen 0, h.frozen 1, h.frozen 2, h.frozen 3, h.frozen 4, h.frozen 5, h.frozen 6, h.frozen 7, h.frozen 8, h.frozen 9, h.frozen 10⟩
theorem dep_hi (T : List Tk) (i : Nat) : ∀ q, depD T i q ≤ ((q : Nat) : Int) := by
  intro q
  induction q with
  | zero => simp [depD]
  | succ q ih =>
    unfold depD
    split
    · cases kindAt T q with
      | none => simp only []; omega
      | some k => simp only []; unfold wtK; split <;> (try split) <;> omega
    · omega
set_option maxHeartbeats 4000000 in
theorem close_at {w : World} {o : Option Addr} {c : Nat} {T : List Tk} {i m : Nat} (h : Toks w o T) (h5 : kinds5 T) (hE : EvenP T i m) (hk : kindAt T m = some 3) :
    Calls Tryd.prog 61 #[.slice o T.length c, .int .i64 ((i : Nat) : Int)] w fun v w' => v = .returned (.int .i64 ((m : Nat) : Int)) ∧ w' = w := by
  have hlen := h.len
  have hle := hE.le
  have hml : m < T.length := by
    unfold kindAt at hk
    cases hT : T[m]? with
    | none => rw [hT] at hk; cases hk
    | some x => exact (List.getElem?_eq_some_iff.1 hT).1
  have HK := Lib.hid hk
  have HE := Lib.hid hE
  have HH := Lib.hid h
  have H5 := Lib.hid h5
  clear h hk hE h5
  go_enter Tryd.func61, Tryd.ntmps61
  go_wp2_with fail
  go_loop [5, 6] (fun dv iv => ∃ q : Nat, i ≤ q ∧ q ≤ m ∧ iv = .int .i64 ((q : Nat) : Int) ∧ dv = .int .i64 (depD T i q)) (fun _ iv => m + 1 - (intOf iv).toNat)
  case atStart => exact ⟨i, Nat.le_refl _, hle, rfl, by rw [dep_self]⟩
  case round =>
    obtain ⟨q, hiq, hqm, rfl, rfl⟩ := hrel
    have hq : q < T.length := by omega
    have hT : T[q]? = some T[q] := List.getElem?_eq_getElem hq
    have hki := kind_some hT
    have h0 := HE.out.nn q hiq hqm
    have hhi := dep_hi T i q
    obtain ⟨g, rfl, hg, hrow⟩ := HH.out.row q T[q].1 T[q].2.1 T[q].2.2 hT
    have q0 := hrow 0 _ rfl
    rw [Nat.add_zero] at q0
    have hkd := H5.out q _ hT
    have HS := Lib.hid (dep_succ T hiq)
    rw [hki] at HS
    simp only [] at HS
    by_cases hqe : q = m
    · have h3 : T[q].1.kind = 3 := by
        have := HK.out
        rw [← hqe, hki] at this
        injection this
      have hd : depD T i q = 0 := by rw [hqe]; exact HE.out.dep
      rw [h3] at q0
      rw [hd]
      have HQ := Lib.hid hqe
      clear hrow hki hd hqe h3 hT h0 hhi hkd HS
      go_wp2
      go_returns
      exact ⟨by rw [HQ.out]; rfl, rfl⟩
    · have hn := HE.out.nn (q + 1) (by omega) (by omega)
      rw [HS.out] at hn
      generalize hk0 : T[q].1.kind = kk at *
      generalize hd0 : depD T i q = dq at *
      have HS2 := Lib.hid HS.out
      clear HS hk0 hd0 hrow hki hT
      have hcases : kk = 0 ∨ kk = 1 ∨ kk = 2 ∨ kk = 3 ∨ kk = 4 ∨ kk = 5 := by omega
      rcases hcases with rfl | rfl | rfl | rfl | rfl | rfl
      all_goals
        simp only [wtK] at hn
        have hn2 : ((dq : Int) == 0) = (dq == 0) := rfl
        clear hn2
        try (have hnz : ((dq : Int) == 0) = false := by rw [beq_eq_false_iff_ne]; simp at hn; omega)
        go_wp2
        go_round
        case rel => exact ⟨q + 1, by omega, by omega, by go_num, by rw [HS2.out]; simp [wtK]; try go_num⟩
        case measure => simp [intOf]; omega
theorem begin_at {w : World} {o : Option Addr} {c : Nat} {T : List Tk} {size i : Nat} (h : Toks w o T) (hi : i ≤ T.length) :
    Calls Tryd.prog 62 #[.slice o T.length c, .int .i64 ((i : Nat) : Int), .int .i64 ((size : Nat) : Int)] w fun v w' => v = .returned (.int .i64 ((fromAt T size i : Nat) : Int)) ∧ w' = w := by
  have hlen := h.len
  by_cases hl : i < T.length
  · have hT : T[i]? = some T[i] := List.getElem?_eq_getElem hl
    obtain ⟨g, rfl, hg, hrow⟩ := h.row i T[i].1 T[i].2.1 T[i].2.2 hT
    have q1 := hrow 1 _ rfl
    have HF := Lib.hid (show fromAt T size i = T[i].2.1 by unfold fromAt; rw [hT])
    generalize T[i].2.1 = f at *
    clear hrow hT h
    go_enter Tryd.func62, Tryd.ntmps62
    go_wp2
    go_returns
    exact ⟨by rw [HF.out]; rfl, rfl⟩
  · have HF := Lib.hid (show fromAt T size i = size by unfold fromAt; rw [List.getElem?_eq_none (by omega)])
    clear h
    go_enter Tryd.func62, Tryd.ntmps62
    go_wp2
    go_returns
    exact ⟨by rw [HF.out]; rfl, rfl⟩
end Go.Proofs.YtckoebfmoggeoaaDoor
/- The reference of layer 6: first. -/
namespace Go.Proofs.YtckoebfmoggeoaaDoor
set_option maxRecDepth 100000
open Go.RowKit
def faultP : Option (Nat × Nat) → Nat × Nat
  | some x => x
  | none => (0, 0)
abbrev faultV (x : Nat × Nat) : Value := .agg #[.int .i64 ((x.1 : Nat) : Int), .int .i64 ((x.2 : Nat) : Int)]
theorem St.put2 {w0 w : World} {b t : Nat} {u0 u1 : Value} (h : St w0 w [(b, t, [u0, u1])]) (v0 v1 : Value) : St w0 ((w.setCell ⟨b, 0, none⟩ v0).setCell ⟨b, 1, none⟩ v1) [(b, t, [v0, v1])] :=
  (h.set 0 rfl 0 v0).set 0 rfl 1 v1
set_option maxHeartbeats 8000000 in
theorem rfirst_at {w : World} {o : Option Addr} {c : Nat} {T : List Tk} {size : Nat} (h : Toks w o T) (h5 : kinds5 T) :
    Calls Tryd.prog 27 #[.slice o T.length c, .int .i64 ((size : Nat) : Int)] w fun v w' => v = .returned (faultV (faultP (firstL size T 0 false))) ∧ Below w.heap.size w w' := by
  have hlen := h.len
  have HH := Lib.hid h
  have H5 := Lib.hid h5
  have st := (St.nil w).alloc rfl [.int .i64 0, .int .i64 0] 34
  clear h h5
  go_enter Tryd.func27, Tryd.ntmps27
  go_upto_region 1 with fail
  generalize w.alloc _ = w1 at *
  go_wp2_with fail
  go_loopw [5, 6, 7] (fun dv av iv wr => ∃ (q d : Nat) (ah : Bool), q ≤ T.length ∧ d ≤ 200 ∧ dv = .int .i64 ((d : Nat) : Int) ∧ av = .bool ah ∧ iv = .int .i64 ((q : Nat) : Int) ∧ Hid (firstL size T 0 false = firstL size (T.drop q) d ah) ∧ St w wr [(w.heap.size, 34, [.int .i64 0, .int .i64 0])]) (fun _ _ iv _ => T.length - (intOf iv).toNat)
  case atStart => exact ⟨0, 0, false, Nat.zero_le _, by omega, rfl, rfl, rfl, Lib.hid (by rw [List.drop_zero]), st⟩
  case round =>
    clear st
    obtain ⟨q, d, ah, hq, hd, rfl, rfl, rfl, HF, st⟩ := hrel
    by_cases hlt : q < T.length
    · have hT : T[q]? = some T[q] := List.getElem?_eq_getElem hlt
      have HD := Lib.hid (drop_some hT)
      have hkd := H5.out q _ hT
      generalize T[q] = x at *
      obtain ⟨x, f, t⟩ := x
      obtain ⟨g, rfl, hg, hrow⟩ := (HH.out.below st.below).row q x f t hT
      have q0 := hrow 0 _ rfl
      have q1 := hrow 1 _ rfl
      have q2 := hrow 2 _ rfl
      have q3 := hrow 3 _ rfl
      have q4 := hrow 4 _ rfl
      have q5 := hrow 5 _ rfl
      have q6 := hrow 6 _ rfl
      have q7 := hrow 7 _ rfl
      have q8 := hrow 8 _ rfl
      have q9 := hrow 9 _ rfl
      rw [Nat.add_zero] at q0
      have st2 := st.alloc rfl (tokL x f t) 87
      have hsz := st.size
      clear hrow hT st
      go_upto_region 7 with fail
      generalize wr.alloc _ = w2 at *
      generalize wr.heap.size = tb at *
      clear q0 q1 q2 q3 q4 q5 q6 q7 q8 q9
      obtain ⟨⟨p0, p1, p2, p3, p4, p5, p6, p7, p8, p9⟩, -⟩ := st2.ten 0 rfl
      clear p2 p3 p4 p5 p6 p7 p8 p9
      obtain ⟨⟨e0, e1⟩, f0, f1⟩ := st2.two 1 rfl
      have HX := Lib.hid (show firstL size T 0 false = firstL size ((x, f, t) :: T.drop (q + 1)) d ah from HF.out.trans (by rw [HD.out]))
      have hst3 : St w w2 [(w.heap.size, 34, [.int .i64 0, .int .i64 0])] := ⟨st2.below, fun e he => st2.blk e (by simp at he; simp [he]), fun e he => st2.base e (by simp at he; simp [he]), List.Pairwise.cons (fun _ h => by cases h) List.Pairwise.nil⟩
      have HST := Lib.hid hst3
      have HS2 := Lib.hid st2
      clear HD HF hst3 st2
      have hcases : x.kind = 0 ∨ x.kind = 1 ∨ x.kind = 2 ∨ x.kind = 3 ∨ x.kind = 4 ∨ x.kind = 5 := by simp only [] at hkd; omega
      rcases hcases with hk | hk | hk | hk | hk | hk
      · rw [hk] at p0
        have HN := Lib.hid (HX.out.trans (by simp only [firstL]; rw [hk]; rfl : _ = firstL size (T.drop (q + 1)) d true))
        clear hk hkd
        go_wp2
        go_roundw
        case rel => exact ⟨q + 1, d, true, by omega, hd, rfl, rfl, by go_num, HN, HST.out⟩
        case measure => simp [intOf]; omega
      · rw [hk] at p0
        by_cases h2 : 200 ≤ d
        · have HN := Lib.hid (HX.out.trans (by simp only [firstL]; rw [hk, if_neg (by omega), if_pos (by omega), if_pos h2] : _ = some (f, 3)))
          clear hk hkd
          go_wp2
          refine ret_load (b := w.heap.size) rfl rfl (load_fault ((HST.out.put2 _ _).get 0 rfl) rfl) rfl ⟨by rw [HN.out]; rfl, (HST.out.put2 _ _).below⟩
        · have HN := Lib.hid (HX.out.trans (by simp only [firstL]; rw [hk, if_neg (by omega), if_pos (by omega), if_neg h2] : _ = firstL size (T.drop (q + 1)) (d + 1) false))
          clear hk hkd
          go_wp2
          go_roundw
          case rel => exact ⟨q + 1, d + 1, false, by omega, by omega, by go_num, rfl, by go_num, HN, HST.out⟩
          case measure => simp [intOf]; omega
      · rw [hk] at p0
        by_cases h2 : 200 ≤ d
        · have HN := Lib.hid (HX.out.trans (by simp only [firstL]; rw [hk, if_neg (by omega), if_pos (by omega), if_pos h2] : _ = some (f, 3)))
          clear hk hkd
          go_wp2
          refine ret_load (b := w.heap.size) rfl rfl (load_fault ((HST.out.put2 _ _).get 0 rfl) rfl) rfl ⟨by rw [HN.out]; rfl, (HST.out.put2 _ _).below⟩
        · have HN := Lib.hid (HX.out.trans (by simp only [firstL]; rw [hk, if_neg (by omega), if_pos (by omega), if_neg h2] : _ = firstL size (T.drop (q + 1)) (d + 1) false))
          clear hk hkd
          go_wp2
          go_roundw
          case rel => exact ⟨q + 1, d + 1, false, by omega, by omega, by go_num, rfl, by go_num, HN, HST.out⟩
          case measure => simp [intOf]; omega
      · rw [hk] at p0
        by_cases h2 : d = 0
        · have HN := Lib.hid (HX.out.trans (by simp only [firstL]; rw [hk, if_neg (by omega), if_neg (by omega), if_pos rfl, if_pos h2] : _ = some (f, 4)))
          subst h2
          clear hk hkd
          go_wp2
          refine ret_load (b := w.heap.size) rfl rfl (load_fault ((HST.out.put2 _ _).get 0 rfl) rfl) rfl ⟨by rw [HN.out]; rfl, (HST.out.put2 _ _).below⟩
        · have HN := Lib.hid (HX.out.trans (by simp only [firstL]; rw [hk, if_neg (by omega), if_neg (by omega), if_pos rfl, if_neg h2] : _ = firstL size (T.drop (q + 1)) (d - 1) true))
          have hdz : (((d : Nat) : Int) == 0) = false := by rw [beq_eq_false_iff_ne]; omega
          clear hk hkd
          go_wp2
          go_roundw
          case rel => exact ⟨q + 1, d - 1, true, by omega, by omega, by go_num, rfl, by go_num, HN, HST.out⟩
          case measure => simp [intOf]; omega
      · rw [hk] at p0
        have HN := Lib.hid (HX.out.trans (by simp only [firstL]; rw [hk]; rfl : _ = firstL size (T.drop (q + 1)) d false))
        clear hk hkd
        go_wp2
        go_roundw
        case rel => exact ⟨q + 1, d, false, by omega, hd, rfl, rfl, by go_num, HN, HST.out⟩
        case measure => simp [intOf]; omega
      · rw [hk] at p0
        cases ah with
        | false =>
          have HN := Lib.hid (HX.out.trans (by simp only [firstL]; rw [hk]; rfl : _ = some (f, 4)))
          clear hk hkd
          go_wp2
          refine ret_load (b := w.heap.size) rfl rfl (load_fault ((HST.out.put2 _ _).get 0 rfl) rfl) rfl ⟨by rw [HN.out]; rfl, (HST.out.put2 _ _).below⟩
        | true =>
          have HN := Lib.hid (HX.out.trans (by simp only [firstL]; rw [hk]; rfl : _ = firstL size (T.drop (q + 1)) d false))
          clear hk hkd
          go_wp2
          go_roundw
          case rel => exact ⟨q + 1, d, false, by omega, hd, rfl, rfl, by go_num, HN, HST.out⟩
          case measure => simp [intOf]; omega
    · obtain rfl : q = T.length := by omega
      rw [List.drop_length] at HF
      obtain ⟨⟨e0, e1⟩, f0, f1⟩ := st.two 0 rfl
      have HST := Lib.hid st
      clear st
      by_cases h2 : 0 < d
      · have HN := Lib.hid (HF.out.trans (by simp only [firstL]; rw [if_pos h2] : _ = some (size, 4)))
        go_wp2
        refine ret_load (b := w.heap.size) rfl rfl (load_fault ((HST.out.put2 _ _).get 0 rfl) rfl) rfl ⟨by rw [HN.out]; rfl, (HST.out.put2 _ _).below⟩
      · have HN := Lib.hid (HF.out.trans (by simp only [firstL]; rw [if_neg h2] : _ = none))
        obtain rfl : d = 0 := by omega
        go_wp2
        refine ret_load (b := w.heap.size) rfl rfl (load_fault ((HST.out.put2 _ _).get 0 rfl) rfl) rfl ⟨by rw [HN.out]; rfl, (HST.out.put2 _ _).below⟩
end Go.Proofs.YtckoebfmoggeoaaDoor
/- The reference of layer 6: what is read, one step ahead. No program in sight. -/
namespace Go.Proofs.YtckoebfmoggeoaaDoor
set_option maxRecDepth 100000
section
variable {T : List Tk} {size : Nat}
theorem cat_next {rec : Nat → Nat → PRes} {d f q J : Nat} {l L : List Tree} (hc : catLoop T size rec d (f + 1) l q = .ok L J) (hq : q < J) : ∃ x, T[q]? = some x ∧ x.1.kind ≠ 3 ∧ x.1.kind ≠ 4 ∧ ∃ n k, itemW T size rec d q x = .ok n k ∧ catLoop T size rec d f (l ++ [n]) k = .ok L J := by
  unfold catLoop at hc
  cases hx : T[q]? with
  | none => rw [hx] at hc; simp only [] at hc; injection hc with _ h; omega
  | some x =>
    rw [hx] at hc
    simp only [] at hc
    by_cases hk : x.1.kind = 4 ∨ x.1.kind = 3
    · rw [if_pos hk] at hc; injection hc with _ h; omega
    · rw [if_neg hk] at hc
      refine ⟨x, rfl, fun h => hk (.inr h), fun h => hk (.inl h), ?_⟩
      cases hi : itemW T size rec d q x with
      | err p e => rw [hi] at hc; cases hc
      | ok n k => rw [hi] at hc; exact ⟨n, k, rfl, hc⟩
theorem item_parts {rec : Nat → Nat → PRes} {d q k : Nat} {x : Tk} {n : Tree} (h : itemW T size rec d q x = .ok n k) : ∃ n0 k0, baseW T size rec d q x = .ok n0 k0 ∧
    ((∃ c, T[k0]? = some c ∧ c.1.kind = 5 ∧ n = repT x c n0 ∧ k = k0 + 1) ∨ ((∀ c, T[k0]? = some c → c.1.kind ≠ 5) ∧ n = n0 ∧ k = k0)) := by
  unfold itemW at h
  cases hb : baseW T size rec d q x with
  | err p e => rw [hb] at h; cases h
  | ok n0 k0 =>
    rw [hb] at h
    simp only [] at h
    refine ⟨n0, k0, rfl, ?_⟩
    cases hc : T[k0]? with
    | none =>
      rw [hc] at h
      simp only [] at h
      injection h with h1 h2
      exact .inr ⟨(fun c h => by cases h), h1.symm, h2.symm⟩
    | some c =>
      rw [hc] at h
      simp only [] at h
      by_cases h5 : c.1.kind = 5
      · rw [if_pos h5] at h
        injection h with h1 h2
        exact .inl ⟨c, rfl, h5, h1.symm, h2.symm⟩
      · rw [if_neg h5] at h
        injection h with h1 h2
        exact .inr ⟨(fun c' h => by injection h with h; subst h; exact h5), h1.symm, h2.symm⟩
theorem base_parts {rec : Nat → Nat → PRes} {d q k0 : Nat} {x : Tk} {n0 : Tree} (h : baseW T size rec d q x = .ok n0 k0) : (x.1.kind = 0 ∧ n0 = leafT x ∧ k0 = q + 1) ∨
    ((x.1.kind = 1 ∨ x.1.kind = 2) ∧ ∃ n1 m y, rec (d + 1) (q + 1) = .ok n1 m ∧ T[m]? = some y ∧ y.1.kind = 3 ∧ n0 = groupT x n1 y.2.2 ∧ k0 = m + 1) := by
  unfold baseW at h
  by_cases h0 : x.1.kind = 0
  · rw [if_pos h0] at h
    injection h with h1 h2
    exact .inl ⟨h0, h1.symm, h2.symm⟩
  · rw [if_neg h0] at h
    by_cases h12 : x.1.kind = 1 ∨ x.1.kind = 2
    · rw [if_pos h12] at h
      refine .inr ⟨h12, ?_⟩
      unfold groupW at h
      by_cases hd : 200 ≤ d
      · rw [if_pos hd] at h; cases h
      · rw [if_neg hd] at h
        cases hr : rec (d + 1) (q + 1) with
        | err p e => rw [hr] at h; cases h
        | ok n1 m =>
          rw [hr] at h
          simp only [] at h
          cases hy : T[m]? with
          | none => rw [hy] at h; cases h
          | some y =>
            rw [hy] at h
            simp only [] at h
            by_cases h3 : y.1.kind = 3
            · rw [if_pos h3] at h
              injection h with h1 h2
              exact ⟨n1, m, y, rfl, hy, h3, h1.symm, h2.symm⟩
            · rw [if_neg h3] at h; cases h
    · rw [if_neg h12] at h; cases h
/-- What is taken at a time, with where it ends: from a place of an alternative on. -/
structure CatAt (T : List Tk) (size n d : Nat) (l : List Tree) (q : Nat) (L : List Tree) (J : Nat) : Prop where
  run : ∃ f, T.length - q < f ∧ catLoop T size (altF T size n) d f l q = .ok L J
  le : q ≤ J
  lt : J ≤ T.length
  fuel : T.length - q ≤ n
  stop : catStop T J
theorem CatAt.of {n d i : Nat} {l L : List Tree} {J f : Nat} (h : catLoop T size (altF T size n) d f l i = .ok L J) (hf : T.length - i < f) (hi : i ≤ T.length) (hn : T.length - i ≤ n) : CatAt T size n d l i L J := by
  have := cat_even (T := T) (size := size) (rec := altF T size n) (d := d) f l i hi hf (fun k h1 h2 => altF_even n (d + 1) (k + 1) h2 (by omega))
  rw [h] at this
  exact ⟨⟨f, hf, h⟩, this.2.1.le, this.1, hn, this.2.2.2⟩
theorem CatAt.next {n d q J : Nat} {l L : List Tree} (h : CatAt T size n d l q L J) (hq : q < J) : ∃ x, T[q]? = some x ∧ ∃ n0 k0, ((x.1.kind = 0 ∧ n0 = leafT x ∧ k0 = q + 1) ∨
      ((x.1.kind = 1 ∨ x.1.kind = 2) ∧ ∃ n1 m y, altF T size n (d + 1) (q + 1) = .ok n1 m ∧ q + 1 ≤ m ∧ EvenP T (q + 1) m ∧ T[m]? = some y ∧ y.1.kind = 3 ∧ n0 = groupT x n1 y.2.2 ∧ k0 = m + 1)) ∧ q < k0 ∧ k0 ≤ J ∧
      ((∃ c, T[k0]? = some c ∧ c.1.kind = 5 ∧ k0 < J ∧ CatAt T size n d (l ++ [repT x c n0]) (k0 + 1) L J) ∨ ((∀ c, T[k0]? = some c → c.1.kind ≠ 5) ∧ CatAt T size n d (l ++ [n0]) k0 L J)) := by
  obtain ⟨f, hf, hc⟩ := h.run
  obtain ⟨f, rfl⟩ : ∃ g, f = g + 1 := ⟨f - 1, by omega⟩
  obtain ⟨x, hx, h3, h4, nn, k, hi, hc⟩ := cat_next hc hq
  have hlt := h.lt
  have hn := h.fuel
  have hrec : EvenA T (q + 1) (altF T size n (d + 1) (q + 1)) := altF_even n (d + 1) (q + 1) (by omega) (by omega)
  have he := item_even (size := size) hx h3 h4 hrec
  rw [hi] at he
  simp only [] at he
  obtain ⟨e1, e2, e3, e4⟩ := he
  have hnext : CatAt T size n d (l ++ [nn]) k L J := CatAt.of hc (by omega) e2 (by omega)
  obtain ⟨n0, k0, hb, hp⟩ := item_parts hi
  have hbp := base_parts hb
  have hk0 : q < k0 := by
    rcases hbp with ⟨_, _, rfl⟩ | ⟨_, n1, m, y, hr, hm, hy, _, rfl⟩
    · omega
    · rw [hr] at hrec
      have := hrec.1.le
      omega
  refine ⟨x, hx, n0, k0, ?_, hk0, ?_, ?_⟩
  · rcases hbp with h | ⟨h12, n1, m, y, hr, hm, hy, h5, h6⟩
    · exact .inl h
    · rw [hr] at hrec
      exact .inr ⟨h12, n1, m, y, hr, hrec.1.le, hrec.1, hm, hy, h5, h6⟩
  · have := hnext.le
    rcases hp with ⟨_, _, _, _, rfl⟩ | ⟨_, _, rfl⟩ <;> omega
  · rcases hp with ⟨c, h1, h2, rfl, rfl⟩ | ⟨h1, rfl, rfl⟩
    · exact .inl ⟨c, h1, h2, by have := hnext.le; omega, hnext⟩
    · exact .inr ⟨h1, hnext⟩
theorem CatAt.done {n d q : Nat} {l L : List Tree} (h : CatAt T size n d l q L q) : L = l := by
  obtain ⟨f, hf, hc⟩ := h.run
  obtain ⟨f, rfl⟩ : ∃ g, f = g + 1 := ⟨f - 1, by omega⟩
  unfold catLoop at hc
  have hst := h.stop
  cases hx : T[q]? with
  | none => rw [hx] at hc; simp only [] at hc; injection hc with h _; exact h.symm
  | some x =>
    rw [hx] at hc
    simp only [] at hc
    have hk := kind_some hx
    rw [if_pos (by
      rcases hst with h | h | h
      · rw [hk] at h; cases h
      · rw [hk] at h; injection h with h; exact .inr h
      · rw [hk] at h; injection h with h; exact .inl h)] at hc
    injection hc with h _
    exact h.symm
theorem cat_run {n d i J : Nat} {t : Tree} (h : catW T size (altF T size n) d i = .ok t J) (hi : i ≤ T.length) (hn : T.length - i ≤ n) : ∃ L, CatAt T size n d [] i L J ∧ ((L = [] ∧ t = emptyT (fromAt T size i)) ∨ (0 < L.length ∧ t = manyT 4 L)) := by
  unfold catW at h
  cases hc : catLoop T size (altF T size n) d (T.length + 1 - i) [] i with
  | err p e => rw [hc] at h; cases h
  | ok L J' =>
    rw [hc] at h
    cases L with
    | nil =>
      simp only [catEnd] at h
      injection h with h1 h2
      subst h2
      exact ⟨[], CatAt.of hc (by omega) hi hn, .inl ⟨rfl, h1.symm⟩⟩
    | cons a L =>
      simp only [catEnd] at h
      injection h with h1 h2
      subst h2
      exact ⟨a :: L, CatAt.of hc (by omega) hi hn, .inr ⟨by simp, h1.symm⟩⟩
end
end Go.Proofs.YtckoebfmoggeoaaDoor
/- The reference of layer 6: alternatives, one step ahead. No program in sight. -/
namespace Go.Proofs.YtckoebfmoggeoaaDoor
set_option maxRecDepth 100000
section
variable {T : List Tk} {size : Nat}
/-- The alternative that begins at a is being gone through, at q; those ahead of it are l. -/
structure AltAt (T : List Tk) (size n d : Nat) (l : List Tree) (a q : Nat) (L : List Tree) (j : Nat) : Prop where
  run : ∃ nn k f, catW T size (altF T size n) d a = .ok nn k ∧ q ≤ k ∧ T.length - k < f ∧ altLoop T size (altF T size n) d f (l ++ [nn]) k = .ok L j
  aq : a ≤ q
  fuel : T.length - a ≤ n
  al : a ≤ T.length
theorem AltAt.inside {n d a q j : Nat} {l L : List Tree} (h : AltAt T size n d l a q L j) : ∃ nn k, catW T size (altF T size n) d a = .ok nn k ∧ q ≤ k ∧ k ≤ j ∧ j ≤ T.length ∧ EvenP T a k ∧ NoBar T a k ∧
    (q < k → AltAt T size n d l a (q + 1) L j) ∧ (k < j → kindAt T k = some 4 ∧ AltAt T size n d (l ++ [nn]) (k + 1) (k + 1) L j) ∧ (k = j → L = l ++ [nn]) := by
  obtain ⟨nn, k, f, hc, hqk, hf, ha⟩ := h.run
  have haq := h.aq
  have hfu := h.fuel
  have hal := h.al
  have he := catW_even (T := T) (size := size) (rec := altF T size n) (d := d) hal (fun k h1 h2 => altF_even n (d + 1) (k + 1) h2 (by omega))
  rw [hc] at he
  simp only [] at he
  obtain ⟨e1, e2, e3, e4⟩ := he
  have hek := e2.le
  have hrec : ∀ i, k ≤ i → i < T.length → EvenA T (i + 1) (altF T size n (d + 1) (i + 1)) := fun i h1 h2 => altF_even n (d + 1) (i + 1) h2 (by omega)
  have hal2 := alt_even (T := T) (size := size) (rec := altF T size n) (d := d) f (l ++ [nn]) k e1 hf e4 hrec
  rw [ha] at hal2
  simp only [] at hal2
  obtain ⟨b1, b2, b3⟩ := hal2
  have hkj := b2.le
  refine ⟨nn, k, hc, hqk, hkj, b1, e2, e3, fun hlt => ⟨⟨nn, k, f, hc, hlt, hf, ha⟩, by omega, hfu, hal⟩, ?_, ?_⟩
  · intro hlt
    obtain ⟨f, rfl⟩ : ∃ g, f = g + 1 := ⟨f - 1, by omega⟩
    unfold altLoop at ha
    by_cases hk : kindAt T k = some 4
    · rw [if_pos hk] at ha
      refine ⟨hk, ?_⟩
      cases hc2 : catW T size (altF T size n) d (k + 1) with
      | err p e => rw [hc2] at ha; cases ha
      | ok n2 k2 =>
        rw [hc2] at ha
        simp only [] at ha
        have he2 := catW_even (T := T) (size := size) (rec := altF T size n) (d := d) (i := k + 1) (by omega) (fun i h1 h2 => hrec i (by omega) h2)
        rw [hc2] at he2
        have hle2 := he2.2.1.le
        exact ⟨⟨n2, k2, f, hc2, hle2, by omega, ha⟩, Nat.le_refl _, by omega, by omega⟩
    · rw [if_neg hk] at ha
      injection ha with _ h
      omega
  · intro hkj2
    subst hkj2
    obtain ⟨f, rfl⟩ : ∃ g, f = g + 1 := ⟨f - 1, by omega⟩
    unfold altLoop at ha
    rw [if_neg (by rcases b3 with h | h <;> rw [h] <;> simp)] at ha
    injection ha with h _
    exact h.symm
theorem altLoop_pos {rec : Nat → Nat → PRes} {d : Nat} : ∀ (f k : Nat) (l L : List Tree) (j : Nat), altLoop T size rec d f l k = .ok L j → l.length ≤ L.length := by
  intro f
  induction f with
  | zero => intro k l L j h; unfold altLoop at h; injection h with h _; rw [h]; exact Nat.le_refl _
  | succ f ih =>
    intro k l L j h
    unfold altLoop at h
    split at h
    · cases hc : catW T size rec d (k + 1) with
      | err p e => rw [hc] at h; cases h
      | ok n2 k2 =>
        rw [hc] at h
        have := ih k2 _ L j h
        simp at this
        omega
    · injection h with h _; rw [h]; exact Nat.le_refl _
theorem alt_run {n d i j : Nat} {t : Tree} (h : altF T size (n + 1) d i = .ok t j) (hi : i ≤ T.length) (hn : T.length - i < n + 1) : ∃ L, AltAt T size n d [] i i L j ∧ 0 < L.length ∧ t = manyT 5 L := by
  change altW T size (altF T size n) d i = .ok t j at h
  unfold altW at h
  cases hc : catW T size (altF T size n) d i with
  | err p e => rw [hc] at h; cases h
  | ok nn k =>
    rw [hc] at h
    simp only [] at h
    cases ha : altLoop T size (altF T size n) d (T.length + 1 - k) [nn] k with
    | err p e => rw [ha] at h; cases h
    | ok L j' =>
      rw [ha] at h
      simp only [altEnd] at h
      injection h with h1 h2
      subst h2
      have he := catW_even (T := T) (size := size) (rec := altF T size n) (d := d) hi (fun k h1 h2 => altF_even n (d + 1) (k + 1) h2 (by omega))
      rw [hc] at he
      have hle := he.2.1.le
      have hkl := he.1
      have hp := altLoop_pos _ _ _ _ _ ha
      exact ⟨L, ⟨⟨nn, k, T.length + 1 - k, hc, hle, by omega, ha⟩, Nat.le_refl _, by omega, hi⟩, by simp at hp; omega, h1.symm⟩
end
end Go.Proofs.YtckoebfmoggeoaaDoor
