/- Cores: the plain model: how a tree is brought to five sorts of nodes. No program in sight. -/
import Derived.Test.YtpiimcbbgalhfaaGreatDoorBb
import Derived.Test.YtpiimcbbgalhfaaGreatDoorBa
namespace Go.Proofs.YtpiimcbbgalhfaaGreatDoor
set_option maxRecDepth 100000
inductive CT where
  | empty
  | set (m : Nat → Bool)
  | cat (a b : CT)
  | alt (a b : CT)
  | star (lazy : Bool) (a : CT)
/-- Of several, of the first one and that of the others. -/
def foldC (join : CT → CT → CT) : List CT → CT
  | [] => .empty
  | [x] => x
  | x :: y :: l => join x (foldC join (y :: l))
theorem foldC_cons (join : CT → CT → CT) (x : CT) {l : List CT} (h : l ≠ []) : foldC join (x :: l) = join x (foldC join l) := by
  cases l with
  | nil => exact absurd rfl h
  | cons y l => rfl
theorem foldC_drop (join : CT → CT → CT) {l : List CT} {i : Nat} (h : i + 1 < l.length) : foldC join (l.drop i) = join l[i] (foldC join (l.drop (i + 1))) := by
  rw [List.drop_eq_getElem_cons (by omega)]
  exact foldC_cons join _ (fun e => by have := congrArg List.length e; simp at this; omega)
theorem foldC_last (join : CT → CT → CT) {l : List CT} {i : Nat} (h : i + 1 = l.length) : foldC join (l.drop i) = l[i] := by
  rw [List.drop_eq_getElem_cons (by omega), List.drop_eq_nil_of_le (by omega)]
  rfl
def choiceC (n : CT) (lazy : Bool) : CT := if lazy then .alt .empty n else .alt n .empty
/-- A choice, and so many more round it. -/
def choicesC (r : CT) (lazy : Bool) : Nat → CT
  | 0 => choiceC r lazy
  | n + 1 => choiceC (.cat r (choicesC r lazy n)) lazy
def tailL (lo hi : Int) (lazy : Bool) (r : CT) : List CT := if hi = -1 then [.star lazy r] else if lo < hi then [choicesC r lazy (hi - lo - 1).toNat] else []
def repeatC (lo hi : Int) (lazy : Bool) (r : CT) : CT := foldC .cat (List.replicate lo.toNat r ++ tailL lo hi lazy r)
def nodeC (k : Int) (set : Nat → Bool) (lo hi : Int) (lazy : Bool) (l : List CT) : CT :=
  if k = 1 then .set set else if k = 2 ∨ k = 3 then l.headD .empty else if k = 4 then foldC .cat l else if k = 5 then foldC .alt l else if k = 6 then repeatC lo hi lazy (l.headD .empty) else .empty
mutual
def coreT : Tree → CT
  | .mk k set lo hi lazy kids _ _ => nodeC k set lo hi lazy (coreL kids)
def coreL : List Tree → List CT
  | [] => []
  | n :: l => coreT n :: coreL l
end
theorem coreL_map (l : List Tree) : coreL l = l.map coreT := by
  induction l with
  | nil => rfl
  | cons n l ih => simp only [coreL, List.map_cons, ih]
def restC : CT := .star true (.set fun _ => true)
def wrapC (mode : Int) (r : CT) : CT := if mode = 1 then .cat r restC else if mode = 2 then .cat restC r else if mode = 3 then .cat restC (.cat r restC) else r
end Go.Proofs.YtpiimcbbgalhfaaGreatDoor
/- Cores, as they lie in memory; rows of them. -/
namespace Go.Proofs.YtpiimcbbgalhfaaGreatDoor
set_option maxRecDepth 100000
open Go.RowKit
abbrev cptr (g : Nat) : Value := .pointer (some ⟨g, 0, none⟩)
abbrev coreV (k : Int) (m : Nat → Bool) (lazy : Bool) (A B : Value) : List Value :=
  [.int .i64 k, .int .u64 (word m 0), .int .u64 (word m 1), .int .u64 (word m 2), .int .u64 (word m 3), .bool lazy, A, B]
/-- At block b lies the core; all its blocks are of S. -/
def CoreAt (w : World) (S : Nat → Prop) : CT → Nat → Prop
  | .empty, b => S b ∧ Blk w b 148 (coreV 0 noSet false (.pointer none) (.pointer none))
  | .set m, b => S b ∧ Blk w b 148 (coreV 1 m false (.pointer none) (.pointer none))
  | .cat x y, b => S b ∧ ∃ p q, Blk w b 148 (coreV 2 noSet false (cptr p) (cptr q)) ∧ CoreAt w S x p ∧ CoreAt w S y q
  | .alt x y, b => S b ∧ ∃ p q, Blk w b 148 (coreV 3 noSet false (cptr p) (cptr q)) ∧ CoreAt w S x p ∧ CoreAt w S y q
  | .star z x, b => S b ∧ ∃ p, Blk w b 148 (coreV 4 noSet z (cptr p) (.pointer none)) ∧ CoreAt w S x p
theorem CoreAt.turn {w w' : World} {S S' : Nat → Prop} {c : CT} {b : Nat} (h : CoreAt w S c b) (hw : ∀ k, S k → k < w.heap.size → w'.heap[k]? = w.heap[k]?) (hS : ∀ k, S k → k < w.heap.size → S' k) : CoreAt w' S' c b := by
  induction c generalizing b with
  | empty => exact ⟨hS b h.1 h.2.lt, (hw b h.1 h.2.lt).trans h.2⟩
  | set m => exact ⟨hS b h.1 h.2.lt, (hw b h.1 h.2.lt).trans h.2⟩
  | cat x y hx hy =>
    obtain ⟨h0, p, q, hb, h1, h2⟩ := h
    exact ⟨hS b h0 hb.lt, p, q, (hw b h0 hb.lt).trans hb, hx h1, hy h2⟩
  | alt x y hx hy =>
    obtain ⟨h0, p, q, hb, h1, h2⟩ := h
    exact ⟨hS b h0 hb.lt, p, q, (hw b h0 hb.lt).trans hb, hx h1, hy h2⟩
  | star z x hx =>
    obtain ⟨h0, p, hb, h1⟩ := h
    exact ⟨hS b h0 hb.lt, p, (hw b h0 hb.lt).trans hb, hx h1⟩
theorem CoreAt.lt {w : World} {S : Nat → Prop} {c : CT} {b : Nat} (h : CoreAt w S c b) : b < w.heap.size := by
  cases c with
  | empty => exact h.2.lt
  | set m => exact h.2.lt
  | cat x y => obtain ⟨_, p, q, hb, _⟩ := h; exact hb.lt
  | alt x y => obtain ⟨_, p, q, hb, _⟩ := h; exact hb.lt
  | star z x => obtain ⟨_, p, hb, _⟩ := h; exact hb.lt
theorem CoreAt.in {w : World} {S : Nat → Prop} {c : CT} {b : Nat} (h : CoreAt w S c b) : S b := by
  cases c with
  | empty => exact h.1
  | set m => exact h.1
  | cat x y => exact h.1
  | alt x y => exact h.1
  | star z x => exact h.1
theorem CoreAt.under {w w' : World} {S : Nat → Prop} {c : CT} {b : Nat} (h : CoreAt w S c b) (hb : Below w.heap.size w w') : CoreAt w' S c b := h.turn (fun k _ hk => hb.block k hk) (fun _ h _ => h)
theorem CoreAt.mono {w : World} {S S' : Nat → Prop} {c : CT} {b : Nat} (h : CoreAt w S c b) (hS : ∀ k, S k → k < w.heap.size → S' k) : CoreAt w S' c b := h.turn (fun _ _ _ => rfl) hS
theorem CoreAt.only {w w' : World} {S : Nat → Prop} {c : CT} {b p : Nat} (h : CoreAt w S c b) (hg : w.grownBy w' (some p)) (hp : ∀ k, S k → k ≠ p) : CoreAt w' S c b :=
  h.turn (fun k hS hk => hg.block k hk (fun e => hp k hS (by injection e))) (fun _ h _ => h)
/-- The kind, and the block. -/
def CT.kind : CT → Int
  | .empty => 0
  | .set _ => 1
  | .cat _ _ => 2
  | .alt _ _ => 3
  | .star _ _ => 4
theorem CoreAt.kind {w : World} {S : Nat → Prop} {c : CT} {b : Nat} (h : CoreAt w S c b) : w.cell? ⟨b, 0, none⟩ = some (.int .i64 c.kind) := by
  cases c with
  | empty => exact h.2.cell 0
  | set m => exact h.2.cell 0
  | cat x y => obtain ⟨_, p, q, hb, _⟩ := h; exact hb.cell 0
  | alt x y => obtain ⟨_, p, q, hb, _⟩ := h; exact hb.cell 0
  | star z x => obtain ⟨_, p, hb, _⟩ := h; exact hb.cell 0
theorem coreV_noset (k : Int) (z : Bool) (A B : Value) : coreV k noSet z A B = [.int .i64 k, .int .u64 0, .int .u64 0, .int .u64 0, .int .u64 0, .bool z, A, B] := by
  show [_, Value.int .u64 (word (fun _ => false) 0), Value.int .u64 (word (fun _ => false) 1), Value.int .u64 (word (fun _ => false) 2), Value.int .u64 (word (fun _ => false) 3), _, _, _] = _
  simp only [word_none]
/-- The slice value lv is a row of the call's own (its block from base on), of pointers to the cores l; the cores lie in S, away from the row. -/
def RowC (base : Nat) (S : Nat → Prop) (w : World) (lv : Value) (l : List CT) : Prop := ∃ bs : List Nat, bs.length = l.length ∧ w.ownsRow base 47 1 lv l.length (bs.map cptr) ∧
  ∀ (k : Nat) (n : CT) (g : Nat), l[k]? = some n → bs[k]? = some g → CoreAt w (fun q => S q ∧ lv.ownBlock ≠ some q) n g
theorem RowC.nil (base : Nat) (S : Nat → Prop) (w : World) : RowC base S w (.slice none 0 0) [] := ⟨[], rfl, World.ownsRow_nil _ _ _ _, fun k n g h => by cases h⟩
theorem RowC.below {base : Nat} {S : Nat → Prop} {w w' : World} {lv : Value} {l : List CT} (h : RowC base S w lv l) (hb : Below w.heap.size w w') : RowC base S w' lv l := by
  obtain ⟨bs, h1, h2, h3⟩ := h
  exact ⟨bs, h1, own_below h2 hb, fun k n g hk hg => (h3 k n g hk hg).under hb⟩
theorem RowC.own {base : Nat} {S : Nat → Prop} {w : World} {lv : Value} {l : List CT} (h : RowC base S w lv l) : ∀ k, lv.ownBlock = some k → base ≤ k ∧ k < w.heap.size := by
  obtain ⟨bs, h1, h2, h3⟩ := h
  exact fun k hk => h2.lt k hk
theorem RowC.form {base : Nat} {S : Nat → Prop} {w : World} {lv : Value} {l : List CT} (h : RowC base S w lv l) : ∃ A c, lv = .slice A l.length c := by
  obtain ⟨bs, h1, h2, h3⟩ := h
  rcases h2.2 with ⟨rfl, e⟩ | ⟨g, cap, cur, rfl, _⟩
  · exact ⟨_, _, by rw [e]⟩
  · exact ⟨_, _, rfl⟩
theorem RowC.snoc {base : Nat} {S : Nat → Prop} {W w' : World} {lv : Value} {l : List CT} {n : CT} {b g cap : Nat} {bs : List Nat} (hl : bs.length = l.length)
    (h3 : ∀ (k : Nat) (n : CT) (g : Nat), l[k]? = some n → bs[k]? = some g → CoreAt W (fun q => S q ∧ lv.ownBlock ≠ some q) n g) (hn : CoreAt W (fun q => S q ∧ lv.ownBlock ≠ some q) n b)
    (hown : w'.ownsRow base 47 1 (.slice (some ⟨g, 0, none⟩) (l.length + 1) cap) (l.length + 1) (bs.map cptr ++ [cptr b])) (hm : Moved W w' lv g) : RowC base S w' (.slice (some ⟨g, 0, none⟩) (l.length + 1) cap) (l ++ [n]) := by
  have hall : ∀ (k : Nat) (m : CT) (q : Nat), (l ++ [n])[k]? = some m → (bs ++ [b])[k]? = some q → CoreAt W (fun q => S q ∧ lv.ownBlock ≠ some q) m q := by
    intro k m q hk hq
    rcases Nat.lt_or_ge k l.length with hkl | hkl
    · rw [List.getElem?_append_left hkl] at hk
      rw [List.getElem?_append_left (by omega)] at hq
      exact h3 k m q hk hq
    · obtain rfl : k = l.length := by
        have := (List.getElem?_eq_some_iff.1 hk).1
        simp at this
        omega
      rw [List.getElem?_append_right (Nat.le_refl _), Nat.sub_self] at hk
      rw [List.getElem?_append_right (by omega), hl, Nat.sub_self] at hq
      injection hk with hk
      injection hq with hq
      subst hk
      subst hq
      exact hn
  refine ⟨bs ++ [b], by simp [hl], by simpa using hown, fun k m q hk hq => (hall k m q hk hq).turn (fun i hi hil => hm.keep i hil hi.2) (fun i hi hil => ⟨hi.1, fun e => ?_⟩)⟩
  have hgi : g = i := by injection e
  subst hgi
  rcases hm.lies with h | h
  · exact hi.2 h
  · omega
theorem own_cell1 {w : World} {base size n g c : Nat} {e : TypeId} {xs : List Value} (h : w.ownsRow base e size (.slice (some ⟨g, 0, none⟩) n c) n xs) (j : Nat) (u : Value) (hu : xs[j]? = some u) : w.cell? ⟨g, j, none⟩ = some u := by
  have := h.cells rfl j u hu
  rw [show (⟨g, 0, none⟩ : Addr).add j = ⟨g, j, none⟩ by unfold Addr.add; split <;> simp_all] at this
  exact this
theorem RowC.full {base : Nat} {S : Nat → Prop} {w : World} {lv : Value} {l : List CT} (h : RowC base S w lv l) (hl : 0 < l.length) : ∃ g c, lv = .slice (some ⟨g, 0, none⟩) l.length c := by
  obtain ⟨bs, h1, h2, h3⟩ := h
  rcases h2.2 with ⟨rfl, e⟩ | ⟨g, cap, cur, rfl, _⟩
  · omega
  · exact ⟨_, _, rfl⟩
theorem RowC.cells {base : Nat} {S : Nat → Prop} {w : World} {g c : Nat} {l : List CT} {L : Nat} (h : RowC base S w (.slice (some ⟨g, 0, none⟩) L c) l) : L = l.length ∧ base ≤ g ∧ ∀ (k : Nat) (n : CT), l[k]? = some n → ∃ b, w.cell? ⟨g, k, none⟩ = some (cptr b) ∧ CoreAt w S n b := by
  obtain ⟨A, c', e⟩ := h.form
  have hL : L = l.length := by injection e
  subst hL
  obtain ⟨bs, h1, h2, h3⟩ := h
  refine ⟨rfl, (h2.lt g rfl).1, fun k n hk => ?_⟩
  have hkl : k < bs.length := by rw [h1]; exact (List.getElem?_eq_some_iff.1 hk).1
  have hb := List.getElem?_eq_getElem hkl
  exact ⟨bs[k], own_cell1 h2 k _ (by rw [List.getElem?_map, hb]; rfl), (h3 k n _ hk hb).mono fun q hq _ => hq.1⟩
end Go.Proofs.YtpiimcbbgalhfaaGreatDoor
/- core: two, star, choice, choices, fold. -/
namespace Go.Proofs.YtpiimcbbgalhfaaGreatDoor
set_option maxRecDepth 100000
open Go.RowKit
theorem two_at (k : Int) (A B : Option Addr) (w : World) : Calls Tryz.prog 191 #[.int .i64 k, .pointer A, .pointer B] w fun v w' =>
    v = .returned (cptr w.heap.size) ∧ Blk w' w.heap.size 148 (coreV k noSet false (.pointer A) (.pointer B)) ∧ Below w.heap.size w w' := by
  go_enter Tryz.func191, Tryz.ntmps191
  go_wp2
  go_returns
  exact ⟨rfl, by rw [coreV_noset]; exact Blk.new w _ _, (Below.refl _ w).alloc (Nat.le_refl _) _⟩
theorem star_at (A : Option Addr) (z : Bool) (w : World) : Calls Tryz.prog 189 #[.pointer A, .bool z] w fun v w' =>
    v = .returned (cptr w.heap.size) ∧ Blk w' w.heap.size 148 (coreV 4 noSet z (.pointer A) (.pointer none)) ∧ Below w.heap.size w w' := by
  go_enter Tryz.func189, Tryz.ntmps189
  go_wp2
  go_returns
  exact ⟨rfl, by rw [coreV_noset]; exact Blk.new w _ _, (Below.refl _ w).alloc (Nat.le_refl _) _⟩
/-- What making a core leaves. -/
def CPost (S : Nat → Prop) (w w' : World) (c : CT) (v : Ending) : Prop := ∃ b, v = .returned (cptr b) ∧ CoreAt w' S c b ∧ Below w.heap.size w w'
theorem choice_at {S : Nat → Prop} {c : CT} {b : Nat} (z : Bool) {w : World} (hS : ∀ k, w.heap.size ≤ k → S k) (h : CoreAt w S c b) :
    Calls Tryz.prog 274 #[cptr b, .bool z] w fun v w' => CPost S w w' (choiceC c z) v := by
  have hb1 := (Below.refl w.heap.size w).alloc (Nat.le_refl _) (.cells #[.int .i64 0, .int .u64 0, .int .u64 0, .int .u64 0, .int .u64 0, .bool false, .pointer none, .pointer none] 148)
  have hblk := Blk.new w [.int .i64 0, .int .u64 0, .int .u64 0, .int .u64 0, .int .u64 0, .bool false, .pointer none, .pointer none] 148
  have hs1 : w.heap.size ≤ (w.alloc (.cells #[.int .i64 0, .int .u64 0, .int .u64 0, .int .u64 0, .int .u64 0, .bool false, .pointer none, .pointer none] 148)).heap.size := hb1.size
  have h1 := h.under hb1
  rw [← coreV_noset] at hblk
  have he : CoreAt (w.alloc (.cells #[.int .i64 0, .int .u64 0, .int .u64 0, .int .u64 0, .int .u64 0, .bool false, .pointer none, .pointer none] 148)) S .empty w.heap.size := ⟨hS _ (Nat.le_refl _), hblk⟩
  have H := Lib.hid (And.intro hb1 (And.intro h1 (And.intro he hs1)))
  clear hb1 hblk hs1 h1 he
  cases z with
  | true =>
    go_enter Tryz.func274, Tryz.ntmps274
    go_wp2_with fail
    generalize w.alloc _ = w1 at *
    refine (two_at 3 _ _ w1).mono ?_
    rintro v w2 ⟨rfl, hn, hb⟩
    obtain ⟨hb1, h1, he, hs1⟩ := H.out
    go_wp2
    go_returns
    exact ⟨_, rfl, ⟨hS _ hs1, _, _, hn, he.under hb, h1.under hb⟩, hb1.trans (hb.mono hs1)⟩
  | false =>
    go_enter Tryz.func274, Tryz.ntmps274
    go_wp2_with fail
    generalize w.alloc _ = w1 at *
    refine (two_at 3 _ _ w1).mono ?_
    rintro v w2 ⟨rfl, hn, hb⟩
    obtain ⟨hb1, h1, he, hs1⟩ := H.out
    go_wp2
    go_returns
    exact ⟨_, rfl, ⟨hS _ hs1, _, _, hn, h1.under hb, he.under hb⟩, hb1.trans (hb.mono hs1)⟩
end Go.Proofs.YtpiimcbbgalhfaaGreatDoor
/- core: fold, cat, alt. -/
namespace Go.Proofs.YtpiimcbbgalhfaaGreatDoor
set_option maxRecDepth 100000
open Go.RowKit
theorem join_cat {S : Nat → Prop} {c d : CT} {b e : Nat} {w : World} (hS : ∀ k, w.heap.size ≤ k → S k) (h : CoreAt w S c b) (h2 : CoreAt w S d e) :
    Calls Tryz.prog 246 #[cptr b, cptr e] w fun v w' => CPost S w w' (.cat c d) v := by
  have H := Lib.hid (And.intro h h2)
  clear h h2
  go_enter Tryz.func246, Tryz.ntmps246
  go_wp2_with fail
  refine (two_at _ _ _ w).mono ?_
  rintro v w2 ⟨rfl, hn, hb⟩
  go_wp2
  go_returns
  exact ⟨_, rfl, ⟨hS _ (Nat.le_refl _), _, _, hn, H.out.1.under hb, H.out.2.under hb⟩, hb⟩
set_option maxHeartbeats 4000000 in
theorem fold_cat {base : Nat} {S : Nat → Prop} {lv : Value} {l : List CT} {w : World} (hS : ∀ k, w.heap.size ≤ k → S k) (hl : l.length ≤ 1048577) (h : RowC base S w lv l) :
    Calls Tryz.prog 245 #[lv, .func (.func 246) #[] #[]] w fun v w' => CPost S w w' (foldC .cat l) v := by
  by_cases h0 : l.length = 0
  · obtain ⟨A, c, rfl⟩ := h.form
    obtain rfl : l = [] := List.eq_nil_of_length_eq_zero h0
    clear h h0
    go_enter Tryz.func245, Tryz.ntmps245
    go_wp2
    go_returns
    exact ⟨_, rfl, ⟨hS _ (Nat.le_refl _), by rw [coreV_noset]; exact Blk.new w _ _⟩, (Below.refl _ w).alloc (Nat.le_refl _) _⟩
  · obtain ⟨g, c, rfl⟩ := h.full (by omega)
    obtain ⟨-, -, hc⟩ := h.cells
    have HI := Lib.hid (show ∀ (i : Nat) (hi : i < l.length), ∃ b, w.cell? ⟨g, i, none⟩ = some (cptr b) ∧ CoreAt w S l[i] b from fun i hi => hc i _ (List.getElem?_eq_getElem hi))
    have HF := Lib.hid (show ∀ (i : Nat) (hi : i + 1 < l.length), foldC .cat (l.drop i) = .cat l[i] (foldC .cat (l.drop (i + 1))) from fun i hi => foldC_drop _ hi)
    have HS := Lib.hid hS
    obtain ⟨b, cb, hcb⟩ := HI.out (l.length - 1) (by omega)
    have hlast : CoreAt w S (foldC .cat (l.drop (l.length - 1))) b := by rw [foldC_last _ (by omega)]; exact hcb
    have HL := Lib.hid hlast
    have hgl := cell_lt0 cb
    clear h hc hcb hlast hS
    have h1 : 1 ≤ l.length := by omega
    have hz : (((l.length : Nat) : Int) == 0) = false := by rw [beq_eq_false_iff_ne]; omega
    go_enter Tryz.func245, Tryz.ntmps245
    go_wp2_with fail
    go_loopw [5, 6] (fun ov iv wr => ∃ (j bo : Nat), j < l.length ∧ iv = .int .i64 (((j : Nat) : Int) - 1) ∧ ov = cptr bo ∧ CoreAt wr S (foldC .cat (l.drop j)) bo ∧ Below w.heap.size w wr) (fun _ iv _ => (intOf iv + 1).toNat)
    case atStart => exact ⟨l.length - 1, b, by omega, by go_num, rfl, HL.out, Below.refl _ _⟩
    case round =>
      obtain ⟨j, bo, hj, rfl, rfl, hc, hb⟩ := hrel
      have HC := Lib.hid hc
      clear hc
      cases j with
      | zero =>
        go_wp2
        go_returns
        exact ⟨_, rfl, HC.out, hb⟩
      | succ j =>
        obtain ⟨e, ce, hce⟩ := HI.out j (by omega)
        have ce2 : wr.cell? ⟨g, j, none⟩ = some (cptr e) := (hb.cell (p := ⟨g, j, none⟩) (cell_lt0 ce)).trans ce
        have HE := Lib.hid (hce.under hb)
        have HFj := Lib.hid (HF.out j hj)
        clear ce hce
        have hgl2 := cell_lt0 ce2
        go_wp2_with fail
        refine (join_cat (fun k hk => HS.out k (Nat.le_trans hb.size hk)) HE.out HC.out).mono ?_
        rintro v w2 ⟨b2, rfl, hc2, hb2⟩
        have HC2 := Lib.hid hc2
        clear hc2
        go_wp2
        go_roundw
        case rel => exact ⟨j, b2, by omega, by go_num, rfl, by rw [HFj.out]; exact HC2.out, hb.trans (hb2.mono hb.size)⟩
        case measure => simp [intOf]
theorem join_alt {S : Nat → Prop} {c d : CT} {b e : Nat} {w : World} (hS : ∀ k, w.heap.size ≤ k → S k) (h : CoreAt w S c b) (h2 : CoreAt w S d e) :
    Calls Tryz.prog 247 #[cptr b, cptr e] w fun v w' => CPost S w w' (.alt c d) v := by
  have H := Lib.hid (And.intro h h2)
  clear h h2
  go_enter Tryz.func247, Tryz.ntmps247
  go_wp2_with fail
  refine (two_at _ _ _ w).mono ?_
  rintro v w2 ⟨rfl, hn, hb⟩
  go_wp2
  go_returns
  exact ⟨_, rfl, ⟨hS _ (Nat.le_refl _), _, _, hn, H.out.1.under hb, H.out.2.under hb⟩, hb⟩
set_option maxHeartbeats 4000000 in
theorem fold_alt {base : Nat} {S : Nat → Prop} {lv : Value} {l : List CT} {w : World} (hS : ∀ k, w.heap.size ≤ k → S k) (hl : l.length ≤ 1048577) (h : RowC base S w lv l) :
    Calls Tryz.prog 245 #[lv, .func (.func 247) #[] #[]] w fun v w' => CPost S w w' (foldC .alt l) v := by
  by_cases h0 : l.length = 0
  · obtain ⟨A, c, rfl⟩ := h.form
    obtain rfl : l = [] := List.eq_nil_of_length_eq_zero h0
    clear h h0
    go_enter Tryz.func245, Tryz.ntmps245
    go_wp2
    go_returns
    exact ⟨_, rfl, ⟨hS _ (Nat.le_refl _), by rw [coreV_noset]; exact Blk.new w _ _⟩, (Below.refl _ w).alloc (Nat.le_refl _) _⟩
  · obtain ⟨g, c, rfl⟩ := h.full (by omega)
    obtain ⟨-, -, hc⟩ := h.cells
    have HI := Lib.hid (show ∀ (i : Nat) (hi : i < l.length), ∃ b, w.cell? ⟨g, i, none⟩ = some (cptr b) ∧ CoreAt w S l[i] b from fun i hi => hc i _ (List.getElem?_eq_getElem hi))
    have HF := Lib.hid (show ∀ (i : Nat) (hi : i + 1 < l.length), foldC .alt (l.drop i) = .alt l[i] (foldC .alt (l.drop (i + 1))) from fun i hi => foldC_drop _ hi)
    have HS := Lib.hid hS
    obtain ⟨b, cb, hcb⟩ := HI.out (l.length - 1) (by omega)
    have hlast : CoreAt w S (foldC .alt (l.drop (l.length - 1))) b := by rw [foldC_last _ (by omega)]; exact hcb
    have HL := Lib.hid hlast
    have hgl := cell_lt0 cb
    clear h hc hcb hlast hS
    have h1 : 1 ≤ l.length := by omega
    have hz : (((l.length : Nat) : Int) == 0) = false := by rw [beq_eq_false_iff_ne]; omega
    go_enter Tryz.func245, Tryz.ntmps245
    go_wp2_with fail
    go_loopw [5, 6] (fun ov iv wr => ∃ (j bo : Nat), j < l.length ∧ iv = .int .i64 (((j : Nat) : Int) - 1) ∧ ov = cptr bo ∧ CoreAt wr S (foldC .alt (l.drop j)) bo ∧ Below w.heap.size w wr) (fun _ iv _ => (intOf iv + 1).toNat)
    case atStart => exact ⟨l.length - 1, b, by omega, by go_num, rfl, HL.out, Below.refl _ _⟩
    case round =>
      obtain ⟨j, bo, hj, rfl, rfl, hc, hb⟩ := hrel
      have HC := Lib.hid hc
      clear hc
      cases j with
      | zero =>
        go_wp2
        go_returns
        exact ⟨_, rfl, HC.out, hb⟩
      | succ j =>
        obtain ⟨e, ce, hce⟩ := HI.out j (by omega)
        have ce2 : wr.cell? ⟨g, j, none⟩ = some (cptr e) := (hb.cell (p := ⟨g, j, none⟩) (cell_lt0 ce)).trans ce
        have HE := Lib.hid (hce.under hb)
        have HFj := Lib.hid (HF.out j hj)
        clear ce hce
        have hgl2 := cell_lt0 ce2
        go_wp2_with fail
        refine (join_alt (fun k hk => HS.out k (Nat.le_trans hb.size hk)) HE.out HC.out).mono ?_
        rintro v w2 ⟨b2, rfl, hc2, hb2⟩
        have HC2 := Lib.hid hc2
        clear hc2
        go_wp2
        go_roundw
        case rel => exact ⟨j, b2, by omega, by go_num, rfl, by rw [HFj.out]; exact HC2.out, hb.trans (hb2.mono hb.size)⟩
        case measure => simp [intOf]
end Go.Proofs.YtpiimcbbgalhfaaGreatDoor
