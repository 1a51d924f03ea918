/- The parser of patterns: rows of trees; cat. -/
import Derived.Test.YtpiimcbbgalhfaaGreatDoorBi
import Derived.Test.YtpiimcbbgalhfaaGreatDoorBb
import Derived.Test.YtpiimcbbgalhfaaGreatDoorBh
namespace Go.Proofs.YtpiimcbbgalhfaaGreatDoor
set_option maxRecDepth 100000
open Go.RowKit
abbrev ptrV (g : Nat) : Value := .pointer (some ⟨g, 0, none⟩)
/-- The slice value lv is a row of the call's own, of pointers to the trees l. -/
def RowT (w0 w : World) (lv : Value) (l : List Tree) : Prop := ∃ bs : List Nat, bs.length = l.length ∧ w.ownsRow w0.heap.size 26 1 lv l.length (bs.map ptrV) ∧
  ∀ (k : Nat) (n : Tree) (g : Nat), l[k]? = some n → bs[k]? = some g → TreeAt w (fun q => w0.heap.size ≤ q ∧ lv.ownBlock ≠ some q) n g
theorem RowT.nil (w0 w : World) : RowT w0 w (.slice none 0 0) [] := ⟨[], rfl, World.ownsRow_nil _ _ _ _, fun k n g h => by cases h⟩
theorem RowT.turn {w0 w w' : World} {lv : Value} {l : List Tree} {pb : Nat} (h : RowT w0 w lv l) (hg : w.grownBy w' (some pb)) (hp : pb < w0.heap.size) : RowT w0 w' lv l := by
  obtain ⟨bs, h1, h2, h3⟩ := h
  exact ⟨bs, h1, own_turned h2 hg hp, fun k n g hk hb => (h3 k n g hk hb).only hg (fun q hq e => by have := hq.1; omega)⟩
theorem RowT.below {w0 w w' : World} {lv : Value} {l : List Tree} (h : RowT w0 w lv l) (hb : Below w.heap.size w w') : RowT w0 w' lv l := by
  obtain ⟨bs, h1, h2, h3⟩ := h
  exact ⟨bs, h1, own_below h2 hb, fun k n g hk hg => (h3 k n g hk hg).under hb⟩
theorem RowT.own {w0 w : World} {lv : Value} {l : List Tree} (h : RowT w0 w lv l) : ∀ k, lv.ownBlock = some k → k < w.heap.size := by
  obtain ⟨bs, h1, h2, h3⟩ := h
  exact fun k hk => (h2.lt k hk).2
theorem RowT.snoc {w0 w1 W w' : World} {lv : Value} {l : List Tree} {n : Tree} {b g cap : Nat} {bs : List Nat} (hl : bs.length = l.length)
    (h3 : ∀ (k : Nat) (n : Tree) (g : Nat), l[k]? = some n → bs[k]? = some g → TreeAt W (fun q => w0.heap.size ≤ q ∧ lv.ownBlock ≠ some q) n g) (hlt : ∀ k, lv.ownBlock = some k → k < w1.heap.size) (hw : w0.heap.size ≤ w1.heap.size) (hn : TreeAt W (From w1) n b)
    (hown : w'.ownsRow w0.heap.size 26 1 (.slice (some ⟨g, 0, none⟩) (l.length + 1) cap) (l.length + 1) (bs.map ptrV ++ [ptrV b])) (hm : Moved W w' lv g) : RowT w0 w' (.slice (some ⟨g, 0, none⟩) (l.length + 1) cap) (l ++ [n]) := by
  have hall : ∀ (k : Nat) (m : Tree) (q : Nat), (l ++ [n])[k]? = some m → (bs ++ [b])[k]? = some q → TreeAt W (fun q => w0.heap.size ≤ q ∧ lv.ownBlock ≠ some q) m q := by
    intro k m q hk hq
    rcases Nat.lt_or_ge k l.length with hkl | hkl
    · rw [List.getElem?_append_left hkl] at hk
      rw [List.getElem?_append_left (by omega)] at hq
      exact h3 k m q hk hq
    · obtain rfl : k = l.length := by
        have := (List.getElem?_eq_some_iff.1 hk).1
        simp at this
        omega
      rw [List.getElem?_append_right (Nat.le_refl _), Nat.sub_self] at hk
      rw [List.getElem?_append_right (by omega), hl, Nat.sub_self] at hq
      injection hk with hk
      injection hq with hq
      subst hk
      subst hq
      refine hn.mono fun q hq _ => ⟨Nat.le_trans hw hq, fun e => ?_⟩
      have := hlt q e
      have : w1.heap.size ≤ q := hq
      omega
  refine ⟨bs ++ [b], by simp [hl], by simpa using hown, fun k m q hk hq => (hall k m q hk hq).turn (fun i hi hil => hm.keep i hil hi.2) (fun i hi hil => ⟨hi.1, fun e => ?_⟩)⟩
  have hgi : g = i := by injection e
  subst hgi
  rcases hm.lies with h | h
  · exact hi.2 h
  · omega
theorem RowT.cells {w0 w : World} {g c : Nat} {l : List Tree} {L : Nat} (h : RowT w0 w (.slice (some ⟨g, 0, none⟩) L c) l) : L = l.length ∧ w0.heap.size ≤ g ∧ ∀ (k : Nat) (n : Tree), l[k]? = some n → ∃ b, w.cell? ⟨g, k, none⟩ = some (ptrV b) ∧ TreeAt w (fun q => w0.heap.size ≤ q) n b := by
  obtain ⟨bs, h1, h2, h3⟩ := h
  obtain ⟨o', c', e, -⟩ : ∃ (o : Option Addr) (c' : Nat), Value.slice (some ⟨g, 0, none⟩) L c = .slice o l.length c' ∧ True := by
    rcases h2.2 with ⟨e, _⟩ | ⟨g', cap, cur, e, _⟩
    · cases e
    · exact ⟨_, _, e, trivial⟩
  have hL : L = l.length := by injection e
  subst hL
  refine ⟨rfl, (h2.lt g rfl).1, fun k n hk => ?_⟩
  have hkl : k < bs.length := by rw [h1]; exact (List.getElem?_eq_some_iff.1 hk).1
  have hb := List.getElem?_eq_getElem hkl
  exact ⟨bs[k], own_cell h2 k _ (by rw [List.getElem?_map, hb]; rfl), (h3 k n _ hk hb).mono fun q hq _ => hq.1⟩
theorem RowT.bs {w0 w : World} {g c : Nat} {l : List Tree} {L : Nat} (h : RowT w0 w (.slice (some ⟨g, 0, none⟩) L c) l) : ∃ bs : List Nat, bs.length = l.length ∧ (∀ (i q : Nat), bs[i]? = some q → w.cell? ⟨g, i, none⟩ = some (ptrV q)) ∧ ∀ (k : Nat) (n : Tree) (q : Nat), l[k]? = some n → bs[k]? = some q → TreeAt w (fun q => w0.heap.size ≤ q) n q := by
  obtain ⟨rfl, -, -⟩ := h.cells
  obtain ⟨bs, h1, h2, h3⟩ := h
  exact ⟨bs, h1, fun i q hq => own_cell h2 i _ (by rw [List.getElem?_map, hq]; rfl), fun k n q hk hq => (h3 k n q hk hq).mono fun q hq _ => hq.1⟩
/-- A node of several. -/
theorem RowT.node {w0 w W : World} {g c k f t : Nat} {l : List Tree} {b : Nat} (hm : l.length ≤ 1048577) (h : RowT w0 w (.slice (some ⟨g, 0, none⟩) l.length c) l) (hb : Below w.heap.size w W) (hwb : w0.heap.size ≤ b)
    (hn : Blk W b 34 [.int .i64 ((k : Nat) : Int), .int .u64 0, .int .u64 0, .int .u64 0, .int .u64 0, .int .i64 0, .int .i64 0, .bool false, .slice (some ⟨g, 0, none⟩) l.length c, .int .i64 ((f : Nat) : Int), .int .i64 ((t : Nat) : Int)]) : TreeAt W (From w0) (.mk ((k : Nat) : Int) noSet 0 0 false l f t) b := by
  obtain ⟨-, hg, -⟩ := h.cells
  obtain ⟨bs, h1, h2, h3⟩ := h.bs
  rw [← nodeL_noset] at hn
  exact .mk (ga := g) (bs := bs) hwb hn h1 hm (fun _ => ⟨rfl, hg⟩) (fun i q hq => (hb.cell (p := ⟨g, i, none⟩) (cell_lt0 (h2 i q hq))).trans (h2 i q hq)) (fun i m q hm hq => (h3 i m q hm hq).under hb)
theorem TreeAt.span {w : World} {S : Nat → Prop} {n : Tree} {b : Nat} (h : TreeAt w S n b) : w.cell? ⟨b, 9, none⟩ = some (.int .i64 ((n.f : Nat) : Int)) ∧ w.cell? ⟨b, 10, none⟩ = some (.int .i64 ((n.t : Nat) : Int)) := by
  obtain ⟨A, c, hb, -, -⟩ := h.node
  exact ⟨hb.cell 9, hb.cell 10⟩
/-- many, of a row of trees. -/
theorem many_at {w0 w : World} {g c k : Nat} {l : List Tree} (h : RowT w0 w (.slice (some ⟨g, 0, none⟩) l.length c) l) (hl : 0 < l.length) (hm : l.length ≤ 1048577) (hw : w0.heap.size ≤ w.heap.size) :
    Calls Tryz.prog 133 #[.int .i64 ((k : Nat) : Int), .slice (some ⟨g, 0, none⟩) l.length c] w fun v w' => ∃ b, v = .returned (ptrV b) ∧ Below w.heap.size w w' ∧ TreeAt w' (From w0) (manyT ((k : Nat) : Int) l) b := by
  obtain ⟨-, -, hc⟩ := h.cells
  by_cases h1 : l.length = 1
  · obtain ⟨n, rfl⟩ : ∃ n, l = [n] := by
      match l, h1 with
      | [n], _ => exact ⟨n, rfl⟩
    obtain ⟨b, hb, ht⟩ := hc 0 n rfl
    refine (many_one (k := ((k : Nat) : Int)) (c := c) hb).mono ?_
    rintro v w' ⟨rfl, rfl⟩
    exact ⟨b, rfl, Below.refl _ _, ht⟩
  · have h2 : 2 ≤ l.length := by omega
    obtain ⟨n0, hn0⟩ : ∃ n, l[0]? = some n := ⟨_, List.getElem?_eq_getElem hl⟩
    obtain ⟨n1, hn1⟩ : ∃ n, l[l.length - 1]? = some n := ⟨_, List.getElem?_eq_getElem (by omega)⟩
    obtain ⟨b0, hb0, ht0⟩ := hc 0 n0 hn0
    obtain ⟨b1, hb1, ht1⟩ := hc _ n1 hn1
    refine (many_more (k := ((k : Nat) : Int)) (c := c) h2 hm hb0 hb1 ht0.span.1 ht1.span.2).mono ?_
    rintro v w' ⟨rfl, hbel, hblk⟩
    refine ⟨w.heap.size, rfl, hbel, ?_⟩
    have := RowT.node hm h hbel hw hblk
    have hf : headT l = n0.f := by unfold headT; rw [List.head?_eq_getElem?, hn0]
    have ht : lastT l = n1.t := by unfold lastT; rw [List.getLast?_eq_getElem?, hn1]
    have hmk : manyT ((k : Nat) : Int) l = .mk ((k : Nat) : Int) noSet 0 0 false l n0.f n1.t := by
      unfold manyT
      split
      · simp at h1
      · rw [hf, ht]
    rw [hmk]
    exact this
end Go.Proofs.YtpiimcbbgalhfaaGreatDoor
/- The parser of patterns: cat. -/
namespace Go.Proofs.YtpiimcbbgalhfaaGreatDoor
set_option maxRecDepth 100000
open Go.RowKit
theorem elem_node : Elem Tryz.prog 31 26 1 8 := by
  obtain ⟨i, hi, h0, h1, h2⟩ := info_parts (by kernel_rfl : (Tryz.prog.info? 26).map (fun i => (i.zero, i.size, i.bytes)) = some (some (.pointer none), 1, 8))
  exact ⟨i, _, Tryz.underlying31, hi, h0, h1, h2, rfl, by omega⟩
theorem one_ptr (a : Option Addr) : ∀ u ∈ [Value.pointer a], u.oneCell' = true := by
  intro u hu
  obtain rfl := List.mem_singleton.1 hu
  rfl
/-- What reading an alternative leaves. -/
def CatPost (w w' : World) (pb : Nat) (o : Option Addr) (c : Nat) (T : List Tk) (size d : Nat) (r : PRes) (v : Ending) : Prop := match r with
  | .ok n j => ∃ b, v = .returned (ptrV b) ∧ Psr w' pb o c T size j d 0 0 ∧ w.grownBy w' (some pb) ∧ TreeAt w' (From w) n b
  | .err p e => ∃ b fr i', v = .returned (ptrV b) ∧ e ≠ 0 ∧ Psr w' pb o c T size i' d p e ∧ w.grownBy w' (some pb) ∧ TreeAt w' (From w) (emptyT fr) b
def nextP (w : World) (b : Nat) : Nat := match w.cell? ⟨b, 1, none⟩ with | some (.int _ n) => n.toNat | _ => 0
def errP (w : World) (b : Nat) : Nat := match w.cell? ⟨b, 5, none⟩ with | some (.int _ n) => n.toNat | _ => 0
theorem Psr.pos {w : World} {pb : Nat} {o : Option Addr} {c : Nat} {T : List Tk} {size i d p e : Nat} (h : Psr w pb o c T size i d p e) : nextP w pb = i ∧ errP w pb = e := by
  unfold nextP errP
  rw [h.blk.cell 1, h.blk.cell 5]
  exact ⟨by simp, by simp⟩
theorem grown_moved {w W w' : World} {pb g : Nat} {lv : Value} (hg : w.grownBy W (some pb)) (hm : Moved W w' lv g) (hne : ∀ k, lv.ownBlock = some k → w.heap.size ≤ k) : w.grownBy w' (some pb) :=
  ⟨hm.os.trans hg.os, hm.tape.trans hg.tape, hm.output.trans hg.output, Nat.le_trans hg.size hm.size, fun i hi hn => (hm.keep i (Nat.lt_of_lt_of_le hi hg.size) (fun e => by have := hne i e; omega)).trans (hg.block i hi hn)⟩
theorem Psr.moved {W w' : World} {pb : Nat} {o : Option Addr} {c : Nat} {T : List Tk} {size i d p e g : Nat} {lv : Value} (h : Psr W pb o c T size i d p e) (hm : Moved W w' lv g) (hne : lv.ownBlock ≠ some pb) (hr : ∀ k, k < pb → lv.ownBlock ≠ some k) : Psr w' pb o c T size i d p e :=
  ⟨(hm.keep pb h.blk.lt hne).trans h.blk, fun k x f t hk => by
    obtain ⟨q, h1, h2, h3⟩ := h.row k x f t hk
    exact ⟨q, h1, h2, fun r v hv => (World.cell?_of_block (a := ⟨q, k * 10 + r, none⟩) (hm.keep q (Nat.lt_trans h2 h.blk.lt) (hr q h2))).trans (h3 r v hv)⟩, h.le, h.len, h.sz, h.deep⟩
theorem catEnd_some {T : List Tk} {size i j : Nat} {l : List Tree} (h : 0 < l.length) : catEnd T size i (.ok l j) = .ok (manyT 4 l) j := by
  cases l with
  | nil => exact absurd h (Nat.lt_irrefl 0)
  | cons n l => rfl
/-- Where the loop of cat stands. -/
def CatRun (w wr : World) (pb : Nat) (o : Option Addr) (c : Nat) (T : List Tk) (size d i n : Nat) (lv : Value) : Prop :=
  (∃ (l : List Tree) (j f : Nat), Psr wr pb o c T size j d 0 0 ∧ RowT w wr lv l ∧ l.length ≤ j ∧ i ≤ j ∧ T.length - j < f ∧ catLoop T size (altF T size n) d (T.length + 1 - i) [] i = catLoop T size (altF T size n) d f l j) ∨
  (∃ p e i', catLoop T size (altF T size n) d (T.length + 1 - i) [] i = .err p e ∧ e ≠ 0 ∧ Psr wr pb o c T size i' d p e ∧ ∃ oo L cc, lv = .slice oo L cc)
theorem emptyN {w W : World} {b fr : Nat} (h : Blk W b 34 [.int .i64 0, .int .u64 0, .int .u64 0, .int .u64 0, .int .u64 0, .int .i64 0, .int .i64 0, .bool false, .slice none 0 0, .int .i64 ((fr : Nat) : Int), .int .i64 ((fr : Nat) : Int)]) (hb : w.heap.size ≤ b) : TreeAt W (From w) (emptyT fr) b := by
  rw [← nodeL_noset] at h
  exact TreeAt.leaf hb h
set_option maxHeartbeats 8000000 in
theorem pcat_at {w : World} {pb : Nat} {o : Option Addr} {c : Nat} {T : List Tk} {size i d n : Nat} (h : Psr w pb o c T size i d 0 0) (h5 : kinds5 T) (hn : T.length - i ≤ n) (hrec : AltOk pb o c T size n) :
    Calls Tryz.prog 131 #[.pointer (some ⟨pb, 0, none⟩)] w fun v w' => CatPost w w' pb o c T size d (catW T size (altF T size n) d i) v := by
  have hlt := h.blk.lt
  have hlen := h.len
  have hle0 := h.le
  have HCW := Lib.hid (show catW T size (altF T size n) d i = catEnd T size i (catLoop T size (altF T size n) d (T.length + 1 - i) [] i) from rfl)
  go_enter Tryz.func131, Tryz.ntmps131
  go_wp2_with fail
  refine (pat_at h).mono ?_
  rintro v w1 ⟨rfl, hb⟩
  have hP := h.below hb
  have hg := only_of pb hb
  have HF := Lib.hid (show fromAt T size i = fromAt T size i from rfl)
  clear h hb HF
  generalize hfr : fromAt T size i = fr at *
  have HFR := Lib.hid hfr
  clear hfr
  go_wp2_with fail
  go_loopw [4] (fun lv wr => w.grownBy wr (some pb) ∧ CatRun w wr pb o c T size d i n lv) (fun _ wr => if errP wr pb = 0 then T.length + 1 - nextP wr pb else 0)
  case atStart => exact ⟨hg, .inl ⟨[], i, T.length + 1 - i, hP, RowT.nil _ _, Nat.zero_le _, Nat.le_refl _, by omega, rfl⟩⟩
  case round =>
    clear hP hg
    obtain ⟨hg, hrun⟩ := hrel
    rename World => w2
    rcases hrun with ⟨l, j, f, hP, hrow, hlj, hij, hf, heq⟩ | ⟨p, e, i', heq, he, hP, oo, L, cc, rfl⟩
    · have HPO := Lib.hid hP.pos
      have hjl := hP.le
      obtain ⟨f, rfl⟩ : ∃ f', f = f' + 1 := ⟨f - 1, by omega⟩
      obtain ⟨⟨c0, c1, c2, c3, c4, c5⟩, f1, f3, f4, f5⟩ := hP.cells
      go_wp2_with fail
      refine (ppeek_at hP).mono ?_
      rintro v w3 ⟨rfl, hb⟩
      replace hP := hP.below hb
      replace hrow := hrow.below hb
      replace hg := only_below hg hb
      have hsz := hg.size
      clear hb c0 c1 c2 c3 c4 c5 f1 f3 f4 f5
      cases hT : T[j]? with
      | none =>
        rw [peekT_none hT]
        simp only [Option.isSome_none]
        have HEQ := Lib.hid (heq.trans (show catLoop T size (altF T size n) d (f + 1) l j = .ok l j by unfold catLoop; rw [hT]))
        clear heq hT
        unfold tokV
        have hbb := (Below.refl _ w3).alloc (Nat.le_refl _) (.cells (tokL zeroTok size size).toArray 111)
        replace hP := hP.below hbb
        replace hrow := hrow.below hbb
        replace hg := only_below hg hbb
        clear hbb
        go_upto_region 5 with fail
        generalize w3.alloc _ = w4 at *
        obtain ⟨⟨c0, c1, c2, c3, c4, c5⟩, f1, f3, f4, f5⟩ := hP.cells
        have hform := own_form (Exists.choose_spec hrow).2.1
        rcases hform with ⟨rfl, hz⟩ | ⟨b', cap, rfl⟩
        · have hl0 : l = [] := List.eq_nil_of_length_eq_zero hz
          subst hl0
          clear hrow hz
          go_wp2
          go_returns
          rw [HCW.out, HEQ.out, catEnd]
          refine ⟨_, rfl, hP.below ((Below.refl _ _).alloc (Nat.le_refl _) _), grown_alloc hg _, ?_⟩
          have := emptyN (w := w) (fr := fr) (Blk.new _ [.int .i64 0, .int .u64 0, .int .u64 0, .int .u64 0, .int .u64 0, .int .i64 0, .int .i64 0, .bool false, .slice none 0 0, .int .i64 ((fr : Nat) : Int), .int .i64 ((fr : Nat) : Int)] 34) hg.size
          rw [HFR.out]
          exact this
        · by_cases hl0 : l.length = 0
          · have hl1 : l = [] := List.eq_nil_of_length_eq_zero hl0
            subst hl1
            clear hrow hl0
            go_wp2
            go_returns
            rw [HCW.out, HEQ.out, catEnd]
            refine ⟨_, rfl, hP.below ((Below.refl _ _).alloc (Nat.le_refl _) _), grown_alloc hg _, ?_⟩
            have := emptyN (w := w) (fr := fr) (Blk.new _ [.int .i64 0, .int .u64 0, .int .u64 0, .int .u64 0, .int .u64 0, .int .i64 0, .int .i64 0, .bool false, .slice none 0 0, .int .i64 ((fr : Nat) : Int), .int .i64 ((fr : Nat) : Int)] 34) hg.size
            rw [HFR.out]
            exact this
          · have hlp : 0 < l.length := by omega
            have hq : (((l.length : Nat) : Int) == 0) = false := by rw [beq_eq_false_iff_ne]; omega
            go_wp2_with fail
            refine (many_at (k := 4) hrow hlp (by omega) hg.size).mono ?_
            rintro v w4 ⟨b, rfl, hb, htr⟩
            replace hP := hP.below hb
            replace hg := only_below hg hb
            clear hb c0 c1 c2 c3 c4 c5 f1 f3 f4 f5
            go_wp2
            go_returns
            rw [HCW.out, HEQ.out, catEnd_some hlp]
            exact ⟨b, rfl, hP, hg, htr⟩
      | some x =>
        obtain ⟨x, xf, xt⟩ := x
        rw [peekT_some hT]
        simp only [Option.isSome_some]
        unfold tokV
        have st := (StG.nil w3 pb).alloc rfl (tokL x xf xt) 111
        have hbb := (Below.refl _ w3).alloc (Nat.le_refl _) (.cells (tokL x xf xt).toArray 111)
        replace hP := hP.below hbb
        replace hrow := hrow.below hbb
        replace hg := only_below hg hbb
        have hsz2 := hg.size
        clear hbb
        go_upto_region 5 with fail
        generalize w3.alloc _ = w4 at *
        obtain ⟨p0, p1, p2, p3, p4, p5, p6, p7, p8, p9⟩ := st.ten 0 rfl
        by_cases h4 : x.kind = 4
        · have HEQ := Lib.hid (heq.trans (show catLoop T size (altF T size n) d (f + 1) l j = .ok l j by unfold catLoop; rw [hT]; simp only []; rw [if_pos (.inl h4)]))
          have hq4 : (((x.kind : Nat) : Int) == 4) = true := by rw [beq_iff_eq]; omega
          clear heq hT h4
          obtain ⟨⟨c0, c1, c2, c3, c4, c5⟩, f1, f3, f4, f5⟩ := hP.cells
          have hform := own_form (Exists.choose_spec hrow).2.1
          rcases hform with ⟨rfl, hz⟩ | ⟨b', cap, rfl⟩
          · have hl0 : l = [] := List.eq_nil_of_length_eq_zero hz
            subst hl0
            clear hrow hz
            go_wp2
            go_returns
            rw [HCW.out, HEQ.out, catEnd]
            refine ⟨_, rfl, hP.below ((Below.refl _ _).alloc (Nat.le_refl _) _), grown_alloc hg _, ?_⟩
            have := emptyN (w := w) (fr := fr) (Blk.new _ [.int .i64 0, .int .u64 0, .int .u64 0, .int .u64 0, .int .u64 0, .int .i64 0, .int .i64 0, .bool false, .slice none 0 0, .int .i64 ((fr : Nat) : Int), .int .i64 ((fr : Nat) : Int)] 34) hg.size
            rw [HFR.out]
            exact this
          · by_cases hl0 : l.length = 0
            · have hl1 : l = [] := List.eq_nil_of_length_eq_zero hl0
              subst hl1
              clear hrow hl0
              go_wp2
              go_returns
              rw [HCW.out, HEQ.out, catEnd]
              refine ⟨_, rfl, hP.below ((Below.refl _ _).alloc (Nat.le_refl _) _), grown_alloc hg _, ?_⟩
              have := emptyN (w := w) (fr := fr) (Blk.new _ [.int .i64 0, .int .u64 0, .int .u64 0, .int .u64 0, .int .u64 0, .int .i64 0, .int .i64 0, .bool false, .slice none 0 0, .int .i64 ((fr : Nat) : Int), .int .i64 ((fr : Nat) : Int)] 34) hg.size
              rw [HFR.out]
              exact this
            · have hlp : 0 < l.length := by omega
              have hq : (((l.length : Nat) : Int) == 0) = false := by rw [beq_eq_false_iff_ne]; omega
              go_wp2_with fail
              refine (many_at (k := 4) hrow hlp (by omega) hg.size).mono ?_
              rintro v w4 ⟨b, rfl, hb, htr⟩
              replace hP := hP.below hb
              replace hg := only_below hg hb
              clear hb c0 c1 c2 c3 c4 c5 f1 f3 f4 f5
              go_wp2
              go_returns
              rw [HCW.out, HEQ.out, catEnd_some hlp]
              exact ⟨b, rfl, hP, hg, htr⟩
        · have hq4 : (((x.kind : Nat) : Int) == 4) = false := by rw [beq_eq_false_iff_ne]; omega
          by_cases h3 : x.kind = 3
          · have HEQ := Lib.hid (heq.trans (show catLoop T size (altF T size n) d (f + 1) l j = .ok l j by unfold catLoop; rw [hT]; simp only []; rw [if_pos (.inr h3)]))
            have hq3 : (((x.kind : Nat) : Int) == 3) = true := by rw [beq_iff_eq]; omega
            clear heq hT h3 h4
            obtain ⟨⟨c0, c1, c2, c3, c4, c5⟩, f1, f3, f4, f5⟩ := hP.cells
            have hform := own_form (Exists.choose_spec hrow).2.1
            rcases hform with ⟨rfl, hz⟩ | ⟨b', cap, rfl⟩
            · have hl0 : l = [] := List.eq_nil_of_length_eq_zero hz
              subst hl0
              clear hrow hz
              go_wp2
              go_returns
              rw [HCW.out, HEQ.out, catEnd]
              refine ⟨_, rfl, hP.below ((Below.refl _ _).alloc (Nat.le_refl _) _), grown_alloc hg _, ?_⟩
              have := emptyN (w := w) (fr := fr) (Blk.new _ [.int .i64 0, .int .u64 0, .int .u64 0, .int .u64 0, .int .u64 0, .int .i64 0, .int .i64 0, .bool false, .slice none 0 0, .int .i64 ((fr : Nat) : Int), .int .i64 ((fr : Nat) : Int)] 34) hg.size
              rw [HFR.out]
              exact this
            · by_cases hl0 : l.length = 0
              · have hl1 : l = [] := List.eq_nil_of_length_eq_zero hl0
                subst hl1
                clear hrow hl0
                go_wp2
                go_returns
                rw [HCW.out, HEQ.out, catEnd]
                refine ⟨_, rfl, hP.below ((Below.refl _ _).alloc (Nat.le_refl _) _), grown_alloc hg _, ?_⟩
                have := emptyN (w := w) (fr := fr) (Blk.new _ [.int .i64 0, .int .u64 0, .int .u64 0, .int .u64 0, .int .u64 0, .int .i64 0, .int .i64 0, .bool false, .slice none 0 0, .int .i64 ((fr : Nat) : Int), .int .i64 ((fr : Nat) : Int)] 34) hg.size
                rw [HFR.out]
                exact this
              · have hlp : 0 < l.length := by omega
                have hq : (((l.length : Nat) : Int) == 0) = false := by rw [beq_eq_false_iff_ne]; omega
                go_wp2_with fail
                refine (many_at (k := 4) hrow hlp (by omega) hg.size).mono ?_
                rintro v w4 ⟨b, rfl, hb, htr⟩
                replace hP := hP.below hb
                replace hg := only_below hg hb
                clear hb c0 c1 c2 c3 c4 c5 f1 f3 f4 f5
                go_wp2
                go_returns
                rw [HCW.out, HEQ.out, catEnd_some hlp]
                exact ⟨b, rfl, hP, hg, htr⟩
          · have hq3 : (((x.kind : Nat) : Int) == 3) = false := by rw [beq_eq_false_iff_ne]; omega
            have hjlt := (List.getElem?_eq_some_iff.1 hT).1
            have HC := Lib.hid (show catLoop T size (altF T size n) d (f + 1) l j = match itemW T size (altF T size n) d j (x, xf, xt) with
              | .err p e => .err p e
              | .ok n' j' => catLoop T size (altF T size n) d f (l ++ [n']) j' by
                conv => lhs; unfold catLoop
                rw [hT]; simp only []; rw [if_neg (show ¬(x.kind = 4 ∨ x.kind = 3) by omega)]; rfl)
            have HQ := Lib.hid heq
            have HT := Lib.hid (And.intro hT (And.intro h3 h4))
            have HIS := Lib.hid (item_even (size := size) (rec := altF T size n) (d := d) hT h3 h4 (altF_even n (d + 1) (j + 1) hjlt (by omega)))
            clear heq hT h3 h4
            go_wp2_with fail
            refine (pitem_at hP HT.out.1 HT.out.2.1 HT.out.2.2 h5 (by omega) hrec).mono ?_
            rintro v w5 hpost
            clear p0 p1 p2 p3 p4 p5 p6 p7 p8 p9 hq3 hq4 st
            cases hr : itemW T size (altF T size n) d j (x, xf, xt) with
            | err p e =>
              rw [hr] at hpost
              obtain ⟨a, i', rfl, he, hP5, hg5⟩ := hpost
              have HR := Lib.hid (show catLoop T size (altF T size n) d (T.length + 1 - i) [] i = .err p e by rw [HQ.out, HC.out, hr])
              replace hrow := hrow.turn hg5 hlt
              replace hg := only_trans hg hg5
              have hsz5 := hg.size
              have hlive := hP5.blk.lt
              obtain ⟨bs, hbs, hown, -⟩ := hrow
              have HOW := Lib.hid hown
              have HNE := Lib.hid (show ∀ k, u4.ownBlock = some k → w.heap.size ≤ k from fun k hk => (hown.lt k hk).1)
              have HE := Lib.hid he
              clear hown hr he hg5 HC HQ HIS hP
              go_wp2_with (at_builtin; refine append_far rfl (.tmp 35) (.tmp 39) 31 rfl w.heap.size 26 1 8 elem_node _ _ _ rfl HOW.out [.pointer a] rfl rfl (one_ptr _) ?h1a ?h2a ?h3a ?h4a; (case h1a => omega); (case h2a => omega); (case h3a => omega); intro g5 cap5 w5 hown5 hmv)
              have hgm := grown_moved hg hmv HNE.out
              have hP6 := hP5.moved hmv (fun e => by have := HNE.out _ e; omega) (fun k q e => by have := HNE.out _ e; have := q; omega)
              have HPO6 := Lib.hid hP6.pos
              clear hmv hP5 hown5
              go_roundw
              case rel => exact ⟨hgm, .inr ⟨p, e, i', HR.out, HE.out, hP6, _, _, _, rfl⟩⟩
              case measure =>
                rw [HPO6.out.1, HPO6.out.2, HPO.out.1, HPO.out.2, if_neg HE.out, if_pos rfl]
                omega
            | ok m j2 =>
              rw [hr] at hpost
              obtain ⟨b, rfl, hP5, hg5, htr⟩ := hpost
              have his := HIS.out
              rw [hr] at his
              obtain ⟨hj2, hj3, -, -⟩ := his
              have HR := Lib.hid (show catLoop T size (altF T size n) d (T.length + 1 - i) [] i = catLoop T size (altF T size n) d f (l ++ [m]) j2 by rw [HQ.out, HC.out, hr])
              have hown4 := Lib.hid hrow.own
              replace hrow := hrow.turn hg5 hlt
              replace hg := only_trans hg hg5
              have hsz5 := hg.size
              have hlive := hP5.blk.lt
              obtain ⟨bs, hbs, hown, h3r⟩ := hrow
              have HOW := Lib.hid hown
              have HBS := Lib.hid hbs
              have H3 := Lib.hid h3r
              have HTR := Lib.hid htr
              have HNE := Lib.hid (show ∀ k, u4.ownBlock = some k → w.heap.size ≤ k from fun k hk => (hown.lt k hk).1)
              clear hown hr hg5 HC HQ HIS hP hbs h3r htr
              go_wp2_with (at_builtin; refine append_far rfl (.tmp 35) (.tmp 39) 31 rfl w.heap.size 26 1 8 elem_node _ _ _ rfl HOW.out [.pointer (some ⟨b, 0, none⟩)] rfl rfl (one_ptr _) ?h1b ?h2b ?h3b ?h4b; (case h1b => omega); (case h2b => omega); (case h3b => omega); intro g5 cap5 w5 hown5 hmv)
              have hgm := grown_moved hg hmv HNE.out
              have hP6 := hP5.moved hmv (fun e => by have := HNE.out _ e; omega) (fun k q e => by have := HNE.out _ e; have := q; omega)
              have HPO6 := Lib.hid hP6.pos
              have HROW := Lib.hid (RowT.snoc HBS.out H3.out hown4.out hsz2 HTR.out hown5 hmv)
              clear hmv hP5 hown5 H3 HTR HBS
              go_roundw
              case rel => exact ⟨hgm, .inl ⟨l ++ [m], j2, f, hP6, HROW.out, by simp; omega, by omega, by omega, HR.out⟩⟩
              case measure =>
                rw [HPO6.out.1, HPO6.out.2, HPO.out.1, HPO.out.2, if_pos rfl, if_pos rfl]
                omega
    · have HE := Lib.hid he
      have HR := Lib.hid heq
      have he1 : (((e : Nat) : Int) != 0) = true := by rw [bne_iff_ne]; omega
      have he2 : (((e : Nat) : Int) == 0) = false := by rw [beq_eq_false_iff_ne]; omega
      clear he heq
      obtain ⟨⟨c0, c1, c2, c3, c4, c5⟩, f1, f3, f4, f5⟩ := hP.cells
      go_wp2
      go_returns
      rw [HCW.out, HR.out]
      refine ⟨_, fr, i', rfl, HE.out, hP.below ((Below.refl _ _).alloc (Nat.le_refl _) _), grown_alloc hg _, ?_⟩
      exact emptyN (Blk.new _ [.int .i64 0, .int .u64 0, .int .u64 0, .int .u64 0, .int .u64 0, .int .i64 0, .int .i64 0, .bool false, .slice none 0 0, .int .i64 ((fr : Nat) : Int), .int .i64 ((fr : Nat) : Int)] 34) hg.size
end Go.Proofs.YtpiimcbbgalhfaaGreatDoor
