/- The reference of layer 6: cat. -/
import Derived.Test.YtckoebfmoggeoaaDoorBt
import Derived.Test.YtckoebfmoggeoaaDoorBb
import Derived.Test.YtckoebfmoggeoaaDoorBh
import Derived.Deep.RegionHeld3
import Derived.Deep.DeepCutAuto
import Derived.Deep.CutBlock
import Derived.BigRegion
namespace Go.Proofs.YtckoebfmoggeoaaDoor
set_option maxRecDepth 100000
open Go.RowKit
/-- A node by value, of the call's own. -/
def RNode (w : World) (t : Tree) (v : Ending) (w' : World) : Prop := ∃ cs : List Value, v = .returned (.agg cs.toArray) ∧ Below w.heap.size w w' ∧ RefT w' (fun q => w.heap.size ≤ q) t cs
def RAltOk (T : List Tk) (size n : Nat) (o : Option Addr) (c : Nat) : Prop := ∀ (d i j : Nat) (t : Tree) (w : World), altF T size n d i = .ok t j → i ≤ T.length → T.length - i < n → Toks w o T →
  Calls Tryd.prog 28 #[.slice o T.length c, .int .i64 ((i : Nat) : Int), .int .i64 ((j : Nat) : Int), .int .i64 ((size : Nat) : Int)] w (RNode w t)
theorem RefT.turn0 {w w' : World} {S : Nat → Prop} {k lo hi : Int} {set : Nat → Bool} {lazy : Bool} {f t : Nat} {cs : List Value} (h : RefT w S (.mk k set lo hi lazy [] f t) cs) : RefT w' S (.mk k set lo hi lazy [] f t) cs := by
  cases h
  exact lay_ref0
theorem RowR.turn {w0 w w' : World} {lv : Value} {l : List Tree} {pb : Nat} (h : RowR w0 w lv l) (hg : w.grownBy w' (some pb)) (hp : pb < w0.heap.size) : RowR w0 w' lv l := by
  obtain ⟨bs, h1, h2, h4, h3⟩ := h
  exact ⟨bs, h1, own_turned h2 hg hp, h4, fun k n g hk hb => (h3 k n g hk hb).only hg (fun q hq e => by have := hq.1; omega)⟩
theorem St.moved1 {w w4 w5 : World} {L : BlkL} {v : Value} {g : Nat} (h : St w w4 L) (hm : Moved w4 w5 v g) (hv : ∀ k, v.ownBlock = some k → ∀ e ∈ L, e.1 ≠ k) (hw : ∀ k, v.ownBlock = some k → w.heap.size ≤ k) : St w w5 L :=
  ⟨hm.below h.below h.size hw, fun e he => (hm.keep e.1 (h.blk e he).lt (fun hk => hv e.1 hk e he rfl)).trans (h.blk e he), h.base, h.apart⟩
theorem putCells_size (b : Nat) : ∀ (vs : List Value) (o : Nat) (w : World), (putCells w b o vs).heap.size = w.heap.size := by
  intro vs
  induction vs with
  | nil => intro o w; rfl
  | cons v vs ih => intro o w; rw [putCells, ih]; simp [World.setCell]
theorem below_of_only {w0 w1 w2 w3 : World} {b : Nat} (h : Below w0.heap.size w0 w1) (h1 : Below w1.heap.size w1.drew w2) (hg : w2.grownBy w3 (some b)) (hb : w0.heap.size ≤ b) : Below w0.heap.size w0 w3 :=
  below_turned (h.trans ((Below.refl _ w1).drew.trans (h1.mono h.size))) hg hb (Nat.le_trans h.size h1.size)
set_option maxHeartbeats 16000000 in
theorem rcat_at {w : World} {o : Option Addr} {c : Nat} {T : List Tk} {size n d i j : Nat} {t : Tree} (h : Toks w o T) (h5 : kinds5 T) (hs : size ≤ 1048576) (hrec : RAltOk T size n o c) (hr : catW T size (altF T size n) d i = .ok t j) (hi : i ≤ T.length) (hn : T.length - i ≤ n) :
    Calls Tryd.prog 42 #[.slice o T.length c, .int .i64 ((i : Nat) : Int), .int .i64 ((j : Nat) : Int), .int .i64 ((size : Nat) : Int)] w (RNode w t) := by
  have hlen := h.len
  obtain ⟨L, hca, hL⟩ := cat_run hr hi hn
  have hij := hca.le
  have hjl := hca.lt
  have HH := Lib.hid h
  have H5 := Lib.hid h5
  have HRC := Lib.hid hrec
  have HL := Lib.hid hL
  have HCA := Lib.hid hca
  have st := (St.nil w).alloc rfl zeroN 32
  have hz1 : (w.alloc (.cells zeroN.toArray 32)).heap.size = w.heap.size + 1 := by simp
  clear h h5 hrec hr hL hca
  go_enter Tryd.func42, Tryd.ntmps42
  go_upto_region 1 with fail
  generalize w.alloc _ = w1 at *
  have HZ1 := Lib.hid hz1
  clear hz1
  go_wp2_with fail
  go_loopw [9, 10] (fun lv iv wr => ∃ (q : Nat) (l : List Tree), i ≤ q ∧ q ≤ j ∧ iv = .int .i64 ((q : Nat) : Int) ∧ Hid (CatAt T size n d l q L j) ∧ Hid (RowR w1 wr lv l) ∧ l.length ≤ q ∧ ((lv = .slice none 0 0 ∧ l.length = 0) ∨ ∃ g cc, lv = .slice (some ⟨g, 0, none⟩) l.length cc) ∧ St w wr [(w.heap.size, 32, zeroN)]) (fun _ iv _ => j - (intOf iv).toNat)
  case atStart => exact ⟨i, [], Nat.le_refl _, hij, rfl, HCA, Lib.hid (RowR.nil _ _), Nat.zero_le _, .inl ⟨rfl, rfl⟩, st⟩
  case round =>
    clear st
    obtain ⟨q, l, hiq, hqj, rfl, HC, HRW, hlq, hlv, st⟩ := hrel
    rcases Nat.eq_or_lt_of_le hqj with hqe | hlt
    · obtain rfl : q = j := hqe
      have hLl := HC.out.done
      have HLL := Lib.hid hLl
      clear hLl
      have hRw : w1.heap.size ≤ wr.heap.size := by have := HZ1.out; have := (st.get 0 rfl).lt; omega
      by_cases hl0 : l.length = 0
      · have hln : l = [] := List.eq_nil_of_length_eq_zero hl0
        have HT0 := Lib.hid (show t = emptyT (fromAt T size i) by
          rcases HL.out with ⟨-, h⟩ | ⟨h, -⟩
          · exact h
          · rw [HLL.out, hln] at h; exact absurd h (by simp))
        obtain ⟨o', L', c', hlv', hL'⟩ : ∃ o' L' c', u9 = .slice o' L' c' ∧ L' = 0 := by
          rcases hlv with ⟨rfl, -⟩ | ⟨g, cc, rfl⟩
          · exact ⟨none, 0, 0, rfl, rfl⟩
          · exact ⟨_, _, _, rfl, hl0⟩
        subst hlv'
        subst hL'
        obtain ⟨⟨v0, v1, v2, v3, v4, v5, v6, v7, v8, v9, v10⟩, r0, r1, r2, r3, r4, r5, r6, r7, r8, r9, r10⟩ := (st.get 0 rfl).eleven
        have HBG := Lib.hid (begin_at (c := c) (size := size) (HH.out.below st.below) hi)
        have HST := Lib.hid st
        clear hln hl0 hlv HRW st hlq
        generalize hfr : fromAt T size i = fr at *
        go_wp2_with fail
        refine HBG.out.mono ?_
        rintro v w3 ⟨rfl, rfl⟩
        rename World => w3
        go_wp2_with fail
        have s5 := HST.out.all 0 rfl [.int .i64 0, .int .u64 0, .int .u64 0, .int .u64 0, .int .u64 0, .int .i64 0, .int .i64 0, .bool false, .slice none 0 0, .int .i64 ((fr : Nat) : Int), .int .i64 ((fr : Nat) : Int)] rfl
        simp only [putCells] at s5
        have hr := lay_ref0 (w := w3) (S := fun q => w.heap.size ≤ q) (k := 0) (lo := 0) (hi := 0) (lazy := false) (set := noSet) (c := 0) (A := none) (f := fr) (t := fr)
        rw [nodeL_noset] at hr
        refine ret_load (b := w.heap.size) rfl rfl (load_rnode (s5.get 0 rfl) rfl) rfl ⟨_, rfl, s5.below, ?_⟩
        rw [HT0.out]
        exact hr.turn0
      · obtain ⟨g, cc, rfl⟩ : ∃ g cc, u9 = .slice (some ⟨g, 0, none⟩) l.length cc := by
          rcases hlv with ⟨-, h⟩ | h
          · exact absurd h hl0
          · exact h
        have HT0 := Lib.hid (show t = manyT 4 l by
          rcases HL.out with ⟨h, -⟩ | ⟨-, h⟩
          · rw [HLL.out] at h; rw [h] at hl0; exact absurd rfl hl0
          · rw [← HLL.out]; exact h)
        have hl0i : (((l.length : Nat) : Int) == 0) = false := by rw [beq_eq_false_iff_ne]; omega
        obtain ⟨-, hgw, hgl, css, hcl, hcells, href⟩ := HRW.out.cells
        obtain ⟨⟨v0, v1, v2, v3, v4, v5, v6, v7, v8, v9, v10⟩, r0, r1, r2, r3, r4, r5, r6, r7, r8, r9, r10⟩ := (st.get 0 rfl).eleven
        have hR1 : w.heap.size < w1.heap.size := by have := HZ1.out; omega
        have HST := Lib.hid st
        obtain ⟨n0, hn0⟩ : ∃ n0, l[0]? = some n0 := ⟨_, List.getElem?_eq_getElem (by omega)⟩
        obtain ⟨c0, hc0⟩ : ∃ c0, css[0]? = some c0 := ⟨_, List.getElem?_eq_getElem (by omega)⟩
        have ht0 := href 0 n0 c0 hn0 hc0
        have hcell0 := hcells 0 c0 hc0
        by_cases hl1 : l.length = 1
        · have hle : l = [n0] := by
            match l, hl1, hn0 with
            | [a], _, h => injection h with h; rw [h]
          obtain ⟨A0, cc0, rfl, -, -⟩ := ht0.node
          have q0 := hcell0 0 _ rfl
          have q1 := hcell0 1 _ rfl
          have q2 := hcell0 2 _ rfl
          have q3 := hcell0 3 _ rfl
          have q4 := hcell0 4 _ rfl
          have q5 := hcell0 5 _ rfl
          have q6 := hcell0 6 _ rfl
          have q7 := hcell0 7 _ rfl
          have q8 := hcell0 8 _ rfl
          have q9 := hcell0 9 _ rfl
          have q10 := hcell0 10 _ rfl
          have HREF := Lib.hid ht0
          have HT1 := Lib.hid (show t = n0 by rw [HT0.out, hle]; rfl)
          simp only [Nat.zero_mul, Nat.zero_add] at q0 q1 q2 q3 q4 q5 q6 q7 q8 q9 q10
          clear hcell0 hcells href hn0 hc0 hcl HRW hlv ht0 st
          clear hle
          rw [hl1] at *
          go_wp2_with fail
          have s5 := HST.out.all 0 rfl (nodeL n0.kind n0.set n0.lo n0.hi n0.lazy (.slice A0 n0.kids.length cc0) n0.f n0.t) rfl
          have g5 := only_puts_self (nodeL n0.kind n0.set n0.lo n0.hi n0.lazy (.slice A0 n0.kids.length cc0) n0.f n0.t) 0 wr wr (only_refl wr w.heap.size)
          simp only [putCells] at s5 g5
          have ht5 := (HREF.out.only g5 (fun k (hk : w1.heap.size ≤ k) => by omega)).mono (S' := fun q => w.heap.size ≤ q) (fun k (hk : w1.heap.size ≤ k) _ => by omega)
          refine ret_load (b := w.heap.size) rfl rfl (load_rnode (s5.get 0 rfl) rfl) rfl ⟨_, rfl, s5.below, ?_⟩
          rw [HT1.out]
          exact ht5
        · obtain ⟨n9, hn9⟩ : ∃ n9, l[l.length - 1]? = some n9 := ⟨_, List.getElem?_eq_getElem (by omega)⟩
          obtain ⟨c9, hc9⟩ : ∃ c9, css[l.length - 1]? = some c9 := ⟨_, List.getElem?_eq_getElem (by omega)⟩
          have ht9 := href _ n9 c9 hn9 hc9
          have hcell9 := hcells _ c9 hc9
          obtain ⟨A0, cc0, rfl, -, -⟩ := ht0.node
          obtain ⟨A9, cc9, rfl, -, -⟩ := ht9.node
          have q9 := hcell0 9 _ rfl
          have q10 := hcell9 10 _ rfl
          simp only [Nat.zero_mul, Nat.zero_add] at q9
          have HT1 := Lib.hid (show t = .mk 4 noSet 0 0 false l n0.f n9.t by
            rw [HT0.out]
            have hf : headT l = n0.f := by unfold headT; rw [List.head?_eq_getElem?, hn0]
            have htl : lastT l = n9.t := by unfold lastT; rw [List.getLast?_eq_getElem?, hn9]
            unfold manyT
            split
            · simp at hl1
            · rw [hf, htl])
          have hl1i : (((l.length : Nat) : Int) == 1) = false := by rw [beq_eq_false_iff_ne]; omega
          have hw1 : IntKind.i64.wrap (((l.length : Nat) : Int) - 1) = ((l.length : Nat) : Int) - 1 := IntWalk.i64_in _ (by omega)
          have hw2 : (((l.length : Nat) : Int) - 1).toNat = l.length - 1 := by omega
          have hw3 : 1 ≤ ((l.length : Nat) : Int) := by omega
          have hw4 : ((l.length : Nat) : Int) - 1 < ((l.length : Nat) : Int) := by omega
          have hw5 : 0 < l.length := by omega
          have hw6 : l.length - 1 < l.length := by omega
          have hll : l.length ≤ 1048577 := by omega
          have HRW2 := HRW
          clear hcell0 hcells href hn0 hc0 hcl HRW hlv ht0 st hcell9 ht9 hn9 hc9
          go_wp2_with fail
          go_region
          all_goals
            go_wp2_with fail
            have s5 := (HST.out.all 0 rfl [.int .i64 4, .int .u64 0, .int .u64 0, .int .u64 0, .int .u64 0, .int .i64 0, .int .i64 0, .bool false, .slice (some ⟨g, 0, none⟩) l.length cc, .int .i64 ((n0.f : Nat) : Int), .int .i64 ((n9.t : Nat) : Int)] rfl).drew
            have g5 := only_puts_self [.int .i64 4, .int .u64 0, .int .u64 0, .int .u64 0, .int .u64 0, .int .i64 0, .int .i64 0, .bool false, .slice (some ⟨g, 0, none⟩) l.length cc, .int .i64 ((n0.f : Nat) : Int), .int .i64 ((n9.t : Nat) : Int)] 0 wr wr (only_refl wr w.heap.size)
            have hrow5 := HRW2.out.turn g5 hR1
            have hn5 := (RowR.node (k := 4) (f := n0.f) (t := n9.t) hll hrow5 ((Below.refl _ _).drew)).mono (S' := fun q => w.heap.size ≤ q) (fun k (hk : w1.heap.size ≤ k) _ => by omega)
            rw [nodeL_noset] at hn5
            simp only [putCells] at s5 hn5
            refine ret_load (b := w.heap.size) rfl rfl (load_rnode (s5.get 0 rfl) rfl) rfl ⟨_, rfl, s5.below, ?_⟩
            rw [HT1.out]
            exact hn5
    · have hql : q < T.length := by omega
      obtain ⟨⟨x, f, tt⟩, hT, n0, k0, hbase, hqk, hkj, hcnt⟩ := HC.out.next hlt
      have HCNT := Lib.hid hcnt
      have HLV := Lib.hid hlv
      have HTR := Lib.hid (HH.out.below st.below)
      obtain ⟨g, rfl, hg, hrow⟩ := HTR.out.row q x f tt hT
      have q0 := hrow 0 _ rfl
      have q1 := hrow 1 _ rfl
      have q2 := hrow 2 _ rfl
      have q3 := hrow 3 _ rfl
      have q4 := hrow 4 _ rfl
      have q5 := hrow 5 _ rfl
      have q6 := hrow 6 _ rfl
      have q7 := hrow 7 _ rfl
      have q8 := hrow 8 _ rfl
      have q9 := hrow 9 _ rfl
      rw [Nat.add_zero] at q0
      have st2 := (st.alloc rfl (tokL x f tt) 87).alloc (n := wr.heap.size + 1) (by simp) (nodeL 1 x.set 0 0 false (.slice none 0 0) f tt) 32
      have hsz := st.size
      have hRl : w.heap.size < wr.heap.size := (st.get 0 rfl).lt
      have HRS := Lib.hid HRW.out.own
      have hbb : Below wr.heap.size wr ((wr.alloc (.cells (tokL x f tt).toArray 87)).alloc (.cells (nodeL 1 x.set 0 0 false (.slice none 0 0) f tt).toArray 32)) := ((Below.refl _ wr).alloc (Nat.le_refl _) _).alloc (by simp) _
      have HRW1 := HRW
      have HR2 := Lib.hid (HRW.out.below hbb)
      have HT2 := Lib.hid (HTR.out.below hbb)
      have HBB := Lib.hid hbb
      clear hrow hT st hcnt hlv HRW hbb
      go_upto_if 34 with fail
      generalize (wr.alloc _).alloc _ = w2 at *
      clear q0 q1 q2 q3 q4 q5 q6 q7 q8 q9
      obtain ⟨⟨p0, p1, p2, p3, p4, p5, p6, p7, p8, p9⟩, -⟩ := st2.ten 1 rfl
      go_cut [10] (fun iv wx => ∃ cs0 : List Value, iv = .int .i64 ((k0 : Nat) : Int) ∧ St w wx [(wr.heap.size + 1, 32, cs0), (wr.heap.size, 87, tokL x f tt), (w.heap.size, 32, zeroN)] ∧ RefT wx (fun q => wr.heap.size + 2 ≤ q) n0 cs0 ∧ n0.f = f ∧ Below wr.heap.size wr wx)
      case first =>
        rcases hbase with ⟨hk0, rfl, rfl⟩ | ⟨h12, n1, m, y, hr, hqm, hev, hy, hy3, rfl, rfl⟩
        · simp only [] at hk0
          have hkz : (((x.kind : Nat) : Int) != 0) = false := by rw [hk0]; rfl
          clear hk0
          go_wp2_with fail
          go_meet
          case rel => exact ⟨nodeL 1 x.set 0 0 false (.slice none 0 0) f tt, by go_num, st2, lay_ref0, rfl, HBB.out⟩
        · obtain ⟨y, yf, yt⟩ := y
          simp only [] at h12 hy3
          have hml := (List.getElem?_eq_some_iff.1 hy).1
          have hk3 : kindAt T m = some 3 := by rw [kind_some hy, hy3]
          have HCL := Lib.hid (by have := close_at (c := c) HT2.out H5.out hev hk3; rwa [show ((q + 1 : Nat) : Int) = ((q : Nat) : Int) + 1 by omega] at this :
            Calls Tryd.prog 61 #[.slice (some ⟨g, 0, none⟩) T.length c, .int .i64 (((q : Nat) : Int) + 1)] w2 fun v w' => v = .returned (.int .i64 ((m : Nat) : Int)) ∧ w' = w2)
          have HREC := Lib.hid (fun w' hb => by have := HRC.out (d + 1) (q + 1) m n1 w' hr (by omega) (by have := HC.out.fuel; omega) (HT2.out.below hb); rwa [show ((q + 1 : Nat) : Int) = ((q : Nat) : Int) + 1 by omega] at this :
            ∀ w', Below w2.heap.size w2 w' → Calls Tryd.prog 28 #[.slice (some ⟨g, 0, none⟩) T.length c, .int .i64 (((q : Nat) : Int) + 1), .int .i64 ((m : Nat) : Int), .int .i64 ((size : Nat) : Int)] w' (RNode w' n1))
          obtain ⟨g', hgg, hg', hrow⟩ := HT2.out.row m y yf yt hy
          obtain rfl : g = g' := by injection hgg with hgg; injection hgg
          have q2 : w2.cell? ⟨g, m * 10 + 2, none⟩ = some (.int .i64 ((yt : Nat) : Int)) := hrow 2 _ rfl
          have hl1 : wr.heap.size < w2.heap.size := (st2.get 1 rfl).lt
          have hl2 : wr.heap.size + 1 < w2.heap.size := (st2.get 0 rfl).lt
          have HN := Lib.hid (st2.get 0 rfl)
          have HST := Lib.hid st2
          have hkz : (((x.kind : Nat) : Int) != 0) = true := by rw [bne_iff_ne]; omega
          have hki : ((x.kind : Nat) : Int) ≤ 2 ∧ 1 ≤ ((x.kind : Nat) : Int) := by omega
          have H12 := Lib.hid h12
          have HY := Lib.hid (And.intro hr (And.intro hev (And.intro hy hy3)))
          obtain ⟨hk0, hk1⟩ := hki
          have hwr : IntKind.i64.wrap (1 + ((x.kind : Nat) : Int)) = 1 + ((x.kind : Nat) : Int) := IntWalk.i64_in _ (by omega)
          have hgne : ¬ g = wr.heap.size + 1 := by omega
          have hgne2 : ¬ wr.heap.size + 1 = g := by omega
          clear hrow hr hev hk3 hy hy3 h12 hgg st2 p2 p3 p4 p5 p6 p7 p8 p9
          generalize hxk : x.kind = xk at *
          have HXK := Lib.hid hxk
          clear hxk
          go_wp2_with fail
          refine HCL.out.mono ?_
          rintro v w3 ⟨rfl, rfl⟩
          rename World => w3
          go_wp2_with fail
          go_region_held3 (fun w' => w'.cell? ⟨wr.heap.size, 0, none⟩ = some (.int .i64 ((xk : Nat) : Int)) ∧ w'.cell? ⟨wr.heap.size, 1, none⟩ = some (.int .i64 ((f : Nat) : Int)) ∧ w'.cell? ⟨g, m * 10 + 2, none⟩ = some (.int .i64 ((yt : Nat) : Int))) (go_keep)
            (first
              | (go_at_call 28; refine (HREC.out _ ?_).mono ?_; (exact (Below.refl _ _).drew); rintro e w4 ⟨cs1, rfl, hb4, ht4⟩; have z0 : w4.cell? ⟨wr.heap.size, 0, none⟩ = _ := (hb4.cell (p := ⟨wr.heap.size, 0, none⟩) hl1).trans p0; have z1 : w4.cell? ⟨wr.heap.size, 1, none⟩ = _ := (hb4.cell (p := ⟨wr.heap.size, 1, none⟩) hl1).trans p1; have z2 : w4.cell? ⟨g, m * 10 + 2, none⟩ = _ := (hb4.cell (p := ⟨g, m * 10 + 2, none⟩) hg').trans q2; have hl14 := Nat.lt_of_lt_of_le hl1 hb4.size; have hl24 := Nat.lt_of_lt_of_le hl2 hb4.size; have hg4 := Nat.lt_of_lt_of_le hg' hb4.size; obtain ⟨⟨v0, v1, v2, v3, v4, v5, v6, v7, v8, v9, v10⟩, r0, r1, r2, r3, r4, r5, r6, r7, r8, r9, r10⟩ := (HN.out.drew.below hb4 hl2).eleven; have HT4 := Lib.hid ht4; obtain ⟨A1, c1, rfl, -, -⟩ := ht4.node; have HB4 := Lib.hid hb4; clear ht4 hb4))
          all_goals
            go_wp2_with fail
            go_meet
            case rel =>
              have s5 := ((HST.out.drew).below' HB4.out).all 0 rfl [.int .i64 (1 + ((xk : Nat) : Int)), .int .u64 0, .int .u64 0, .int .u64 0, .int .u64 0, .int .i64 0, .int .i64 0, .bool false, .slice (some ⟨w4.heap.size, 0, none⟩) 1 1, .int .i64 ((f : Nat) : Int), .int .i64 ((yt : Nat) : Int)] rfl
              have g5 := only_puts_self [.int .i64 (1 + ((xk : Nat) : Int)), .int .u64 0, .int .u64 0, .int .u64 0, .int .u64 0, .int .i64 0, .int .i64 0, .bool false, .slice (some ⟨w4.heap.size, 0, none⟩) 1 1, .int .i64 ((f : Nat) : Int), .int .i64 ((yt : Nat) : Int)] 0 w4 w4 (only_refl w4 (wr.heap.size + 1))
              have ez5 := putCells_size (wr.heap.size + 1) [.int .i64 (1 + ((xk : Nat) : Int)), .int .u64 0, .int .u64 0, .int .u64 0, .int .u64 0, .int .i64 0, .int .i64 0, .bool false, .slice (some ⟨w4.heap.size, 0, none⟩) 1 1, .int .i64 ((f : Nat) : Int), .int .i64 ((yt : Nat) : Int)] 0 w4
              simp only [putCells] at s5 g5 ez5
              have ht5 := HT4.out.only g5 (fun k (hk : w3.heap.size ≤ k) => by omega)
              have b5 := below_of_only HBB.out HB4.out g5 (by omega)
              have hz5 := g5.size
              generalize ((((((((((w4.setCell _ _).setCell _ _).setCell _ _).setCell _ _).setCell _ _).setCell _ _).setCell _ _).setCell _ _).setCell _ _).setCell _ _).setCell _ _ = w5 at *
              have hnb := Blk.new w5 (nodeL n1.kind n1.set n1.lo n1.hi n1.lazy (.slice A1 n1.kids.length c1) n1.f n1.t) 32
              have hbb5 : Below w5.heap.size w5 (w5.alloc (.cells (nodeL n1.kind n1.set n1.lo n1.hi n1.lazy (.slice A1 n1.kids.length c1) n1.f n1.t).toArray 32)) := (Below.refl _ w5).alloc (Nat.le_refl _) _
              rw [ez5] at hnb
              have hr := lay_ref1 (S := fun q => wr.heap.size + 2 ≤ q) (k := 1 + ((xk : Nat) : Int)) (set := noSet) (lo := 0) (hi := 0) (lazy := false) (c := 1) (f := f) (t := yt) (show wr.heap.size + 2 ≤ w4.heap.size by omega) (fun j v hj => by rw [hnb.cell j]; exact hj) ((ht5.under hbb5).mono (fun k (hk : w3.heap.size ≤ k) _ => by omega))
              rw [nodeL_noset] at hr
              refine ⟨_, by go_num, s5.below' hbb5, ?_, rfl, b5.trans (hbb5.mono (by have := b5.size; omega))⟩
              have hgk : (if x.kind = 2 then (3 : Int) else 2) = 1 + ((xk : Nat) : Int) := by
                have := H12.out
                rw [HXK.out]
                split <;> omega
              unfold groupT
              simp only [hgk]
              exact hr
      case rest =>
        rename World => w3
        obtain ⟨cs0, rfl, st3, href, hnf, hb3⟩ := hcut
        clear p0 p1 p2 p3 p4 p5 p6 p7 p8 p9 hbase st2
        obtain ⟨A0, c0, rfl, -, -⟩ := href.node
        have HR3 := Lib.hid (HRW1.out.below hb3)
        have HT3 := Lib.hid (HTR.out.below hb3)
        clear HR2 HT2 HBB
        have HREF := Lib.hid href
        have HB3 := Lib.hid hb3
        have HST := Lib.hid st3
        have hl1 : wr.heap.size < w3.heap.size := (st3.get 1 rfl).lt
        have hl2 : wr.heap.size + 1 < w3.heap.size := (st3.get 0 rfl).lt
        have HNF := Lib.hid hnf
        clear href hb3 st3 hnf
        have hkl : k0 ≤ T.length := by omega
        obtain ⟨bq, hbq⟩ : ∃ b : Bool, b = (decide (k0 < j) && decide (kindAt T k0 = some 5)) := ⟨_, rfl⟩
        have HBQ := Lib.hid hbq
        clear hbq
        go_upto_region 11 with fail
        go_cut [67] (fun v wx => v = .bool bq ∧ w3 = wx)
        case first =>
          by_cases hkj2 : k0 < j
          · have hkl2 : k0 < T.length := by omega
            obtain ⟨⟨y, yf, yt⟩, hy⟩ : ∃ y, T[k0]? = some y := ⟨_, List.getElem?_eq_getElem hkl2⟩
            obtain ⟨g', hgg, hg', hrow⟩ := HT3.out.row k0 y yf yt hy
            obtain rfl : g = g' := by injection hgg with hgg; injection hgg
            have q0 := hrow 0 _ rfl
            rw [Nat.add_zero] at q0
            have hbv : bq = decide (y.kind = 5) := by rw [HBQ.out, kind_some hy, decide_eq_true hkj2]; simp
            clear hrow hgg
            have HY := Lib.hid hy
            clear hy
            generalize y.kind = yk at *
            have hyi : (((yk : Nat) : Int) == 5) = bq := by rw [hbv, Bool.eq_iff_iff]; simp; omega
            have HV := Lib.hid hbv
            clear hbv
            go_wp2_with fail
            go_meet
            case rel => exact ⟨rfl, rfl⟩
          · have hbv : bq = false := by rw [HBQ.out, decide_eq_false hkj2]; rfl
            subst hbv
            go_wp2_with fail
            go_meet
            case rel => exact ⟨rfl, rfl⟩
        case rest =>
          obtain ⟨rfl, rfl⟩ := hcut
          go_upto_if 67 with fail
          go_cut [10] (fun iv wx => ∃ (nn : Tree) (kk : Nat) (cs1 : List Value), iv = .int .i64 ((kk : Nat) : Int) ∧ kk ≤ j ∧ k0 ≤ kk ∧ Hid (CatAt T size n d (l ++ [nn]) kk L j) ∧
            St w wx [(wr.heap.size + 1, 32, cs1), (wr.heap.size, 87, tokL x f tt), (w.heap.size, 32, zeroN)] ∧ RefT wx (fun q => wr.heap.size + 2 ≤ q) nn cs1 ∧ Below wr.heap.size wr wx)
          case first =>
            cases bq with
            | false =>
              have hcn : (∀ c, T[k0]? = some c → c.1.kind ≠ 5) ∧ CatAt T size n d (l ++ [n0]) k0 L j := by
                rcases HCNT.out with ⟨c', h1, h2, h3, -⟩ | h
                · have := HBQ.out
                  rw [kind_some h1, h2, decide_eq_true h3] at this
                  cases this
                · exact h
              have HCN := Lib.hid hcn.2
              clear hcn
              go_wp2_with fail
              go_meet
              case rel => exact ⟨n0, k0, _, rfl, hkj, Nat.le_refl _, HCN, HST.out, HREF.out, HB3.out⟩
            | true =>
              obtain ⟨⟨y, yf, yt⟩, hy, hy5, hkj2, hcn⟩ : ∃ c, T[k0]? = some c ∧ c.1.kind = 5 ∧ k0 < j ∧ CatAt T size n d (l ++ [repT (x, f, tt) c n0]) (k0 + 1) L j := by
                rcases HCNT.out with h | ⟨h, -⟩
                · exact h
                · have hb := HBQ.out.symm
                  rw [Bool.and_eq_true, decide_eq_true_eq, decide_eq_true_eq] at hb
                  unfold kindAt at hb
                  cases hT : T[k0]? with
                  | none => rw [hT] at hb; cases hb.2
                  | some c' => rw [hT] at hb; exact absurd (by injection hb.2) (h c' hT)
              have hkl2 : k0 < T.length := by omega
              obtain ⟨g', hgg, hg', hrow⟩ := HT3.out.row k0 y yf yt hy
              obtain rfl : g = g' := by injection hgg with hgg; injection hgg
              have q2 := hrow 2 _ rfl
              have q7 := hrow 7 _ rfl
              have q8 := hrow 8 _ rfl
              have q9 := hrow 9 _ rfl
              have HCN := Lib.hid hcn
              have HS3 := Lib.hid (HST.out.get 0 rfl)
              obtain ⟨⟨v0, v1, v2, v3, v4, v5, v6, v7, v8, v9, v10⟩, r0, r1, r2, r3, r4, r5, r6, r7, r8, r9, r10⟩ := HS3.out.eleven
              have hgne : ¬ g = wr.heap.size + 1 := by omega
              have hgne2 : ¬ wr.heap.size + 1 = g := by omega
              clear hrow hgg hy hcn hy5
              go_wp2_with fail
              go_region
              all_goals
                go_wp2_with fail
                go_meet
                case rel =>
                  have s5 := HST.out.all 0 rfl [.int .i64 6, .int .u64 0, .int .u64 0, .int .u64 0, .int .u64 0, .int .i64 ((y.lo : Nat) : Int), .int .i64 y.hi, .bool y.lazy, .slice (some ⟨w3.heap.size, 0, none⟩) 1 1, .int .i64 ((n0.f : Nat) : Int), .int .i64 ((yt : Nat) : Int)] rfl
                  have g5 := only_puts_self [.int .i64 6, .int .u64 0, .int .u64 0, .int .u64 0, .int .u64 0, .int .i64 ((y.lo : Nat) : Int), .int .i64 y.hi, .bool y.lazy, .slice (some ⟨w3.heap.size, 0, none⟩) 1 1, .int .i64 ((n0.f : Nat) : Int), .int .i64 ((yt : Nat) : Int)] 0 w3 w3 (only_refl w3 (wr.heap.size + 1))
                  have ez5 := putCells_size (wr.heap.size + 1) [.int .i64 6, .int .u64 0, .int .u64 0, .int .u64 0, .int .u64 0, .int .i64 ((y.lo : Nat) : Int), .int .i64 y.hi, .bool y.lazy, .slice (some ⟨w3.heap.size, 0, none⟩) 1 1, .int .i64 ((n0.f : Nat) : Int), .int .i64 ((yt : Nat) : Int)] 0 w3
                  simp only [putCells] at s5 g5 ez5
                  have ht5 := HREF.out.only g5 (fun k (hk : wr.heap.size + 2 ≤ k) => by omega)
                  have b5 := below_turned HB3.out g5 (show wr.heap.size ≤ wr.heap.size + 1 by omega) HB3.out.size
                  generalize ((((((((((w3.setCell _ _).setCell _ _).setCell _ _).setCell _ _).setCell _ _).setCell _ _).setCell _ _).setCell _ _).setCell _ _).setCell _ _).setCell _ _ = w5 at *
                  have hnb := (Blk.new w5 (nodeL n0.kind n0.set n0.lo n0.hi n0.lazy (.slice A0 n0.kids.length c0) n0.f n0.t) 32).drew
                  have hbb5 : Below w5.heap.size w5 (w5.alloc (.cells (nodeL n0.kind n0.set n0.lo n0.hi n0.lazy (.slice A0 n0.kids.length c0) n0.f n0.t).toArray 32)).drew := ((Below.refl _ w5).alloc (Nat.le_refl _) _).drew
                  rw [ez5] at hnb
                  have hr := lay_ref1 (S := fun q => wr.heap.size + 2 ≤ q) (k := 6) (set := noSet) (lo := ((y.lo : Nat) : Int)) (hi := y.hi) (lazy := y.lazy) (c := 1) (f := n0.f) (t := yt) (show wr.heap.size + 2 ≤ w3.heap.size by omega) (fun j v hj => by rw [hnb.cell j]; exact hj) (ht5.under hbb5)
                  rw [nodeL_noset] at hr
                  refine ⟨repT (x, f, tt) (y, yf, yt) n0, k0 + 1, _, by go_num, by omega, by omega, HCN, s5.below' hbb5, ?_, b5.trans (hbb5.mono (by have := b5.size; omega))⟩
                  have hf : repT (x, f, tt) (y, yf, yt) n0 = .mk 6 noSet ((y.lo : Nat) : Int) y.hi y.lazy [n0] n0.f yt := by rw [HNF.out]; rfl
                  rw [hf]
                  exact hr
          case rest =>
            rename World => w4
            obtain ⟨nn, kk, cs1, rfl, hkkj, hkk, HCN, st4, href4, hb4⟩ := hcut
            obtain ⟨A1, c1, rfl, -, -⟩ := href4.node
            obtain ⟨⟨v0, v1, v2, v3, v4, v5, v6, v7, v8, v9, v10⟩, -⟩ := (st4.get 0 rfl).eleven
            obtain ⟨css, h1, h2, h11, h3⟩ := HRW1.out.below hb4
            have HO := Lib.hid h2
            have HCS := Lib.hid (And.intro h1 (And.intro h11 h3))
            have HREF4 := Lib.hid href4
            have HST4 := Lib.hid st4
            have HB4 := Lib.hid hb4
            have hw14 : w1.heap.size ≤ w4.heap.size := by have := hb4.size; have := HZ1.out; have := (st4.get 2 rfl).lt; omega
            have hl20 : l.length ≤ 1048576 := by omega
            clear h1 h2 h3 h11 href4 st4 hb4
            go_wp2_with (at_builtin; refine append_far rfl (.tmp 95) (.tmp 97) 30 rfl w1.heap.size 32 11 104 elem_rnode _ _ _ rfl HO.out (nodeL nn.kind nn.set nn.lo nn.hi nn.lazy (.slice A1 nn.kids.length c1) nn.f nn.t) rfl rfl HREF4.out.one ?h1 ?h2 ?h3 ?h4; (case h1 => omega); (case h2 => omega); (case h3 => omega); intro g5 cap5 w5 hown5 hmv; have HO5 := Lib.hid hown5; have HM := Lib.hid hmv; clear hown5 hmv)
            have hst5 : St w w5 [(w.heap.size, 32, zeroN)] := (show St w w4 [(w.heap.size, 32, zeroN)] from ⟨HST4.out.below, fun e he => HST4.out.blk e (by simp at he; simp [he]), fun e he => HST4.out.base e (by simp at he; simp [he]), List.Pairwise.cons (fun _ h => by cases h) List.Pairwise.nil⟩).moved1 HM.out (fun k hk e he => by
              have := (HRS.out k hk).1
              have := HZ1.out
              rw [List.mem_singleton.1 he]
              simp only []
              omega) (fun k hk => by have := (HRS.out k hk).1; have := HZ1.out; omega)
            have hrow5 := RowR.snoc (w0 := w1) (w1 := wr) HCS.out.1 HCS.out.2.1 HCS.out.2.2 (fun k hk => (HRS.out k hk).2) (by have := HZ1.out; omega) (HREF4.out.mono (fun k (hk : wr.heap.size + 2 ≤ k) _ => by omega)) HO5.out HM.out
            go_roundw
            case rel => exact ⟨kk, l ++ [nn], by omega, hkkj, rfl, HCN, Lib.hid hrow5, by simp; omega, .inr ⟨g5, cap5, by simp⟩, hst5⟩
            case measure => simp [intOf]; omega
end Go.Proofs.YtckoebfmoggeoaaDoor
