/- Traces: New. -/
import Derived.Test.YtpiimcbbgalhfaaGreatDoorCn
import Derived.Test.YtpiimcbbgalhfaaGreatDoorCk
import Derived.Test.YtpiimcbbgalhfaaGreatDoorBy
namespace Go.Proofs.YtpiimcbbgalhfaaGreatDoor
set_option maxRecDepth 100000
open Go.RowKit
section
variable {s : List UInt8} {limit B n : Nat}
theorem starB_small {z : Bool} {a : CT} {f pos : Nat} {rest : List It} (hf : f + placesC a ≤ B) (hp : pos ≤ n) (hr : ∀ x ∈ rest, x.small B ∧ x.since ≤ n) : ∀ p ∈ starB z a f pos rest, p.small B n := by
  have h1 : Br.small B n ⟨pos, rest⟩ := ⟨hp, hr⟩
  have h2 : Br.small B n ⟨pos, .fresh a f :: .loop z a f pos :: rest⟩ := by
    refine ⟨hp, fun x hx => ?_⟩
    rcases List.mem_cons.1 hx with rfl | hx
    · exact ⟨hf, Nat.zero_le _⟩
    · rcases List.mem_cons.1 hx with rfl | hx
      · exact ⟨by simpa [It.small, It.first, It.c, placesC] using hf, hp⟩
      · exact hr x hx
  intro p hp
  unfold starB at hp
  cases z <;> simp only [Bool.false_eq_true, if_false, if_true, List.mem_cons, List.not_mem_nil, or_false] at hp <;> rcases hp with rfl | rfl <;> assumption
theorem do_small {p : Br} {T : Td} (hn : n = s.length) (hp : p.small B n) (hF : ∀ q ∈ T.back, q.small B n) : (∀ q ∈ (doT s limit p T).back, q.small B n) ∧ (doT s limit p T).back.length ≤ T.back.length + 2 ∧ (doT s limit p T).l.length ≤ T.l.length + 1 := by
  obtain ⟨pos, todo⟩ := p
  obtain ⟨h1, h2⟩ := hp
  simp only [] at h1 h2
  have push1 : ∀ l : List Br, (∀ q ∈ l, q.small B n) → ∀ q ∈ (T.later l).back, q.small B n := by
    intro l hl q hq
    simp only [Td.later, List.mem_append] at hq
    rcases hq with hq | hq
    · exact hF q hq
    · exact hl q hq
  cases todo with
  | nil =>
    simp only [doT, endT]
    split
    · exact ⟨hF, by simp [Td.add], by simp [Td.add]⟩
    · exact ⟨hF, by simp [Td.add], by simp [Td.add]⟩
  | cons x rest =>
    have hx := (h2 x (by simp)).1
    have hr : ∀ y ∈ rest, y.small B ∧ y.since ≤ n := fun y hy => h2 y (by simp [hy])
    have hone : ∀ t : List It, (∀ y ∈ t, y.small B ∧ y.since ≤ n) → Br.small B n ⟨pos, t⟩ := fun t ht => ⟨h1, ht⟩
    cases x with
    | loop z a f since =>
      simp only [doT]
      split
      · exact ⟨push1 _ (starB_small (by simpa [It.small, It.first, It.c, placesC] using hx) h1 hr), by simp [Td.later, starB]; split <;> simp, by simp [Td.later]⟩
      · exact ⟨hF, by omega, by omega⟩
    | fresh c f =>
      simp only [It.small, It.first, It.c] at hx
      cases c with
      | empty => exact ⟨push1 _ (fun q hq => by rw [List.mem_singleton.1 hq]; exact hone rest hr), by simp [doT, Td.later], by simp [doT, Td.later]⟩
      | set m =>
        simp only [doT, readT]
        cases hs : s[pos]? with
        | none => exact ⟨hF, by simp [Td.add], by simp [Td.add]⟩
        | some b =>
          simp only []
          have hlt := (List.getElem?_eq_some_iff.1 hs).1
          split
          · split
            · exact ⟨hF, by simp, by simp⟩
            · refine ⟨fun q hq => ?_, by simp [Td.later, Td.add], by simp [Td.later, Td.add]⟩
              simp only [Td.later, Td.add, List.mem_append, List.mem_singleton] at hq
              rcases hq with hq | rfl
              · exact hF q hq
              · exact ⟨by simp only []; omega, hr⟩
          · exact ⟨hF, by simp [Td.add], by simp [Td.add]⟩
      | cat a b =>
        simp only [placesC] at hx
        refine ⟨push1 _ (fun q hq => ?_), by simp [doT, Td.later], by simp [doT, Td.later]⟩
        rw [List.mem_singleton.1 hq]
        refine hone _ (fun y hy => ?_)
        rcases List.mem_cons.1 hy with rfl | hy
        · exact ⟨by simp only [It.small, It.first, It.c]; omega, Nat.zero_le _⟩
        · rcases List.mem_cons.1 hy with rfl | hy
          · exact ⟨by simp only [It.small, It.first, It.c]; omega, Nat.zero_le _⟩
          · exact hr y hy
      | alt a b =>
        simp only [placesC] at hx
        refine ⟨push1 _ (fun q hq => ?_), by simp [doT, Td.later], by simp [doT, Td.later]⟩
        simp only [List.mem_cons, List.not_mem_nil, or_false] at hq
        rcases hq with rfl | rfl
        · refine hone _ (fun y hy => ?_)
          rcases List.mem_cons.1 hy with rfl | hy
          · exact ⟨by simp only [It.small, It.first, It.c]; omega, Nat.zero_le _⟩
          · exact hr y hy
        · refine hone _ (fun y hy => ?_)
          rcases List.mem_cons.1 hy with rfl | hy
          · exact ⟨by simp only [It.small, It.first, It.c]; omega, Nat.zero_le _⟩
          · exact hr y hy
      | star z a =>
        simp only [placesC] at hx
        exact ⟨push1 _ (starB_small hx h1 hr), by simp [doT, Td.later, starB]; split <;> simp, by simp [doT, Td.later]⟩
end
/-- The trace at block b. -/
def TrcAt (w : World) (b : Nat) (l : List Ev) : Prop := ∃ lv rest, Blk w b 175 (lv :: rest) ∧ w.ownsRow 0 169 3 lv l.length (l.flatMap evL)
def InvT (w : World) (fb : Nat) (s : ByteArray) (limit : Nat) (R : Td) (wr : World) (k : Nat) : Prop := ∃ T lv bv cs, TraAt w wr fb s limit T lv bv cs ∧ runT s.data.toList limit k T = some R ∧ (∀ p ∈ T.back, p.small 1000000000 s.size) ∧ T.back.length + k ≤ 100000000 ∧ T.l.length + k ≤ 100000000
theorem TraAt.trc {w0 w : World} {fb : Nat} {s : ByteArray} {limit : Nat} {T : Td} {lv bv : Value} {cs : List Value} (h : TraAt w0 w fb s limit T lv bv cs) : TrcAt w fb T.l ∧ Below w0.heap.size w0 w :=
  ⟨⟨lv, _, h.blk, own_base h.evs (Nat.zero_le _)⟩, h.below⟩
def InvTE (w : World) (fb : Nat) (s : ByteArray) (limit : Nat) (R : Td) (wr : World) : Prop := ∃ k, InvT w fb s limit R wr k
set_option maxHeartbeats 8000000 in
theorem TNew_at {w : World} {S0 : Nat → Prop} {c : CT} {cb : Nat} (s : ByteArray) (limit K : Nat) (R : Td) (hc : CoreAt w S0 c cb) (hs : s.size ≤ 1000000000) (hl : limit ≤ 100000) (hpl : placesC c ≤ 1000000000)
    (hrun : runT s.data.toList limit K ⟨[], 0, false, false, [⟨0, [.fresh c 0]⟩]⟩ = some R) (hK : K ≤ 90000000) :
    Calls Tryz.prog 46 #[cptr cb, .string s, .int .i64 ((limit : Nat) : Int)] w fun e w' => (∃ b, e = .returned (.tuple #[cptr b, .int .i64 0]) ∧ TrcAt w' b R.l) ∧ Below w.heap.size w w' := by
  obtain ⟨left, hleft⟩ := exists_left
  have HLF := Lib.hid hleft
  clear hleft
  have hml : ¬(100000 : Int) < ((limit : Nat) : Int) := by omega
  have hb1 : Below w.heap.size w (w.alloc (.cells #[.slice none 0 0, .int .i64 0, .bool false, .bool false, .string s, .int .i64 ((limit : Nat) : Int), .slice none 0 0] 175)) := (Below.refl _ w).alloc (Nat.le_refl _) _
  have hfin : TraAt w (w.alloc (.cells #[.slice none 0 0, .int .i64 0, .bool false, .bool false, .string s, .int .i64 ((limit : Nat) : Int), .slice none 0 0] 175)) w.heap.size s limit ⟨[], 0, false, false, []⟩ (.slice none 0 0) (.slice none 0 0) [] :=
    ⟨Nat.le_refl _, hb1, Blk.new w [.slice none 0 0, .int .i64 0, .bool false, .bool false, .string s, .int .i64 ((limit : Nat) : Int), .slice none 0 0] 175, World.ownsRow_nil _ _ _ _, World.ownsRow_nil _ _ _ _, rfl, apart_nil _⟩
  have hb2 := (Below.refl _ (w.alloc (.cells #[.slice none 0 0, .int .i64 0, .bool false, .bool false, .string s, .int .i64 ((limit : Nat) : Int), .slice none 0 0] 175))).alloc (Nat.le_refl _) (.cells #[cptr cb, .int .i64 0, .bool false, .int .i64 0, .pointer none] 181)
  have hcs : CoreAt (w.alloc (.cells #[.slice none 0 0, .int .i64 0, .bool false, .bool false, .string s, .int .i64 ((limit : Nat) : Int), .slice none 0 0] 175)) (SX w.heap.size (.slice none 0 0) (.slice none 0 0)) c cb :=
    hc.turn (fun k _ hk => hb1.block k hk) (fun k _ hk => ⟨by omega, fun e => (by cases e), fun e => (by cases e)⟩)
  have htd : TodoAt 181 ((w.alloc (.cells #[.slice none 0 0, .int .i64 0, .bool false, .bool false, .string s, .int .i64 ((limit : Nat) : Int), .slice none 0 0] 175)).alloc (.cells #[cptr cb, .int .i64 0, .bool false, .int .i64 0, .pointer none] 181)) (SX w.heap.size (.slice none 0 0) (.slice none 0 0)) [.fresh c 0] (.pointer (some ⟨w.heap.size + 1, 0, none⟩)) :=
    ⟨w.heap.size + 1, cb, .pointer none, rfl, ⟨by omega, fun e => (by cases e), fun e => (by cases e)⟩, blk_new2 w [cptr cb, .int .i64 0, .bool false, .int .i64 0, .pointer none] 181 _, hcs.keep (Keep.below hb2), rfl⟩
  have HPU := Lib.hid (later_at (p := ⟨0, [.fresh c 0]⟩) (hfin.under hb2) htd (by simp))
  have HRUN := Lib.hid (And.intro hrun hK)
  have HSM := Lib.hid (And.intro hs (And.intro hl hpl))
  clear hrun hK hcs htd hfin hb1 hb2 hc hpl hl
  go_enter Tryz.func46, Tryz.ntmps46
  go_wp2_with fail
  refine HPU.out.mono ?_
  rintro e w3 ⟨⟨r3, rfl⟩, lv3, bv3, cs3, hF3, -⟩
  have HI3 := Lib.hid (show InvT w w.heap.size s limit R w3 K from ⟨_, _, _, _, hF3, HRUN.out.1, fun p hp => by
    simp only [Td.later, List.nil_append, List.mem_singleton] at hp
    subst hp
    refine ⟨Nat.zero_le _, fun x hx => ?_⟩
    rw [List.mem_singleton.1 hx]
    exact ⟨by simpa [It.small, It.first, It.c] using HSM.out.2.2, Nat.zero_le _⟩, by have := HRUN.out.2; simp [Td.later]; omega, by have := HRUN.out.2; simp [Td.later]; omega⟩)
  clear hF3 HPU
  go_wp2_with fail
  go_loopw [] (fun wr => InvTE w w.heap.size s limit R wr) (fun wr => left (fun k => InvT w w.heap.size s limit R wr k))
  case atStart => exact ⟨K, HI3.out⟩
  case round =>
    have hkm := (HLF.out _ hrel).1
    have HMIN := Lib.hid (HLF.out _ hrel).2
    generalize hkk : left (fun k => InvT w w.heap.size s limit R wr k) = k at *
    have HKK := Lib.hid hkk
    clear hkk hrel HI3
    obtain ⟨T, lv, bv, cs, hF, hrun, hsm, hbk, hlm⟩ := hkm
    obtain ⟨A, c1, rfl⟩ := own_len hF.back
    obtain ⟨⟨-, -, c2, c3, -, -, c6⟩, -, -, -, -, f6⟩ := hF.cells
    have hfl := hF.blk.lt
    have HF := Lib.hid hF
    have HL := Lib.hid (And.intro hsm (And.intro hbk hlm))
    have HR := Lib.hid hrun
    clear hF hsm hbk hlm hrun
    rcases List.eq_nil_or_concat T.back with hb | ⟨bs, p, hb⟩
    · have HE := Lib.hid (runT_stop HR.out (.inr (.inr hb)))
      rw [hb] at c6
      simp only [List.length_nil] at c6
      clear hb
      go_wp2
      go_returns
      obtain ⟨h1, h2⟩ := HF.out.trc
      rw [HE.out]
      exact ⟨⟨_, rfl, h1⟩, h2⟩
    · rw [List.concat_eq_append] at hb
      have hlen : T.back.length = bs.length + 1 := by rw [hb]; simp
      cases hz : T.found with
      | true =>
        have HE := Lib.hid (runT_stop HR.out (.inl hz))
        have hpos : 0 < T.back.length := by omega
        rw [hz] at c2
        clear hz hb hlen
        go_wp2
        go_returns
        obtain ⟨h1, h2⟩ := HF.out.trc
        rw [HE.out]
        exact ⟨⟨_, rfl, h1⟩, h2⟩
      | false =>
        rw [hz] at c2
        cases hy : T.stopped with
        | true =>
          have HE := Lib.hid (runT_stop HR.out (.inr (.inl hy)))
          have hpos : 0 < T.back.length := by omega
          rw [hy] at c3
          clear hz hy hb hlen
          go_wp2
          go_returns
          obtain ⟨h1, h2⟩ := HF.out.trc
          rw [HE.out]
          exact ⟨⟨_, rfl, h1⟩, h2⟩
        | false =>
          have HGO := Lib.hid (runT_go HR.out hz hy hb)
          rw [hy] at c3
          obtain ⟨g, rfl, hcap⟩ : ∃ g, A = some ⟨g, 0, none⟩ ∧ bs.length ≤ c1 := by
            rcases HF.out.back.2 with ⟨_, h0⟩ | ⟨g, cap, cur, e, _, _, hle, _⟩
            · omega
            · injection e with e1 e2 e3
              exact ⟨g, e1, by omega⟩
          obtain ⟨v0, cr, hcs1, hn, hv, hF2, hK2⟩ := HF.out.pop hb
          obtain ⟨vo, rfl, -⟩ := hv.form
          have hcl : cr.length = bs.length * 2 := hF2.brs.length
          have hcell : ∀ j u, ([.int .i64 ((p.pos : Nat) : Int), .pointer vo] : List Value)[j]? = some u → wr.cell? ⟨g, bs.length * 2 + j, none⟩ = some u := fun j u hj => own_cell1 HF.out.back (bs.length * 2 + j) u (by rw [hcs1, List.getElem?_append_right (by omega), hcl, Nat.add_sub_cancel_left]; exact hj)
          have r0 := hcell 0 _ rfl
          have r1 := hcell 1 _ rfl
          rw [Nat.add_zero] at r0
          rw [hlen] at c6
          have hba := (Below.refl _ (wr.setCell ⟨w.heap.size, 6, none⟩ (.slice (some ⟨g, 0, none⟩) bs.length c1))).alloc (Nat.le_refl _) (.cells #[.int .i64 ((p.pos : Nat) : Int), .pointer vo] 183)
          have hw1 : IntKind.i64.wrap (((bs.length : Nat) : Int) + 1 - 1) = ((bs.length : Nat) : Int) := by have := HL.out.2.1; rw [IntWalk.i64_in _ (by omega)]; omega
          have hw2 : ((bs.length : Nat) : Int) + 1 - 1 = ((bs.length : Nat) : Int) := by omega
          have hbl : bs.length ≤ 100000000 := by have := HL.out.2.1; omega
          have hpm : p ∈ T.back := by rw [hb]; simp
          have hsm' : ∀ q ∈ bs, q.small 1000000000 s.size := fun q hq => HL.out.1 q (by rw [hb]; simp [hq])
          have HPS := Lib.hid (do_small (B := 1000000000) (limit := limit) (T := { T with back := bs }) (show s.size = s.data.toList.length by rw [Array.length_toList]; rfl) (HL.out.1 p hpm) hsm')
          obtain ⟨j, hkj, hrj⟩ := HGO.out
          have HKJ := Lib.hid hkj
          have HRJ := Lib.hid hrj
          have HCALL := Lib.hid (tdo_at (hF2.under hba) p ((hv.keep hK2).keep (Keep.below hba)) (by have := HL.out.2.1; simp only []; omega) (by have := HL.out.2.2; simp only []; omega) HSM.out.1 (by have := HSM.out.2.1; omega) (HL.out.1 p hpm))
          have HB := Lib.hid (And.intro hb hlen)
          clear hv hF2 hK2 hcell hcs1 hn hcl hb hlen hba hpm hsm' hz hy hkj hrj
          go_wp2_with fail
          refine HCALL.out.mono ?_
          rintro e w6 ⟨⟨r6, rfl⟩, lv6, bv6, cs6, hF6, -⟩
          have hinv : InvT w w.heap.size s limit R w6 j := ⟨_, lv6, bv6, cs6, hF6, HRJ.out, HPS.out.1, by
            have h1 := HPS.out.2.1
            have h2 := HL.out.2.1
            have h3 := HB.out.2
            have h4 := HKJ.out
            omega, by
            have h1 := HPS.out.2.2
            have h2 := HL.out.2.2
            have h4 := HKJ.out
            omega⟩
          have HINV := Lib.hid hinv
          clear hF6 hinv r0 r1 c2 c3 c6 f6 hfl HPS HCALL
          go_wp2_with fail
          go_roundw
          case rel => exact ⟨j, HINV.out⟩
          case measure =>
            have h1 := (HLF.out (fun k => InvT w w.heap.size s limit R w6 k) ⟨j, HINV.out⟩).2 j HINV.out
            have h2 := HKJ.out
            have h3 := HKK.out
            omega
end Go.Proofs.YtpiimcbbgalhfaaGreatDoor
/- Traces: what is asked of a trace. -/
namespace Go.Proofs.YtpiimcbbgalhfaaGreatDoor
set_option maxRecDepth 100000
open Go.RowKit
theorem TrcAt.below {w w' : World} {b : Nat} {l : List Ev} (h : TrcAt w b l) (hb : Below w.heap.size w w') : TrcAt w' b l := by
  obtain ⟨lv, rest, h1, h2⟩ := h
  exact ⟨lv, rest, h1.below hb h1.lt, own_below h2 hb⟩
theorem evs_one (l : List Ev) : ∀ u ∈ l.flatMap evL, u.oneCell' = true := by
  intro u hu
  obtain ⟨e, -, he⟩ := List.mem_flatMap.1 hu
  exact one_event _ _ _ u he
theorem evs_length (l : List Ev) : (l.flatMap evL).length = l.length * 3 := by
  induction l with
  | nil => rfl
  | cons e l ih => rw [List.flatMap_cons, List.length_append, ih, List.length_cons]; simp only [List.length_cons, List.length_nil]; omega
set_option maxHeartbeats 2000000 in
set_option maxRecDepth 100000 in
theorem clone_ev {w : World} {B g n c : Nat} {news : List Value} (h : w.ownsRow B 169 3 (.slice (some ⟨g, 0, none⟩) n c) n news) (hl : news.length = n * 3) (hn : n ≤ 1000000000) (h1 : ∀ u ∈ news, u.oneCell' = true) :
    Calls Tryz.prog 107 #[.slice (some ⟨g, 0, none⟩) n c] w fun e w' => (∃ v', e = .returned v' ∧ w'.ownsRow w.heap.size 169 3 v' n news) ∧ Below w.heap.size w w' := by
  obtain ⟨i, z, ht, hi, hz, hsize, hby, hzs, hsz⟩ := elem_event
  have q79 : ∀ (w : World) (a : Option Addr) (n c n' c' : Nat), (binOp .eql 71 (.slice a n c) (.slice none n' c')).run Tryz.prog w = .ok (.bool a.isNone) w := fun w a n c n' c' => Lib.run_eql_slice_nil w _ _ a n c n' c' ht
  have H := Lib.hid h
  have HL := Lib.hid (And.intro hl (And.intro hn h1))
  clear h hl hn h1
  go_enter Tryz.func107, Tryz.ntmps107
  go_wp2_with (at_builtin; refine wpList_append_own _ rfl _ _ 71 rfl w.heap.size 169 i z 3 24 ht hi hz hsize hby hzs hsz _ _ _ rfl (World.ownsRow_made w #[] 0 (Nat.le_refl _) (Nat.zero_le _) (by simp)) ⟨g, 0, none⟩ n c news rfl ?qc1 ?qc2 ?qc3 ?qc4 ?qc5 ?qc6 ?_)
  case qc1 => exact HL.out.1
  case qc2 =>
    intro j u hj
    rw [Addr.add_lit]
    exact Lib.cell?_alloc_some _ (by rw [Nat.zero_add]; exact own_cell1 H.out j u hj)
  case qc3 => exact HL.out.2.2
  case qc4 => have := HL.out.2.1; unfold maxLen; omega
  case qc5 => have := HL.out.2.1; omega
  case qc6 => simp
  intro v' w1 hown hgrow hnil
  have HO := Lib.hid hown
  have HG := Lib.hid hgrow
  clear hown hgrow hnil
  go_wp2
  go_returns
  refine ⟨⟨v', rfl, by simpa using HO.out⟩, ?_⟩
  exact ((Below.refl _ w).alloc (Nat.le_refl _) _).grown HG.out (by simp) (by intro k hk; simp [Value.ownBlock] at hk; omega)
set_option maxHeartbeats 2000000 in
theorem events_at {w : World} {b : Nat} {l : List Ev} {e0 : Ev} {l' : List Ev} (h : TrcAt w b l) (hl : l = e0 :: l') (hn : l.length ≤ 1000000000) :
    Calls Tryz.prog 48 #[cptr b] w fun e w' => (∃ v', e = .returned v' ∧ w'.ownsRow w.heap.size 169 3 v' l.length (l.flatMap evL)) ∧ Below w.heap.size w w' := by
  obtain ⟨lv, rest, h1, h2⟩ := h
  have c0 := h1.cell 0
  have hbl := h1.lt
  simp only [List.getElem?_cons_zero] at c0
  have hp : 0 < l.length := by rw [hl]; simp
  obtain ⟨A, c, rfl⟩ := own_len h2
  obtain ⟨g, rfl⟩ : ∃ g, A = some ⟨g, 0, none⟩ := by
    rcases h2.2 with ⟨_, h0⟩ | ⟨g, cap, cur, e, _⟩
    · omega
    · injection e with e1 e2 e3
      exact ⟨g, e1⟩
  have HC := Lib.hid (clone_ev h2 (evs_length l) hn (evs_one l))
  clear h1 h2 hl
  go_enter Tryz.func48, Tryz.ntmps48
  go_wp2_with fail
  refine HC.out.mono ?_
  rintro e w2 ⟨⟨v, rfl, ho⟩, hb⟩
  have HO := Lib.hid ho
  have HB := Lib.hid hb
  clear ho hb c0
  go_wp2
  go_returns
  exact ⟨⟨v, rfl, HO.out⟩, HB.out⟩
theorem events_nil (w : World) : Calls Tryz.prog 48 #[.pointer none] w fun e w' => e = .returned (.slice none 0 0) ∧ w' = w := by
  go_enter Tryz.func48, Tryz.ntmps48
  go_wp2
  go_returns
  exact ⟨rfl, rfl⟩
theorem hits_nil (w : World) : Calls Tryz.prog 49 #[.pointer none] w fun e w' => e = .returned (.int .i64 0) ∧ w' = w := by
  go_enter Tryz.func49, Tryz.ntmps49
  go_wp2
  go_returns
  exact ⟨rfl, rfl⟩
theorem tfound_nil (w : World) : Calls Tryz.prog 50 #[.pointer none] w fun e w' => e = .returned (.bool false) ∧ w' = w := by
  go_enter Tryz.func50, Tryz.ntmps50
  go_wp2
  go_returns
  exact ⟨rfl, rfl⟩
theorem tstopped_nil (w : World) : Calls Tryz.prog 51 #[.pointer none] w fun e w' => e = .returned (.bool false) ∧ w' = w := by
  go_enter Tryz.func51, Tryz.ntmps51
  go_wp2
  go_returns
  exact ⟨rfl, rfl⟩
theorem tread_nil (k : Int) (w : World) : Calls Tryz.prog 52 #[.pointer none, .int .i64 k] w fun e w' => e = .returned (.int .i64 0) ∧ w' = w := by
  go_enter Tryz.func52, Tryz.ntmps52
  go_wp2_with fail
  refine (events_nil w).mono ?_
  rintro e w' ⟨rfl, rfl⟩
  rename World => w
  go_wp2_with fail
  go_loopw [5, 11] (fun nv iv wr => nv = .int .i64 0 ∧ iv = .int .i64 0 ∧ wr = w) (fun _ _ _ => 0)
  case atStart => exact ⟨rfl, rfl, rfl⟩
  case round =>
    obtain ⟨rfl, rfl, rfl⟩ := hrel
    go_wp2
    go_returns
    exact ⟨rfl, rfl⟩
theorem busiest_nil (w : World) : Calls Tryz.prog 47 #[.pointer none] w fun e w' => e = .returned (.tuple #[.int .i64 0, .int .i64 0]) ∧ Below w.heap.size w w' := by
  have hmm : ∀ w, (Instr.makeMap 134 none).run Tryz.prog w = .ok (.map (some w.heap.size)) (w.alloc (.map #[] 0)) := fun w => by kernel_rfl
  go_enter Tryz.func47, Tryz.ntmps47
  go_wp2_with fail
  refine (events_nil _).mono ?_
  rintro e w' ⟨rfl, rfl⟩
  go_wp2_with fail
  go_loopw [5, 6, 14] (fun pv mv iv wr => pv = .int .i64 0 ∧ mv = .int .i64 0 ∧ iv = .int .i64 0 ∧ Below w.heap.size w wr) (fun _ _ _ _ => 0)
  case atStart => exact ⟨rfl, rfl, rfl, (Below.refl _ w).alloc (Nat.le_refl _) _⟩
  case round =>
    obtain ⟨rfl, rfl, rfl, hb⟩ := hrel
    go_wp2
    go_returns
    exact ⟨rfl, hb⟩
set_option maxHeartbeats 4000000 in
theorem ttext_nil (w : World) : Calls Tryz.prog 53 #[.pointer none] w fun e w' => e = .returned (.string ⟨#[]⟩) ∧ Below w.heap.size w w' := by
  go_enter Tryz.func53, Tryz.ntmps53
  go_wp2_with fail
  refine (events_nil _).mono ?_
  rintro e w' ⟨rfl, rfl⟩
  have hbl : BldAt 128 w.heap.size (w.heap.size + 1) [] ((w.alloc (.cells #[.string { data := #[104, 105, 116] }, .string { data := #[102, 111, 117, 110, 100] }, .string { data := #[109, 105, 115, 115] }, .string { data := #[102, 97, 105, 108] }] 185)).alloc (.cells #[.pointer none, .slice none 0 0] 128)) :=
    .inl ⟨Nat.le_succ _, .slice none 0 0, blk_new2 w [.pointer none, .slice none 0 0] 128 _, World.ownsRowF_nil _ _ _ _, by simp [Value.ownBlock]⟩
  have hb2 : Below w.heap.size w ((w.alloc (.cells #[.string { data := #[104, 105, 116] }, .string { data := #[102, 111, 117, 110, 100] }, .string { data := #[109, 105, 115, 115] }, .string { data := #[102, 97, 105, 108] }] 185)).alloc (.cells #[.pointer none, .slice none 0 0] 128)) := ((Below.refl _ w).alloc (Nat.le_refl _) _).alloc (by simp) _
  have HBL := Lib.hid hbl
  have HB2 := Lib.hid hb2
  clear hbl hb2
  generalize (w.alloc _).alloc _ = w2 at *
  have HS := Lib.hid (string_at _ _ _ _ HBL.out HB2.out.size (by simp))
  go_wp2_with fail
  go_loopw [11] (fun iv wr => iv = .int .i64 0 ∧ wr = w2) (fun _ _ => 0)
  case atStart => exact ⟨rfl, rfl⟩
  case round =>
    obtain ⟨rfl, rfl⟩ := hrel
    go_wp2_with fail
    refine HS.out.mono ?_
    rintro e w3 ⟨rfl, hb3⟩
    have HB3 := Lib.hid (HB2.out.trans hb3)
    clear hb3
    go_wp2
    go_returns
    exact ⟨rfl, HB3.out⟩
theorem TNew_nil (s : ByteArray) (limit : Int) (w : World) : Calls Tryz.prog 46 #[.pointer none, .string s, .int .i64 limit] w fun e w' => e = .returned (.tuple #[.pointer none, .int .i64 1]) ∧ w' = w := by
  go_enter Tryz.func46, Tryz.ntmps46
  go_wp2
  go_returns
  exact ⟨rfl, rfl⟩
theorem TNew_many (b : Nat) (s : ByteArray) (w : World) : Calls Tryz.prog 46 #[cptr b, .string s, .int .i64 100001] w fun e w' => e = .returned (.tuple #[.pointer none, .int .i64 1]) ∧ w' = w := by
  go_enter Tryz.func46, Tryz.ntmps46
  go_wp2
  go_returns
  exact ⟨rfl, rfl⟩
end Go.Proofs.YtpiimcbbgalhfaaGreatDoor
/- TraceNone: the walk. -/
namespace Go.Proofs.YtpiimcbbgalhfaaGreatDoor
set_option maxRecDepth 100000
open Go.RowKit
def awake25S : ByteArray := { data := #[97, 98] }
def awake25T : Tree := .mk 4 noSet 0 0 false [.mk 1 (oneM 97) 0 0 false [] 0 1, .mk 1 (oneM 98) 0 0 false [] 1 2] 0 2
theorem awake25_parse : parseB awake25S = .ok awake25T 2 := by rfl
def awake25C : CT := .cat (.set (oneM 97)) (.set (oneM 98))
theorem awake25_core : wrapC 0 (coreT awake25T) = awake25C := by rfl
theorem awake25_size : sizeM awake25T 0 = 3 := by rfl
theorem awake25_run : runT [97] 10 4 ⟨[], 0, false, false, [⟨0, [.fresh awake25C 0]⟩]⟩ = some ⟨[⟨0, 0, 0⟩, ⟨3, 1, 1⟩], 1, false, false, []⟩ := by rfl
def one25S : ByteArray := { data := #[97] }
def one25T : Tree := .mk 1 (oneM 97) 0 0 false [] 0 1
theorem one25_parse : parseB one25S = .ok one25T 1 := by rfl
theorem one25_size : sizeM one25T 0 = 1 := by rfl
theorem own_six {w : World} {B : Nat} {e : TypeId} {v u0 u1 u2 u3 u4 u5 : Value} (h : w.ownsRow B e 3 v 2 [u0, u1, u2, u3, u4, u5]) : ∃ g c, v = .slice (some ⟨g, 0, none⟩) 2 c ∧ w.cell? ⟨g, 0, none⟩ = some u0 ∧ w.cell? ⟨g, 1, none⟩ = some u1 ∧ w.cell? ⟨g, 2, none⟩ = some u2 ∧ w.cell? ⟨g, 3, none⟩ = some u3 ∧ w.cell? ⟨g, 4, none⟩ = some u4 ∧ w.cell? ⟨g, 5, none⟩ = some u5 ∧ g < w.heap.size := by
  rcases h.2 with ⟨rfl, h0⟩ | ⟨g, cap, cur, rfl, _, hg, _⟩
  · omega
  · exact ⟨g, cap, rfl, own_cell1 h 0 u0 rfl, own_cell1 h 1 u1 rfl, own_cell1 h 2 u2 rfl, own_cell1 h 3 u3 rfl, own_cell1 h 4 u4 rfl, own_cell1 h 5 u5 rfl, (Array.getElem?_eq_some_iff.1 hg).1⟩
set_option maxHeartbeats 4000000 in
theorem awake25_at (w : World) (hT : TabOk w) :
    Calls Tryz.prog 45 #[] w fun e w' => e = .returned (.bool true) ∧ Below w.heap.size w w' := by
  have HP := Lib.hid (cparse_ok awake25_parse (by rw [awake25_size]; omega) w hT)
  rw [awake25_core] at HP
  clear hT
  go_enter Tryz.func45, Tryz.ntmps45
  go_wp2_with fail
  refine HP.out.mono ?_
  rintro v w1 ⟨⟨c, rfl, hc⟩, hb1⟩
  have HN := Lib.hid (TNew_at { data := #[97] } 10 4 _ hc (by decide) (by omega) (by decide) awake25_run (by omega))
  have HB1 := Lib.hid hb1
  clear hc hb1
  go_wp2_with fail
  refine HN.out.mono ?_
  rintro v w2 ⟨⟨b, rfl, hl⟩, hb2⟩
  have HB2 := Lib.hid (HB1.out.trans (hb2.mono HB1.out.size))
  have HE := Lib.hid (events_at hl rfl (by decide))
  clear hb2 hl
  go_wp2_with fail
  refine HE.out.mono ?_
  rintro e w3 ⟨⟨v3, rfl, ho3⟩, hb3⟩
  have HB3 := Lib.hid (HB2.out.trans (hb3.mono HB2.out.size))
  obtain ⟨g, cap, rfl, e0, e1, e2, e3, e4, e5, hg⟩ := own_six ho3
  clear hb3 ho3
  go_wp2
  go_returns
  exact ⟨rfl, HB3.out⟩
set_option maxHeartbeats 4000000 in
theorem tracenone_law (s : ByteArray) (i : Int) (w : World) (hT : TabOk w) :
    Calls Tryz.prog 8 #[.string s, .int .i64 i] w fun e w' => e = .returned (.bool true) ∧ Below w.heap.size w w' := by
  have HA := Lib.hid (awake25_at w hT)
  have HP := Lib.hid (fun W (hW : Below w.heap.size w W) => cparse_ok one25_parse (by rw [one25_size]; omega) W (hT.below hW))
  clear hT
  by_cases hs : 60 < s.size
  · have hd : (60 : Int) < ((s.size : Nat) : Int) := by omega
    have hd2 : decide (60 < s.size) = true := decide_eq_true hs
    go_enter Tryz.func8, Tryz.ntmps8
    go_wp2_with fail
    refine HA.out.mono ?_
    rintro v w1 ⟨rfl, hb1⟩
    have HB1 := Lib.hid hb1
    clear hb1
    go_wp2
    go_returns
    exact ⟨rfl, HB1.out⟩
  · have hd : ¬(60 : Int) < ((s.size : Nat) : Int) := by omega
    have hd2 : decide (60 < s.size) = false := decide_eq_false hs
    go_enter Tryz.func8, Tryz.ntmps8
    go_wp2_with fail
    refine HA.out.mono ?_
    rintro v w1 ⟨rfl, hb1⟩
    have HB1 := Lib.hid hb1
    have HP1 := Lib.hid (HP.out w1 hb1)
    clear hb1
    go_wp2_with fail
    refine HP1.out.mono ?_
    rintro v w2 ⟨⟨c, rfl, -⟩, hb2⟩
    have HB2 := Lib.hid (HB1.out.trans (hb2.mono HB1.out.size))
    clear hb2
    go_wp2_with fail
    refine (TNew_nil _ _ w2).mono ?_
    rintro v w3 ⟨rfl, rfl⟩
    rename World => w2
    go_wp2_with fail
    refine (TNew_many _ _ w2).mono ?_
    rintro v w3 ⟨rfl, rfl⟩
    rename World => w2
    go_wp2_with fail
    refine (busiest_nil w2).mono ?_
    rintro v w3 ⟨rfl, hb3⟩
    have HB3 := Lib.hid (HB2.out.trans (hb3.mono HB2.out.size))
    clear hb3
    go_wp2_with fail
    refine (events_nil w3).mono ?_
    rintro v w4 ⟨rfl, rfl⟩
    rename World => w3
    go_wp2_with fail
    refine (hits_nil w3).mono ?_
    rintro v w4 ⟨rfl, rfl⟩
    rename World => w3
    go_wp2_with fail
    refine (tfound_nil w3).mono ?_
    rintro v w4 ⟨rfl, rfl⟩
    rename World => w3
    go_wp2_with fail
    refine (tstopped_nil w3).mono ?_
    rintro v w4 ⟨rfl, rfl⟩
    rename World => w3
    go_wp2_with fail
    refine (tread_nil _ w3).mono ?_
    rintro v w4 ⟨rfl, rfl⟩
    rename World => w3
    go_wp2_with fail
    refine (ttext_nil w3).mono ?_
    rintro v w4 ⟨rfl, hb4⟩
    have HB4 := Lib.hid (HB3.out.trans (hb4.mono HB3.out.size))
    clear hb4
    go_wp2
    go_returns
    exact ⟨rfl, HB4.out⟩
end Go.Proofs.YtpiimcbbgalhfaaGreatDoor
