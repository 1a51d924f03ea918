/- Ways: New. -/
import Derived.Test.YtpiimcbbgalhfaaGreatDoorCj
import Derived.Test.YtpiimcbbgalhfaaGreatDoorBu
namespace Go.Proofs.YtpiimcbbgalhfaaGreatDoor
set_option maxRecDepth 100000
open Go.RowKit
section
variable {s : List UInt8} {most limit B n : Nat}
theorem star_small {z : Bool} {a : CT} {f pos : Nat} {read : List Nat} {rest : List It} (hf : f + placesC a ≤ B) (hp : pos ≤ n) (hr : ∀ x ∈ rest, x.small B ∧ x.since ≤ n) (hl : read.length ≤ pos) (hb : ∀ q ∈ read, q ≤ B) : ∀ p ∈ starP z a f pos read rest, p.small B n := by
  have h1 : Pt.small B n ⟨pos, read, rest⟩ := ⟨hp, hr, hl, hb⟩
  have h2 : Pt.small B n ⟨pos, read, .fresh a f :: .loop z a f pos :: rest⟩ := by
    refine ⟨hp, fun x hx => ?_, hl, hb⟩
    rcases List.mem_cons.1 hx with rfl | hx
    · exact ⟨hf, Nat.zero_le _⟩
    · rcases List.mem_cons.1 hx with rfl | hx
      · exact ⟨by simpa [It.small, It.first, It.c, placesC] using hf, hp⟩
      · exact hr x hx
  intro p hp
  unfold starP at hp
  cases z <;> simp only [Bool.false_eq_true, if_false, if_true, List.mem_cons, List.not_mem_nil, or_false] at hp <;> rcases hp with rfl | rfl <;> assumption
theorem step_small {p : Pt} {F : Fd} (hn : n = s.length) (hp : p.small B n) (hF : ∀ q ∈ F.back, q.small B n) : (∀ q ∈ (stepF s most limit p F).back, q.small B n) ∧ (stepF s most limit p F).back.length ≤ F.back.length + 2 ∧ (F.l.length ≤ most → (stepF s most limit p F).l.length ≤ most) := by
  obtain ⟨pos, read, todo⟩ := p
  obtain ⟨h1, h2, h3, h4⟩ := hp
  simp only [] at h1 h2 h3 h4
  have push1 : ∀ l : List Pt, (∀ q ∈ l, q.small B n) → ∀ q ∈ (F.push l).back, q.small B n := by
    intro l hl q hq
    simp only [Fd.push, List.mem_append] at hq
    rcases hq with hq | hq
    · exact hF q hq
    · exact hl q hq
  cases todo with
  | nil =>
    simp only [stepF]
    split
    · unfold foundF
      split
      · exact ⟨hF, by simp, fun h => h⟩
      · rename_i hne
        exact ⟨hF, by simp, fun h => by simp; omega⟩
    · exact ⟨hF, by omega, fun h => h⟩
  | cons x rest =>
    have hx := (h2 x (by simp)).1
    have hr : ∀ y ∈ rest, y.small B ∧ y.since ≤ n := fun y hy => h2 y (by simp [hy])
    have hone : ∀ t : List It, (∀ y ∈ t, y.small B ∧ y.since ≤ n) → Pt.small B n ⟨pos, read, t⟩ := fun t ht => ⟨h1, ht, h3, h4⟩
    cases x with
    | loop z a f since =>
      simp only [stepF]
      split
      · refine ⟨push1 _ (star_small (by simpa [It.small, It.first, It.c, placesC] using hx) h1 hr h3 h4), by simp [Fd.push, starP]; split <;> simp, fun h => h⟩
      · exact ⟨hF, by omega, fun h => h⟩
    | fresh c f =>
      simp only [It.small, It.first, It.c] at hx
      cases c with
      | empty => exact ⟨push1 _ (fun q hq => by rw [List.mem_singleton.1 hq]; exact hone rest hr), by simp [stepF, Fd.push], fun h => h⟩
      | set m =>
        simp only [stepF, hitF]
        cases hs : s[pos]? with
        | none => exact ⟨hF, by simp, fun h => h⟩
        | some b =>
          simp only []
          have hlt := (List.getElem?_eq_some_iff.1 hs).1
          split
          · split
            · exact ⟨hF, by simp, fun h => h⟩
            · refine ⟨fun q hq => ?_, by simp, fun h => h⟩
              simp only [List.mem_append, List.mem_singleton] at hq
              rcases hq with hq | rfl
              · exact hF q hq
              · refine ⟨by simp only []; omega, hr, by simp only [List.length_cons]; omega, fun q hq => ?_⟩
                rcases List.mem_cons.1 hq with rfl | hq
                · simp only [placesC] at hx; omega
                · exact h4 q hq
          · exact ⟨hF, by omega, fun h => h⟩
      | cat a b =>
        simp only [placesC] at hx
        refine ⟨push1 _ (fun q hq => ?_), by simp [stepF, Fd.push], fun h => h⟩
        rw [List.mem_singleton.1 hq]
        refine hone _ (fun y hy => ?_)
        rcases List.mem_cons.1 hy with rfl | hy
        · exact ⟨by simp only [It.small, It.first, It.c]; omega, Nat.zero_le _⟩
        · rcases List.mem_cons.1 hy with rfl | hy
          · exact ⟨by simp only [It.small, It.first, It.c]; omega, Nat.zero_le _⟩
          · exact hr y hy
      | alt a b =>
        simp only [placesC] at hx
        refine ⟨push1 _ (fun q hq => ?_), by simp [stepF, Fd.push], fun h => h⟩
        simp only [List.mem_cons, List.not_mem_nil, or_false] at hq
        rcases hq with rfl | rfl
        · refine hone _ (fun y hy => ?_)
          rcases List.mem_cons.1 hy with rfl | hy
          · exact ⟨by simp only [It.small, It.first, It.c]; omega, Nat.zero_le _⟩
          · exact hr y hy
        · refine hone _ (fun y hy => ?_)
          rcases List.mem_cons.1 hy with rfl | hy
          · exact ⟨by simp only [It.small, It.first, It.c]; omega, Nat.zero_le _⟩
          · exact hr y hy
      | star z a =>
        simp only [placesC] at hx
        exact ⟨push1 _ (star_small hx h1 hr h3 h4), by simp [stepF, Fd.push, starP]; split <;> simp, fun h => h⟩
end
/-- The list of ways at block b. -/
def ListAt (w : World) (b : Nat) (l : List (List Nat)) (whole : Bool) : Prop := ∃ lv vs rest S, Blk w b 155 (lv :: .bool whole :: rest) ∧ w.ownsRow 0 52 1 lv l.length vs ∧ WaysAt w S l vs
def InvF (w : World) (fb : Nat) (s : ByteArray) (most limit : Nat) (R : Fd) (wr : World) (k : Nat) : Prop := ∃ F lv bv vs cs, FinAt w wr fb s most limit F lv bv vs cs ∧ runF s.data.toList most limit k F = some R ∧ (∀ p ∈ F.back, p.small 1000000000 s.size) ∧ F.back.length + k ≤ 100000000 ∧ F.l.length ≤ most
theorem own_cells3 {w : World} {base size n g c : Nat} {e : TypeId} {xs : List Value} (h : w.ownsRow base e size (.slice (some ⟨g, 0, none⟩) n c) n xs) (j : Nat) (u : Value) (hu : xs[j]? = some u) : w.cell? ⟨g, j, none⟩ = some u := own_cell1 h j u hu
theorem FinAt.closed {w0 w : World} {fb : Nat} {s : ByteArray} {most limit : Nat} {F : Fd} {lv bv : Value} {vs cs : List Value} (h : FinAt w0 w fb s most limit F lv bv vs cs) (z : Bool) :
    ListAt (w.setCell ⟨fb, 1, none⟩ (.bool z)) fb F.l z ∧ Below w0.heap.size w0 (w.setCell ⟨fb, 1, none⟩ (.bool z)) := by
  refine ⟨⟨lv, vs, _, _, h.blk.set 1 (.bool z), own_base (ownsRow_setCell_below h.ways (a := ⟨fb, 1, none⟩) (Nat.lt_succ_self fb) _) (Nat.zero_le _), h.each.keep (S' := SX fb lv bv) ⟨by simp [World.setCell], fun k hk _ => ⟨Below.heap_setCell w ⟨fb, 1, none⟩ _ k hk.1, hk⟩⟩⟩, h.below.setCell (p := ⟨fb, 1, none⟩) h.low _⟩
def InvE (w : World) (fb : Nat) (s : ByteArray) (most limit : Nat) (R : Fd) (wr : World) : Prop := ∃ k, InvF w fb s most limit R wr k
set_option maxHeartbeats 8000000 in
theorem New_at {w : World} {S0 : Nat → Prop} {c : CT} {cb : Nat} (s : ByteArray) (most limit K : Nat) (R : Fd) (hc : CoreAt w S0 c cb) (hs : s.size ≤ 1000000000) (hm : most ≤ 10000) (hl : limit ≤ 1000000000) (hpl : placesC c ≤ 1000000000)
    (hrun : runF s.data.toList most limit K ⟨[], 0, false, [⟨0, [], [.fresh c 0]⟩]⟩ = some R) (hK : K ≤ 90000000) :
    Calls Tryz.prog 37 #[cptr cb, .string s, .int .i64 ((most : Nat) : Int), .int .i64 ((limit : Nat) : Int)] w fun e w' => (∃ b, e = .returned (.tuple #[cptr b, .int .i64 0]) ∧ ListAt w' b R.l (!R.stopped)) ∧ Below w.heap.size w w' := by
  obtain ⟨left, hleft⟩ := exists_left
  have HLF := Lib.hid hleft
  clear hleft
  have hml : ¬(10000 : Int) < ((most : Nat) : Int) := by omega
  have hb1 : Below w.heap.size w (w.alloc (.cells #[.slice none 0 0, .bool false, .string s, .int .i64 ((most : Nat) : Int), .int .i64 ((limit : Nat) : Int), .int .i64 0, .bool false, .slice none 0 0] 155)) := (Below.refl _ w).alloc (Nat.le_refl _) _
  have hfin : FinAt w (w.alloc (.cells #[.slice none 0 0, .bool false, .string s, .int .i64 ((most : Nat) : Int), .int .i64 ((limit : Nat) : Int), .int .i64 0, .bool false, .slice none 0 0] 155)) w.heap.size s most limit ⟨[], 0, false, []⟩ (.slice none 0 0) (.slice none 0 0) [] [] :=
    ⟨Nat.le_refl _, hb1, Blk.new w [.slice none 0 0, .bool false, .string s, .int .i64 ((most : Nat) : Int), .int .i64 ((limit : Nat) : Int), .int .i64 0, .bool false, .slice none 0 0] 155, World.ownsRow_nil _ _ _ _, rfl, World.ownsRow_nil _ _ _ _, rfl, apart_nil _⟩
  have hb2 := (Below.refl _ (w.alloc (.cells #[.slice none 0 0, .bool false, .string s, .int .i64 ((most : Nat) : Int), .int .i64 ((limit : Nat) : Int), .int .i64 0, .bool false, .slice none 0 0] 155))).alloc (Nat.le_refl _) (.cells #[cptr cb, .int .i64 0, .bool false, .int .i64 0, .pointer none] 164)
  have hcs : CoreAt (w.alloc (.cells #[.slice none 0 0, .bool false, .string s, .int .i64 ((most : Nat) : Int), .int .i64 ((limit : Nat) : Int), .int .i64 0, .bool false, .slice none 0 0] 155)) (SX w.heap.size (.slice none 0 0) (.slice none 0 0)) c cb :=
    hc.turn (fun k _ hk => hb1.block k hk) (fun k _ hk => ⟨by omega, fun e => (by cases e), fun e => (by cases e)⟩)
  have htd : TodoAt 164 ((w.alloc (.cells #[.slice none 0 0, .bool false, .string s, .int .i64 ((most : Nat) : Int), .int .i64 ((limit : Nat) : Int), .int .i64 0, .bool false, .slice none 0 0] 155)).alloc (.cells #[cptr cb, .int .i64 0, .bool false, .int .i64 0, .pointer none] 164)) (SX w.heap.size (.slice none 0 0) (.slice none 0 0)) [.fresh c 0] (.pointer (some ⟨w.heap.size + 1, 0, none⟩)) :=
    ⟨w.heap.size + 1, cb, .pointer none, rfl, ⟨by omega, fun e => (by cases e), fun e => (by cases e)⟩, blk_new2 w [cptr cb, .int .i64 0, .bool false, .int .i64 0, .pointer none] 164 _, hcs.keep (Keep.below hb2), rfl⟩
  have HPU := Lib.hid (push_at (p := ⟨0, [], [.fresh c 0]⟩) (u := .pointer none) (x := .pointer none) (hfin.under hb2) rfl htd (by simp))
  have HRUN := Lib.hid (And.intro hrun hK)
  have HSM := Lib.hid (And.intro hs (And.intro hl (And.intro hpl hm)))
  clear hrun hK hcs htd hfin hb1 hb2 hc hpl hl
  go_enter Tryz.func37, Tryz.ntmps37
  go_wp2_with fail
  refine HPU.out.mono ?_
  rintro e w3 ⟨⟨r3, rfl⟩, bv3, cs3, hF3, -⟩
  have HI3 := Lib.hid (show InvF w w.heap.size s most limit R w3 K from ⟨_, _, _, _, _, hF3, HRUN.out.1, fun p hp => by
    simp only [Fd.push, List.nil_append, List.mem_singleton] at hp
    subst hp
    refine ⟨Nat.zero_le _, fun x hx => ?_, Nat.le_refl _, fun q hq => by cases hq⟩
    rw [List.mem_singleton.1 hx]
    exact ⟨by simpa [It.small, It.first, It.c] using HSM.out.2.2.1, Nat.zero_le _⟩, by have := HRUN.out.2; simp [Fd.push]; omega, Nat.zero_le _⟩)
  clear hF3 HPU
  go_wp2_with fail
  go_loopw [11] (fun _ wr => InvE w w.heap.size s most limit R wr) (fun _ wr => left (fun k => InvF w w.heap.size s most limit R wr k))
  case atStart => exact ⟨K, HI3.out⟩
  case round =>
    have hkm := (HLF.out _ hrel).1
    have HMIN := Lib.hid (HLF.out _ hrel).2
    generalize hkk : left (fun k => InvF w w.heap.size s most limit R wr k) = k at *
    have HKK := Lib.hid hkk
    clear hkk hrel HI3
    obtain ⟨F, lv, bv, vs, cs, hF, hrun, hsm, hbk, hlm⟩ := hkm
    obtain ⟨A, c1, rfl⟩ := own_len hF.back
    obtain ⟨⟨-, c1', -, -, -, -, c6, c7⟩, -, f1, -, -, f7⟩ := hF.cells
    have hfl := hF.blk.lt
    have HF := Lib.hid hF
    have HL := Lib.hid (And.intro hsm (And.intro hbk hlm))
    have HR := Lib.hid hrun
    clear hF hsm hbk hlm hrun
    rcases List.eq_nil_or_concat F.back with hb | ⟨bs, p, hb⟩
    · have HE := Lib.hid (runF_stop HR.out (.inr hb))
      rw [hb] at c7
      simp only [List.length_nil] at c7
      have HB := Lib.hid hb
      clear hb
      cases hz : F.stopped with
      | true =>
        have HZ := Lib.hid hz
        go_wp2
        go_returns
        obtain ⟨h1, h2⟩ := HF.out.closed false
        rw [HE.out, HZ.out]
        exact ⟨⟨_, rfl, h1⟩, h2⟩
      | false =>
        have HZ := Lib.hid hz
        go_wp2
        go_returns
        obtain ⟨h1, h2⟩ := HF.out.closed true
        rw [HE.out, HZ.out]
        exact ⟨⟨_, rfl, h1⟩, h2⟩
    · rw [List.concat_eq_append] at hb
      have hlen : F.back.length = bs.length + 1 := by rw [hb]; simp
      cases hz : F.stopped with
      | true =>
        have HE := Lib.hid (runF_stop HR.out (.inl hz))
        have HZ := Lib.hid hz
        have hpos : 0 < F.back.length := by omega
        rw [hz] at c6
        clear hz hb hlen
        go_wp2
        go_returns
        obtain ⟨h1, h2⟩ := HF.out.closed false
        rw [HE.out, HZ.out]
        exact ⟨⟨_, rfl, h1⟩, h2⟩
      | false =>
        have HGO := Lib.hid (runF_go HR.out hz hb)
        rw [hz] at c6
        obtain ⟨g, rfl, hcap⟩ : ∃ g, A = some ⟨g, 0, none⟩ ∧ bs.length ≤ c1 := by
          rcases HF.out.back.2 with ⟨_, h0⟩ | ⟨g, cap, cur, e, _, _, hle, _⟩
          · omega
          · injection e with e1 e2 e3
            exact ⟨g, e1, by omega⟩
        obtain ⟨u, v, cr, hcs, hn, hu, hv, hF2, hK2⟩ := HF.out.pop hb
        obtain ⟨uo, rfl, -⟩ := hu.form
        obtain ⟨vo, rfl, -⟩ := hv.form
        have hcl : cr.length = bs.length * 3 := hF2.pts.length
        have hcell : ∀ j u, ([.int .i64 ((p.pos : Nat) : Int), .pointer uo, .pointer vo] : List Value)[j]? = some u → wr.cell? ⟨g, bs.length * 3 + j, none⟩ = some u := fun j u hj => own_cell1 HF.out.back (bs.length * 3 + j) u (by rw [hcs, List.getElem?_append_right (by omega), hcl, Nat.add_sub_cancel_left]; exact hj)
        have r0 := hcell 0 _ rfl
        have r1 := hcell 1 _ rfl
        have r2 := hcell 2 _ rfl
        rw [Nat.add_zero] at r0
        rw [hlen] at c7
        have hw1 : IntKind.i64.wrap (((bs.length : Nat) : Int) + 1 - 1) = ((bs.length : Nat) : Int) := by have := HL.out.2.1; rw [IntWalk.i64_in _ (by omega)]; omega
        have hw2 : ((bs.length : Nat) : Int) + 1 - 1 = ((bs.length : Nat) : Int) := by omega
        have hbl : bs.length ≤ 100000000 := by have := HL.out.2.1; omega
        have hba := (Below.refl _ (wr.setCell ⟨w.heap.size, 7, none⟩ (.slice (some ⟨g, 0, none⟩) bs.length c1))).alloc (Nat.le_refl _) (.cells #[.int .i64 ((p.pos : Nat) : Int), .pointer uo, .pointer vo] 160)
        have hpm : p ∈ F.back := by rw [hb]; simp
        have hsm' : ∀ q ∈ bs, q.small 1000000000 s.size := fun q hq => HL.out.1 q (by rw [hb]; simp [hq])
        have HPS := Lib.hid (step_small (B := 1000000000) (most := most) (limit := limit) (F := { F with back := bs }) (show s.size = s.data.toList.length by rw [Array.length_toList]; rfl) (HL.out.1 p hpm) hsm')
        have HCALL := Lib.hid (step_at (hF2.under hba) p ((hu.keep hK2).keep (Keep.below hba)) ((hv.keep hK2).keep (Keep.below hba)) (by have := HL.out.2.1; simp only []; omega) (by have := HL.out.2.2; simp only []; omega) HSM.out.1 HSM.out.2.1 (HL.out.1 p hpm))
        have HB := Lib.hid (And.intro hb hlen)
        clear hu hv hF2 hK2 hcell hcs hn hcl hb hlen hba hpm hsm'
        go_wp2_with fail
        refine HCALL.out.mono ?_
        rintro e w6 ⟨⟨r6, rfl⟩, lv6, bv6, vs6, cs6, hF6, -⟩
        obtain ⟨j, hkj, hrj⟩ := HGO.out
        have hinv : InvF w w.heap.size s most limit R w6 j := ⟨_, lv6, bv6, vs6, cs6, hF6, hrj, HPS.out.1, by
          have h1 := HPS.out.2.1
          have h2 := HL.out.2.1
          have h3 := HB.out.2
          omega, HPS.out.2.2 HL.out.2.2⟩
        have HINV := Lib.hid hinv
        have HKJ := Lib.hid hkj
        clear hF6 hrj hinv hkj r0 r1 r2 c1' c6 c7 f1 f7 hfl HPS HCALL
        go_wp2_with fail
        go_roundw
        case rel => exact ⟨j, HINV.out⟩
        case measure =>
          have h1 := (HLF.out (fun k => InvF w w.heap.size s most limit R w6 k) ⟨j, HINV.out⟩).2 j HINV.out
          have h2 := HKJ.out
          have h3 := HKK.out
          omega
end Go.Proofs.YtpiimcbbgalhfaaGreatDoor
/- Ways: what is asked of a list of ways. -/
namespace Go.Proofs.YtpiimcbbgalhfaaGreatDoor
set_option maxRecDepth 100000
open Go.RowKit
theorem ListAt.below {w w' : World} {b : Nat} {l : List (List Nat)} {z : Bool} (h : ListAt w b l z) (hb : Below w.heap.size w w') : ListAt w' b l z := by
  obtain ⟨lv, vs, rest, S, h1, h2, h3⟩ := h
  exact ⟨lv, vs, rest, S, h1.below hb h1.lt, own_below h2 hb, h3.keep (Keep.below hb)⟩
theorem wlen_nil (w : World) : Calls Tryz.prog 39 #[.pointer none] w fun e w' => e = .returned (.int .i64 0) ∧ w' = w := by
  go_enter Tryz.func39, Tryz.ntmps39
  go_wp2
  go_returns
  exact ⟨rfl, rfl⟩
theorem wlen_at {w : World} {b : Nat} {l : List (List Nat)} {z : Bool} (h : ListAt w b l z) : Calls Tryz.prog 39 #[cptr b] w fun e w' => e = .returned (.int .i64 ((l.length : Nat) : Int)) ∧ w' = w := by
  obtain ⟨lv, vs, rest, S, h1, h2, h3⟩ := h
  obtain ⟨A, c, rfl⟩ := own_len h2
  have c0 := h1.cell 0
  have hl := h1.lt
  simp only [List.getElem?_cons_zero] at c0
  clear h1 h2 h3
  go_enter Tryz.func39, Tryz.ntmps39
  go_wp2
  go_returns
  exact ⟨rfl, rfl⟩
theorem wwhole_nil (w : World) : Calls Tryz.prog 40 #[.pointer none] w fun e w' => e = .returned (.bool false) ∧ w' = w := by
  go_enter Tryz.func40, Tryz.ntmps40
  go_wp2
  go_returns
  exact ⟨rfl, rfl⟩
theorem wwhole_at {w : World} {b : Nat} {l : List (List Nat)} {z : Bool} (h : ListAt w b l z) : Calls Tryz.prog 40 #[cptr b] w fun e w' => e = .returned (.bool z) ∧ w' = w := by
  obtain ⟨lv, vs, rest, S, h1, h2, h3⟩ := h
  have c0 := h1.cell 1
  have hl := h1.lt
  simp only [List.getElem?_cons_zero, List.getElem?_cons_succ] at c0
  clear h1 h2 h3
  go_enter Tryz.func40, Tryz.ntmps40
  go_wp2
  go_returns
  exact ⟨rfl, rfl⟩
theorem whas_nil (i : Int) (w : World) : Calls Tryz.prog 102 #[.pointer none, .int .i64 i] w fun e w' => e = .returned (.bool false) ∧ w' = w := by
  by_cases h : 0 ≤ i
  · have hd : decide (i < 0) = false := decide_eq_false (by omega)
    go_enter Tryz.func102, Tryz.ntmps102
    go_wp2_with fail
    refine (wlen_nil w).mono ?_
    rintro e w' ⟨rfl, rfl⟩
    go_wp2
    go_returns
    exact ⟨rfl, rfl⟩
  · go_enter Tryz.func102, Tryz.ntmps102
    go_wp2
    go_returns
    exact ⟨rfl, rfl⟩
theorem whas_at {w : World} {b : Nat} {l : List (List Nat)} {z : Bool} (h : ListAt w b l z) (i : Nat) (hi : i < l.length) : Calls Tryz.prog 102 #[cptr b, .int .i64 ((i : Nat) : Int)] w fun e w' => e = .returned (.bool true) ∧ w' = w := by
  have HL := Lib.hid (wlen_at h)
  have h0 : 0 ≤ ((i : Nat) : Int) := by omega
  have hd : decide (i < l.length) = true := decide_eq_true hi
  clear h
  go_enter Tryz.func102, Tryz.ntmps102
  go_wp2_with fail
  refine HL.out.mono ?_
  rintro e w' ⟨rfl, rfl⟩
  go_wp2
  go_returns
  exact ⟨rfl, rfl⟩
theorem wway_nil (i : Int) (w : World) : Calls Tryz.prog 38 #[.pointer none, .int .i64 i] w fun e w' => e = .returned (.tuple #[.slice none 0 0, .bool false]) ∧ w' = w := by
  go_enter Tryz.func38, Tryz.ntmps38
  go_wp2_with fail
  refine (whas_nil i w).mono ?_
  rintro e w' ⟨rfl, rfl⟩
  go_wp2
  go_returns
  exact ⟨rfl, rfl⟩
theorem wcount_nil (i p : Int) (w : World) : Calls Tryz.prog 41 #[.pointer none, .int .i64 i, .int .i64 p] w fun e w' => e = .returned (.int .i64 0) ∧ w' = w := by
  go_enter Tryz.func41, Tryz.ntmps41
  go_wp2_with fail
  refine (wlen_nil w).mono ?_
  rintro e w' ⟨rfl, rfl⟩
  rename World => w
  go_wp2_with fail
  go_loopw [7, 11] (fun nv iv wr => nv = .int .i64 0 ∧ iv = .int .i64 0 ∧ wr = w) (fun _ _ _ => 0)
  case atStart => exact ⟨rfl, rfl, rfl⟩
  case round =>
    obtain ⟨rfl, rfl, rfl⟩ := hrel
    go_wp2
    go_returns
    exact ⟨rfl, rfl⟩
theorem wapart_nil (i k : Int) (w : World) : Calls Tryz.prog 42 #[.pointer none, .int .i64 i, .int .i64 k] w fun e w' => e = .returned (.int .i64 (-1)) ∧ w' = w := by
  go_enter Tryz.func42, Tryz.ntmps42
  go_wp2_with fail
  refine (whas_nil i w).mono ?_
  rintro e w' ⟨rfl, rfl⟩
  go_wp2
  go_returns
  exact ⟨rfl, rfl⟩
theorem wsame_nil (i : Int) (w : World) : Calls Tryz.prog 43 #[.pointer none, .int .i64 i] w fun e w' => e = .returned (.int .i64 0) ∧ w' = w := by
  go_enter Tryz.func43, Tryz.ntmps43
  go_wp2_with fail
  refine (whas_nil i w).mono ?_
  rintro e w' ⟨rfl, rfl⟩
  go_wp2
  go_returns
  exact ⟨rfl, rfl⟩
theorem New_nil (s : ByteArray) (most limit : Int) (w : World) : Calls Tryz.prog 37 #[.pointer none, .string s, .int .i64 most, .int .i64 limit] w fun e w' => e = .returned (.tuple #[.pointer none, .int .i64 1]) ∧ w' = w := by
  go_enter Tryz.func37, Tryz.ntmps37
  go_wp2
  go_returns
  exact ⟨rfl, rfl⟩
theorem New_many (b : Nat) (s : ByteArray) (limit : Int) (w : World) : Calls Tryz.prog 37 #[cptr b, .string s, .int .i64 10001, .int .i64 limit] w fun e w' => e = .returned (.tuple #[.pointer none, .int .i64 1]) ∧ w' = w := by
  go_enter Tryz.func37, Tryz.ntmps37
  go_wp2
  go_returns
  exact ⟨rfl, rfl⟩
theorem New_less (b : Nat) (s : ByteArray) (limit : Int) (w : World) : Calls Tryz.prog 37 #[cptr b, .string s, .int .i64 (-1), .int .i64 limit] w fun e w' => e = .returned (.tuple #[.pointer none, .int .i64 1]) ∧ w' = w := by
  go_enter Tryz.func37, Tryz.ntmps37
  go_wp2
  go_returns
  exact ⟨rfl, rfl⟩
/-- Where a way lies: its row, and the cell that holds it. -/
theorem ListAt.way {w : World} {b : Nat} {l : List (List Nat)} {z : Bool} (h : ListAt w b l z) {i : Nat} {p : Nat} {xs : List Nat} (hi : l[i]? = some (p :: xs)) :
    ∃ g G cap c0, b < w.heap.size ∧ w.cell? ⟨b, 0, none⟩ = some (.slice (some ⟨G, 0, none⟩) l.length c0) ∧ w.cell? ⟨G, i, none⟩ = some (.slice (some ⟨g, 0, none⟩) (xs.length + 1) cap) ∧ G < w.heap.size ∧ g < w.heap.size ∧
      ∀ j q, (p :: xs)[j]? = some q → w.cell? ⟨g, j, none⟩ = some (.int .i64 ((q : Nat) : Int)) := by
  obtain ⟨lv, vs, rest, S, h1, h2, h3⟩ := h
  obtain ⟨v, hv, hw⟩ := WaysAt.get l vs i _ h3 hi
  have hil := (List.getElem?_eq_some_iff.1 hi).1
  have c0 := h1.cell 0
  simp only [List.getElem?_cons_zero] at c0
  rcases h2.2 with ⟨rfl, h0⟩ | ⟨G, c, cur, rfl, _, hG, _⟩
  · omega
  · rcases hw.1.2 with ⟨rfl, h0⟩ | ⟨g, cap, cur', rfl, _, hg, _⟩
    · simp at h0
    · exact ⟨g, G, cap, c, h1.lt, c0, own_cell1 h2 i _ hv, (Array.getElem?_eq_some_iff.1 hG).1, (Array.getElem?_eq_some_iff.1 hg).1, fun j q hj => own_cell1 hw.1 j _ (by rw [List.getElem?_map, hj]; rfl)⟩
set_option maxHeartbeats 2000000 in
theorem wway_at {w : World} {b : Nat} {l : List (List Nat)} {z : Bool} (h : ListAt w b l z) {i : Nat} {p : Nat} {xs : List Nat} (hi : l[i]? = some (p :: xs)) (hx : xs.length ≤ 1000000) :
    Calls Tryz.prog 38 #[cptr b, .int .i64 ((i : Nat) : Int)] w fun e w' => (∃ v, e = .returned (.tuple #[v, .bool true]) ∧ w'.ownsRow w.heap.size 3 1 v (xs.length + 1) (natsV (p :: xs))) ∧ Below w.heap.size w w' := by
  have hil := (List.getElem?_eq_some_iff.1 hi).1
  have HH := Lib.hid (whas_at h i hil)
  obtain ⟨g, G, cap, c0, hb, e0, e1, hG, hg, hc⟩ := h.way hi
  have hz : ((p :: xs).map fun q => ((q : Nat) : Int)).length = xs.length + 1 := by simp
  have HC := Lib.hid (Tryz.slices_Clone_int g 0 (xs.length + 1) cap ((p :: xs).map fun q => ((q : Nat) : Int)) w (by omega) (by omega) (fun j hj => by
    rw [hz] at hj
    have := hc j (p :: xs)[j] (List.getElem?_eq_getElem (by simpa using hj))
    have e : ((p :: xs).map fun q => ((q : Nat) : Int)).getD j 0 = (((p :: xs)[j] : Nat) : Int) := by
      rw [List.getD_eq_getElem?_getD, List.getElem?_map, List.getElem?_eq_getElem (by simpa using hj)]
      rfl
    rw [Nat.zero_add, this, e]))
  have h0 : 0 ≤ ((i : Nat) : Int) := by omega
  have h1 : ((i : Nat) : Int) < ((l.length : Nat) : Int) := by omega
  clear hc h hi hz
  go_enter Tryz.func38, Tryz.ntmps38
  go_wp2_with fail
  refine HH.out.mono ?_
  rintro e w' ⟨rfl, rfl⟩
  rename World => w
  go_wp2_with fail
  refine HC.out.mono ?_
  rintro e w2 ⟨v, rfl, hown, -, hb2⟩
  have HO := Lib.hid hown
  have HB := Lib.hid hb2
  clear hown hb2 e0 e1
  go_wp2
  go_returns
  refine ⟨⟨v, rfl, ?_⟩, HB.out⟩
  have := HO.out
  rw [List.take_of_length_le (by simp)] at this
  rwa [natsV_int]
set_option maxHeartbeats 2000000 in
/-- Two ways that differ at once. -/
theorem wapart_at {w : World} {b : Nat} {l : List (List Nat)} {z : Bool} (h : ListAt w b l z) {i k p q : Nat} {xs ys : List Nat} (hi : l[i]? = some (p :: xs)) (hk : l[k]? = some (q :: ys)) (hne : q ≠ p) :
    Calls Tryz.prog 42 #[cptr b, .int .i64 ((i : Nat) : Int), .int .i64 ((k : Nat) : Int)] w fun e w' => e = .returned (.int .i64 0) ∧ w' = w := by
  have hil := (List.getElem?_eq_some_iff.1 hi).1
  have hkl := (List.getElem?_eq_some_iff.1 hk).1
  have HH := Lib.hid (whas_at h i hil)
  have HK := Lib.hid (whas_at h k hkl)
  obtain ⟨g, G, cap, c0, hb, e0, e1, hG, hg, hc⟩ := h.way hi
  obtain ⟨g', G', cap', c0', hb', e0', e1', hG', hg', hc'⟩ := h.way hk
  have hGG : G' = G := by
    rw [e0] at e0'
    injection e0' with e0'
    injection e0' with e0'
    injection e0' with e0'
    injection e0' with e0'
    exact e0'.symm
  subst hGG
  have d0 := hc 0 p rfl
  have d1 := hc' 0 q rfl
  have h0 : 0 ≤ ((i : Nat) : Int) := by omega
  have h1 : ((i : Nat) : Int) < ((l.length : Nat) : Int) := by omega
  have h2 : 0 ≤ ((k : Nat) : Int) := by omega
  have h3 : ((k : Nat) : Int) < ((l.length : Nat) : Int) := by omega
  have hq : (((q : Nat) : Int) != ((p : Nat) : Int)) = true := by rw [bne_iff_ne]; omega
  clear hc hc' h hi hk e0' hne
  go_enter Tryz.func42, Tryz.ntmps42
  go_wp2_with fail
  refine HH.out.mono ?_
  rintro e w' ⟨rfl, rfl⟩
  rename World => w
  go_wp2_with fail
  refine HK.out.mono ?_
  rintro e w' ⟨rfl, rfl⟩
  rename World => w
  go_wp2_with fail
  go_loopw [27] (fun iv wr => iv = .int .i64 0 ∧ wr = w) (fun _ _ => 0)
  case atStart => exact ⟨rfl, rfl⟩
  case round =>
    obtain ⟨rfl, rfl⟩ := hrel
    go_wp2
    go_returns
    exact ⟨rfl, rfl⟩
end Go.Proofs.YtpiimcbbgalhfaaGreatDoor
/- WaysNone: the walk. -/
namespace Go.Proofs.YtpiimcbbgalhfaaGreatDoor
set_option maxRecDepth 100000
open Go.RowKit
def awake13S : ByteArray := { data := #[97, 124, 97] }
def awake13T : Tree := .mk 5 noSet 0 0 false [.mk 1 (oneM 97) 0 0 false [] 0 1, .mk 1 (oneM 97) 0 0 false [] 2 3] 0 3
theorem awake13_parse : parseB awake13S = .ok awake13T 3 := by rfl
def awake13C : CT := .alt (.set (oneM 97)) (.set (oneM 97))
theorem awake13_core : wrapC 0 (coreT awake13T) = awake13C := by rfl
theorem awake13_size : sizeM awake13T 0 = 3 := by rfl
theorem awake13_run : runF [97] 10 100 8 ⟨[], 0, false, [⟨0, [], [.fresh awake13C 0]⟩]⟩ = some ⟨[[0], [1]], 2, false, []⟩ := by rfl
def star13S : ByteArray := { data := #[97, 42] }
def star13T : Tree := .mk 6 noSet 0 (-1) false [.mk 1 (oneM 97) 0 0 false [] 0 1] 0 2
theorem star13_parse : parseB star13S = .ok star13T 2 := by rfl
theorem star13_size : sizeM star13T 0 = 2 := by rfl
theorem cparse_ok {s : ByteArray} {n : Tree} {j : Nat} (hp : parseB s = .ok n j) (hz : ¬4096 < sizeM n 0) (w : World) (hT : TabOk w) :
    Calls Tryz.prog 24 #[.string s, .int .i64 0] w fun v w' => (∃ c, v = .returned (.tuple #[cptr c, .int .i64 0, .int .i64 0]) ∧ CoreAt w' (From w) (wrapC 0 (coreT n)) c) ∧ Below w.heap.size w w' := by
  refine (cparse_at s 0 w hT).mono ?_
  rintro v w' ⟨h, hb⟩
  unfold CoreIs at h
  rw [if_pos (by omega), hp] at h
  simp only [] at h
  rw [if_neg hz] at h
  exact ⟨h, hb⟩
theorem own_one {w : World} {B n : Nat} {e : TypeId} {v u : Value} {xs : List Value} (h : w.ownsRow B e 1 v (n + 1) (u :: xs)) : ∃ g c, v = .slice (some ⟨g, 0, none⟩) (n + 1) c ∧ w.cell? ⟨g, 0, none⟩ = some u ∧ g < w.heap.size := by
  rcases h.2 with ⟨rfl, h0⟩ | ⟨g, cap, cur, rfl, _, hg, _⟩
  · omega
  · exact ⟨g, cap, rfl, own_cell1 h 0 u rfl, (Array.getElem?_eq_some_iff.1 hg).1⟩
set_option maxHeartbeats 4000000 in
theorem awake13_at (w : World) (hT : TabOk w) :
    Calls Tryz.prog 44 #[] w fun e w' => e = .returned (.bool true) ∧ Below w.heap.size w w' := by
  have HP := Lib.hid (cparse_ok awake13_parse (by rw [awake13_size]; omega) w hT)
  rw [awake13_core] at HP
  clear hT
  go_enter Tryz.func44, Tryz.ntmps44
  go_wp2_with fail
  refine HP.out.mono ?_
  rintro v w1 ⟨⟨c, rfl, hc⟩, hb1⟩
  have HN := Lib.hid (New_at { data := #[97] } 10 100 8 _ hc (by decide) (by omega) (by omega) (by decide) awake13_run (by omega))
  have HB1 := Lib.hid hb1
  clear hc hb1
  go_wp2_with fail
  refine HN.out.mono ?_
  rintro v w2 ⟨⟨b, rfl, hl⟩, hb2⟩
  have HB2 := Lib.hid (HB1.out.trans (hb2.mono HB1.out.size))
  have HW0 := Lib.hid (wway_at (i := 0) (p := 0) (xs := []) hl rfl (by simp))
  have HL2 := Lib.hid hl
  clear hb2 hl
  go_wp2_with fail
  refine HW0.out.mono ?_
  rintro e w3 ⟨⟨v3, rfl, ho3⟩, hb3⟩
  have HB3 := Lib.hid (HB2.out.trans (hb3.mono HB2.out.size))
  have HL3 := Lib.hid (HL2.out.below hb3)
  have HO3 := Lib.hid ho3
  have HW1 := Lib.hid (wway_at (i := 1) (p := 1) (xs := []) HL3.out rfl (by simp))
  clear hb3 ho3
  go_wp2_with fail
  refine HW1.out.mono ?_
  rintro e w4 ⟨⟨v4, rfl, ho4⟩, hb4⟩
  have HB4 := Lib.hid (HB3.out.trans (hb4.mono HB3.out.size))
  have hl4 := HL3.out.below hb4
  have ho3' := own_below HO3.out hb4
  obtain ⟨g3, c3, rfl, d3, hg3⟩ := own_one ho3'
  obtain ⟨g4, c4, rfl, d4, hg4⟩ := own_one ho4
  have HLN := Lib.hid (wlen_at hl4)
  have HWH := Lib.hid (wwhole_at hl4)
  have HAP := Lib.hid (wapart_at (i := 0) (k := 1) (p := 0) (q := 1) (xs := []) (ys := []) hl4 rfl rfl (by decide))
  clear hl4 ho3' ho4 hb4
  go_wp2_with fail
  refine HLN.out.mono ?_
  rintro e w5 ⟨rfl, rfl⟩
  rename World => w5
  go_wp2_with fail
  refine HWH.out.mono ?_
  rintro e w6 ⟨rfl, rfl⟩
  rename World => w6
  go_wp2_with fail
  refine HAP.out.mono ?_
  rintro e w7 ⟨rfl, rfl⟩
  rename World => w7
  go_wp2
  go_returns
  exact ⟨rfl, HB4.out⟩
set_option maxHeartbeats 4000000 in
theorem waysnone_law (i k : Int) (w : World) (hT : TabOk w) :
    Calls Tryz.prog 7 #[.int .i64 i, .int .i64 k] w fun e w' => e = .returned (.bool true) ∧ Below w.heap.size w w' := by
  have HP := Lib.hid (cparse_ok star13_parse (by rw [star13_size]; omega) w hT)
  have HA := Lib.hid (fun W (hW : Below w.heap.size w W) => awake13_at W (hT.below hW))
  clear hT
  go_enter Tryz.func7, Tryz.ntmps7
  go_wp2_with fail
  refine HP.out.mono ?_
  rintro v w1 ⟨⟨c, rfl, -⟩, hb1⟩
  have HA1 := Lib.hid (HA.out w1 hb1)
  have HB1 := Lib.hid hb1
  clear hb1
  go_wp2_with fail
  refine (New_nil _ _ _ w1).mono ?_
  rintro v w2 ⟨rfl, rfl⟩
  rename World => w1
  go_wp2_with fail
  refine (New_many _ _ _ w1).mono ?_
  rintro v w2 ⟨rfl, rfl⟩
  rename World => w1
  go_wp2_with fail
  refine (New_less _ _ _ w1).mono ?_
  rintro v w2 ⟨rfl, rfl⟩
  rename World => w1
  go_wp2_with fail
  refine (wway_nil _ w1).mono ?_
  rintro v w2 ⟨rfl, rfl⟩
  rename World => w1
  go_wp2_with fail
  refine (wlen_nil w1).mono ?_
  rintro v w2 ⟨rfl, rfl⟩
  rename World => w1
  go_wp2_with fail
  refine (wwhole_nil w1).mono ?_
  rintro v w2 ⟨rfl, rfl⟩
  rename World => w1
  go_wp2_with fail
  refine (wcount_nil _ _ w1).mono ?_
  rintro v w2 ⟨rfl, rfl⟩
  rename World => w1
  go_wp2_with fail
  refine (wapart_nil _ _ w1).mono ?_
  rintro v w2 ⟨rfl, rfl⟩
  rename World => w1
  go_wp2_with fail
  refine (wsame_nil _ w1).mono ?_
  rintro v w2 ⟨rfl, rfl⟩
  rename World => w1
  go_wp2_with fail
  refine HA1.out.mono ?_
  rintro v w2 ⟨rfl, hb2⟩
  go_wp2
  go_returns
  exact ⟨rfl, HB1.out.trans (hb2.mono HB1.out.size)⟩
end Go.Proofs.YtpiimcbbgalhfaaGreatDoor
