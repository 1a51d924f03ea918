/- The reference of layer 6: alt. -/
import Derived.Test.YtckoebfmoggeoaaDoorBt
import Derived.Test.YtckoebfmoggeoaaDoorBu
namespace Go.Proofs.YtckoebfmoggeoaaDoor
set_option maxRecDepth 100000
open Go.RowKit
/-- Where the loop of alt stands. -/
def RAltRun (T : List Tk) (size n d j : Nat) (L : List Tree) (l : List Tree) (dq : Int) (a q : Nat) : Prop := (q ≤ j ∧ AltAt T size n d l a q L j ∧ dq = depD T a q) ∨ (q = j + 1 ∧ l = L ∧ dq = 0 ∧ a = j + 1)
set_option maxHeartbeats 16000000 in
theorem ralt_step {o : Option Addr} {c : Nat} {T : List Tk} {size n : Nat} (h5 : kinds5 T) (hs : size ≤ 1048576) (hrec : RAltOk T size n o c) : RAltOk T size (n + 1) o c := by
  intro d i j t w hr hi hn h
  have hlen := h.len
  obtain ⟨L, haa, hLp, hLt⟩ := alt_run hr hi hn
  obtain ⟨_, _, _, hik, hkj, hjl, -⟩ := haa.inside
  have hij : i ≤ j := by omega
  have HH := Lib.hid h
  have H5 := Lib.hid h5
  have HRC := Lib.hid hrec
  have HL := Lib.hid hLt
  have HAA := Lib.hid haa
  have st := (St.nil w).alloc rfl zeroN 32
  have hz1 : (w.alloc (.cells zeroN.toArray 32)).heap.size = w.heap.size + 1 := by simp
  clear h h5 hrec hr haa hLt hik hkj
  go_enter Tryd.func28, Tryd.ntmps28
  go_upto_region 1 with fail
  generalize w.alloc _ = w1 at *
  have HZ1 := Lib.hid hz1
  clear hz1
  go_wp2_with fail
  go_loopw [9, 10, 11, 12] (fun lv dv av iv wr => ∃ (q a : Nat) (dq : Int) (l : List Tree), i ≤ a ∧ a ≤ q ∧ q ≤ j + 1 ∧ iv = .int .i64 ((q : Nat) : Int) ∧ av = .int .i64 ((a : Nat) : Int) ∧ dv = .int .i64 dq ∧ Hid (RAltRun T size n d j L l dq a q) ∧ Hid (RowR w1 wr lv l) ∧ l.length ≤ a ∧ ((lv = .slice none 0 0 ∧ l.length = 0) ∨ ∃ g cc, lv = .slice (some ⟨g, 0, none⟩) l.length cc) ∧ St w wr [(w.heap.size, 32, zeroN)]) (fun _ _ _ iv _ => j + 2 - (intOf iv).toNat)
  case atStart => exact ⟨i, i, 0, [], Nat.le_refl _, Nat.le_refl _, by omega, rfl, rfl, rfl, Lib.hid (.inl ⟨hij, HAA.out, by rw [dep_self]⟩), Lib.hid (RowR.nil _ _), Nat.zero_le _, .inl ⟨rfl, rfl⟩, st⟩
  case round =>
    clear st
    obtain ⟨q, a, dq, l, hia, haq, hqj, rfl, rfl, rfl, HC, HRW, hlq, hlv, st⟩ := hrel
    by_cases hlt : q ≤ j
    · obtain ⟨hAA, hdq⟩ : AltAt T size n d l a q L j ∧ dq = depD T a q := by
        rcases HC.out with ⟨-, h1, h2⟩ | ⟨h, -⟩
        · exact ⟨h1, h2⟩
        · omega
      obtain ⟨nn, k, hcw, hqk, hkj, -, hev, hnb, hin, hnx, hend⟩ := hAA.inside
      have hfu := hAA.fuel
      have hal := hAA.al
      have HTR := Lib.hid (HH.out.below st.below)
      by_cases hqk2 : q < k
      · have hqj2 : q < j := by omega
        have hql : q < T.length := by omega
        obtain ⟨⟨x, f, tt⟩, hT⟩ : ∃ x, T[q]? = some x := ⟨_, List.getElem?_eq_getElem hql⟩
        obtain ⟨g, rfl, hg, hrow⟩ := HTR.out.row q x f tt hT
        have q0 := hrow 0 _ rfl
        rw [Nat.add_zero] at q0
        have hki := kind_some hT
        have hkd := H5.out q _ hT
        have h0 := hev.nn q haq hqk
        have h1 := hev.nn (q + 1) (by omega) (by omega)
        have hhi := dep_hi T a q
        have hs1 := dep_succ T haq
        rw [hki] at hs1
        simp only [] at hs1 hkd hki
        rw [hs1] at h1
        have HN4 := Lib.hid (show x.kind = 4 → 0 < dq from fun h => by rw [hdq]; exact hnb q haq hqk2 (by rw [hki, h]))
        rw [← hdq] at h0 h1 hhi hs1
        have HNX := Lib.hid (hin hqk2)
        have HS1 := Lib.hid hs1
        have HST := Lib.hid st
        clear hrow hT hki hin hnx hend hcw hev hnb hAA hdq hs1 HC st
        have HLV := Lib.hid hlv
        clear hlv
        generalize x.kind = kk at *
        have hcases : kk = 0 ∨ kk = 1 ∨ kk = 2 ∨ kk = 3 ∨ kk = 4 ∨ kk = 5 := by omega
        rcases hcases with rfl | rfl | rfl | rfl | rfl | rfl
        all_goals
          simp only [wtK] at h1
          try (have hnz : ((dq : Int) == 0) = false := by rw [beq_eq_false_iff_ne]; have := HN4.out rfl; omega)
          go_wp2
          go_roundw
          case rel => exact ⟨q + 1, a, _, l, hia, by omega, by omega, by go_num, rfl, rfl, Lib.hid (.inl ⟨hqj2, HNX.out, by rw [HS1.out]; simp [wtK]; try omega⟩), HRW, hlq, HLV.out, HST.out⟩
          case measure => first | (simp [intOf]; done) | (simp [intOf]; omega)
      · obtain rfl : q = k := by omega
        have hd0 : dq = 0 := by rw [hdq]; exact hev.dep
        subst hd0
        have HRCAT := Lib.hid (fun w' hb => rcat_at (w := w') (HTR.out.below hb) H5.out hs HRC.out hcw hal hfu : ∀ w', Below wr.heap.size wr w' → Calls Tryd.prog 42 #[.slice o T.length c, .int .i64 ((a : Nat) : Int), .int .i64 ((q : Nat) : Int), .int .i64 ((size : Nat) : Int)] w' (RNode w' nn))
        have HRS := Lib.hid HRW.out.own
        have hRl : w.heap.size < wr.heap.size := (st.get 0 rfl).lt
        have HST := Lib.hid st
        have hl20 : l.length ≤ 1048576 := by omega
        have HLV := Lib.hid hlv
        by_cases hqj2 : q < j
        · obtain ⟨hk4, hnxt⟩ := hnx hqj2
          have hql : q < T.length := by omega
          obtain ⟨⟨x, f, tt⟩, hT⟩ : ∃ x, T[q]? = some x := ⟨_, List.getElem?_eq_getElem hql⟩
          obtain ⟨g, rfl, hg, hrow⟩ := HTR.out.row q x f tt hT
          have q0 := hrow 0 _ rfl
          rw [Nat.add_zero] at q0
          have hx4 : x.kind = 4 := by rw [kind_some hT] at hk4; injection hk4
          rw [hx4] at q0
          have HNX := Lib.hid hnxt
          clear hrow hT hk4 hx4 hin hnx hend hcw hev hnb hAA hdq hlv HC st hnxt
          go_wp2_with (first
            | (go_at_call 42; refine (HRCAT.out _ (Below.refl _ _)).mono ?_; rintro e w4 ⟨cs1, rfl, hb4, href4⟩; obtain ⟨A1, c1, rfl, -, -⟩ := href4.node; obtain ⟨css, r1, r2, r11, r3⟩ := HRW.out.below hb4; have HO := Lib.hid r2; have HCS := Lib.hid (And.intro r1 (And.intro r11 r3)); have HREF4 := Lib.hid href4; have HST4 := Lib.hid (HST.out.below' hb4); have HB4 := Lib.hid hb4; have hw14 : w1.heap.size ≤ w4.heap.size := (by have := hb4.size; have := HZ1.out; omega); have hwr4 := hb4.size; clear r1 r2 r3 r11 href4 hb4)
            | (at_builtin; refine append_far rfl (.tmp 62) (.tmp 68) 30 rfl w1.heap.size 32 11 104 elem_rnode _ _ _ rfl HO.out (nodeL nn.kind nn.set nn.lo nn.hi nn.lazy (.slice A1 nn.kids.length c1) nn.f nn.t) rfl rfl HREF4.out.one ?ha1 ?ha2 ?ha3 ?ha4; (case ha1 => omega); (case ha2 => omega); (case ha3 => omega); intro g5 cap5 w5 hown5 hmv; have HO5 := Lib.hid hown5; have HM := Lib.hid hmv; clear hown5 hmv))
          have hst5 := HST4.out.moved1 HM.out (fun k hk e he => by
            have := (HRS.out k hk).1
            have := HZ1.out
            rw [List.mem_singleton.1 he]
            simp only []
            omega) (fun k hk => by have := (HRS.out k hk).1; have := HZ1.out; omega)
          have hrow5 := RowR.snoc (w0 := w1) (w1 := wr) HCS.out.1 HCS.out.2.1 HCS.out.2.2 (fun k hk => (HRS.out k hk).2) (by have := HZ1.out; omega) HREF4.out HO5.out HM.out
          go_roundw
          case rel => exact ⟨q + 1, q + 1, 0, l ++ [nn], by omega, by omega, by omega, by go_num, by go_num, rfl, Lib.hid (.inl ⟨by omega, HNX.out, by rw [dep_self]⟩), Lib.hid hrow5, (by simp only [List.length_append, List.length_singleton]; omega), .inr ⟨g5, cap5, by simp⟩, hst5⟩
          case measure => first | (simp [intOf]; done) | (simp [intOf]; omega)
        · obtain rfl : q = j := by omega
          have HE := Lib.hid (hend rfl)
          clear hin hnx hend hcw hev hnb hAA hdq hlv HC st
          go_wp2_with (first
            | (go_at_call 42; refine (HRCAT.out _ (Below.refl _ _)).mono ?_; rintro e w4 ⟨cs1, rfl, hb4, href4⟩; obtain ⟨A1, c1, rfl, -, -⟩ := href4.node; obtain ⟨css, r1, r2, r11, r3⟩ := HRW.out.below hb4; have HO := Lib.hid r2; have HCS := Lib.hid (And.intro r1 (And.intro r11 r3)); have HREF4 := Lib.hid href4; have HST4 := Lib.hid (HST.out.below' hb4); have HB4 := Lib.hid hb4; have hw14 : w1.heap.size ≤ w4.heap.size := (by have := hb4.size; have := HZ1.out; omega); have hwr4 := hb4.size; clear r1 r2 r3 r11 href4 hb4)
            | (at_builtin; refine append_far rfl (.tmp 62) (.tmp 68) 30 rfl w1.heap.size 32 11 104 elem_rnode _ _ _ rfl HO.out (nodeL nn.kind nn.set nn.lo nn.hi nn.lazy (.slice A1 nn.kids.length c1) nn.f nn.t) rfl rfl HREF4.out.one ?hb1 ?hb2 ?hb3 ?hb4; (case hb1 => omega); (case hb2 => omega); (case hb3 => omega); intro g5 cap5 w5 hown5 hmv; have HO5 := Lib.hid hown5; have HM := Lib.hid hmv; clear hown5 hmv))
          have hst5 := HST4.out.moved1 HM.out (fun k hk e he => by
            have := (HRS.out k hk).1
            have := HZ1.out
            rw [List.mem_singleton.1 he]
            simp only []
            omega) (fun k hk => by have := (HRS.out k hk).1; have := HZ1.out; omega)
          have hrow5 := RowR.snoc (w0 := w1) (w1 := wr) HCS.out.1 HCS.out.2.1 HCS.out.2.2 (fun k hk => (HRS.out k hk).2) (by have := HZ1.out; omega) HREF4.out HO5.out HM.out
          go_roundw
          case rel => exact ⟨q + 1, q + 1, 0, l ++ [nn], by omega, by omega, by omega, by go_num, by go_num, rfl, Lib.hid (.inr ⟨rfl, HE.out.symm, rfl, rfl⟩), Lib.hid hrow5, (by simp only [List.length_append, List.length_singleton]; omega), .inr ⟨g5, cap5, by simp⟩, hst5⟩
          case measure => first | (simp [intOf]; done) | (simp [intOf]; omega)
    · obtain rfl : q = j + 1 := by omega
      obtain ⟨rfl, rfl⟩ : l = L ∧ a = j + 1 := by
        rcases HC.out with ⟨h, -⟩ | ⟨-, h1, -, h2⟩
        · omega
        · exact ⟨h1, h2⟩
      have hl0 : ¬ l.length = 0 := by omega
      have hRw : w1.heap.size ≤ wr.heap.size := by have := HZ1.out; have := (st.get 0 rfl).lt; omega
      obtain ⟨g, cc, rfl⟩ : ∃ g cc, u9 = .slice (some ⟨g, 0, none⟩) l.length cc := by
        rcases hlv with ⟨-, h⟩ | h
        · exact absurd h hl0
        · exact h
      have HT0 := HL
      have hl0i : (((l.length : Nat) : Int) == 0) = false := by rw [beq_eq_false_iff_ne]; omega
      obtain ⟨-, hgw, hgl, css, hcl, hcells, href⟩ := HRW.out.cells
      obtain ⟨⟨v0, v1, v2, v3, v4, v5, v6, v7, v8, v9, v10⟩, r0, r1, r2, r3, r4, r5, r6, r7, r8, r9, r10⟩ := (st.get 0 rfl).eleven
      have hR1 : w.heap.size < w1.heap.size := by have := HZ1.out; omega
      have HST := Lib.hid st
      obtain ⟨n0, hn0⟩ : ∃ n0, l[0]? = some n0 := ⟨_, List.getElem?_eq_getElem (by omega)⟩
      obtain ⟨c0, hc0⟩ : ∃ c0, css[0]? = some c0 := ⟨_, List.getElem?_eq_getElem (by omega)⟩
      have ht0 := href 0 n0 c0 hn0 hc0
      have hcell0 := hcells 0 c0 hc0
      by_cases hl1 : l.length = 1
      · have hle : l = [n0] := by
          match l, hl1, hn0 with
          | [a], _, h => injection h with h; rw [h]
        obtain ⟨A0, cc0, rfl, -, -⟩ := ht0.node
        have q0 := hcell0 0 _ rfl
        have q1 := hcell0 1 _ rfl
        have q2 := hcell0 2 _ rfl
        have q3 := hcell0 3 _ rfl
        have q4 := hcell0 4 _ rfl
        have q5 := hcell0 5 _ rfl
        have q6 := hcell0 6 _ rfl
        have q7 := hcell0 7 _ rfl
        have q8 := hcell0 8 _ rfl
        have q9 := hcell0 9 _ rfl
        have q10 := hcell0 10 _ rfl
        have HREF := Lib.hid ht0
        have HT1 := Lib.hid (show t = n0 by rw [HT0.out, hle]; rfl)
        simp only [Nat.zero_mul, Nat.zero_add] at q0 q1 q2 q3 q4 q5 q6 q7 q8 q9 q10
        clear hcell0 hcells href hn0 hc0 hcl HRW hlv ht0 st
        clear hle
        rw [hl1] at *
        go_wp2_with fail
        have s5 := HST.out.all 0 rfl (nodeL n0.kind n0.set n0.lo n0.hi n0.lazy (.slice A0 n0.kids.length cc0) n0.f n0.t) rfl
        have g5 := only_puts_self (nodeL n0.kind n0.set n0.lo n0.hi n0.lazy (.slice A0 n0.kids.length cc0) n0.f n0.t) 0 wr wr (only_refl wr w.heap.size)
        simp only [putCells] at s5 g5
        have ht5 := (HREF.out.only g5 (fun k (hk : w1.heap.size ≤ k) => by omega)).mono (S' := fun q => w.heap.size ≤ q) (fun k (hk : w1.heap.size ≤ k) _ => by omega)
        refine ret_load (b := w.heap.size) rfl rfl (load_rnode (s5.get 0 rfl) rfl) rfl ⟨_, rfl, s5.below, ?_⟩
        rw [HT1.out]
        exact ht5
      · obtain ⟨n9, hn9⟩ : ∃ n9, l[l.length - 1]? = some n9 := ⟨_, List.getElem?_eq_getElem (by omega)⟩
        obtain ⟨c9, hc9⟩ : ∃ c9, css[l.length - 1]? = some c9 := ⟨_, List.getElem?_eq_getElem (by omega)⟩
        have ht9 := href _ n9 c9 hn9 hc9
        have hcell9 := hcells _ c9 hc9
        obtain ⟨A0, cc0, rfl, -, -⟩ := ht0.node
        obtain ⟨A9, cc9, rfl, -, -⟩ := ht9.node
        have q9 := hcell0 9 _ rfl
        have q10 := hcell9 10 _ rfl
        simp only [Nat.zero_mul, Nat.zero_add] at q9
        have HT1 := Lib.hid (show t = .mk 5 noSet 0 0 false l n0.f n9.t by
          rw [HT0.out]
          have hf : headT l = n0.f := by unfold headT; rw [List.head?_eq_getElem?, hn0]
          have htl : lastT l = n9.t := by unfold lastT; rw [List.getLast?_eq_getElem?, hn9]
          unfold manyT
          split
          · simp at hl1
          · rw [hf, htl])
        have hl1i : (((l.length : Nat) : Int) == 1) = false := by rw [beq_eq_false_iff_ne]; omega
        have hw1 : IntKind.i64.wrap (((l.length : Nat) : Int) - 1) = ((l.length : Nat) : Int) - 1 := IntWalk.i64_in _ (by omega)
        have hw2 : (((l.length : Nat) : Int) - 1).toNat = l.length - 1 := by omega
        have hw3 : 1 ≤ ((l.length : Nat) : Int) := by omega
        have hw4 : ((l.length : Nat) : Int) - 1 < ((l.length : Nat) : Int) := by omega
        have hw5 : 0 < l.length := by omega
        have hw6 : l.length - 1 < l.length := by omega
        have hll : l.length ≤ 1048577 := by omega
        have HRW2 := HRW
        clear hcell0 hcells href hn0 hc0 hcl HRW hlv ht0 st hcell9 ht9 hn9 hc9
        go_wp2_with fail
        go_region
        all_goals
          go_wp2_with fail
          have s5 := (HST.out.all 0 rfl [.int .i64 5, .int .u64 0, .int .u64 0, .int .u64 0, .int .u64 0, .int .i64 0, .int .i64 0, .bool false, .slice (some ⟨g, 0, none⟩) l.length cc, .int .i64 ((n0.f : Nat) : Int), .int .i64 ((n9.t : Nat) : Int)] rfl).drew
          have g5 := only_puts_self [.int .i64 5, .int .u64 0, .int .u64 0, .int .u64 0, .int .u64 0, .int .i64 0, .int .i64 0, .bool false, .slice (some ⟨g, 0, none⟩) l.length cc, .int .i64 ((n0.f : Nat) : Int), .int .i64 ((n9.t : Nat) : Int)] 0 wr wr (only_refl wr w.heap.size)
          have hrow5 := HRW2.out.turn g5 hR1
          have hn5 := (RowR.node (k := 5) (f := n0.f) (t := n9.t) hll hrow5 ((Below.refl _ _).drew)).mono (S' := fun q => w.heap.size ≤ q) (fun k (hk : w1.heap.size ≤ k) _ => by omega)
          rw [nodeL_noset] at hn5
          simp only [putCells] at s5 hn5
          refine ret_load (b := w.heap.size) rfl rfl (load_rnode (s5.get 0 rfl) rfl) rfl ⟨_, rfl, s5.below, ?_⟩
          rw [HT1.out]
          exact hn5
theorem ralt_ok {o : Option Addr} {c : Nat} {T : List Tk} {size : Nat} (h5 : kinds5 T) (hs : size ≤ 1048576) : ∀ n, RAltOk T size n o c := by
  intro n
  induction n with
  | zero => intro d i j t w hr hi hn h; omega
  | succ n ih => exact ralt_step h5 hs ih
end Go.Proofs.YtckoebfmoggeoaaDoor
