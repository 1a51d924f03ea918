/- Scan: a pattern's tokens. -/
import Derived.Test.YtofhkgafgnldnaaDoorOne
import Derived.Test.YtofhkgafgnldnaaDoorTokL
import Derived.Deep.RegionLaw
import Derived.BigRegion
namespace Go.Proofs.YtofhkgafgnldnaaDoor
open Go.RowKit
/-- The cells of some tokens. -/
def toksC (l : List (Tok × Nat × Nat)) : List Value := l.flatMap fun p => tokL p.1 p.2.1 p.2.2
theorem toksC_snoc (l : List (Tok × Nat × Nat)) (p : Tok × Nat × Nat) : toksC (l ++ [p]) = toksC l ++ tokL p.1 p.2.1 p.2.2 := by simp [toksC]
theorem one_tok (x : Tok) (f t : Nat) : ∀ u ∈ tokL x f t, u.oneCell' = true := by
  intro u hu
  simp only [tokL, List.mem_cons, List.not_mem_nil, or_false] at hu
  rcases hu with rfl | rfl | rfl | rfl | rfl | rfl | rfl | rfl | rfl | rfl <;> rfl
theorem elem_tok : Elem Tryd.prog 23 35 10 80 := by
  obtain ⟨i, hi, h0, h1, h2⟩ := info_parts (by kernel_rfl : (Tryd.prog.info? 35).map (fun i => (i.zero, i.size, i.bytes)) = some (some (.agg #[.int .i64 0, .int .i64 0, .int .i64 0, .int .u64 0, .int .u64 0, .int .u64 0, .int .u64 0, .int .i64 0, .int .i64 0, .bool false]), 10, 80))
  exact ⟨i, _, Tryd.underlying23, hi, h0, h1, h2, rfl, by omega⟩
def scanFrom (t : List Nat) (i : Nat) (l : List (Tok × Nat × Nat)) : Res (List (Tok × Nat × Nat)) := scanLoop t (t.length + 1 - i) i l
theorem scan_fuel (t : List Nat) (hle : ∀ i x j, tokM t i = .ok x j → i < j) : ∀ (d i f : Nat) (l : List (Tok × Nat × Nat)), t.length - i < d → d ≤ f → scanLoop t f i l = scanLoop t d i l := by
  intro d
  induction d with
  | zero => intro i f l h; omega
  | succ d ih =>
    intro i f l h1 h2
    obtain ⟨f, rfl⟩ : ∃ g, f = g + 1 := ⟨f - 1, by omega⟩
    unfold scanLoop
    split
    · cases hs : tokM t i with
      | err j e => rfl
      | ok x j =>
        have := hle i x j hs
        exact ih j f _ (by omega) (by omega)
    · rfl
theorem scanFrom_end {t : List Nat} {i : Nat} (l : List (Tok × Nat × Nat)) (h : ¬i < t.length) (hi : i ≤ t.length) : scanFrom t i l = .ok l i := by
  unfold scanFrom
  rw [show t.length + 1 - i = 0 + 1 by omega]
  unfold scanLoop
  rw [if_neg h]
theorem scanFrom_next {t : List Nat} (hle : ∀ i x j, tokM t i = .ok x j → i < j) {i : Nat} (l : List (Tok × Nat × Nat)) (h : i < t.length) : scanFrom t i l = match tokM t i with | .err j e => .err j e | .ok x j => scanFrom t j (l ++ [(x, i, j)]) := by
  unfold scanFrom
  obtain ⟨f, hf⟩ : ∃ f, t.length + 1 - i = f + 1 := ⟨t.length - i, by omega⟩
  rw [hf]
  conv => lhs; unfold scanLoop
  rw [if_pos h]
  cases hs : tokM t i with
  | err j e => rfl
  | ok x j =>
    have := hle i x j hs
    have hj := (tokM_le hs).2
    dsimp only
    exact scan_fuel t hle _ j f _ (by omega) (by omega)
/-- 'v = append(v, x)' in a region that draws: v a row of the call's own, x's cells in a new block. -/
theorem step_append_one {P : Program} {ops : Array Oper} {o : Oper} {a : Act} {W : World} {K : Act → World → Prop} {Q : Exit → Act → World → Prop} {E : Prop} (hg : o.guard = none) (s x : Operand) (t : TypeId)
    (ho : o.op = .call { callee := .builtin .append, args := #[s, x], argTypes := #[t, t] }) (base : Nat) (e : TypeId) (size bytes : Nat) (he : Elem P t e size bytes)
    (v : Value) (n : Nat) (xs : List Value) (hs : a.eval s = v) (hown : W.ownsRow base e size v n xs) (news : List Value) (hx : a.eval x = .slice (some ⟨W.heap.size, 0, none⟩) 1 1)
    (hl : news.length = size) (h1 : ∀ u ∈ news, u.oneCell' = true) (h63 : n + 1 ≤ 9223372036854775807) (hbytes : (n + 1) * bytes ≤ 140737488355328) (hbase : base ≤ W.heap.size)
    (hK : ∀ v' w', w'.ownsRow base e size v' (n + 1) (xs ++ news) → Below base W w' → K (a.put o.dst v') w') :
    if Region.wanted o (yielded ops a.tmps) = true then Oper.wp P o a (W.alloc (.cells news.toArray e)) K Q else E := by
  have hw : Region.wanted o (yielded ops a.tmps) = true := by simp [Region.wanted, hg]
  rw [if_pos hw]
  obtain ⟨i, z, ht, hi, hz, hsize, hby, hzs, hsz⟩ := he
  refine wp_append_own _ s x t ho base e i z size bytes ht hi hz hsize hby hzs hsz v n xs hs (hown.alloc _) ⟨W.heap.size, 0, none⟩ 1 1 news hx (by omega) ?_ h1 h63 hbytes (by simp; omega) ?_
  · intro j u hu
    rw [show (⟨W.heap.size, 0, none⟩ : Addr).add j = ⟨W.heap.size, j, none⟩ by unfold Addr.add; split <;> simp_all]
    rw [(Blk.new W news e).cell j, hu]
  · intro v' w' hown' hgr _
    refine hK v' w' hown' ?_
    exact ((Below.refl base W).alloc hbase _).grown hgr (by simp; omega) (fun k hk => ((hown.lt) k hk).1)
theorem below_turned {B g : Nat} {w0 w w' : World} (hb : Below B w0 w) (hg : w.grownBy w' (some g)) (hB : B ≤ g) (hBw : B ≤ w.heap.size) : Below B w0 w' :=
  ⟨hg.os.trans hb.os, hg.tape.trans hb.tape, hg.output.trans hb.output, Nat.le_trans hb.size hg.size, fun i hi => (hg.block i (Nat.lt_of_lt_of_le hi hBw) (by simp; omega)).trans (hb.block i hi)⟩
theorem own_turned {w w' : World} {base g : Nat} {e : TypeId} {size n : Nat} {v : Value} {xs : List Value} (h : w.ownsRow base e size v n xs) (hg : w.grownBy w' (some g)) (hlt : g < base) : w'.ownsRow base e size v n xs := by
  refine h.kept hg ?_
  cases hb : v.ownBlock with
  | none => exact .inl rfl
  | some k =>
    refine .inr fun e => ?_
    have := (h.lt k hb).1
    injection e with e
    omega
theorem own_lives {w w' : World} {base : Nat} {e : TypeId} {size n : Nat} {v : Value} {xs : List Value} (h : w.ownsRow base e size v n xs) (hb : Below w.heap.size w w') : w'.ownsRow base e size v n xs := own_below h hb
theorem tok_ok {r : Res Tok} {x : Tok} {j : Nat} (h : TokIs r x j 0) : r = .ok x j ∧ True := by
  cases r with
  | ok x' j' => obtain ⟨rfl, rfl, _⟩ := h; exact ⟨rfl, trivial⟩
  | err j' e' => obtain ⟨_, h2, h3⟩ := h; exact absurd h2.symm h3
theorem tok_err {r : Res Tok} {x : Tok} {j e : Nat} (h : TokIs r x j e) (he : e ≠ 0) : r = .err j e := by
  cases r with
  | ok x' j' => exact absurd h.2.2 he
  | err j' e' => obtain ⟨rfl, rfl, _⟩ := h; rfl
theorem scan_err {t : List Nat} {i j e : Nat} {L : List (Tok × Nat × Nat)} (h : scanM t = scanFrom t i L) (hi : i < t.length) (ht : tokM t i = .err j e) : scanM t = .err j e := by
  rw [h, scanFrom_next (fun _ _ _ h => (tokM_le h).1) L hi, ht]
theorem scan_ok {t : List Nat} {i j : Nat} {x : Tok} {L : List (Tok × Nat × Nat)} (h : scanM t = scanFrom t i L) (hi : i < t.length) (ht : tokM t i = .ok x j) : scanM t = scanFrom t j (L ++ [(x, i, j)]) := by
  rw [h, scanFrom_next (fun _ _ _ h => (tokM_le h).1) L hi, ht]
theorem own_form {w : World} {base size n : Nat} {e : TypeId} {v : Value} {xs : List Value} (h : w.ownsRow base e size v n xs) : (v = .slice none 0 0 ∧ n = 0) ∨ ∃ b c, v = .slice (some ⟨b, 0, none⟩) n c := by
  rcases h.2 with h | ⟨g, cap, cur, rfl, _⟩
  · exact .inl h
  · exact .inr ⟨g, cap, rfl⟩
theorem own_mono {w : World} {base base' size n : Nat} {e : TypeId} {v : Value} {xs : List Value} (h : w.ownsRow base e size v n xs) (hb : base' ≤ base) : w.ownsRow base' e size v n xs := by
  refine ⟨h.1, ?_⟩
  rcases h.2 with h | ⟨g, cap, cur, rfl, h1, h2⟩
  · exact .inl h
  · exact .inr ⟨g, cap, cur, rfl, Nat.le_trans hb h1, h2⟩
theorem own_other {w w' : World} {base size n g : Nat} {e : TypeId} {v : Value} {xs : List Value} (h : w.ownsRow base e size v n xs) (hg : w.grownBy w' (some g)) (hne : ∀ k, v.ownBlock = some k → k < g) : w'.ownsRow base e size v n xs := by
  refine h.kept hg ?_
  cases hb : v.ownBlock with
  | none => exact .inl rfl
  | some k =>
    refine .inr fun e => ?_
    have := hne k hb
    injection e with e
    omega
theorem own_some {w : World} {base : Nat} {e : TypeId} {size : Nat} {v : Value} {n : Nat} {xs : List Value} (h : w.ownsRow base e size v n xs) (hn : 0 < n) : ∃ g c, v = .slice (some ⟨g, 0, none⟩) n c := by
  rcases h.2 with ⟨_, h0⟩ | ⟨g, cap, cur, rfl, _⟩
  · omega
  · exact ⟨_, _, rfl⟩
theorem tab_far {w w' : World} {B : Nat} (h : TabOk w) (hb : Below B w w') (hB : 1 < B) : TabOk w' := by
  intro j hj
  rw [← h j hj]
  exact World.cell?_of_block (hb.block _ hB)
theorem own_drewN {base size n : Nat} {e : TypeId} {v : Value} {xs : List Value} : ∀ {w : World}, w.ownsRow base e size v n xs → ∀ k, (w.drewN k).ownsRow base e size v n xs := by
  intro w h k
  exact own_below h (below_drewN (Below.refl _ w) k)
/-- What Scan answers. -/
def ScanIs (w : World) (base : Nat) (s : ByteArray) (lv : Value) (n : Int) (e : Nat) : Prop :=
  if 1048576 < s.size then lv = .slice none 0 0 ∧ n = 0 ∧ e = 3
  else match scanM (bytesN s) with
    | .ok L _ => w.ownsRow base 35 10 lv L.length (toksC L) ∧ n = L.length ∧ e = 0
    | .err j k => lv = .slice none 0 0 ∧ n = ((j : Nat) : Int) ∧ e = k ∧ k ≠ 0
theorem tokM_fwd (t : List Nat) : ∀ i x j, tokM t i = .ok x j → i < j := fun _ _ _ h => (tokM_le h).1
set_option maxRecDepth 100000 in
set_option maxHeartbeats 2000000 in
theorem scan_at (s : ByteArray) (w : World) (hT : TabOk w) :
    Calls Tryd.prog 8 #[.string s] w fun v w' => ∃ lv n e, v = .returned (.tuple #[lv, .int .i64 n, .int .i64 ((e : Nat) : Int)]) ∧ ScanIs w' w.heap.size s lv n e ∧ Below w.heap.size w w' := by
  by_cases hbig : 1048576 < s.size
  · have HB := Lib.hid hbig
    go_enter Tryd.func8, Tryd.ntmps8
    go_wp2
    go_returns
    exact ⟨.slice none 0 0, 0, 3, rfl, by unfold ScanIs; rw [if_pos HB.out]; exact ⟨rfl, rfl, rfl⟩, Below.refl _ _⟩
  · have HB := Lib.hid hbig
    have htl := tab_lt hT
    have HT := Lib.hid hT
    clear hT
    go_enter Tryd.func8, Tryd.ntmps8
    go_upto_region 4 with fail
    have hblk := Blk.new w [.string s, .int .i64 0, .int .i64 0, .slice none 0 0] 51
    have hbel : Below w.heap.size w (w.alloc (.cells #[.string s, .int .i64 0, .int .i64 0, .slice none 0 0] 51)) := (Below.refl _ w).alloc (Nat.le_refl _) _
    have htab := HT.out.below hbel
    have hrd : Rdr (w.alloc (.cells #[.string s, .int .i64 0, .int .i64 0, .slice none 0 0] 51)) w.heap.size s 0 0 (.slice none 0 0) := ⟨hblk, htab, by omega, Nat.zero_le _, by omega⟩
    clear htab hblk
    generalize w.alloc _ = wa at *
    go_wp2_with fail
    go_loopw [] (fun wr => ∃ i lv L, Rdr wr w.heap.size s i 0 lv ∧ wr.ownsRow (w.heap.size + 1) 35 10 lv L.length (toksC L) ∧ Below w.heap.size w wr ∧ scanM (bytesN s) = scanFrom (bytesN s) i L ∧ L.length ≤ i) (fun wr => s.size - posOf wr w.heap.size)
    case atStart => exact ⟨0, _, [], hrd, World.ownsRow_nil _ _ _ _, hbel, rfl, Nat.le_refl 0⟩
    case round =>
      obtain ⟨i, lv, L, hr, hown, hbw, hsc, hL⟩ := hrel
      have HP := Lib.hid hr.pos
      have HS := Lib.hid hsc
      have HO := Lib.hid hown
      have hle := hr.le
      have hltb := hr.blk.lt
      clear hown hsc hrd hbel
      obtain ⟨c0, c1, c2, c3, f1, f2, f3⟩ := hr.cells
      by_cases hi : i < s.size
      · go_wp2_with fail
        refine (one_at hr hi).mono ?_
        rintro v w1 ⟨x, j, e, rfl, hr1, hg, hres⟩
        have HR := Lib.hid hres
        have HO1 := Lib.hid (own_turned HO.out hg (by omega))
        have hb1 := below_turned hbw hg (by omega) (by omega)
        have hlt1 := hr1.blk.lt
        clear hres c0 c1 c2 c3 f1 f2 f3 hr hg hbw
        unfold tokV
        go_upto_region 7 with fail
        have hK : Blk (w1.alloc (.cells #[.int .i64 ((x.kind : Nat) : Int), .int .i64 0, .int .i64 0, .int .u64 (word x.set 0), .int .u64 (word x.set 1), .int .u64 (word x.set 2), .int .u64 (word x.set 3), .int .i64 ((x.lo : Nat) : Int), .int .i64 x.hi, .bool x.lazy] 35)) w1.heap.size 35 (tokL x 0 0) := Blk.new w1 (tokL x 0 0) 35
        have hst : Below w1.heap.size w1 (w1.alloc (.cells #[.int .i64 ((x.kind : Nat) : Int), .int .i64 0, .int .i64 0, .int .u64 (word x.set 0), .int .u64 (word x.set 1), .int .u64 (word x.set 2), .int .u64 (word x.set 3), .int .i64 ((x.lo : Nat) : Int), .int .i64 x.hi, .bool x.lazy] 35)) := (Below.refl _ w1).alloc (Nat.le_refl _) _
        have hkn : w.heap.size < w1.heap.size := hlt1
        have hr2 := hr1.below hst
        have HO2 := Lib.hid (own_lives HO1.out hst)
        have HNB := Lib.hid (show ∀ k, lv.ownBlock = some k → k < w1.heap.size from fun k hk => (HO1.out.lt k hk).2)
        have hb2 := hb1.trans (hst.mono (by omega))
        clear hr1 HO1 hb1 hst
        generalize w1.alloc _ = w2 at *
        generalize w1.heap.size = g at *
        go_wp2_with fail
        refine (bad_at hr2).mono ?_
        rintro v w3 ⟨rfl, hb⟩
        have hr3 := hr2.below hb
        have hK3 := hK.below hb hK.lt
        have HO3 := Lib.hid (own_lives HO2.out hb)
        have hb3 := hb2.trans (hb.mono (by have := hr2.blk.lt; omega))
        clear hr2 hK HO2 hb hb2
        by_cases he : e = 0
        · subst he
          obtain ⟨htok, _⟩ := tok_ok HR.out
          have HT1 := Lib.hid htok
          have hij := tokM_fwd _ _ _ _ htok
          have HN := Lib.hid (scan_ok HS.out (by rw [bytesN_length]; exact hi) htok)
          clear htok
          rw [show decide ((0 : Nat) ≠ 0) = false from rfl]
          obtain ⟨c0, c1, c2, c3, f1, f2, f3⟩ := hr3.cells
          obtain ⟨⟨y0, y1, y2, y3, y4, y5, y6, y7, y8, y9⟩, k0, k1, k2, k3, k4, k5, k6, k7, k8, k9⟩ := hK3.ten
          have hne1 : g ≠ w.heap.size := by omega
          have hne2 : w.heap.size ≠ g := by omega
          go_wp2_with fail
          go_region
          have hK4 : Blk (((w3.setCell ⟨g, 1, none⟩ (.int .i64 ((i : Nat) : Int))).setCell ⟨g, 2, none⟩ (.int .i64 ((j : Nat) : Int))).drew) g 35 (tokL x i j) := ((hK3.set 1 _).set 2 _).drew
          have hgr : w3.grownBy (((w3.setCell ⟨g, 1, none⟩ (.int .i64 ((i : Nat) : Int))).setCell ⟨g, 2, none⟩ (.int .i64 ((j : Nat) : Int))).drew) (some g) := only_below (only_setCell (only_setCell (only_refl w3 g) 1 (.int .i64 ((i : Nat) : Int))) 2 (.int .i64 ((j : Nat) : Int))) (Below.refl _ _).drew
          have hr4 : Rdr (((w3.setCell ⟨g, 1, none⟩ (.int .i64 ((i : Nat) : Int))).setCell ⟨g, 2, none⟩ (.int .i64 ((j : Nat) : Int))).drew) w.heap.size s j 0 lv := (hr3.farPuts (g := g) (by omega) (by omega) [.int .i64 ((i : Nat) : Int), .int .i64 ((j : Nat) : Int)] 1).below (Below.refl _ _).drew
          have HO4 := Lib.hid (own_other HO3.out hgr HNB.out)
          have hb4 := below_turned hb3 hgr (by omega) (by have := hr3.blk.lt; omega)
          clear y0 y1 y2 y3 y4 y5 y6 y7 y8 y9 k0 k1 k2 k3 k4 k5 k6 k7 k8 k9 c0 c1 c2 c3 f1 f2 f3 hr3 hK3 HO3 hb3 hgr
          generalize World.drew _ = w4 at *
          obtain ⟨c0, c1, c2, c3, f1, f2, f3⟩ := hr4.cells
          obtain ⟨⟨y0, y1, y2, y3, y4, y5, y6, y7, y8, y9⟩, k0, k1, k2, k3, k4, k5, k6, k7, k8, k9⟩ := hK4.ten
          have HOd := Lib.hid HO4.out.drew
          have hlt4 := hr4.blk.lt
          go_wp2_with fail
          go_region_law (refine step_append_one rfl (.tmp 56) (.tmp 58) 23 rfl (w.heap.size + 1) 35 10 80 elem_tok _ _ _ (by simp [Act.eval]) HOd.out (tokL x i j) (by simp [Act.eval]) rfl (one_tok x i j) (by omega) (by omega) (by simp; omega) ?_; intro v5 w5 hown5 hb5; obtain ⟨b5, cap5, rfl⟩ := own_some hown5 (by omega); have hB5 := hr4.blk.drew.below hb5 (by omega); have q3 : w5.cell? ⟨w.heap.size, 3, none⟩ = some lv := hB5.cell 3; have p3 : w5.frozen? ⟨w.heap.size, 3, none⟩ = false := hB5.frozen 3)
          all_goals
            have hr6 : Rdr (w5.setCell ⟨w.heap.size, 3, none⟩ (.slice (some ⟨b5, 0, none⟩) (L.length + 1) cap5)) w.heap.size s j 0 (.slice (some ⟨b5, 0, none⟩) (L.length + 1) cap5) := ⟨hB5.set 3 _, (tab_far (hr4.tab.below (Below.refl _ _).drew) hb5 (by omega)).only (only_setCell (only_refl w5 w.heap.size) 3 _) (by omega), by omega, hr4.le, hr4.size⟩
            have HR6 := Lib.hid hr6
            have HJ := Lib.hid hr6.pos
            have HO6 := Lib.hid (own_turned hown5 (only_setCell (only_refl w5 w.heap.size) 3 (.slice (some ⟨b5, 0, none⟩) (L.length + 1) cap5)) (by omega))
            have HB6 := Lib.hid ((hb4.drew.trans (hb5.mono (by omega))).setCell (p := ⟨w.heap.size, 3, none⟩) (Nat.le_refl _) (.slice (some ⟨b5, 0, none⟩) (L.length + 1) cap5))
            clear hr6 hown5 hb5 hb4 hB5 hr4 c0 c1 c2 c3 f1 f2 f3 q3 p3
            go_wp2
            go_roundw
            case rel =>
              refine ⟨j, _, L ++ [(x, i, j)], HR6.out, ?_, HB6.out, HN.out, by simp; omega⟩
              rw [toksC_snoc]
              simpa using HO6.out
            case measure =>
              rw [HJ.out.1, HP.out.1]
              omega
        · rw [show decide (e ≠ 0) = true from decide_eq_true he]
          obtain ⟨c0, c1, c2, c3, f1, f2, f3⟩ := hr3.cells
          go_wp2_with fail
          go_quiet (fail)
          go_wp2
          go_returns
          refine ⟨.slice none 0 0, ((j : Nat) : Int), e, rfl, ?_, below_drewN hb3 _⟩
          unfold ScanIs
          rw [if_neg HB.out, scan_err HS.out (by rw [bytesN_length]; exact hi) (tok_err HR.out he)]
          exact ⟨rfl, rfl, rfl, he⟩
      · have hii : i = s.size := by omega
        rcases own_form HO.out with ⟨rfl, hz⟩ | ⟨b', cap, rfl⟩
        all_goals
        go_wp2_with fail
        go_quiet (fail)
        go_wp2
        go_returns
        refine ⟨_, ((L.length : Nat) : Int), 0, (by first | rfl | rw [hz]; rfl), ?_, below_drewN hbw _⟩
        unfold ScanIs
        rw [if_neg HB.out, HS.out, scanFrom_end L (by rw [bytesN_length]; exact hi) (by rw [bytesN_length]; exact hle)]
        exact ⟨(own_drewN (own_mono HO.out (by omega)) _), rfl, rfl⟩
end Go.Proofs.YtofhkgafgnldnaaDoor
