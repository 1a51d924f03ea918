/- Scan: a pattern's tokens. -/
import Derived.Test.YtofhkgafgnldnaaDoorBg
import Derived.Test.YtofhkgafgnldnaaDoorBb
import Derived.Deep.RegionLaw
import Derived.BigRegion
namespace Go.Proofs.YtofhkgafgnldnaaDoor
open Go.RowKit
/-- The cells of some tokens. -/
def toksC (l : List (Tok × Nat × Nat)) : List Value := l.flatMap fun p => tokL p.1 p.2.1 p.2.2
theorem toksC_snoc (l : List (Tok × Nat × Nat)) (p : Tok × Nat × Nat) : toksC (l ++ [p]) = toksC l ++ tokL p.1 p.2.1 p.2.2 := by simp [toksC]
theorem one_tok (x : Tok) (f t : Nat) : ∀ u ∈ tokL x f t, u.oneCell' = true := by
  intro u hu
  simp only [tokL, List.mem_cons, List.not_mem_nil, or_false] at hu
  rcases hu with rfl | rfl | rfl | rfl | rfl | rfl | rfl | rfl | rfl | rfl <;> rfl
theorem elem_tok : Elem Tryd.prog 23 35 10 80 := by
  obtain ⟨i, hi, h0, h1, h2⟩ := info_parts (by kernel_rfl : (Tryd.prog.info? 35).map (fun i => (i.zero, i.size, i.bytes)) = some (some (.agg #[.int .i64 0, .int .i64 0, .int .i64 0, .int .u64 0, .int .u64 0, .int .u64 0, .int .u64 0, .int .i64 0, .int .i64 0, .bool false]), 10, 80))
  exact ⟨i, _, Tryd.underlying23, hi, h0, h1, h2, rfl, by omega⟩
def scanFrom (t : List Nat) (i : Nat) (l : List (Tok × Nat × Nat)) : Res (List (Tok × Nat × Nat)) := scanLoop t (t.length + 1 - i) i l
theorem scan_fuel (t : List Nat) (hle : ∀ i x j, tokM t i = .ok x j → i < j) : ∀ (d i f : Nat) (l : List (Tok × Nat × Nat)), t.length - i < d → d ≤ f → scanLoop t f i l = scanLoop t d i l := by
  intro d
  induction d with
  | zero => intro i f l h; omega
  | succ d ih =>
    intro i f l h1 h2
    obtain ⟨f, rfl⟩ : ∃ g, f = g + 1 := ⟨f - 1, by omega⟩
    unfold scanLoop
    split
    · cases hs : tokM t i with
      | err j e => rfl
      | ok x j =>
        have := hle i x j hs
        exact ih j f _ (by omega) (by omega)
    · rfl
theorem scanFrom_end {t : List Nat} {i : Nat} (l : List (Tok × Nat × Nat)) (h : ¬i < t.length) (hi : i ≤ t.length) : scanFrom t i l = .ok l i := by
  unfold scanFrom
  rw [show t.length + 1 - i = 0 + 1 by omega]
  unfold scanLoop
  rw [if_neg h]
theorem scanFrom_next {t : List Nat} (hle : ∀ i x j, tokM t i = .ok x j → i < j) {i : Nat} (l : List (Tok × Nat × Nat)) (h : i < t.length) : scanFrom t i l = match tokM t i with | .err j e => .err j e | .ok x j => scanFrom t j (l ++ [(x, i, j)]) := by
  unfold scanFrom
  obtain ⟨f, hf⟩ : ∃ f, t.length + 1 - i = f + 1 := ⟨t.length - i, by omega⟩
  rw [hf]
  conv => lhs; unfold scanLoop
  rw [if_pos h]
  cases hs : tokM t i with
  | err j e => rfl
  | ok x j =>
    have := hle i x j hs
    have hj := (tokM_le hs).2
    dsimp only
    exact scan_fuel t hle _ j f _ (by omega) (by omega)
/-- 'v = append(v, x)' in a region that draws: v a row of the call's own, x's cells in a new block. -/
theorem step_append_one {P : Program} {ops : Array Oper} {o : Oper} {a : Act} {W : World} {K : Act → World → Prop} {Q : Exit → Act → World → Prop} {E : Prop} (hg : o.guard = none) (s x : Operand) (t : TypeId)
    (ho : o.op = .call { callee := .builtin .append, args := #[s, x], argTypes := #[t, t] }) (base : Nat) (e : TypeId) (size bytes : Nat) (he : Elem P t e size bytes)
    (v : Value) (n : Nat) (xs : List Value) (hs : a.eval s = v) (hown : W.ownsRow base e size v n xs) (news : List Value) (hx : a.eval x = .slice (some ⟨W.heap.size, 0, none⟩) 1 1)
    (hl : news.length = size) (h1 : ∀ u ∈ news, u.oneCell' = true) (h63 : n + 1 ≤ 9223372036854775807) (hbytes : (n + 1) * bytes ≤ 140737488355328) (hbase : base ≤ W.heap.size)
    (hK : ∀ v' w', w'.ownsRow base e size v' (n + 1) (xs ++ news) → Below base W w' → K (a.put o.dst v') w') :
    if Region.wanted o (yielded ops a.tmps) = true then Oper.wp P o a (W.alloc (.cells news.toArray e)) K Q else E := by
  have hw : Region.wanted o (yielded ops a.tmps) = true := by simp [Region.wanted, hg]
  rw [if_pos hw]
  obtain ⟨i, z, ht, hi, hz, hsize, hby, hzs, hsz⟩ := he
  refine wp_append_own _ s x t ho base e i z size bytes ht hi hz hsize hby hzs hsz v n xs hs (hown.alloc _) ⟨W.heap.size, 0, none⟩ 1 1 news hx (by omega) ?_ h1 h63 hbytes (by simp; omega) ?_
  · intro j u hu
    rw [show (⟨W.heap.size, 0, none⟩ : Addr).add j = ⟨W.heap.size, j, none⟩ by unfold Addr.add; split <;> simp_all]
    rw [(Blk.new W news e).cell j, hu]
  · intro v' w' hown' hgr _
    refine hK v' w' hown' ?_
    exact ((Below.refl base W).alloc hbase _).grown hgr (by simp; omega) (fun k hk => ((hown.lt) k hk).1)
theorem below_turned {B g : Nat} {w0 w w' : World} (hb : Below B w0 w) (hg : w.grownBy w' (some g)) (hB : B ≤ g) (hBw : B ≤ w.heap.size) : Below B w0 w' :=
  ⟨hg.os.trans hb.os, hg.tape.trans hb.tape, hg.output.trans hb.output, Nat.le_trans hb.size hg.size, fun i hi => (hg.block i (Nat.lt_of_lt_of_le hi hBw) (by simp; omega)).trans (hb.block i hi)⟩
theorem own_turned {w w' : World} {base g : Nat} {e : TypeId} {size n : Nat} {v : Value} {xs : List Value} (h : w.ownsRow base e size v n xs) (hg : w.grownBy w' (some g)) (hlt : g < base) : w'.ownsRow base e size v n xs := by
  refine h.kept hg ?_
  cases hb : v.ownBlock with
  | none => exact .inl rfl
  | some k =>
    refine .inr fun e => ?_
    have := (h.lt k hb).1
    injection e with e
    omega
theorem own_lives {w w' : World} {base : Nat} {e : TypeId} {size n : Nat} {v : Value} {xs : List Value} (h : w.ownsRow base e size v n xs) (hb : Below w.heap.size w w') : w'.ownsRow base e size v n xs := own_below h hb
theorem tok_ok {r : Res Tok} {x : Tok} {j : Nat} (h : TokIs r x j 0) : r = .ok x j ∧ True := by
  cases r with
  | ok x' j' => obtain ⟨rfl, rfl, _⟩ := h; exact ⟨rfl, trivial⟩
  | err j' e' => obtain ⟨_, h2, h3⟩ := h; exact absurd h2.symm h3
theorem tok_err {r : Res Tok} {x : Tok} {j e : Nat} (h : TokIs r x j e) (he : e ≠ 0) : r = .err j e := by
  cases r with
  | ok x' j' => exact absurd h.2.2 he
  | err j' e' => obtain ⟨rfl, rfl, _⟩ := h; rfl
theorem scan_err {t : List Nat} {i j e : Nat} {L : List (Tok × Nat × Nat)} (h : scanM t = scanFrom t i L) (hi : i < t.length) (ht : tokM t i = .err j e) : scanM t = .err j e := by
  rw [h, scanFrom_next (fun _ _ _ h => (tokM_le h).1) L hi, ht]
theorem scan_ok {t : List Nat} {i j : Nat} {x : Tok} {L : List (Tok × Nat × Nat)} (h : scanM t = scanFrom t i L) (hi : i < t.length) (ht : tokM t i = .ok x j) : scanM t = scanFrom t j (L ++ [(x, i, j)]) := by
  rw [h, scanFrom_next (fun _ _ _ h => (tokM_le h).1) L hi, ht]
theorem own_form {w : World} {base size n : Nat} {e : TypeId} {v : Value} {xs : List Value} (h : w.ownsRow base e size v n xs) : (v = .slice none 0 0 ∧ n = 0) ∨ ∃ b c, v = .slice (some ⟨b, 0, none⟩) n c := by
  rcases h.2 with h | ⟨g, cap, cur, rfl, _⟩
  · exact .inl h
  · exact .inr ⟨g, cap, rfl⟩
theorem own_mono {w : World} {base base' size n : Nat} {e : TypeId} {v : Value} {xs : List Value} (h : w.ownsRow base e size v n xs) (hb : base' ≤ base) : w.ownsRow base' e size v n xs := by
  refine ⟨h.1, ?_⟩
  rcases h.2 with h | ⟨g, cap, cur, rfl, h1, h2⟩
  · exact .inl h
  · exact .inr ⟨g, cap, cur, rfl, Nat.le_trans hb h1, h2⟩
theorem own_other {w w' : World} {base size n g : Nat} {e : TypeId} {v : Value} {xs : List Value} (h : w.ownsRow base e size v n xs) (hg : w.grownBy w' (some g)) (hne : ∀ k, v.ownBlock = some k → k < g) : w'.ownsRow base e size v n xs := by
  refine h.kept hg ?_
  cases hb : v.ownBlock with
  | none => exact .inl rfl
  | some k =>
    refine .inr fun e => ?_
    have := hne k hb
    injection e with e
    omega
theorem own_some {w : World} {base : Nat} {e : TypeId} {size : Nat} {v : Value} {n : Nat} {xs : List Value} (h : w.ownsRow base e size v n xs) (hn : 0 < n) : ∃ g c, v = .slice (some ⟨g, 0, none⟩) n c := by
  rcases h.2 with ⟨_, h0⟩ | ⟨g, cap, cur, rfl, _⟩
  · omega
  · exact ⟨_, _, rfl⟩
theorem tab_far {w w' : World} {B : Nat} (h : TabOk w) (hb : Below B w w') (hB : 1 < B) : TabOk w' := by
  intro j hj
  rw [← h j hj]
  exact World.cell?_of_block (hb.block _ hB)
theorem own_drewN {base size n : Nat} {e : TypeId} {v : Value} {xs : List Value} : ∀ {w : World}, w.ownsRow base e size v n xs → ∀ k, (w.drewN k).ownsRow base e size v n xs := by
  intro w h k
  exact own_below h (below_drewN (Below.refl _ w) k)
/-- What Scan answers. -/
def ScanIs (w : World) (base : Nat) (s : ByteArray) (lv : Value) (n : Int) (e : Nat) : Prop :=
  if 1048576 < s.size then lv = .slice none 0 0 ∧ n = 0 ∧ e = 3
  else match scanM (bytesN s) with
    | .ok L _ => w.ownsRow base 35 10 lv L.length (toksC L) ∧ n = L.length ∧ e = 0
    | .err j k => lv = .slice none 0 0 ∧ n = ((j : Nat) : Int) ∧ e = k ∧ k ≠ 0
theorem tokM_fwd (t : List Nat) : ∀ i x j, tokM t i = .ok x j → i < j := fun _ _ _ h => (tokM_le h).1
set_option maxRecDepth 100000 in
set_option maxHeartbeats 2000000 in
theorem scan_at (s : ByteArray) (w : World) (hT : TabOk w) :
    Calls Tryd.prog 8 #[.string s] w fun v w' => ∃ lv n e, v = .returned (.tuple #[lv, .int .i64 n, .int .i64 ((e : Nat) : Int)]) ∧ ScanIs w' w.heap.size s lv n e ∧ Below w.heap.size w w' := by
  by_cases hbig : 1048576 < s.size
  · have HB := Lib.hid hbig
    go_enter Tryd.func8, Tryd.ntmps8
    go_wp2
    go_returns
    exact ⟨.slice none 0 0, 0, 3, rfl, by unfold ScanIs; rw [if_pos HB.out]; exact ⟨rfl, rfl, rfl⟩, Below.refl _ _⟩
  · have HB := Lib.hid hbig
    have htl := tab_lt hT
    have HT := Lib.hid hT
    clear hT
    go_enter Tryd.func8, Tryd.ntmps8
    go_upto_region 4 with fail
    have hblk := Blk.new w [.string s, .int .i64 0, .int .i64 0, .slice none 0 0] 51
    have hbel : Below w.heap.size w (w.alloc (.cells #[.string s, .int .i64 0, .int .i64 0, .slice none 0 0] 51)) := (Below.refl _ w).alloc (Nat.le_refl _) _
    have htab := HT.out.below hbel
    have hrd : Rdr (w.alloc (.cells #[.string s, .int .i64 0, .int .i64 0, .slice none 0 0] 51)) w.heap.size s 0 0 (.slice none 0 0) := ⟨hblk, htab, by omega, Nat.zero_le _, by omega⟩
    clear htab hblk
    generalize w.alloc _ = wa at *
    go_wp2_with fail
    go_loopw [] (fun wr => ∃ i lv L, Rdr wr w.heap.size s i 0 lv ∧ wr.ownsRow (w.heap.size + 1) 35 10 lv L.length (toksC L) ∧ Below w.heap.size w wr ∧ scanM (bytesN s) = scanFrom (bytesN s) i L ∧ L.length ≤ i) (fun wr => s.size - posOf wr w.heap.size)
    case atStart => exact ⟨0, _, [], hrd, World.ownsRow_nil _ _ _ _, hbel, rfl, Nat.le_refl 0⟩
    case round =>
      obtain ⟨i, lv, L, hr, hown, hbw, hsc, hL⟩ := hrel
      have HP := Lib.hid hr.pos
      have HS := Lib.hid hsc
      have HO := Lib.hid hown
      have hle := hr.le
      have hltb := hr.blk.lt
      clear hown hsc hrd hbel
      obtain ⟨c0, c1, c2, c3, f1, f2, f3⟩ := hr.cells
      by_cases hi : i < s.size
      · go_wp2_with fail
        refine (one_at hr hi).mono ?_
        rintro v w1 ⟨x, j, e, rfl, hr1, hg, hres⟩
        have HR := Lib.hid hres
        have HO1 := Lib.hid (own_turned HO.out hg (by omega))
        have hb1 := below_turned hbw hg (by omega) (by omega)
        have hlt1 := hr1.blk.lt
        clear hres c0 c1 c2 c3 f1 f2 f3 hr hg hbw
        unfold tokV
        go_upto_region 7 with fail
        have hK : Blk (w1.alloc (.cells #[.int .i64 ((x.kind : Nat) : Int), .int .i64 0, .int .i64 0, .int .u64 (word x.set 0), .int .u64 (word x.set 1), .int .u64 (word x.set 2), .int .u64 (word x.set 3), .int .i64 ((x.lo : Nat) : Int), .int .i64 x.hi, .bool x.lazy] 35)) w1.heap.size 35 (tokL x 0 0) := Blk.new w1 (tokL x 0 0) 35
        have hst : Below w1.heap.size w1 (w1.alloc (.cells #[.int .i64 ((x.kind : Nat) : Int), .int .i64 0, .int .i64 0, .int .u64 (word x.set 0), .int .u64 (word x.set 1), .int .u64 (word x.set 2), .int .u64 (word x.set 3), .int .i64 ((x.lo : Nat) : Int), .int .i64 x.hi, .bool x.lazy] 35)) := (Below.refl _ w1).alloc (Nat.le_refl _) _
        have hkn : w.heap.size < w1.heap.size := hlt1
        have hr2 := hr1.below hst
        have HO2 := Lib.hid (own_lives HO1.out hst)
        have HNB := Lib.hid (show ∀ k, lv.ownBlock = some k → k < w1.heap.size from fun k hk => (HO1.out.lt k hk).2)
        have hb2 := hb1.trans (hst.mono (by omega))
        clear hr1 HO1 hb1 hst
        generalize w1.alloc _ = w2 at *
        generalize w1.heap.size = g at *
        go_wp2_with fail
        refine (bad_at hr2).mono ?_
        rintro v w3 ⟨rfl, hb⟩
        have hr3 := hr2.below hb
        have hK3 := hK.below hb hK.lt
        have HO3 := Lib.hid (own_lives HO2.out hb)
        have hb3 := hb2.trans (hb.mono (by have := hr2.blk.lt; omega))
        clear hr2 hK HO2 hb hb2
        by_cases he : e = 0
        · subst he
          obtain ⟨htok, _⟩ := tok_ok HR.out
          have HT1 := Lib.hid htok
          have hij := tokM_fwd _ _ _ _ htok
          have HN := Lib.hid (scan_ok HS.out (by rw [bytesN_length]; exact hi) htok)
          clear htok
          rw [show decide ((0 : Nat) ≠ 0) = false from rfl]
          obtain ⟨c0, c1, c2, c3, f1, f2, f3⟩ := hr3.cells
          obtain ⟨⟨y0, y1, y2, y3, y4, y5, y6, y7, y8, y9⟩, k0, k1, k2, k3, k4, k5, k6, k7, k8, k9⟩ := hK3.ten
          have hne1 : g ≠ w.heap.size := by omega
          have hne2 : w.heap.size ≠ g := by omega
          go_wp2_with fail
          go_region
          have hK4 : Blk (((w3.setCell ⟨g, 1, none⟩ (.int .i64 ((i : Nat) : Int))).setCell ⟨g, 2, none⟩ (.int .i64 ((j : Nat) : Int))).drew) g 35 (tokL x i j) := ((hK3.set 1 _).set 2 _).drew
          have hgr : w3.grownBy (((w3.setCell ⟨g, 1, none⟩ (.int .i64 ((i : Nat) : Int))).setCell ⟨g, 2, none⟩ (.int .i64 ((j : Nat) : Int))).drew) (some g) := only_below (only_setCell (only_setCell (only_refl w3 g) 1 (.int .i64 ((i : Nat) : Int))) 2 (.int .i64 ((j : Nat) : Int))) (Below.refl _ _).drew
          have hr4 : Rdr (((w3.setCell ⟨g, 1, none⟩ (.int .i64 ((i : Nat) : Int))).setCell ⟨g, 2, none⟩ (.int .i64 ((j : Nat) : Int))).drew) w.heap.size s j 0 lv := (hr3.farPuts (g := g) (by omega) (by omega) [.int .i64 ((i : Nat) : Int), .int .i64 ((j : Nat) : Int)] 1).below (Below.refl _ _).drew
          have HO4 := Lib.hid (own_other HO3.out hgr HNB.out)
          have hb4 := below_turned hb3 hgr (by omega) (by have := hr3.blk.lt; omega)
          clear y0 y1 y2 y3 y4 y5 y6 y7 y8 y9 k0 k1 k2 k3 k4 k5 k6 k7 k8 k9 c0 c1 c2 c3 f1 f2 f3 hr3 hK3 HO3 hb3 hgr
          generalize World.drew _ = w4 at *
          obtain ⟨c0, c1, c2, c3, f1, f2, f3⟩ := hr4.cells
          obtain ⟨⟨y0, y1, y2, y3, y4, y5, y6, y7, y8, y9⟩, k0, k1, k2, k3, k4, k5, k6, k7, k8, k9⟩ := hK4.ten
          have HOd := Lib.hid HO4.out.drew
          have hlt4 := hr4.blk.lt
          go_wp2_with fail
          go_region_law (refine step_append_one rfl (.tmp 56) (.tmp 58) 23 rfl (w.heap.size + 1) 35 10 80 elem_tok _ _ _ (by simp [Act.eval]) HOd.out (tokL x i j) (by simp [Act.eval]) rfl (one_tok x i j) (by omega) (by omega) (by simp; omega) ?_; intro v5 w5 hown5 hb5; obtain ⟨b5, cap5, rfl⟩ := own_some hown5 (by omega); have hB5 := hr4.blk.drew.below hb5 (by omega); have q3 : w5.cell? ⟨w.heap.size, 3, none⟩ = some lv := hB5.cell 3; have p3 : w5.frozen? ⟨w.heap.size, 3, none⟩ = false := hB5.frozen 3)
          all_goals
            have hr6 : Rdr (w5.setCell ⟨w.heap.size, 3, none⟩ (.slice (some ⟨b5, 0, none⟩) (L.length + 1) cap5)) w.heap.size s j 0 (.slice (some ⟨b5, 0, none⟩) (L.length + 1) cap5) := ⟨hB5.set 3 _, (tab_far (hr4.tab.below (Below.refl _ _).drew) hb5 (by omega)).only (only_setCell (only_refl w5 w.heap.size) 3 _) (by omega), by omega, hr4.le, hr4.size⟩
            have HR6 := Lib.hid hr6
            have HJ := Lib.hid hr6.pos
            have HO6 := Lib.hid (own_turned hown5 (only_setCell (only_refl w5 w.heap.size) 3 (.slice (some ⟨b5, 0, none⟩) (L.length + 1) cap5)) (by omega))
            have HB6 := Lib.hid ((hb4.drew.trans (hb5.mono (by omega))).setCell (p := ⟨w.heap.size, 3, none⟩) (Nat.le_refl _) (.slice (some ⟨b5, 0, none⟩) (L.length + 1) cap5))
            clear hr6 hown5 hb5 hb4 hB5 hr4 c0 c1 c2 c3 f1 f2 f3 q3 p3
            go_wp2
            go_roundw
            case rel =>
              refine ⟨j, _, L ++ [(x, i, j)], HR6.out, ?_, HB6.out, HN.out, by simp; omega⟩
              rw [toksC_snoc]
              simpa using HO6.out
            case measure =>
              rw [HJ.out.1, HP.out.1]
              omega
        · rw [show decide (e ≠ 0) = true from decide_eq_true he]
          obtain ⟨c0, c1, c2, c3, f1, f2, f3⟩ := hr3.cells
          go_wp2_with fail
          go_quiet (fail)
          go_wp2
          go_returns
          refine ⟨.slice none 0 0, ((j : Nat) : Int), e, rfl, ?_, below_drewN hb3 _⟩
          unfold ScanIs
          rw [if_neg HB.out, scan_err HS.out (by rw [bytesN_length]; exact hi) (tok_err HR.out he)]
          exact ⟨rfl, rfl, rfl, he⟩
      · have hii : i = s.size := by omega
        rcases own_form HO.out with ⟨rfl, hz⟩ | ⟨b', cap, rfl⟩
        all_goals
        go_wp2_with fail
        go_quiet (fail)
        go_wp2
        go_returns
        refine ⟨_, ((L.length : Nat) : Int), 0, (by first | rfl | rw [hz]; rfl), ?_, below_drewN hbw _⟩
        unfold ScanIs
        rw [if_neg HB.out, HS.out, scanFrom_end L (by rw [bytesN_length]; exact hi) (by rw [bytesN_length]; exact hle)]
        exact ⟨(own_drewN (own_mono HO.out (by omega)) _), rfl, rfl⟩
end Go.Proofs.YtofhkgafgnldnaaDoor
/- Layer 5's example. -/
namespace Go.Proofs.YtofhkgafgnldnaaDoor
open Go.RowKit
def awakeS : ByteArray := { data := #[97, 123, 50, 44, 125, 63] }
def awakeL : List (Tok × Nat × Nat) := [(setTok (oneM 97), 0, 1), (⟨5, noSet, 2, -1, true⟩, 1, 6)]
theorem awake_scan : scanM (bytesN awakeS) = .ok awakeL 6 := by rfl
theorem own_cell {w : World} {base size n g c : Nat} {e : TypeId} {xs : List Value} (h : w.ownsRow base e size (.slice (some ⟨g, 0, none⟩) n c) n xs) (j : Nat) (u : Value) (hu : xs[j]? = some u) : w.cell? ⟨g, j, none⟩ = some u := by
  have := h.cells rfl j u hu
  rw [show (⟨g, 0, none⟩ : Addr).add j = ⟨g, j, none⟩ by unfold Addr.add; split <;> simp_all] at this
  exact this
set_option maxRecDepth 100000 in
set_option maxHeartbeats 2000000 in
theorem awake_at (w : World) (hT : TabOk w) :
    Calls Tryd.prog 7 #[] w fun e w' => e = .returned (.bool true) ∧ Below w.heap.size w w' := by
  go_enter Tryd.func7, Tryd.ntmps7
  go_wp2_with fail
  refine (scan_at awakeS w hT).mono ?_
  rintro v w1 ⟨lv, n, e, rfl, hs, hb⟩
  unfold ScanIs at hs
  rw [if_neg (by decide), awake_scan] at hs
  obtain ⟨hown, rfl, rfl⟩ := hs
  obtain ⟨g, c, rfl⟩ := own_some hown (by decide)
  have c10 : w1.cell? ⟨g, 10, none⟩ = some (.int .i64 5) := own_cell hown 10 _ rfl
  have c17 : w1.cell? ⟨g, 17, none⟩ = some (.int .i64 2) := own_cell hown 17 _ rfl
  have c18 : w1.cell? ⟨g, 18, none⟩ = some (.int .i64 (-1)) := own_cell hown 18 _ rfl
  have c19 : w1.cell? ⟨g, 19, none⟩ = some (.bool true) := own_cell hown 19 _ rfl
  rw [show awakeL.length = 2 from rfl]
  clear hown
  go_wp2
  go_returns
  exact ⟨rfl, hb⟩
end Go.Proofs.YtofhkgafgnldnaaDoor
/- Tokens of two patterns with a bar between; tokens one behind the other. -/
namespace Go.Proofs.YtofhkgafgnldnaaDoor
theorem scan_barred {p q : List Nat} : ∀ (d i : Nat) (l L : List (Tok × Nat × Nat)) (n : Nat), p.length - i ≤ d → i ≤ p.length → scanFrom p i l = .ok L n → scanFrom (bar p q) i l = scanFrom (bar p q) p.length L ∧ n = p.length := by
  intro d
  induction d with
  | zero =>
    intro i l L n h hi hs
    obtain rfl : i = p.length := by omega
    rw [scanFrom_end l (Nat.lt_irrefl _) (Nat.le_refl _)] at hs
    injection hs with h1 h2
    rw [h1, h2]
    exact ⟨rfl, rfl⟩
  | succ d ih =>
    intro i l L n h hi hs
    rcases Nat.lt_or_ge i p.length with hlt | hge
    · rw [scanFrom_next (tokM_fwd _) l hlt] at hs
      cases ht : tokM p i with
      | err j e => rw [ht] at hs; cases hs
      | ok x j =>
        have hj := tokM_le ht
        rw [ht] at hs
        rw [scanFrom_next (tokM_fwd _) l (show i < (bar p q).length by simp; omega), tokM_in ht]
        exact ih j _ L n (by omega) hj.2 hs
    · obtain rfl : i = p.length := by omega
      rw [scanFrom_end l (Nat.lt_irrefl _) (Nat.le_refl _)] at hs
      injection hs with h1 h2
      rw [h1, h2]
      exact ⟨rfl, rfl⟩
theorem scan_out {p q : List Nat} : ∀ (d i : Nat) (l L : List (Tok × Nat × Nat)) (n : Nat), q.length - i ≤ d → i ≤ q.length → scanFrom q i l = .ok L n → ∀ l', ∃ L', scanFrom (p ++ q) (p.length + i) l' = .ok L' (p ++ q).length ∧ L'.length + l.length = L.length + l'.length := by
  intro d
  induction d with
  | zero =>
    intro i l L n h hi hs l'
    obtain rfl : i = q.length := by omega
    rw [scanFrom_end l (Nat.lt_irrefl _) (Nat.le_refl _)] at hs
    injection hs with h1 h2
    refine ⟨l', ?_, by rw [h1]; omega⟩
    rw [scanFrom_end l' (by simp) (by simp)]
    simp
  | succ d ih =>
    intro i l L n h hi hs l'
    rcases Nat.lt_or_ge i q.length with hlt | hge
    · rw [scanFrom_next (tokM_fwd _) l hlt] at hs
      cases ht : tokM q i with
      | err j e => rw [ht] at hs; cases hs
      | ok x j =>
        have hj := tokM_le ht
        rw [ht] at hs
        have ht' : tokM (p ++ q) (p.length + i) = .ok x (p.length + j) := by rw [tokM_shift, ht]; rfl
        rw [scanFrom_next (tokM_fwd _) l' (show p.length + i < (p ++ q).length by simp; omega), ht']
        obtain ⟨L', h1, h2⟩ := ih j _ L n (by omega) hj.2 hs (l' ++ [(x, p.length + i, p.length + j)])
        exact ⟨L', h1, by simp at h2; omega⟩
    · obtain rfl : i = q.length := by omega
      rw [scanFrom_end l (Nat.lt_irrefl _) (Nat.le_refl _)] at hs
      injection hs with h1 h2
      refine ⟨l', ?_, by rw [h1]; omega⟩
      rw [scanFrom_end l' (by simp) (by simp)]
      simp
/-- Two patterns that are taken, a bar between them. -/
theorem scan_bar {p q : List Nat} {L M : List (Tok × Nat × Nat)} {n m : Nat} (hp : scanM p = .ok L n) (hq : scanM q = .ok M m) : ∃ R k, scanM (bar p q) = .ok R k ∧ R.length = L.length + 1 + M.length := by
  have h1 := (scan_barred (q := q) p.length 0 [] L n (by omega) (Nat.zero_le _) hp).1
  have e : bar p q = (p ++ [124]) ++ q := by simp [bar]
  have ht : tokM (bar p q) p.length = .ok (kindTok 4) (p.length + 1) := by
    unfold tokM
    rw [bar_end]
    rfl
  rw [scanFrom_next (tokM_fwd _) L (show p.length < (bar p q).length by simp), ht] at h1
  obtain ⟨R, h2, h3⟩ := scan_out (p := p ++ [124]) q.length 0 [] M m (by omega) (Nat.zero_le _) hq (L ++ [(kindTok 4, p.length, p.length + 1)])
  refine ⟨R, (p ++ [124] ++ q).length, ?_, ?_⟩
  · show scanFrom (bar p q) 0 [] = _
    rw [h1]
    dsimp only
    rw [e]
    simpa using h2
  · simp at h3
    omega
/-- Tokens one behind the other. -/
def chainTo (b : Nat) : Nat → List (Tok × Nat × Nat) → Prop
  | a, [] => a = b
  | a, (_, f, t) :: r => f = a ∧ a < t ∧ chainTo b t r
theorem chain_snoc {b c : Nat} {x : Tok} (h : b < c) : ∀ {a : Nat} {l : List (Tok × Nat × Nat)}, chainTo b a l → chainTo c a (l ++ [(x, b, c)]) := by
  intro a l
  induction l generalizing a with
  | nil => rintro rfl; exact ⟨rfl, h, rfl⟩
  | cons u r ih =>
    obtain ⟨y, f, t⟩ := u
    rintro ⟨h1, h2, h3⟩
    exact ⟨h1, h2, ih h3⟩
theorem scan_chain {p : List Nat} : ∀ (d i : Nat) (l L : List (Tok × Nat × Nat)) (n : Nat), p.length - i ≤ d → i ≤ p.length → chainTo i 0 l → scanFrom p i l = .ok L n → chainTo p.length 0 L := by
  intro d
  induction d with
  | zero =>
    intro i l L n h hi hc hs
    obtain rfl : i = p.length := by omega
    rw [scanFrom_end l (Nat.lt_irrefl _) (Nat.le_refl _)] at hs
    injection hs with h1 h2
    rw [← h1]
    exact hc
  | succ d ih =>
    intro i l L n h hi hc hs
    rcases Nat.lt_or_ge i p.length with hlt | hge
    · rw [scanFrom_next (tokM_fwd _) l hlt] at hs
      cases ht : tokM p i with
      | err j e => rw [ht] at hs; cases hs
      | ok x j =>
        have hj := tokM_le ht
        rw [ht] at hs
        exact ih j _ L n (by omega) hj.2 (chain_snoc hj.1 hc) hs
    · obtain rfl : i = p.length := by omega
      rw [scanFrom_end l (Nat.lt_irrefl _) (Nat.le_refl _)] at hs
      injection hs with h1 h2
      rw [← h1]
      exact hc
theorem chain_of {p : List Nat} {L : List (Tok × Nat × Nat)} {n : Nat} (h : scanM p = .ok L n) : chainTo p.length 0 L := scan_chain p.length 0 [] L n (by omega) (Nat.zero_le _) rfl h
theorem chain_le {b : Nat} : ∀ {a : Nat} {l : List (Tok × Nat × Nat)}, chainTo b a l → a + l.length ≤ b := by
  intro a l
  induction l generalizing a with
  | nil => rintro rfl; simp
  | cons u r ih =>
    obtain ⟨y, f, t⟩ := u
    rintro ⟨_, h2, h3⟩
    have := ih h3
    simp only [List.length_cons]
    omega
theorem toksC_length (l : List (Tok × Nat × Nat)) : (toksC l).length = 10 * l.length := by
  induction l with
  | nil => rfl
  | cons u r ih => simp only [toksC, List.flatMap_cons, List.length_append, List.length_cons, List.length_nil] at ih ⊢; omega
theorem toksC_get {l : List (Tok × Nat × Nat)} {k r : Nat} {x : Tok} {f t : Nat} {v : Value} (h : l[k]? = some (x, f, t)) (hv : (tokL x f t)[r]? = some v) : (toksC l)[k * 10 + r]? = some v := by
  induction l generalizing k with
  | nil => cases h
  | cons u q ih =>
    have hr : r < 10 := (List.getElem?_eq_some_iff.1 hv).1
    obtain ⟨y, f', t'⟩ := u
    cases k with
    | zero =>
      injection h with h
      injection h with h1 h2
      injection h2 with h2 h3
      subst h1 h2 h3
      show (tokL y f' t' ++ toksC q)[0 * 10 + r]? = _
      rw [List.getElem?_append_left (by simp; omega)]
      simpa using hv
    | succ k =>
      show (tokL y f' t' ++ toksC q)[(k + 1) * 10 + r]? = _
      rw [List.getElem?_append_right (by simp; omega)]
      rw [show (k + 1) * 10 + r - (tokL y f' t').length = k * 10 + r by simp; omega]
      exact ih (by simpa using h)
theorem bytesN_bar (p q : ByteArray) : bytesN (p ++ ⟨#[124]⟩ ++ q) = bar (bytesN p) (bytesN q) := by
  simp [bytesN, bar, ByteArray.data_append]
end Go.Proofs.YtofhkgafgnldnaaDoor
/- TokenCovers: the walk. -/
namespace Go.Proofs.YtofhkgafgnldnaaDoor
open Go.RowKit
theorem own_form' {w : World} {base size n : Nat} {e : TypeId} {v : Value} {xs : List Value} (h : w.ownsRow base e size v n xs) : ∃ (o : Option Addr) (c : Nat), v = .slice o n c ∧ (0 < n → ∃ g, o = some ⟨g, 0, none⟩) := by
  rcases h.2 with ⟨rfl, rfl⟩ | ⟨g, cap, cur, rfl, _⟩
  · exact ⟨none, 0, rfl, fun h => absurd h (Nat.lt_irrefl 0)⟩
  · exact ⟨some ⟨g, 0, none⟩, cap, rfl, fun _ => ⟨g, rfl⟩⟩
theorem slice_len (w : World) (base : Nat) (s : ByteArray) (lv : Value) (n : Int) (e : Nat) (hsz : ¬1048576 < s.size) (h : ScanIs w base s lv n e) : ∃ (o : Option Addr) (m c : Nat), lv = .slice o m c ∧ n = n := by
  unfold ScanIs at h
  rw [if_neg hsz] at h
  cases hs : scanM (bytesN s) with
  | err j k => rw [hs] at h; exact ⟨none, 0, 0, h.1, rfl⟩
  | ok L m =>
    rw [hs] at h
    obtain ⟨o, c, rfl, _⟩ := own_form' h.1
    exact ⟨o, _, c, rfl, rfl⟩
set_option maxRecDepth 100000 in
set_option maxHeartbeats 2000000 in
theorem covers_law (p q : ByteArray) (w : World) (hT : TabOk w) :
    Calls Tryd.prog 4 #[.string p, .string q] w fun e w' => e = .returned (.bool true) ∧ Below w.heap.size w w' := by
  by_cases h1 : 200 < p.size
  · go_enter Tryd.func4, Tryd.ntmps4
    go_wp2_with fail
    refine (awake_at w hT).mono ?_
    rintro v w1 ⟨rfl, hb⟩
    go_wp2
    go_returns
    exact ⟨rfl, hb⟩
  · by_cases h2 : 200 < q.size
    · go_enter Tryd.func4, Tryd.ntmps4
      go_wp2_with fail
      refine (awake_at w hT).mono ?_
      rintro v w1 ⟨rfl, hb⟩
      go_wp2
      go_returns
      exact ⟨rfl, hb⟩
    · go_enter Tryd.func4, Tryd.ntmps4
      go_wp2_with fail
      refine (scan_at p w hT).mono ?_
      rintro v w1 ⟨lv, n, e, rfl, his, hb⟩
      have hT1 := hT.below hb
      unfold ScanIs at his
      rw [if_neg (by omega)] at his
      cases hs : scanM (bytesN p) with
      | err j k =>
        rw [hs] at his
        obtain ⟨rfl, rfl, rfl, hk⟩ := his
        have hk' : ((e : Nat) : Int) ≠ 0 := by omega
        clear hs
        go_wp2_with fail
        refine (awake_at w1 hT1).mono ?_
        rintro v w2 ⟨rfl, hb2⟩
        go_wp2
        go_returns
        exact ⟨rfl, hb.trans (hb2.mono hb.size)⟩
      | ok L m =>
        rw [hs] at his
        obtain ⟨hown, rfl, rfl⟩ := his
        have hch := chain_of hs
        have hlen := chain_le hch
        rw [bytesN_length] at hch hlen
        obtain ⟨o, c, rfl, ho⟩ := own_form' hown
        have HS := Lib.hid hs
        have HO := Lib.hid hown
        have HF := Lib.hid ho
        clear hs hown ho
        go_wp2_with fail
        go_loopw [8, 9] (fun av iv wr => ∃ a k : Nat, av = .int .i64 ((a : Nat) : Int) ∧ iv = .int .i64 ((k : Nat) : Int) ∧ wr = w1 ∧ k ≤ L.length ∧ chainTo p.size a (L.drop k)) (fun _ iv _ => L.length - (intOf iv).toNat)
        case atStart => exact ⟨0, 0, rfl, rfl, rfl, Nat.zero_le _, hch⟩
        case round =>
          obtain ⟨a, k, rfl, rfl, rfl, hk, hc⟩ := hrel
          by_cases hlt : k < L.length
          · obtain ⟨x, f, t, hx⟩ : ∃ x f t, L[k]? = some (x, f, t) := ⟨_, _, _, List.getElem?_eq_getElem hlt⟩
            obtain ⟨g, rfl⟩ := HF.out (by omega)
            have c1 : wr.cell? ⟨g, k * 10 + 1, none⟩ = some (.int .i64 ((f : Nat) : Int)) := own_cell HO.out _ _ (toksC_get (r := 1) hx rfl)
            have c2 : wr.cell? ⟨g, k * 10 + 2, none⟩ = some (.int .i64 ((t : Nat) : Int)) := own_cell HO.out _ _ (toksC_get (r := 2) hx rfl)
            have hd : L.drop k = (x, f, t) :: L.drop (k + 1) := by
              rw [List.drop_eq_getElem_cons hlt]
              congr 1
              rw [List.getElem?_eq_getElem hlt] at hx
              exact Option.some.inj hx
            rw [hd] at hc
            obtain ⟨rfl, hat, hc'⟩ := hc
            have HC := Lib.hid hc'
            clear hc' hd hx
            go_wp2
            go_roundw
            case rel => exact ⟨t, k + 1, rfl, by go_num, trivial, hlt, HC.out⟩
            case measure => simp [intOf]; omega
          · obtain rfl : k = L.length := by omega
            rw [List.drop_length] at hc
            obtain rfl : a = p.size := hc
            go_wp2_with fail
            refine (scan_at q wr hT1).mono ?_
            rintro v w2 ⟨lv2, n2, e2, rfl, his2, hb2⟩
            have hT2 := hT1.below hb2
            have hbb := hb.trans (hb2.mono hb.size)
            unfold ScanIs at his2
            rw [if_neg (by omega)] at his2
            cases hs2 : scanM (bytesN q) with
            | err j2 k2 =>
              rw [hs2] at his2
              obtain ⟨rfl, rfl, rfl, hk2⟩ := his2
              have hk2' : ((e2 : Nat) : Int) ≠ 0 := by omega
              clear hs2
              go_wp2_with fail
              refine (scan_at _ w2 hT2).mono ?_
              rintro v w3 ⟨lv3, n3, e3, rfl, _, hb3⟩
              have hT3 := hT2.below hb3
              replace hbb := hbb.trans (hb3.mono hbb.size)
              go_wp2_with fail
              refine (awake_at w3 hT3).mono ?_
              rintro v w4 ⟨rfl, hb4⟩
              replace hbb := hbb.trans (hb4.mono hbb.size)
              go_wp2
              go_returns
              exact ⟨rfl, hbb⟩
            | ok M m2 =>
              rw [hs2] at his2
              obtain ⟨hown2, rfl, rfl⟩ := his2
              obtain ⟨o2, c2, rfl, _⟩ := own_form' hown2
              have HS2 := Lib.hid hs2
              have hlen2 := chain_le (chain_of hs2)
              rw [bytesN_length] at hlen2
              clear hs2 hown2
              go_wp2_with fail
              refine (scan_at _ w2 hT2).mono ?_
              rintro v w3 ⟨lv3, n3, e3, rfl, his3, hb3⟩
              have hT3 := hT2.below hb3
              replace hbb := hbb.trans (hb3.mono hbb.size)
              obtain ⟨R, kR, hR, hRl⟩ := scan_bar HS.out HS2.out
              unfold ScanIs at his3
              rw [if_neg (by rw [ByteArray.size_append, ByteArray.size_append]; have : (⟨#[124]⟩ : ByteArray).size = 1 := rfl; omega), bytesN_bar, hR] at his3
              obtain ⟨hown3, rfl, rfl⟩ := his3
              obtain ⟨o3, c3, rfl, _⟩ := own_form' hown3
              have hq : (((R.length : Nat) : Int) == ((L.length : Nat) : Int) + 1 + ((M.length : Nat) : Int)) = true := by rw [beq_iff_eq]; omega
              clear hown3 hR hRl
              go_wp2_with fail
              refine (awake_at w3 hT3).mono ?_
              rintro v w4 ⟨rfl, hb4⟩
              replace hbb := hbb.trans (hb4.mono hbb.size)
              go_wp2
              go_returns
              exact ⟨rfl, hbb⟩
end Go.Proofs.YtofhkgafgnldnaaDoor
