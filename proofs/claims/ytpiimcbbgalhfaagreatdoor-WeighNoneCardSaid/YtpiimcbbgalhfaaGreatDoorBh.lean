/- Scan: a pattern's tokens. -/
import Derived.Test.YtpiimcbbgalhfaaGreatDoorBg
import Derived.Test.YtpiimcbbgalhfaaGreatDoorBb
import Derived.Deep.RegionLaw
import Derived.BigRegion
import Derived.Test.YtpiimcbbgalhfaaGreatDoorBe
import Derived.Deep.RegionHeld3
import Derived.StillTailTactics
namespace Go.Proofs.YtpiimcbbgalhfaaGreatDoor
set_option maxRecDepth 100000
open Go.RowKit
/-- The cells of some tokens. -/
def toksC (l : List (Tok × Nat × Nat)) : List Value := l.flatMap fun p => tokL p.1 p.2.1 p.2.2
theorem toksC_snoc (l : List (Tok × Nat × Nat)) (p : Tok × Nat × Nat) : toksC (l ++ [p]) = toksC l ++ tokL p.1 p.2.1 p.2.2 := by simp [toksC]
theorem toksC_length (l : List (Tok × Nat × Nat)) : (toksC l).length = 10 * l.length := by
  induction l with
  | nil => rfl
  | cons u r ih => simp only [toksC, List.flatMap_cons, List.length_append, List.length_cons, List.length_nil] at ih ⊢; omega
theorem toksC_get {l : List (Tok × Nat × Nat)} {k r : Nat} {x : Tok} {f t : Nat} {v : Value} (h : l[k]? = some (x, f, t)) (hv : (tokL x f t)[r]? = some v) : (toksC l)[k * 10 + r]? = some v := by
  induction l generalizing k with
  | nil => cases h
  | cons u q ih =>
    have hr : r < 10 := (List.getElem?_eq_some_iff.1 hv).1
    obtain ⟨y, f', t'⟩ := u
    cases k with
    | zero =>
      injection h with h
      injection h with h1 h2
      injection h2 with h2 h3
      subst h1 h2 h3
      show (tokL y f' t' ++ toksC q)[0 * 10 + r]? = _
      rw [List.getElem?_append_left (by simp; omega)]
      simpa using hv
    | succ k =>
      show (tokL y f' t' ++ toksC q)[(k + 1) * 10 + r]? = _
      rw [List.getElem?_append_right (by simp; omega)]
      rw [show (k + 1) * 10 + r - (tokL y f' t').length = k * 10 + r by simp; omega]
      exact ih (by simpa using h)
theorem one_tok (x : Tok) (f t : Nat) : ∀ u ∈ tokL x f t, u.oneCell' = true := by
  intro u hu
  simp only [tokL, List.mem_cons, List.not_mem_nil, or_false] at hu
  rcases hu with rfl | rfl | rfl | rfl | rfl | rfl | rfl | rfl | rfl | rfl <;> rfl
theorem elem_tok : Elem Tryz.prog 101 111 10 80 := by
  obtain ⟨i, hi, h0, h1, h2⟩ := info_parts (by kernel_rfl : (Tryz.prog.info? 111).map (fun i => (i.zero, i.size, i.bytes)) = some (some (.agg #[.int .i64 0, .int .i64 0, .int .i64 0, .int .u64 0, .int .u64 0, .int .u64 0, .int .u64 0, .int .i64 0, .int .i64 0, .bool false]), 10, 80))
  exact ⟨i, _, Tryz.underlying101, hi, h0, h1, h2, rfl, by omega⟩
def scanFrom (t : List Nat) (i : Nat) (l : List (Tok × Nat × Nat)) : Res (List (Tok × Nat × Nat)) := scanLoop t (t.length + 1 - i) i l
theorem scan_fuel (t : List Nat) (hle : ∀ i x j, tokM t i = .ok x j → i < j) : ∀ (d i f : Nat) (l : List (Tok × Nat × Nat)), t.length - i < d → d ≤ f → scanLoop t f i l = scanLoop t d i l := by
  intro d
  induction d with
  | zero => intro i f l h; omega
  | succ d ih =>
    intro i f l h1 h2
    obtain ⟨f, rfl⟩ : ∃ g, f = g + 1 := ⟨f - 1, by omega⟩
    unfold scanLoop
    split
    · cases hs : tokM t i with
      | err j e => rfl
      | ok x j =>
        have := hle i x j hs
        exact ih j f _ (by omega) (by omega)
    · rfl
theorem scanFrom_end {t : List Nat} {i : Nat} (l : List (Tok × Nat × Nat)) (h : ¬i < t.length) (hi : i ≤ t.length) : scanFrom t i l = .ok l i := by
  unfold scanFrom
  rw [show t.length + 1 - i = 0 + 1 by omega]
  unfold scanLoop
  rw [if_neg h]
theorem scanFrom_next {t : List Nat} (hle : ∀ i x j, tokM t i = .ok x j → i < j) {i : Nat} (l : List (Tok × Nat × Nat)) (h : i < t.length) : scanFrom t i l = match tokM t i with | .err j e => .err j e | .ok x j => scanFrom t j (l ++ [(x, i, j)]) := by
  unfold scanFrom
  obtain ⟨f, hf⟩ : ∃ f, t.length + 1 - i = f + 1 := ⟨t.length - i, by omega⟩
  rw [hf]
  conv => lhs; unfold scanLoop
  rw [if_pos h]
  cases hs : tokM t i with
  | err j e => rfl
  | ok x j =>
    have := hle i x j hs
    have hj := (tokM_le hs).2
    dsimp only
    exact scan_fuel t hle _ j f _ (by omega) (by omega)
/-- 'v = append(v, x)' in a region that draws: v a row of the call's own, x's cells in a new block. -/
theorem step_append_one {P : Program} {ops : Array Oper} {o : Oper} {a : Act} {W : World} {K : Act → World → Prop} {Q : Exit → Act → World → Prop} {E : Prop} (hg : o.guard = none) (s x : Operand) (t : TypeId)
    (ho : o.op = .call { callee := .builtin .append, args := #[s, x], argTypes := #[t, t] }) (base : Nat) (e : TypeId) (size bytes : Nat) (he : Elem P t e size bytes)
    (v : Value) (n : Nat) (xs : List Value) (hs : a.eval s = v) (hown : W.ownsRow base e size v n xs) (news : List Value) (hx : a.eval x = .slice (some ⟨W.heap.size, 0, none⟩) 1 1)
    (hl : news.length = size) (h1 : ∀ u ∈ news, u.oneCell' = true) (h63 : n + 1 ≤ 9223372036854775807) (hbytes : (n + 1) * bytes ≤ 140737488355328) (hbase : base ≤ W.heap.size)
    (hK : ∀ v' w', w'.ownsRow base e size v' (n + 1) (xs ++ news) → Below base W w' → K (a.put o.dst v') w') :
    if Region.wanted o (yielded ops a.tmps) = true then Oper.wp P o a (W.alloc (.cells news.toArray e)) K Q else E := by
  have hw : Region.wanted o (yielded ops a.tmps) = true := by simp [Region.wanted, hg]
  rw [if_pos hw]
  obtain ⟨i, z, ht, hi, hz, hsize, hby, hzs, hsz⟩ := he
  refine wp_append_own _ s x t ho base e i z size bytes ht hi hz hsize hby hzs hsz v n xs hs (hown.alloc _) ⟨W.heap.size, 0, none⟩ 1 1 news hx (by omega) ?_ h1 h63 hbytes (by simp; omega) ?_
  · intro j u hu
    rw [show (⟨W.heap.size, 0, none⟩ : Addr).add j = ⟨W.heap.size, j, none⟩ by unfold Addr.add; split <;> simp_all]
    rw [(Blk.new W news e).cell j, hu]
  · intro v' w' hown' hgr _
    refine hK v' w' hown' ?_
    exact ((Below.refl base W).alloc hbase _).grown hgr (by simp; omega) (fun k hk => ((hown.lt) k hk).1)
theorem below_turned {B g : Nat} {w0 w w' : World} (hb : Below B w0 w) (hg : w.grownBy w' (some g)) (hB : B ≤ g) (hBw : B ≤ w.heap.size) : Below B w0 w' :=
  ⟨hg.os.trans hb.os, hg.tape.trans hb.tape, hg.output.trans hb.output, Nat.le_trans hb.size hg.size, fun i hi => (hg.block i (Nat.lt_of_lt_of_le hi hBw) (by simp; omega)).trans (hb.block i hi)⟩
theorem own_turned {w w' : World} {base g : Nat} {e : TypeId} {size n : Nat} {v : Value} {xs : List Value} (h : w.ownsRow base e size v n xs) (hg : w.grownBy w' (some g)) (hlt : g < base) : w'.ownsRow base e size v n xs := by
  refine h.kept hg ?_
  cases hb : v.ownBlock with
  | none => exact .inl rfl
  | some k =>
    refine .inr fun e => ?_
    have := (h.lt k hb).1
    injection e with e
    omega
theorem own_lives {w w' : World} {base : Nat} {e : TypeId} {size n : Nat} {v : Value} {xs : List Value} (h : w.ownsRow base e size v n xs) (hb : Below w.heap.size w w') : w'.ownsRow base e size v n xs := own_below h hb
theorem tok_ok {r : Res Tok} {x : Tok} {j : Nat} (h : TokIs r x j 0) : r = .ok x j ∧ True := by
  cases r with
  | ok x' j' => obtain ⟨rfl, rfl, _⟩ := h; exact ⟨rfl, trivial⟩
  | err j' e' => obtain ⟨_, h2, h3⟩ := h; exact absurd h2.symm h3
theorem tok_err {r : Res Tok} {x : Tok} {j e : Nat} (h : TokIs r x j e) (he : e ≠ 0) : r = .err j e := by
  cases r with
  | ok x' j' => exact absurd h.2.2 he
  | err j' e' => obtain ⟨rfl, rfl, _⟩ := h; rfl
theorem scan_err {t : List Nat} {i j e : Nat} {L : List (Tok × Nat × Nat)} (h : scanM t = scanFrom t i L) (hi : i < t.length) (ht : tokM t i = .err j e) : scanM t = .err j e := by
  rw [h, scanFrom_next (fun _ _ _ h => (tokM_le h).1) L hi, ht]
theorem scan_ok {t : List Nat} {i j : Nat} {x : Tok} {L : List (Tok × Nat × Nat)} (h : scanM t = scanFrom t i L) (hi : i < t.length) (ht : tokM t i = .ok x j) : scanM t = scanFrom t j (L ++ [(x, i, j)]) := by
  rw [h, scanFrom_next (fun _ _ _ h => (tokM_le h).1) L hi, ht]
theorem own_form {w : World} {base size n : Nat} {e : TypeId} {v : Value} {xs : List Value} (h : w.ownsRow base e size v n xs) : (v = .slice none 0 0 ∧ n = 0) ∨ ∃ b c, v = .slice (some ⟨b, 0, none⟩) n c := by
  rcases h.2 with h | ⟨g, cap, cur, rfl, _⟩
  · exact .inl h
  · exact .inr ⟨g, cap, rfl⟩
theorem own_mono {w : World} {base base' size n : Nat} {e : TypeId} {v : Value} {xs : List Value} (h : w.ownsRow base e size v n xs) (hb : base' ≤ base) : w.ownsRow base' e size v n xs := by
  refine ⟨h.1, ?_⟩
  rcases h.2 with h | ⟨g, cap, cur, rfl, h1, h2⟩
  · exact .inl h
  · exact .inr ⟨g, cap, cur, rfl, Nat.le_trans hb h1, h2⟩
theorem own_other {w w' : World} {base size n g : Nat} {e : TypeId} {v : Value} {xs : List Value} (h : w.ownsRow base e size v n xs) (hg : w.grownBy w' (some g)) (hne : ∀ k, v.ownBlock = some k → k < g) : w'.ownsRow base e size v n xs := by
  refine h.kept hg ?_
  cases hb : v.ownBlock with
  | none => exact .inl rfl
  | some k =>
    refine .inr fun e => ?_
    have := hne k hb
    injection e with e
    omega
theorem own_some {w : World} {base : Nat} {e : TypeId} {size : Nat} {v : Value} {n : Nat} {xs : List Value} (h : w.ownsRow base e size v n xs) (hn : 0 < n) : ∃ g c, v = .slice (some ⟨g, 0, none⟩) n c := by
  rcases h.2 with ⟨_, h0⟩ | ⟨g, cap, cur, rfl, _⟩
  · omega
  · exact ⟨_, _, rfl⟩
theorem tab_far {w w' : World} {B : Nat} (h : TabOk w) (hb : Below B w w') (hB : 0 < B) : TabOk w' := by
  intro j hj
  rw [← h j hj]
  exact World.cell?_of_block (hb.block _ hB)
theorem own_drewN {base size n : Nat} {e : TypeId} {v : Value} {xs : List Value} : ∀ {w : World}, w.ownsRow base e size v n xs → ∀ k, (w.drewN k).ownsRow base e size v n xs := by
  intro w h k
  exact own_below h (below_drewN (Below.refl _ w) k)
theorem own_cell {w : World} {base size n g c : Nat} {e : TypeId} {xs : List Value} (h : w.ownsRow base e size (.slice (some ⟨g, 0, none⟩) n c) n xs) (j : Nat) (u : Value) (hu : xs[j]? = some u) : w.cell? ⟨g, j, none⟩ = some u := by
  have := h.cells rfl j u hu
  rw [show (⟨g, 0, none⟩ : Addr).add j = ⟨g, j, none⟩ by unfold Addr.add; split <;> simp_all] at this
  exact this
/-- What Scan answers. -/
def ScanIs (w : World) (base : Nat) (s : ByteArray) (lv : Value) (n : Int) (e : Nat) : Prop :=
  if 1048576 < s.size then lv = .slice none 0 0 ∧ n = 0 ∧ e = 3
  else match scanM (bytesN s) with
    | .ok L _ => w.ownsRow base 111 10 lv L.length (toksC L) ∧ n = L.length ∧ e = 0
    | .err j k => lv = .slice none 0 0 ∧ n = ((j : Nat) : Int) ∧ e = k ∧ k ≠ 0
theorem tokM_fwd (t : List Nat) : ∀ i x j, tokM t i = .ok x j → i < j := fun _ _ _ h => (tokM_le h).1
set_option maxRecDepth 100000 in
set_option maxHeartbeats 2000000 in
theorem scan_at (s : ByteArray) (w : World) (hT : TabOk w) :
    Calls Tryz.prog 74 #[.string s] w fun v w' => ∃ lv n e, v = .returned (.tuple #[lv, .int .i64 n, .int .i64 ((e : Nat) : Int)]) ∧ ScanIs w' w.heap.size s lv n e ∧ Below w.heap.size w w' := by
  by_cases hbig : 1048576 < s.size
  · have HB := Lib.hid hbig
    go_enter Tryz.func74, Tryz.ntmps74
    go_wp2
    go_returns
    exact ⟨.slice none 0 0, 0, 3, rfl, by unfold ScanIs; rw [if_pos HB.out]; exact ⟨rfl, rfl, rfl⟩, Below.refl _ _⟩
  · have HB := Lib.hid hbig
    have htl := tab_lt hT
    have HT := Lib.hid hT
    clear hT
    go_enter Tryz.func74, Tryz.ntmps74
    go_upto_region 4 with fail
    have hblk := Blk.new w [.string s, .int .i64 0, .int .i64 0, .slice none 0 0] 226
    have hbel : Below w.heap.size w (w.alloc (.cells #[.string s, .int .i64 0, .int .i64 0, .slice none 0 0] 226)) := (Below.refl _ w).alloc (Nat.le_refl _) _
    have htab := HT.out.below hbel
    have hrd : Rdr (w.alloc (.cells #[.string s, .int .i64 0, .int .i64 0, .slice none 0 0] 226)) w.heap.size s 0 0 (.slice none 0 0) := ⟨hblk, htab, by omega, Nat.zero_le _, by omega⟩
    clear htab hblk
    generalize w.alloc _ = wa at *
    go_wp2_with fail
    go_loopw [] (fun wr => ∃ i lv L, Rdr wr w.heap.size s i 0 lv ∧ wr.ownsRow (w.heap.size + 1) 111 10 lv L.length (toksC L) ∧ Below w.heap.size w wr ∧ scanM (bytesN s) = scanFrom (bytesN s) i L ∧ L.length ≤ i) (fun wr => s.size - posOf wr w.heap.size)
    case atStart => exact ⟨0, _, [], hrd, World.ownsRow_nil _ _ _ _, hbel, rfl, Nat.le_refl 0⟩
    case round =>
      obtain ⟨i, lv, L, hr, hown, hbw, hsc, hL⟩ := hrel
      have HP := Lib.hid hr.pos
      have HS := Lib.hid hsc
      have HO := Lib.hid hown
      have hle := hr.le
      have hltb := hr.blk.lt
      clear hown hsc hrd hbel
      obtain ⟨c0, c1, c2, c3, f1, f2, f3⟩ := hr.cells
      by_cases hi : i < s.size
      · go_wp2_with fail
        refine (one_at hr hi).mono ?_
        rintro v w1 ⟨x, j, e, rfl, hr1, hg, hres⟩
        have HR := Lib.hid hres
        have HO1 := Lib.hid (own_turned HO.out hg (by omega))
        have hb1 := below_turned hbw hg (by omega) (by omega)
        have hlt1 := hr1.blk.lt
        clear hres c0 c1 c2 c3 f1 f2 f3 hr hg hbw
        unfold tokV
        go_upto_region 7 with fail
        have hK : Blk (w1.alloc (.cells #[.int .i64 ((x.kind : Nat) : Int), .int .i64 0, .int .i64 0, .int .u64 (word x.set 0), .int .u64 (word x.set 1), .int .u64 (word x.set 2), .int .u64 (word x.set 3), .int .i64 ((x.lo : Nat) : Int), .int .i64 x.hi, .bool x.lazy] 111)) w1.heap.size 111 (tokL x 0 0) := Blk.new w1 (tokL x 0 0) 111
        have hst : Below w1.heap.size w1 (w1.alloc (.cells #[.int .i64 ((x.kind : Nat) : Int), .int .i64 0, .int .i64 0, .int .u64 (word x.set 0), .int .u64 (word x.set 1), .int .u64 (word x.set 2), .int .u64 (word x.set 3), .int .i64 ((x.lo : Nat) : Int), .int .i64 x.hi, .bool x.lazy] 111)) := (Below.refl _ w1).alloc (Nat.le_refl _) _
        have hkn : w.heap.size < w1.heap.size := hlt1
        have hr2 := hr1.below hst
        have HO2 := Lib.hid (own_lives HO1.out hst)
        have HNB := Lib.hid (show ∀ k, lv.ownBlock = some k → k < w1.heap.size from fun k hk => (HO1.out.lt k hk).2)
        have hb2 := hb1.trans (hst.mono (by omega))
        clear hr1 HO1 hb1 hst
        generalize w1.alloc _ = w2 at *
        generalize w1.heap.size = g at *
        go_wp2_with fail
        refine (bad_at hr2).mono ?_
        rintro v w3 ⟨rfl, hb⟩
        have hr3 := hr2.below hb
        have hK3 := hK.below hb hK.lt
        have HO3 := Lib.hid (own_lives HO2.out hb)
        have hb3 := hb2.trans (hb.mono (by have := hr2.blk.lt; omega))
        clear hr2 hK HO2 hb hb2
        by_cases he : e = 0
        · subst he
          obtain ⟨htok, _⟩ := tok_ok HR.out
          have HT1 := Lib.hid htok
          have hij := tokM_fwd _ _ _ _ htok
          have HN := Lib.hid (scan_ok HS.out (by rw [bytesN_length]; exact hi) htok)
          clear htok
          rw [show decide ((0 : Nat) ≠ 0) = false from rfl]
          obtain ⟨c0, c1, c2, c3, f1, f2, f3⟩ := hr3.cells
          obtain ⟨⟨y0, y1, y2, y3, y4, y5, y6, y7, y8, y9⟩, k0, k1, k2, k3, k4, k5, k6, k7, k8, k9⟩ := hK3.ten
          have hne1 : g ≠ w.heap.size := by omega
          have hne2 : w.heap.size ≠ g := by omega
          go_wp2_with fail
          go_region
          have hK4 : Blk (((w3.setCell ⟨g, 1, none⟩ (.int .i64 ((i : Nat) : Int))).setCell ⟨g, 2, none⟩ (.int .i64 ((j : Nat) : Int))).drew) g 111 (tokL x i j) := ((hK3.set 1 _).set 2 _).drew
          have hgr : w3.grownBy (((w3.setCell ⟨g, 1, none⟩ (.int .i64 ((i : Nat) : Int))).setCell ⟨g, 2, none⟩ (.int .i64 ((j : Nat) : Int))).drew) (some g) := only_below (only_setCell (only_setCell (only_refl w3 g) 1 (.int .i64 ((i : Nat) : Int))) 2 (.int .i64 ((j : Nat) : Int))) (Below.refl _ _).drew
          have hr4 : Rdr (((w3.setCell ⟨g, 1, none⟩ (.int .i64 ((i : Nat) : Int))).setCell ⟨g, 2, none⟩ (.int .i64 ((j : Nat) : Int))).drew) w.heap.size s j 0 lv := (hr3.farPuts (g := g) (by omega) (by omega) [.int .i64 ((i : Nat) : Int), .int .i64 ((j : Nat) : Int)] 1).below (Below.refl _ _).drew
          have HO4 := Lib.hid (own_other HO3.out hgr HNB.out)
          have hb4 := below_turned hb3 hgr (by omega) (by have := hr3.blk.lt; omega)
          clear y0 y1 y2 y3 y4 y5 y6 y7 y8 y9 k0 k1 k2 k3 k4 k5 k6 k7 k8 k9 c0 c1 c2 c3 f1 f2 f3 hr3 hK3 HO3 hb3 hgr
          generalize World.drew _ = w4 at *
          obtain ⟨c0, c1, c2, c3, f1, f2, f3⟩ := hr4.cells
          obtain ⟨⟨y0, y1, y2, y3, y4, y5, y6, y7, y8, y9⟩, k0, k1, k2, k3, k4, k5, k6, k7, k8, k9⟩ := hK4.ten
          have HOd := Lib.hid HO4.out.drew
          have hlt4 := hr4.blk.lt
          go_wp2_with fail
          go_region_law (refine step_append_one rfl (.tmp 56) (.tmp 58) 101 rfl (w.heap.size + 1) 111 10 80 elem_tok _ _ _ (by simp [Act.eval]) HOd.out (tokL x i j) (by simp [Act.eval]) rfl (one_tok x i j) (by omega) (by omega) (by simp; omega) ?_; intro v5 w5 hown5 hb5; obtain ⟨b5, cap5, rfl⟩ := own_some hown5 (by omega); have hB5 := hr4.blk.drew.below hb5 (by omega); have q3 : w5.cell? ⟨w.heap.size, 3, none⟩ = some lv := hB5.cell 3; have p3 : w5.frozen? ⟨w.heap.size, 3, none⟩ = false := hB5.frozen 3)
          all_goals
            have hr6 : Rdr (w5.setCell ⟨w.heap.size, 3, none⟩ (.slice (some ⟨b5, 0, none⟩) (L.length + 1) cap5)) w.heap.size s j 0 (.slice (some ⟨b5, 0, none⟩) (L.length + 1) cap5) := ⟨hB5.set 3 _, (tab_far (hr4.tab.below (Below.refl _ _).drew) hb5 (by omega)).only (only_setCell (only_refl w5 w.heap.size) 3 _) (by omega), by omega, hr4.le, hr4.size⟩
            have HR6 := Lib.hid hr6
            have HJ := Lib.hid hr6.pos
            have HO6 := Lib.hid (own_turned hown5 (only_setCell (only_refl w5 w.heap.size) 3 (.slice (some ⟨b5, 0, none⟩) (L.length + 1) cap5)) (by omega))
            have HB6 := Lib.hid ((hb4.drew.trans (hb5.mono (by omega))).setCell (p := ⟨w.heap.size, 3, none⟩) (Nat.le_refl _) (.slice (some ⟨b5, 0, none⟩) (L.length + 1) cap5))
            clear hr6 hown5 hb5 hb4 hB5 hr4 c0 c1 c2 c3 f1 f2 f3 q3 p3
            go_wp2
            go_roundw
            case rel =>
              refine ⟨j, _, L ++ [(x, i, j)], HR6.out, ?_, HB6.out, HN.out, by simp; omega⟩
              rw [toksC_snoc]
              simpa using HO6.out
            case measure =>
              rw [HJ.out.1, HP.out.1]
              omega
        · rw [show decide (e ≠ 0) = true from decide_eq_true he]
          obtain ⟨c0, c1, c2, c3, f1, f2, f3⟩ := hr3.cells
          go_wp2_with fail
          go_quiet (fail)
          go_wp2
          go_returns
          refine ⟨.slice none 0 0, ((j : Nat) : Int), e, rfl, ?_, below_drewN hb3 _⟩
          unfold ScanIs
          rw [if_neg HB.out, scan_err HS.out (by rw [bytesN_length]; exact hi) (tok_err HR.out he)]
          exact ⟨rfl, rfl, rfl, he⟩
      · have hii : i = s.size := by omega
        rcases own_form HO.out with ⟨rfl, hz⟩ | ⟨b', cap, rfl⟩
        all_goals
        go_wp2_with fail
        go_quiet (fail)
        go_wp2
        go_returns
        refine ⟨_, ((L.length : Nat) : Int), 0, (by first | rfl | rw [hz]; rfl), ?_, below_drewN hbw _⟩
        unfold ScanIs
        rw [if_neg HB.out, HS.out, scanFrom_end L (by rw [bytesN_length]; exact hi) (by rw [bytesN_length]; exact hle)]
        exact ⟨(own_drewN (own_mono HO.out (by omega)) _), rfl, rfl⟩
end Go.Proofs.YtpiimcbbgalhfaaGreatDoor
/- The parser of patterns: its state; peek, is, at, last, fail. -/
namespace Go.Proofs.YtpiimcbbgalhfaaGreatDoor
set_option maxRecDepth 100000
open Go.RowKit
structure Psr (w : World) (pb : Nat) (o : Option Addr) (c : Nat) (T : List Tk) (size i d p e : Nat) : Prop where
  blk : Blk w pb 108 [.slice o T.length c, .int .i64 ((i : Nat) : Int), .int .i64 ((size : Nat) : Int), .int .i64 ((d : Nat) : Int), .int .i64 ((p : Nat) : Int), .int .i64 ((e : Nat) : Int)]
  row : ∀ k x f t, T[k]? = some (x, f, t) → ∃ g, o = some ⟨g, 0, none⟩ ∧ g < pb ∧ ∀ r v, (tokL x f t)[r]? = some v → w.cell? ⟨g, k * 10 + r, none⟩ = some v
  le : i ≤ T.length
  len : T.length ≤ 1048576
  sz : size ≤ 1048576
  deep : d ≤ 200
theorem Psr.below {w w' : World} {pb : Nat} {o : Option Addr} {c : Nat} {T : List Tk} {size i d p e : Nat} (h : Psr w pb o c T size i d p e) (hb : Below w.heap.size w w') : Psr w' pb o c T size i d p e :=
  ⟨h.blk.below hb h.blk.lt, fun k x f t hk => by
    obtain ⟨g, h1, h2, h3⟩ := h.row k x f t hk
    exact ⟨g, h1, h2, fun r v hv => (hb.cell (p := ⟨g, k * 10 + r, none⟩) (Nat.lt_trans h2 h.blk.lt)).trans (h3 r v hv)⟩, h.le, h.len, h.sz, h.deep⟩
theorem Psr.turn {w w' : World} {pb : Nat} {o : Option Addr} {c : Nat} {T : List Tk} {size i d p e i' d' p' e' : Nat} (h : Psr w pb o c T size i d p e) (hg : w.grownBy w' (some pb))
    (hb : Blk w' pb 108 [.slice o T.length c, .int .i64 ((i' : Nat) : Int), .int .i64 ((size : Nat) : Int), .int .i64 ((d' : Nat) : Int), .int .i64 ((p' : Nat) : Int), .int .i64 ((e' : Nat) : Int)]) (hi : i' ≤ T.length) (hd : d' ≤ 200) : Psr w' pb o c T size i' d' p' e' :=
  ⟨hb, fun k x f t hk => by
    obtain ⟨g, h1, h2, h3⟩ := h.row k x f t hk
    exact ⟨g, h1, h2, fun r v hv => (only_cell hg (p := ⟨g, k * 10 + r, none⟩) (Nat.lt_trans h2 h.blk.lt) (Nat.ne_of_lt h2)).trans (h3 r v hv)⟩, hi, h.len, h.sz, hd⟩
theorem Psr.cells {w : World} {pb : Nat} {o : Option Addr} {c : Nat} {T : List Tk} {size i d p e : Nat} (h : Psr w pb o c T size i d p e) :
    (w.cell? ⟨pb, 0, none⟩ = some (.slice o T.length c) ∧ w.cell? ⟨pb, 1, none⟩ = some (.int .i64 ((i : Nat) : Int)) ∧ w.cell? ⟨pb, 2, none⟩ = some (.int .i64 ((size : Nat) : Int)) ∧ w.cell? ⟨pb, 3, none⟩ = some (.int .i64 ((d : Nat) : Int)) ∧ w.cell? ⟨pb, 4, none⟩ = some (.int .i64 ((p : Nat) : Int)) ∧ w.cell? ⟨pb, 5, none⟩ = some (.int .i64 ((e : Nat) : Int))) ∧
    (w.frozen? ⟨pb, 1, none⟩ = false ∧ w.frozen? ⟨pb, 3, none⟩ = false ∧ w.frozen? ⟨pb, 4, none⟩ = false ∧ w.frozen? ⟨pb, 5, none⟩ = false) :=
  ⟨⟨h.blk.cell 0, h.blk.cell 1, h.blk.cell 2, h.blk.cell 3, h.blk.cell 4, h.blk.cell 5⟩, h.blk.frozen 1, h.blk.frozen 3, h.blk.frozen 4, h.blk.frozen 5⟩
/-- next, deep, place and e laid anew. -/
theorem Psr.next {w : World} {pb : Nat} {o : Option Addr} {c : Nat} {T : List Tk} {size i d p e : Nat} (h : Psr w pb o c T size i d p e) (i' : Nat) (v : Int) (hv : v = ((i' : Nat) : Int)) (hi : i' ≤ T.length) :
    Psr (w.setCell ⟨pb, 1, none⟩ (.int .i64 v)) pb o c T size i' d p e ∧ w.grownBy (w.setCell ⟨pb, 1, none⟩ (.int .i64 v)) (some pb) := by
  subst hv
  have hg := only_setCell (only_refl w pb) 1 (.int .i64 ((i' : Nat) : Int))
  exact ⟨h.turn hg (h.blk.set 1 _) hi h.deep, hg⟩
theorem Psr.deeper {w : World} {pb : Nat} {o : Option Addr} {c : Nat} {T : List Tk} {size i d p e : Nat} (h : Psr w pb o c T size i d p e) (d' : Nat) (v : Int) (hv : v = ((d' : Nat) : Int)) (hd : d' ≤ 200) :
    Psr (w.setCell ⟨pb, 3, none⟩ (.int .i64 v)) pb o c T size i d' p e ∧ w.grownBy (w.setCell ⟨pb, 3, none⟩ (.int .i64 v)) (some pb) := by
  subst hv
  have hg := only_setCell (only_refl w pb) 3 (.int .i64 ((d' : Nat) : Int))
  exact ⟨h.turn hg (h.blk.set 3 _) h.le hd, hg⟩
def peekT (T : List Tk) (size i : Nat) : Tk := match T[i]? with | some x => x | none => (zeroTok, size, size)
theorem ret_tokb {fn : Func} {R : Ending → World → Prop} {a : Act} {w : World} {b r r1 : Nat} {x : Tok} {f t : Nat} {v : Value} (hres : fn.results = #[.cell r 111, .tmp r1])
    (hr : a.tmps.getD r undef = .pointer (some ⟨b, 0, none⟩)) (hr1 : a.tmps.getD r1 undef = v) (h : Blk w b 111 (tokL x f t)) (hd : a.defers = [])
    (hR : R (.returned (.tuple #[tokV x f t, v])) w) : bodyPost Tryz.prog fn R .ret a w := by
  have hl1 := load_tok h (by simp)
  refine bodyPost_ret (v := .tuple #[tokV x f t, v]) ?_ hd hR
  have q1 : a.tmps[r]?.getD undef = .pointer (some ⟨b, 0, none⟩) := by simpa using hr
  have q2 : a.tmps[r1]?.getD undef = v := by simpa using hr1
  simp [results, hres, q1, q2, hl1, asAddr]
theorem peekT_some {T : List Tk} {size i : Nat} {x : Tk} (h : T[i]? = some x) : peekT T size i = x := by unfold peekT; rw [h]
theorem peekT_none {T : List Tk} {size i : Nat} (h : T[i]? = none) : peekT T size i = (zeroTok, size, size) := by unfold peekT; rw [h]
set_option maxRecDepth 100000 in
set_option maxHeartbeats 4000000 in
theorem ppeek_at {w : World} {pb : Nat} {o : Option Addr} {c : Nat} {T : List Tk} {size i d p e : Nat} (h : Psr w pb o c T size i d p e) :
    Calls Tryz.prog 76 #[.pointer (some ⟨pb, 0, none⟩)] w fun v w' => v = .returned (.tuple #[tokV (peekT T size i).1 (peekT T size i).2.1 (peekT T size i).2.2, .bool (T[i]?).isSome]) ∧ Below w.heap.size w w' := by
  have hlt := h.blk.lt
  have hle := h.le
  have hlen := h.len
  have st := (St.nil w).alloc rfl [.int .i64 0, .int .i64 0, .int .i64 0, .int .u64 0, .int .u64 0, .int .u64 0, .int .u64 0, .int .i64 0, .int .i64 0, .bool false] 111
  have h2 := h.below ((Below.refl _ w).alloc (Nat.le_refl _) (.cells #[.int .i64 0, .int .i64 0, .int .i64 0, .int .u64 0, .int .u64 0, .int .u64 0, .int .u64 0, .int .i64 0, .int .i64 0, .bool false] 111))
  cases hT : T[i]? with
  | none =>
    have HX := Lib.hid (peekT_none (size := size) hT)
    have hii : T.length ≤ i := List.getElem?_eq_none_iff.1 hT
    have hge : ((T.length : Nat) : Int) ≤ ((i : Nat) : Int) := by omega
    have hlt' : ¬((i : Nat) : Int) < ((T.length : Nat) : Int) := by omega
    clear hT
    go_enter Tryz.func76, Tryz.ntmps76
    go_upto_region 1 with fail
    generalize w.alloc _ = w1 at *
    obtain ⟨⟨c0, c1, c2, c3, c4, c5⟩, -⟩ := h2.cells
    go_wp2_with fail
    go_quiet (fail)
    rename_i nq _
    clear c0 c1 c2 c3 c4 c5
    have h3 := h2.below (below_drewN (Below.refl _ w1) nq)
    have st3 := st.drewN nq
    generalize w1.drewN nq = w2 at *
    obtain ⟨⟨c0, c1, c2, c3, c4, c5⟩, -⟩ := h3.cells
    obtain ⟨⟨p0, p1, p2, p3, p4, p5, p6, p7, p8, p9⟩, r0, r1, r2, r3, r4, r5, r6, r7, r8, r9⟩ := st3.ten 0 rfl
    go_wp2_with fail
    go_region
    all_goals
      have stz := (st3.all 0 rfl [.int .i64 0, .int .i64 ((size : Nat) : Int), .int .i64 ((size : Nat) : Int), .int .u64 0, .int .u64 0, .int .u64 0, .int .u64 0, .int .i64 0, .int .i64 0, .bool false] rfl).drew
      simp only [putCells, List.set] at stz
      generalize World.drew _ = wz at *
      clear p0 p1 p2 p3 p4 p5 p6 p7 p8 p9 r0 r1 r2 r3 r4 r5 r6 r7 r8 r9 c0 c1 c2 c3 c4 c5
      go_wp2
      refine ret_tokb (b := w.heap.size) (x := zeroTok) (f := size) (t := size) (v := .bool false) rfl rfl rfl (by rw [show zeroTok = ⟨0, noSet, 0, 0, false⟩ from rfl, tokL_noset]; exact stz.get 0 rfl) rfl ⟨by rw [HX.out]; rfl, stz.below⟩
  | some x =>
    obtain ⟨tk, f, t⟩ := x
    have HX := Lib.hid (peekT_some (size := size) hT)
    have hil := (List.getElem?_eq_some_iff.1 hT).1
    obtain ⟨g, rfl, hgp, hrow⟩ := h.row i tk f t hT
    have HR := Lib.hid hrow
    have hge : ¬((T.length : Nat) : Int) ≤ ((i : Nat) : Int) := by omega
    have hlt' : ((i : Nat) : Int) < ((T.length : Nat) : Int) := by omega
    clear hT hrow
    go_enter Tryz.func76, Tryz.ntmps76
    go_upto_region 1 with fail
    have hrow1 := Lib.hid (show ∀ r v, (tokL tk f t)[r]? = some v → (w.alloc (.cells #[.int .i64 0, .int .i64 0, .int .i64 0, .int .u64 0, .int .u64 0, .int .u64 0, .int .u64 0, .int .i64 0, .int .i64 0, .bool false] 111)).cell? ⟨g, i * 10 + r, none⟩ = some v from fun r v hv => (((Below.refl _ w).alloc (Nat.le_refl _) _).cell (p := ⟨g, i * 10 + r, none⟩) (Nat.lt_trans hgp hlt)).trans (HR.out r v hv))
    generalize w.alloc _ = w1 at *
    obtain ⟨⟨c0, c1, c2, c3, c4, c5⟩, -⟩ := h2.cells
    go_wp2_with fail
    go_quiet (fail)
    rename_i nq _
    clear c0 c1 c2 c3 c4 c5
    have h3 := h2.below (below_drewN (Below.refl _ w1) nq)
    have st3 := st.drewN nq
    have hrow2 := Lib.hid (show ∀ r v, (tokL tk f t)[r]? = some v → (w1.drewN nq).cell? ⟨g, i * 10 + r, none⟩ = some v from fun r v hv => hrow1.out r v hv)
    generalize w1.drewN nq = w2 at *
    obtain ⟨⟨c0, c1, c2, c3, c4, c5⟩, -⟩ := h3.cells
    obtain ⟨⟨p0, p1, p2, p3, p4, p5, p6, p7, p8, p9⟩, r0, r1, r2, r3, r4, r5, r6, r7, r8, r9⟩ := st3.ten 0 rfl
    have q0 := hrow2.out 0 _ rfl
    have q1 := hrow2.out 1 _ rfl
    have q2 := hrow2.out 2 _ rfl
    have q3 := hrow2.out 3 _ rfl
    have q4 := hrow2.out 4 _ rfl
    have q5 := hrow2.out 5 _ rfl
    have q6 := hrow2.out 6 _ rfl
    have q7 := hrow2.out 7 _ rfl
    have q8 := hrow2.out 8 _ rfl
    have q9 := hrow2.out 9 _ rfl
    rw [Nat.add_zero] at q0
    go_wp2_with fail
    go_region
    all_goals
      have stz := (st3.all 0 rfl (tokL tk f t) rfl).drew
      simp only [putCells, List.set] at stz
      generalize World.drew _ = wz at *
      clear p0 p1 p2 p3 p4 p5 p6 p7 p8 p9 r0 r1 r2 r3 r4 r5 r6 r7 r8 r9 c0 c1 c2 c3 c4 c5 q0 q1 q2 q3 q4 q5 q6 q7 q8 q9
      go_wp2
      refine ret_tokb (b := w.heap.size) (x := tk) (f := f) (t := t) (v := .bool true) rfl rfl rfl (stz.get 0 rfl) rfl ⟨by rw [HX.out]; rfl, stz.below⟩
theorem kind_peek {T : List Tk} {size i : Nat} (k : Nat) : kindAt T i = some k ↔ ((T[i]?).isSome = true ∧ (peekT T size i).1.kind = k) := by
  unfold kindAt peekT
  cases T[i]? with
  | none => simp
  | some x => simp
set_option maxRecDepth 100000 in
set_option maxHeartbeats 2000000 in
theorem pis_at (k : Nat) {w : World} {pb : Nat} {o : Option Addr} {c : Nat} {T : List Tk} {size i d p e : Nat} (h : Psr w pb o c T size i d p e) :
    Calls Tryz.prog 132 #[.pointer (some ⟨pb, 0, none⟩), .int .i64 ((k : Nat) : Int)] w fun v w' => v = .returned (.bool (decide (kindAt T i = some k))) ∧ Below w.heap.size w w' := by
  have HK := Lib.hid (kind_peek (T := T) (size := size) (i := i) k)
  go_enter Tryz.func132, Tryz.ntmps132
  go_wp2_with fail
  refine (ppeek_at h).mono ?_
  rintro v w1 ⟨rfl, hb⟩
  have HB := Lib.hid hb
  clear hb
  generalize (peekT T size i).1 = x at *
  generalize (peekT T size i).2.1 = f at *
  generalize (peekT T size i).2.2 = t at *
  generalize (T[i]?).isSome = z at *
  unfold tokV
  cases z with
  | false =>
    have HF := Lib.hid (show decide (kindAt T i = some k) = false from decide_eq_false (fun e => by have := (HK.out.1 e).1; cases this))
    go_wp2
    go_returns
    exact ⟨by rw [HF.out]; rfl, HB.out.alloc HB.out.size _⟩
  | true =>
    by_cases hk : x.kind = k
    · have HF := Lib.hid (show decide (kindAt T i = some k) = true from decide_eq_true (HK.out.2 ⟨rfl, hk⟩))
      have hq : (((x.kind : Nat) : Int) == ((k : Nat) : Int)) = true := by rw [beq_iff_eq]; omega
      clear hk
      go_wp2
      go_returns
      exact ⟨by rw [HF.out]; rfl, HB.out.alloc HB.out.size _⟩
    · have HF := Lib.hid (show decide (kindAt T i = some k) = false from decide_eq_false (fun e => hk (HK.out.1 e).2))
      have hq : (((x.kind : Nat) : Int) == ((k : Nat) : Int)) = false := by rw [beq_eq_false_iff_ne]; omega
      clear hk
      go_wp2
      go_returns
      exact ⟨by rw [HF.out]; rfl, HB.out.alloc HB.out.size _⟩
theorem from_peek {T : List Tk} {size i : Nat} : fromAt T size i = (peekT T size i).2.1 := by
  unfold fromAt peekT
  cases T[i]? <;> rfl
set_option maxRecDepth 100000 in
set_option maxHeartbeats 2000000 in
theorem pat_at {w : World} {pb : Nat} {o : Option Addr} {c : Nat} {T : List Tk} {size i d p e : Nat} (h : Psr w pb o c T size i d p e) :
    Calls Tryz.prog 177 #[.pointer (some ⟨pb, 0, none⟩)] w fun v w' => v = .returned (.int .i64 ((fromAt T size i : Nat) : Int)) ∧ Below w.heap.size w w' := by
  have HX := Lib.hid (from_peek (T := T) (size := size) (i := i))
  go_enter Tryz.func177, Tryz.ntmps177
  go_wp2_with fail
  refine (ppeek_at h).mono ?_
  rintro v w1 ⟨rfl, hb⟩
  have HB := Lib.hid hb
  clear hb
  generalize (peekT T size i).1 = x at *
  generalize (peekT T size i).2.1 = f at *
  generalize (peekT T size i).2.2 = t at *
  generalize (T[i]?).isSome = z at *
  unfold tokV
  go_wp2
  go_returns
  exact ⟨by rw [HX.out]; rfl, HB.out.alloc HB.out.size _⟩
set_option maxRecDepth 100000 in
set_option maxHeartbeats 2000000 in
theorem plast_c {w : World} {pb g c j L : Nat} {t : Nat} (hj : j < L) (hL : L ≤ 1048576) (c0 : w.cell? ⟨pb, 0, none⟩ = some (.slice (some ⟨g, 0, none⟩) L c)) (c1 : w.cell? ⟨pb, 1, none⟩ = some (.int .i64 (((j : Nat) : Int) + 1))) (q2 : w.cell? ⟨g, j * 10 + 2, none⟩ = some (.int .i64 ((t : Nat) : Int))) :
    Calls Tryz.prog 264 #[.pointer (some ⟨pb, 0, none⟩)] w fun v w' => v = .returned (.int .i64 ((t : Nat) : Int)) ∧ ∃ n, w' = w.drewN n := by
  have hw : IntKind.i64.wrap (((j : Nat) : Int) + 1 - 1) = ((j : Nat) : Int) := by rw [IntWalk.i64_in _ (by omega)]; omega
  have hw2 : ((j : Nat) : Int) + 1 - 1 = ((j : Nat) : Int) := by omega
  go_enter Tryz.func264, Tryz.ntmps264
  go_wp2_with fail
  go_quiet (fail)
  go_wp2
  go_returns
  exact ⟨rfl, _, rfl⟩
set_option maxRecDepth 100000 in
set_option maxHeartbeats 2000000 in
theorem pfail_at (j k : Nat) {w : World} {pb : Nat} {o : Option Addr} {c : Nat} {T : List Tk} {size i d p : Nat} (h : Psr w pb o c T size i d p 0) :
    Calls Tryz.prog 77 #[.pointer (some ⟨pb, 0, none⟩), .int .i64 ((j : Nat) : Int), .int .i64 ((k : Nat) : Int)] w fun v w' => (∃ u, v = .returned u) ∧ Psr w' pb o c T size i d j k ∧ w.grownBy w' (some pb) := by
  have hlt := h.blk.lt
  obtain ⟨⟨c0, c1, c2, c3, c4, c5⟩, f1, f3, f4, f5⟩ := h.cells
  go_enter Tryz.func77, Tryz.ntmps77
  go_wp2
  have hg := only_setCell (only_setCell (only_refl w pb) 4 (.int .i64 ((j : Nat) : Int))) 5 (.int .i64 ((k : Nat) : Int))
  have hp := h.turn (i' := i) (d' := d) (p' := j) (e' := k) hg ((h.blk.set 4 _).set 5 _) h.le h.deep
  go_returns
  exact ⟨⟨_, rfl⟩, hp, hg⟩
theorem pfail_no (j k : Nat) {w : World} {pb : Nat} {o : Option Addr} {c : Nat} {T : List Tk} {size i d p e : Nat} (h : Psr w pb o c T size i d p e) (he : e ≠ 0) :
    Calls Tryz.prog 77 #[.pointer (some ⟨pb, 0, none⟩), .int .i64 ((j : Nat) : Int), .int .i64 ((k : Nat) : Int)] w fun v w' => (∃ u, v = .returned u) ∧ w' = w := by
  obtain ⟨⟨c0, c1, c2, c3, c4, c5⟩, f1, f3, f4, f5⟩ := h.cells
  have hq : (((e : Nat) : Int) == 0) = false := by rw [beq_eq_false_iff_ne]; omega
  clear he
  go_enter Tryz.func77, Tryz.ntmps77
  go_wp2
  go_returns
  exact ⟨⟨_, rfl⟩, rfl⟩
end Go.Proofs.YtpiimcbbgalhfaaGreatDoor
/- The parser of patterns: group. -/
namespace Go.Proofs.YtpiimcbbgalhfaaGreatDoor
set_option maxRecDepth 100000
open Go.RowKit
abbrev From (w : World) : Nat → Prop := fun k => w.heap.size ≤ k
/-- What reading a node leaves. -/
def NodePost (w w' : World) (pb : Nat) (o : Option Addr) (c : Nat) (T : List Tk) (size d : Nat) (r : PRes) (v : Ending) : Prop := match r with
  | .ok n j => ∃ b, v = .returned (.pointer (some ⟨b, 0, none⟩)) ∧ Psr w' pb o c T size j d 0 0 ∧ w.grownBy w' (some pb) ∧ TreeAt w' (From w) n b
  | .err p e => ∃ a i', v = .returned (.pointer a) ∧ e ≠ 0 ∧ Psr w' pb o c T size i' d p e ∧ w.grownBy w' (some pb)
def AltOk (pb : Nat) (o : Option Addr) (c : Nat) (T : List Tk) (size n : Nat) : Prop := ∀ (d i : Nat) (w : World), Psr w pb o c T size i d 0 0 → T.length - i < n →
  Calls Tryz.prog 75 #[.pointer (some ⟨pb, 0, none⟩)] w fun v w' => NodePost w w' pb o c T size d (altF T size n d i) v
/-- A node of one. -/
theorem TreeAt.single {w : World} {S : Nat → Prop} {k : Int} {set : Nat → Bool} {lo hi : Int} {lazy : Bool} {n : Tree} {f t b ga g c : Nat} (hS : S b) (hb : Blk w b 34 (nodeL k set lo hi lazy (.slice (some ⟨ga, 0, none⟩) 1 c) f t))
    (hA : S ga) (hc : w.cell? ⟨ga, 0, none⟩ = some (.pointer (some ⟨g, 0, none⟩))) (hk : TreeAt w S n g) : TreeAt w S (.mk k set lo hi lazy [n] f t) b := by
  refine .mk (ga := ga) (bs := [g]) hS hb rfl (by simp) (fun _ => ⟨rfl, hA⟩) (fun i q hq => ?_) (fun i m q hm hq => ?_)
  · cases i with
    | zero => injection hq with hq; subst hq; exact hc
    | succ i => cases hq
  · cases i with
    | zero => injection hq with hq; injection hm with hm; subst hq; subst hm; exact hk
    | succ i => cases hq
/-- A node of none. -/
theorem TreeAt.leaf {w : World} {S : Nat → Prop} {k : Int} {set : Nat → Bool} {lo hi : Int} {lazy : Bool} {f t b c : Nat} {A : Option Addr} (hS : S b) (hb : Blk w b 34 (nodeL k set lo hi lazy (.slice A 0 c) f t)) : TreeAt w S (.mk k set lo hi lazy [] f t) b :=
  .mk (ga := 0) (bs := []) hS hb rfl (by simp) (fun h => absurd rfl h) (fun i q hq => by cases hq) (fun i m q hm _ => by cases hm)
theorem grown_alloc {w w' : World} {g : Nat} (h : w.grownBy w' (some g)) (o : Obj) : w.grownBy (w'.alloc o) (some g) := only_below h ((Below.refl _ w').alloc (Nat.le_refl _) o)
theorem grown_drewN {w w' : World} {g : Nat} (h : w.grownBy w' (some g)) (n : Nat) : w.grownBy (w'.drewN n) (some g) := only_below h (below_drewN (Below.refl _ w') n)
theorem push2_0 {α : Type} (h : Array α) (a b : α) : ((h.push a).push b)[h.size]? = some a := by
  rw [Array.getElem?_push, if_neg (by simp), Array.getElem?_push, if_pos rfl]
theorem push2_1 {α : Type} (h : Array α) (a b : α) : ((h.push a).push b)[h.size + 1]? = some b := by
  rw [Array.getElem?_push, if_pos (by simp)]
theorem nodeL_noset (k lo hi : Int) (z : Bool) (L : Value) (f t : Nat) : nodeL k noSet lo hi z L f t = [.int .i64 k, .int .u64 0, .int .u64 0, .int .u64 0, .int .u64 0, .int .i64 lo, .int .i64 hi, .bool z, L, .int .i64 ((f : Nat) : Int), .int .i64 ((t : Nat) : Int)] := by
  show [_, Value.int .u64 (word (fun _ => false) 0), Value.int .u64 (word (fun _ => false) 1), Value.int .u64 (word (fun _ => false) 2), Value.int .u64 (word (fun _ => false) 3), _, _, _, _, _, _] = _
  simp only [word_none]
/-- A node of one, in new blocks: the array, then the node. -/
theorem node_one {w w7 W : World} {n : Tree} {b : Nat} {k lo hi : Int} {z : Bool} {f t : Nat} (hw : w.heap.size ≤ w7.heap.size) (h : TreeAt w7 (From w) n b) (hb : Below w7.heap.size w7 W) (h1 : Blk W w7.heap.size 26 [.pointer (some ⟨b, 0, none⟩)])
    (h2 : Blk W (w7.heap.size + 1) 34 [.int .i64 k, .int .u64 0, .int .u64 0, .int .u64 0, .int .u64 0, .int .i64 lo, .int .i64 hi, .bool z, .slice (some ⟨w7.heap.size, 0, none⟩) 1 1, .int .i64 ((f : Nat) : Int), .int .i64 ((t : Nat) : Int)]) : TreeAt W (From w) (.mk k noSet lo hi z [n] f t) (w7.heap.size + 1) := by
  rw [← nodeL_noset] at h2
  exact TreeAt.single (c := 1) (show w.heap.size ≤ w7.heap.size + 1 by omega) h2 hw (h1.cell 0) (h.under hb)
set_option maxHeartbeats 4000000 in
theorem pgroup_deep {w : World} {pb : Nat} {o : Option Addr} {c : Nat} {T : List Tk} {size i d n : Nat} {x : Tok} {f t : Nat} (h : Psr w pb o c T size i d 0 0) (hd : 200 ≤ d) :
    Calls Tryz.prog 230 #[.pointer (some ⟨pb, 0, none⟩), tokV x f t] w fun v w' => NodePost w w' pb o c T size d (groupW T size (altF T size n) d i (x, f, t)) v := by
  have HX := Lib.hid (show groupW T size (altF T size n) d i (x, f, t) = .err f 3 by unfold groupW; rw [if_pos hd])
  have hlt := h.blk.lt
  have hq : (200 : Int) ≤ ((d : Nat) : Int) := by omega
  unfold tokV
  go_enter Tryz.func230, Tryz.ntmps230
  go_upto_region 1 with fail
  have hb := (Below.refl w.heap.size w).alloc (Nat.le_refl _) (.cells (tokL x f t).toArray 111)
  have st := (St.nil w).alloc rfl (tokL x f t) 111
  have h2 := h.below hb
  have hg := only_of pb hb
  clear h hb
  generalize w.alloc _ = w1 at *
  obtain ⟨⟨c0, c1, c2, c3, c4, c5⟩, f1, f3, f4, f5⟩ := h2.cells
  obtain ⟨⟨p0, p1, p2, p3, p4, p5, p6, p7, p8, p9⟩, r0, r1, r2, r3, r4, r5, r6, r7, r8, r9⟩ := st.ten 0 rfl
  go_wp2_with fail
  refine (pfail_at f 3 h2).mono ?_
  rintro v w2 ⟨⟨u, rfl⟩, hp, hg2⟩
  clear c0 c1 c2 c3 c4 c5 f1 f3 f4 f5 p0 p1 p2 p3 p4 p5 p6 p7 p8 p9 r0 r1 r2 r3 r4 r5 r6 r7 r8 r9
  go_wp2
  go_returns
  rw [HX.out]
  exact ⟨none, i, rfl, by omega, hp, only_trans hg hg2⟩
set_option maxHeartbeats 8000000 in
theorem pgroup_in {w : World} {pb : Nat} {o : Option Addr} {c : Nat} {T : List Tk} {size i d n : Nat} {x : Tok} {f t : Nat} (h : Psr w pb o c T size i d 0 0) (hd : d < 200) (hT : T[i]? = some (x, f, t)) (h12 : x.kind = 1 ∨ x.kind = 2)
    (h5 : kinds5 T) (hn : T.length - (i + 1) < n) (hrec : AltOk pb o c T size n) :
    Calls Tryz.prog 230 #[.pointer (some ⟨pb, 0, none⟩), tokV x f t] w fun v w' => NodePost w w' pb o c T size d (groupW T size (altF T size n) d i (x, f, t)) v := by
  have HX := Lib.hid (show groupW T size (altF T size n) d i (x, f, t) = match altF T size n (d + 1) (i + 1) with
    | .err p e => .err p e
    | .ok n j => match T[j]? with
      | some y => if y.1.kind = 3 then .ok (groupT (x, f, t) n y.2.2) (j + 1) else .err size 4
      | none => .err size 4 by unfold groupW; rw [if_neg (by omega)]; rfl)
  have hil := (List.getElem?_eq_some_iff.1 hT).1
  have HA := Lib.hid (altF_says (size := size) h5 n (d + 1) (i + 1) hil hn)
  have hlt := h.blk.lt
  have hlen := h.len
  have hq : ¬(200 : Int) ≤ ((d : Nat) : Int) := by omega
  have H12 := Lib.hid h12
  clear hT h12
  unfold tokV
  go_enter Tryz.func230, Tryz.ntmps230
  go_upto_region 1 with fail
  have hb := (Below.refl w.heap.size w).alloc (Nat.le_refl _) (.cells (tokL x f t).toArray 111)
  have st := (StG.nil w pb).alloc rfl (tokL x f t) 111
  have h2 := h.below hb
  have hg := only_of pb hb
  clear h hb
  generalize w.alloc _ = w1 at *
  obtain ⟨⟨c0, c1, c2, c3, c4, c5⟩, f1, f3, f4, f5⟩ := h2.cells
  go_upto_region 5 with fail
  obtain ⟨h3, hg3⟩ := h2.deeper (d + 1) (((d : Nat) : Int) + 1) (by omega) (by omega)
  replace st := st.turn hg3 hlt
  replace hg := only_trans hg hg3
  clear c0 c1 c2 c3 c4 c5 f1 f3 f4 f5 h2 hg3
  generalize World.setCell _ _ _ = w2 at *
  obtain ⟨⟨c0, c1, c2, c3, c4, c5⟩, f1, f3, f4, f5⟩ := h3.cells
  go_upto_region 6 with fail
  obtain ⟨h4, hg4⟩ := h3.next (i + 1) (((i : Nat) : Int) + 1) (by omega) hil
  replace st := st.turn hg4 hlt
  replace hg := only_trans hg hg4
  clear c0 c1 c2 c3 c4 c5 f1 f3 f4 f5 h3 hg4
  generalize World.setCell _ _ _ = w3 at *
  go_wp2_with fail
  refine (hrec (d + 1) (i + 1) w3 h4 hn).mono ?_
  rintro v w4 hpost
  have hs3 : w.heap.size < w3.heap.size := (st.get 0 rfl).lt
  cases hr : altF T size n (d + 1) (i + 1) with
  | err p e =>
    rw [hr] at hpost
    obtain ⟨a, i', rfl, he, h5', hg5⟩ := hpost
    have HR := Lib.hid hr
    have HE := Lib.hid he
    have he1 : (((e : Nat) : Int) != 0) = true := by rw [bne_iff_ne]; omega
    have he2 : (((e : Nat) : Int) == 0) = false := by rw [beq_eq_false_iff_ne]; omega
    replace hg := only_trans hg hg5
    clear hr he h4 hg5 st
    obtain ⟨⟨c0, c1, c2, c3, c4, c5⟩, f1, f3, f4, f5⟩ := h5'.cells
    go_upto_region 8 with fail
    obtain ⟨h6, hg6⟩ := h5'.deeper d ((d : Nat) : Int) rfl (by omega)
    replace hg := only_trans hg hg6
    clear c0 c1 c2 c3 c4 c5 f1 f3 f4 f5 h5' hg6
    generalize World.setCell _ _ _ = w5 at *
    obtain ⟨⟨c0, c1, c2, c3, c4, c5⟩, f1, f3, f4, f5⟩ := h6.cells
    go_wp2
    go_returns
    rw [HX.out, HR.out]
    exact ⟨none, i', rfl, HE.out, h6, hg⟩
  | ok m j =>
    rw [hr] at hpost
    obtain ⟨b, rfl, h5', hg5, htr⟩ := hpost
    have hA := HA.out
    rw [hr] at hA
    obtain ⟨hj1, hj2, -, hj3⟩ := hA
    have HR := Lib.hid hr
    replace st := st.turn hg5 hlt
    replace htr := htr.mono (S' := From w) (fun k hk _ => Nat.le_trans (Nat.le_of_lt hs3) hk)
    replace hg := only_trans hg hg5
    clear hr h4 hg5 HA
    obtain ⟨⟨c0, c1, c2, c3, c4, c5⟩, f1, f3, f4, f5⟩ := h5'.cells
    go_upto_region 8 with fail
    obtain ⟨h6, hg6⟩ := h5'.deeper d ((d : Nat) : Int) rfl (by omega)
    replace st := st.turn hg6 hlt
    replace htr := htr.only hg6 (fun k hk => by have : w.heap.size ≤ k := hk; omega)
    replace hg := only_trans hg hg6
    clear c0 c1 c2 c3 c4 c5 f1 f3 f4 f5 h5' hg6
    generalize World.setCell _ _ _ = w5 at *
    obtain ⟨⟨c0, c1, c2, c3, c4, c5⟩, f1, f3, f4, f5⟩ := h6.cells
    go_wp2_with fail
    refine (pis_at 3 h6).mono ?_
    rintro v w6 ⟨rfl, hb⟩
    replace h6 := h6.below hb
    replace st := st.below hb
    replace htr := htr.under hb
    replace hg := only_below hg hb
    clear hb c0 c1 c2 c3 c4 c5 f1 f3 f4 f5
    obtain ⟨⟨c0, c1, c2, c3, c4, c5⟩, f1, f3, f4, f5⟩ := h6.cells
    cases hj : T[j]? with
    | none =>
      have HD := Lib.hid (show decide (kindAt T j = some 3) = false from decide_eq_false (by unfold kindAt; rw [hj]; simp))
      have HJ := Lib.hid hj
      clear hj hj3
      rw [HD.out]
      go_wp2_with fail
      refine (pfail_at size 4 h6).mono ?_
      rintro v w7 ⟨⟨u, rfl⟩, hp, hg2⟩
      go_wp2
      go_returns
      rw [HX.out, HR.out]
      simp only []
      rw [HJ.out]
      exact ⟨none, j, rfl, by omega, hp, only_trans hg hg2⟩
    | some y =>
      obtain ⟨yk, yf, yt⟩ := y
      have hy3 : yk.kind = 3 := by
        rcases hj3 with h | h
        · unfold kindAt at h; rw [hj] at h; cases h
        · unfold kindAt at h; rw [hj] at h; injection h
      have hjl := (List.getElem?_eq_some_iff.1 hj).1
      have HD := Lib.hid (show decide (kindAt T j = some 3) = true from decide_eq_true (by unfold kindAt; rw [hj]; exact congrArg some hy3))
      have HJ := Lib.hid (And.intro hj hy3)
      clear hj hj3 hy3
      rw [HD.out]
      go_upto_region 14 with fail
      obtain ⟨h7, hg7⟩ := h6.next (j + 1) (((j : Nat) : Int) + 1) (by omega) hjl
      replace st := st.turn hg7 hlt
      replace htr := htr.only hg7 (fun k hk => by have : w.heap.size ≤ k := hk; omega)
      replace hg := only_trans hg hg7
      clear c0 c1 c2 c3 c4 c5 f1 f3 f4 f5 h6 hg7
      generalize World.setCell _ _ _ = w7 at *
      obtain ⟨p0, p1, p2, p3, p4, p5, p6, p7, p8, p9⟩ := st.ten 0 rfl
      have hs7 : w.heap.size < w7.heap.size := (st.get 0 rfl).lt
      rcases H12.out with hx | hx
      · have HXK := Lib.hid hx
        have hq0 : ((x.kind : Nat) : Int) = 1 := by omega
        clear hx
        obtain ⟨⟨c0, c1, -, -, -, -⟩, -⟩ := h7.cells
        rw [show ((j + 1 : Nat) : Int) = ((j : Nat) : Int) + 1 by omega] at c1
        obtain ⟨gr, rfl, hgr, hrow⟩ := h7.row j yk yf yt HJ.out.1
        have q2 : w7.cell? ⟨gr, j * 10 + 2, none⟩ = some (.int .i64 ((yt : Nat) : Int)) := hrow 2 _ rfl
        clear hrow
        have hpl : pb < w7.heap.size := h7.blk.lt
        have hgl : gr < w7.heap.size := Nat.lt_trans hgr hpl
        have KEY := Lib.hid (show ∀ W : World, Below w7.heap.size w7 W → Blk W w7.heap.size 26 [.pointer (some ⟨b, 0, none⟩)] → Blk W (w7.heap.size + 1) 34 [.int .i64 2, .int .u64 0, .int .u64 0, .int .u64 0, .int .u64 0, .int .i64 0, .int .i64 0, .bool false, .slice (some ⟨w7.heap.size, 0, none⟩) 1 1, .int .i64 ((f : Nat) : Int), .int .i64 ((yt : Nat) : Int)] →
            NodePost w W pb (some ⟨gr, 0, none⟩) c T size d (groupW T size (altF T size n) d i (x, f, t)) (.returned (.pointer (some ⟨w7.heap.size + 1, 0, none⟩))) from fun W k1 k2 k3 => by
          rw [HX.out, HR.out]
          simp only []
          rw [HJ.out.1]
          simp only []
          rw [if_pos HJ.out.2]
          refine ⟨w7.heap.size + 1, rfl, h7.below k1, only_below hg k1, ?_⟩
          have := node_one (Nat.le_of_lt hs7) htr k1 k2 k3
          unfold groupT
          simp only [HXK.out]
          exact this)
        clear HX HR st htr hg
        go_wp2_with fail
        go_region_held3 (fun w' => w'.cell? ⟨w.heap.size, 1, none⟩ = some (.int .i64 ((f : Nat) : Int)) ∧ w'.cell? ⟨pb, 0, none⟩ = some (.slice (some ⟨gr, 0, none⟩) T.length c) ∧ w'.cell? ⟨pb, 1, none⟩ = some (.int .i64 (((j : Nat) : Int) + 1)) ∧ w'.cell? ⟨gr, j * 10 + 2, none⟩ = some (.int .i64 ((yt : Nat) : Int))) (go_keep)
          (first
            | (go_at_call 264; refine (plast_c (pb := pb) (g := gr) (c := c) (t := yt) hjl hlen ?_ ?_ ?_).mono ?_; (simp [*]); (simp [*]); (simp [*]); rintro e w8 ⟨rfl, nq, rfl⟩))
        all_goals
          go_wp2
          go_returns
          refine KEY.out _ ?_ ?_ ?_
          · first
              | exact ((below_drewN (Below.refl _ _) _).alloc (Nat.le_refl _) _).alloc (by simp) _
              | exact (below_drewN ((Below.refl _ _).alloc (Nat.le_refl _) _) _).alloc (by simp) _
              | exact below_drewN (((Below.refl _ _).alloc (Nat.le_refl _) _).alloc (by simp) _) _
              | exact (((Below.refl _ _).alloc (Nat.le_refl _) _).drew.alloc (by simp) _)
          · exact push2_0 w7.heap _ _
          · exact push2_1 w7.heap _ _
      · have HXK := Lib.hid hx
        have hq0 : ((x.kind : Nat) : Int) = 2 := by omega
        clear hx
        obtain ⟨⟨c0, c1, -, -, -, -⟩, -⟩ := h7.cells
        rw [show ((j + 1 : Nat) : Int) = ((j : Nat) : Int) + 1 by omega] at c1
        obtain ⟨gr, rfl, hgr, hrow⟩ := h7.row j yk yf yt HJ.out.1
        have q2 : w7.cell? ⟨gr, j * 10 + 2, none⟩ = some (.int .i64 ((yt : Nat) : Int)) := hrow 2 _ rfl
        clear hrow
        have hpl : pb < w7.heap.size := h7.blk.lt
        have hgl : gr < w7.heap.size := Nat.lt_trans hgr hpl
        have KEY := Lib.hid (show ∀ W : World, Below w7.heap.size w7 W → Blk W w7.heap.size 26 [.pointer (some ⟨b, 0, none⟩)] → Blk W (w7.heap.size + 1) 34 [.int .i64 3, .int .u64 0, .int .u64 0, .int .u64 0, .int .u64 0, .int .i64 0, .int .i64 0, .bool false, .slice (some ⟨w7.heap.size, 0, none⟩) 1 1, .int .i64 ((f : Nat) : Int), .int .i64 ((yt : Nat) : Int)] →
            NodePost w W pb (some ⟨gr, 0, none⟩) c T size d (groupW T size (altF T size n) d i (x, f, t)) (.returned (.pointer (some ⟨w7.heap.size + 1, 0, none⟩))) from fun W k1 k2 k3 => by
          rw [HX.out, HR.out]
          simp only []
          rw [HJ.out.1]
          simp only []
          rw [if_pos HJ.out.2]
          refine ⟨w7.heap.size + 1, rfl, h7.below k1, only_below hg k1, ?_⟩
          have := node_one (Nat.le_of_lt hs7) htr k1 k2 k3
          unfold groupT
          simp only [HXK.out]
          exact this)
        clear HX HR st htr hg
        go_wp2_with fail
        go_region_held3 (fun w' => w'.cell? ⟨w.heap.size, 1, none⟩ = some (.int .i64 ((f : Nat) : Int)) ∧ w'.cell? ⟨pb, 0, none⟩ = some (.slice (some ⟨gr, 0, none⟩) T.length c) ∧ w'.cell? ⟨pb, 1, none⟩ = some (.int .i64 (((j : Nat) : Int) + 1)) ∧ w'.cell? ⟨gr, j * 10 + 2, none⟩ = some (.int .i64 ((yt : Nat) : Int))) (go_keep)
          (first
            | (go_at_call 264; refine (plast_c (pb := pb) (g := gr) (c := c) (t := yt) hjl hlen ?_ ?_ ?_).mono ?_; (simp [*]); (simp [*]); (simp [*]); rintro e w8 ⟨rfl, nq, rfl⟩))
        all_goals
          go_wp2
          go_returns
          refine KEY.out _ ?_ ?_ ?_
          · first
              | exact ((below_drewN (Below.refl _ _) _).alloc (Nat.le_refl _) _).alloc (by simp) _
              | exact (below_drewN ((Below.refl _ _).alloc (Nat.le_refl _) _) _).alloc (by simp) _
              | exact below_drewN (((Below.refl _ _).alloc (Nat.le_refl _) _).alloc (by simp) _) _
              | exact (((Below.refl _ _).alloc (Nat.le_refl _) _).drew.alloc (by simp) _)
          · exact push2_0 w7.heap _ _
          · exact push2_1 w7.heap _ _
end Go.Proofs.YtpiimcbbgalhfaaGreatDoor
/- The parser of patterns: many, item. -/
namespace Go.Proofs.YtpiimcbbgalhfaaGreatDoor
set_option maxRecDepth 100000
open Go.RowKit
theorem many_one {w : World} {k : Int} {g c b : Nat} (h0 : w.cell? ⟨g, 0, none⟩ = some (.pointer (some ⟨b, 0, none⟩))) :
    Calls Tryz.prog 133 #[.int .i64 k, .slice (some ⟨g, 0, none⟩) 1 c] w fun v w' => v = .returned (.pointer (some ⟨b, 0, none⟩)) ∧ w' = w := by
  have hlt := cell_lt0 h0
  go_enter Tryz.func133, Tryz.ntmps133
  go_wp2
  go_returns
  exact ⟨rfl, rfl⟩
set_option maxHeartbeats 4000000 in
theorem many_more {w : World} {k : Int} {g c L b0 b1 f t : Nat} (hL : 2 ≤ L) (hm : L ≤ 1048577) (h0 : w.cell? ⟨g, 0, none⟩ = some (.pointer (some ⟨b0, 0, none⟩))) (h1 : w.cell? ⟨g, L - 1, none⟩ = some (.pointer (some ⟨b1, 0, none⟩)))
    (h2 : w.cell? ⟨b0, 9, none⟩ = some (.int .i64 ((f : Nat) : Int))) (h3 : w.cell? ⟨b1, 10, none⟩ = some (.int .i64 ((t : Nat) : Int))) :
    Calls Tryz.prog 133 #[.int .i64 k, .slice (some ⟨g, 0, none⟩) L c] w fun v w' => v = .returned (.pointer (some ⟨w.heap.size, 0, none⟩)) ∧ Below w.heap.size w w' ∧
      Blk w' w.heap.size 34 [.int .i64 k, .int .u64 0, .int .u64 0, .int .u64 0, .int .u64 0, .int .i64 0, .int .i64 0, .bool false, .slice (some ⟨g, 0, none⟩) L c, .int .i64 ((f : Nat) : Int), .int .i64 ((t : Nat) : Int)] := by
  have hq : (((L : Nat) : Int) == 1) = false := by rw [beq_eq_false_iff_ne]; omega
  have hw : IntKind.i64.wrap (((L : Nat) : Int) - 1) = ((L : Nat) : Int) - 1 := IntWalk.i64_in _ (by omega)
  have hw2 : (((L : Nat) : Int) - 1).toNat = L - 1 := by omega
  have hw3 : 1 ≤ ((L : Nat) : Int) := by omega
  have hw5 : 0 < L := by omega
  have hw6 : L - 1 < L := by omega
  have hw4 : ((L : Nat) : Int) - 1 < ((L : Nat) : Int) := by omega
  have hlt0 := cell_lt0 h0
  have hlt2 := cell_lt0 h2
  have hlt3 := cell_lt0 h3
  go_enter Tryz.func133, Tryz.ntmps133
  go_wp2_with fail
  go_still_tail 21, (by kernel_rfl)
  change wpList _ _ _ _ _ w.drew
  go_wp2
  go_returns
  refine ⟨rfl, (Below.refl _ w).drew.alloc (Nat.le_refl _) _, ?_⟩
  exact Blk.new w.drew _ _
end Go.Proofs.YtpiimcbbgalhfaaGreatDoor
