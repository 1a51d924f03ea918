/- The parser of patterns: alt; all. -/
import Derived.Test.YtpiimcbbgalhfaaGreatDoorBj
namespace Go.Proofs.YtpiimcbbgalhfaaGreatDoor
set_option maxRecDepth 100000
open Go.RowKit
/-- Where the loop of alt stands. -/
def AltRun (w wr : World) (pb : Nat) (o : Option Addr) (c : Nat) (T : List Tk) (size d i n : Nat) (lv : Value) : Prop :=
  (∃ (l : List Tree) (j f : Nat), Psr wr pb o c T size j d 0 0 ∧ RowT w wr lv l ∧ 0 < l.length ∧ l.length ≤ j + 1 ∧ i ≤ j ∧ T.length - j < f ∧ altW T size (altF T size n) d i = altEnd (altLoop T size (altF T size n) d f l j)) ∨
  (∃ p e i' l, altW T size (altF T size n) d i = .err p e ∧ e ≠ 0 ∧ Psr wr pb o c T size i' d p e ∧ RowT w wr lv l ∧ 0 < l.length ∧ l.length ≤ 1048577)
theorem RowT.lit {w0 W : World} {n : Tree} {b : Nat} {w1 : World} (hn : TreeAt W (From w1) n b) (hw : w0.heap.size ≤ w1.heap.size) (hW : w0.heap.size ≤ W.heap.size) : RowT w0 (W.alloc (.cells #[ptrV b] 26)) (.slice (some ⟨W.heap.size, 0, none⟩) 1 1) [n] := by
  have hb : Below W.heap.size W (W.alloc (.cells #[ptrV b] 26)) := (Below.refl _ W).alloc (Nat.le_refl _) _
  refine ⟨[b], rfl, World.ownsRow_lit (base := w0.heap.size) (e := 26) (size := 1) W #[ptrV b] 1 hW (by unfold maxLen; omega) (by simp), fun k m q hk hq => ?_⟩
  cases k with
  | zero =>
    injection hk with hk
    injection hq with hq
    subst hk
    subst hq
    exact (hn.turn (fun k _ hk => hb.block k hk) (S' := fun q => w0.heap.size ≤ q ∧ (Value.slice (some ⟨W.heap.size, 0, none⟩) 1 1).ownBlock ≠ some q) (fun k hk hl => ⟨Nat.le_trans hw hk, fun e => by
      have : W.heap.size = k := by injection e
      omega⟩))
  | succ k => cases hk
theorem cat_len {T : List Tk} {size d : Nat} {rec : Nat → Nat → PRes} : ∀ (f : Nat) (l : List Tree) (j : Nat) (l' : List Tree) (j' : Nat), altLoop T size rec d f l j = .ok l' j' → l.length ≤ l'.length := by
  intro f
  induction f with
  | zero => intro l j l' j' h; unfold altLoop at h; injection h with h; rw [h]; exact Nat.le_refl _
  | succ f ih =>
    intro l j l' j' h
    unfold altLoop at h
    split at h
    · split at h
      · cases h
      · have := ih _ _ _ _ h
        simp at this
        omega
    · injection h with h; rw [h]; exact Nat.le_refl _
set_option maxHeartbeats 8000000 in
theorem palt_step {pb : Nat} {o : Option Addr} {c : Nat} {T : List Tk} {size n : Nat} (h5 : kinds5 T) (hrec : AltOk pb o c T size n) : AltOk pb o c T size (n + 1) := by
  intro d i w h hn
  show Calls Tryz.prog 75 #[.pointer (some ⟨pb, 0, none⟩)] w fun v w' => NodePost w w' pb o c T size d (altW T size (altF T size n) d i) v
  have hlt := h.blk.lt
  have hlen := h.len
  have hle0 := h.le
  have HAW := Lib.hid (show altW T size (altF T size n) d i = match catW T size (altF T size n) d i with
    | .err p e => .err p e
    | .ok n' j => altEnd (altLoop T size (altF T size n) d (T.length + 1 - j) [n'] j) from rfl)
  have HCE := Lib.hid (catW_even (size := size) (rec := altF T size n) (d := d) hle0 (fun k h1 h2 => altF_even n (d + 1) (k + 1) h2 (by omega)))
  go_enter Tryz.func75, Tryz.ntmps75
  go_wp2_with fail
  refine (pcat_at h h5 (by omega) hrec).mono ?_
  rintro v w1 hpost
  have hst : ∃ b, v = .returned (ptrV b) ∧ AltRun w (w1.alloc (.cells #[ptrV b] 26)) pb o c T size d i n (.slice (some ⟨w1.heap.size, 0, none⟩) 1 1) ∧ w.grownBy (w1.alloc (.cells #[ptrV b] 26)) (some pb) := by
    have haw := HAW.out
    have hce := HCE.out
    cases hr : catW T size (altF T size n) d i with
    | err p e =>
      rw [hr] at hpost haw
      obtain ⟨b, fr, i', rfl, he, hP, hg, htr⟩ := hpost
      exact ⟨b, rfl, .inr ⟨p, e, i', _, haw, he, hP.below ((Below.refl _ _).alloc (Nat.le_refl _) _), RowT.lit htr (Nat.le_refl _) hg.size, by simp, by simp⟩, grown_alloc hg _⟩
    | ok m j =>
      rw [hr] at hpost haw hce
      obtain ⟨b, rfl, hP, hg, htr⟩ := hpost
      obtain ⟨hj, hev, -, -⟩ := hce
      exact ⟨b, rfl, .inl ⟨[m], j, T.length + 1 - j, hP.below ((Below.refl _ _).alloc (Nat.le_refl _) _), RowT.lit htr (Nat.le_refl _) hg.size, by simp, by simp, hev.le, by omega, haw⟩, grown_alloc hg _⟩
  obtain ⟨b, rfl, hst, hgs⟩ := hst
  have HST := Lib.hid (And.intro hst hgs)
  clear hpost h hst hgs HAW HCE
  go_wp2_with fail
  go_loopw [3] (fun lv wr => w.grownBy wr (some pb) ∧ AltRun w wr pb o c T size d i n lv) (fun _ wr => if errP wr pb = 0 then T.length + 1 - nextP wr pb else 0)
  case atStart => exact ⟨HST.out.2, HST.out.1⟩
  case round =>
    clear HST
    obtain ⟨hg, hrun⟩ := hrel
    rename World => w2
    rcases hrun with ⟨l, j, f, hP, hrow, hlp, hlj, hij, hf, heq⟩ | ⟨p, e, i', l, heq, he, hP, hrow, hlp, hll⟩
    · have HPO := Lib.hid hP.pos
      have hjl := hP.le
      have HQ := Lib.hid heq
      clear heq
      obtain ⟨f, rfl⟩ : ∃ f', f = f' + 1 := ⟨f - 1, by omega⟩
      obtain ⟨⟨c0, c1, c2, c3, c4, c5⟩, f1, f3, f4, f5⟩ := hP.cells
      go_wp2_with fail
      refine (pis_at 4 hP).mono ?_
      rintro v w3 ⟨rfl, hb⟩
      replace hP := hP.below hb
      replace hrow := hrow.below hb
      replace hg := only_below hg hb
      clear hb c0 c1 c2 c3 c4 c5 f1 f3 f4 f5
      obtain ⟨⟨c0, c1, c2, c3, c4, c5⟩, f1, f3, f4, f5⟩ := hP.cells
      by_cases hk : kindAt T j = some 4
      · have hjlt : j < T.length := by
          unfold kindAt at hk
          obtain ⟨x, hx, _⟩ := Option.map_eq_some_iff.1 hk
          exact (List.getElem?_eq_some_iff.1 hx).1
        have HC := Lib.hid (show altLoop T size (altF T size n) d (f + 1) l j = match catW T size (altF T size n) d (j + 1) with
          | .err p e => .err p e
          | .ok n' k => altLoop T size (altF T size n) d f (l ++ [n']) k by
            conv => lhs; unfold altLoop
            rw [if_pos hk]; rfl)
        have HCE := Lib.hid (catW_even (size := size) (i := j + 1) (rec := altF T size n) (d := d) hjlt (fun k h1 h2 => altF_even n (d + 1) (k + 1) h2 (by omega)))
        rw [show decide (kindAt T j = some 4) = true from decide_eq_true hk]
        clear hk
        obtain ⟨hP2, hg2⟩ := hP.next (j + 1) (((j : Nat) : Int) + 1) (by omega) hjlt
        replace hrow := hrow.turn hg2 hlt
        replace hg := only_trans hg hg2
        go_upto_region 4 with fail
        generalize World.setCell _ _ _ = w4 at *
        clear hP hg2 c0 c1 c2 c3 c4 c5 f1 f3 f4 f5
        have hP := hP2
        clear hP2
        go_wp2_with fail
        refine (pcat_at hP h5 (by omega) hrec).mono ?_
        rintro v w5' hpost
        cases hr : catW T size (altF T size n) d (j + 1) with
        | err p e =>
          rw [hr] at hpost
          obtain ⟨b, fr, i', rfl, he, hP5, hg5, htr⟩ := hpost
          have HR := Lib.hid (show altW T size (altF T size n) d i = .err p e by rw [HQ.out, HC.out, hr]; rfl)
          have HE := Lib.hid he
          clear he HCE
          have hown4 := Lib.hid hrow.own
          have hsz2 := hg.size
          replace hrow := hrow.turn hg5 hlt
          replace hg := only_trans hg hg5
          have hsz5 := hg.size
          have hlive := hP5.blk.lt
          obtain ⟨bs, hbs, hown, h3r⟩ := hrow
          have HOW := Lib.hid hown
          have HBS := Lib.hid hbs
          have H3 := Lib.hid h3r
          have HTR := Lib.hid htr
          have HNE := Lib.hid (show ∀ k, u3.ownBlock = some k → w.heap.size ≤ k from fun k hk => (hown.lt k hk).1)
          clear hown hr hg5 HC HQ hP hbs h3r htr
          go_wp2_with (at_builtin; refine append_far rfl (.tmp 27) (.tmp 30) 31 rfl w.heap.size 26 1 8 elem_node _ _ _ rfl HOW.out [.pointer (some ⟨b, 0, none⟩)] rfl rfl (one_ptr _) ?h1a ?h2a ?h3a ?h4a; (case h1a => omega); (case h2a => omega); (case h3a => omega); intro g5 cap5 w5 hown5 hmv)
          have hgm := grown_moved hg hmv HNE.out
          have hP6 := hP5.moved hmv (fun e => by have := HNE.out _ e; omega) (fun k q e => by have := HNE.out _ e; have := q; omega)
          have HPO6 := Lib.hid hP6.pos
          have HROW := Lib.hid (RowT.snoc HBS.out H3.out hown4.out hsz2 HTR.out hown5 hmv)
          clear hmv hP5 hown5 H3 HTR HBS
          go_roundw
          case rel => exact ⟨hgm, .inr ⟨p, e, i', _, HR.out, HE.out, hP6, HROW.out, by simp, by simp; omega⟩⟩
          case measure =>
            rw [HPO6.out.1, HPO6.out.2, HPO.out.1, HPO.out.2, if_neg HE.out, if_pos rfl]
            omega
        | ok m k =>
          rw [hr] at hpost
          obtain ⟨b, rfl, hP5, hg5, htr⟩ := hpost
          have hce := HCE.out
          rw [hr] at hce
          obtain ⟨hk1, hev, -, -⟩ := hce
          have hk2 := hev.le
          have HR := Lib.hid (show altW T size (altF T size n) d i = altEnd (altLoop T size (altF T size n) d f (l ++ [m]) k) by rw [HQ.out, HC.out, hr])
          clear hev HCE
          have hown4 := Lib.hid hrow.own
          have hsz2 := hg.size
          replace hrow := hrow.turn hg5 hlt
          replace hg := only_trans hg hg5
          have hsz5 := hg.size
          have hlive := hP5.blk.lt
          obtain ⟨bs, hbs, hown, h3r⟩ := hrow
          have HOW := Lib.hid hown
          have HBS := Lib.hid hbs
          have H3 := Lib.hid h3r
          have HTR := Lib.hid htr
          have HNE := Lib.hid (show ∀ k, u3.ownBlock = some k → w.heap.size ≤ k from fun k hk => (hown.lt k hk).1)
          clear hown hr hg5 HC HQ hP hbs h3r htr
          go_wp2_with (at_builtin; refine append_far rfl (.tmp 27) (.tmp 30) 31 rfl w.heap.size 26 1 8 elem_node _ _ _ rfl HOW.out [.pointer (some ⟨b, 0, none⟩)] rfl rfl (one_ptr _) ?h1b ?h2b ?h3b ?h4b; (case h1b => omega); (case h2b => omega); (case h3b => omega); intro g5 cap5 w5 hown5 hmv)
          have hgm := grown_moved hg hmv HNE.out
          have hP6 := hP5.moved hmv (fun e => by have := HNE.out _ e; omega) (fun k q e => by have := HNE.out _ e; have := q; omega)
          have HPO6 := Lib.hid hP6.pos
          have HROW := Lib.hid (RowT.snoc HBS.out H3.out hown4.out hsz2 HTR.out hown5 hmv)
          clear hmv hP5 hown5 H3 HTR HBS
          go_roundw
          case rel => exact ⟨hgm, .inl ⟨l ++ [m], k, f, hP6, HROW.out, by simp, by simp; omega, by omega, by omega, HR.out⟩⟩
          case measure =>
            rw [HPO6.out.1, HPO6.out.2, HPO.out.1, HPO.out.2, if_pos rfl, if_pos rfl]
            omega
      · have HR := Lib.hid (show altW T size (altF T size n) d i = .ok (manyT 5 l) j by
          rw [HQ.out]
          unfold altLoop
          rw [if_neg hk]
          rfl)
        rw [show decide (kindAt T j = some 4) = false from decide_eq_false hk]
        clear hk
        have hform := own_form (Exists.choose_spec hrow).2.1
        rcases hform with ⟨rfl, hz⟩ | ⟨b', cap, rfl⟩
        · omega
        · go_wp2_with fail
          refine (many_at (k := 5) hrow hlp (by omega) hg.size).mono ?_
          rintro v w4 ⟨b, rfl, hb, htr⟩
          replace hP := hP.below hb
          replace hg := only_below hg hb
          clear hb c0 c1 c2 c3 c4 c5 f1 f3 f4 f5
          go_wp2
          go_returns
          rw [HR.out]
          exact ⟨b, rfl, hP, hg, htr⟩
    · have HE := Lib.hid he
      have HR := Lib.hid heq
      have he1 : (((e : Nat) : Int) != 0) = true := by rw [bne_iff_ne]; omega
      have he2 : (((e : Nat) : Int) == 0) = false := by rw [beq_eq_false_iff_ne]; omega
      clear he heq
      obtain ⟨⟨c0, c1, c2, c3, c4, c5⟩, f1, f3, f4, f5⟩ := hP.cells
      have hform := own_form (Exists.choose_spec hrow).2.1
      rcases hform with ⟨rfl, hz⟩ | ⟨b', cap, rfl⟩
      · omega
      · go_wp2_with fail
        refine (many_at (k := 5) hrow hlp (by omega) hg.size).mono ?_
        rintro v w4 ⟨b, rfl, hb, htr⟩
        replace hP := hP.below hb
        replace hg := only_below hg hb
        clear hb c0 c1 c2 c3 c4 c5 f1 f3 f4 f5
        go_wp2
        go_returns
        rw [HR.out]
        exact ⟨_, i', rfl, HE.out, hP, hg⟩
/-- alt, wherever it is called. -/
theorem palt_ok {pb : Nat} {o : Option Addr} {c : Nat} {T : List Tk} {size : Nat} (h5 : kinds5 T) : ∀ n, AltOk pb o c T size n := by
  intro n
  induction n with
  | zero => intro d i w h hn; omega
  | succ n ih => exact palt_step h5 ih
end Go.Proofs.YtpiimcbbgalhfaaGreatDoor
/- syntax.Parse. -/
namespace Go.Proofs.YtpiimcbbgalhfaaGreatDoor
set_option maxRecDepth 100000
open Go.RowKit
theorem lazyM_kind {t : List Nat} {lo : Nat} {hi : Int} {i : Nat} {x : Tok} {j : Nat} (h : lazyM t lo hi i = .ok x j) : x.kind ≤ 5 := by
  unfold lazyM at h
  by_cases h1 : t[i]? = some 63
  · simp only [h1, if_true] at h
    split at h
    · cases h
    · injection h with h; subst h; exact Nat.le_refl _
  · simp only [h1, if_false] at h
    split at h
    · cases h
    · injection h with h; subst h; exact Nat.le_refl _
theorem setRes_kind {r : Res (Nat → Bool)} {x : Tok} {j : Nat} (h : setRes r = .ok x j) : x.kind ≤ 5 := by
  cases r with
  | err k e => cases h
  | ok m k => injection h with h; subst h; exact Nat.zero_le _
theorem tokM_kind {t : List Nat} {i : Nat} {x : Tok} {j : Nat} (h : tokM t i = .ok x j) : x.kind ≤ 5 := by
  unfold tokM at h
  cases hc : t[i]? with
  | none => rw [hc] at h; cases h
  | some c =>
    rw [hc] at h
    dsimp only at h
    by_cases h0 : c = 92
    · rw [if_pos h0] at h; exact setRes_kind h
    rw [if_neg h0] at h
    by_cases h1 : c = 91
    · rw [if_pos h1] at h; exact setRes_kind h
    rw [if_neg h1] at h
    by_cases h2 : c = 40
    · rw [if_pos h2] at h
      unfold groupM at h
      split at h
      · split at h
        · injection h with h; subst h; decide
        · cases h
      · injection h with h; subst h; decide
    rw [if_neg h2] at h
    by_cases h3 : c = 41
    · rw [if_pos h3] at h; injection h with h; subst h; decide
    rw [if_neg h3] at h
    by_cases h4 : c = 124
    · rw [if_pos h4] at h; injection h with h; subst h; decide
    rw [if_neg h4] at h
    by_cases h5 : c = 46
    · rw [if_pos h5] at h; injection h with h; subst h; exact Nat.zero_le _
    rw [if_neg h5] at h
    by_cases h6 : c = 42
    · rw [if_pos h6] at h; exact lazyM_kind h
    rw [if_neg h6] at h
    by_cases h7 : c = 43
    · rw [if_pos h7] at h; exact lazyM_kind h
    rw [if_neg h7] at h
    by_cases h8 : c = 63
    · rw [if_pos h8] at h; exact lazyM_kind h
    rw [if_neg h8] at h
    by_cases h9 : c = 123
    · rw [if_pos h9] at h
      split at h
      · cases h
      · exact lazyM_kind h
    rw [if_neg h9] at h
    by_cases ha : c = 94 ∨ c = 36
    · rw [if_pos ha] at h; cases h
    rw [if_neg ha] at h
    by_cases hb : loneL.contains c = true
    · rw [if_pos hb] at h; cases h
    rw [if_neg hb] at h
    injection h with h; subst h; exact Nat.zero_le _
theorem scanLoop_kind {t : List Nat} : ∀ (f i : Nat) (l L : List Tk) (n : Nat), (∀ y ∈ l, y.1.kind ≤ 5) → scanLoop t f i l = .ok L n → ∀ y ∈ L, y.1.kind ≤ 5 := by
  intro f
  induction f with
  | zero => intro i l L n hl h; unfold scanLoop at h; injection h with h; subst h; exact hl
  | succ f ih =>
    intro i l L n hl h
    unfold scanLoop at h
    split at h
    · cases hk : tokM t i with
      | err j e => rw [hk] at h; cases h
      | ok x j =>
        rw [hk] at h
        refine ih j _ L n (fun y hy => ?_) h
        rcases List.mem_append.1 hy with hy | hy
        · exact hl y hy
        · obtain rfl := List.mem_singleton.1 hy
          exact tokM_kind hk
    · injection h with h; subst h; exact hl
theorem scan_kinds {t : List Nat} {L : List Tk} {n : Nat} (h : scanM t = .ok L n) : kinds5 L := fun i x hx => scanLoop_kind _ _ _ _ _ (fun y hy => by cases hy) h x (List.mem_of_getElem? hx)
theorem scanLoop_len {t : List Nat} : ∀ (f i : Nat) (l L : List Tk) (n : Nat), l.length ≤ i → i ≤ t.length → scanLoop t f i l = .ok L n → L.length ≤ t.length := by
  intro f
  induction f with
  | zero => intro i l L n hl hi h; unfold scanLoop at h; injection h with h; subst h; omega
  | succ f ih =>
    intro i l L n hl hi h
    unfold scanLoop at h
    split at h
    · cases hk : tokM t i with
      | err j e => rw [hk] at h; cases h
      | ok x j =>
        rw [hk] at h
        have := tokM_le hk
        exact ih j _ L n (by simp; omega) this.2 h
    · injection h with h; subst h; omega
theorem scan_len {t : List Nat} {L : List Tk} {n : Nat} (h : scanM t = .ok L n) : L.length ≤ t.length := scanLoop_len (t.length + 1) 0 [] L n (Nat.le_refl 0) (Nat.zero_le _) h
/-- A pattern, of whatever length. -/
def parseB (s : ByteArray) : PRes := if 1048576 < s.size then .err 0 3 else parseM s
/-- What Parse answers. -/
def ParseIs (w w' : World) (s : ByteArray) (v : Ending) : Prop := match parseB s with
  | .ok n _ => ∃ b, v = .returned (.tuple #[ptrV b, .int .i64 0, .int .i64 0]) ∧ TreeAt w' (From w) n b
  | .err p e => v = .returned (.tuple #[.pointer none, .int .i64 ((p : Nat) : Int), .int .i64 ((e : Nat) : Int)]) ∧ e ≠ 0
set_option maxHeartbeats 8000000 in
theorem sparse_at (s : ByteArray) (w : World) (hT : TabOk w) :
    Calls Tryz.prog 12 #[.string s] w fun v w' => ParseIs w w' s v ∧ Below w.heap.size w w' := by
  go_enter Tryz.func12, Tryz.ntmps12
  go_wp2_with fail
  refine (scan_at s w hT).mono ?_
  rintro v w1 ⟨lv, na, e, rfl, his, hb⟩
  unfold ScanIs at his
  by_cases hbig : 1048576 < s.size
  · rw [if_pos hbig] at his
    obtain ⟨rfl, rfl, rfl⟩ := his
    have HB := Lib.hid hbig
    clear hbig
    go_wp2
    go_returns
    refine ⟨?_, hb⟩
    unfold ParseIs parseB
    rw [if_pos HB.out]
    exact ⟨rfl, by omega⟩
  · rw [if_neg hbig] at his
    have HPB := Lib.hid (show parseB s = parseM s by unfold parseB; rw [if_neg hbig])
    cases hs : scanM (bytesN s) with
    | err j k =>
      rw [hs] at his
      obtain ⟨rfl, rfl, rfl, hk⟩ := his
      have HR := Lib.hid (show parseB s = .err j e by rw [HPB.out]; unfold parseM; rw [hs])
      have he1 : (((e : Nat) : Int) != 0) = true := by rw [bne_iff_ne]; omega
      have he2 : (((e : Nat) : Int) == 0) = false := by rw [beq_eq_false_iff_ne]; omega
      have HE := Lib.hid hk
      clear hk hs HPB
      go_wp2
      go_returns
      refine ⟨?_, hb⟩
      unfold ParseIs
      rw [HR.out]
      exact ⟨rfl, HE.out⟩
    | ok L m =>
      rw [hs] at his
      obtain ⟨hown, rfl, rfl⟩ := his
      have h5 := scan_kinds hs
      have hlen := scan_len hs
      rw [bytesN_length] at hlen
      have HR := Lib.hid (show parseB s = treeM L s.size by rw [HPB.out]; unfold parseM; rw [hs])
      have HS := Lib.hid hs
      clear hs HPB
      obtain ⟨o, c, rfl, ho⟩ : ∃ (o : Option Addr) (c : Nat), lv = .slice o L.length c ∧ (0 < L.length → ∃ g, o = some ⟨g, 0, none⟩) := by
        rcases hown.2 with ⟨rfl, h0⟩ | ⟨g, cap, cur, rfl, _⟩
        · exact ⟨none, 0, by rw [h0], fun h => by omega⟩
        · exact ⟨some ⟨g, 0, none⟩, cap, rfl, fun _ => ⟨g, rfl⟩⟩
      have hrow : ∀ k x f t, L[k]? = some (x, f, t) → ∃ g, o = some ⟨g, 0, none⟩ ∧ g < w1.heap.size ∧ ∀ r v, (tokL x f t)[r]? = some v → w1.cell? ⟨g, k * 10 + r, none⟩ = some v := by
        intro k x f t hk
        have hkl := (List.getElem?_eq_some_iff.1 hk).1
        obtain ⟨g, rfl⟩ := ho (by omega)
        exact ⟨g, rfl, (hown.lt g rfl).2, fun r v hv => own_cell hown _ _ (toksC_get hk hv)⟩
      have hblk := Blk.new w1 [.slice o L.length c, .int .i64 0, .int .i64 ((s.size : Nat) : Int), .int .i64 0, .int .i64 0, .int .i64 0] 108
      have hbel : Below w1.heap.size w1 (w1.alloc (.cells #[.slice o L.length c, .int .i64 0, .int .i64 ((s.size : Nat) : Int), .int .i64 0, .int .i64 0, .int .i64 0] 108)) := (Below.refl _ w1).alloc (Nat.le_refl _) _
      have hP : Psr (w1.alloc (.cells #[.slice o L.length c, .int .i64 0, .int .i64 ((s.size : Nat) : Int), .int .i64 0, .int .i64 0, .int .i64 0] 108)) w1.heap.size o c L s.size 0 0 0 0 :=
        ⟨hblk, fun k x f t hk => by
          obtain ⟨g, h1, h2, h3⟩ := hrow k x f t hk
          exact ⟨g, h1, h2, fun r v hv => (hbel.cell (p := ⟨g, k * 10 + r, none⟩) h2).trans (h3 r v hv)⟩, Nat.zero_le _, by omega, by omega, by omega⟩
      have hb2 := hb.trans (hbel.mono hb.size)
      have hsz := hb.size
      clear hrow ho hown hblk hbel
      go_upto_region 5 with fail
      generalize w1.alloc _ = w2 at *
      generalize w1.heap.size = pb at *
      go_wp2_with fail
      refine (palt_ok h5 (L.length + 1) 0 0 w2 hP (by omega)).mono ?_
      rintro v w3 hpost
      have hlt := hP.blk.lt
      cases hr : altF L s.size (L.length + 1) 0 0 with
      | err p e =>
        rw [hr] at hpost
        obtain ⟨a, i', rfl, he, hP3, hg⟩ := hpost
        have HQ := Lib.hid (show parseB s = .err p e by rw [HR.out]; unfold treeM; rw [hr])
        have HE := Lib.hid he
        have hb3 := below_turned hb2 hg hsz (by omega)
        have he1 : (((e : Nat) : Int) != 0) = true := by rw [bne_iff_ne]; omega
        have he2 : (((e : Nat) : Int) == 0) = false := by rw [beq_eq_false_iff_ne]; omega
        clear hr hP hg HR
        obtain ⟨⟨c0, c1, c2, c3, c4, c5⟩, f1, f3, f4, f5⟩ := hP3.cells
        go_wp2_with fail
        refine (ppeek_at hP3).mono ?_
        rintro v w4 ⟨rfl, hbp⟩
        replace hP3 := hP3.below hbp
        replace hb3 := hb3.trans (hbp.mono (by have := hb3.size; omega))
        clear hbp c0 c1 c2 c3 c4 c5 f1 f3 f4 f5
        have hbb := (Below.refl _ w4).alloc (Nat.le_refl _) (.cells (tokL (peekT L s.size i').1 (peekT L s.size i').2.1 (peekT L s.size i').2.2).toArray 111)
        replace hP3 := hP3.below hbb
        replace hb3 := hb3.trans (hbb.mono (by have := hb3.size; omega))
        have hcf := (Blk.new w4 (tokL (peekT L s.size i').1 (peekT L s.size i').2.1 (peekT L s.size i').2.2) 111).cell 1
        clear hbb
        unfold tokV
        generalize hq : (L[i']?).isSome = z at *
        have HQZ := Lib.hid hq
        clear hq
        cases z with
        | true =>
          go_upto_region 8 with fail
          have hcf' := hcf
          clear hcf
          generalize w4.alloc _ = w5 at *
          change w5.cell? ⟨w4.heap.size, 1, none⟩ = some (.int .i64 (((peekT L s.size i').2.1 : Nat) : Int)) at hcf'
          go_wp2_with fail
          refine (pfail_no _ 4 hP3 HE.out).mono ?_
          rintro v w6 ⟨⟨u, rfl⟩, rfl⟩
          rename World => w6
          obtain ⟨⟨c0, c1, c2, c3, c4, c5⟩, f1, f3, f4, f5⟩ := hP3.cells
          go_wp2_with fail
          go_quiet (fail)
          go_wp2
          go_returns
          refine ⟨?_, below_drewN hb3 _⟩
          unfold ParseIs
          rw [HQ.out]
          exact ⟨rfl, HE.out⟩
        | false =>
          clear hcf
          go_upto_region 9 with fail
          generalize w4.alloc _ = w5 at *
          obtain ⟨⟨c0, c1, c2, c3, c4, c5⟩, f1, f3, f4, f5⟩ := hP3.cells
          go_wp2_with fail
          go_quiet (fail)
          go_wp2
          go_returns
          refine ⟨?_, below_drewN hb3 _⟩
          unfold ParseIs
          rw [HQ.out]
          exact ⟨rfl, HE.out⟩
      | ok t j =>
        rw [hr] at hpost
        obtain ⟨b, rfl, hP3, hg, htr⟩ := hpost
        replace htr := htr.mono (S' := From w) (fun k hk _ => Nat.le_trans hb2.size hk)
        have hb3 := below_turned hb2 hg hsz (by omega)
        have HA := Lib.hid hr
        clear hr hP hg
        obtain ⟨⟨c0, c1, c2, c3, c4, c5⟩, f1, f3, f4, f5⟩ := hP3.cells
        go_wp2_with fail
        refine (ppeek_at hP3).mono ?_
        rintro v w4 ⟨rfl, hbp⟩
        replace hP3 := hP3.below hbp
        replace htr := htr.under hbp
        replace hb3 := hb3.trans (hbp.mono (by have := hb3.size; omega))
        clear hbp c0 c1 c2 c3 c4 c5 f1 f3 f4 f5
        cases hj : L[j]? with
        | some x =>
          obtain ⟨x, xf, xt⟩ := x
          rw [peekT_some hj]
          simp only [Option.isSome_some]
          have HQ := Lib.hid (show parseB s = .err xf 4 by rw [HR.out]; unfold treeM; rw [HA.out]; simp only []; rw [hj])
          clear HR HA hj htr
          have hbb := (Below.refl _ w4).alloc (Nat.le_refl _) (.cells (tokL x xf xt).toArray 111)
          replace hP3 := hP3.below hbb
          replace hb3 := hb3.trans (hbb.mono (by have := hb3.size; omega))
          have hcf := (Blk.new w4 (tokL x xf xt) 111).cell 1
          clear hbb
          unfold tokV
          go_upto_region 8 with fail
          have hcf' := hcf
          clear hcf
          generalize w4.alloc _ = w5 at *
          change w5.cell? ⟨w4.heap.size, 1, none⟩ = some (.int .i64 ((xf : Nat) : Int)) at hcf'
          go_wp2_with fail
          refine (pfail_at xf 4 hP3).mono ?_
          rintro v w6 ⟨⟨u, rfl⟩, hP6, hg6⟩
          have hb6 := below_turned hb3 hg6 hsz (by have := hb3.size; omega)
          clear hcf' hP3 hg6 hb3
          obtain ⟨⟨c0, c1, c2, c3, c4, c5⟩, f1, f3, f4, f5⟩ := hP6.cells
          go_wp2_with fail
          go_quiet (fail)
          go_wp2
          go_returns
          refine ⟨?_, below_drewN hb6 _⟩
          unfold ParseIs
          rw [HQ.out]
          exact ⟨rfl, by omega⟩
        | none =>
          rw [peekT_none hj]
          simp only [Option.isSome_none]
          have HQ := Lib.hid (show parseB s = .ok t j by rw [HR.out]; unfold treeM; rw [HA.out]; simp only []; rw [hj])
          clear HR HA hj
          have hbb := (Below.refl _ w4).alloc (Nat.le_refl _) (.cells (tokL zeroTok s.size s.size).toArray 111)
          replace hP3 := hP3.below hbb
          replace htr := htr.under hbb
          replace hb3 := hb3.trans (hbb.mono (by have := hb3.size; omega))
          clear hbb
          unfold tokV
          go_upto_region 9 with fail
          generalize w4.alloc _ = w5 at *
          obtain ⟨⟨c0, c1, c2, c3, c4, c5⟩, f1, f3, f4, f5⟩ := hP3.cells
          go_wp2
          go_returns
          refine ⟨?_, hb3⟩
          unfold ParseIs
          rw [HQ.out]
          exact ⟨b, rfl, htr⟩
end Go.Proofs.YtpiimcbbgalhfaaGreatDoor
