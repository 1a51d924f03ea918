/- A reader of a pattern, as it lies; peek, is, fail, bad. -/
import Derived.Test.YtofhkgafgnldnaaDoorTokP
import Derived.Test.YtofhkgafgnldnaaDoorOps
import Derived.BigQuiet
namespace Go.Proofs.YtofhkgafgnldnaaDoor
open Go.RowKit
theorem bytesN_length (s : ByteArray) : (bytesN s).length = s.size := by simp [bytesN]
theorem bytesN_some {s : ByteArray} {i c : Nat} (h : (bytesN s)[i]? = some c) : ∃ hi : i < s.size, (s[i]'hi).toNat = c := by
  unfold bytesN at h
  rw [List.getElem?_map, Option.map_eq_some_iff] at h
  obtain ⟨b, hb, rfl⟩ := h
  rw [Array.getElem?_toList, Array.getElem?_eq_some_iff] at hb
  obtain ⟨hi, rfl⟩ := hb
  exact ⟨hi, rfl⟩
theorem bytesN_none {s : ByteArray} {i : Nat} (h : (bytesN s)[i]? = none) : s.size ≤ i := by
  rw [List.getElem?_eq_none_iff, bytesN_length] at h
  exact h
theorem bytesN_lt {s : ByteArray} {i c : Nat} (h : (bytesN s)[i]? = some c) : c < 256 := by
  obtain ⟨hi, rfl⟩ := bytesN_some h
  exact (s[i]'hi).toNat_lt
/-- Block b holds a reader of the text s: it stands at i, its error is e, its tokens are lv. -/
structure Rdr (w : World) (b : Nat) (s : ByteArray) (i e : Nat) (lv : Value) : Prop where
  blk : Blk w b 51 [.string s, .int .i64 ((i : Nat) : Int), .int .i64 ((e : Nat) : Int), lv]
  tab : TabOk w
  ne : b ≠ 1
  le : i ≤ s.size
  size : s.size ≤ 1048576
theorem Rdr.below {w w' : World} {b : Nat} {s : ByteArray} {i e : Nat} {lv : Value} (h : Rdr w b s i e lv) (hb : Below w.heap.size w w') : Rdr w' b s i e lv := ⟨h.blk.below hb h.blk.lt, h.tab.below hb, h.ne, h.le, h.size⟩
theorem TabOk.only {w w' : World} {b : Nat} (h : TabOk w) (hg : w.grownBy w' (some b)) (hne : b ≠ 1) : TabOk w' := by
  intro j hj
  have hc := h j hj
  have hlt : 1 < w.heap.size := by
    unfold World.cell? at hc
    rcases Nat.lt_or_ge 1 w.heap.size with hl | hl
    · exact hl
    · simp only [] at hc
      rw [Array.getElem?_eq_none hl] at hc
      cases hc
  rw [← hc]
  exact World.cell?_of_block (hg.block _ hlt (by simp; exact fun e => hne e.symm))
theorem Rdr.turn {w w' : World} {b : Nat} {s : ByteArray} {i e i' e' : Nat} {lv : Value} (h : Rdr w b s i e lv) (hg : w.grownBy w' (some b)) (hle : i' ≤ s.size)
    (hb : Blk w' b 51 [.string s, .int .i64 ((i' : Nat) : Int), .int .i64 ((e' : Nat) : Int), lv]) : Rdr w' b s i' e' lv := ⟨hb, h.tab.only hg h.ne, h.ne, hle, h.size⟩
theorem only_refl (w : World) (b : Nat) : w.grownBy w (some b) := World.grownBy.refl _ _
theorem only_of {w w' : World} (b : Nat) (hb : Below w.heap.size w w') : w.grownBy w' (some b) := only_below (only_refl w b) hb
theorem only_trans {w w1 w2 : World} {b : Nat} (h : w.grownBy w1 (some b)) (h' : w1.grownBy w2 (some b)) : w.grownBy w2 (some b) :=
  ⟨h'.os.trans h.os, h'.tape.trans h.tape, h'.output.trans h.output, Nat.le_trans h.size h'.size, fun i hi hn => (h'.block i (Nat.lt_of_lt_of_le hi h.size) hn).trans (h.block i hi hn)⟩
/-- What peek answers. -/
def peekV (t : List Nat) (i : Nat) : Value := match t[i]? with
  | none => .tuple #[.int .u8 0, .bool false]
  | some c => .tuple #[.int .u8 ((c : Nat) : Int), .bool true]
theorem Rdr.cells {w : World} {b : Nat} {s : ByteArray} {i e : Nat} {lv : Value} (h : Rdr w b s i e lv) :
    w.cell? ⟨b, 0, none⟩ = some (.string s) ∧ w.cell? ⟨b, 1, none⟩ = some (.int .i64 ((i : Nat) : Int)) ∧ w.cell? ⟨b, 2, none⟩ = some (.int .i64 ((e : Nat) : Int)) ∧ w.cell? ⟨b, 3, none⟩ = some lv ∧
    w.frozen? ⟨b, 1, none⟩ = false ∧ w.frozen? ⟨b, 2, none⟩ = false ∧ w.frozen? ⟨b, 3, none⟩ = false :=
  ⟨h.blk.cell 0, h.blk.cell 1, h.blk.cell 2, h.blk.cell 3, h.blk.frozen 1, h.blk.frozen 2, h.blk.frozen 3⟩
theorem peek_at {w : World} {b : Nat} {s : ByteArray} {i e : Nat} {lv : Value} (h : Rdr w b s i e lv) :
    Calls Tryd.prog 37 #[.pointer (some ⟨b, 0, none⟩)] w fun v w' => v = .returned (peekV (bytesN s) i) ∧ Below w.heap.size w w' := by
  obtain ⟨c0, c1, _, _, _, _, _⟩ := h.cells
  have hsz := h.size
  unfold peekV
  cases hc : (bytesN s)[i]? with
  | none =>
    have h1 := bytesN_none hc
    have hd : decide (((s.size : Nat) : Int) ≤ ((i : Nat) : Int)) = true := decide_eq_true (by omega)
    clear hc
    go_enter Tryd.func37, Tryd.ntmps37
    go_wp2_with fail
    go_quiet (fail)
    go_wp2
    go_returns
    exact ⟨rfl, below_drewN (Below.refl _ _) _⟩
  | some c =>
    obtain ⟨h1, h2⟩ := bytesN_some hc
    have hd : decide (((s.size : Nat) : Int) ≤ ((i : Nat) : Int)) = false := decide_eq_false (by omega)
    clear hc
    go_enter Tryd.func37, Tryd.ntmps37
    go_wp2_with fail
    go_quiet (fail)
    go_wp2_with fail
    go_quiet (fail)
    go_wp2
    go_returns
    exact ⟨rfl, below_drewN (below_drewN (Below.refl _ _) _) _⟩
theorem bad_at {w : World} {b : Nat} {s : ByteArray} {i e : Nat} {lv : Value} (h : Rdr w b s i e lv) :
    Calls Tryd.prog 15 #[.pointer (some ⟨b, 0, none⟩)] w fun v w' => v = .returned (.bool (decide (e ≠ 0))) ∧ Below w.heap.size w w' := by
  obtain ⟨_, _, c2, _, _, _, _⟩ := h.cells
  by_cases he : e = 0
  · subst he
    go_enter Tryd.func15, Tryd.ntmps15
    go_wp2
    go_returns
    exact ⟨rfl, Below.refl _ _⟩
  · have he' : ((e : Nat) : Int) ≠ 0 := by omega
    have hd := decide_eq_true he
    rw [hd]
    clear hd
    go_enter Tryd.func15, Tryd.ntmps15
    go_wp2
    go_returns
    exact ⟨congrArg (fun t => Ending.returned (.bool t)) (bne_iff_ne.2 he'), Below.refl _ _⟩
/-- fail, where nothing was wrong. -/
theorem fail_at {w : World} {b : Nat} {s : ByteArray} {i j k : Nat} {lv : Value} (h : Rdr w b s i 0 lv) (hj : j ≤ s.size) :
    Calls Tryd.prog 31 #[.pointer (some ⟨b, 0, none⟩), .int .i64 ((j : Nat) : Int), .int .i64 ((k : Nat) : Int)] w fun v w' => (∃ u, v = .returned u) ∧ Rdr w' b s j k lv ∧ w.grownBy w' (some b) := by
  obtain ⟨_, c1, c2, _, f1, f2, _⟩ := h.cells
  go_enter Tryd.func31, Tryd.ntmps31
  go_wp2
  go_returns
  have hg := only_setCell (only_setCell (only_refl w b) 1 (.int .i64 ((j : Nat) : Int))) 2 (.int .i64 ((k : Nat) : Int))
  exact ⟨⟨_, rfl⟩, h.turn hg hj ((h.blk.set 1 _).set 2 _), hg⟩
/-- Whether a byte stands there, and where one stands behind it. -/
def isB (t : List Nat) (i c : Nat) : Bool := decide (t[i]? = some c)
def isI (t : List Nat) (i c : Nat) : Nat := if t[i]? = some c then i + 1 else i
theorem isB_yes {t : List Nat} {i c : Nat} (h : t[i]? = some c) : isB t i c = true ∧ isI t i c = i + 1 := ⟨decide_eq_true h, if_pos h⟩
theorem isB_no {t : List Nat} {i c : Nat} (h : t[i]? ≠ some c) : isB t i c = false ∧ isI t i c = i := ⟨decide_eq_false h, if_neg h⟩
theorem is_at {w : World} {b : Nat} {s : ByteArray} {i e : Nat} {lv : Value} (c : Nat) (h : Rdr w b s i e lv) :
    Calls Tryd.prog 34 #[.pointer (some ⟨b, 0, none⟩), .int .u8 ((c : Nat) : Int)] w fun v w' => v = .returned (.bool (isB (bytesN s) i c)) ∧ Rdr w' b s (isI (bytesN s) i c) e lv ∧ w.grownBy w' (some b) := by
  have hsz := h.size
  by_cases hcase : (bytesN s)[i]? = some c
  · obtain ⟨e1, e2⟩ := isB_yes hcase
    rw [e1, e2]
    have hle : i + 1 ≤ s.size := (bytesN_some hcase).1
    have hp : peekV (bytesN s) i = .tuple #[.int .u8 ((c : Nat) : Int), .bool true] := by unfold peekV; rw [hcase]
    clear e1 e2 hcase
    go_enter Tryd.func34, Tryd.ntmps34
    go_wp2_with fail
    refine (peek_at h).mono ?_
    rintro v w1 ⟨rfl, hb⟩
    rw [hp]
    have h1 := h.below hb
    obtain ⟨_, c1, _, _, f1, _, _⟩ := h1.cells
    go_wp2
    go_returns
    have hg := only_setCell (only_of b hb) 1 (.int .i64 ((i : Nat) + 1 : Int))
    exact ⟨rfl, h.turn hg hle (h1.blk.set 1 _), hg⟩
  · obtain ⟨e1, e2⟩ := isB_no hcase
    rw [e1, e2]
    clear e1 e2
    cases hc : (bytesN s)[i]? with
    | none =>
      have hp : peekV (bytesN s) i = .tuple #[.int .u8 0, .bool false] := by unfold peekV; rw [hc]
      clear hcase hc
      go_enter Tryd.func34, Tryd.ntmps34
      go_wp2_with fail
      refine (peek_at h).mono ?_
      rintro v w1 ⟨rfl, hb⟩
      rw [hp]
      go_wp2
      go_returns
      exact ⟨rfl, h.below hb, only_of b hb⟩
    | some d =>
      have hp : peekV (bytesN s) i = .tuple #[.int .u8 ((d : Nat) : Int), .bool true] := by unfold peekV; rw [hc]
      have hd' : ((d : Nat) : Int) ≠ ((c : Nat) : Int) := by
        intro e
        apply hcase
        rw [hc]
        congr 1
        omega
      clear hcase hc
      go_enter Tryd.func34, Tryd.ntmps34
      go_wp2_with fail
      refine (peek_at h).mono ?_
      rintro v w1 ⟨rfl, hb⟩
      rw [hp]
      go_wp2
      go_returns
      exact ⟨rfl, h.below hb, only_of b hb⟩
end Go.Proofs.YtofhkgafgnldnaaDoor
