/- Tokens, as they lie. -/
import Derived.Test.YtofhkgafgnldnaaDoorBraces
import Derived.Deep.WholeRow
namespace Go.Proofs.YtofhkgafgnldnaaDoor
open Go.RowKit
/-- A token's cells. -/
abbrev tokL (x : Tok) (f t : Nat) : List Value := [.int .i64 ((x.kind : Nat) : Int), .int .i64 ((f : Nat) : Int), .int .i64 ((t : Nat) : Int), .int .u64 (word x.set 0), .int .u64 (word x.set 1), .int .u64 (word x.set 2), .int .u64 (word x.set 3), .int .i64 ((x.lo : Nat) : Int), .int .i64 x.hi, .bool x.lazy]
abbrev tokV (x : Tok) (f t : Nat) : Value := .agg (tokL x f t).toArray
def TokIs (r : Res Tok) (x : Tok) (j e : Nat) : Prop := match r with
  | .ok x' j' => x = x' ∧ j = j' ∧ e = 0
  | .err j' e' => j = j' ∧ e = e' ∧ e' ≠ 0
/-- Behind a count's first byte. -/
def countM (t : List Nat) (c i : Nat) : Res Tok :=
  if c = 42 then lazyM t 0 (-1) i else if c = 43 then lazyM t 1 (-1) i else if c = 63 then lazyM t 0 1 i
  else match bracesM t i with
    | .err j e => .err j e
    | .ok (lo, hi) j => lazyM t lo (hiZ hi) j
def zeroTok : Tok := ⟨0, noSet, 0, 0, false⟩
theorem info_tok : (Tryd.prog.info? 35).map (·.size) = some 10 := by kernel_rfl
theorem load_tok {w : World} {b t : Nat} {l : List Value} (h : Blk w b t l) (hl : l.length = 10) : (loadVar 35 ⟨b, 0, none⟩).run Tryd.prog w = .ok (.agg l.toArray) w :=
  run_loadVar_row w b t _ l.toArray (0, 0) _ h Tryd.underlying35 rfl (by rw [info_tok]; simp [hl])
theorem ret_tok {fn : Func} {R : Ending → World → Prop} {a : Act} {w : World} {b r : Nat} {l : List Value} (hres : fn.results = #[.cell r 35])
    (hr : a.tmps.getD r undef = .pointer (some ⟨b, 0, none⟩)) (h : Blk w b 35 l) (hl : l.length = 10) (hd : a.defers = []) (hR : R (.returned (.agg l.toArray)) w) : bodyPost Tryd.prog fn R .ret a w := by
  have hld := load_tok h hl
  refine bodyPost_ret (v := .agg l.toArray) ?_ hd hR
  have hr' : a.tmps[r]?.getD undef = .pointer (some ⟨b, 0, none⟩) := by simpa using hr
  simp [results, hres, hr', hld, asAddr]
/-- Cells laid one by one. -/
def putCells (w : World) (b : Nat) : Nat → List Value → World
  | _, [] => w
  | o, v :: vs => putCells (w.setCell ⟨b, o, none⟩ v) b (o + 1) vs
theorem Blk.puts {b t : Nat} : ∀ (vs : List Value) (o : Nat) (w : World) (l : List Value), Blk w b t l → o + vs.length ≤ l.length → Blk (putCells w b o vs) b t (l.take o ++ vs ++ l.drop (o + vs.length)) := by
  intro vs
  induction vs with
  | nil => intro o w l h _; simpa [putCells] using h
  | cons v vs ih =>
    intro o w l h hl
    simp only [List.length_cons] at hl
    have := ih (o + 1) _ _ (h.set o v) (by simp; omega)
    unfold putCells
    have e : (l.set o v).take (o + 1) ++ vs ++ (l.set o v).drop (o + 1 + vs.length) = l.take o ++ v :: vs ++ l.drop (o + (v :: vs).length) := by
      have ho : o < l.length := by omega
      have t1 : (l.set o v).take (o + 1) = l.take o ++ [v] := by
        rw [List.set_eq_take_append_cons_drop, if_pos ho, List.take_append]
        rw [List.take_of_length_le (by simp; omega), List.length_take, Nat.min_eq_left (Nat.le_of_lt ho), Nat.add_sub_cancel_left]
        simp
      have t2 : (l.set o v).drop (o + 1 + vs.length) = l.drop (o + (v :: vs).length) := by
        rw [List.drop_set_of_lt (by omega)]
        congr 1
        simp only [List.length_cons]
        omega
      rw [t1, t2]
      simp
    rw [e] at this
    exact this
theorem Blk.puts0 {w : World} {b t : Nat} {l : List Value} (h : Blk w b t l) (vs : List Value) (hl : vs.length = l.length) : Blk (putCells w b 0 vs) b t vs := by
  have := Blk.puts vs 0 w l h (by omega)
  simpa [hl] using this
theorem Blk.farPuts {b t g : Nat} (hne : b ≠ g) : ∀ (vs : List Value) (o : Nat) (w : World) (l : List Value), Blk w b t l → Blk (putCells w g o vs) b t l := by
  intro vs
  induction vs with
  | nil => intro o w l h; exact h
  | cons v vs ih => intro o w l h; exact ih (o + 1) _ l (h.far (p := ⟨g, o, none⟩) hne v)
theorem only_puts {a : World} {b g : Nat} (hg : a.heap.size ≤ g) : ∀ (vs : List Value) (o : Nat) (w : World), a.grownBy w (some b) → a.grownBy (putCells w g o vs) (some b) := by
  intro vs
  induction vs with
  | nil => intro o w h; exact h
  | cons v vs ih =>
    intro o w h
    exact ih (o + 1) _ ⟨h.os, h.tape, h.output, by simpa [World.setCell] using h.size, fun i hi hne => (Below.heap_setCell w ⟨g, o, none⟩ v i (fun e => by simp only at e; omega)).trans (h.block i hi hne)⟩
theorem only_puts_self {b : Nat} : ∀ (vs : List Value) (o : Nat) (a w : World), a.grownBy w (some b) → a.grownBy (putCells w b o vs) (some b) := by
  intro vs
  induction vs with
  | nil => intro o a w h; exact h
  | cons v vs ih => intro o a w h; exact ih (o + 1) a _ (only_setCell h o v)
theorem Rdr.farPuts {w : World} {b g : Nat} {s : ByteArray} {i e : Nat} {lv : Value} (h : Rdr w b s i e lv) (hne : b ≠ g) (hg : 1 < g) (vs : List Value) (o : Nat) : Rdr (putCells w g o vs) b s i e lv :=
  ⟨Blk.farPuts hne vs o w _ h.blk, h.tab.only (only_puts_self vs o w w (only_refl w g)) (by omega), h.ne, h.le, h.size⟩
/-- Ten cells, ten marks. -/
theorem Blk.ten {w : World} {b t : Nat} {u0 u1 u2 u3 u4 u5 u6 u7 u8 u9 : Value} (h : Blk w b t [u0, u1, u2, u3, u4, u5, u6, u7, u8, u9]) :
    (w.cell? ⟨b, 0, none⟩ = some u0 ∧ w.cell? ⟨b, 1, none⟩ = some u1 ∧ w.cell? ⟨b, 2, none⟩ = some u2 ∧ w.cell? ⟨b, 3, none⟩ = some u3 ∧ w.cell? ⟨b, 4, none⟩ = some u4 ∧ w.cell? ⟨b, 5, none⟩ = some u5 ∧ w.cell? ⟨b, 6, none⟩ = some u6 ∧ w.cell? ⟨b, 7, none⟩ = some u7 ∧ w.cell? ⟨b, 8, none⟩ = some u8 ∧ w.cell? ⟨b, 9, none⟩ = some u9) ∧
    w.frozen? ⟨b, 0, none⟩ = false ∧ w.frozen? ⟨b, 1, none⟩ = false ∧ w.frozen? ⟨b, 2, none⟩ = false ∧ w.frozen? ⟨b, 3, none⟩ = false ∧ w.frozen? ⟨b, 4, none⟩ = false ∧ w.frozen? ⟨b, 5, none⟩ = false ∧ w.frozen? ⟨b, 6, none⟩ = false ∧ w.frozen? ⟨b, 7, none⟩ = false ∧ w.frozen? ⟨b, 8, none⟩ = false ∧ w.frozen? ⟨b, 9, none⟩ = false :=
  ⟨⟨h.cell 0, h.cell 1, h.cell 2, h.cell 3, h.cell 4, h.cell 5, h.cell 6, h.cell 7, h.cell 8, h.cell 9⟩, h.frozen 0, h.frozen 1, h.frozen 2, h.frozen 3, h.frozen 4, h.frozen 5, h.frozen 6, h.frozen 7, h.frozen 8, h.frozen 9⟩
end Go.Proofs.YtofhkgafgnldnaaDoor
