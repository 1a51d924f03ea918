/- Digits, decimal and hex: digits, hex. -/
import Derived.Test.YtofhkgafgnldnaaDoorStr
import Derived.StillTailTactics
namespace Go.Proofs.YtofhkgafgnldnaaDoor
open Go.RowKit
theorem digits_at {w : World} {b : Nat} {s : ByteArray} {i e : Nat} {lv : Value} (h : Rdr w b s i e lv) :
    Calls Tryd.prog 56 #[.pointer (some ⟨b, 0, none⟩)] w fun v w' => v = .returned (.bool (digitAt (bytesN s) i).isSome) ∧ Below w.heap.size w w' := by
  cases hc : (bytesN s)[i]? with
  | none =>
    have hd : (digitAt (bytesN s) i).isSome = false := by unfold digitAt; rw [hc]; rfl
    have hp : peekV (bytesN s) i = .tuple #[.int .u8 0, .bool false] := by unfold peekV; rw [hc]
    rw [hd]
    clear hc hd
    go_enter Tryd.func56, Tryd.ntmps56
    go_wp2_with fail
    refine (peek_at h).mono ?_
    rintro v w1 ⟨rfl, hb⟩
    rw [hp]
    go_wp2
    go_returns
    exact ⟨rfl, hb⟩
  | some c =>
    have hp : peekV (bytesN s) i = .tuple #[.int .u8 ((c : Nat) : Int), .bool true] := by unfold peekV; rw [hc]
    have HD := Lib.hid (show (digitAt (bytesN s) i).isSome = decide (48 ≤ c ∧ c ≤ 57) by
      unfold digitAt
      rw [hc]
      simp only [Option.bind_some]
      by_cases g : 48 ≤ c ∧ c ≤ 57
      · rw [if_pos g, decide_eq_true g]; rfl
      · rw [if_neg g, decide_eq_false g]; rfl)
    clear hc
    go_enter Tryd.func56, Tryd.ntmps56
    go_wp2_with fail
    refine (peek_at h).mono ?_
    rintro v w1 ⟨rfl, hb⟩
    rw [hp]
    by_cases h1 : 48 ≤ c
    · by_cases h2 : c ≤ 57
      · go_wp2
        go_returns
        refine ⟨?_, hb⟩
        rw [HD.out, decide_eq_true (show 48 ≤ c ∧ c ≤ 57 from ⟨h1, h2⟩)]
        first | rfl | (simp; omega)
      · go_wp2
        go_returns
        refine ⟨?_, hb⟩
        rw [HD.out, decide_eq_false (show ¬(48 ≤ c ∧ c ≤ 57) from fun g => h2 g.2)]
        first | rfl | (simp; omega)
    · go_wp2
      go_returns
      refine ⟨?_, hb⟩
      rw [HD.out, decide_eq_false (show ¬(48 ≤ c ∧ c ≤ 57) from fun g => h1 g.1)]
      first | rfl | (simp; omega)
/-- What hex leaves. -/
def HexIs (t : List Nat) (i n j e : Nat) : Prop := n < 16 ∧ match hexAt t i with
  | some d => n = d ∧ j = i + 1 ∧ e = 0
  | none => j = i ∧ e = 4
set_option maxRecDepth 100000 in
set_option maxHeartbeats 1000000 in
theorem hex_at {w : World} {b : Nat} {s : ByteArray} {i : Nat} {lv : Value} (h : Rdr w b s i 0 lv) :
    Calls Tryd.prog 39 #[.pointer (some ⟨b, 0, none⟩)] w fun v w' => ∃ n j e, v = .returned (.int .u8 ((n : Nat) : Int)) ∧ Rdr w' b s j e lv ∧ w.grownBy w' (some b) ∧ HexIs (bytesN s) i n j e := by
  have hsz := h.size
  cases hc : (bytesN s)[i]? with
  | none =>
    have hp : peekV (bytesN s) i = .tuple #[.int .u8 0, .bool false] := by unfold peekV; rw [hc]
    have HX := Lib.hid (show HexIs (bytesN s) i 0 i 4 from ⟨by omega, by unfold hexAt; rw [hc]; exact ⟨rfl, rfl⟩⟩)
    clear hc
    go_enter Tryd.func39, Tryd.ntmps39
    go_wp2_with fail
    refine (peek_at h).mono ?_
    rintro v w1 ⟨rfl, hb⟩
    rw [hp]
    go_wp2_with fail
    refine (index_of _ _ _).mono ?_
    rintro v w2 ⟨rfl, rfl⟩
    generalize Lib.indexByte _ _ = n1
    go_wp2_with fail
    refine (index_of _ _ _).mono ?_
    rintro v w3 ⟨rfl, rfl⟩
    generalize Lib.indexByte _ _ = n2
    have h1 := h.below hb
    obtain ⟨_, c1, _, _, f1, _, _⟩ := h1.cells
    go_wp2_with fail
    go_still_tail 8, (by kernel_rfl)
    change wpList _ _ _ _ _ w3.drew
    go_wp2_with fail
    refine (fail_at (k := 4) (h1.below (Below.refl _ _).drew) (by have := h1.le; omega)).mono ?_
    rintro v w4 ⟨⟨u, rfl⟩, h4, hg⟩
    go_wp2
    go_returns
    exact ⟨0, i, 4, rfl, h4, only_trans (only_of b (hb.trans ((Below.refl _ _).drew))) hg, HX.out⟩
  | some c =>
    have hp : peekV (bytesN s) i = .tuple #[.int .u8 ((c : Nat) : Int), .bool true] := by unfold peekV; rw [hc]
    have hc256 := bytesN_lt hc
    have hle := (bytesN_some hc).1
    have hup := fun g : 65 ≤ c => hex_up ⟨c, hc256⟩ g
    have hlow := fun g : c < 65 => hex_low ⟨c, hc256⟩ g
    simp only [] at hup hlow
    have HU := Lib.hid hup
    have HLo := Lib.hid hlow
    have HX := Lib.hid (show ∀ n j e, n < 16 → (match hexM c with | some d => n = d ∧ j = i + 1 ∧ e = 0 | none => j = i ∧ e = 4) → HexIs (bytesN s) i n j e from fun n j e h1 h2 => ⟨h1, by unfold hexAt; rw [hc]; exact h2⟩)
    clear hc hup hlow
    go_enter Tryd.func39, Tryd.ntmps39
    go_wp2_with fail
    refine (peek_at h).mono ?_
    rintro v w1 ⟨rfl, hb⟩
    rw [hp]
    have h1 := h.below hb
    obtain ⟨_, c1, _, _, f1, _, _⟩ := h1.cells
    by_cases hcase : 65 ≤ c
    · go_wp2_with fail
      refine (index_of _ _ _).mono ?_
      rintro v w2 ⟨rfl, rfl⟩
      rw [HU.out hcase]
      unfold hexIx
      cases hx : hexM c with
      | none =>
        dsimp only
        go_wp2_with fail
        go_still_tail 8, (by kernel_rfl)
        change wpList _ _ _ _ _ w2.drew
        go_wp2_with fail
        refine (fail_at (k := 4) (h1.below (Below.refl _ _).drew) (by have := h1.le; omega)).mono ?_
        rintro v w4 ⟨⟨u, rfl⟩, h4, hg⟩
        go_wp2
        go_returns
        exact ⟨0, i, 4, rfl, h4, only_trans (only_of b (hb.trans ((Below.refl _ _).drew))) hg, HX.out 0 i 4 (by omega) (by rw [hx]; exact ⟨rfl, rfl⟩)⟩
      | some d =>
        have hd := hexM_lt hx
        dsimp only
        have HH := Lib.hid hx
        clear hx
        go_wp2
        go_returns
        have hg := only_setCell (only_of b hb) 1 (.int .i64 ((i : Nat) + 1 : Int))
        exact ⟨d, i + 1, 0, rfl, h.turn hg hle (h1.blk.set 1 _), hg, HX.out d (i + 1) 0 hd (by rw [HH.out]; exact ⟨rfl, rfl, rfl⟩)⟩
    · have hcase' : c < 65 := by omega
      go_wp2_with fail
      refine (index_of _ _ _).mono ?_
      rintro v w2 ⟨rfl, rfl⟩
      generalize Lib.indexByte _ _ = n1
      go_wp2_with fail
      refine (index_of _ _ _).mono ?_
      rintro v w3 ⟨rfl, rfl⟩
      rw [HLo.out hcase']
      unfold hexIx
      cases hx : hexM c with
      | none =>
        dsimp only
        go_wp2_with fail
        go_still_tail 8, (by kernel_rfl)
        change wpList _ _ _ _ _ w3.drew
        go_wp2_with fail
        refine (fail_at (k := 4) (h1.below (Below.refl _ _).drew) (by have := h1.le; omega)).mono ?_
        rintro v w4 ⟨⟨u, rfl⟩, h4, hg⟩
        go_wp2
        go_returns
        exact ⟨0, i, 4, rfl, h4, only_trans (only_of b (hb.trans ((Below.refl _ _).drew))) hg, HX.out 0 i 4 (by omega) (by rw [hx]; exact ⟨rfl, rfl⟩)⟩
      | some d =>
        have hd := hexM_lt hx
        dsimp only
        have HH := Lib.hid hx
        clear hx
        go_wp2
        go_returns
        have hg := only_setCell (only_of b hb) 1 (.int .i64 ((i : Nat) + 1 : Int))
        exact ⟨d, i + 1, 0, rfl, h.turn hg hle (h1.blk.set 1 _), hg, HX.out d (i + 1) 0 hd (by rw [HH.out]; exact ⟨rfl, rfl, rfl⟩)⟩
end Go.Proofs.YtofhkgafgnldnaaDoor
