/- blocks.build: its regions, and the whole. -/
import Derived.Test.YtanimknpnniabaaDoorOps6
import Derived.Test.YtanimknpnniabaaDoorOps2
namespace Go.Proofs.YtanimknpnniabaaDoor
open Go.RowKit
theorem CellAt.at_ {w w' : World} {p : Addr} {v : Value} (h : CellAt w p v) (hb : Below w.heap.size w w') : CellAt w' p v := ⟨h.below hb, Nat.lt_of_lt_of_le h.2 hb.size⟩
noncomputable def bld_ops : Array Oper := regOf Tryd.f32 1
def bld_S (B ab n : Nat) (l : List Value) (hl : l.length = 256) (hn : n ≤ 1000) : List RK := [RK.eq (.agg l.toArray), RK.eq (.int .i64 ((n : Nat) : Int)), RK.val (RG.made B n), RK.val (RG.blks B n l), RK.val (RG.boxed B n l), RK.val (RG.boxed B n l)]
theorem bld_o0 (B ab n : Nat) (l : List Value) (hl : l.length = 256) (hn : n ≤ 1000) (Q : Exit → Act → World → Prop) (a0 : Act) (w0 : World) (hs2 : a0.tmps.getD 2 undef = .pointer (some ⟨ab, 0, none⟩)) (hA2 : Blk w0 ab 58 l) : Obl Tryd.prog bld_ops (bld_S B ab n l hl hn) Q a0 w0 0 :=
  obl_val (.load 58 (.tmp 2)) none rfl (by kernel_rfl) fun a w N H D => ⟨(fun _ _ hg => by cases hg), fun _ ho => wp_load_arr ho (held_base H 2 (by kernel_rfl) hs2) (hA2.below H.below hA2.lt) hl⟩
theorem bld_o1 (B ab n : Nat) (l : List Value) (hl : l.length = 256) (hn : n ≤ 1000) (Q : Exit → Act → World → Prop) (a0 : Act) (w0 : World) (hs1 : a0.tmps.getD 1 undef = .int .i64 ((n : Nat) : Int)) : Obl Tryd.prog bld_ops (bld_S B ab n l hl hn) Q a0 w0 1 :=
  obl_val (.move (.tmp 1)) none rfl (by kernel_rfl) fun a w N H D => ⟨(fun _ _ hg => by cases hg), fun _ ho => wp_move (.inl ho) (held_base H 1 (by kernel_rfl) hs1)⟩
theorem bld_o2 (B ab n : Nat) (l : List Value) (hl : l.length = 256) (hn : n ≤ 1000) (Q : Exit → Act → World → Prop) (a0 : Act) (w0 : World) (hBw : B ≤ w0.heap.size) : Obl Tryd.prog bld_ops (bld_S B ab n l hl hn) Q a0 w0 2 :=
  obl_val (.makeSlice 22 (.tmp 8) (.tmp 8)) none rfl (by kernel_rfl) fun a w N H D => ⟨(fun _ _ hg => by cases hg), fun _ ho => wp_make_sets (B := B) ho (fact_eq (c := .int .i64 ((n : Nat) : Int)) (D 1 (by kernel_rfl)) rfl (by kernel_rfl)) (fact_eq (c := .int .i64 ((n : Nat) : Int)) (D 1 (by kernel_rfl)) rfl (by kernel_rfl)) hn (Nat.le_trans hBw H.below.size)⟩
theorem bld_o3 (B ab n : Nat) (l : List Value) (hl : l.length = 256) (hn : n ≤ 1000) (Q : Exit → Act → World → Prop) (a0 : Act) (w0 : World)  : Obl Tryd.prog bld_ops (bld_S B ab n l hl hn) Q a0 w0 3 :=
  obl_val (.build 64 #[(0, .tmp 7), (1, .tmp 9)]) none rfl (by kernel_rfl) fun a w N H D => ⟨(fun _ _ hg => by cases hg), fun _ ho => wp_build_blocks ho hl (fact_eq (c := .agg l.toArray) (D 0 (by kernel_rfl)) rfl (by kernel_rfl)) (fact_val (D 2 (by kernel_rfl)) rfl (by kernel_rfl))⟩
theorem bld_o4 (B ab n : Nat) (l : List Value) (hl : l.length = 256) (hn : n ≤ 1000) (Q : Exit → Act → World → Prop) (a0 : Act) (w0 : World) (hBw : B ≤ w0.heap.size) : Obl Tryd.prog bld_ops (bld_S B ab n l hl hn) Q a0 w0 4 :=
  obl_val (.box 64 (.tmp 10)) none rfl (by kernel_rfl) fun a w N H D => ⟨(fun _ _ hg => by cases hg), fun _ ho => wp_box_blocks ho hl (fact_val (D 3 (by kernel_rfl)) rfl (by kernel_rfl)) (Nat.le_trans hBw H.below.size)⟩
theorem bld_o5 (B ab n : Nat) (l : List Value) (hl : l.length = 256) (hn : n ≤ 1000) (Q : Exit → Act → World → Prop) (a0 : Act) (w0 : World)  : Obl Tryd.prog bld_ops (bld_S B ab n l hl hn) Q a0 w0 5 :=
  obl_val (.assign (.tmp 11)) none rfl (by kernel_rfl) fun a w N H D => ⟨(fun _ _ hg => by cases hg), fun _ ho => wp_move_g (.inr ho) (fact_val (D 4 (by kernel_rfl)) rfl (by kernel_rfl))⟩
theorem bld_all (B ab n : Nat) (l : List Value) (hl : l.length = 256) (hn : n ≤ 1000) (Q : Exit → Act → World → Prop) (a0 : Act) (w0 : World) (hs2 : a0.tmps.getD 2 undef = .pointer (some ⟨ab, 0, none⟩)) (hA2 : Blk w0 ab 58 l) (hs1 : a0.tmps.getD 1 undef = .int .i64 ((n : Nat) : Int)) (hBw : B ≤ w0.heap.size) : ∀ i, i < bld_ops.size → Obl Tryd.prog bld_ops (bld_S B ab n l hl hn) Q a0 w0 i := by
  intro i hi_
  have hs : bld_ops.size = 6 := by kernel_rfl
  rw [hs] at hi_
  clear hs
  match i, hi_ with
  | 0, _ => exact bld_o0 B ab n l hl hn  Q a0 w0 hs2 hA2
  | 1, _ => exact bld_o1 B ab n l hl hn  Q a0 w0 hs1
  | 2, _ => exact bld_o2 B ab n l hl hn  Q a0 w0 hBw
  | 3, _ => exact bld_o3 B ab n l hl hn  Q a0 w0 
  | 4, _ => exact bld_o4 B ab n l hl hn  Q a0 w0 hBw
  | 5, _ => exact bld_o5 B ab n l hl hn  Q a0 w0 
  | i + 6, h => exact absurd h (by omega)
noncomputable def blr_ops : Array Oper := regOf Tryd.f32 5
def blr_S (ab bx g nn n kx : Nat) (_hn : n < 256) (rows : List (Nat → Bool)) (m : Nat → Bool) (hkx : kx < nn) (hm : rows[kx]? = some m) : List RK := [RK.eq (.pointer (some ⟨bx, 0, none⟩)), RK.eq (.pointer (some ⟨bx, 0, none⟩)), RK.eq (.pointer (some ⟨bx, 256, none⟩)), RK.eq (.slice (some ⟨g, 0, none⟩) nn nn), RK.eq (.int .i64 ((n : Nat) : Int)), RK.eq (.pointer (some ((⟨ab, 0, none⟩ : Addr).add ((n : Nat) : Int).toNat))), RK.eq (.int .i64 ((kx : Nat) : Int)), RK.eq (.pointer (some ⟨bx, 0, none⟩)), RK.eq (.pointer (some ⟨bx, 0, none⟩)), RK.eq (.pointer (some ⟨bx, 256, none⟩)), RK.eq (.slice (some ⟨g, 0, none⟩) nn nn), RK.eq (.int .i64 ((n : Nat) : Int)), RK.eq (.pointer (some ((⟨ab, 0, none⟩ : Addr).add ((n : Nat) : Int).toNat))), RK.eq (.int .i64 ((kx : Nat) : Int)), RK.eq (.pointer (some ⟨g, kx * 4, none⟩)), RK.eq (setV m), RK.eq (.int .i64 ((n : Nat) : Int)), RK.eq (.int .u8 ((n : Nat) : Int)), RK.val (RG.rd .u8 [((n : Nat) : Int)]), RK.eq (setV (ofM [((n : Nat) : Int)])), RK.val (RG.sets [m, (ofM [((n : Nat) : Int)])]), RK.eq (setV (anyM [m, (ofM [((n : Nat) : Int)])])), RK.eq (.pointer (some ⟨g, kx * 4, none⟩))]
theorem blr_o0 (ab bx g nn n kx : Nat) (_hn : n < 256) (rows : List (Nat → Bool)) (m : Nat → Bool) (hkx : kx < nn) (hm : rows[kx]? = some m) (Q : Exit → Act → World → Prop) (a0 : Act) (w0 : World) (hs5 : a0.tmps.getD 5 undef = .pointer (some ⟨bx, 0, none⟩)) : Obl Tryd.prog blr_ops (blr_S ab bx g nn n kx _hn rows m hkx hm) Q a0 w0 0 :=
  obl_val (.move (.tmp 5)) none rfl (by kernel_rfl) fun a w N H D => ⟨(fun _ _ hg => by cases hg), fun _ ho => wp_move (.inl ho) (held_base H 5 (by kernel_rfl) hs5)⟩
theorem blr_o1 (ab bx g nn n kx : Nat) (_hn : n < 256) (rows : List (Nat → Bool)) (m : Nat → Bool) (hkx : kx < nn) (hm : rows[kx]? = some m) (Q : Exit → Act → World → Prop) (a0 : Act) (w0 : World)  : Obl Tryd.prog blr_ops (blr_S ab bx g nn n kx _hn rows m hkx hm) Q a0 w0 1 :=
  obl_val (.nilCheck (.tmp 15)) none rfl (by kernel_rfl) fun a w N H D => ⟨(fun _ _ hg => by cases hg), fun _ ho => wp_nil ho (fact_eq (c := .pointer (some ⟨bx, 0, none⟩)) (D 0 (by kernel_rfl)) rfl (by kernel_rfl))⟩
theorem blr_o2 (ab bx g nn n kx : Nat) (_hn : n < 256) (rows : List (Nat → Bool)) (m : Nat → Bool) (hkx : kx < nn) (hm : rows[kx]? = some m) (Q : Exit → Act → World → Prop) (a0 : Act) (w0 : World)  : Obl Tryd.prog blr_ops (blr_S ab bx g nn n kx _hn rows m hkx hm) Q a0 w0 2 :=
  obl_val (.fieldAddr 64 (.tmp 16) 1) none rfl (by kernel_rfl) fun a w N H D => ⟨(fun _ _ hg => by cases hg), fun _ ho => wp_field1 ho (fact_eq (c := .pointer (some ⟨bx, 0, none⟩)) (D 1 (by kernel_rfl)) rfl (by kernel_rfl))⟩
theorem blr_o3 (ab bx g nn n kx : Nat) (_hn : n < 256) (rows : List (Nat → Bool)) (m : Nat → Bool) (hkx : kx < nn) (hm : rows[kx]? = some m) (Q : Exit → Act → World → Prop) (a0 : Act) (w0 : World) (hF : CellAt w0 ⟨bx, 256, none⟩ (.slice (some ⟨g, 0, none⟩) nn nn)) : Obl Tryd.prog blr_ops (blr_S ab bx g nn n kx _hn rows m hkx hm) Q a0 w0 3 :=
  obl_val (.load 22 (.tmp 17)) none rfl (by kernel_rfl) fun a w N H D => ⟨(fun _ _ hg => by cases hg), fun _ ho => wp_load_sl ho (fact_eq (c := .pointer (some ⟨bx, 256, none⟩)) (D 2 (by kernel_rfl)) rfl (by kernel_rfl)) (hF.at_ H.below)⟩
theorem blr_o4 (ab bx g nn n kx : Nat) (_hn : n < 256) (rows : List (Nat → Bool)) (m : Nat → Bool) (hkx : kx < nn) (hm : rows[kx]? = some m) (Q : Exit → Act → World → Prop) (a0 : Act) (w0 : World) (hs6 : a0.tmps.getD 6 undef = .int .i64 ((n : Nat) : Int)) : Obl Tryd.prog blr_ops (blr_S ab bx g nn n kx _hn rows m hkx hm) Q a0 w0 4 :=
  obl_val (.move (.tmp 6)) none rfl (by kernel_rfl) fun a w N H D => ⟨(fun _ _ hg => by cases hg), fun _ ho => wp_move (.inl ho) (held_base H 6 (by kernel_rfl) hs6)⟩
theorem blr_o5 (ab bx g nn n kx : Nat) (_hn : n < 256) (rows : List (Nat → Bool)) (m : Nat → Bool) (hkx : kx < nn) (hm : rows[kx]? = some m) (Q : Exit → Act → World → Prop) (a0 : Act) (w0 : World) (hs2 : a0.tmps.getD 2 undef = .pointer (some ⟨ab, 0, none⟩)) : Obl Tryd.prog blr_ops (blr_S ab bx g nn n kx _hn rows m hkx hm) Q a0 w0 5 :=
  obl_val (.indexAddr 58 (.tmp 2) (.tmp 19)) none rfl (by kernel_rfl) fun a w N H D => ⟨(fun _ _ hg => by cases hg), fun _ ho => wp_index256 ho (held_base H 2 (by kernel_rfl) hs2) (fact_eq (c := .int .i64 ((n : Nat) : Int)) (D 4 (by kernel_rfl)) rfl (by kernel_rfl)) (by omega) (by omega)⟩
theorem blr_o6 (ab bx g nn n kx : Nat) (_hn : n < 256) (rows : List (Nat → Bool)) (m : Nat → Bool) (hkx : kx < nn) (hm : rows[kx]? = some m) (Q : Exit → Act → World → Prop) (a0 : Act) (w0 : World) (hA2 : CellAt w0 ((⟨ab, 0, none⟩ : Addr).add ((n : Nat) : Int).toNat) (.int .i64 ((kx : Nat) : Int))) : Obl Tryd.prog blr_ops (blr_S ab bx g nn n kx _hn rows m hkx hm) Q a0 w0 6 :=
  obl_val (.load 3 (.tmp 20)) none rfl (by kernel_rfl) fun a w N H D => ⟨(fun _ _ hg => by cases hg), fun _ ho => wp_load_int ho (fact_eq (c := .pointer (some ((⟨ab, 0, none⟩ : Addr).add ((n : Nat) : Int).toNat))) (D 5 (by kernel_rfl)) rfl (by kernel_rfl)) (hA2.below H.below)⟩
theorem blr_o7 (ab bx g nn n kx : Nat) (_hn : n < 256) (rows : List (Nat → Bool)) (m : Nat → Bool) (hkx : kx < nn) (hm : rows[kx]? = some m) (Q : Exit → Act → World → Prop) (a0 : Act) (w0 : World) (hs5 : a0.tmps.getD 5 undef = .pointer (some ⟨bx, 0, none⟩)) : Obl Tryd.prog blr_ops (blr_S ab bx g nn n kx _hn rows m hkx hm) Q a0 w0 7 :=
  obl_val (.move (.tmp 5)) none rfl (by kernel_rfl) fun a w N H D => ⟨(fun _ _ hg => by cases hg), fun _ ho => wp_move (.inl ho) (held_base H 5 (by kernel_rfl) hs5)⟩
theorem blr_o8 (ab bx g nn n kx : Nat) (_hn : n < 256) (rows : List (Nat → Bool)) (m : Nat → Bool) (hkx : kx < nn) (hm : rows[kx]? = some m) (Q : Exit → Act → World → Prop) (a0 : Act) (w0 : World)  : Obl Tryd.prog blr_ops (blr_S ab bx g nn n kx _hn rows m hkx hm) Q a0 w0 8 :=
  obl_val (.nilCheck (.tmp 22)) none rfl (by kernel_rfl) fun a w N H D => ⟨(fun _ _ hg => by cases hg), fun _ ho => wp_nil ho (fact_eq (c := .pointer (some ⟨bx, 0, none⟩)) (D 7 (by kernel_rfl)) rfl (by kernel_rfl))⟩
theorem blr_o9 (ab bx g nn n kx : Nat) (_hn : n < 256) (rows : List (Nat → Bool)) (m : Nat → Bool) (hkx : kx < nn) (hm : rows[kx]? = some m) (Q : Exit → Act → World → Prop) (a0 : Act) (w0 : World)  : Obl Tryd.prog blr_ops (blr_S ab bx g nn n kx _hn rows m hkx hm) Q a0 w0 9 :=
  obl_val (.fieldAddr 64 (.tmp 23) 1) none rfl (by kernel_rfl) fun a w N H D => ⟨(fun _ _ hg => by cases hg), fun _ ho => wp_field1 ho (fact_eq (c := .pointer (some ⟨bx, 0, none⟩)) (D 8 (by kernel_rfl)) rfl (by kernel_rfl))⟩
theorem blr_o10 (ab bx g nn n kx : Nat) (_hn : n < 256) (rows : List (Nat → Bool)) (m : Nat → Bool) (hkx : kx < nn) (hm : rows[kx]? = some m) (Q : Exit → Act → World → Prop) (a0 : Act) (w0 : World) (hF : CellAt w0 ⟨bx, 256, none⟩ (.slice (some ⟨g, 0, none⟩) nn nn)) : Obl Tryd.prog blr_ops (blr_S ab bx g nn n kx _hn rows m hkx hm) Q a0 w0 10 :=
  obl_val (.load 22 (.tmp 24)) none rfl (by kernel_rfl) fun a w N H D => ⟨(fun _ _ hg => by cases hg), fun _ ho => wp_load_sl ho (fact_eq (c := .pointer (some ⟨bx, 256, none⟩)) (D 9 (by kernel_rfl)) rfl (by kernel_rfl)) (hF.at_ H.below)⟩
theorem blr_o11 (ab bx g nn n kx : Nat) (_hn : n < 256) (rows : List (Nat → Bool)) (m : Nat → Bool) (hkx : kx < nn) (hm : rows[kx]? = some m) (Q : Exit → Act → World → Prop) (a0 : Act) (w0 : World) (hs6 : a0.tmps.getD 6 undef = .int .i64 ((n : Nat) : Int)) : Obl Tryd.prog blr_ops (blr_S ab bx g nn n kx _hn rows m hkx hm) Q a0 w0 11 :=
  obl_val (.move (.tmp 6)) none rfl (by kernel_rfl) fun a w N H D => ⟨(fun _ _ hg => by cases hg), fun _ ho => wp_move (.inl ho) (held_base H 6 (by kernel_rfl) hs6)⟩
theorem blr_o12 (ab bx g nn n kx : Nat) (_hn : n < 256) (rows : List (Nat → Bool)) (m : Nat → Bool) (hkx : kx < nn) (hm : rows[kx]? = some m) (Q : Exit → Act → World → Prop) (a0 : Act) (w0 : World) (hs2 : a0.tmps.getD 2 undef = .pointer (some ⟨ab, 0, none⟩)) : Obl Tryd.prog blr_ops (blr_S ab bx g nn n kx _hn rows m hkx hm) Q a0 w0 12 :=
  obl_val (.indexAddr 58 (.tmp 2) (.tmp 26)) none rfl (by kernel_rfl) fun a w N H D => ⟨(fun _ _ hg => by cases hg), fun _ ho => wp_index256 ho (held_base H 2 (by kernel_rfl) hs2) (fact_eq (c := .int .i64 ((n : Nat) : Int)) (D 11 (by kernel_rfl)) rfl (by kernel_rfl)) (by omega) (by omega)⟩
theorem blr_o13 (ab bx g nn n kx : Nat) (_hn : n < 256) (rows : List (Nat → Bool)) (m : Nat → Bool) (hkx : kx < nn) (hm : rows[kx]? = some m) (Q : Exit → Act → World → Prop) (a0 : Act) (w0 : World) (hA2 : CellAt w0 ((⟨ab, 0, none⟩ : Addr).add ((n : Nat) : Int).toNat) (.int .i64 ((kx : Nat) : Int))) : Obl Tryd.prog blr_ops (blr_S ab bx g nn n kx _hn rows m hkx hm) Q a0 w0 13 :=
  obl_val (.load 3 (.tmp 27)) none rfl (by kernel_rfl) fun a w N H D => ⟨(fun _ _ hg => by cases hg), fun _ ho => wp_load_int ho (fact_eq (c := .pointer (some ((⟨ab, 0, none⟩ : Addr).add ((n : Nat) : Int).toNat))) (D 12 (by kernel_rfl)) rfl (by kernel_rfl)) (hA2.below H.below)⟩
theorem blr_o14 (ab bx g nn n kx : Nat) (_hn : n < 256) (rows : List (Nat → Bool)) (m : Nat → Bool) (hkx : kx < nn) (hm : rows[kx]? = some m) (Q : Exit → Act → World → Prop) (a0 : Act) (w0 : World)  : Obl Tryd.prog blr_ops (blr_S ab bx g nn n kx _hn rows m hkx hm) Q a0 w0 14 :=
  obl_val (.indexAddr 22 (.tmp 25) (.tmp 28)) none rfl (by kernel_rfl) fun a w N H D => ⟨(fun _ _ hg => by cases hg), fun _ ho => wp_index_sets ho (fact_eq (c := .slice (some ⟨g, 0, none⟩) nn nn) (D 10 (by kernel_rfl)) rfl (by kernel_rfl)) (fact_eq (c := .int .i64 ((kx : Nat) : Int)) (D 13 (by kernel_rfl)) rfl (by kernel_rfl)) hkx⟩
theorem blr_o15 (ab bx g nn n kx : Nat) (_hn : n < 256) (rows : List (Nat → Bool)) (m : Nat → Bool) (hkx : kx < nn) (hm : rows[kx]? = some m) (Q : Exit → Act → World → Prop) (a0 : Act) (w0 : World) (hG : Blk w0 g 35 (setsC rows)) : Obl Tryd.prog blr_ops (blr_S ab bx g nn n kx _hn rows m hkx hm) Q a0 w0 15 :=
  obl_val (.load 35 (.tmp 29)) none rfl (by kernel_rfl) fun a w N H D => ⟨(fun _ _ hg => by cases hg), fun _ ho => wp_load_set_at ho (fact_eq (c := .pointer (some ⟨g, kx * 4, none⟩)) (D 14 (by kernel_rfl)) rfl (by kernel_rfl)) (hG.below H.below hG.lt) hm⟩
theorem blr_o16 (ab bx g nn n kx : Nat) (_hn : n < 256) (rows : List (Nat → Bool)) (m : Nat → Bool) (hkx : kx < nn) (hm : rows[kx]? = some m) (Q : Exit → Act → World → Prop) (a0 : Act) (w0 : World) (hs6 : a0.tmps.getD 6 undef = .int .i64 ((n : Nat) : Int)) : Obl Tryd.prog blr_ops (blr_S ab bx g nn n kx _hn rows m hkx hm) Q a0 w0 16 :=
  obl_val (.move (.tmp 6)) none rfl (by kernel_rfl) fun a w N H D => ⟨(fun _ _ hg => by cases hg), fun _ ho => wp_move (.inl ho) (held_base H 6 (by kernel_rfl) hs6)⟩
theorem blr_o17 (ab bx g nn n kx : Nat) (_hn : n < 256) (rows : List (Nat → Bool)) (m : Nat → Bool) (hkx : kx < nn) (hm : rows[kx]? = some m) (Q : Exit → Act → World → Prop) (a0 : Act) (w0 : World)  : Obl Tryd.prog blr_ops (blr_S ab bx g nn n kx _hn rows m hkx hm) Q a0 w0 17 :=
  obl_val (.convert 3 5 (.tmp 31)) none rfl (by kernel_rfl) fun a w N H D => ⟨(fun _ _ hg => by cases hg), fun _ ho => wp_toU8 ho (fact_eq (c := .int .i64 ((n : Nat) : Int)) (D 16 (by kernel_rfl)) rfl (by kernel_rfl)) (by omega) (by omega)⟩
theorem blr_o18 (ab bx g nn n kx : Nat) (_hn : n < 256) (rows : List (Nat → Bool)) (m : Nat → Bool) (hkx : kx < nn) (hm : rows[kx]? = some m) (Q : Exit → Act → World → Prop) (a0 : Act) (w0 : World)  : Obl Tryd.prog blr_ops (blr_S ab bx g nn n kx _hn rows m hkx hm) Q a0 w0 18 :=
  obl_val (.buildSlice 39 1 #[(0, .tmp 32)]) none rfl (by kernel_rfl) fun a w N H D => ⟨(fun _ _ hg => by cases hg), fun _ ho => wp_build_u8 ho (fact_eq (c := .int .u8 ((n : Nat) : Int)) (D 17 (by kernel_rfl)) rfl (by kernel_rfl))⟩
theorem blr_o19 (ab bx g nn n kx : Nat) (_hn : n < 256) (rows : List (Nat → Bool)) (m : Nat → Bool) (hkx : kx < nn) (hm : rows[kx]? = some m) (Q : Exit → Act → World → Prop) (a0 : Act) (w0 : World)  : Obl Tryd.prog blr_ops (blr_S ab bx g nn n kx _hn rows m hkx hm) Q a0 w0 19 :=
  obl_val (.call { callee := .value (.func 18), args := #[.tmp 33], argTypes := #[39] }) none rfl (by kernel_rfl) fun a w N H D => ⟨(fun _ _ hg => by cases hg), fun _ ho => wp_of ho (fact_val (D 18 (by kernel_rfl)) rfl (by kernel_rfl)) (by intro x hx; obtain rfl := List.mem_singleton.1 hx; omega)⟩
theorem blr_o20 (ab bx g nn n kx : Nat) (_hn : n < 256) (rows : List (Nat → Bool)) (m : Nat → Bool) (hkx : kx < nn) (hm : rows[kx]? = some m) (Q : Exit → Act → World → Prop) (a0 : Act) (w0 : World)  : Obl Tryd.prog blr_ops (blr_S ab bx g nn n kx _hn rows m hkx hm) Q a0 w0 20 :=
  obl_val (.buildSlice 22 2 #[(0, .tmp 30), (1, .tmp 34)]) none rfl (by kernel_rfl) fun a w N H D => ⟨(fun _ _ hg => by cases hg), fun _ ho => wp_build2 ho (fact_eq (c := setV m) (D 15 (by kernel_rfl)) rfl (by kernel_rfl)) (fact_eq (c := setV (ofM [((n : Nat) : Int)])) (D 19 (by kernel_rfl)) rfl (by kernel_rfl))⟩
theorem blr_o21 (ab bx g nn n kx : Nat) (_hn : n < 256) (rows : List (Nat → Bool)) (m : Nat → Bool) (hkx : kx < nn) (hm : rows[kx]? = some m) (Q : Exit → Act → World → Prop) (a0 : Act) (w0 : World)  : Obl Tryd.prog blr_ops (blr_S ab bx g nn n kx _hn rows m hkx hm) Q a0 w0 21 :=
  obl_val (.call { callee := .value (.func 43), args := #[.tmp 35], argTypes := #[22] }) none rfl (by kernel_rfl) fun a w N H D => ⟨(fun _ _ hg => by cases hg), fun _ ho => wp_call_eq (xs := #[a.eval (.tmp 35)]) ho (fun xs w => by kernel_rfl) (by simp only [List.map_toArray, List.map_cons, List.map_nil]) (union_any [m, (ofM [((n : Nat) : Int)])] _ _ (RG.sets_rd (fact_val (D 20 (by kernel_rfl)) rfl (by kernel_rfl))))⟩
theorem blr_o22 (ab bx g nn n kx : Nat) (_hn : n < 256) (rows : List (Nat → Bool)) (m : Nat → Bool) (hkx : kx < nn) (hm : rows[kx]? = some m) (Q : Exit → Act → World → Prop) (a0 : Act) (w0 : World)  : Obl Tryd.prog blr_ops (blr_S ab bx g nn n kx _hn rows m hkx hm) Q a0 w0 22 :=
  obl_val (.indexAddr 22 (.tmp 18) (.tmp 21)) none rfl (by kernel_rfl) fun a w N H D => ⟨(fun _ _ hg => by cases hg), fun _ ho => wp_index_sets ho (fact_eq (c := .slice (some ⟨g, 0, none⟩) nn nn) (D 3 (by kernel_rfl)) rfl (by kernel_rfl)) (fact_eq (c := .int .i64 ((kx : Nat) : Int)) (D 6 (by kernel_rfl)) rfl (by kernel_rfl)) hkx⟩
theorem blr_all (ab bx g nn n kx : Nat) (_hn : n < 256) (rows : List (Nat → Bool)) (m : Nat → Bool) (hkx : kx < nn) (hm : rows[kx]? = some m) (Q : Exit → Act → World → Prop) (a0 : Act) (w0 : World) (hs2 : a0.tmps.getD 2 undef = .pointer (some ⟨ab, 0, none⟩)) (hs5 : a0.tmps.getD 5 undef = .pointer (some ⟨bx, 0, none⟩)) (hs6 : a0.tmps.getD 6 undef = .int .i64 ((n : Nat) : Int)) (hA2 : CellAt w0 ((⟨ab, 0, none⟩ : Addr).add ((n : Nat) : Int).toNat) (.int .i64 ((kx : Nat) : Int))) (hF : CellAt w0 ⟨bx, 256, none⟩ (.slice (some ⟨g, 0, none⟩) nn nn)) (hG : Blk w0 g 35 (setsC rows)) : ∀ i, i < 23 → Obl Tryd.prog blr_ops (blr_S ab bx g nn n kx _hn rows m hkx hm) Q a0 w0 i := by
  intro i hi_
  match i, hi_ with
  | 0, _ => exact blr_o0 ab bx g nn n kx _hn rows m hkx hm  Q a0 w0 hs5
  | 1, _ => exact blr_o1 ab bx g nn n kx _hn rows m hkx hm  Q a0 w0 
  | 2, _ => exact blr_o2 ab bx g nn n kx _hn rows m hkx hm  Q a0 w0 
  | 3, _ => exact blr_o3 ab bx g nn n kx _hn rows m hkx hm  Q a0 w0 hF
  | 4, _ => exact blr_o4 ab bx g nn n kx _hn rows m hkx hm  Q a0 w0 hs6
  | 5, _ => exact blr_o5 ab bx g nn n kx _hn rows m hkx hm  Q a0 w0 hs2
  | 6, _ => exact blr_o6 ab bx g nn n kx _hn rows m hkx hm  Q a0 w0 hA2
  | 7, _ => exact blr_o7 ab bx g nn n kx _hn rows m hkx hm  Q a0 w0 hs5
  | 8, _ => exact blr_o8 ab bx g nn n kx _hn rows m hkx hm  Q a0 w0 
  | 9, _ => exact blr_o9 ab bx g nn n kx _hn rows m hkx hm  Q a0 w0 
  | 10, _ => exact blr_o10 ab bx g nn n kx _hn rows m hkx hm  Q a0 w0 hF
  | 11, _ => exact blr_o11 ab bx g nn n kx _hn rows m hkx hm  Q a0 w0 hs6
  | 12, _ => exact blr_o12 ab bx g nn n kx _hn rows m hkx hm  Q a0 w0 hs2
  | 13, _ => exact blr_o13 ab bx g nn n kx _hn rows m hkx hm  Q a0 w0 hA2
  | 14, _ => exact blr_o14 ab bx g nn n kx _hn rows m hkx hm  Q a0 w0 
  | 15, _ => exact blr_o15 ab bx g nn n kx _hn rows m hkx hm  Q a0 w0 hG
  | 16, _ => exact blr_o16 ab bx g nn n kx _hn rows m hkx hm  Q a0 w0 hs6
  | 17, _ => exact blr_o17 ab bx g nn n kx _hn rows m hkx hm  Q a0 w0 
  | 18, _ => exact blr_o18 ab bx g nn n kx _hn rows m hkx hm  Q a0 w0 
  | 19, _ => exact blr_o19 ab bx g nn n kx _hn rows m hkx hm  Q a0 w0 
  | 20, _ => exact blr_o20 ab bx g nn n kx _hn rows m hkx hm  Q a0 w0 
  | 21, _ => exact blr_o21 ab bx g nn n kx _hn rows m hkx hm  Q a0 w0 
  | 22, _ => exact blr_o22 ab bx g nn n kx _hn rows m hkx hm  Q a0 w0 
  | i + 23, h => exact absurd h (by omega)
/-- The bytes below b that lie in class i. -/
def clsM (q : Nat → Nat) (b i : Nat) (x : Nat) : Bool := decide (x < b) && decide (q x = i)
def rowsAt (q : Nat → Nat) (n b : Nat) : List (Nat → Bool) := (List.range n).map (clsM q b)
theorem rowsAt_zero (q : Nat → Nat) (n : Nat) : rowsAt q n 0 = List.replicate n fun _ => false := by
  unfold rowsAt
  rw [show clsM q 0 = fun _ _ => false by funext i x; simp [clsM], List.map_const', List.length_range]
theorem rowsAt_at (q : Nat → Nat) (n b : Nat) (h : q b < n) : (rowsAt q n b)[q b]? = some (clsM q b (q b)) := by
  unfold rowsAt
  rw [List.getElem?_map, List.getElem?_range h]
  rfl
theorem rowsAt_succ (q : Nat → Nat) (n b : Nat) : rowsAt q n (b + 1) = (rowsAt q n b).set (q b) (anyM [clsM q b (q b), ofM [((b : Nat) : Int)]]) := by
  apply List.ext_getElem
  · simp [rowsAt]
  · intro i h1 h2
    simp only [rowsAt, List.getElem_set, List.getElem_map, List.getElem_range]
    by_cases e : q b = i
    · subst e
      rw [if_pos rfl]
      funext x
      simp only [clsM, anyM, ofM, List.any_cons, List.any_nil, Bool.or_false, List.mem_singleton, Int.ofNat_inj]
      rw [Bool.eq_iff_iff]
      simp only [Bool.and_eq_true, Bool.or_eq_true, decide_eq_true_eq]
      constructor
      · rintro ⟨h, h'⟩
        rcases Nat.lt_succ_iff_lt_or_eq.1 h with h | h
        · exact .inl ⟨h, h'⟩
        · exact .inr h
      · rintro (⟨h, h'⟩ | rfl)
        · exact ⟨by omega, h'⟩
        · exact ⟨by omega, rfl⟩
    · rw [if_neg e]
      funext x
      simp only [clsM]
      rw [Bool.eq_iff_iff]
      simp only [Bool.and_eq_true, decide_eq_true_eq]
      constructor
      · rintro ⟨h, h'⟩
        refine ⟨?_, h'⟩
        rcases Nat.lt_succ_iff_lt_or_eq.1 h with h | rfl
        · exact h
        · exact absurd h' e
      · rintro ⟨h, h'⟩
        exact ⟨by omega, h'⟩
/-- Blocks: the struct lies in block x, its sets in block g: byte b's number is q b, there are n of them. -/
structure BlksAt (w : World) (x g : Nat) (q : Nat → Nat) (n : Nat) : Prop where
  st : Blk w x 64 (nums (fun b => ((q b : Nat) : Int)) ++ [.slice (some ⟨g, 0, none⟩) n n])
  sets : Blk w g 35 (setsC (rowsAt q n 256))
  ne : x ≠ g
set_option maxRecDepth 100000 in
set_option maxHeartbeats 2000000 in
theorem build_any (q : Nat → Nat) (n : Nat) (hn : n ≤ 1000) (hq : ∀ b, b < 256 → q b < n) (w : World) :
    Calls Tryd.prog 32 #[.agg (nums fun b => ((q b : Nat) : Int)).toArray, .int .i64 n] w fun e w' => ∃ x g, e = .returned (.pointer (some ⟨x, 0, none⟩)) ∧ BlksAt w' x g q n ∧ w.heap.size ≤ x ∧ w.heap.size ≤ g ∧ Below w.heap.size w w' := by
  have HQ := Lib.hid hq
  clear hq
  generalize hl0 : (nums fun b => ((q b : Nat) : Int)).toArray = ka
  have hka : ka.size = 256 := by subst hl0; simp [nums_length]
  have HL0 := Lib.hid hl0
  clear hl0
  go_enter Tryd.func32, Tryd.ntmps32
  go_wp2_with fail
  have hb0 : Blk (w.alloc (.cells ka 58)) w.heap.size 58 (nums fun b => ((q b : Nat) : Int)) := by
    obtain rfl := HL0.out
    exact Blk.new w _ _
  refine region_named (ops' := bld_ops) (by kernel_rfl) (bld_S (w.heap.size + 1) w.heap.size n _ (nums_length _) hn) 40 rfl (by kernel_rfl) (by kernel_rfl) (bld_all (w.heap.size + 1) w.heap.size n _ (nums_length _) hn _ _ _ rfl hb0.drew rfl (by simp)) ?_
  rename_i hK
  intro a w1 N H hF
  have q0 : a.tmps.getD 0 undef = .agg ka := held_base H 0 (by kernel_rfl) rfl
  have q1 : a.tmps.getD 1 undef = .int .i64 n := held_base H 1 (by kernel_rfl) rfl
  have q2 : a.tmps.getD 2 undef = .pointer (some ⟨w.heap.size, 0, none⟩) := held_base H 2 (by kernel_rfl) rfl
  have q3 : a.tmps.getD 3 undef = undef := held_base H 3 (by kernel_rfl) rfl
  have q4 : a.tmps.getD 4 undef = .pointer none := held_base H 4 (by kernel_rfl) rfl
  obtain ⟨x, g, q5, hx, hg, hne, _, _, hX, hG⟩ : (RG.boxed (w.heap.size + 1) n (nums fun b => ((q b : Nat) : Int))).g (a.tmps.getD 5 undef) w1 N := fact_val (hF 5 (by kernel_rfl)) rfl (by kernel_rfl)
  have hd : a.defers = [] := H.defers
  have Hsz : a.tmps.size = 40 := H.size
  replace hb0 := hb0.drew.below H.below hb0.lt
  have hbw : Below w.heap.size w w1 := (((Below.refl w.heap.size w).alloc (Nat.le_refl _) (.cells ka 58)).drew).trans (H.below.mono (by simp))
  clear hF H
  refine hK _ _ ?_
  rw [act_eq a 40 Hsz, show List.range 40 = [0, 1, 2, 3, 4, 5, 6, 7, 8, 9, 10, 11, 12, 13, 14, 15, 16, 17, 18, 19, 20, 21, 22, 23, 24, 25, 26, 27, 28, 29, 30, 31, 32, 33, 34, 35, 36, 37, 38, 39] from rfl]
  simp only [List.map_cons, List.map_nil, q0, q1, q2, q3, q4, q5, hd]
  generalize a.tmps.getD 6 undef = z6
  generalize a.tmps.getD 7 undef = z7
  generalize a.tmps.getD 8 undef = z8
  generalize a.tmps.getD 9 undef = z9
  generalize a.tmps.getD 10 undef = z10
  generalize a.tmps.getD 11 undef = z11
  generalize a.tmps.getD 12 undef = z12
  generalize a.tmps.getD 13 undef = z13
  generalize a.tmps.getD 14 undef = z14
  generalize a.tmps.getD 15 undef = z15
  generalize a.tmps.getD 16 undef = z16
  generalize a.tmps.getD 17 undef = z17
  generalize a.tmps.getD 18 undef = z18
  generalize a.tmps.getD 19 undef = z19
  generalize a.tmps.getD 20 undef = z20
  generalize a.tmps.getD 21 undef = z21
  generalize a.tmps.getD 22 undef = z22
  generalize a.tmps.getD 23 undef = z23
  generalize a.tmps.getD 24 undef = z24
  generalize a.tmps.getD 25 undef = z25
  generalize a.tmps.getD 26 undef = z26
  generalize a.tmps.getD 27 undef = z27
  generalize a.tmps.getD 28 undef = z28
  generalize a.tmps.getD 29 undef = z29
  generalize a.tmps.getD 30 undef = z30
  generalize a.tmps.getD 31 undef = z31
  generalize a.tmps.getD 32 undef = z32
  generalize a.tmps.getD 33 undef = z33
  generalize a.tmps.getD 34 undef = z34
  generalize a.tmps.getD 35 undef = z35
  generalize a.tmps.getD 36 undef = z36
  generalize a.tmps.getD 37 undef = z37
  generalize a.tmps.getD 38 undef = z38
  generalize a.tmps.getD 39 undef = z39
  clear hd Hsz q0 q1 q2 q3 q4 q5 hK a
  rw [← rowsAt_zero q n] at hG
  have HH := Lib.hid hX
  clear hX
  have hX := HH
  go_wp2
  go_loopw [12] (fun i wr => ∃ b : Nat, b ≤ 256 ∧ i = .int .i64 b ∧ Blk wr w.heap.size 58 (nums fun b => ((q b : Nat) : Int)) ∧ Blk wr x 64 (nums (fun b => ((q b : Nat) : Int)) ++ [.slice (some ⟨g, 0, none⟩) n n]) ∧ Blk wr g 35 (setsC (rowsAt q n b)) ∧ Below w.heap.size w wr) (fun i _ => 256 - (intOf i).toNat)
  case atStart => exact ⟨0, by omega, rfl, hb0, hX.out, hG, hbw⟩
  case round =>
    clear hb0 hG hbw
    obtain ⟨b, hb, rfl, hA, hX, hG, hbw⟩ := hrel
    by_cases hlt : b < 256
    · have hqb := HQ.out b hlt
      go_wp2_with fail
      have hcell : CellAt wr.drew ((⟨w.heap.size, 0, none⟩ : Addr).add ((b : Nat) : Int).toNat) (.int .i64 ((q b : Nat) : Int)) := by
        rw [Int.toNat_natCast, show (⟨w.heap.size, 0, none⟩ : Addr).add b = ⟨w.heap.size, b, none⟩ by unfold Addr.add; split <;> simp_all]
        exact ⟨(hA.drew.cell b).trans (nums_at _ b hlt), hA.drew.lt⟩
      have hfld : CellAt wr.drew ⟨x, 256, none⟩ (.slice (some ⟨g, 0, none⟩) n n) := ⟨(hX.drew.cell 256).trans (by rw [List.getElem?_append_right (by simp [nums_length])]; simp [nums_length]), hX.drew.lt⟩
      refine region_last (ops' := blr_ops) (by kernel_rfl) (blr_S w.heap.size x g n b (q b) hlt (rowsAt q n b) _ hqb (rowsAt_at q n b hqb)) 40 23 rfl (by kernel_rfl) (by kernel_rfl) (by kernel_rfl) (blr_all w.heap.size x g n b (q b) hlt (rowsAt q n b) _ hqb (rowsAt_at q n b hqb) _ _ _ rfl rfl rfl hcell hfld hG.drew) ?_
      rename_i hK
      intro a w1 N H hF
      have q0 : a.tmps.getD 0 undef = .agg ka := held_base H 0 (by kernel_rfl) rfl
      have q1 : a.tmps.getD 1 undef = .int .i64 n := held_base H 1 (by kernel_rfl) rfl
      have q2 : a.tmps.getD 2 undef = .pointer (some ⟨w.heap.size, 0, none⟩) := held_base H 2 (by kernel_rfl) rfl
      have q3 : a.tmps.getD 3 undef = undef := held_base H 3 (by kernel_rfl) rfl
      have q4 : a.tmps.getD 4 undef = .pointer none := held_base H 4 (by kernel_rfl) rfl
      have q7 : a.tmps.getD 7 undef = z7 := held_base H 7 (by kernel_rfl) rfl
      have q8 : a.tmps.getD 8 undef = z8 := held_base H 8 (by kernel_rfl) rfl
      have q9 : a.tmps.getD 9 undef = z9 := held_base H 9 (by kernel_rfl) rfl
      have q10 : a.tmps.getD 10 undef = z10 := held_base H 10 (by kernel_rfl) rfl
      have q11 : a.tmps.getD 11 undef = z11 := held_base H 11 (by kernel_rfl) rfl
      have q39 : a.tmps.getD 39 undef = z39 := held_base H 39 (by kernel_rfl) rfl
      have q5 : a.tmps.getD 5 undef = .pointer (some ⟨x, 0, none⟩) := held_base H 5 (by kernel_rfl) rfl
      have q6 : a.tmps.getD 6 undef = .int .i64 b := held_base H 6 (by kernel_rfl) rfl
      have q12 : a.tmps.getD 12 undef = .int .i64 b := held_base H 12 (by kernel_rfl) rfl
      have q36 : a.tmps.getD 36 undef = setV (anyM [clsM q b (q b), ofM [((b : Nat) : Int)]]) := fact_eq (hF 21 (by kernel_rfl)) rfl (by kernel_rfl)
      have q37 : a.tmps.getD 37 undef = .pointer (some ⟨g, q b * 4, none⟩) := fact_eq (hF 22 (by kernel_rfl)) rfl (by kernel_rfl)
      have hd : a.defers = [] := H.defers
      have Hsz : a.tmps.size = 40 := H.size
      have hb1 := H.below
      replace hA := hA.drew.below hb1 hA.drew.lt
      replace hX := hX.drew.below hb1 hX.drew.lt
      replace hG := hG.drew.below hb1 hG.drew.lt
      replace hbw : Below w.heap.size w w1 := hbw.drew.trans (hb1.mono (by have := hbw.size; simpa using this))
      clear hF hcell hfld H hb1
      refine wpOp_store_set_at 37 36 (by kernel_rfl) (by kernel_rfl) q37 q36 hG (by simp [rowsAt]; exact hqb) ?_
      intro w2 hG2 hgr hsz2
      have hA2 := hA.turned hgr (by omega)
      have hX2 := hX.turned hgr hne
      have hbw2 := below_turned hbw hgr (by omega) hbw.size
      clear hA hX hG hgr
      rw [← rowsAt_succ] at hG2
      refine hK _ _ ?_
      rw [act_eq a 40 Hsz, show List.range 40 = [0, 1, 2, 3, 4, 5, 6, 7, 8, 9, 10, 11, 12, 13, 14, 15, 16, 17, 18, 19, 20, 21, 22, 23, 24, 25, 26, 27, 28, 29, 30, 31, 32, 33, 34, 35, 36, 37, 38, 39] from rfl]
      simp only [List.map_cons, List.map_nil, q0, q1, q2, q3, q4, q5, q6, q7, q8, q9, q10, q11, q12, q36, q37, q39, hd]
      generalize a.tmps.getD 13 undef = z13
      generalize a.tmps.getD 14 undef = z14
      generalize a.tmps.getD 15 undef = z15
      generalize a.tmps.getD 16 undef = z16
      generalize a.tmps.getD 17 undef = z17
      generalize a.tmps.getD 18 undef = z18
      generalize a.tmps.getD 19 undef = z19
      generalize a.tmps.getD 20 undef = z20
      generalize a.tmps.getD 21 undef = z21
      generalize a.tmps.getD 22 undef = z22
      generalize a.tmps.getD 23 undef = z23
      generalize a.tmps.getD 24 undef = z24
      generalize a.tmps.getD 25 undef = z25
      generalize a.tmps.getD 26 undef = z26
      generalize a.tmps.getD 27 undef = z27
      generalize a.tmps.getD 28 undef = z28
      generalize a.tmps.getD 29 undef = z29
      generalize a.tmps.getD 30 undef = z30
      generalize a.tmps.getD 31 undef = z31
      generalize a.tmps.getD 32 undef = z32
      generalize a.tmps.getD 33 undef = z33
      generalize a.tmps.getD 34 undef = z34
      generalize a.tmps.getD 35 undef = z35
      generalize a.tmps.getD 38 undef = z38
      go_wp2
      go_roundw
      case rel => exact ⟨b + 1, by omega, by go_num, hA2, hX2, hG2, hbw2⟩
      case measure => simp [intOf]; omega
    · obtain rfl : b = 256 := by omega
      go_wp2
      go_returns
      exact ⟨x, g, rfl, ⟨hX, hG, hne⟩, by omega, by omega, hbw⟩
end Go.Proofs.YtanimknpnniabaaDoor
