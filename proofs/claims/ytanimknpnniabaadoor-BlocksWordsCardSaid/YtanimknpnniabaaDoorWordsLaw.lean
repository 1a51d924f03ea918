/- BlocksWords: of any sets any bytes' blocks, and any blocks' least bytes; there and back it is of the same blocks. -/
import Derived.Test.YtanimknpnniabaaDoorWordP
import Derived.Test.YtanimknpnniabaaDoorOps8
import Derived.Test.YtanimknpnniabaaDoorSame
import Derived.Test.YtanimknpnniabaaDoorAwake04
import Derived.Test.YtanimknpnniabaaDoorRegPart
namespace Go.Proofs.YtanimknpnniabaaDoor
open Go.RowKit
attribute [local go_sem] eq_words eqB_words eqB_zero
theorem enter_ofm (xs : Array Value) (w : World) : (callFunc 12 xs).run Tryd.prog w = .ok (.enter 12 xs) w := by kernel_rfl
theorem enter_count (xs : Array Value) (w : World) : (callFunc 14 xs).run Tryd.prog w = .ok (.enter 14 xs) w := by kernel_rfl
noncomputable def wo1_ops : Array Oper := regOf Tryd.f7 10
def wo1_S (q : Nat → Nat) (x g n : Nat) (ad : Addr) (nn cc k : Nat) (s u : ByteArray) (b c : UInt8) (z : Int) (hb : s.data[k]? = some b) (hc : u.data[k]? = some c) (hk : k < nn) (hz : z = ((q b.toNat : Nat) : Int)) (hle : c.toNat ≤ b.toNat) : List RK := [RK.eq (.slice (some ad) nn cc), RK.eq (.int .i64 ((k : Nat) : Int)), RK.eq (.pointer (some (ad.add k))), RK.eq (.int .i64 z), RK.eq (.pointer (some ⟨x, 0, none⟩)), RK.eq (.string s), RK.eq (.int .i64 ((k : Nat) : Int)), RK.eq (.int .u8 ((b.toNat : Nat) : Int)), RK.eq (.int .i64 ((q b.toNat : Nat) : Int)), RK.eq (.bool false), RK.eq (.bool false), RK.eq (.string u), RK.eq (.int .i64 ((k : Nat) : Int)), RK.eq (.int .u8 ((c.toNat : Nat) : Int)), RK.eq (.string s), RK.eq (.int .i64 ((k : Nat) : Int)), RK.eq (.int .u8 ((b.toNat : Nat) : Int)), RK.eq (.bool false), RK.eq (.bool false)]
theorem wo1_o0 (q : Nat → Nat) (x g n : Nat) (ad : Addr) (nn cc k : Nat) (s u : ByteArray) (b c : UInt8) (z : Int) (hb : s.data[k]? = some b) (hc : u.data[k]? = some c) (hk : k < nn) (hz : z = ((q b.toNat : Nat) : Int)) (hle : c.toNat ≤ b.toNat) (Q : Exit → Act → World → Prop) (a0 : Act) (w0 : World) (hs8 : a0.tmps.getD 8 undef = .slice (some ad) nn cc) : Obl Tryd.prog wo1_ops (wo1_S q x g n ad nn cc k s u b c z hb hc hk hz hle) Q a0 w0 0 :=
  obl_val (.move (.tmp 8)) none rfl (by kernel_rfl) fun a w N H D => ⟨(fun _ _ hg => by cases hg), fun _ ho => wp_move (.inl ho) (held_base H 8 (by kernel_rfl) hs8)⟩
theorem wo1_o1 (q : Nat → Nat) (x g n : Nat) (ad : Addr) (nn cc k : Nat) (s u : ByteArray) (b c : UInt8) (z : Int) (hb : s.data[k]? = some b) (hc : u.data[k]? = some c) (hk : k < nn) (hz : z = ((q b.toNat : Nat) : Int)) (hle : c.toNat ≤ b.toNat) (Q : Exit → Act → World → Prop) (a0 : Act) (w0 : World) (hs11 : a0.tmps.getD 11 undef = .int .i64 ((k : Nat) : Int)) : Obl Tryd.prog wo1_ops (wo1_S q x g n ad nn cc k s u b c z hb hc hk hz hle) Q a0 w0 1 :=
  obl_val (.move (.tmp 11)) none rfl (by kernel_rfl) fun a w N H D => ⟨(fun _ _ hg => by cases hg), fun _ ho => wp_move (.inl ho) (held_base H 11 (by kernel_rfl) hs11)⟩
theorem wo1_o2 (q : Nat → Nat) (x g n : Nat) (ad : Addr) (nn cc k : Nat) (s u : ByteArray) (b c : UInt8) (z : Int) (hb : s.data[k]? = some b) (hc : u.data[k]? = some c) (hk : k < nn) (hz : z = ((q b.toNat : Nat) : Int)) (hle : c.toNat ≤ b.toNat) (Q : Exit → Act → World → Prop) (a0 : Act) (w0 : World)  : Obl Tryd.prog wo1_ops (wo1_S q x g n ad nn cc k s u b c z hb hc hk hz hle) Q a0 w0 2 :=
  obl_val (.indexAddr 26 (.tmp 64) (.tmp 65)) none rfl (by kernel_rfl) fun a w N H D => ⟨(fun _ _ hg => by cases hg), fun _ ho => wp_index_ints ho (fact_eq (c := .slice (some ad) nn cc) (D 0 (by kernel_rfl)) rfl (by kernel_rfl)) (fact_eq (c := .int .i64 ((k : Nat) : Int)) (D 1 (by kernel_rfl)) rfl (by kernel_rfl)) hk⟩
theorem wo1_o3 (q : Nat → Nat) (x g n : Nat) (ad : Addr) (nn cc k : Nat) (s u : ByteArray) (b c : UInt8) (z : Int) (hb : s.data[k]? = some b) (hc : u.data[k]? = some c) (hk : k < nn) (hz : z = ((q b.toNat : Nat) : Int)) (hle : c.toNat ≤ b.toNat) (Q : Exit → Act → World → Prop) (a0 : Act) (w0 : World) (hA2 : CellAt w0 (ad.add k) (.int .i64 z)) : Obl Tryd.prog wo1_ops (wo1_S q x g n ad nn cc k s u b c z hb hc hk hz hle) Q a0 w0 3 :=
  obl_val (.load 3 (.tmp 66)) none rfl (by kernel_rfl) fun a w N H D => ⟨(fun _ _ hg => by cases hg), fun _ ho => wp_load_int ho (fact_eq (c := .pointer (some (ad.add k))) (D 2 (by kernel_rfl)) rfl (by kernel_rfl)) (hA2.below H.below)⟩
theorem wo1_o4 (q : Nat → Nat) (x g n : Nat) (ad : Addr) (nn cc k : Nat) (s u : ByteArray) (b c : UInt8) (z : Int) (hb : s.data[k]? = some b) (hc : u.data[k]? = some c) (hk : k < nn) (hz : z = ((q b.toNat : Nat) : Int)) (hle : c.toNat ≤ b.toNat) (Q : Exit → Act → World → Prop) (a0 : Act) (w0 : World) (hs7 : a0.tmps.getD 7 undef = .pointer (some ⟨x, 0, none⟩)) : Obl Tryd.prog wo1_ops (wo1_S q x g n ad nn cc k s u b c z hb hc hk hz hle) Q a0 w0 4 :=
  obl_val (.move (.tmp 7)) none rfl (by kernel_rfl) fun a w N H D => ⟨(fun _ _ hg => by cases hg), fun _ ho => wp_move (.inl ho) (held_base H 7 (by kernel_rfl) hs7)⟩
theorem wo1_o5 (q : Nat → Nat) (x g n : Nat) (ad : Addr) (nn cc k : Nat) (s u : ByteArray) (b c : UInt8) (z : Int) (hb : s.data[k]? = some b) (hc : u.data[k]? = some c) (hk : k < nn) (hz : z = ((q b.toNat : Nat) : Int)) (hle : c.toNat ≤ b.toNat) (Q : Exit → Act → World → Prop) (a0 : Act) (w0 : World) (hs1 : a0.tmps.getD 1 undef = .string s) : Obl Tryd.prog wo1_ops (wo1_S q x g n ad nn cc k s u b c z hb hc hk hz hle) Q a0 w0 5 :=
  obl_val (.move (.tmp 1)) none rfl (by kernel_rfl) fun a w N H D => ⟨(fun _ _ hg => by cases hg), fun _ ho => wp_move (.inl ho) (held_base H 1 (by kernel_rfl) hs1)⟩
theorem wo1_o6 (q : Nat → Nat) (x g n : Nat) (ad : Addr) (nn cc k : Nat) (s u : ByteArray) (b c : UInt8) (z : Int) (hb : s.data[k]? = some b) (hc : u.data[k]? = some c) (hk : k < nn) (hz : z = ((q b.toNat : Nat) : Int)) (hle : c.toNat ≤ b.toNat) (Q : Exit → Act → World → Prop) (a0 : Act) (w0 : World) (hs11 : a0.tmps.getD 11 undef = .int .i64 ((k : Nat) : Int)) : Obl Tryd.prog wo1_ops (wo1_S q x g n ad nn cc k s u b c z hb hc hk hz hle) Q a0 w0 6 :=
  obl_val (.move (.tmp 11)) none rfl (by kernel_rfl) fun a w N H D => ⟨(fun _ _ hg => by cases hg), fun _ ho => wp_move (.inl ho) (held_base H 11 (by kernel_rfl) hs11)⟩
theorem wo1_o7 (q : Nat → Nat) (x g n : Nat) (ad : Addr) (nn cc k : Nat) (s u : ByteArray) (b c : UInt8) (z : Int) (hb : s.data[k]? = some b) (hc : u.data[k]? = some c) (hk : k < nn) (hz : z = ((q b.toNat : Nat) : Int)) (hle : c.toNat ≤ b.toNat) (Q : Exit → Act → World → Prop) (a0 : Act) (w0 : World)  : Obl Tryd.prog wo1_ops (wo1_S q x g n ad nn cc k s u b c z hb hc hk hz hle) Q a0 w0 7 :=
  obl_val (.index 9 (.tmp 69) (.tmp 70)) none rfl (by kernel_rfl) fun a w N H D => ⟨(fun _ _ hg => by cases hg), fun _ ho => wp_index_str ho (fact_eq (c := .string s) (D 5 (by kernel_rfl)) rfl (by kernel_rfl)) (fact_eq (c := .int .i64 ((k : Nat) : Int)) (D 6 (by kernel_rfl)) rfl (by kernel_rfl)) hb⟩
theorem wo1_o8 (q : Nat → Nat) (x g n : Nat) (ad : Addr) (nn cc k : Nat) (s u : ByteArray) (b c : UInt8) (z : Int) (hb : s.data[k]? = some b) (hc : u.data[k]? = some c) (hk : k < nn) (hz : z = ((q b.toNat : Nat) : Int)) (hle : c.toNat ≤ b.toNat) (Q : Exit → Act → World → Prop) (a0 : Act) (w0 : World) (hX : BlksAt w0 x g q n) : Obl Tryd.prog wo1_ops (wo1_S q x g n ad nn cc k s u b c z hb hc hk hz hle) Q a0 w0 8 :=
  obl_val (.call { callee := .value (.func 12), args := #[.tmp 68, .tmp 71], argTypes := #[24, 5] }) none rfl (by kernel_rfl) fun a w N H D => ⟨(fun _ _ hg => by cases hg), fun _ ho => wp_call_eq ho enter_ofm (by simp only [List.map_toArray, List.map_cons, List.map_nil]; rw [(fact_eq (c := .pointer (some ⟨x, 0, none⟩)) (D 4 (by kernel_rfl)) rfl (by kernel_rfl)), (fact_eq (c := .int .u8 ((b.toNat : Nat) : Int)) (D 7 (by kernel_rfl)) rfl (by kernel_rfl))]) (ofm_any b.toNat b.toNat_lt _ (hX.below H.below))⟩
theorem wo1_o9 (q : Nat → Nat) (x g n : Nat) (ad : Addr) (nn cc k : Nat) (s u : ByteArray) (b c : UInt8) (z : Int) (hb : s.data[k]? = some b) (hc : u.data[k]? = some c) (hk : k < nn) (hz : z = ((q b.toNat : Nat) : Int)) (hle : c.toNat ≤ b.toNat) (Q : Exit → Act → World → Prop) (a0 : Act) (w0 : World)  : Obl Tryd.prog wo1_ops (wo1_S q x g n ad nn cc k s u b c z hb hc hk hz hle) Q a0 w0 9 :=
  obl_val (.binOp .neq 3 (.tmp 67) (.tmp 72) 3) none rfl (by kernel_rfl) fun a w N H D => ⟨(fun _ _ hg => by cases hg), fun _ ho => wp_of_eq (wp_neqi ho (fact_eq (c := .int .i64 z) (D 3 (by kernel_rfl)) rfl (by kernel_rfl)) (fact_eq (c := .int .i64 ((q b.toNat : Nat) : Int)) (D 8 (by kernel_rfl)) rfl (by kernel_rfl))) (.bool false) (by simp [hz])⟩
theorem wo1_o10 (q : Nat → Nat) (x g n : Nat) (ad : Addr) (nn cc k : Nat) (s u : ByteArray) (b c : UInt8) (z : Int) (hb : s.data[k]? = some b) (hc : u.data[k]? = some c) (hk : k < nn) (hz : z = ((q b.toNat : Nat) : Int)) (hle : c.toNat ≤ b.toNat) (Q : Exit → Act → World → Prop) (a0 : Act) (w0 : World)  : Obl Tryd.prog wo1_ops (wo1_S q x g n ad nn cc k s u b c z hb hc hk hz hle) Q a0 w0 10 :=
  obl_val (.move (.tmp 73)) none rfl (by kernel_rfl) fun a w N H D => ⟨(fun _ _ hg => by cases hg), fun _ ho => wp_move (.inl ho) (fact_eq (c := .bool false) (D 9 (by kernel_rfl)) rfl (by kernel_rfl))⟩
theorem wo1_o11 (q : Nat → Nat) (x g n : Nat) (ad : Addr) (nn cc k : Nat) (s u : ByteArray) (b c : UInt8) (z : Int) (hb : s.data[k]? = some b) (hc : u.data[k]? = some c) (hk : k < nn) (hz : z = ((q b.toNat : Nat) : Int)) (hle : c.toNat ≤ b.toNat) (Q : Exit → Act → World → Prop) (a0 : Act) (w0 : World) (hs9 : a0.tmps.getD 9 undef = .string u) : Obl Tryd.prog wo1_ops (wo1_S q x g n ad nn cc k s u b c z hb hc hk hz hle) Q a0 w0 11 :=
  obl_val (.move (.tmp 9)) (some (10, false)) rfl (by kernel_rfl) fun a w N H D => ⟨(fun _ _ hg => by cases hg; exact ⟨74, by kernel_rfl, fact_eq (D 10 (by kernel_rfl)) rfl (by kernel_rfl)⟩), fun _ ho => wp_move (.inl ho) (held_base H 9 (by kernel_rfl) hs9)⟩
theorem wo1_o12 (q : Nat → Nat) (x g n : Nat) (ad : Addr) (nn cc k : Nat) (s u : ByteArray) (b c : UInt8) (z : Int) (hb : s.data[k]? = some b) (hc : u.data[k]? = some c) (hk : k < nn) (hz : z = ((q b.toNat : Nat) : Int)) (hle : c.toNat ≤ b.toNat) (Q : Exit → Act → World → Prop) (a0 : Act) (w0 : World) (hs11 : a0.tmps.getD 11 undef = .int .i64 ((k : Nat) : Int)) : Obl Tryd.prog wo1_ops (wo1_S q x g n ad nn cc k s u b c z hb hc hk hz hle) Q a0 w0 12 :=
  obl_val (.move (.tmp 11)) (some (10, false)) rfl (by kernel_rfl) fun a w N H D => ⟨(fun _ _ hg => by cases hg; exact ⟨74, by kernel_rfl, fact_eq (D 10 (by kernel_rfl)) rfl (by kernel_rfl)⟩), fun _ ho => wp_move (.inl ho) (held_base H 11 (by kernel_rfl) hs11)⟩
theorem wo1_o13 (q : Nat → Nat) (x g n : Nat) (ad : Addr) (nn cc k : Nat) (s u : ByteArray) (b c : UInt8) (z : Int) (hb : s.data[k]? = some b) (hc : u.data[k]? = some c) (hk : k < nn) (hz : z = ((q b.toNat : Nat) : Int)) (hle : c.toNat ≤ b.toNat) (Q : Exit → Act → World → Prop) (a0 : Act) (w0 : World)  : Obl Tryd.prog wo1_ops (wo1_S q x g n ad nn cc k s u b c z hb hc hk hz hle) Q a0 w0 13 :=
  obl_val (.index 9 (.tmp 75) (.tmp 76)) (some (10, false)) rfl (by kernel_rfl) fun a w N H D => ⟨(fun _ _ hg => by cases hg; exact ⟨74, by kernel_rfl, fact_eq (D 10 (by kernel_rfl)) rfl (by kernel_rfl)⟩), fun _ ho => wp_index_str ho (fact_eq (c := .string u) (D 11 (by kernel_rfl)) rfl (by kernel_rfl)) (fact_eq (c := .int .i64 ((k : Nat) : Int)) (D 12 (by kernel_rfl)) rfl (by kernel_rfl)) hc⟩
theorem wo1_o14 (q : Nat → Nat) (x g n : Nat) (ad : Addr) (nn cc k : Nat) (s u : ByteArray) (b c : UInt8) (z : Int) (hb : s.data[k]? = some b) (hc : u.data[k]? = some c) (hk : k < nn) (hz : z = ((q b.toNat : Nat) : Int)) (hle : c.toNat ≤ b.toNat) (Q : Exit → Act → World → Prop) (a0 : Act) (w0 : World) (hs1 : a0.tmps.getD 1 undef = .string s) : Obl Tryd.prog wo1_ops (wo1_S q x g n ad nn cc k s u b c z hb hc hk hz hle) Q a0 w0 14 :=
  obl_val (.move (.tmp 1)) (some (10, false)) rfl (by kernel_rfl) fun a w N H D => ⟨(fun _ _ hg => by cases hg; exact ⟨74, by kernel_rfl, fact_eq (D 10 (by kernel_rfl)) rfl (by kernel_rfl)⟩), fun _ ho => wp_move (.inl ho) (held_base H 1 (by kernel_rfl) hs1)⟩
theorem wo1_o15 (q : Nat → Nat) (x g n : Nat) (ad : Addr) (nn cc k : Nat) (s u : ByteArray) (b c : UInt8) (z : Int) (hb : s.data[k]? = some b) (hc : u.data[k]? = some c) (hk : k < nn) (hz : z = ((q b.toNat : Nat) : Int)) (hle : c.toNat ≤ b.toNat) (Q : Exit → Act → World → Prop) (a0 : Act) (w0 : World) (hs11 : a0.tmps.getD 11 undef = .int .i64 ((k : Nat) : Int)) : Obl Tryd.prog wo1_ops (wo1_S q x g n ad nn cc k s u b c z hb hc hk hz hle) Q a0 w0 15 :=
  obl_val (.move (.tmp 11)) (some (10, false)) rfl (by kernel_rfl) fun a w N H D => ⟨(fun _ _ hg => by cases hg; exact ⟨74, by kernel_rfl, fact_eq (D 10 (by kernel_rfl)) rfl (by kernel_rfl)⟩), fun _ ho => wp_move (.inl ho) (held_base H 11 (by kernel_rfl) hs11)⟩
theorem wo1_o16 (q : Nat → Nat) (x g n : Nat) (ad : Addr) (nn cc k : Nat) (s u : ByteArray) (b c : UInt8) (z : Int) (hb : s.data[k]? = some b) (hc : u.data[k]? = some c) (hk : k < nn) (hz : z = ((q b.toNat : Nat) : Int)) (hle : c.toNat ≤ b.toNat) (Q : Exit → Act → World → Prop) (a0 : Act) (w0 : World)  : Obl Tryd.prog wo1_ops (wo1_S q x g n ad nn cc k s u b c z hb hc hk hz hle) Q a0 w0 16 :=
  obl_val (.index 9 (.tmp 78) (.tmp 79)) (some (10, false)) rfl (by kernel_rfl) fun a w N H D => ⟨(fun _ _ hg => by cases hg; exact ⟨74, by kernel_rfl, fact_eq (D 10 (by kernel_rfl)) rfl (by kernel_rfl)⟩), fun _ ho => wp_index_str ho (fact_eq (c := .string s) (D 14 (by kernel_rfl)) rfl (by kernel_rfl)) (fact_eq (c := .int .i64 ((k : Nat) : Int)) (D 15 (by kernel_rfl)) rfl (by kernel_rfl)) hb⟩
theorem wo1_o17 (q : Nat → Nat) (x g n : Nat) (ad : Addr) (nn cc k : Nat) (s u : ByteArray) (b c : UInt8) (z : Int) (hb : s.data[k]? = some b) (hc : u.data[k]? = some c) (hk : k < nn) (hz : z = ((q b.toNat : Nat) : Int)) (hle : c.toNat ≤ b.toNat) (Q : Exit → Act → World → Prop) (a0 : Act) (w0 : World)  : Obl Tryd.prog wo1_ops (wo1_S q x g n ad nn cc k s u b c z hb hc hk hz hle) Q a0 w0 17 :=
  obl_val (.binOp .gtr 5 (.tmp 77) (.tmp 80) 5) (some (10, false)) rfl (by kernel_rfl) fun a w N H D => ⟨(fun _ _ hg => by cases hg; exact ⟨74, by kernel_rfl, fact_eq (D 10 (by kernel_rfl)) rfl (by kernel_rfl)⟩), fun _ ho => wp_of_eq (wp_gtr8 ho (fact_eq (c := .int .u8 ((c.toNat : Nat) : Int)) (D 13 (by kernel_rfl)) rfl (by kernel_rfl)) (fact_eq (c := .int .u8 ((b.toNat : Nat) : Int)) (D 16 (by kernel_rfl)) rfl (by kernel_rfl))) (.bool false) (by simp; omega)⟩
theorem wo1_o18 (q : Nat → Nat) (x g n : Nat) (ad : Addr) (nn cc k : Nat) (s u : ByteArray) (b c : UInt8) (z : Int) (hb : s.data[k]? = some b) (hc : u.data[k]? = some c) (hk : k < nn) (hz : z = ((q b.toNat : Nat) : Int)) (hle : c.toNat ≤ b.toNat) (Q : Exit → Act → World → Prop) (a0 : Act) (w0 : World)  : Obl Tryd.prog wo1_ops (wo1_S q x g n ad nn cc k s u b c z hb hc hk hz hle) Q a0 w0 18 :=
  obl_val (.pick (.tmp 74) (.const (.bool true)) (.tmp 81)) none rfl (by kernel_rfl) fun a w N H D => ⟨(fun _ _ hg => by cases hg), fun _ ho => wp_pick (b := false) ho (fact_eq (c := .bool false) (D 10 (by kernel_rfl)) rfl (by kernel_rfl)) (fact_eq (c := .bool false) (D 17 (by kernel_rfl)) rfl (by kernel_rfl))⟩
theorem wo1_all (q : Nat → Nat) (x g n : Nat) (ad : Addr) (nn cc k : Nat) (s u : ByteArray) (b c : UInt8) (z : Int) (hb : s.data[k]? = some b) (hc : u.data[k]? = some c) (hk : k < nn) (hz : z = ((q b.toNat : Nat) : Int)) (hle : c.toNat ≤ b.toNat) (Q : Exit → Act → World → Prop) (a0 : Act) (w0 : World) (hs7 : a0.tmps.getD 7 undef = .pointer (some ⟨x, 0, none⟩)) (hX : BlksAt w0 x g q n) (hs8 : a0.tmps.getD 8 undef = .slice (some ad) nn cc) (hs11 : a0.tmps.getD 11 undef = .int .i64 ((k : Nat) : Int)) (hs1 : a0.tmps.getD 1 undef = .string s) (hs9 : a0.tmps.getD 9 undef = .string u) (hA2 : CellAt w0 (ad.add k) (.int .i64 z)) : ∀ i, i < wo1_ops.size → Obl Tryd.prog wo1_ops (wo1_S q x g n ad nn cc k s u b c z hb hc hk hz hle) Q a0 w0 i := by
  intro i hi_
  have hs : wo1_ops.size = 19 := by kernel_rfl
  rw [hs] at hi_
  clear hs
  match i, hi_ with
  | 0, _ => exact wo1_o0 q x g n ad nn cc k s u b c z hb hc hk hz hle  Q a0 w0 hs8
  | 1, _ => exact wo1_o1 q x g n ad nn cc k s u b c z hb hc hk hz hle  Q a0 w0 hs11
  | 2, _ => exact wo1_o2 q x g n ad nn cc k s u b c z hb hc hk hz hle  Q a0 w0 
  | 3, _ => exact wo1_o3 q x g n ad nn cc k s u b c z hb hc hk hz hle  Q a0 w0 hA2
  | 4, _ => exact wo1_o4 q x g n ad nn cc k s u b c z hb hc hk hz hle  Q a0 w0 hs7
  | 5, _ => exact wo1_o5 q x g n ad nn cc k s u b c z hb hc hk hz hle  Q a0 w0 hs1
  | 6, _ => exact wo1_o6 q x g n ad nn cc k s u b c z hb hc hk hz hle  Q a0 w0 hs11
  | 7, _ => exact wo1_o7 q x g n ad nn cc k s u b c z hb hc hk hz hle  Q a0 w0 
  | 8, _ => exact wo1_o8 q x g n ad nn cc k s u b c z hb hc hk hz hle  Q a0 w0 hX
  | 9, _ => exact wo1_o9 q x g n ad nn cc k s u b c z hb hc hk hz hle  Q a0 w0 
  | 10, _ => exact wo1_o10 q x g n ad nn cc k s u b c z hb hc hk hz hle  Q a0 w0 
  | 11, _ => exact wo1_o11 q x g n ad nn cc k s u b c z hb hc hk hz hle  Q a0 w0 hs9
  | 12, _ => exact wo1_o12 q x g n ad nn cc k s u b c z hb hc hk hz hle  Q a0 w0 hs11
  | 13, _ => exact wo1_o13 q x g n ad nn cc k s u b c z hb hc hk hz hle  Q a0 w0 
  | 14, _ => exact wo1_o14 q x g n ad nn cc k s u b c z hb hc hk hz hle  Q a0 w0 hs1
  | 15, _ => exact wo1_o15 q x g n ad nn cc k s u b c z hb hc hk hz hle  Q a0 w0 hs11
  | 16, _ => exact wo1_o16 q x g n ad nn cc k s u b c z hb hc hk hz hle  Q a0 w0 
  | 17, _ => exact wo1_o17 q x g n ad nn cc k s u b c z hb hc hk hz hle  Q a0 w0 
  | 18, _ => exact wo1_o18 q x g n ad nn cc k s u b c z hb hc hk hz hle  Q a0 w0 
  | i + 19, h => exact absurd h (by omega)
noncomputable def woA_ops : Array Oper := regOf Tryd.f7 16
noncomputable def woA_opsN : Array Oper := noLast woA_ops 17
def woA_S (q : Nat → Nat) (x g n : Nat) (ad : Addr) (nn cc k : Nat) (z : Int) (hk : k < nn) : List RK := [RK.eq (.bool false), RK.eq (.bool false), RK.eq undef, RK.eq undef, RK.eq undef, RK.eq undef, RK.eq undef, RK.eq (.bool false), RK.eq (.bool false), RK.eq undef, RK.eq undef, RK.eq undef, RK.eq undef, RK.eq undef, RK.eq undef, RK.eq undef, RK.eq (.bool false)]
theorem woA_o0 (q : Nat → Nat) (x g n : Nat) (ad : Addr) (nn cc k : Nat) (z : Int) (hk : k < nn) (Q : Exit → Act → World → Prop) (a0 : Act) (w0 : World) (hs12 : a0.tmps.getD 12 undef = .bool false) : Obl Tryd.prog woA_opsN (woA_S q x g n ad nn cc k z hk) Q a0 w0 0 :=
  obl_val (.move (.tmp 12)) none rfl (by kernel_rfl) fun a w N H D => ⟨(fun _ _ hg => by cases hg), fun _ ho => wp_move (.inl ho) (held_base H 12 (by kernel_rfl) hs12)⟩
theorem woA_o1 (q : Nat → Nat) (x g n : Nat) (ad : Addr) (nn cc k : Nat) (z : Int) (hk : k < nn) (Q : Exit → Act → World → Prop) (a0 : Act) (w0 : World)  : Obl Tryd.prog woA_opsN (woA_S q x g n ad nn cc k z hk) Q a0 w0 1 :=
  obl_val (.move (.tmp 89)) none rfl (by kernel_rfl) fun a w N H D => ⟨(fun _ _ hg => by cases hg), fun _ ho => wp_move (.inl ho) (fact_eq (c := .bool false) (D 0 (by kernel_rfl)) rfl (by kernel_rfl))⟩
theorem woA_o2 (q : Nat → Nat) (x g n : Nat) (ad : Addr) (nn cc k : Nat) (z : Int) (hk : k < nn) (Q : Exit → Act → World → Prop) (a0 : Act) (w0 : World)  : Obl Tryd.prog woA_opsN (woA_S q x g n ad nn cc k z hk) Q a0 w0 2 :=
  obl_skip (.move (.tmp 2)) 1 true rfl (by kernel_rfl) fun a w N H D => ⟨90, .bool false, by kernel_rfl, fact_eq (D 1 (by kernel_rfl)) rfl (by kernel_rfl), by simp⟩
theorem woA_o3 (q : Nat → Nat) (x g n : Nat) (ad : Addr) (nn cc k : Nat) (z : Int) (hk : k < nn) (Q : Exit → Act → World → Prop) (a0 : Act) (w0 : World)  : Obl Tryd.prog woA_opsN (woA_S q x g n ad nn cc k z hk) Q a0 w0 3 :=
  obl_skip (.move (.tmp 13)) 1 true rfl (by kernel_rfl) fun a w N H D => ⟨90, .bool false, by kernel_rfl, fact_eq (D 1 (by kernel_rfl)) rfl (by kernel_rfl), by simp⟩
theorem woA_o4 (q : Nat → Nat) (x g n : Nat) (ad : Addr) (nn cc k : Nat) (z : Int) (hk : k < nn) (Q : Exit → Act → World → Prop) (a0 : Act) (w0 : World)  : Obl Tryd.prog woA_opsN (woA_S q x g n ad nn cc k z hk) Q a0 w0 4 :=
  obl_skip (.indexAddr 26 (.tmp 91) (.tmp 92)) 1 true rfl (by kernel_rfl) fun a w N H D => ⟨90, .bool false, by kernel_rfl, fact_eq (D 1 (by kernel_rfl)) rfl (by kernel_rfl), by simp⟩
theorem woA_o5 (q : Nat → Nat) (x g n : Nat) (ad : Addr) (nn cc k : Nat) (z : Int) (hk : k < nn) (Q : Exit → Act → World → Prop) (a0 : Act) (w0 : World)  : Obl Tryd.prog woA_opsN (woA_S q x g n ad nn cc k z hk) Q a0 w0 5 :=
  obl_skip (.load 3 (.tmp 93)) 1 true rfl (by kernel_rfl) fun a w N H D => ⟨90, .bool false, by kernel_rfl, fact_eq (D 1 (by kernel_rfl)) rfl (by kernel_rfl), by simp⟩
theorem woA_o6 (q : Nat → Nat) (x g n : Nat) (ad : Addr) (nn cc k : Nat) (z : Int) (hk : k < nn) (Q : Exit → Act → World → Prop) (a0 : Act) (w0 : World)  : Obl Tryd.prog woA_opsN (woA_S q x g n ad nn cc k z hk) Q a0 w0 6 :=
  obl_skip (.binOp .geq 3 (.tmp 94) (.const (.int .i64 0)) 3) 1 true rfl (by kernel_rfl) fun a w N H D => ⟨90, .bool false, by kernel_rfl, fact_eq (D 1 (by kernel_rfl)) rfl (by kernel_rfl), by simp⟩
theorem woA_o7 (q : Nat → Nat) (x g n : Nat) (ad : Addr) (nn cc k : Nat) (z : Int) (hk : k < nn) (Q : Exit → Act → World → Prop) (a0 : Act) (w0 : World)  : Obl Tryd.prog woA_opsN (woA_S q x g n ad nn cc k z hk) Q a0 w0 7 :=
  obl_val (.pick (.tmp 90) (.tmp 95) (.const (.bool false))) none rfl (by kernel_rfl) fun a w N H D => ⟨(fun _ _ hg => by cases hg), fun _ ho => wp_pick (b := false) ho (fact_eq (c := .bool false) (D 1 (by kernel_rfl)) rfl (by kernel_rfl)) rfl⟩
theorem woA_o8 (q : Nat → Nat) (x g n : Nat) (ad : Addr) (nn cc k : Nat) (z : Int) (hk : k < nn) (Q : Exit → Act → World → Prop) (a0 : Act) (w0 : World)  : Obl Tryd.prog woA_opsN (woA_S q x g n ad nn cc k z hk) Q a0 w0 8 :=
  obl_val (.move (.tmp 96)) none rfl (by kernel_rfl) fun a w N H D => ⟨(fun _ _ hg => by cases hg), fun _ ho => wp_move (.inl ho) (fact_eq (c := .bool false) (D 7 (by kernel_rfl)) rfl (by kernel_rfl))⟩
theorem woA_o9 (q : Nat → Nat) (x g n : Nat) (ad : Addr) (nn cc k : Nat) (z : Int) (hk : k < nn) (Q : Exit → Act → World → Prop) (a0 : Act) (w0 : World)  : Obl Tryd.prog woA_opsN (woA_S q x g n ad nn cc k z hk) Q a0 w0 9 :=
  obl_skip (.move (.tmp 2)) 8 true rfl (by kernel_rfl) fun a w N H D => ⟨97, .bool false, by kernel_rfl, fact_eq (D 8 (by kernel_rfl)) rfl (by kernel_rfl), by simp⟩
theorem woA_o10 (q : Nat → Nat) (x g n : Nat) (ad : Addr) (nn cc k : Nat) (z : Int) (hk : k < nn) (Q : Exit → Act → World → Prop) (a0 : Act) (w0 : World)  : Obl Tryd.prog woA_opsN (woA_S q x g n ad nn cc k z hk) Q a0 w0 10 :=
  obl_skip (.move (.tmp 13)) 8 true rfl (by kernel_rfl) fun a w N H D => ⟨97, .bool false, by kernel_rfl, fact_eq (D 8 (by kernel_rfl)) rfl (by kernel_rfl), by simp⟩
theorem woA_o11 (q : Nat → Nat) (x g n : Nat) (ad : Addr) (nn cc k : Nat) (z : Int) (hk : k < nn) (Q : Exit → Act → World → Prop) (a0 : Act) (w0 : World)  : Obl Tryd.prog woA_opsN (woA_S q x g n ad nn cc k z hk) Q a0 w0 11 :=
  obl_skip (.indexAddr 26 (.tmp 98) (.tmp 99)) 8 true rfl (by kernel_rfl) fun a w N H D => ⟨97, .bool false, by kernel_rfl, fact_eq (D 8 (by kernel_rfl)) rfl (by kernel_rfl), by simp⟩
theorem woA_o12 (q : Nat → Nat) (x g n : Nat) (ad : Addr) (nn cc k : Nat) (z : Int) (hk : k < nn) (Q : Exit → Act → World → Prop) (a0 : Act) (w0 : World)  : Obl Tryd.prog woA_opsN (woA_S q x g n ad nn cc k z hk) Q a0 w0 12 :=
  obl_skip (.load 3 (.tmp 100)) 8 true rfl (by kernel_rfl) fun a w N H D => ⟨97, .bool false, by kernel_rfl, fact_eq (D 8 (by kernel_rfl)) rfl (by kernel_rfl), by simp⟩
theorem woA_o13 (q : Nat → Nat) (x g n : Nat) (ad : Addr) (nn cc k : Nat) (z : Int) (hk : k < nn) (Q : Exit → Act → World → Prop) (a0 : Act) (w0 : World)  : Obl Tryd.prog woA_opsN (woA_S q x g n ad nn cc k z hk) Q a0 w0 13 :=
  obl_skip (.move (.tmp 7)) 8 true rfl (by kernel_rfl) fun a w N H D => ⟨97, .bool false, by kernel_rfl, fact_eq (D 8 (by kernel_rfl)) rfl (by kernel_rfl), by simp⟩
theorem woA_o14 (q : Nat → Nat) (x g n : Nat) (ad : Addr) (nn cc k : Nat) (z : Int) (hk : k < nn) (Q : Exit → Act → World → Prop) (a0 : Act) (w0 : World)  : Obl Tryd.prog woA_opsN (woA_S q x g n ad nn cc k z hk) Q a0 w0 14 :=
  obl_skip (.call { callee := .value (.func 14), args := #[.tmp 102], argTypes := #[24] }) 8 true rfl (by kernel_rfl) fun a w N H D => ⟨97, .bool false, by kernel_rfl, fact_eq (D 8 (by kernel_rfl)) rfl (by kernel_rfl), by simp⟩
theorem woA_o15 (q : Nat → Nat) (x g n : Nat) (ad : Addr) (nn cc k : Nat) (z : Int) (hk : k < nn) (Q : Exit → Act → World → Prop) (a0 : Act) (w0 : World)  : Obl Tryd.prog woA_opsN (woA_S q x g n ad nn cc k z hk) Q a0 w0 15 :=
  obl_skip (.binOp .lss 3 (.tmp 101) (.tmp 103) 3) 8 true rfl (by kernel_rfl) fun a w N H D => ⟨97, .bool false, by kernel_rfl, fact_eq (D 8 (by kernel_rfl)) rfl (by kernel_rfl), by simp⟩
theorem woA_o16 (q : Nat → Nat) (x g n : Nat) (ad : Addr) (nn cc k : Nat) (z : Int) (hk : k < nn) (Q : Exit → Act → World → Prop) (a0 : Act) (w0 : World)  : Obl Tryd.prog woA_opsN (woA_S q x g n ad nn cc k z hk) Q a0 w0 16 :=
  obl_val (.pick (.tmp 97) (.tmp 104) (.const (.bool false))) none rfl (by kernel_rfl) fun a w N H D => ⟨(fun _ _ hg => by cases hg), fun _ ho => wp_pick (b := false) ho (fact_eq (c := .bool false) (D 8 (by kernel_rfl)) rfl (by kernel_rfl)) rfl⟩
theorem woA_all (q : Nat → Nat) (x g n : Nat) (ad : Addr) (nn cc k : Nat) (z : Int) (hk : k < nn) (Q : Exit → Act → World → Prop) (a0 : Act) (w0 : World) (hs7 : a0.tmps.getD 7 undef = .pointer (some ⟨x, 0, none⟩)) (hX : BlksAt w0 x g q n) (hs2 : a0.tmps.getD 2 undef = .slice (some ad) nn cc) (hs13 : a0.tmps.getD 13 undef = .int .i64 ((k : Nat) : Int)) (hA2 : CellAt w0 (ad.add k) (.int .i64 z)) (hs12 : a0.tmps.getD 12 undef = .bool false) : ∀ i, i < 17 → Obl Tryd.prog woA_opsN (woA_S q x g n ad nn cc k z hk) Q a0 w0 i := by
  intro i hi_
  match i, hi_ with
  | 0, _ => exact woA_o0 q x g n ad nn cc k z hk  Q a0 w0 hs12
  | 1, _ => exact woA_o1 q x g n ad nn cc k z hk  Q a0 w0 
  | 2, _ => exact woA_o2 q x g n ad nn cc k z hk  Q a0 w0 
  | 3, _ => exact woA_o3 q x g n ad nn cc k z hk  Q a0 w0 
  | 4, _ => exact woA_o4 q x g n ad nn cc k z hk  Q a0 w0 
  | 5, _ => exact woA_o5 q x g n ad nn cc k z hk  Q a0 w0 
  | 6, _ => exact woA_o6 q x g n ad nn cc k z hk  Q a0 w0 
  | 7, _ => exact woA_o7 q x g n ad nn cc k z hk  Q a0 w0 
  | 8, _ => exact woA_o8 q x g n ad nn cc k z hk  Q a0 w0 
  | 9, _ => exact woA_o9 q x g n ad nn cc k z hk  Q a0 w0 
  | 10, _ => exact woA_o10 q x g n ad nn cc k z hk  Q a0 w0 
  | 11, _ => exact woA_o11 q x g n ad nn cc k z hk  Q a0 w0 
  | 12, _ => exact woA_o12 q x g n ad nn cc k z hk  Q a0 w0 
  | 13, _ => exact woA_o13 q x g n ad nn cc k z hk  Q a0 w0 
  | 14, _ => exact woA_o14 q x g n ad nn cc k z hk  Q a0 w0 
  | 15, _ => exact woA_o15 q x g n ad nn cc k z hk  Q a0 w0 
  | 16, _ => exact woA_o16 q x g n ad nn cc k z hk  Q a0 w0 
  | i + 17, h => exact absurd h (by omega)
noncomputable def woB_ops : Array Oper := regOf Tryd.f7 16
noncomputable def woB_opsN : Array Oper := noLast woB_ops 17
def woB_S (q : Nat → Nat) (x g n : Nat) (ad : Addr) (nn cc k : Nat) (z : Int) (hk : k < nn) (hz : z < 0) : List RK := [RK.eq (.bool true), RK.eq (.bool true), RK.eq (.slice (some ad) nn cc), RK.eq (.int .i64 ((k : Nat) : Int)), RK.eq (.pointer (some (ad.add k))), RK.eq (.int .i64 z), RK.eq (.bool false), RK.eq (.bool false), RK.eq (.bool false), RK.eq undef, RK.eq undef, RK.eq undef, RK.eq undef, RK.eq undef, RK.eq undef, RK.eq undef, RK.eq (.bool false)]
theorem woB_o0 (q : Nat → Nat) (x g n : Nat) (ad : Addr) (nn cc k : Nat) (z : Int) (hk : k < nn) (hz : z < 0) (Q : Exit → Act → World → Prop) (a0 : Act) (w0 : World) (hs12 : a0.tmps.getD 12 undef = .bool true) : Obl Tryd.prog woB_opsN (woB_S q x g n ad nn cc k z hk hz) Q a0 w0 0 :=
  obl_val (.move (.tmp 12)) none rfl (by kernel_rfl) fun a w N H D => ⟨(fun _ _ hg => by cases hg), fun _ ho => wp_move (.inl ho) (held_base H 12 (by kernel_rfl) hs12)⟩
theorem woB_o1 (q : Nat → Nat) (x g n : Nat) (ad : Addr) (nn cc k : Nat) (z : Int) (hk : k < nn) (hz : z < 0) (Q : Exit → Act → World → Prop) (a0 : Act) (w0 : World)  : Obl Tryd.prog woB_opsN (woB_S q x g n ad nn cc k z hk hz) Q a0 w0 1 :=
  obl_val (.move (.tmp 89)) none rfl (by kernel_rfl) fun a w N H D => ⟨(fun _ _ hg => by cases hg), fun _ ho => wp_move (.inl ho) (fact_eq (c := .bool true) (D 0 (by kernel_rfl)) rfl (by kernel_rfl))⟩
theorem woB_o2 (q : Nat → Nat) (x g n : Nat) (ad : Addr) (nn cc k : Nat) (z : Int) (hk : k < nn) (hz : z < 0) (Q : Exit → Act → World → Prop) (a0 : Act) (w0 : World) (hs2 : a0.tmps.getD 2 undef = .slice (some ad) nn cc) : Obl Tryd.prog woB_opsN (woB_S q x g n ad nn cc k z hk hz) Q a0 w0 2 :=
  obl_val (.move (.tmp 2)) (some (1, true)) rfl (by kernel_rfl) fun a w N H D => ⟨(fun _ _ hg => by cases hg; exact ⟨90, by kernel_rfl, fact_eq (D 1 (by kernel_rfl)) rfl (by kernel_rfl)⟩), fun _ ho => wp_move (.inl ho) (held_base H 2 (by kernel_rfl) hs2)⟩
theorem woB_o3 (q : Nat → Nat) (x g n : Nat) (ad : Addr) (nn cc k : Nat) (z : Int) (hk : k < nn) (hz : z < 0) (Q : Exit → Act → World → Prop) (a0 : Act) (w0 : World) (hs13 : a0.tmps.getD 13 undef = .int .i64 ((k : Nat) : Int)) : Obl Tryd.prog woB_opsN (woB_S q x g n ad nn cc k z hk hz) Q a0 w0 3 :=
  obl_val (.move (.tmp 13)) (some (1, true)) rfl (by kernel_rfl) fun a w N H D => ⟨(fun _ _ hg => by cases hg; exact ⟨90, by kernel_rfl, fact_eq (D 1 (by kernel_rfl)) rfl (by kernel_rfl)⟩), fun _ ho => wp_move (.inl ho) (held_base H 13 (by kernel_rfl) hs13)⟩
theorem woB_o4 (q : Nat → Nat) (x g n : Nat) (ad : Addr) (nn cc k : Nat) (z : Int) (hk : k < nn) (hz : z < 0) (Q : Exit → Act → World → Prop) (a0 : Act) (w0 : World)  : Obl Tryd.prog woB_opsN (woB_S q x g n ad nn cc k z hk hz) Q a0 w0 4 :=
  obl_val (.indexAddr 26 (.tmp 91) (.tmp 92)) (some (1, true)) rfl (by kernel_rfl) fun a w N H D => ⟨(fun _ _ hg => by cases hg; exact ⟨90, by kernel_rfl, fact_eq (D 1 (by kernel_rfl)) rfl (by kernel_rfl)⟩), fun _ ho => wp_index_ints ho (fact_eq (c := .slice (some ad) nn cc) (D 2 (by kernel_rfl)) rfl (by kernel_rfl)) (fact_eq (c := .int .i64 ((k : Nat) : Int)) (D 3 (by kernel_rfl)) rfl (by kernel_rfl)) hk⟩
theorem woB_o5 (q : Nat → Nat) (x g n : Nat) (ad : Addr) (nn cc k : Nat) (z : Int) (hk : k < nn) (hz : z < 0) (Q : Exit → Act → World → Prop) (a0 : Act) (w0 : World) (hA2 : CellAt w0 (ad.add k) (.int .i64 z)) : Obl Tryd.prog woB_opsN (woB_S q x g n ad nn cc k z hk hz) Q a0 w0 5 :=
  obl_val (.load 3 (.tmp 93)) (some (1, true)) rfl (by kernel_rfl) fun a w N H D => ⟨(fun _ _ hg => by cases hg; exact ⟨90, by kernel_rfl, fact_eq (D 1 (by kernel_rfl)) rfl (by kernel_rfl)⟩), fun _ ho => wp_load_int ho (fact_eq (c := .pointer (some (ad.add k))) (D 4 (by kernel_rfl)) rfl (by kernel_rfl)) (hA2.below H.below)⟩
theorem woB_o6 (q : Nat → Nat) (x g n : Nat) (ad : Addr) (nn cc k : Nat) (z : Int) (hk : k < nn) (hz : z < 0) (Q : Exit → Act → World → Prop) (a0 : Act) (w0 : World)  : Obl Tryd.prog woB_opsN (woB_S q x g n ad nn cc k z hk hz) Q a0 w0 6 :=
  obl_val (.binOp .geq 3 (.tmp 94) (.const (.int .i64 0)) 3) (some (1, true)) rfl (by kernel_rfl) fun a w N H D => ⟨(fun _ _ hg => by cases hg; exact ⟨90, by kernel_rfl, fact_eq (D 1 (by kernel_rfl)) rfl (by kernel_rfl)⟩), fun _ ho => wp_of_eq (wp_geqi ho (fact_eq (c := .int .i64 z) (D 5 (by kernel_rfl)) rfl (by kernel_rfl)) rfl) (.bool false) (by simp; omega)⟩
theorem woB_o7 (q : Nat → Nat) (x g n : Nat) (ad : Addr) (nn cc k : Nat) (z : Int) (hk : k < nn) (hz : z < 0) (Q : Exit → Act → World → Prop) (a0 : Act) (w0 : World)  : Obl Tryd.prog woB_opsN (woB_S q x g n ad nn cc k z hk hz) Q a0 w0 7 :=
  obl_val (.pick (.tmp 90) (.tmp 95) (.const (.bool false))) none rfl (by kernel_rfl) fun a w N H D => ⟨(fun _ _ hg => by cases hg), fun _ ho => wp_pick (b := true) ho (fact_eq (c := .bool true) (D 1 (by kernel_rfl)) rfl (by kernel_rfl)) (fact_eq (c := .bool false) (D 6 (by kernel_rfl)) rfl (by kernel_rfl))⟩
theorem woB_o8 (q : Nat → Nat) (x g n : Nat) (ad : Addr) (nn cc k : Nat) (z : Int) (hk : k < nn) (hz : z < 0) (Q : Exit → Act → World → Prop) (a0 : Act) (w0 : World)  : Obl Tryd.prog woB_opsN (woB_S q x g n ad nn cc k z hk hz) Q a0 w0 8 :=
  obl_val (.move (.tmp 96)) none rfl (by kernel_rfl) fun a w N H D => ⟨(fun _ _ hg => by cases hg), fun _ ho => wp_move (.inl ho) (fact_eq (c := .bool false) (D 7 (by kernel_rfl)) rfl (by kernel_rfl))⟩
theorem woB_o9 (q : Nat → Nat) (x g n : Nat) (ad : Addr) (nn cc k : Nat) (z : Int) (hk : k < nn) (hz : z < 0) (Q : Exit → Act → World → Prop) (a0 : Act) (w0 : World)  : Obl Tryd.prog woB_opsN (woB_S q x g n ad nn cc k z hk hz) Q a0 w0 9 :=
  obl_skip (.move (.tmp 2)) 8 true rfl (by kernel_rfl) fun a w N H D => ⟨97, .bool false, by kernel_rfl, fact_eq (D 8 (by kernel_rfl)) rfl (by kernel_rfl), by simp⟩
theorem woB_o10 (q : Nat → Nat) (x g n : Nat) (ad : Addr) (nn cc k : Nat) (z : Int) (hk : k < nn) (hz : z < 0) (Q : Exit → Act → World → Prop) (a0 : Act) (w0 : World)  : Obl Tryd.prog woB_opsN (woB_S q x g n ad nn cc k z hk hz) Q a0 w0 10 :=
  obl_skip (.move (.tmp 13)) 8 true rfl (by kernel_rfl) fun a w N H D => ⟨97, .bool false, by kernel_rfl, fact_eq (D 8 (by kernel_rfl)) rfl (by kernel_rfl), by simp⟩
theorem woB_o11 (q : Nat → Nat) (x g n : Nat) (ad : Addr) (nn cc k : Nat) (z : Int) (hk : k < nn) (hz : z < 0) (Q : Exit → Act → World → Prop) (a0 : Act) (w0 : World)  : Obl Tryd.prog woB_opsN (woB_S q x g n ad nn cc k z hk hz) Q a0 w0 11 :=
  obl_skip (.indexAddr 26 (.tmp 98) (.tmp 99)) 8 true rfl (by kernel_rfl) fun a w N H D => ⟨97, .bool false, by kernel_rfl, fact_eq (D 8 (by kernel_rfl)) rfl (by kernel_rfl), by simp⟩
theorem woB_o12 (q : Nat → Nat) (x g n : Nat) (ad : Addr) (nn cc k : Nat) (z : Int) (hk : k < nn) (hz : z < 0) (Q : Exit → Act → World → Prop) (a0 : Act) (w0 : World)  : Obl Tryd.prog woB_opsN (woB_S q x g n ad nn cc k z hk hz) Q a0 w0 12 :=
  obl_skip (.load 3 (.tmp 100)) 8 true rfl (by kernel_rfl) fun a w N H D => ⟨97, .bool false, by kernel_rfl, fact_eq (D 8 (by kernel_rfl)) rfl (by kernel_rfl), by simp⟩
theorem woB_o13 (q : Nat → Nat) (x g n : Nat) (ad : Addr) (nn cc k : Nat) (z : Int) (hk : k < nn) (hz : z < 0) (Q : Exit → Act → World → Prop) (a0 : Act) (w0 : World)  : Obl Tryd.prog woB_opsN (woB_S q x g n ad nn cc k z hk hz) Q a0 w0 13 :=
  obl_skip (.move (.tmp 7)) 8 true rfl (by kernel_rfl) fun a w N H D => ⟨97, .bool false, by kernel_rfl, fact_eq (D 8 (by kernel_rfl)) rfl (by kernel_rfl), by simp⟩
theorem woB_o14 (q : Nat → Nat) (x g n : Nat) (ad : Addr) (nn cc k : Nat) (z : Int) (hk : k < nn) (hz : z < 0) (Q : Exit → Act → World → Prop) (a0 : Act) (w0 : World)  : Obl Tryd.prog woB_opsN (woB_S q x g n ad nn cc k z hk hz) Q a0 w0 14 :=
  obl_skip (.call { callee := .value (.func 14), args := #[.tmp 102], argTypes := #[24] }) 8 true rfl (by kernel_rfl) fun a w N H D => ⟨97, .bool false, by kernel_rfl, fact_eq (D 8 (by kernel_rfl)) rfl (by kernel_rfl), by simp⟩
theorem woB_o15 (q : Nat → Nat) (x g n : Nat) (ad : Addr) (nn cc k : Nat) (z : Int) (hk : k < nn) (hz : z < 0) (Q : Exit → Act → World → Prop) (a0 : Act) (w0 : World)  : Obl Tryd.prog woB_opsN (woB_S q x g n ad nn cc k z hk hz) Q a0 w0 15 :=
  obl_skip (.binOp .lss 3 (.tmp 101) (.tmp 103) 3) 8 true rfl (by kernel_rfl) fun a w N H D => ⟨97, .bool false, by kernel_rfl, fact_eq (D 8 (by kernel_rfl)) rfl (by kernel_rfl), by simp⟩
theorem woB_o16 (q : Nat → Nat) (x g n : Nat) (ad : Addr) (nn cc k : Nat) (z : Int) (hk : k < nn) (hz : z < 0) (Q : Exit → Act → World → Prop) (a0 : Act) (w0 : World)  : Obl Tryd.prog woB_opsN (woB_S q x g n ad nn cc k z hk hz) Q a0 w0 16 :=
  obl_val (.pick (.tmp 97) (.tmp 104) (.const (.bool false))) none rfl (by kernel_rfl) fun a w N H D => ⟨(fun _ _ hg => by cases hg), fun _ ho => wp_pick (b := false) ho (fact_eq (c := .bool false) (D 8 (by kernel_rfl)) rfl (by kernel_rfl)) rfl⟩
theorem woB_all (q : Nat → Nat) (x g n : Nat) (ad : Addr) (nn cc k : Nat) (z : Int) (hk : k < nn) (hz : z < 0) (Q : Exit → Act → World → Prop) (a0 : Act) (w0 : World) (hs7 : a0.tmps.getD 7 undef = .pointer (some ⟨x, 0, none⟩)) (hX : BlksAt w0 x g q n) (hs2 : a0.tmps.getD 2 undef = .slice (some ad) nn cc) (hs13 : a0.tmps.getD 13 undef = .int .i64 ((k : Nat) : Int)) (hA2 : CellAt w0 (ad.add k) (.int .i64 z)) (hs12 : a0.tmps.getD 12 undef = .bool true) : ∀ i, i < 17 → Obl Tryd.prog woB_opsN (woB_S q x g n ad nn cc k z hk hz) Q a0 w0 i := by
  intro i hi_
  match i, hi_ with
  | 0, _ => exact woB_o0 q x g n ad nn cc k z hk hz  Q a0 w0 hs12
  | 1, _ => exact woB_o1 q x g n ad nn cc k z hk hz  Q a0 w0 
  | 2, _ => exact woB_o2 q x g n ad nn cc k z hk hz  Q a0 w0 hs2
  | 3, _ => exact woB_o3 q x g n ad nn cc k z hk hz  Q a0 w0 hs13
  | 4, _ => exact woB_o4 q x g n ad nn cc k z hk hz  Q a0 w0 
  | 5, _ => exact woB_o5 q x g n ad nn cc k z hk hz  Q a0 w0 hA2
  | 6, _ => exact woB_o6 q x g n ad nn cc k z hk hz  Q a0 w0 
  | 7, _ => exact woB_o7 q x g n ad nn cc k z hk hz  Q a0 w0 
  | 8, _ => exact woB_o8 q x g n ad nn cc k z hk hz  Q a0 w0 
  | 9, _ => exact woB_o9 q x g n ad nn cc k z hk hz  Q a0 w0 
  | 10, _ => exact woB_o10 q x g n ad nn cc k z hk hz  Q a0 w0 
  | 11, _ => exact woB_o11 q x g n ad nn cc k z hk hz  Q a0 w0 
  | 12, _ => exact woB_o12 q x g n ad nn cc k z hk hz  Q a0 w0 
  | 13, _ => exact woB_o13 q x g n ad nn cc k z hk hz  Q a0 w0 
  | 14, _ => exact woB_o14 q x g n ad nn cc k z hk hz  Q a0 w0 
  | 15, _ => exact woB_o15 q x g n ad nn cc k z hk hz  Q a0 w0 
  | 16, _ => exact woB_o16 q x g n ad nn cc k z hk hz  Q a0 w0 
  | i + 17, h => exact absurd h (by omega)
noncomputable def woC_ops : Array Oper := regOf Tryd.f7 16
noncomputable def woC_opsN : Array Oper := noLast woC_ops 17
def woC_S (q : Nat → Nat) (x g n : Nat) (ad : Addr) (nn cc k : Nat) (z : Int) (hk : k < nn) (hz : 0 ≤ z) : List RK := [RK.eq (.bool true), RK.eq (.bool true), RK.eq (.slice (some ad) nn cc), RK.eq (.int .i64 ((k : Nat) : Int)), RK.eq (.pointer (some (ad.add k))), RK.eq (.int .i64 z), RK.eq (.bool true), RK.eq (.bool true), RK.eq (.bool true), RK.eq (.slice (some ad) nn cc), RK.eq (.int .i64 ((k : Nat) : Int)), RK.eq (.pointer (some (ad.add k))), RK.eq (.int .i64 z), RK.eq (.pointer (some ⟨x, 0, none⟩)), RK.eq (.int .i64 ((n : Nat) : Int)), RK.eq (.bool (decide (z < ((n : Nat) : Int)))), RK.eq (.bool (decide (z < ((n : Nat) : Int))))]
theorem woC_o0 (q : Nat → Nat) (x g n : Nat) (ad : Addr) (nn cc k : Nat) (z : Int) (hk : k < nn) (hz : 0 ≤ z) (Q : Exit → Act → World → Prop) (a0 : Act) (w0 : World) (hs12 : a0.tmps.getD 12 undef = .bool true) : Obl Tryd.prog woC_opsN (woC_S q x g n ad nn cc k z hk hz) Q a0 w0 0 :=
  obl_val (.move (.tmp 12)) none rfl (by kernel_rfl) fun a w N H D => ⟨(fun _ _ hg => by cases hg), fun _ ho => wp_move (.inl ho) (held_base H 12 (by kernel_rfl) hs12)⟩
theorem woC_o1 (q : Nat → Nat) (x g n : Nat) (ad : Addr) (nn cc k : Nat) (z : Int) (hk : k < nn) (hz : 0 ≤ z) (Q : Exit → Act → World → Prop) (a0 : Act) (w0 : World)  : Obl Tryd.prog woC_opsN (woC_S q x g n ad nn cc k z hk hz) Q a0 w0 1 :=
  obl_val (.move (.tmp 89)) none rfl (by kernel_rfl) fun a w N H D => ⟨(fun _ _ hg => by cases hg), fun _ ho => wp_move (.inl ho) (fact_eq (c := .bool true) (D 0 (by kernel_rfl)) rfl (by kernel_rfl))⟩
theorem woC_o2 (q : Nat → Nat) (x g n : Nat) (ad : Addr) (nn cc k : Nat) (z : Int) (hk : k < nn) (hz : 0 ≤ z) (Q : Exit → Act → World → Prop) (a0 : Act) (w0 : World) (hs2 : a0.tmps.getD 2 undef = .slice (some ad) nn cc) : Obl Tryd.prog woC_opsN (woC_S q x g n ad nn cc k z hk hz) Q a0 w0 2 :=
  obl_val (.move (.tmp 2)) (some (1, true)) rfl (by kernel_rfl) fun a w N H D => ⟨(fun _ _ hg => by cases hg; exact ⟨90, by kernel_rfl, fact_eq (D 1 (by kernel_rfl)) rfl (by kernel_rfl)⟩), fun _ ho => wp_move (.inl ho) (held_base H 2 (by kernel_rfl) hs2)⟩
theorem woC_o3 (q : Nat → Nat) (x g n : Nat) (ad : Addr) (nn cc k : Nat) (z : Int) (hk : k < nn) (hz : 0 ≤ z) (Q : Exit → Act → World → Prop) (a0 : Act) (w0 : World) (hs13 : a0.tmps.getD 13 undef = .int .i64 ((k : Nat) : Int)) : Obl Tryd.prog woC_opsN (woC_S q x g n ad nn cc k z hk hz) Q a0 w0 3 :=
  obl_val (.move (.tmp 13)) (some (1, true)) rfl (by kernel_rfl) fun a w N H D => ⟨(fun _ _ hg => by cases hg; exact ⟨90, by kernel_rfl, fact_eq (D 1 (by kernel_rfl)) rfl (by kernel_rfl)⟩), fun _ ho => wp_move (.inl ho) (held_base H 13 (by kernel_rfl) hs13)⟩
theorem woC_o4 (q : Nat → Nat) (x g n : Nat) (ad : Addr) (nn cc k : Nat) (z : Int) (hk : k < nn) (hz : 0 ≤ z) (Q : Exit → Act → World → Prop) (a0 : Act) (w0 : World)  : Obl Tryd.prog woC_opsN (woC_S q x g n ad nn cc k z hk hz) Q a0 w0 4 :=
  obl_val (.indexAddr 26 (.tmp 91) (.tmp 92)) (some (1, true)) rfl (by kernel_rfl) fun a w N H D => ⟨(fun _ _ hg => by cases hg; exact ⟨90, by kernel_rfl, fact_eq (D 1 (by kernel_rfl)) rfl (by kernel_rfl)⟩), fun _ ho => wp_index_ints ho (fact_eq (c := .slice (some ad) nn cc) (D 2 (by kernel_rfl)) rfl (by kernel_rfl)) (fact_eq (c := .int .i64 ((k : Nat) : Int)) (D 3 (by kernel_rfl)) rfl (by kernel_rfl)) hk⟩
theorem woC_o5 (q : Nat → Nat) (x g n : Nat) (ad : Addr) (nn cc k : Nat) (z : Int) (hk : k < nn) (hz : 0 ≤ z) (Q : Exit → Act → World → Prop) (a0 : Act) (w0 : World) (hA2 : CellAt w0 (ad.add k) (.int .i64 z)) : Obl Tryd.prog woC_opsN (woC_S q x g n ad nn cc k z hk hz) Q a0 w0 5 :=
  obl_val (.load 3 (.tmp 93)) (some (1, true)) rfl (by kernel_rfl) fun a w N H D => ⟨(fun _ _ hg => by cases hg; exact ⟨90, by kernel_rfl, fact_eq (D 1 (by kernel_rfl)) rfl (by kernel_rfl)⟩), fun _ ho => wp_load_int ho (fact_eq (c := .pointer (some (ad.add k))) (D 4 (by kernel_rfl)) rfl (by kernel_rfl)) (hA2.below H.below)⟩
theorem woC_o6 (q : Nat → Nat) (x g n : Nat) (ad : Addr) (nn cc k : Nat) (z : Int) (hk : k < nn) (hz : 0 ≤ z) (Q : Exit → Act → World → Prop) (a0 : Act) (w0 : World)  : Obl Tryd.prog woC_opsN (woC_S q x g n ad nn cc k z hk hz) Q a0 w0 6 :=
  obl_val (.binOp .geq 3 (.tmp 94) (.const (.int .i64 0)) 3) (some (1, true)) rfl (by kernel_rfl) fun a w N H D => ⟨(fun _ _ hg => by cases hg; exact ⟨90, by kernel_rfl, fact_eq (D 1 (by kernel_rfl)) rfl (by kernel_rfl)⟩), fun _ ho => wp_of_eq (wp_geqi ho (fact_eq (c := .int .i64 z) (D 5 (by kernel_rfl)) rfl (by kernel_rfl)) rfl) (.bool true) (by simp; omega)⟩
theorem woC_o7 (q : Nat → Nat) (x g n : Nat) (ad : Addr) (nn cc k : Nat) (z : Int) (hk : k < nn) (hz : 0 ≤ z) (Q : Exit → Act → World → Prop) (a0 : Act) (w0 : World)  : Obl Tryd.prog woC_opsN (woC_S q x g n ad nn cc k z hk hz) Q a0 w0 7 :=
  obl_val (.pick (.tmp 90) (.tmp 95) (.const (.bool false))) none rfl (by kernel_rfl) fun a w N H D => ⟨(fun _ _ hg => by cases hg), fun _ ho => wp_pick (b := true) ho (fact_eq (c := .bool true) (D 1 (by kernel_rfl)) rfl (by kernel_rfl)) (fact_eq (c := .bool true) (D 6 (by kernel_rfl)) rfl (by kernel_rfl))⟩
theorem woC_o8 (q : Nat → Nat) (x g n : Nat) (ad : Addr) (nn cc k : Nat) (z : Int) (hk : k < nn) (hz : 0 ≤ z) (Q : Exit → Act → World → Prop) (a0 : Act) (w0 : World)  : Obl Tryd.prog woC_opsN (woC_S q x g n ad nn cc k z hk hz) Q a0 w0 8 :=
  obl_val (.move (.tmp 96)) none rfl (by kernel_rfl) fun a w N H D => ⟨(fun _ _ hg => by cases hg), fun _ ho => wp_move (.inl ho) (fact_eq (c := .bool true) (D 7 (by kernel_rfl)) rfl (by kernel_rfl))⟩
theorem woC_o9 (q : Nat → Nat) (x g n : Nat) (ad : Addr) (nn cc k : Nat) (z : Int) (hk : k < nn) (hz : 0 ≤ z) (Q : Exit → Act → World → Prop) (a0 : Act) (w0 : World) (hs2 : a0.tmps.getD 2 undef = .slice (some ad) nn cc) : Obl Tryd.prog woC_opsN (woC_S q x g n ad nn cc k z hk hz) Q a0 w0 9 :=
  obl_val (.move (.tmp 2)) (some (8, true)) rfl (by kernel_rfl) fun a w N H D => ⟨(fun _ _ hg => by cases hg; exact ⟨97, by kernel_rfl, fact_eq (D 8 (by kernel_rfl)) rfl (by kernel_rfl)⟩), fun _ ho => wp_move (.inl ho) (held_base H 2 (by kernel_rfl) hs2)⟩
theorem woC_o10 (q : Nat → Nat) (x g n : Nat) (ad : Addr) (nn cc k : Nat) (z : Int) (hk : k < nn) (hz : 0 ≤ z) (Q : Exit → Act → World → Prop) (a0 : Act) (w0 : World) (hs13 : a0.tmps.getD 13 undef = .int .i64 ((k : Nat) : Int)) : Obl Tryd.prog woC_opsN (woC_S q x g n ad nn cc k z hk hz) Q a0 w0 10 :=
  obl_val (.move (.tmp 13)) (some (8, true)) rfl (by kernel_rfl) fun a w N H D => ⟨(fun _ _ hg => by cases hg; exact ⟨97, by kernel_rfl, fact_eq (D 8 (by kernel_rfl)) rfl (by kernel_rfl)⟩), fun _ ho => wp_move (.inl ho) (held_base H 13 (by kernel_rfl) hs13)⟩
theorem woC_o11 (q : Nat → Nat) (x g n : Nat) (ad : Addr) (nn cc k : Nat) (z : Int) (hk : k < nn) (hz : 0 ≤ z) (Q : Exit → Act → World → Prop) (a0 : Act) (w0 : World)  : Obl Tryd.prog woC_opsN (woC_S q x g n ad nn cc k z hk hz) Q a0 w0 11 :=
  obl_val (.indexAddr 26 (.tmp 98) (.tmp 99)) (some (8, true)) rfl (by kernel_rfl) fun a w N H D => ⟨(fun _ _ hg => by cases hg; exact ⟨97, by kernel_rfl, fact_eq (D 8 (by kernel_rfl)) rfl (by kernel_rfl)⟩), fun _ ho => wp_index_ints ho (fact_eq (c := .slice (some ad) nn cc) (D 9 (by kernel_rfl)) rfl (by kernel_rfl)) (fact_eq (c := .int .i64 ((k : Nat) : Int)) (D 10 (by kernel_rfl)) rfl (by kernel_rfl)) hk⟩
theorem woC_o12 (q : Nat → Nat) (x g n : Nat) (ad : Addr) (nn cc k : Nat) (z : Int) (hk : k < nn) (hz : 0 ≤ z) (Q : Exit → Act → World → Prop) (a0 : Act) (w0 : World) (hA2 : CellAt w0 (ad.add k) (.int .i64 z)) : Obl Tryd.prog woC_opsN (woC_S q x g n ad nn cc k z hk hz) Q a0 w0 12 :=
  obl_val (.load 3 (.tmp 100)) (some (8, true)) rfl (by kernel_rfl) fun a w N H D => ⟨(fun _ _ hg => by cases hg; exact ⟨97, by kernel_rfl, fact_eq (D 8 (by kernel_rfl)) rfl (by kernel_rfl)⟩), fun _ ho => wp_load_int ho (fact_eq (c := .pointer (some (ad.add k))) (D 11 (by kernel_rfl)) rfl (by kernel_rfl)) (hA2.below H.below)⟩
theorem woC_o13 (q : Nat → Nat) (x g n : Nat) (ad : Addr) (nn cc k : Nat) (z : Int) (hk : k < nn) (hz : 0 ≤ z) (Q : Exit → Act → World → Prop) (a0 : Act) (w0 : World) (hs7 : a0.tmps.getD 7 undef = .pointer (some ⟨x, 0, none⟩)) : Obl Tryd.prog woC_opsN (woC_S q x g n ad nn cc k z hk hz) Q a0 w0 13 :=
  obl_val (.move (.tmp 7)) (some (8, true)) rfl (by kernel_rfl) fun a w N H D => ⟨(fun _ _ hg => by cases hg; exact ⟨97, by kernel_rfl, fact_eq (D 8 (by kernel_rfl)) rfl (by kernel_rfl)⟩), fun _ ho => wp_move (.inl ho) (held_base H 7 (by kernel_rfl) hs7)⟩
theorem woC_o14 (q : Nat → Nat) (x g n : Nat) (ad : Addr) (nn cc k : Nat) (z : Int) (hk : k < nn) (hz : 0 ≤ z) (Q : Exit → Act → World → Prop) (a0 : Act) (w0 : World) (hX : BlksAt w0 x g q n) : Obl Tryd.prog woC_opsN (woC_S q x g n ad nn cc k z hk hz) Q a0 w0 14 :=
  obl_val (.call { callee := .value (.func 14), args := #[.tmp 102], argTypes := #[24] }) (some (8, true)) rfl (by kernel_rfl) fun a w N H D => ⟨(fun _ _ hg => by cases hg; exact ⟨97, by kernel_rfl, fact_eq (D 8 (by kernel_rfl)) rfl (by kernel_rfl)⟩), fun _ ho => wp_call_eq ho enter_count (by simp only [List.map_toArray, List.map_cons, List.map_nil]; rw [(fact_eq (c := .pointer (some ⟨x, 0, none⟩)) (D 13 (by kernel_rfl)) rfl (by kernel_rfl))]) (count_at _ (hX.below H.below))⟩
theorem woC_o15 (q : Nat → Nat) (x g n : Nat) (ad : Addr) (nn cc k : Nat) (z : Int) (hk : k < nn) (hz : 0 ≤ z) (Q : Exit → Act → World → Prop) (a0 : Act) (w0 : World)  : Obl Tryd.prog woC_opsN (woC_S q x g n ad nn cc k z hk hz) Q a0 w0 15 :=
  obl_val (.binOp .lss 3 (.tmp 101) (.tmp 103) 3) (some (8, true)) rfl (by kernel_rfl) fun a w N H D => ⟨(fun _ _ hg => by cases hg; exact ⟨97, by kernel_rfl, fact_eq (D 8 (by kernel_rfl)) rfl (by kernel_rfl)⟩), fun _ ho => wp_lssi ho (fact_eq (c := .int .i64 z) (D 12 (by kernel_rfl)) rfl (by kernel_rfl)) (fact_eq (c := .int .i64 ((n : Nat) : Int)) (D 14 (by kernel_rfl)) rfl (by kernel_rfl))⟩
theorem woC_o16 (q : Nat → Nat) (x g n : Nat) (ad : Addr) (nn cc k : Nat) (z : Int) (hk : k < nn) (hz : 0 ≤ z) (Q : Exit → Act → World → Prop) (a0 : Act) (w0 : World)  : Obl Tryd.prog woC_opsN (woC_S q x g n ad nn cc k z hk hz) Q a0 w0 16 :=
  obl_val (.pick (.tmp 97) (.tmp 104) (.const (.bool false))) none rfl (by kernel_rfl) fun a w N H D => ⟨(fun _ _ hg => by cases hg), fun _ ho => wp_pick (b := true) ho (fact_eq (c := .bool true) (D 8 (by kernel_rfl)) rfl (by kernel_rfl)) (fact_eq (c := .bool (decide (z < ((n : Nat) : Int)))) (D 15 (by kernel_rfl)) rfl (by kernel_rfl))⟩
theorem woC_all (q : Nat → Nat) (x g n : Nat) (ad : Addr) (nn cc k : Nat) (z : Int) (hk : k < nn) (hz : 0 ≤ z) (Q : Exit → Act → World → Prop) (a0 : Act) (w0 : World) (hs7 : a0.tmps.getD 7 undef = .pointer (some ⟨x, 0, none⟩)) (hX : BlksAt w0 x g q n) (hs2 : a0.tmps.getD 2 undef = .slice (some ad) nn cc) (hs13 : a0.tmps.getD 13 undef = .int .i64 ((k : Nat) : Int)) (hA2 : CellAt w0 (ad.add k) (.int .i64 z)) (hs12 : a0.tmps.getD 12 undef = .bool true) : ∀ i, i < 17 → Obl Tryd.prog woC_opsN (woC_S q x g n ad nn cc k z hk hz) Q a0 w0 i := by
  intro i hi_
  match i, hi_ with
  | 0, _ => exact woC_o0 q x g n ad nn cc k z hk hz  Q a0 w0 hs12
  | 1, _ => exact woC_o1 q x g n ad nn cc k z hk hz  Q a0 w0 
  | 2, _ => exact woC_o2 q x g n ad nn cc k z hk hz  Q a0 w0 hs2
  | 3, _ => exact woC_o3 q x g n ad nn cc k z hk hz  Q a0 w0 hs13
  | 4, _ => exact woC_o4 q x g n ad nn cc k z hk hz  Q a0 w0 
  | 5, _ => exact woC_o5 q x g n ad nn cc k z hk hz  Q a0 w0 hA2
  | 6, _ => exact woC_o6 q x g n ad nn cc k z hk hz  Q a0 w0 
  | 7, _ => exact woC_o7 q x g n ad nn cc k z hk hz  Q a0 w0 
  | 8, _ => exact woC_o8 q x g n ad nn cc k z hk hz  Q a0 w0 
  | 9, _ => exact woC_o9 q x g n ad nn cc k z hk hz  Q a0 w0 hs2
  | 10, _ => exact woC_o10 q x g n ad nn cc k z hk hz  Q a0 w0 hs13
  | 11, _ => exact woC_o11 q x g n ad nn cc k z hk hz  Q a0 w0 
  | 12, _ => exact woC_o12 q x g n ad nn cc k z hk hz  Q a0 w0 hA2
  | 13, _ => exact woC_o13 q x g n ad nn cc k z hk hz  Q a0 w0 hs7
  | 14, _ => exact woC_o14 q x g n ad nn cc k z hk hz  Q a0 w0 hX
  | 15, _ => exact woC_o15 q x g n ad nn cc k z hk hz  Q a0 w0 
  | 16, _ => exact woC_o16 q x g n ad nn cc k z hk hz  Q a0 w0 
  | i + 17, h => exact absurd h (by omega)
set_option maxRecDepth 100000 in
set_option maxHeartbeats 4000000 in
theorem words_law (l : List (Nat → Bool)) (s : ByteArray) (z : List Int) (v v2 : Value) (w : World) (hv : RdSw w v l) (hv2 : RdW w .i64 v2 z) (hT : TabOk w) :
    Calls Tryd.prog 7 #[v, .string s, v2] w fun e w' => e = .returned (.bool true) ∧ Below w.heap.size w w' := by
  have HT := Lib.hid hT
  have HV := Lib.hid hv
  have HV2 := Lib.hid hv2
  clear hT
  obtain ⟨A, c, rfl, h1, h2, h3⟩ := hv
  obtain ⟨A2, cc, rfl, k1, k2, k3⟩ := hv2
  have K3 := Lib.hid k3
  clear h3 k3
  go_enter Tryd.func7, Tryd.ntmps7
  by_cases hlen : 20 < l.length
  · go_wp2_with fail
    refine (awake04_any _ HT.out).mono ?_
    rintro e w1 ⟨rfl, hb⟩
    go_wp2
    go_returns
    exact ⟨rfl, hb⟩
  by_cases hlen2 : 200 < s.size
  · go_wp2_with fail
    refine (awake04_any _ HT.out).mono ?_
    rintro e w1 ⟨rfl, hb⟩
    go_wp2
    go_returns
    exact ⟨rfl, hb⟩
  by_cases hlen3 : 200 < z.length
  · go_wp2_with fail
    refine (awake04_any _ HT.out).mono ?_
    rintro e w1 ⟨rfl, hb⟩
    go_wp2
    go_returns
    exact ⟨rfl, hb⟩
  have HV := Lib.hid (HV.out.rdS (by omega))
  have HV2 := Lib.hid (HV2.out.rd (by omega))
  go_wp2_with fail
  refine (new_any l _ _ HV.out).mono ?_
  rintro e w1 ⟨x, g, rfl, hx, _, _, hb⟩
  have hw1 := hb
  have HX1 := Lib.hid hx
  have HT1 := Lib.hid (HT.out.below hb)
  have HV21 := Lib.hid (HV2.out.below hb)
  have HQ := Lib.hid (numL_lt l)
  have HOk := Lib.hid (names_ok l s)
  have HIff := Lib.hid (wordOk_iff l z)
  have hnle := cntL_le l
  clear hx hb HT HV HV2
  generalize numL l = q at *
  generalize cntL l = n at *
  go_wp2_with fail
  refine (names_at s (by omega) _ HX1.out).mono ?_
  rintro e w2 ⟨v8, rfl, hr8, hb⟩
  have hw2 := hw1.trans (hb.mono hw1.size)
  have HR8 := Lib.hid hr8
  have HX2 := Lib.hid (HX1.out.below hb)
  have HT2 := Lib.hid (HT1.out.below hb)
  have HV22 := Lib.hid (HV21.out.below hb)
  clear hw1 hr8 hb HX1 HT1 HV21
  go_wp2_with fail
  refine (word_at (namesZ q s s.size) _ _ HX2.out HQ.out HT2.out HR8.out).mono ?_
  rintro e w3 ⟨rfl, hb⟩
  rw [HOk.out]
  have hw3 := hw2.trans (hb.mono hw2.size)
  have HR83 := Lib.hid (HR8.out.below hb)
  have HX3 := Lib.hid (HX2.out.below hb)
  have HT3 := Lib.hid (HT2.out.below hb)
  have HV23 := Lib.hid (HV22.out.below hb)
  have husz := (wordS_size HOk.out).trans (names_length q s)
  have HBk := Lib.hid (names_back HOk.out)
  have HAt := Lib.hid (fun k i => @wordS_at q (namesZ q s s.size) HOk.out k i)
  have HLe := Lib.hid (fun k i (hk : (namesZ q s s.size)[k]? = some i) => least_class (wordOk_at HOk.out hk))
  clear hw2 hb HX2 HT2 HV22 HR8 HOk
  generalize wordS q (namesZ q s s.size) = u at *
  go_wp2_with fail
  refine (names_at u (by omega) _ HX3.out).mono ?_
  rintro e w4 ⟨v53, rfl, hr53, hb⟩
  have hw4 := hw3.trans (hb.mono hw3.size)
  have HR84 := Lib.hid (HR83.out.below hb)
  have HR53 := Lib.hid hr53
  have HX4 := Lib.hid (HX3.out.below hb)
  have HT4 := Lib.hid (HT3.out.below hb)
  have HV24 := Lib.hid (HV23.out.below hb)
  clear hw3 hb hr53 HX3 HT3 HV23 HR83
  go_wp2_with fail
  refine (same_any _ _ _ _ _ HR53.out HR84.out).mono ?_
  rintro e w5 ⟨rfl, hb⟩
  rw [decide_eq_true HBk.out]
  have hw5 := hw4.trans (hb.mono hw4.size)
  have HR85 := Lib.hid (HR84.out.below hb)
  have HX5 := Lib.hid (HX4.out.below hb)
  have HT5 := Lib.hid (HT4.out.below hb)
  have HV25 := Lib.hid (HV24.out.below hb)
  clear hw4 hb HX4 HT4 HV24 HR84 HR53 HBk
  obtain ⟨A8, c8, rfl, j1, j2, j3⟩ := HR85.out
  rw [names_length] at *
  have J3 := Lib.hid j3
  clear j3
  go_wp2
  go_loopw [11] (fun i wr => ∃ k : Nat, k ≤ s.size ∧ i = .int .i64 ((k : Nat) : Int) ∧ Below w5.heap.size w5 wr) (fun i _ => s.size - (intOf i).toNat)
  case atStart => exact ⟨0, Nat.zero_le _, rfl, Below.refl _ _⟩
  case round =>
    obtain ⟨k, hk, rfl, hbw⟩ := hrel
    have hsz := hbw.size
    by_cases hlt : k < s.size
    · obtain ⟨b, hbyte⟩ : ∃ b, s.data[k]? = some b := ⟨_, Array.getElem?_eq_getElem hlt⟩
      have hnm := names_at' q s k b hbyte
      obtain ⟨c', hcb, hcv⟩ := HAt.out k _ hnm
      obtain ⟨l0, l1, l2, l3⟩ := HLe.out k _ hnm
      have hle : c'.toNat ≤ b.toNat := by
        have := l3 b.toNat b.toNat_lt rfl
        omega
      obtain ⟨ad, rfl, had, e0⟩ := J3.out k _ hnm
      have hcell : CellAt wr.drew (ad.add k) (.int .i64 ((q b.toNat : Nat) : Int)) := ⟨(hbw.cell (p := ad.add k) (by rw [add_block]; exact had)).trans e0, by rw [add_block]; exact Nat.lt_of_lt_of_le had hsz⟩
      have HX9 := Lib.hid ((HX5.out.below hbw).below (Below.refl _ _).drew)
      have HCell := Lib.hid hcell
      have HB := Lib.hid hbyte
      have HCb := Lib.hid hcb
      clear hnm hcb hcv l0 l1 l2 l3 e0 hcell hbyte
      go_wp2_with fail
      refine region_named (ops' := wo1_ops) (by kernel_rfl) (wo1_S q x g n ad s.size c8 k s u b c' _ HB.out HCb.out hlt rfl hle) 136 rfl (by kernel_rfl) (by kernel_rfl) (wo1_all q x g n ad s.size c8 k s u b c' _ HB.out HCb.out hlt rfl hle _ _ _ rfl HX9.out rfl rfl rfl rfl HCell.out) ?_
      rename_i hK
      intro a w9 N H hF
      have q82 : a.tmps.getD 82 undef = .bool false := fact_eq (hF 18 (by kernel_rfl)) rfl (by kernel_rfl)
      have hb9 := (Below.refl wr.heap.size wr).drew.trans H.below
      have hbw9 := hbw.trans (hb9.mono hsz)
      refine hK _ _ ?_
      rw [held_frame H [64, 65, 66, 67, 68, 69, 70, 71, 72, 73, 74, 75, 76, 77, 78, 79, 80, 81, 82] (by kernel_rfl)]
      simp only [putAll, List.map_cons, List.map_nil, List.foldl_cons, List.foldl_nil, List.setIfInBounds_toArray, List.set_cons_zero, List.set_cons_succ, q82]
      generalize a.tmps.getD 64 undef = z64
      generalize a.tmps.getD 65 undef = z65
      generalize a.tmps.getD 66 undef = z66
      generalize a.tmps.getD 67 undef = z67
      generalize a.tmps.getD 68 undef = z68
      generalize a.tmps.getD 69 undef = z69
      generalize a.tmps.getD 70 undef = z70
      generalize a.tmps.getD 71 undef = z71
      generalize a.tmps.getD 72 undef = z72
      generalize a.tmps.getD 73 undef = z73
      generalize a.tmps.getD 74 undef = z74
      generalize a.tmps.getD 75 undef = z75
      generalize a.tmps.getD 76 undef = z76
      generalize a.tmps.getD 77 undef = z77
      generalize a.tmps.getD 78 undef = z78
      generalize a.tmps.getD 79 undef = z79
      generalize a.tmps.getD 80 undef = z80
      generalize a.tmps.getD 81 undef = z81
      clear hF H q82 hK hb9
      clear a N
      go_wp2
      go_roundw
      case rel => exact ⟨k + 1, by omega, by go_num, hbw9⟩
      case measure => simp [intOf]; omega
    · have hks : k = s.size := by omega
      clear hk
      go_wp2
      generalize hl2 : z.length = c2 at *
      have HL2 := Lib.hid hl2
      clear hl2
      go_loopw [12, 13] (fun r i wr => ∃ k : Nat, k ≤ c2 ∧ i = .int .i64 ((k : Nat) : Int) ∧ r = .bool (wordOk q (z.take k)) ∧ Below w5.heap.size w5 wr) (fun _ i _ => c2 - (intOf i).toNat)
      case atStart => exact ⟨0, Nat.zero_le _, rfl, rfl, hbw⟩
      case round =>
        clear hks hlt hbw hsz
        obtain ⟨k, hk, rfl, rfl, hbw⟩ := hrel
        have hsz := hbw.size
        by_cases hlt : k < c2
        · obtain ⟨zk, hzk⟩ : ∃ i, z[k]? = some i := ⟨_, List.getElem?_eq_getElem (by rw [HL2.out]; exact hlt)⟩
          have HI := Lib.hid (HIff.out k zk hzk)
          obtain ⟨ad, rfl, had, e0⟩ := K3.out k zk hzk
          have hcell : CellAt wr.drew (ad.add k) (.int .i64 zk) := by
            have hb0 := hw5.trans (hbw.mono hw5.size)
            exact ⟨(hb0.cell (p := ad.add k) (by rw [add_block]; exact had)).trans e0, by rw [add_block]; exact Nat.lt_of_lt_of_le had hb0.size⟩
          have HX9 := Lib.hid ((HX5.out.below hbw).below (Below.refl _ _).drew)
          have HCell := Lib.hid hcell
          clear e0 hcell hzk
          generalize zk = z' at *
          cases hr : wordOk q (z.take k) with
          | false =>
            have HR := Lib.hid hr
            clear hr
            go_wp2_with fail
            refine region_part (ops' := woA_ops) (by kernel_rfl) (woA_S q x g n ad c2 cc k z' hlt) 136 17 rfl (by kernel_rfl) (by kernel_rfl) (by kernel_rfl) (by kernel_rfl) (woA_all q x g n ad c2 cc k z' hlt _ _ _ rfl HX9.out rfl rfl HCell.out rfl) ?_
            rename_i hK
            intro a w9 N H hF
            have q105 : a.tmps.getD 105 undef = .bool (false) := fact_eq (hF 16 (by kernel_rfl)) rfl (by kernel_rfl)
            have hb9 := (Below.refl wr.heap.size wr).drew.trans H.below
            have hbw9 := hbw.trans (hb9.mono hsz)
            refine wpOp_assign 12 105 (by kernel_rfl) q105 ?_
            refine hK _ _ ?_
            rw [held_frame H [89, 90, 91, 92, 93, 94, 95, 96, 97, 98, 99, 100, 101, 102, 103, 104, 105] (by kernel_rfl)]
            simp only [putAll, List.map_cons, List.map_nil, List.foldl_cons, List.foldl_nil, List.setIfInBounds_toArray, List.set_cons_zero, List.set_cons_succ, q105]
            generalize a.tmps.getD 89 undef = z89
            generalize a.tmps.getD 90 undef = z90
            generalize a.tmps.getD 91 undef = z91
            generalize a.tmps.getD 92 undef = z92
            generalize a.tmps.getD 93 undef = z93
            generalize a.tmps.getD 94 undef = z94
            generalize a.tmps.getD 95 undef = z95
            generalize a.tmps.getD 96 undef = z96
            generalize a.tmps.getD 97 undef = z97
            generalize a.tmps.getD 98 undef = z98
            generalize a.tmps.getD 99 undef = z99
            generalize a.tmps.getD 100 undef = z100
            generalize a.tmps.getD 101 undef = z101
            generalize a.tmps.getD 102 undef = z102
            generalize a.tmps.getD 103 undef = z103
            generalize a.tmps.getD 104 undef = z104
            
            clear hF H q105 hK hb9
            clear a N
            go_wp2
            go_roundw
            case rel => exact ⟨k + 1, by omega, by go_num, by rw [HI.out, HR.out]; rfl, hbw9⟩
            case measure => simp [intOf]; omega
          | true =>
            have HR := Lib.hid hr
            clear hr
            by_cases hz : z' < 0
            · skip
              go_wp2_with fail
              refine region_part (ops' := woB_ops) (by kernel_rfl) (woB_S q x g n ad c2 cc k z' hlt hz) 136 17 rfl (by kernel_rfl) (by kernel_rfl) (by kernel_rfl) (by kernel_rfl) (woB_all q x g n ad c2 cc k z' hlt hz _ _ _ rfl HX9.out rfl rfl HCell.out rfl) ?_
              rename_i hK
              intro a w9 N H hF
              have q105 : a.tmps.getD 105 undef = .bool (false) := fact_eq (hF 16 (by kernel_rfl)) rfl (by kernel_rfl)
              have hb9 := (Below.refl wr.heap.size wr).drew.trans H.below
              have hbw9 := hbw.trans (hb9.mono hsz)
              refine wpOp_assign 12 105 (by kernel_rfl) q105 ?_
              refine hK _ _ ?_
              rw [held_frame H [89, 90, 91, 92, 93, 94, 95, 96, 97, 98, 99, 100, 101, 102, 103, 104, 105] (by kernel_rfl)]
              simp only [putAll, List.map_cons, List.map_nil, List.foldl_cons, List.foldl_nil, List.setIfInBounds_toArray, List.set_cons_zero, List.set_cons_succ, q105]
              generalize a.tmps.getD 89 undef = z89
              generalize a.tmps.getD 90 undef = z90
              generalize a.tmps.getD 91 undef = z91
              generalize a.tmps.getD 92 undef = z92
              generalize a.tmps.getD 93 undef = z93
              generalize a.tmps.getD 94 undef = z94
              generalize a.tmps.getD 95 undef = z95
              generalize a.tmps.getD 96 undef = z96
              generalize a.tmps.getD 97 undef = z97
              generalize a.tmps.getD 98 undef = z98
              generalize a.tmps.getD 99 undef = z99
              generalize a.tmps.getD 100 undef = z100
              generalize a.tmps.getD 101 undef = z101
              generalize a.tmps.getD 102 undef = z102
              generalize a.tmps.getD 103 undef = z103
              generalize a.tmps.getD 104 undef = z104
              
              clear hF H q105 hK hb9
              clear a N
              go_wp2
              go_roundw
              case rel => exact ⟨k + 1, by omega, by go_num, by rw [HI.out, HR.out, decide_eq_false (by omega)]; rfl, hbw9⟩
              case measure => simp [intOf]; omega
            · replace hz : 0 ≤ z' := by omega
              go_wp2_with fail
              refine region_part (ops' := woC_ops) (by kernel_rfl) (woC_S q x g n ad c2 cc k z' hlt hz) 136 17 rfl (by kernel_rfl) (by kernel_rfl) (by kernel_rfl) (by kernel_rfl) (woC_all q x g n ad c2 cc k z' hlt hz _ _ _ rfl HX9.out rfl rfl HCell.out rfl) ?_
              rename_i hK
              intro a w9 N H hF
              have q105 : a.tmps.getD 105 undef = .bool (decide (z' < ((n : Nat) : Int))) := fact_eq (hF 16 (by kernel_rfl)) rfl (by kernel_rfl)
              have hb9 := (Below.refl wr.heap.size wr).drew.trans H.below
              have hbw9 := hbw.trans (hb9.mono hsz)
              refine wpOp_assign 12 105 (by kernel_rfl) q105 ?_
              refine hK _ _ ?_
              rw [held_frame H [89, 90, 91, 92, 93, 94, 95, 96, 97, 98, 99, 100, 101, 102, 103, 104, 105] (by kernel_rfl)]
              simp only [putAll, List.map_cons, List.map_nil, List.foldl_cons, List.foldl_nil, List.setIfInBounds_toArray, List.set_cons_zero, List.set_cons_succ, q105]
              generalize a.tmps.getD 89 undef = z89
              generalize a.tmps.getD 90 undef = z90
              generalize a.tmps.getD 91 undef = z91
              generalize a.tmps.getD 92 undef = z92
              generalize a.tmps.getD 93 undef = z93
              generalize a.tmps.getD 94 undef = z94
              generalize a.tmps.getD 95 undef = z95
              generalize a.tmps.getD 96 undef = z96
              generalize a.tmps.getD 97 undef = z97
              generalize a.tmps.getD 98 undef = z98
              generalize a.tmps.getD 99 undef = z99
              generalize a.tmps.getD 100 undef = z100
              generalize a.tmps.getD 101 undef = z101
              generalize a.tmps.getD 102 undef = z102
              generalize a.tmps.getD 103 undef = z103
              generalize a.tmps.getD 104 undef = z104
              
              clear hF H q105 hK hb9
              clear a N
              go_wp2
              go_roundw
              case rel => exact ⟨k + 1, by omega, by go_num, by rw [HI.out, HR.out]; simp [hz], hbw9⟩
              case measure => simp [intOf]; omega
        · obtain rfl : k = c2 := by omega
          rw [show z.take k = z by rw [← HL2.out, List.take_length]]
          have HXr := Lib.hid (HX5.out.below hbw)
          have HTr := Lib.hid (HT5.out.below hbw)
          have HVr := Lib.hid (HV25.out.below hbw)
          have HBk := Lib.hid (@names_back q z)
          have HSz := Lib.hid (@wordS_size q z)
          clear HX5 HT5 HV25
          go_wp2_with fail
          refine (word_at z _ _ HXr.out HQ.out HTr.out HVr.out).mono ?_
          rintro e w6 ⟨rfl, hb⟩
          have hbw6 := hbw.trans (hb.mono hsz)
          have HX6 := Lib.hid (HXr.out.below hb)
          have HT6 := Lib.hid (HTr.out.below hb)
          have HV6 := Lib.hid (HVr.out.below hb)
          clear hb HXr HTr HVr
          cases hok : wordOk q z with
          | true =>
            have HO := Lib.hid hok
            have hsize := (HSz.out hok).trans HL2.out
            have hback := HBk.out hok
            have HB := Lib.hid hback
            clear hback HBk HSz hok
            generalize wordS q z = u2 at *
            go_wp2_with fail
            refine (names_at u2 (by omega) _ HX6.out).mono ?_
            rintro e w7 ⟨v128, rfl, hr, hb⟩
            rw [HB.out] at hr
            have HR := Lib.hid hr
            have hbw7 := hbw6.trans (hb.mono hbw6.size)
            have HV7 := Lib.hid (HV6.out.below hb)
            have HT7 := Lib.hid (HT6.out.below hb)
            clear hr hb HX6 HT6 HV6
            go_wp2_with fail
            refine (same_any _ _ _ _ _ HR.out HV7.out).mono ?_
            rintro e w8 ⟨rfl, hb⟩
            rw [decide_eq_true rfl]
            have hbw8 := hbw7.trans (hb.mono hbw7.size)
            have HT8 := Lib.hid (HT7.out.below hb)
            go_wp2_with fail
            refine (awake04_any _ HT8.out).mono ?_
            rintro e w9 ⟨rfl, hb9⟩
            have hw8 := hw5.trans (hbw8.mono hw5.size)
            go_wp2
            go_returns
            exact ⟨rfl, hw8.trans (hb9.mono hw8.size)⟩
          | false =>
            have hws : wordS q z = ⟨#[]⟩ := by unfold wordS; rw [hok]; rfl
            rw [hws]
            clear hok hws
            go_wp2_with fail
            refine (awake04_any _ HT6.out).mono ?_
            rintro e w9 ⟨rfl, hb9⟩
            have hw8 := hw5.trans (hbw6.mono hw5.size)
            go_wp2
            go_returns
            exact ⟨rfl, hw8.trans (hb9.mono hw8.size)⟩
end Go.Proofs.YtanimknpnniabaaDoor
