/- Ways: push. -/
import Derived.Test.YtpiimcbbgalhfaaGreatDoorCg
import Derived.Test.YtpiimcbbgalhfaaGreatDoorBa
import Derived.StillTailTactics
namespace Go.Proofs.YtpiimcbbgalhfaaGreatDoor
set_option maxRecDepth 100000
open Go.RowKit
theorem elem_point : Elem Tryz.prog 153 160 3 24 := by
  obtain ⟨i, hi, h0, h1, h2⟩ := info_parts (by kernel_rfl : (Tryz.prog.info? 160).map (fun i => (i.zero, i.size, i.bytes)) = some (some (.agg #[.int .i64 0, .pointer none, .pointer none]), 3, 24))
  exact ⟨i, _, Tryz.underlying153, hi, h0, h1, h2, rfl, by omega⟩
theorem one_point (n : Int) (a b : Option Addr) : ∀ u ∈ [Value.int .i64 n, Value.pointer a, Value.pointer b], u.oneCell' = true := by
  intro u hu
  simp only [List.mem_cons, List.not_mem_nil, or_false] at hu
  rcases hu with rfl | rfl | rfl <;> rfl
def PushIs (w0 w w' : World) (fb : Nat) (s : ByteArray) (most limit : Nat) (F : Fd) (lv bv : Value) (vs : List Value) : Prop := ∃ bv' cs', FinAt w0 w' fb s most limit F lv bv' vs cs' ∧ Keep w (SX fb lv bv) w' (SX fb lv bv')
set_option maxHeartbeats 8000000 in
theorem push_at {w0 w : World} {fb : Nat} {s : ByteArray} {most limit : Nat} {F : Fd} {lv bv : Value} {vs cs : List Value} (h : FinAt w0 w fb s most limit F lv bv vs cs) {p : Pt} {u v x : Value}
    (hu : ReadAt 284 w (SX fb lv bv) p.read u) (hv : TodoAt 164 w (SX fb lv bv) p.todo v) (hlen : F.back.length ≤ 1000000000) :
    Calls Tryz.prog 100 #[.pointer (some ⟨fb, 0, none⟩), .agg #[.int .i64 ((p.pos : Nat) : Int), u, x], v] w fun e w' => (∃ r, e = .returned r) ∧ PushIs w0 w w' fb s most limit (F.push [p]) lv bv vs := by
  obtain ⟨uo, rfl, -⟩ := hu.form
  obtain ⟨vo, rfl, -⟩ := hv.form
  have hfl := h.blk.lt
  have H := Lib.hid h
  have HU := Lib.hid hu
  have HV := Lib.hid hv
  have hB1 : Below w.heap.size w (w.alloc (.cells #[.int .i64 ((p.pos : Nat) : Int), .pointer uo, x] 160)).drew := ((Below.refl _ w).alloc (Nat.le_refl _) _).drew
  have HB1 := Lib.hid hB1
  have HOW := Lib.hid (own_below h.back hB1)
  have HBL := Lib.hid (h.blk.below hB1 hfl)
  obtain ⟨⟨-, -, -, -, -, -, -, c7⟩, -, -, -, -, f7⟩ := (h.under ((Below.refl _ w).alloc (Nat.le_refl _) (.cells #[.int .i64 ((p.pos : Nat) : Int), .pointer uo, x] 160))).cells
  clear h hu hv hB1
  generalize hpp : p.pos = pos at *
  have HP := Lib.hid hpp
  clear hpp
  go_enter Tryz.func100, Tryz.ntmps100
  go_wp2_with fail
  go_region_law (first
    | (refine step_append_far rfl (.tmp 10) (.tmp 17) 153 rfl (fb + 1) 160 3 24 elem_point _ _ _ (by simp [Act.eval]) HOW.out [.int .i64 ((pos : Nat) : Int), .pointer uo, .pointer vo] (by simp [Act.eval]) rfl (one_point _ _ _) (by omega) (by omega) (by simp; omega) ?_; intro g5 cap5 w5 hown5 hmv; have hk5 := hmv.blk HBL.out HOW.out (Nat.lt_succ_self fb); have f75 := hk5.frozen 7; have c75 : w5.cell? ⟨fb, 7, none⟩ = some bv := hk5.cell 7; have hl5 := hk5.lt; have HM5 := Lib.hid hmv; have HO5 := Lib.hid hown5; clear hmv hown5 hk5))
  all_goals
    obtain ⟨hF, hK⟩ := H.out.pushed (p := p) HB1.out HU.out HV.out (by rw [HP.out]; exact HO5.out) HM5.out
    go_wp2
    go_returns
    exact ⟨⟨_, rfl⟩, _, _, hF, hK⟩
end Go.Proofs.YtpiimcbbgalhfaaGreatDoor
/- Ways: star. -/
namespace Go.Proofs.YtpiimcbbgalhfaaGreatDoor
set_option maxRecDepth 100000
open Go.RowKit
theorem FinAt.new {w0 w : World} {fb : Nat} {s : ByteArray} {most limit : Nat} {F : Fd} {lv bv : Value} {vs cs : List Value} (h : FinAt w0 w fb s most limit F lv bv vs cs) {k : Nat} (hk : w.heap.size ≤ k) : SX fb lv bv k :=
  ⟨fun e => by have := h.blk.lt; omega, fun e => by have := (h.ways.lt k e).2; omega, fun e => by have := (h.back.lt k e).2; omega⟩
theorem FinAt.new0 {w0 w wb : World} {fb : Nat} {s : ByteArray} {most limit : Nat} {F : Fd} {lv bv : Value} {vs cs : List Value} (h : FinAt w0 w fb s most limit F lv bv vs cs) {k : Nat} (hk : FinAt w0 wb fb s most limit F lv bv vs cs) (hl : wb.heap.size ≤ k) : SX fb lv bv k := by
  have _ := h
  exact hk.new hl
set_option maxHeartbeats 8000000 in
theorem wstar_at {w0 w : World} {fb : Nat} {s : ByteArray} {most limit : Nat} {F : Fd} {lv bv : Value} {vs cs : List Value} (h : FinAt w0 w fb s most limit F lv bv vs cs) {z : Bool} {a : CT} {f pos g : Nat} {read : List Nat} {rest : List It} {u v x : Value}
    (hc : CoreAt w (SX fb lv bv) (.star z a) g) (hu : ReadAt 284 w (SX fb lv bv) read u) (hv : TodoAt 164 w (SX fb lv bv) rest v) (hlen : F.back.length + 1 ≤ 1000000000) (hf : f + placesC a ≤ 1000000000) :
    Calls Tryz.prog 150 #[.pointer (some ⟨fb, 0, none⟩), .agg #[cptr g, .int .i64 ((f : Nat) : Int)], .agg #[.int .i64 ((pos : Nat) : Int), u, x], v] w fun e w' => (∃ r, e = .returned r) ∧ PushIs w0 w w' fb s most limit (F.push (starP z a f pos read rest)) lv bv vs := by
  obtain ⟨uo, rfl, -⟩ := hu.form
  obtain ⟨vo, rfl, -⟩ := hv.form
  obtain ⟨hSg, pa, hbg, hca⟩ := hc
  have st := ((St.nil w).alloc rfl [cptr g, .int .i64 ((f : Nat) : Int)] 162).alloc (n := w.heap.size + 1) (by simp) [.int .i64 ((pos : Nat) : Int), .pointer uo, x] 160
  have HPT := Lib.hid (parts_node (A := placesC a) (hbg.below st.below hbg.lt) hf (fun W hW => places_at a ((hca.under st.below).under hW) (by omega)))
  have H := Lib.hid h
  have HU := Lib.hid hu
  have HV := Lib.hid hv
  have HST := Lib.hid st
  have HCA := Lib.hid hca
  have HBG := Lib.hid (And.intro hSg hbg)
  clear h hu hv st hca hbg hSg
  cases z with
  | true =>
    go_enter Tryz.func150, Tryz.ntmps150
    go_wp2_with fail
    refine HPT.out.mono ?_
    rintro v w3 ⟨rfl, hb3⟩
    have st3 := HST.out.below' hb3
    have st4 := (((st3.alloc rfl [cptr pa, .int .i64 ((f : Nat) : Int)] 162).alloc (n := w3.heap.size + 1) (by simp) [.pointer none, .int .i64 (((f : Nat) : Int) + ((placesC a : Nat) : Int))] 162).alloc (n := w3.heap.size + 1 + 1) (by simp) [cptr g, .int .i64 ((f : Nat) : Int), .bool true, .int .i64 ((pos : Nat) : Int), .pointer vo] 164).alloc (n := w3.heap.size + 1 + 1 + 1) (by simp) [cptr pa, .int .i64 ((f : Nat) : Int), .bool false, .int .i64 0, .pointer (some ⟨w3.heap.size + 1 + 1, 0, none⟩)] 164
    obtain ⟨⟨p0, p1⟩, r0, r1⟩ := st3.two 1 rfl
    have q0 := (st3.get 0 rfl).cell 0
    have ql := (st3.get 0 rfl).lt
    have pl := (st3.get 1 rfl).lt
    simp only [List.getElem?_cons_zero] at q0
    have HS3 := Lib.hid st3.size
    clear st3 hb3
    go_upto_region 3 with fail
    generalize (((w3.alloc _).alloc _).alloc _).alloc _ = w4 at *
    clear p0 p1 r0 r1 q0 ql pl
    obtain ⟨⟨p0, p1⟩, r0, r1⟩ := st4.two 5 rfl
    have g5 : w4.cell? ⟨g, 5, none⟩ = some (.bool true) := (HBG.out.2.below st4.below HBG.out.2.lt).cell 5
    have hgl := (HBG.out.2.below st4.below HBG.out.2.lt).lt
    have q0 := (st4.get 4 rfl).cell 0
    have q1 := (st4.get 4 rfl).cell 1
    have q2 := (st4.get 4 rfl).cell 2
    simp only [List.getElem?_cons_zero, List.getElem?_cons_succ] at q0 q1 q2
    have hF4 := H.out.under st4.below
    have hK4 := Keep.below (S := SX fb lv bv) st4.below
    have hs3 := HS3.out
    have hn1 : SX fb lv bv (w3.heap.size + 1 + 1) := H.out.new (by omega)
    have hn2 : SX fb lv bv (w3.heap.size + 1 + 1 + 1) := H.out.new (by omega)
    have hown : TodoAt 164 w4 (SX fb lv bv) (.fresh a f :: .loop true a f pos :: rest) (.pointer (some ⟨w3.heap.size + 1 + 1 + 1, 0, none⟩)) :=
      ⟨_, pa, _, rfl, hn2, st4.get 0 rfl, HCA.out.keep hK4, _, g, _, rfl, hn1, st4.get 1 rfl, ⟨(hK4.2 g HBG.out.1 HBG.out.2.lt).2, pa, HBG.out.2.below st4.below HBG.out.2.lt, HCA.out.keep hK4⟩, HV.out.keep hK4⟩
    have HF4 := Lib.hid hF4
    have HOWN := Lib.hid hown
    have HR4 := Lib.hid (HV.out.keep hK4)
    have HU4 := Lib.hid (HU.out.keep hK4)
    have HK4 := Lib.hid hK4
    have HST4 := Lib.hid st4
    clear hF4 hK4 hn1 hn2 hown st4 hs3
    go_wp2_with fail
    refine (push_at (p := ⟨pos, read, .fresh a f :: .loop true a f pos :: rest⟩) HF4.out HU4.out HOWN.out (by omega)).mono ?_
    rintro e w5 ⟨⟨r5, rfl⟩, bv5, cs5, hF5, hK5⟩
    have HF5 := Lib.hid hF5
    have HU5 := Lib.hid (HU4.out.keep hK5)
    have HR5 := Lib.hid (HR4.out.keep hK5)
    have HO5 := Lib.hid (HOWN.out.keep hK5)
    have HK5 := Lib.hid (HK4.out.trans hK5)
    have hlen5 : (F.push [⟨pos, read, .fresh a f :: .loop true a f pos :: rest⟩]).back.length ≤ 1000000000 := by simp [Fd.push]; omega
    have hz := hK5.2 (w.heap.size + 1) (HF4.out.new0 H.out (Nat.le_succ _)) ((HST4.out.get 4 rfl).lt)
    have hb5 : Blk w5 (w.heap.size + 1) 160 [.int .i64 ((pos : Nat) : Int), .pointer uo, x] := hz.1.trans (HST4.out.get 4 rfl)
    clear hF5 hK5 hz p0 p1 r0 r1 g5 hgl q0 q1 q2
    have q0 := hb5.cell 0
    have q1 := hb5.cell 1
    have q2 := hb5.cell 2
    have ql := hb5.lt
    simp only [List.getElem?_cons_zero, List.getElem?_cons_succ] at q0 q1 q2
    clear hb5
    go_wp2_with fail
    refine (push_at (p := ⟨pos, read, rest⟩) HF5.out HU5.out HR5.out hlen5).mono ?_
    rintro e w6 ⟨⟨r6, rfl⟩, bv6, cs6, hF6, hK6⟩
    have HF6 := Lib.hid hF6
    have HK6 := Lib.hid (HK5.out.trans hK6)
    clear hF6 hK6 q0 q1 q2 ql
    go_wp2
    go_returns
    refine ⟨⟨_, rfl⟩, bv6, cs6, ?_, HK6.out⟩
    have := HF6.out
    simp only [Fd.push, List.append_assoc, List.cons_append, List.nil_append] at this
    exact this
  | false =>
    go_enter Tryz.func150, Tryz.ntmps150
    go_wp2_with fail
    refine HPT.out.mono ?_
    rintro v w3 ⟨rfl, hb3⟩
    have st3 := HST.out.below' hb3
    have st4 := (((st3.alloc rfl [cptr pa, .int .i64 ((f : Nat) : Int)] 162).alloc (n := w3.heap.size + 1) (by simp) [.pointer none, .int .i64 (((f : Nat) : Int) + ((placesC a : Nat) : Int))] 162).alloc (n := w3.heap.size + 1 + 1) (by simp) [cptr g, .int .i64 ((f : Nat) : Int), .bool true, .int .i64 ((pos : Nat) : Int), .pointer vo] 164).alloc (n := w3.heap.size + 1 + 1 + 1) (by simp) [cptr pa, .int .i64 ((f : Nat) : Int), .bool false, .int .i64 0, .pointer (some ⟨w3.heap.size + 1 + 1, 0, none⟩)] 164
    obtain ⟨⟨p0, p1⟩, r0, r1⟩ := st3.two 1 rfl
    have q0 := (st3.get 0 rfl).cell 0
    have ql := (st3.get 0 rfl).lt
    have pl := (st3.get 1 rfl).lt
    simp only [List.getElem?_cons_zero] at q0
    have HS3 := Lib.hid st3.size
    clear st3 hb3
    go_upto_region 3 with fail
    generalize (((w3.alloc _).alloc _).alloc _).alloc _ = w4 at *
    clear p0 p1 r0 r1 q0 ql pl
    obtain ⟨⟨p0, p1⟩, r0, r1⟩ := st4.two 5 rfl
    have g5 : w4.cell? ⟨g, 5, none⟩ = some (.bool false) := (HBG.out.2.below st4.below HBG.out.2.lt).cell 5
    have hgl := (HBG.out.2.below st4.below HBG.out.2.lt).lt
    have q0 := (st4.get 4 rfl).cell 0
    have q1 := (st4.get 4 rfl).cell 1
    have q2 := (st4.get 4 rfl).cell 2
    simp only [List.getElem?_cons_zero, List.getElem?_cons_succ] at q0 q1 q2
    have hF4 := H.out.under st4.below
    have hK4 := Keep.below (S := SX fb lv bv) st4.below
    have hs3 := HS3.out
    have hn1 : SX fb lv bv (w3.heap.size + 1 + 1) := H.out.new (by omega)
    have hn2 : SX fb lv bv (w3.heap.size + 1 + 1 + 1) := H.out.new (by omega)
    have hown : TodoAt 164 w4 (SX fb lv bv) (.fresh a f :: .loop false a f pos :: rest) (.pointer (some ⟨w3.heap.size + 1 + 1 + 1, 0, none⟩)) :=
      ⟨_, pa, _, rfl, hn2, st4.get 0 rfl, HCA.out.keep hK4, _, g, _, rfl, hn1, st4.get 1 rfl, ⟨(hK4.2 g HBG.out.1 HBG.out.2.lt).2, pa, HBG.out.2.below st4.below HBG.out.2.lt, HCA.out.keep hK4⟩, HV.out.keep hK4⟩
    have HF4 := Lib.hid hF4
    have HOWN := Lib.hid hown
    have HR4 := Lib.hid (HV.out.keep hK4)
    have HU4 := Lib.hid (HU.out.keep hK4)
    have HK4 := Lib.hid hK4
    have HST4 := Lib.hid st4
    clear hF4 hK4 hn1 hn2 hown st4 hs3
    go_wp2_with fail
    refine (push_at (p := ⟨pos, read, rest⟩) HF4.out HU4.out HR4.out (by omega)).mono ?_
    rintro e w5 ⟨⟨r5, rfl⟩, bv5, cs5, hF5, hK5⟩
    have HF5 := Lib.hid hF5
    have HU5 := Lib.hid (HU4.out.keep hK5)
    have HR5 := Lib.hid (HR4.out.keep hK5)
    have HO5 := Lib.hid (HOWN.out.keep hK5)
    have HK5 := Lib.hid (HK4.out.trans hK5)
    have hlen5 : (F.push [⟨pos, read, rest⟩]).back.length ≤ 1000000000 := by simp [Fd.push]; omega
    have hz := hK5.2 (w.heap.size + 1) (HF4.out.new0 H.out (Nat.le_succ _)) ((HST4.out.get 4 rfl).lt)
    have hb5 : Blk w5 (w.heap.size + 1) 160 [.int .i64 ((pos : Nat) : Int), .pointer uo, x] := hz.1.trans (HST4.out.get 4 rfl)
    clear hF5 hK5 hz p0 p1 r0 r1 g5 hgl q0 q1 q2
    have q0 := hb5.cell 0
    have q1 := hb5.cell 1
    have q2 := hb5.cell 2
    have ql := hb5.lt
    simp only [List.getElem?_cons_zero, List.getElem?_cons_succ] at q0 q1 q2
    clear hb5
    go_wp2_with fail
    refine (push_at (p := ⟨pos, read, .fresh a f :: .loop false a f pos :: rest⟩) HF5.out HU5.out HO5.out hlen5).mono ?_
    rintro e w6 ⟨⟨r6, rfl⟩, bv6, cs6, hF6, hK6⟩
    have HF6 := Lib.hid hF6
    have HK6 := Lib.hid (HK5.out.trans hK6)
    clear hF6 hK6 q0 q1 q2 ql
    go_wp2
    go_returns
    refine ⟨⟨_, rfl⟩, bv6, cs6, ?_, HK6.out⟩
    have := HF6.out
    simp only [Fd.push, List.append_assoc, List.cons_append, List.nil_append] at this
    exact this
end Go.Proofs.YtpiimcbbgalhfaaGreatDoor
/- Ways: hit. -/
namespace Go.Proofs.YtpiimcbbgalhfaaGreatDoor
set_option maxRecDepth 100000
open Go.RowKit
theorem Keep.cell {w w' : World} {S S' : Nat → Prop} (h : Keep w S w' S') {b o : Nat} {v : Option Value} (hS : S b) (hb : b < w.heap.size) (hv : w.cell? ⟨b, o, none⟩ = v) : w'.cell? ⟨b, o, none⟩ = v :=
  (World.cell?_of_block (a := ⟨b, o, none⟩) (h.2 b hS hb).1).trans hv
theorem hit_none {s : List UInt8} {limit : Nat} {m : Nat → Bool} {f pos : Nat} {read : List Nat} {rest : List It} {F : Fd} (h : s[pos]? = none) : hitF s limit m f pos read rest F = F := by unfold hitF; rw [h]
theorem hit_not {s : List UInt8} {limit : Nat} {m : Nat → Bool} {f pos : Nat} {read : List Nat} {rest : List It} {F : Fd} {b : UInt8} (h : s[pos]? = some b) (hm : m b.toNat = false) : hitF s limit m f pos read rest F = F := by unfold hitF; rw [h]; simp only []; rw [if_neg (by simp [hm])]
theorem hit_stop {s : List UInt8} {limit : Nat} {m : Nat → Bool} {f pos : Nat} {read : List Nat} {rest : List It} {F : Fd} {b : UInt8} (h : s[pos]? = some b) (hm : m b.toNat = true) (hl : limit ≤ F.hits) : hitF s limit m f pos read rest F = { F with stopped := true } := by unfold hitF; rw [h]; simp only []; rw [if_pos hm, if_pos hl]
theorem hit_go {s : List UInt8} {limit : Nat} {m : Nat → Bool} {f pos : Nat} {read : List Nat} {rest : List It} {F : Fd} {b : UInt8} (h : s[pos]? = some b) (hm : m b.toNat = true) (hl : ¬limit ≤ F.hits) : hitF s limit m f pos read rest F = ({ F with hits := F.hits + 1 } : Fd).push [⟨pos + 1, f :: read, rest⟩] := by unfold hitF; rw [h]; simp only []; rw [if_pos hm, if_neg hl]; rfl
set_option maxHeartbeats 8000000 in
theorem whit_at {w0 w : World} {fb : Nat} {s : ByteArray} {most limit : Nat} {F : Fd} {lv bv : Value} {vs cs : List Value} (h : FinAt w0 w fb s most limit F lv bv vs cs) {m : Nat → Bool} {f pos d g : Nat} {read : List Nat} {rest : List It} {u v x : Value}
    (hSd : SX fb lv bv d) (hbd : Blk w d 164 [cptr g, .int .i64 ((f : Nat) : Int), .bool false, .int .i64 ((0 : Nat) : Int), v]) (hc : CoreAt w (SX fb lv bv) (.set m) g) (hu : ReadAt 284 w (SX fb lv bv) read u) (hv : TodoAt 164 w (SX fb lv bv) rest v)
    (hlen : F.back.length ≤ 1000000000) (hs : s.size ≤ 1000000000) (hl : limit ≤ 1000000000) (hp : pos ≤ s.size) :
    Calls Tryz.prog 152 #[.pointer (some ⟨fb, 0, none⟩), .agg #[.int .i64 ((pos : Nat) : Int), u, x], cptr d] w fun e w' => (∃ r, e = .returned r) ∧ PushIs w0 w w' fb s most limit (hitF s.data.toList limit m f pos read rest F) lv bv vs := by
  obtain ⟨uo, rfl, -⟩ := hu.form
  obtain ⟨vo, rfl, -⟩ := hv.form
  have hB1 : Below w.heap.size w (w.alloc (.cells #[.int .i64 ((pos : Nat) : Int), .pointer uo, x] 160)) := (Below.refl _ w).alloc (Nat.le_refl _) _
  have st := (St.nil w).alloc rfl [.int .i64 ((pos : Nat) : Int), .pointer uo, x] 160
  have HST := Lib.hid st
  have HB1 := Lib.hid hB1
  have H := Lib.hid h
  have HU := Lib.hid hu
  have HV := Lib.hid hv
  have HD := Lib.hid (And.intro hSd hbd)
  have HC := Lib.hid hc
  have hF1 := h.under hB1
  have hbd1 := hbd.below hB1 hbd.lt
  have hbg1 := hc.2.below hB1 hc.2.lt
  clear h hu hv hSd hbd hc st hB1
  go_enter Tryz.func152, Tryz.ntmps152
  go_upto_region 1 with fail
  generalize hw1 : w.alloc _ = w1 at *
  clear hw1
  have p0 := (HST.out.get 0 rfl).cell 0
  have p1 := (HST.out.get 0 rfl).cell 1
  have p2 := (HST.out.get 0 rfl).cell 2
  have pl := (HST.out.get 0 rfl).lt
  simp only [List.getElem?_cons_zero, List.getElem?_cons_succ] at p0 p1 p2
  obtain ⟨⟨c0, -, c2, -, c4, c5, -, -⟩, -, -, f5, f6, -⟩ := hF1.cells
  have hfl := hF1.blk.lt
  have d0 : w1.cell? ⟨d, 0, none⟩ = some (cptr g) := hbd1.cell 0
  have hdl := hbd1.lt
  have hgl := hbg1.lt
  have k1 : w1.cell? ⟨g, 1, none⟩ = some (.int .u64 (word m 0)) := hbg1.cell 1
  have k2 : w1.cell? ⟨g, 2, none⟩ = some (.int .u64 (word m 1)) := hbg1.cell 2
  have k3 : w1.cell? ⟨g, 3, none⟩ = some (.int .u64 (word m 2)) := hbg1.cell 3
  have k4 : w1.cell? ⟨g, 4, none⟩ = some (.int .u64 (word m 3)) := hbg1.cell 4
  have HF1 := Lib.hid hF1
  clear hF1 hbd1 hbg1
  by_cases hlt : pos < s.size
  · have hsp : s.data.toList[pos]? = some s[pos] := by
      rw [List.getElem?_eq_getElem (by simpa using hlt)]
      rfl
    obtain ⟨y, hy⟩ : ∃ y, m s[pos].toNat = y := ⟨_, rfl⟩
    have HH := Lib.hid (fun W => (has_any m ((s[pos].toNat : Nat) : Int) (by omega) (by have := s[pos].toNat_lt; omega) W).mono fun e w' ⟨h1, h2⟩ => ⟨by rw [h1, Int.toNat_natCast, hy], h2⟩ :
      ∀ W, Calls Tryz.prog 115 #[.agg #[.int .u64 (word m 0), .int .u64 (word m 1), .int .u64 (word m 2), .int .u64 (word m 3)], .int .u8 ((s[pos].toNat : Nat) : Int)] W fun e w' => e = .returned (.bool y) ∧ Below W.heap.size W w')
    have HSP := Lib.hid hsp
    have HY := Lib.hid hy
    have hd1 : decide (((s.size : Nat) : Int) ≤ ((pos : Nat) : Int)) = false := decide_eq_false (by omega)
    have hd2 : ((pos : Nat) : Int) < ((s.size : Nat) : Int) := by omega
    have hd3 : decide (s.size ≤ pos) = false := decide_eq_false (by omega)
    clear hsp hy
    go_wp2_with fail
    go_region_held3 (fun x => x.cell? ⟨w.heap.size, 0, none⟩ = some (.int .i64 ((pos : Nat) : Int)) ∧ x.cell? ⟨fb, 2, none⟩ = some (.string s) ∧ x.cell? ⟨d, 0, none⟩ = some (cptr g) ∧ x.cell? ⟨g, 1, none⟩ = some (.int .u64 (word m 0)) ∧ x.cell? ⟨g, 2, none⟩ = some (.int .u64 (word m 1)) ∧ x.cell? ⟨g, 3, none⟩ = some (.int .u64 (word m 2)) ∧ x.cell? ⟨g, 4, none⟩ = some (.int .u64 (word m 3))) (go_keep)
      (first | (go_at_call 115; refine (HH.out _).mono ?_; rintro e w8 ⟨rfl, hb8'⟩; have hb8 : Below w1.heap.size w1 w8 := (Below.refl _ w1).drew.trans hb8'; have z0 := (hb8.cell (p := ⟨w.heap.size, 0, none⟩) pl).trans p0; have z2 := (hb8.cell (p := ⟨fb, 2, none⟩) hfl).trans c2; have y0 := (hb8.cell (p := ⟨d, 0, none⟩) hdl).trans d0; have y1 := (hb8.cell (p := ⟨g, 1, none⟩) hgl).trans k1; have y2 := (hb8.cell (p := ⟨g, 2, none⟩) hgl).trans k2; have y3 := (hb8.cell (p := ⟨g, 3, none⟩) hgl).trans k3; have y4 := (hb8.cell (p := ⟨g, 4, none⟩) hgl).trans k4; have HB8 := Lib.hid hb8; clear hb8 hb8'))
    all_goals
      clear z0 z2 y0 y1 y2 y3 y4 p0 p1 p2 pl c0 c2 c4 c5 f5 f6 hfl d0 hdl hgl k1 k2 k3 k4 hd1 hd3
      have HF8 := Lib.hid (HF1.out.under HB8.out)
      have HB18 := Lib.hid (HB1.out.trans (HB8.out.mono HB1.out.size))
      have HST8 := Lib.hid (HST.out.below' HB8.out)
      have HD8 := Lib.hid (And.intro HD.out.1 (HD.out.2.below HB18.out HD.out.2.lt))
      clear HF1 HST HB8 HC
      cases y with
      | false =>
        go_wp2
        go_returns
        rw [hit_not HSP.out HY.out]
        exact ⟨⟨_, rfl⟩, bv, cs, HF8.out, Keep.below HB18.out⟩
      | true =>
        obtain ⟨⟨-, -, -, -, c4, c5, -, -⟩, -, -, -, -, -⟩ := HF8.out.cells
        have hfl := HF8.out.blk.lt
        by_cases hlim : limit ≤ F.hits
        · have HE := Lib.hid (hit_stop (f := f) (read := read) (rest := rest) HSP.out HY.out hlim)
          have hg1 : decide (limit ≤ F.hits) = true := decide_eq_true hlim
          go_wp2_with fail
          go_quiet (fail)
          rename_i nq _
          clear c4 c5 hfl
          have hq := below_drewN (Below.refl w8.heap.size w8) nq
          have hF9 := HF8.out.under hq
          have HK9 := Lib.hid (Keep.below (S := SX fb lv bv) (HB18.out.trans (hq.mono HB18.out.size)))
          generalize w8.drewN nq = w9 at *
          obtain ⟨⟨-, -, -, -, -, -, c6, -⟩, -, -, -, f6, -⟩ := hF9.cells
          have hfl := hF9.blk.lt
          have HF9 := Lib.hid hF9
          clear hF9 hq
          go_wp2
          go_returns
          obtain ⟨hF, hK⟩ := HF9.out.put 6 (.bool true) (F' := { F with stopped := true }) rfl rfl rfl
          rw [HE.out]
          exact ⟨⟨_, rfl⟩, bv, cs, hF, HK9.out.trans hK⟩
        · have HLM := Lib.hid (And.intro hlim hl)
          clear hlim hl
          go_wp2_with fail
          have hg1 : decide (limit ≤ F.hits) = false := decide_eq_false HLM.out.1
          go_quiet (fail)
          clear hg1
          rename_i nq _
          clear c4 c5 hfl
          have hq := below_drewN (Below.refl w8.heap.size w8) nq
          have hF9 := HF8.out.under hq
          have HK9 := Lib.hid (Keep.below (S := SX fb lv bv) (HB18.out.trans (hq.mono HB18.out.size)))
          have HST9 := Lib.hid (HST8.out.below' hq)
          have HD9 := Lib.hid (And.intro HD8.out.1 (HD8.out.2.below hq HD8.out.2.lt))
          generalize w8.drewN nq = w9 at *
          obtain ⟨⟨-, -, -, -, -, c5, -, -⟩, -, -, f5, -, -⟩ := hF9.cells
          have hfl := hF9.blk.lt
          have HF9 := Lib.hid hF9
          clear hF9 hq HF8 HST8 HD8
          have hw5 : IntKind.i64.wrap (((F.hits : Nat) : Int) + 1) = ((F.hits : Nat) : Int) + 1 := IntWalk.i64_in _ (by have := HLM.out; omega)
          go_upto_region 5 with fail
          obtain ⟨hF, hK⟩ := HF9.out.put 5 (.int .i64 (((F.hits : Nat) : Int) + 1)) (F' := { F with hits := F.hits + 1 }) rfl rfl rfl
          have hsb := HF9.out.new0 H.out (Nat.le_refl w.heap.size)
          have hbb := (hK.2 w.heap.size hsb (HST9.out.get 0 rfl).lt).1.trans (HST9.out.get 0 rfl)
          have hbd := (hK.2 d HD9.out.1 HD9.out.2.lt).1.trans HD9.out.2
          have hKw := HK9.out.trans hK
          generalize w9.setCell _ _ = w10 at *
          have hbb2 : Blk w10 w.heap.size 160 [.int .i64 ((pos : Nat) : Int), .pointer uo, x] := hbb
          have hbd2 : Blk w10 d 164 [cptr g, .int .i64 ((f : Nat) : Int), .bool false, .int .i64 ((0 : Nat) : Int), .pointer vo] := hbd
          have b0 : w10.cell? ⟨w.heap.size, 0, none⟩ = some (.int .i64 ((pos : Nat) : Int)) := hbb2.cell 0
          have b1 : w10.cell? ⟨w.heap.size, 1, none⟩ = some (.pointer uo) := hbb2.cell 1
          have e1 : w10.cell? ⟨d, 1, none⟩ = some (.int .i64 ((f : Nat) : Int)) := hbd2.cell 1
          have e4 : w10.cell? ⟨d, 4, none⟩ = some (.pointer vo) := hbd2.cell 4
          have hbl := hbb2.lt
          have hdl := hbd2.lt
          have hb11 : Below w10.heap.size w10 (w10.drew.alloc (.cells #[.int .i64 ((f : Nat) : Int), .pointer uo] 284)) := (Below.refl _ w10).drew.alloc (Nat.le_refl _) _
          have hK11 := hKw.trans (Keep.below (S := SX fb lv bv) hb11)
          have HPU := Lib.hid (push_at (p := ⟨pos + 1, f :: read, rest⟩) (x := .pointer none) (hF.under hb11) ⟨w10.heap.size, .pointer uo, rfl, hF.new (Nat.le_refl _), Blk.new w10.drew [.int .i64 ((f : Nat) : Int), .pointer uo] 284, HU.out.keep hK11⟩ (HV.out.keep hK11) hlen)
          have HPU2 := Lib.hid (show Calls Tryz.prog 100 #[.pointer (some ⟨fb, 0, none⟩), .agg #[.int .i64 (((pos : Nat) : Int) + 1), .pointer (some ⟨w10.heap.size, 0, none⟩), .pointer none], .pointer vo] (w10.drew.alloc (.cells #[.int .i64 ((f : Nat) : Int), .pointer uo] 284)) _ from HPU.out)
          have HK11 := Lib.hid hK11
          have HB11 := Lib.hid hb11
          have HSB := Lib.hid hsb
          have HD10 := Lib.hid HD9.out.1
          have hw1 : IntKind.i64.wrap (((pos : Nat) : Int) + 1) = ((pos : Nat) : Int) + 1 := IntWalk.i64_in _ (by omega)
          clear hF hK hsb hbb hbd hbb2 hbd2 hKw hb11 hK11 HPU c5 f5 hfl
          go_region_held3 (fun x => x.cell? ⟨w.heap.size, 0, none⟩ = some (.int .i64 ((pos : Nat) : Int)) ∧ x.cell? ⟨w.heap.size, 1, none⟩ = some (.pointer uo) ∧ x.cell? ⟨d, 1, none⟩ = some (.int .i64 ((f : Nat) : Int)) ∧ x.cell? ⟨d, 4, none⟩ = some (.pointer vo)) (go_keep)
            (first | (go_at_call 100; refine HPU2.out.mono ?_; rintro e w12 ⟨⟨r12, rfl⟩, bv12, cs12, hF12, hK12⟩; have HF12 := Lib.hid hF12; have HK12 := Lib.hid hK12; have z0 := hK12.cell HSB.out (Nat.lt_of_lt_of_le hbl HB11.out.size) ((HB11.out.cell (p := ⟨w.heap.size, 0, none⟩) hbl).trans b0); have z1 := hK12.cell HSB.out (Nat.lt_of_lt_of_le hbl HB11.out.size) ((HB11.out.cell (p := ⟨w.heap.size, 1, none⟩) hbl).trans b1); have z2 := hK12.cell HD10.out (Nat.lt_of_lt_of_le hdl HB11.out.size) ((HB11.out.cell (p := ⟨d, 1, none⟩) hdl).trans e1); have z3 := hK12.cell HD10.out (Nat.lt_of_lt_of_le hdl HB11.out.size) ((HB11.out.cell (p := ⟨d, 4, none⟩) hdl).trans e4); clear hF12 hK12))
          all_goals
            go_wp2
            go_returns
            rw [hit_go HSP.out HY.out HLM.out.1]
            exact ⟨⟨_, rfl⟩, _, _, HF12.out, HK11.out.trans HK12.out⟩
  · have HE := Lib.hid (hit_none (limit := limit) (m := m) (f := f) (read := read) (rest := rest) (F := F) (show s.data.toList[pos]? = none from List.getElem?_eq_none (by simp; exact Nat.le_of_not_lt hlt)))
    have hge : ((s.size : Nat) : Int) ≤ ((pos : Nat) : Int) := by omega
    have hd1 : decide (((s.size : Nat) : Int) ≤ ((pos : Nat) : Int)) = true := decide_eq_true hge
    go_wp2_with fail
    go_quiet (fail)
    rename_i nq _
    have hb2 := below_drewN (Below.refl w1.heap.size w1) nq
    go_wp2
    go_returns
    rw [HE.out]
    exact ⟨⟨_, rfl⟩, bv, cs, HF1.out.under hb2, (Keep.below HB1.out).trans (Keep.below hb2)⟩
end Go.Proofs.YtpiimcbbgalhfaaGreatDoor
