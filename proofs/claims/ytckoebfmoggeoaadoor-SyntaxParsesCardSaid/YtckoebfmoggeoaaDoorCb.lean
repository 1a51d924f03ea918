/- The reference of layer 5: Class whole. -/
import Derived.Test.YtckoebfmoggeoaaDoorBz
import Derived.Test.YtckoebfmoggeoaaDoorCa
import Derived.Test.YtckoebfmoggeoaaDoorBw
import Derived.Test.YtckoebfmoggeoaaDoorBe
import Derived.Test.YtckoebfmoggeoaaDoorBb
import Derived.Test.YtckoebfmoggeoaaDoorBy
namespace Go.Proofs.YtckoebfmoggeoaaDoor
set_option maxRecDepth 100000
open Go.RowKit
theorem refclass_at (s : ByteArray) (i : Nat) (hi : i < s.size) (hs : s.size ≤ 1048576) (w : World) :
    Calls Tryd.prog 57 #[.string s, .int .i64 ((i : Nat) : Int)] w fun v w' => v = .returned (refV (classM (bytesN s) i)) ∧ Below w.heap.size w w' := by
  rcases Nat.lt_or_ge (i + 1) s.size with h | h
  · by_cases hc : (s[i + 1]'h).toNat = 94
    · exact refclass_not s i h hc hs w
    · exact refclass_in s i h hc hs w
  · exact refclass_end s i (by omega) hs w
end Go.Proofs.YtckoebfmoggeoaaDoor
/- The reference of layer 5: number. -/
namespace Go.Proofs.YtckoebfmoggeoaaDoor
set_option maxRecDepth 100000
open Go.RowKit
theorem ret_nend {fn : Func} {R : Ending → World → Prop} {a : Act} {w : World} {b' r r' : Nat} {x : Value} {j e : Nat} (hres : fn.results = #[.tmp r, .cell r' 88])
    (hr : a.tmps.getD r undef = x) (hr' : a.tmps.getD r' undef = .pointer (some ⟨b', 0, none⟩)) (h' : Blk w b' 88 (endL j e)) (hd : a.defers = [])
    (hR : R (.returned (.tuple #[x, endV j e])) w) : bodyPost Tryd.prog fn R .ret a w := by
  have hl2 := load_end h'
  refine bodyPost_ret (v := .tuple #[x, endV j e]) ?_ hd hR
  have q1 : a.tmps[r]?.getD undef = x := by simpa using hr
  have q2 : a.tmps[r']?.getD undef = .pointer (some ⟨b', 0, none⟩) := by simpa using hr'
  simp [results, hres, q1, q2, hl2, asAddr]
theorem ret_nnend {fn : Func} {R : Ending → World → Prop} {a : Act} {w : World} {b' r1 r2 r' : Nat} {x y : Value} {j e : Nat} (hres : fn.results = #[.tmp r1, .tmp r2, .cell r' 88])
    (hr1 : a.tmps.getD r1 undef = x) (hr2 : a.tmps.getD r2 undef = y) (hr' : a.tmps.getD r' undef = .pointer (some ⟨b', 0, none⟩)) (h' : Blk w b' 88 (endL j e)) (hd : a.defers = [])
    (hR : R (.returned (.tuple #[x, y, endV j e])) w) : bodyPost Tryd.prog fn R .ret a w := by
  have hl2 := load_end h'
  refine bodyPost_ret (v := .tuple #[x, y, endV j e]) ?_ hd hR
  have q1 : a.tmps[r1]?.getD undef = x := by simpa using hr1
  have q3 : a.tmps[r2]?.getD undef = y := by simpa using hr2
  have q2 : a.tmps[r']?.getD undef = .pointer (some ⟨b', 0, none⟩) := by simpa using hr'
  simp [results, hres, q1, q2, q3, hl2, asAddr]
theorem hexM_digit {c : Nat} (h1 : 48 ≤ c) (h2 : c ≤ 57) : hexIx c = ((c : Nat) : Int) - 48 := by
  unfold hexIx hexM
  rw [if_pos ⟨h1, h2⟩]
  simp only []
  omega
theorem hexIx_low {c : Nat} (h : c < 48) : hexIx c = -1 := by
  unfold hexIx hexM
  rw [if_neg (by omega), if_neg (by omega), if_neg (by omega)]
theorem digit_cases (s : ByteArray) (i : Nat) : (digitAt (bytesN s) i = none ∧ s.size ≤ i) ∨ (digitAt (bytesN s) i = none ∧ ∃ (h : i < s.size) (c : Nat), (s[i]'h).toNat = c ∧ c < 256 ∧ hexIx c = -1) ∨
    (digitAt (bytesN s) i = none ∧ ∃ (h : i < s.size) (c x : Nat), (s[i]'h).toNat = c ∧ c < 256 ∧ hexIx c = ((x : Nat) : Int) ∧ 57 < c) ∨ (∃ d, digitAt (bytesN s) i = some d ∧ ∃ (h : i < s.size), (s[i]'h).toNat = 48 + d ∧ d ≤ 9 ∧ hexIx (48 + d) = ((d : Nat) : Int)) := by
  rcases Nat.lt_or_ge i s.size with h | h
  · have hget : (bytesN s)[i]? = some (s[i]'h).toNat := by
      unfold bytesN
      rw [List.getElem?_map, Array.getElem?_toList, Array.getElem?_eq_getElem h]
      rfl
    have hlt := (s[i]'h).toNat_lt
    by_cases hd : 48 ≤ (s[i]'h).toNat ∧ (s[i]'h).toNat ≤ 57
    · refine .inr (.inr (.inr ⟨(s[i]'h).toNat - 48, ?_, h, by omega, by omega, ?_⟩))
      · unfold digitAt; rw [hget]; simp only [Option.bind_some]; rw [if_pos hd]
      · rw [show 48 + ((s[i]'h).toNat - 48) = (s[i]'h).toNat by omega, hexM_digit hd.1 hd.2]; omega
    · have hn : digitAt (bytesN s) i = none := by unfold digitAt; rw [hget]; simp only [Option.bind_some]; rw [if_neg hd]
      cases hx : hexM (s[i]'h).toNat with
      | none => exact .inr (.inl ⟨hn, h, _, rfl, hlt, hexIx_none hx⟩)
      | some x =>
        refine .inr (.inr (.inl ⟨hn, h, _, x, rfl, hlt, hexIx_num hx, ?_⟩))
        rcases Nat.lt_or_ge (s[i]'h).toNat 48 with hl | hl
        · have := hexIx_low hl
          rw [hexIx_num hx] at this
          omega
        · omega
  · exact .inl ⟨by unfold digitAt; rw [List.getElem?_eq_none (by rw [bytesN_length]; exact h)]; rfl, h⟩
theorem num_is {t : List Nat} {i j N : Nat} (h : numFrom t 0 i = (N, j)) (hd : (digitAt t i).isSome = true) : numberM t i = if N > 1000 then .err i 5 else .ok N j := by
  unfold numberM
  cases hx : digitAt t i with
  | none => rw [hx] at hd; cases hd
  | some d =>
    simp only []
    rw [show numLoop t (t.length - i) 0 i = (N, j) from h]
theorem num_at0 {t : List Nat} {i : Nat} (h : digitAt t i = none) : numberM t i = .err i 4 := by
  unfold numberM
  rw [h]
theorem numFrom_gt {t : List Nat} {i d : Nat} (h : digitAt t i = some d) : i < (numFrom t 0 i).2 := by
  rw [numFrom_next 0 h]
  have := digitAt_lt h
  have := numFrom_le t _ (10 * 0 + d) (i + 1) (Nat.le_refl _) (by omega)
  omega
set_option maxRecDepth 100000 in
set_option maxHeartbeats 2000000 in
theorem refnumber_at (s : ByteArray) (i : Nat) (hi : i ≤ s.size) (hs : s.size ≤ 1048576) (w : World) :
    Calls Tryd.prog 86 #[.string s, .int .i64 ((i : Nat) : Int)] w fun v w' => ∃ n j e : Nat, v = .returned (.tuple #[.int .i64 ((n : Nat) : Int), endV j e]) ∧ NumIs (numberM (bytesN s) i) n j e ∧ Below w.heap.size w w' := by
  have HS := Lib.hid (show (digitAt (bytesN s) i).isSome = true ∧ i < (numFrom (bytesN s) 0 i).2 ∨ digitAt (bytesN s) i = none from by
    cases h : digitAt (bytesN s) i with
    | none => exact .inr rfl
    | some d => exact .inl ⟨rfl, numFrom_gt h⟩)
  go_enter Tryd.func86, Tryd.ntmps86
  go_wp2_with fail
  have hN : Blk (w.alloc (.cells #[.int .i64 0, .int .i64 0] 88)) w.heap.size 88 [.int .i64 0, .int .i64 0] := Blk.new w [.int .i64 0, .int .i64 0] _
  have st0 : St w (w.alloc (.cells #[.int .i64 0, .int .i64 0] 88)) [(w.heap.size, 88, [.int .i64 0, .int .i64 0])] := (St.nil w).alloc rfl [.int .i64 0, .int .i64 0] _
  clear hN
  generalize w.alloc _ = wa at *
  go_loopw [6, 7] (fun nv jv wr => ∃ v j : Nat, nv = .int .i64 ((min v 100000 : Nat) : Int) ∧ jv = .int .i64 ((j : Nat) : Int) ∧ j ≤ s.size ∧ i ≤ j ∧ wr = wa ∧ Hid (numFrom (bytesN s) 0 i = numFrom (bytesN s) v j)) (fun _ jv _ => s.size - (intOf jv).toNat)
  case atStart => exact ⟨0, i, rfl, rfl, hi, Nat.le_refl _, rfl, Lib.hid rfl⟩
  case round =>
    obtain ⟨v, j, rfl, rfl, hj, hij, rfl, HF⟩ := hrel
    have hmn : min v 100000 ≤ 100000 := Nat.min_le_right _ _
    generalize hmv : min v 100000 = n at *
    have HM := Lib.hid hmv
    clear hmv
    obtain ⟨⟨c0, c1⟩, f0, f1⟩ := st0.two 0 rfl
    rcases digit_cases s j with ⟨hd, hge⟩ | ⟨hd, hlt, c, hc, hc256, hx⟩ | ⟨hd, hlt, c, x, hc, hc256, hx, h57⟩ | ⟨d, hd, hlt, hc, hd9, hx⟩
    · have HE := Lib.hid (numFrom_end v hd)
      have HD := Lib.hid hd
      clear hd
      by_cases hji : j = i
      · have HI := Lib.hid hji
        have hb : (((j : Nat) : Int) == ((i : Nat) : Int)) = true := by rw [beq_iff_eq]; omega
        clear hji
        go_wp2
        refine ret_nend (x := .int .i64 0) (b' := w.heap.size) rfl rfl rfl (((st0.set 0 rfl 0 _).set 0 rfl 1 _).get 0 rfl) rfl ⟨0, j, 4, rfl, ?_, ((st0.set 0 rfl 0 _).set 0 rfl 1 _).below⟩
        rw [num_at0 (by rw [← HI.out]; exact HD.out)]
        exact ⟨HI.out, rfl, by omega⟩
      · have hb : (((j : Nat) : Int) == ((i : Nat) : Int)) = false := by rw [beq_eq_false_iff_ne]; omega
        by_cases hbig : 1000 < n
        · go_wp2
          refine ret_nend (x := .int .i64 0) (b' := w.heap.size) rfl rfl rfl (((st0.set 0 rfl 0 _).set 0 rfl 1 _).get 0 rfl) rfl ⟨0, i, 5, rfl, ?_, ((st0.set 0 rfl 0 _).set 0 rfl 1 _).below⟩
          have h1 := HF.out.trans HE.out
          have := HM.out
          rcases HS.out with hS | hS
          · rw [num_is h1 hS.1, if_pos (by omega)]
            exact ⟨rfl, rfl, by omega⟩
          · exact absurd (by rw [numFrom_end 0 hS] at h1; injection h1 with _ h1; exact h1.symm) hji
        · go_wp2
          refine ret_nend (x := .int .i64 ((n : Nat) : Int)) (b' := w.heap.size) rfl rfl rfl (((st0.set 0 rfl 0 _).set 0 rfl 1 _).get 0 rfl) rfl ⟨n, j, 0, rfl, ?_, ((st0.set 0 rfl 0 _).set 0 rfl 1 _).below⟩
          have h1 := HF.out.trans HE.out
          have := HM.out
          rcases HS.out with hS | hS
          · rw [num_is h1 hS.1, if_neg (by omega)]
            exact ⟨by show n = v; omega, rfl, rfl⟩
          · exact absurd (by rw [numFrom_end 0 hS] at h1; injection h1 with _ h1; exact h1.symm) hji
    · have HE := Lib.hid (numFrom_end v hd)
      have HD := Lib.hid hd
      clear hd
      have hlt' : ¬((s.size : Nat) : Int) ≤ ((j : Nat) : Int) := by omega
      go_wp2_with fail
      refine (refhex_at c hc256 _).mono ?_
      rintro u w1 ⟨rfl, rfl⟩
      rename World => w0
      rw [hx]
      by_cases hji : j = i
      · have HI := Lib.hid hji
        have hb : (((j : Nat) : Int) == ((i : Nat) : Int)) = true := by rw [beq_iff_eq]; omega
        clear hji
        go_wp2
        refine ret_nend (x := .int .i64 0) (b' := w.heap.size) rfl rfl rfl (((st0.set 0 rfl 0 _).set 0 rfl 1 _).get 0 rfl) rfl ⟨0, j, 4, rfl, ?_, ((st0.set 0 rfl 0 _).set 0 rfl 1 _).below⟩
        rw [num_at0 (by rw [← HI.out]; exact HD.out)]
        exact ⟨HI.out, rfl, by omega⟩
      · have hb : (((j : Nat) : Int) == ((i : Nat) : Int)) = false := by rw [beq_eq_false_iff_ne]; omega
        by_cases hbig : 1000 < n
        · go_wp2
          refine ret_nend (x := .int .i64 0) (b' := w.heap.size) rfl rfl rfl (((st0.set 0 rfl 0 _).set 0 rfl 1 _).get 0 rfl) rfl ⟨0, i, 5, rfl, ?_, ((st0.set 0 rfl 0 _).set 0 rfl 1 _).below⟩
          have h1 := HF.out.trans HE.out
          have := HM.out
          rcases HS.out with hS | hS
          · rw [num_is h1 hS.1, if_pos (by omega)]
            exact ⟨rfl, rfl, by omega⟩
          · exact absurd (by rw [numFrom_end 0 hS] at h1; injection h1 with _ h1; exact h1.symm) hji
        · go_wp2
          refine ret_nend (x := .int .i64 ((n : Nat) : Int)) (b' := w.heap.size) rfl rfl rfl (((st0.set 0 rfl 0 _).set 0 rfl 1 _).get 0 rfl) rfl ⟨n, j, 0, rfl, ?_, ((st0.set 0 rfl 0 _).set 0 rfl 1 _).below⟩
          have h1 := HF.out.trans HE.out
          have := HM.out
          rcases HS.out with hS | hS
          · rw [num_is h1 hS.1, if_neg (by omega)]
            exact ⟨by show n = v; omega, rfl, rfl⟩
          · exact absurd (by rw [numFrom_end 0 hS] at h1; injection h1 with _ h1; exact h1.symm) hji
    · have HE := Lib.hid (numFrom_end v hd)
      have HD := Lib.hid hd
      clear hd
      have hlt' : ¬((s.size : Nat) : Int) ≤ ((j : Nat) : Int) := by omega
      go_wp2_with fail
      refine (refhex_at c hc256 _).mono ?_
      rintro u w1 ⟨rfl, rfl⟩
      rename World => w0
      rw [hx]
      by_cases hji : j = i
      · have HI := Lib.hid hji
        have hb : (((j : Nat) : Int) == ((i : Nat) : Int)) = true := by rw [beq_iff_eq]; omega
        clear hji
        go_wp2
        refine ret_nend (x := .int .i64 0) (b' := w.heap.size) rfl rfl rfl (((st0.set 0 rfl 0 _).set 0 rfl 1 _).get 0 rfl) rfl ⟨0, j, 4, rfl, ?_, ((st0.set 0 rfl 0 _).set 0 rfl 1 _).below⟩
        rw [num_at0 (by rw [← HI.out]; exact HD.out)]
        exact ⟨HI.out, rfl, by omega⟩
      · have hb : (((j : Nat) : Int) == ((i : Nat) : Int)) = false := by rw [beq_eq_false_iff_ne]; omega
        by_cases hbig : 1000 < n
        · go_wp2
          refine ret_nend (x := .int .i64 0) (b' := w.heap.size) rfl rfl rfl (((st0.set 0 rfl 0 _).set 0 rfl 1 _).get 0 rfl) rfl ⟨0, i, 5, rfl, ?_, ((st0.set 0 rfl 0 _).set 0 rfl 1 _).below⟩
          have h1 := HF.out.trans HE.out
          have := HM.out
          rcases HS.out with hS | hS
          · rw [num_is h1 hS.1, if_pos (by omega)]
            exact ⟨rfl, rfl, by omega⟩
          · exact absurd (by rw [numFrom_end 0 hS] at h1; injection h1 with _ h1; exact h1.symm) hji
        · go_wp2
          refine ret_nend (x := .int .i64 ((n : Nat) : Int)) (b' := w.heap.size) rfl rfl rfl (((st0.set 0 rfl 0 _).set 0 rfl 1 _).get 0 rfl) rfl ⟨n, j, 0, rfl, ?_, ((st0.set 0 rfl 0 _).set 0 rfl 1 _).below⟩
          have h1 := HF.out.trans HE.out
          have := HM.out
          rcases HS.out with hS | hS
          · rw [num_is h1 hS.1, if_neg (by omega)]
            exact ⟨by show n = v; omega, rfl, rfl⟩
          · exact absurd (by rw [numFrom_end 0 hS] at h1; injection h1 with _ h1; exact h1.symm) hji
    · have HE := Lib.hid (numFrom_next v hd)
      clear hd
      have hlt' : ¬((s.size : Nat) : Int) ≤ ((j : Nat) : Int) := by omega
      go_wp2_with fail
      refine (refhex_at (48 + d) (Nat.lt_of_le_of_lt (Nat.add_le_add_left hd9 48) (by decide)) _).mono ?_
      rintro u w1 ⟨rfl, rfl⟩
      rename World => w0
      rw [hx]
      go_wp2_with fail
      refine (refhex_at (48 + d) (Nat.lt_of_le_of_lt (Nat.add_le_add_left hd9 48) (by decide)) _).mono ?_
      rintro u w1 ⟨rfl, rfl⟩
      rename World => w0
      rw [hx]
      go_wp2
      go_roundw
      case rel => exact ⟨10 * v + d, j + 1, by have := HM.out; congr 1; omega, by go_num, hlt, by omega, trivial, Lib.hid (HF.out.trans HE.out)⟩
      case measure => simp [intOf]; omega
end Go.Proofs.YtckoebfmoggeoaaDoor
/- The reference of layer 5: braces. -/
namespace Go.Proofs.YtckoebfmoggeoaaDoor
set_option maxRecDepth 100000
open Go.RowKit
set_option maxRecDepth 100000 in
set_option maxHeartbeats 8000000 in
theorem refbraces_at (s : ByteArray) (i : Nat) (hi : i ≤ s.size) (hs : s.size ≤ 1048576) (w : World) :
    Calls Tryd.prog 60 #[.string s, .int .i64 ((i : Nat) : Int)] w fun v w' => ∃ (lo : Nat) (hi : Int) (j e : Nat), v = .returned (.tuple #[.int .i64 ((lo : Nat) : Int), .int .i64 hi, endV j e]) ∧ BracesIs (bracesM (bytesN s) i) lo hi j e ∧ Below w.heap.size w w' := by
  go_enter Tryd.func60, Tryd.ntmps60
  go_wp2_with fail
  refine ((St.nil w).alloc rfl [.int .i64 0, .int .i64 0] 88).at ?_
  intro wa st
  refine (refnumber_at s i hi hs _).mono ?_
  rintro u w1 ⟨n1, j1, e1, rfl, hn1, hb⟩
  replace st := st.below' hb
  clear hb
  have stL := st.alloc (n := w1.heap.size) rfl (endL j1 e1) 88
  have g0 : w.heap.size < w1.heap.size := (st.get 0 rfl).lt
  clear st
  cases h1 : numberM (bytesN s) i with
  | err j' e' =>
    rw [h1] at hn1
    obtain ⟨rfl, rfl, hne⟩ := hn1
    have H1 := Lib.hid h1
    have he1 : (((e1 : Nat) : Int) != 0) = true := by rw [bne_iff_ne]; omega
    have he2 : (((e1 : Nat) : Int) == 0) = false := by rw [beq_eq_false_iff_ne]; omega
    have HE := Lib.hid hne
    clear hne h1
    go_upto_region 2 with fail
    generalize w1.alloc _ = w2 at *
    have st := stL
    obtain ⟨⟨a0, b0⟩, c0, d0⟩ := st.two 0 rfl
    obtain ⟨⟨a1, b1⟩, c1, d1⟩ := st.two 1 rfl
    go_wp2_with fail
    go_region
    all_goals
      have stz := ((st.set 1 rfl 0 (.int .i64 (((j1 : Nat) : Int)))).set 1 rfl 1 (.int .i64 (((e1 : Nat) : Int)))).drew
      generalize World.drew _ = wz at *
      clear a0 b0 c0 d0 a1 b1 c1 d1
      go_wp2
      refine ret_nnend (x := .int .i64 (0)) (y := .int .i64 (0)) (b' := w.heap.size) (j := j1) (e := e1) rfl rfl rfl rfl (stz.get 1 rfl) rfl ⟨0, 0, j1, e1, rfl, ?_, stz.below⟩
      rw [show bracesM (bytesN s) i = .err j1 e1 from by unfold bracesM; rw [H1.out]]
      exact ⟨rfl, rfl, HE.out⟩
  | ok n' j' =>
    rw [h1] at hn1
    obtain ⟨rfl, rfl, rfl⟩ := hn1
    have H1 := Lib.hid h1
    have hl1 := numberM_le h1
    rw [bytesN_length] at hl1
    clear h1
    go_upto_region 2 with fail
    generalize w1.alloc _ = w2 at *
    have st := stL
    clear stL
    obtain ⟨⟨a0, b0⟩, c0, d0⟩ := st.two 0 rfl
    rcases (show s.size ≤ j1 ∨ (∃ h : j1 < s.size, (s[j1]'h).toNat ≠ 44) ∨ ∃ h : j1 < s.size, (s[j1]'h).toNat = 44 from by
      rcases Nat.lt_or_ge (j1) s.size with h | h
      · by_cases h2 : (s[j1]'h).toNat = 44
        · exact .inr (.inr ⟨h, h2⟩)
        · exact .inr (.inl ⟨h, h2⟩)
      · exact .inl h) with hko | ⟨hki, hkn⟩ | ⟨hki, hke⟩
    · have hkD := Lib.hid (show (bytesN s)[j1]? ≠ some 44 from get_out hko)
      have hkt : ((s.size : Nat) : Int) ≤ ((j1 : Nat) : Int) := by omega
      clear a0 b0 c0 d0
      obtain ⟨⟨a0, b0⟩, c0, d0⟩ := st.two 0 rfl
      obtain ⟨⟨a1, b1⟩, c1, d1⟩ := st.two 1 rfl
      go_wp2_with fail
      go_region
      all_goals
        have stz := ((st.set 1 rfl 0 (.int .i64 (((j1 : Nat) : Int)))).set 1 rfl 1 (.int .i64 (4))).drew
        generalize World.drew _ = wz at *
        clear a0 b0 c0 d0 a1 b1 c1 d1
        go_wp2
        refine ret_nnend (x := .int .i64 (0)) (y := .int .i64 (0)) (b' := w.heap.size) (j := j1) (e := 4) rfl rfl rfl rfl (stz.get 1 rfl) rfl ⟨0, 0, j1, 4, rfl, ?_, stz.below⟩
        rw [show bracesM (bytesN s) i = .err j1 4 from by unfold bracesM; rw [H1.out]; simp only []; rw [if_neg hkD.out, if_neg (get_out hko)]]
        exact ⟨rfl, rfl, by omega⟩
    · have hkD := Lib.hid (show (bytesN s)[j1]? ≠ some 44 from get_ne hki hkn)
      have hkt : ¬((s.size : Nat) : Int) ≤ ((j1 : Nat) : Int) := by omega
      have hkq : ((((s[j1]'hki).toNat : Nat) : Int) == 44) = false := by rw [beq_eq_false_iff_ne]; omega
      have hkp : ((((s[j1]'hki).toNat : Nat) : Int) != 44) = true := by rw [bne_iff_ne]; omega
      clear hkn
      clear a0 b0 c0 d0
      rcases (show s.size ≤ j1 ∨ (∃ h : j1 < s.size, (s[j1]'h).toNat ≠ 125) ∨ ∃ h : j1 < s.size, (s[j1]'h).toNat = 125 from by
        rcases Nat.lt_or_ge (j1) s.size with h | h
        · by_cases h2 : (s[j1]'h).toNat = 125
          · exact .inr (.inr ⟨h, h2⟩)
          · exact .inr (.inl ⟨h, h2⟩)
        · exact .inl h) with hmo | ⟨hmi, hmn⟩ | ⟨hmi, hme⟩
      · have hmD := Lib.hid (show (bytesN s)[j1]? ≠ some 125 from get_out hmo)
        have hmt : ((s.size : Nat) : Int) ≤ ((j1 : Nat) : Int) := by omega
        omega
      · have hmD := Lib.hid (show (bytesN s)[j1]? ≠ some 125 from get_ne hmi hmn)
        have hmt : ¬((s.size : Nat) : Int) ≤ ((j1 : Nat) : Int) := by omega
        have hmq : ((((s[j1]'hmi).toNat : Nat) : Int) == 125) = false := by rw [beq_eq_false_iff_ne]; omega
        have hmp : ((((s[j1]'hmi).toNat : Nat) : Int) != 125) = true := by rw [bne_iff_ne]; omega
        clear hmn
        obtain ⟨⟨a0, b0⟩, c0, d0⟩ := st.two 0 rfl
        obtain ⟨⟨a1, b1⟩, c1, d1⟩ := st.two 1 rfl
        go_wp2_with fail
        go_region
        all_goals
          have stz := ((st.set 1 rfl 0 (.int .i64 (((j1 : Nat) : Int)))).set 1 rfl 1 (.int .i64 (4))).drew
          generalize World.drew _ = wz at *
          clear a0 b0 c0 d0 a1 b1 c1 d1
          go_wp2
          refine ret_nnend (x := .int .i64 (0)) (y := .int .i64 (0)) (b' := w.heap.size) (j := j1) (e := 4) rfl rfl rfl rfl (stz.get 1 rfl) rfl ⟨0, 0, j1, 4, rfl, ?_, stz.below⟩
          rw [show bracesM (bytesN s) i = .err (j1) 4 from by unfold bracesM; rw [H1.out]; simp only []; rw [if_neg hkD.out]; rw [if_neg hmD.out]]
          exact ⟨rfl, rfl, by omega⟩
      · have hmD := Lib.hid (show (bytesN s)[j1]? = some 125 by rw [get_at s hmi, hme])
        have hmE := Lib.hid hme
        have hmt : ¬((s.size : Nat) : Int) ≤ ((j1 : Nat) : Int) := by omega
        have hmq : ((((s[j1]'hmi).toNat : Nat) : Int) == 125) = true := by rw [beq_iff_eq]; omega
        have hmp : ((((s[j1]'hmi).toNat : Nat) : Int) != 125) = false := by rw [bne_eq_false_iff_eq]; omega
        clear hme
        obtain ⟨⟨a0, b0⟩, c0, d0⟩ := st.two 0 rfl
        obtain ⟨⟨a1, b1⟩, c1, d1⟩ := st.two 1 rfl
        go_wp2_with fail
        go_region
        all_goals
          have stz := ((st.set 1 rfl 0 (.int .i64 (((j1 : Nat) : Int) + 1))).set 1 rfl 1 (.int .i64 (0))).drew
          generalize World.drew _ = wz at *
          clear a0 b0 c0 d0 a1 b1 c1 d1
          go_wp2
          refine ret_nnend (x := .int .i64 (((n1 : Nat) : Int))) (y := .int .i64 (((n1 : Nat) : Int))) (b' := w.heap.size) (j := (j1 + 1)) (e := 0) rfl rfl rfl rfl (stz.get 1 rfl) rfl ⟨n1, ((n1 : Nat) : Int), (j1 + 1), 0, rfl, ?_, stz.below⟩
          rw [show bracesM (bytesN s) i = .ok (n1, some n1) (j1 + 1) from by unfold bracesM; rw [H1.out]; simp only []; rw [if_neg hkD.out]; rw [if_pos hmD.out]]
          exact ⟨rfl, rfl, rfl, rfl⟩
    · have hkD := Lib.hid (show (bytesN s)[j1]? = some 44 by rw [get_at s hki, hke])
      have hkE := Lib.hid hke
      have hkt : ¬((s.size : Nat) : Int) ≤ ((j1 : Nat) : Int) := by omega
      have hkq : ((((s[j1]'hki).toNat : Nat) : Int) == 44) = true := by rw [beq_iff_eq]; omega
      have hkp : ((((s[j1]'hki).toNat : Nat) : Int) != 44) = false := by rw [bne_eq_false_iff_eq]; omega
      clear hke
      have HJ1 := Lib.hid (show j1 + 1 ≤ s.size from hki)
      go_upto_region 8 with fail
      have st := st.set 0 rfl 0 (.int .i64 (((j1 : Nat) : Int) + 1))
      generalize World.setCell _ _ _ = wy at *
      obtain ⟨⟨a0, b0⟩, c0, d0⟩ := st.two 0 rfl
      rcases (show s.size ≤ j1 + 1 ∨ (∃ h : j1 + 1 < s.size, (s[j1 + 1]'h).toNat ≠ 125) ∨ ∃ h : j1 + 1 < s.size, (s[j1 + 1]'h).toNat = 125 from by
        rcases Nat.lt_or_ge (j1 + 1) s.size with h | h
        · by_cases h2 : (s[j1 + 1]'h).toNat = 125
          · exact .inr (.inr ⟨h, h2⟩)
          · exact .inr (.inl ⟨h, h2⟩)
        · exact .inl h) with hmo | ⟨hmi, hmn⟩ | ⟨hmi, hme⟩
      · have hmD := Lib.hid (show (bytesN s)[j1 + 1]? ≠ some 125 from get_out hmo)
        have hmt : ((s.size : Nat) : Int) ≤ ((j1 : Nat) : Int) + 1 := by omega
        go_wp2_with fail
        refine (refnumber_at s (j1 + 1) HJ1.out hs _).mono ?_
        rintro u w5 ⟨n2, j2, e2, rfl, hn2, hb⟩
        replace st := st.below' hb
        clear hb a0 b0 c0 d0
        have stL := st.alloc (n := w5.heap.size) rfl (endL j2 e2) 88
        have g1 : w.heap.size < w5.heap.size := (st.get 1 rfl).lt
        have g2 : w1.heap.size < w5.heap.size := (st.get 0 rfl).lt
        clear st
        cases h2 : numberM (bytesN s) (j1 + 1) with
        | err j' e' =>
          rw [h2] at hn2
          obtain ⟨rfl, rfl, hne⟩ := hn2
          have H2 := Lib.hid h2
          have he1 : (((e2 : Nat) : Int) != 0) = true := by rw [bne_iff_ne]; omega
          have he2 : (((e2 : Nat) : Int) == 0) = false := by rw [beq_eq_false_iff_ne]; omega
          have HE := Lib.hid hne
          clear hne h2
          go_upto_region 10 with fail
          generalize w5.alloc _ = w6 at *
          have st := stL
          obtain ⟨⟨a0, b0⟩, c0, d0⟩ := st.two 0 rfl
          obtain ⟨⟨a2, b2⟩, c2, d2⟩ := st.two 2 rfl
          go_wp2_with fail
          go_region
          all_goals
            have stz := ((st.set 2 rfl 0 (.int .i64 (((j2 : Nat) : Int)))).set 2 rfl 1 (.int .i64 (((e2 : Nat) : Int)))).drew
            generalize World.drew _ = wz at *
            clear a0 b0 c0 d0 a2 b2 c2 d2
            go_wp2
            refine ret_nnend (x := .int .i64 (0)) (y := .int .i64 (0)) (b' := w.heap.size) (j := j2) (e := e2) rfl rfl rfl rfl (stz.get 2 rfl) rfl ⟨0, 0, j2, e2, rfl, ?_, stz.below⟩
            rw [show bracesM (bytesN s) i = .err j2 e2 from by unfold bracesM; rw [H1.out]; simp only []; rw [if_pos hkD.out, if_neg hmD.out, H2.out]]
            exact ⟨rfl, rfl, HE.out⟩
        | ok n' j' =>
          have hl2 := numberM_le h2
          rw [bytesN_length] at hl2
          omega
      · have hmD := Lib.hid (show (bytesN s)[j1 + 1]? ≠ some 125 from get_ne hmi hmn)
        have hmt : ¬((s.size : Nat) : Int) ≤ ((j1 : Nat) : Int) + 1 := by omega
        have hmq : ((((s[j1 + 1]'hmi).toNat : Nat) : Int) == 125) = false := by rw [beq_eq_false_iff_ne]; omega
        have hmp : ((((s[j1 + 1]'hmi).toNat : Nat) : Int) != 125) = true := by rw [bne_iff_ne]; omega
        clear hmn
        go_wp2_with fail
        refine (refnumber_at s (j1 + 1) HJ1.out hs _).mono ?_
        rintro u w5 ⟨n2, j2, e2, rfl, hn2, hb⟩
        replace st := st.below' hb
        clear hb a0 b0 c0 d0
        have stL := st.alloc (n := w5.heap.size) rfl (endL j2 e2) 88
        have g1 : w.heap.size < w5.heap.size := (st.get 1 rfl).lt
        have g2 : w1.heap.size < w5.heap.size := (st.get 0 rfl).lt
        clear st
        cases h2 : numberM (bytesN s) (j1 + 1) with
        | err j' e' =>
          rw [h2] at hn2
          obtain ⟨rfl, rfl, hne⟩ := hn2
          have H2 := Lib.hid h2
          have he1 : (((e2 : Nat) : Int) != 0) = true := by rw [bne_iff_ne]; omega
          have he2 : (((e2 : Nat) : Int) == 0) = false := by rw [beq_eq_false_iff_ne]; omega
          have HE := Lib.hid hne
          clear hne h2
          go_upto_region 10 with fail
          generalize w5.alloc _ = w6 at *
          have st := stL
          obtain ⟨⟨a0, b0⟩, c0, d0⟩ := st.two 0 rfl
          obtain ⟨⟨a2, b2⟩, c2, d2⟩ := st.two 2 rfl
          go_wp2_with fail
          go_region
          all_goals
            have stz := ((st.set 2 rfl 0 (.int .i64 (((j2 : Nat) : Int)))).set 2 rfl 1 (.int .i64 (((e2 : Nat) : Int)))).drew
            generalize World.drew _ = wz at *
            clear a0 b0 c0 d0 a2 b2 c2 d2
            go_wp2
            refine ret_nnend (x := .int .i64 (0)) (y := .int .i64 (0)) (b' := w.heap.size) (j := j2) (e := e2) rfl rfl rfl rfl (stz.get 2 rfl) rfl ⟨0, 0, j2, e2, rfl, ?_, stz.below⟩
            rw [show bracesM (bytesN s) i = .err j2 e2 from by unfold bracesM; rw [H1.out]; simp only []; rw [if_pos hkD.out, if_neg hmD.out, H2.out]]
            exact ⟨rfl, rfl, HE.out⟩
        | ok n' j' =>
          rw [h2] at hn2
          obtain ⟨rfl, rfl, rfl⟩ := hn2
          have H2 := Lib.hid h2
          have hl2 := numberM_le h2
          rw [bytesN_length] at hl2
          clear h2
          go_upto_region 10 with fail
          generalize w5.alloc _ = w6 at *
          have st := stL
          clear stL
          by_cases hlt : n2 < n1
          · have HL := Lib.hid hlt
            obtain ⟨⟨z0, z1⟩, z2, z3⟩ := st.two 0 rfl
            obtain ⟨⟨a1, b1⟩, c1, d1⟩ := st.two 1 rfl
            obtain ⟨⟨a2, b2⟩, c2, d2⟩ := st.two 2 rfl
            go_wp2_with fail
            go_region
            all_goals
              have stz := ((st.set 2 rfl 0 (.int .i64 (((j1 : Nat) : Int) + 1))).set 2 rfl 1 (.int .i64 (5))).drew
              generalize World.drew _ = wz at *
              clear a1 b1 c1 d1 a2 b2 c2 d2
              go_wp2
              refine ret_nnend (x := .int .i64 (0)) (y := .int .i64 (0)) (b' := w.heap.size) (j := (j1 + 1)) (e := 5) rfl rfl rfl rfl (stz.get 2 rfl) rfl ⟨0, 0, (j1 + 1), 5, rfl, ?_, stz.below⟩
              rw [show bracesM (bytesN s) i = .err (j1 + 1) 5 from by unfold bracesM; rw [H1.out]; simp only []; rw [if_pos hkD.out, if_neg hmD.out, H2.out]; simp only []; rw [if_pos HL.out]]
              exact ⟨rfl, rfl, by omega⟩
          · have HL := Lib.hid hlt
            have hlt' : ¬((n2 : Nat) : Int) < ((n1 : Nat) : Int) := by omega
            clear hlt
            obtain ⟨⟨z0, z1⟩, z2, z3⟩ := st.two 0 rfl
            obtain ⟨⟨y0, y1⟩, y2, y3⟩ := st.two 1 rfl
            go_upto_region 16 with fail
            have st := (st.set 1 rfl 0 (.int .i64 ((j2 : Nat) : Int))).set 1 rfl 1 (.int .i64 0)
            generalize World.setCell _ _ _ = wv at *
            clear z0 z1 z2 z3 y0 y1 y2 y3
            rcases (show s.size ≤ j2 ∨ (∃ h : j2 < s.size, (s[j2]'h).toNat ≠ 125) ∨ ∃ h : j2 < s.size, (s[j2]'h).toNat = 125 from by
              rcases Nat.lt_or_ge (j2) s.size with h | h
              · by_cases h2 : (s[j2]'h).toNat = 125
                · exact .inr (.inr ⟨h, h2⟩)
                · exact .inr (.inl ⟨h, h2⟩)
              · exact .inl h) with hro | ⟨hri, hrn⟩ | ⟨hri, hre⟩
            · have hrD := Lib.hid (show (bytesN s)[j2]? ≠ some 125 from get_out hro)
              have hrt : ((s.size : Nat) : Int) ≤ ((j2 : Nat) : Int) := by omega
              obtain ⟨⟨a1, b1⟩, c1, d1⟩ := st.two 1 rfl
              obtain ⟨⟨a2, b2⟩, c2, d2⟩ := st.two 2 rfl
              go_wp2_with fail
              go_region
              all_goals
                have stz := ((st.set 2 rfl 0 (.int .i64 (((j2 : Nat) : Int)))).set 2 rfl 1 (.int .i64 (4))).drew
                generalize World.drew _ = wz at *
                clear a1 b1 c1 d1 a2 b2 c2 d2
                go_wp2
                refine ret_nnend (x := .int .i64 (0)) (y := .int .i64 (0)) (b' := w.heap.size) (j := j2) (e := 4) rfl rfl rfl rfl (stz.get 2 rfl) rfl ⟨0, 0, j2, 4, rfl, ?_, stz.below⟩
                rw [show bracesM (bytesN s) i = .err (j2) 4 from by unfold bracesM; rw [H1.out]; simp only []; rw [if_pos hkD.out, if_neg hmD.out, H2.out]; simp only []; rw [if_neg HL.out]; rw [if_neg hrD.out]]
                exact ⟨rfl, rfl, by omega⟩
            · have hrD := Lib.hid (show (bytesN s)[j2]? ≠ some 125 from get_ne hri hrn)
              have hrt : ¬((s.size : Nat) : Int) ≤ ((j2 : Nat) : Int) := by omega
              have hrq : ((((s[j2]'hri).toNat : Nat) : Int) == 125) = false := by rw [beq_eq_false_iff_ne]; omega
              have hrp : ((((s[j2]'hri).toNat : Nat) : Int) != 125) = true := by rw [bne_iff_ne]; omega
              clear hrn
              obtain ⟨⟨a1, b1⟩, c1, d1⟩ := st.two 1 rfl
              obtain ⟨⟨a2, b2⟩, c2, d2⟩ := st.two 2 rfl
              go_wp2_with fail
              go_region
              all_goals
                have stz := ((st.set 2 rfl 0 (.int .i64 (((j2 : Nat) : Int)))).set 2 rfl 1 (.int .i64 (4))).drew
                generalize World.drew _ = wz at *
                clear a1 b1 c1 d1 a2 b2 c2 d2
                go_wp2
                refine ret_nnend (x := .int .i64 (0)) (y := .int .i64 (0)) (b' := w.heap.size) (j := j2) (e := 4) rfl rfl rfl rfl (stz.get 2 rfl) rfl ⟨0, 0, j2, 4, rfl, ?_, stz.below⟩
                rw [show bracesM (bytesN s) i = .err (j2) 4 from by unfold bracesM; rw [H1.out]; simp only []; rw [if_pos hkD.out, if_neg hmD.out, H2.out]; simp only []; rw [if_neg HL.out]; rw [if_neg hrD.out]]
                exact ⟨rfl, rfl, by omega⟩
            · have hrD := Lib.hid (show (bytesN s)[j2]? = some 125 by rw [get_at s hri, hre])
              have hrE := Lib.hid hre
              have hrt : ¬((s.size : Nat) : Int) ≤ ((j2 : Nat) : Int) := by omega
              have hrq : ((((s[j2]'hri).toNat : Nat) : Int) == 125) = true := by rw [beq_iff_eq]; omega
              have hrp : ((((s[j2]'hri).toNat : Nat) : Int) != 125) = false := by rw [bne_eq_false_iff_eq]; omega
              clear hre
              obtain ⟨⟨a1, b1⟩, c1, d1⟩ := st.two 1 rfl
              obtain ⟨⟨a2, b2⟩, c2, d2⟩ := st.two 2 rfl
              go_wp2_with fail
              go_region
              all_goals
                have stz := ((st.set 2 rfl 0 (.int .i64 (((j2 : Nat) : Int) + 1))).set 2 rfl 1 (.int .i64 (0))).drew
                generalize World.drew _ = wz at *
                clear a1 b1 c1 d1 a2 b2 c2 d2
                go_wp2
                refine ret_nnend (x := .int .i64 (((n1 : Nat) : Int))) (y := .int .i64 (((n2 : Nat) : Int))) (b' := w.heap.size) (j := (j2 + 1)) (e := 0) rfl rfl rfl rfl (stz.get 2 rfl) rfl ⟨n1, ((n2 : Nat) : Int), (j2 + 1), 0, rfl, ?_, stz.below⟩
                rw [show bracesM (bytesN s) i = .ok (n1, some n2) (j2 + 1) from by unfold bracesM; rw [H1.out]; simp only []; rw [if_pos hkD.out, if_neg hmD.out, H2.out]; simp only []; rw [if_neg HL.out]; rw [if_pos hrD.out]]
                exact ⟨rfl, rfl, rfl, rfl⟩
      · have hmD := Lib.hid (show (bytesN s)[j1 + 1]? = some 125 by rw [get_at s hmi, hme])
        have hmE := Lib.hid hme
        have hmt : ¬((s.size : Nat) : Int) ≤ ((j1 : Nat) : Int) + 1 := by omega
        have hmq : ((((s[j1 + 1]'hmi).toNat : Nat) : Int) == 125) = true := by rw [beq_iff_eq]; omega
        have hmp : ((((s[j1 + 1]'hmi).toNat : Nat) : Int) != 125) = false := by rw [bne_eq_false_iff_eq]; omega
        clear hme
        clear a0 b0 c0 d0
        obtain ⟨⟨a0, b0⟩, c0, d0⟩ := st.two 0 rfl
        obtain ⟨⟨a1, b1⟩, c1, d1⟩ := st.two 1 rfl
        go_wp2_with fail
        go_region
        all_goals
          have stz := ((st.set 1 rfl 0 (.int .i64 (((j1 : Nat) : Int) + 1 + 1))).set 1 rfl 1 (.int .i64 (0))).drew
          generalize World.drew _ = wz at *
          clear a0 b0 c0 d0 a1 b1 c1 d1
          go_wp2
          refine ret_nnend (x := .int .i64 (((n1 : Nat) : Int))) (y := .int .i64 (-1)) (b' := w.heap.size) (j := (j1 + 1 + 1)) (e := 0) rfl rfl rfl rfl (stz.get 1 rfl) rfl ⟨n1, (-1), (j1 + 1 + 1), 0, rfl, ?_, stz.below⟩
          rw [show bracesM (bytesN s) i = .ok (n1, none) (j1 + 2) from by unfold bracesM; rw [H1.out]; simp only []; rw [if_pos hkD.out, if_pos hmD.out]]
          exact ⟨rfl, rfl, rfl, rfl⟩
end Go.Proofs.YtckoebfmoggeoaaDoor
