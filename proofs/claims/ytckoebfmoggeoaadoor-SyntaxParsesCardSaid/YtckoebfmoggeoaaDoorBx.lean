/- The reference of layer 5: Escape. -/
import Derived.Test.YtckoebfmoggeoaaDoorBw
import Derived.BigRegion
import Derived.IntWalk
namespace Go.Proofs.YtckoebfmoggeoaaDoor
set_option maxRecDepth 100000
open Go.RowKit
set_option maxRecDepth 100000 in
set_option maxHeartbeats 4000000 in
theorem refesc_special (s : ByteArray) (i : Nat) (hi : i + 1 < s.size) (hs : s.size ≤ 1048576) (c : Nat) (hc : (bytesN s)[i + 1]? = some c) (hsp : specialL.contains c = true) (w : World) :
    Calls Tryd.prog 56 #[.string s, .int .i64 ((i : Nat) : Int)] w fun v w' => v = .returned (refV (escM (bytesN s) i)) ∧ Below w.heap.size w w' := by
  have HX := Lib.hid (resc_special hc hsp)
  have HSP := Lib.hid hsp
  clear hsp
  have hc256 := bytesN_lt hc
  have hby : (s[i + 1]'hi).toNat = c := by obtain ⟨_, e⟩ := bytesN_some hc; exact e
  have HC := Lib.hid hc
  clear hc
  go_enter Tryd.func56, Tryd.ntmps56
  go_wp2_with fail
  have hok := esc_ok w i c
  generalize World.alloc _ _ = wa at *
  refine (refin_at _ c wa (by decide)).mono ?_
  rintro v w0 ⟨rfl, rfl⟩
  rename World => w0
  rw [show (bytesN { data := #[92, 124, 40, 41, 91, 93, 123, 125, 42, 43, 63, 46, 94, 36, 47, 45] }) = specialL from rfl]
  rw [HSP.out]
  obtain ⟨d0, d1, _, _⟩ := two_cells hok.fin.drew
  go_wp2_with fail
  go_region_with (first
    | (go_at_call 58; refine (some_at [(c, c)] false hok.one.drew (by simp)).mono ?_; rintro v w2 ⟨rfl, hb2⟩; have hf2 := hok.fin.drew.below hb2 hok.fin.drew.lt; have hr2 := hok.r.drew.below hb2 hok.r.drew.lt; have he2 := hok.e.drew.below hb2 hok.e.drew.lt; have hbb := hok.below.drew.trans (hb2.mono hok.below.size); obtain ⟨x0, x1, x2, x3, y0, y1, y2, y3⟩ := hr2.four; obtain ⟨z0, z1, z2, z3⟩ := two_cells hf2; obtain ⟨v0, v1, v2, v3⟩ := two_cells he2; unfold setV))
  all_goals
    have hz := two_done hr2 he2 hbb (someM [(c, c)] false) (i + 2) 0 (.int .i64 (((i : Nat) : Int) + 2)) rfl
    simp only [putCells, setL] at hz
    obtain ⟨hrz, hez, hbz⟩ := hz
    generalize World.setCell _ _ _ = wz at *
    clear hr2 he2 hbb hf2 hok x0 x1 x2 x3 y0 y1 y2 y3 z0 z1 z2 z3 v0 v1 v2 v3 hb2
    go_wp2
    refine ret_two (b := w.heap.size) (b' := w.heap.size + 1) rfl rfl rfl hrz hez rfl ⟨?_, hbz⟩
    exact congrArg Ending.returned (HX.out).symm
set_option maxRecDepth 100000 in
set_option maxHeartbeats 4000000 in
theorem refesc_110 (s : ByteArray) (i : Nat) (hi : i + 1 < s.size) (hs : s.size ≤ 1048576) (c : Nat) (hc : (bytesN s)[i + 1]? = some c) (hsp : specialL.contains c = false)  (hx : c = 110) (w : World) :
    Calls Tryd.prog 56 #[.string s, .int .i64 ((i : Nat) : Int)] w fun v w' => v = .returned (refV (escM (bytesN s) i)) ∧ Below w.heap.size w w' := by
  have HX := Lib.hid (resc_named_110 hc hsp hx)
  have HH := Lib.hid hx
  have HSP := Lib.hid hsp
  clear hx hsp
  have hc256 := bytesN_lt hc
  have hby : (s[i + 1]'hi).toNat = c := by obtain ⟨_, e⟩ := bytesN_some hc; exact e
  have HC := Lib.hid hc
  clear hc
  go_enter Tryd.func56, Tryd.ntmps56
  go_wp2_with fail
  have hok := esc_ok w i c
  generalize World.alloc _ _ = wa at *
  refine (refin_at _ c wa (by decide)).mono ?_
  rintro v w0 ⟨rfl, rfl⟩
  rename World => w0
  rw [show (bytesN { data := #[92, 124, 40, 41, 91, 93, 123, 125, 42, 43, 63, 46, 94, 36, 47, 45] }) = specialL from rfl]
  rw [HSP.out]
  have hx' : ((c : Nat) : Int) = 110 := by have := HH.out; omega
  have hN : Blk (w0.drew.alloc (.cells #[.int .i64 10, .int .i64 10] 42)) w0.drew.heap.size 42 (prsL [(10, 10)]) := Blk.new w0.drew (prsL [(10, 10)]) 42
  have hl6 := hok.fin.lt
  obtain ⟨b0, b1, _, _⟩ := two_cells hok.fin
  obtain ⟨d0, d1, _, _⟩ := two_cells hok.fin.drew
  go_wp2_with fail
  go_region_with (first
    | (go_at_call 58; refine (some_at [(10, 10)] false hN (by simp)).mono ?_; rintro v w2 ⟨rfl, hb2⟩; have hf2 := (hok.fin.drew.alloc (.cells #[.int .i64 10, .int .i64 10] 42)).below hb2 (hok.fin.drew.alloc (.cells #[.int .i64 10, .int .i64 10] 42)).lt; have hr2 := (hok.r.drew.alloc (.cells #[.int .i64 10, .int .i64 10] 42)).below hb2 (hok.r.drew.alloc (.cells #[.int .i64 10, .int .i64 10] 42)).lt; have he2 := (hok.e.drew.alloc (.cells #[.int .i64 10, .int .i64 10] 42)).below hb2 (hok.e.drew.alloc (.cells #[.int .i64 10, .int .i64 10] 42)).lt; have hbb := (hok.below.drew.alloc hok.below.size (.cells #[.int .i64 10, .int .i64 10] 42)).trans (hb2.mono (hok.below.drew.alloc hok.below.size (.cells #[.int .i64 10, .int .i64 10] 42)).size); obtain ⟨x0, x1, x2, x3, y0, y1, y2, y3⟩ := hr2.four; obtain ⟨z0, z1, z2, z3⟩ := two_cells hf2; obtain ⟨v0, v1, v2, v3⟩ := two_cells he2; unfold setV))
  all_goals
    have hz := two_done hr2 he2 hbb (someM [(10, 10)] false) (i + 2) 0 (.int .i64 (((i : Nat) : Int) + 2)) rfl
    simp only [putCells, setL] at hz
    obtain ⟨hrz, hez, hbz⟩ := hz
    generalize World.setCell _ _ _ = wz at *
    clear hr2 he2 hbb hf2 hok x0 x1 x2 x3 y0 y1 y2 y3 z0 z1 z2 z3 v0 v1 v2 v3 hb2
    go_wp2
    refine ret_two (b := w.heap.size) (b' := w.heap.size + 1) rfl rfl rfl hrz hez rfl ⟨?_, hbz⟩
    exact congrArg Ending.returned (HX.out).symm
set_option maxRecDepth 100000 in
set_option maxHeartbeats 4000000 in
theorem refesc_116 (s : ByteArray) (i : Nat) (hi : i + 1 < s.size) (hs : s.size ≤ 1048576) (c : Nat) (hc : (bytesN s)[i + 1]? = some c) (hsp : specialL.contains c = false) (_n110 : c ≠ 110) (hx : c = 116) (w : World) :
    Calls Tryd.prog 56 #[.string s, .int .i64 ((i : Nat) : Int)] w fun v w' => v = .returned (refV (escM (bytesN s) i)) ∧ Below w.heap.size w w' := by
  have HX := Lib.hid (resc_named_116 hc hsp hx)
  have q110 : (((c : Nat) : Int) == 110) = false := by rw [beq_eq_false_iff_ne]; omega
  have HH := Lib.hid hx
  have HSP := Lib.hid hsp
  clear hx hsp
  have hc256 := bytesN_lt hc
  have hby : (s[i + 1]'hi).toNat = c := by obtain ⟨_, e⟩ := bytesN_some hc; exact e
  have HC := Lib.hid hc
  clear hc
  go_enter Tryd.func56, Tryd.ntmps56
  go_wp2_with fail
  have hok := esc_ok w i c
  generalize World.alloc _ _ = wa at *
  refine (refin_at _ c wa (by decide)).mono ?_
  rintro v w0 ⟨rfl, rfl⟩
  rename World => w0
  rw [show (bytesN { data := #[92, 124, 40, 41, 91, 93, 123, 125, 42, 43, 63, 46, 94, 36, 47, 45] }) = specialL from rfl]
  rw [HSP.out]
  have hx' : ((c : Nat) : Int) = 116 := by have := HH.out; omega
  have hN : Blk (w0.drew.alloc (.cells #[.int .i64 9, .int .i64 9] 42)) w0.drew.heap.size 42 (prsL [(9, 9)]) := Blk.new w0.drew (prsL [(9, 9)]) 42
  have hl6 := hok.fin.lt
  obtain ⟨b0, b1, _, _⟩ := two_cells hok.fin
  obtain ⟨d0, d1, _, _⟩ := two_cells hok.fin.drew
  go_wp2_with fail
  go_region_with (first
    | (go_at_call 58; refine (some_at [(9, 9)] false hN (by simp)).mono ?_; rintro v w2 ⟨rfl, hb2⟩; have hf2 := (hok.fin.drew.alloc (.cells #[.int .i64 9, .int .i64 9] 42)).below hb2 (hok.fin.drew.alloc (.cells #[.int .i64 9, .int .i64 9] 42)).lt; have hr2 := (hok.r.drew.alloc (.cells #[.int .i64 9, .int .i64 9] 42)).below hb2 (hok.r.drew.alloc (.cells #[.int .i64 9, .int .i64 9] 42)).lt; have he2 := (hok.e.drew.alloc (.cells #[.int .i64 9, .int .i64 9] 42)).below hb2 (hok.e.drew.alloc (.cells #[.int .i64 9, .int .i64 9] 42)).lt; have hbb := (hok.below.drew.alloc hok.below.size (.cells #[.int .i64 9, .int .i64 9] 42)).trans (hb2.mono (hok.below.drew.alloc hok.below.size (.cells #[.int .i64 9, .int .i64 9] 42)).size); obtain ⟨x0, x1, x2, x3, y0, y1, y2, y3⟩ := hr2.four; obtain ⟨z0, z1, z2, z3⟩ := two_cells hf2; obtain ⟨v0, v1, v2, v3⟩ := two_cells he2; unfold setV))
  all_goals
    have hz := two_done hr2 he2 hbb (someM [(9, 9)] false) (i + 2) 0 (.int .i64 (((i : Nat) : Int) + 2)) rfl
    simp only [putCells, setL] at hz
    obtain ⟨hrz, hez, hbz⟩ := hz
    generalize World.setCell _ _ _ = wz at *
    clear hr2 he2 hbb hf2 hok x0 x1 x2 x3 y0 y1 y2 y3 z0 z1 z2 z3 v0 v1 v2 v3 hb2
    go_wp2
    refine ret_two (b := w.heap.size) (b' := w.heap.size + 1) rfl rfl rfl hrz hez rfl ⟨?_, hbz⟩
    exact congrArg Ending.returned (HX.out).symm
set_option maxRecDepth 100000 in
set_option maxHeartbeats 4000000 in
theorem refesc_114 (s : ByteArray) (i : Nat) (hi : i + 1 < s.size) (hs : s.size ≤ 1048576) (c : Nat) (hc : (bytesN s)[i + 1]? = some c) (hsp : specialL.contains c = false) (_n110 : c ≠ 110) (_n116 : c ≠ 116) (hx : c = 114) (w : World) :
    Calls Tryd.prog 56 #[.string s, .int .i64 ((i : Nat) : Int)] w fun v w' => v = .returned (refV (escM (bytesN s) i)) ∧ Below w.heap.size w w' := by
  have HX := Lib.hid (resc_named_114 hc hsp hx)
  have q110 : (((c : Nat) : Int) == 110) = false := by rw [beq_eq_false_iff_ne]; omega
  have q116 : (((c : Nat) : Int) == 116) = false := by rw [beq_eq_false_iff_ne]; omega
  have HH := Lib.hid hx
  have HSP := Lib.hid hsp
  clear hx hsp
  have hc256 := bytesN_lt hc
  have hby : (s[i + 1]'hi).toNat = c := by obtain ⟨_, e⟩ := bytesN_some hc; exact e
  have HC := Lib.hid hc
  clear hc
  go_enter Tryd.func56, Tryd.ntmps56
  go_wp2_with fail
  have hok := esc_ok w i c
  generalize World.alloc _ _ = wa at *
  refine (refin_at _ c wa (by decide)).mono ?_
  rintro v w0 ⟨rfl, rfl⟩
  rename World => w0
  rw [show (bytesN { data := #[92, 124, 40, 41, 91, 93, 123, 125, 42, 43, 63, 46, 94, 36, 47, 45] }) = specialL from rfl]
  rw [HSP.out]
  have hx' : ((c : Nat) : Int) = 114 := by have := HH.out; omega
  have hN : Blk (w0.drew.alloc (.cells #[.int .i64 13, .int .i64 13] 42)) w0.drew.heap.size 42 (prsL [(13, 13)]) := Blk.new w0.drew (prsL [(13, 13)]) 42
  have hl6 := hok.fin.lt
  obtain ⟨b0, b1, _, _⟩ := two_cells hok.fin
  obtain ⟨d0, d1, _, _⟩ := two_cells hok.fin.drew
  go_wp2_with fail
  go_region_with (first
    | (go_at_call 58; refine (some_at [(13, 13)] false hN (by simp)).mono ?_; rintro v w2 ⟨rfl, hb2⟩; have hf2 := (hok.fin.drew.alloc (.cells #[.int .i64 13, .int .i64 13] 42)).below hb2 (hok.fin.drew.alloc (.cells #[.int .i64 13, .int .i64 13] 42)).lt; have hr2 := (hok.r.drew.alloc (.cells #[.int .i64 13, .int .i64 13] 42)).below hb2 (hok.r.drew.alloc (.cells #[.int .i64 13, .int .i64 13] 42)).lt; have he2 := (hok.e.drew.alloc (.cells #[.int .i64 13, .int .i64 13] 42)).below hb2 (hok.e.drew.alloc (.cells #[.int .i64 13, .int .i64 13] 42)).lt; have hbb := (hok.below.drew.alloc hok.below.size (.cells #[.int .i64 13, .int .i64 13] 42)).trans (hb2.mono (hok.below.drew.alloc hok.below.size (.cells #[.int .i64 13, .int .i64 13] 42)).size); obtain ⟨x0, x1, x2, x3, y0, y1, y2, y3⟩ := hr2.four; obtain ⟨z0, z1, z2, z3⟩ := two_cells hf2; obtain ⟨v0, v1, v2, v3⟩ := two_cells he2; unfold setV))
  all_goals
    have hz := two_done hr2 he2 hbb (someM [(13, 13)] false) (i + 2) 0 (.int .i64 (((i : Nat) : Int) + 2)) rfl
    simp only [putCells, setL] at hz
    obtain ⟨hrz, hez, hbz⟩ := hz
    generalize World.setCell _ _ _ = wz at *
    clear hr2 he2 hbb hf2 hok x0 x1 x2 x3 y0 y1 y2 y3 z0 z1 z2 z3 v0 v1 v2 v3 hb2
    go_wp2
    refine ret_two (b := w.heap.size) (b' := w.heap.size + 1) rfl rfl rfl hrz hez rfl ⟨?_, hbz⟩
    exact congrArg Ending.returned (HX.out).symm
set_option maxRecDepth 100000 in
set_option maxHeartbeats 4000000 in
theorem refesc_102 (s : ByteArray) (i : Nat) (hi : i + 1 < s.size) (hs : s.size ≤ 1048576) (c : Nat) (hc : (bytesN s)[i + 1]? = some c) (hsp : specialL.contains c = false) (_n110 : c ≠ 110) (_n116 : c ≠ 116) (_n114 : c ≠ 114) (hx : c = 102) (w : World) :
    Calls Tryd.prog 56 #[.string s, .int .i64 ((i : Nat) : Int)] w fun v w' => v = .returned (refV (escM (bytesN s) i)) ∧ Below w.heap.size w w' := by
  have HX := Lib.hid (resc_named_102 hc hsp hx)
  have q110 : (((c : Nat) : Int) == 110) = false := by rw [beq_eq_false_iff_ne]; omega
  have q116 : (((c : Nat) : Int) == 116) = false := by rw [beq_eq_false_iff_ne]; omega
  have q114 : (((c : Nat) : Int) == 114) = false := by rw [beq_eq_false_iff_ne]; omega
  have HH := Lib.hid hx
  have HSP := Lib.hid hsp
  clear hx hsp
  have hc256 := bytesN_lt hc
  have hby : (s[i + 1]'hi).toNat = c := by obtain ⟨_, e⟩ := bytesN_some hc; exact e
  have HC := Lib.hid hc
  clear hc
  go_enter Tryd.func56, Tryd.ntmps56
  go_wp2_with fail
  have hok := esc_ok w i c
  generalize World.alloc _ _ = wa at *
  refine (refin_at _ c wa (by decide)).mono ?_
  rintro v w0 ⟨rfl, rfl⟩
  rename World => w0
  rw [show (bytesN { data := #[92, 124, 40, 41, 91, 93, 123, 125, 42, 43, 63, 46, 94, 36, 47, 45] }) = specialL from rfl]
  rw [HSP.out]
  have hx' : ((c : Nat) : Int) = 102 := by have := HH.out; omega
  have hN : Blk (w0.drew.alloc (.cells #[.int .i64 12, .int .i64 12] 42)) w0.drew.heap.size 42 (prsL [(12, 12)]) := Blk.new w0.drew (prsL [(12, 12)]) 42
  have hl6 := hok.fin.lt
  obtain ⟨b0, b1, _, _⟩ := two_cells hok.fin
  obtain ⟨d0, d1, _, _⟩ := two_cells hok.fin.drew
  go_wp2_with fail
  go_region_with (first
    | (go_at_call 58; refine (some_at [(12, 12)] false hN (by simp)).mono ?_; rintro v w2 ⟨rfl, hb2⟩; have hf2 := (hok.fin.drew.alloc (.cells #[.int .i64 12, .int .i64 12] 42)).below hb2 (hok.fin.drew.alloc (.cells #[.int .i64 12, .int .i64 12] 42)).lt; have hr2 := (hok.r.drew.alloc (.cells #[.int .i64 12, .int .i64 12] 42)).below hb2 (hok.r.drew.alloc (.cells #[.int .i64 12, .int .i64 12] 42)).lt; have he2 := (hok.e.drew.alloc (.cells #[.int .i64 12, .int .i64 12] 42)).below hb2 (hok.e.drew.alloc (.cells #[.int .i64 12, .int .i64 12] 42)).lt; have hbb := (hok.below.drew.alloc hok.below.size (.cells #[.int .i64 12, .int .i64 12] 42)).trans (hb2.mono (hok.below.drew.alloc hok.below.size (.cells #[.int .i64 12, .int .i64 12] 42)).size); obtain ⟨x0, x1, x2, x3, y0, y1, y2, y3⟩ := hr2.four; obtain ⟨z0, z1, z2, z3⟩ := two_cells hf2; obtain ⟨v0, v1, v2, v3⟩ := two_cells he2; unfold setV))
  all_goals
    have hz := two_done hr2 he2 hbb (someM [(12, 12)] false) (i + 2) 0 (.int .i64 (((i : Nat) : Int) + 2)) rfl
    simp only [putCells, setL] at hz
    obtain ⟨hrz, hez, hbz⟩ := hz
    generalize World.setCell _ _ _ = wz at *
    clear hr2 he2 hbb hf2 hok x0 x1 x2 x3 y0 y1 y2 y3 z0 z1 z2 z3 v0 v1 v2 v3 hb2
    go_wp2
    refine ret_two (b := w.heap.size) (b' := w.heap.size + 1) rfl rfl rfl hrz hez rfl ⟨?_, hbz⟩
    exact congrArg Ending.returned (HX.out).symm
set_option maxRecDepth 100000 in
set_option maxHeartbeats 4000000 in
theorem refesc_118 (s : ByteArray) (i : Nat) (hi : i + 1 < s.size) (hs : s.size ≤ 1048576) (c : Nat) (hc : (bytesN s)[i + 1]? = some c) (hsp : specialL.contains c = false) (_n110 : c ≠ 110) (_n116 : c ≠ 116) (_n114 : c ≠ 114) (_n102 : c ≠ 102) (hx : c = 118) (w : World) :
    Calls Tryd.prog 56 #[.string s, .int .i64 ((i : Nat) : Int)] w fun v w' => v = .returned (refV (escM (bytesN s) i)) ∧ Below w.heap.size w w' := by
  have HX := Lib.hid (resc_named_118 hc hsp hx)
  have q110 : (((c : Nat) : Int) == 110) = false := by rw [beq_eq_false_iff_ne]; omega
  have q116 : (((c : Nat) : Int) == 116) = false := by rw [beq_eq_false_iff_ne]; omega
  have q114 : (((c : Nat) : Int) == 114) = false := by rw [beq_eq_false_iff_ne]; omega
  have q102 : (((c : Nat) : Int) == 102) = false := by rw [beq_eq_false_iff_ne]; omega
  have HH := Lib.hid hx
  have HSP := Lib.hid hsp
  clear hx hsp
  have hc256 := bytesN_lt hc
  have hby : (s[i + 1]'hi).toNat = c := by obtain ⟨_, e⟩ := bytesN_some hc; exact e
  have HC := Lib.hid hc
  clear hc
  go_enter Tryd.func56, Tryd.ntmps56
  go_wp2_with fail
  have hok := esc_ok w i c
  generalize World.alloc _ _ = wa at *
  refine (refin_at _ c wa (by decide)).mono ?_
  rintro v w0 ⟨rfl, rfl⟩
  rename World => w0
  rw [show (bytesN { data := #[92, 124, 40, 41, 91, 93, 123, 125, 42, 43, 63, 46, 94, 36, 47, 45] }) = specialL from rfl]
  rw [HSP.out]
  have hx' : ((c : Nat) : Int) = 118 := by have := HH.out; omega
  have hN : Blk (w0.drew.alloc (.cells #[.int .i64 11, .int .i64 11] 42)) w0.drew.heap.size 42 (prsL [(11, 11)]) := Blk.new w0.drew (prsL [(11, 11)]) 42
  have hl6 := hok.fin.lt
  obtain ⟨b0, b1, _, _⟩ := two_cells hok.fin
  obtain ⟨d0, d1, _, _⟩ := two_cells hok.fin.drew
  go_wp2_with fail
  go_region_with (first
    | (go_at_call 58; refine (some_at [(11, 11)] false hN (by simp)).mono ?_; rintro v w2 ⟨rfl, hb2⟩; have hf2 := (hok.fin.drew.alloc (.cells #[.int .i64 11, .int .i64 11] 42)).below hb2 (hok.fin.drew.alloc (.cells #[.int .i64 11, .int .i64 11] 42)).lt; have hr2 := (hok.r.drew.alloc (.cells #[.int .i64 11, .int .i64 11] 42)).below hb2 (hok.r.drew.alloc (.cells #[.int .i64 11, .int .i64 11] 42)).lt; have he2 := (hok.e.drew.alloc (.cells #[.int .i64 11, .int .i64 11] 42)).below hb2 (hok.e.drew.alloc (.cells #[.int .i64 11, .int .i64 11] 42)).lt; have hbb := (hok.below.drew.alloc hok.below.size (.cells #[.int .i64 11, .int .i64 11] 42)).trans (hb2.mono (hok.below.drew.alloc hok.below.size (.cells #[.int .i64 11, .int .i64 11] 42)).size); obtain ⟨x0, x1, x2, x3, y0, y1, y2, y3⟩ := hr2.four; obtain ⟨z0, z1, z2, z3⟩ := two_cells hf2; obtain ⟨v0, v1, v2, v3⟩ := two_cells he2; unfold setV))
  all_goals
    have hz := two_done hr2 he2 hbb (someM [(11, 11)] false) (i + 2) 0 (.int .i64 (((i : Nat) : Int) + 2)) rfl
    simp only [putCells, setL] at hz
    obtain ⟨hrz, hez, hbz⟩ := hz
    generalize World.setCell _ _ _ = wz at *
    clear hr2 he2 hbb hf2 hok x0 x1 x2 x3 y0 y1 y2 y3 z0 z1 z2 z3 v0 v1 v2 v3 hb2
    go_wp2
    refine ret_two (b := w.heap.size) (b' := w.heap.size + 1) rfl rfl rfl hrz hez rfl ⟨?_, hbz⟩
    exact congrArg Ending.returned (HX.out).symm
set_option maxRecDepth 100000 in
set_option maxHeartbeats 4000000 in
theorem refesc_100 (s : ByteArray) (i : Nat) (hi : i + 1 < s.size) (hs : s.size ≤ 1048576) (c : Nat) (hc : (bytesN s)[i + 1]? = some c) (hsp : specialL.contains c = false) (_n110 : c ≠ 110) (_n116 : c ≠ 116) (_n114 : c ≠ 114) (_n102 : c ≠ 102) (_n118 : c ≠ 118) (hx : c = 100) (w : World) :
    Calls Tryd.prog 56 #[.string s, .int .i64 ((i : Nat) : Int)] w fun v w' => v = .returned (refV (escM (bytesN s) i)) ∧ Below w.heap.size w w' := by
  have HX := Lib.hid (resc_named_100 hc hsp hx)
  have q110 : (((c : Nat) : Int) == 110) = false := by rw [beq_eq_false_iff_ne]; omega
  have q116 : (((c : Nat) : Int) == 116) = false := by rw [beq_eq_false_iff_ne]; omega
  have q114 : (((c : Nat) : Int) == 114) = false := by rw [beq_eq_false_iff_ne]; omega
  have q102 : (((c : Nat) : Int) == 102) = false := by rw [beq_eq_false_iff_ne]; omega
  have q118 : (((c : Nat) : Int) == 118) = false := by rw [beq_eq_false_iff_ne]; omega
  have HH := Lib.hid hx
  have HSP := Lib.hid hsp
  clear hx hsp
  have hc256 := bytesN_lt hc
  have hby : (s[i + 1]'hi).toNat = c := by obtain ⟨_, e⟩ := bytesN_some hc; exact e
  have HC := Lib.hid hc
  clear hc
  go_enter Tryd.func56, Tryd.ntmps56
  go_wp2_with fail
  have hok := esc_ok w i c
  generalize World.alloc _ _ = wa at *
  refine (refin_at _ c wa (by decide)).mono ?_
  rintro v w0 ⟨rfl, rfl⟩
  rename World => w0
  rw [show (bytesN { data := #[92, 124, 40, 41, 91, 93, 123, 125, 42, 43, 63, 46, 94, 36, 47, 45] }) = specialL from rfl]
  rw [HSP.out]
  have hx' : ((c : Nat) : Int) = 100 := by have := HH.out; omega
  obtain ⟨d0, d1, _, _⟩ := two_cells hok.fin.drew
  go_wp2_with fail
  go_region_with (first
    | (go_at_call 58; refine (some_at [(48, 57)] false hok.digits.drew (by simp)).mono ?_; rintro v w2 ⟨rfl, hb2⟩; have hf2 := hok.fin.drew.below hb2 hok.fin.drew.lt; have hr2 := hok.r.drew.below hb2 hok.r.drew.lt; have he2 := hok.e.drew.below hb2 hok.e.drew.lt; have hbb := hok.below.drew.trans (hb2.mono hok.below.size); obtain ⟨x0, x1, x2, x3, y0, y1, y2, y3⟩ := hr2.four; obtain ⟨z0, z1, z2, z3⟩ := two_cells hf2; obtain ⟨v0, v1, v2, v3⟩ := two_cells he2; unfold setV))
  all_goals
    have hz := two_done hr2 he2 hbb (someM [(48, 57)] false) (i + 2) 0 (.int .i64 (((i : Nat) : Int) + 2)) rfl
    simp only [putCells, setL] at hz
    obtain ⟨hrz, hez, hbz⟩ := hz
    generalize World.setCell _ _ _ = wz at *
    clear hr2 he2 hbb hf2 hok x0 x1 x2 x3 y0 y1 y2 y3 z0 z1 z2 z3 v0 v1 v2 v3 hb2
    go_wp2
    refine ret_two (b := w.heap.size) (b' := w.heap.size + 1) rfl rfl rfl hrz hez rfl ⟨?_, hbz⟩
    exact congrArg Ending.returned (HX.out).symm
set_option maxRecDepth 100000 in
set_option maxHeartbeats 4000000 in
theorem refesc_68 (s : ByteArray) (i : Nat) (hi : i + 1 < s.size) (hs : s.size ≤ 1048576) (c : Nat) (hc : (bytesN s)[i + 1]? = some c) (hsp : specialL.contains c = false) (_n110 : c ≠ 110) (_n116 : c ≠ 116) (_n114 : c ≠ 114) (_n102 : c ≠ 102) (_n118 : c ≠ 118) (_n100 : c ≠ 100) (hx : c = 68) (w : World) :
    Calls Tryd.prog 56 #[.string s, .int .i64 ((i : Nat) : Int)] w fun v w' => v = .returned (refV (escM (bytesN s) i)) ∧ Below w.heap.size w w' := by
  have HX := Lib.hid (resc_named_68 hc hsp hx)
  have q110 : (((c : Nat) : Int) == 110) = false := by rw [beq_eq_false_iff_ne]; omega
  have q116 : (((c : Nat) : Int) == 116) = false := by rw [beq_eq_false_iff_ne]; omega
  have q114 : (((c : Nat) : Int) == 114) = false := by rw [beq_eq_false_iff_ne]; omega
  have q102 : (((c : Nat) : Int) == 102) = false := by rw [beq_eq_false_iff_ne]; omega
  have q118 : (((c : Nat) : Int) == 118) = false := by rw [beq_eq_false_iff_ne]; omega
  have q100 : (((c : Nat) : Int) == 100) = false := by rw [beq_eq_false_iff_ne]; omega
  have HH := Lib.hid hx
  have HSP := Lib.hid hsp
  clear hx hsp
  have hc256 := bytesN_lt hc
  have hby : (s[i + 1]'hi).toNat = c := by obtain ⟨_, e⟩ := bytesN_some hc; exact e
  have HC := Lib.hid hc
  clear hc
  go_enter Tryd.func56, Tryd.ntmps56
  go_wp2_with fail
  have hok := esc_ok w i c
  generalize World.alloc _ _ = wa at *
  refine (refin_at _ c wa (by decide)).mono ?_
  rintro v w0 ⟨rfl, rfl⟩
  rename World => w0
  rw [show (bytesN { data := #[92, 124, 40, 41, 91, 93, 123, 125, 42, 43, 63, 46, 94, 36, 47, 45] }) = specialL from rfl]
  rw [HSP.out]
  have hx' : ((c : Nat) : Int) = 68 := by have := HH.out; omega
  obtain ⟨d0, d1, _, _⟩ := two_cells hok.fin.drew
  go_wp2_with fail
  go_region_with (first
    | (go_at_call 58; refine (some_at [(48, 57)] true hok.digits.drew (by simp)).mono ?_; rintro v w2 ⟨rfl, hb2⟩; have hf2 := hok.fin.drew.below hb2 hok.fin.drew.lt; have hr2 := hok.r.drew.below hb2 hok.r.drew.lt; have he2 := hok.e.drew.below hb2 hok.e.drew.lt; have hbb := hok.below.drew.trans (hb2.mono hok.below.size); obtain ⟨x0, x1, x2, x3, y0, y1, y2, y3⟩ := hr2.four; obtain ⟨z0, z1, z2, z3⟩ := two_cells hf2; obtain ⟨v0, v1, v2, v3⟩ := two_cells he2; unfold setV))
  all_goals
    have hz := two_done hr2 he2 hbb (someM [(48, 57)] true) (i + 2) 0 (.int .i64 (((i : Nat) : Int) + 2)) rfl
    simp only [putCells, setL] at hz
    obtain ⟨hrz, hez, hbz⟩ := hz
    generalize World.setCell _ _ _ = wz at *
    clear hr2 he2 hbb hf2 hok x0 x1 x2 x3 y0 y1 y2 y3 z0 z1 z2 z3 v0 v1 v2 v3 hb2
    go_wp2
    refine ret_two (b := w.heap.size) (b' := w.heap.size + 1) rfl rfl rfl hrz hez rfl ⟨?_, hbz⟩
    exact congrArg Ending.returned (HX.out).symm
set_option maxRecDepth 100000 in
set_option maxHeartbeats 4000000 in
theorem refesc_119 (s : ByteArray) (i : Nat) (hi : i + 1 < s.size) (hs : s.size ≤ 1048576) (c : Nat) (hc : (bytesN s)[i + 1]? = some c) (hsp : specialL.contains c = false) (_n110 : c ≠ 110) (_n116 : c ≠ 116) (_n114 : c ≠ 114) (_n102 : c ≠ 102) (_n118 : c ≠ 118) (_n100 : c ≠ 100) (_n68 : c ≠ 68) (hx : c = 119) (w : World) :
    Calls Tryd.prog 56 #[.string s, .int .i64 ((i : Nat) : Int)] w fun v w' => v = .returned (refV (escM (bytesN s) i)) ∧ Below w.heap.size w w' := by
  have HX := Lib.hid (resc_named_119 hc hsp hx)
  have q110 : (((c : Nat) : Int) == 110) = false := by rw [beq_eq_false_iff_ne]; omega
  have q116 : (((c : Nat) : Int) == 116) = false := by rw [beq_eq_false_iff_ne]; omega
  have q114 : (((c : Nat) : Int) == 114) = false := by rw [beq_eq_false_iff_ne]; omega
  have q102 : (((c : Nat) : Int) == 102) = false := by rw [beq_eq_false_iff_ne]; omega
  have q118 : (((c : Nat) : Int) == 118) = false := by rw [beq_eq_false_iff_ne]; omega
  have q100 : (((c : Nat) : Int) == 100) = false := by rw [beq_eq_false_iff_ne]; omega
  have q68 : (((c : Nat) : Int) == 68) = false := by rw [beq_eq_false_iff_ne]; omega
  have HH := Lib.hid hx
  have HSP := Lib.hid hsp
  clear hx hsp
  have hc256 := bytesN_lt hc
  have hby : (s[i + 1]'hi).toNat = c := by obtain ⟨_, e⟩ := bytesN_some hc; exact e
  have HC := Lib.hid hc
  clear hc
  go_enter Tryd.func56, Tryd.ntmps56
  go_wp2_with fail
  have hok := esc_ok w i c
  generalize World.alloc _ _ = wa at *
  refine (refin_at _ c wa (by decide)).mono ?_
  rintro v w0 ⟨rfl, rfl⟩
  rename World => w0
  rw [show (bytesN { data := #[92, 124, 40, 41, 91, 93, 123, 125, 42, 43, 63, 46, 94, 36, 47, 45] }) = specialL from rfl]
  rw [HSP.out]
  have hx' : ((c : Nat) : Int) = 119 := by have := HH.out; omega
  obtain ⟨d0, d1, _, _⟩ := two_cells hok.fin.drew
  go_wp2_with fail
  go_region_with (first
    | (go_at_call 58; refine (some_at [(48, 57), (97, 122), (65, 90), (95, 95)] false hok.word.drew (by simp)).mono ?_; rintro v w2 ⟨rfl, hb2⟩; have hf2 := hok.fin.drew.below hb2 hok.fin.drew.lt; have hr2 := hok.r.drew.below hb2 hok.r.drew.lt; have he2 := hok.e.drew.below hb2 hok.e.drew.lt; have hbb := hok.below.drew.trans (hb2.mono hok.below.size); obtain ⟨x0, x1, x2, x3, y0, y1, y2, y3⟩ := hr2.four; obtain ⟨z0, z1, z2, z3⟩ := two_cells hf2; obtain ⟨v0, v1, v2, v3⟩ := two_cells he2; unfold setV))
  all_goals
    have hz := two_done hr2 he2 hbb (someM [(48, 57), (97, 122), (65, 90), (95, 95)] false) (i + 2) 0 (.int .i64 (((i : Nat) : Int) + 2)) rfl
    simp only [putCells, setL] at hz
    obtain ⟨hrz, hez, hbz⟩ := hz
    generalize World.setCell _ _ _ = wz at *
    clear hr2 he2 hbb hf2 hok x0 x1 x2 x3 y0 y1 y2 y3 z0 z1 z2 z3 v0 v1 v2 v3 hb2
    go_wp2
    refine ret_two (b := w.heap.size) (b' := w.heap.size + 1) rfl rfl rfl hrz hez rfl ⟨?_, hbz⟩
    exact congrArg Ending.returned (HX.out).symm
set_option maxRecDepth 100000 in
set_option maxHeartbeats 4000000 in
theorem refesc_87 (s : ByteArray) (i : Nat) (hi : i + 1 < s.size) (hs : s.size ≤ 1048576) (c : Nat) (hc : (bytesN s)[i + 1]? = some c) (hsp : specialL.contains c = false) (_n110 : c ≠ 110) (_n116 : c ≠ 116) (_n114 : c ≠ 114) (_n102 : c ≠ 102) (_n118 : c ≠ 118) (_n100 : c ≠ 100) (_n68 : c ≠ 68) (_n119 : c ≠ 119) (hx : c = 87) (w : World) :
    Calls Tryd.prog 56 #[.string s, .int .i64 ((i : Nat) : Int)] w fun v w' => v = .returned (refV (escM (bytesN s) i)) ∧ Below w.heap.size w w' := by
  have HX := Lib.hid (resc_named_87 hc hsp hx)
  have q110 : (((c : Nat) : Int) == 110) = false := by rw [beq_eq_false_iff_ne]; omega
  have q116 : (((c : Nat) : Int) == 116) = false := by rw [beq_eq_false_iff_ne]; omega
  have q114 : (((c : Nat) : Int) == 114) = false := by rw [beq_eq_false_iff_ne]; omega
  have q102 : (((c : Nat) : Int) == 102) = false := by rw [beq_eq_false_iff_ne]; omega
  have q118 : (((c : Nat) : Int) == 118) = false := by rw [beq_eq_false_iff_ne]; omega
  have q100 : (((c : Nat) : Int) == 100) = false := by rw [beq_eq_false_iff_ne]; omega
  have q68 : (((c : Nat) : Int) == 68) = false := by rw [beq_eq_false_iff_ne]; omega
  have q119 : (((c : Nat) : Int) == 119) = false := by rw [beq_eq_false_iff_ne]; omega
  have HH := Lib.hid hx
  have HSP := Lib.hid hsp
  clear hx hsp
  have hc256 := bytesN_lt hc
  have hby : (s[i + 1]'hi).toNat = c := by obtain ⟨_, e⟩ := bytesN_some hc; exact e
  have HC := Lib.hid hc
  clear hc
  go_enter Tryd.func56, Tryd.ntmps56
  go_wp2_with fail
  have hok := esc_ok w i c
  generalize World.alloc _ _ = wa at *
  refine (refin_at _ c wa (by decide)).mono ?_
  rintro v w0 ⟨rfl, rfl⟩
  rename World => w0
  rw [show (bytesN { data := #[92, 124, 40, 41, 91, 93, 123, 125, 42, 43, 63, 46, 94, 36, 47, 45] }) = specialL from rfl]
  rw [HSP.out]
  have hx' : ((c : Nat) : Int) = 87 := by have := HH.out; omega
  obtain ⟨d0, d1, _, _⟩ := two_cells hok.fin.drew
  go_wp2_with fail
  go_region_with (first
    | (go_at_call 58; refine (some_at [(48, 57), (97, 122), (65, 90), (95, 95)] true hok.word.drew (by simp)).mono ?_; rintro v w2 ⟨rfl, hb2⟩; have hf2 := hok.fin.drew.below hb2 hok.fin.drew.lt; have hr2 := hok.r.drew.below hb2 hok.r.drew.lt; have he2 := hok.e.drew.below hb2 hok.e.drew.lt; have hbb := hok.below.drew.trans (hb2.mono hok.below.size); obtain ⟨x0, x1, x2, x3, y0, y1, y2, y3⟩ := hr2.four; obtain ⟨z0, z1, z2, z3⟩ := two_cells hf2; obtain ⟨v0, v1, v2, v3⟩ := two_cells he2; unfold setV))
  all_goals
    have hz := two_done hr2 he2 hbb (someM [(48, 57), (97, 122), (65, 90), (95, 95)] true) (i + 2) 0 (.int .i64 (((i : Nat) : Int) + 2)) rfl
    simp only [putCells, setL] at hz
    obtain ⟨hrz, hez, hbz⟩ := hz
    generalize World.setCell _ _ _ = wz at *
    clear hr2 he2 hbb hf2 hok x0 x1 x2 x3 y0 y1 y2 y3 z0 z1 z2 z3 v0 v1 v2 v3 hb2
    go_wp2
    refine ret_two (b := w.heap.size) (b' := w.heap.size + 1) rfl rfl rfl hrz hez rfl ⟨?_, hbz⟩
    exact congrArg Ending.returned (HX.out).symm
set_option maxRecDepth 100000 in
set_option maxHeartbeats 4000000 in
theorem refesc_115 (s : ByteArray) (i : Nat) (hi : i + 1 < s.size) (hs : s.size ≤ 1048576) (c : Nat) (hc : (bytesN s)[i + 1]? = some c) (hsp : specialL.contains c = false) (_n110 : c ≠ 110) (_n116 : c ≠ 116) (_n114 : c ≠ 114) (_n102 : c ≠ 102) (_n118 : c ≠ 118) (_n100 : c ≠ 100) (_n68 : c ≠ 68) (_n119 : c ≠ 119) (_n87 : c ≠ 87) (hx : c = 115) (w : World) :
    Calls Tryd.prog 56 #[.string s, .int .i64 ((i : Nat) : Int)] w fun v w' => v = .returned (refV (escM (bytesN s) i)) ∧ Below w.heap.size w w' := by
  have HX := Lib.hid (resc_named_115 hc hsp hx)
  have q110 : (((c : Nat) : Int) == 110) = false := by rw [beq_eq_false_iff_ne]; omega
  have q116 : (((c : Nat) : Int) == 116) = false := by rw [beq_eq_false_iff_ne]; omega
  have q114 : (((c : Nat) : Int) == 114) = false := by rw [beq_eq_false_iff_ne]; omega
  have q102 : (((c : Nat) : Int) == 102) = false := by rw [beq_eq_false_iff_ne]; omega
  have q118 : (((c : Nat) : Int) == 118) = false := by rw [beq_eq_false_iff_ne]; omega
  have q100 : (((c : Nat) : Int) == 100) = false := by rw [beq_eq_false_iff_ne]; omega
  have q68 : (((c : Nat) : Int) == 68) = false := by rw [beq_eq_false_iff_ne]; omega
  have q119 : (((c : Nat) : Int) == 119) = false := by rw [beq_eq_false_iff_ne]; omega
  have q87 : (((c : Nat) : Int) == 87) = false := by rw [beq_eq_false_iff_ne]; omega
  have HH := Lib.hid hx
  have HSP := Lib.hid hsp
  clear hx hsp
  have hc256 := bytesN_lt hc
  have hby : (s[i + 1]'hi).toNat = c := by obtain ⟨_, e⟩ := bytesN_some hc; exact e
  have HC := Lib.hid hc
  clear hc
  go_enter Tryd.func56, Tryd.ntmps56
  go_wp2_with fail
  have hok := esc_ok w i c
  generalize World.alloc _ _ = wa at *
  refine (refin_at _ c wa (by decide)).mono ?_
  rintro v w0 ⟨rfl, rfl⟩
  rename World => w0
  rw [show (bytesN { data := #[92, 124, 40, 41, 91, 93, 123, 125, 42, 43, 63, 46, 94, 36, 47, 45] }) = specialL from rfl]
  rw [HSP.out]
  have hx' : ((c : Nat) : Int) = 115 := by have := HH.out; omega
  obtain ⟨d0, d1, _, _⟩ := two_cells hok.fin.drew
  go_wp2_with fail
  go_region_with (first
    | (go_at_call 58; refine (some_at [(9, 13), (32, 32)] false hok.space.drew (by simp)).mono ?_; rintro v w2 ⟨rfl, hb2⟩; have hf2 := hok.fin.drew.below hb2 hok.fin.drew.lt; have hr2 := hok.r.drew.below hb2 hok.r.drew.lt; have he2 := hok.e.drew.below hb2 hok.e.drew.lt; have hbb := hok.below.drew.trans (hb2.mono hok.below.size); obtain ⟨x0, x1, x2, x3, y0, y1, y2, y3⟩ := hr2.four; obtain ⟨z0, z1, z2, z3⟩ := two_cells hf2; obtain ⟨v0, v1, v2, v3⟩ := two_cells he2; unfold setV))
  all_goals
    have hz := two_done hr2 he2 hbb (someM [(9, 13), (32, 32)] false) (i + 2) 0 (.int .i64 (((i : Nat) : Int) + 2)) rfl
    simp only [putCells, setL] at hz
    obtain ⟨hrz, hez, hbz⟩ := hz
    generalize World.setCell _ _ _ = wz at *
    clear hr2 he2 hbb hf2 hok x0 x1 x2 x3 y0 y1 y2 y3 z0 z1 z2 z3 v0 v1 v2 v3 hb2
    go_wp2
    refine ret_two (b := w.heap.size) (b' := w.heap.size + 1) rfl rfl rfl hrz hez rfl ⟨?_, hbz⟩
    exact congrArg Ending.returned (HX.out).symm
set_option maxRecDepth 100000 in
set_option maxHeartbeats 4000000 in
theorem refesc_83 (s : ByteArray) (i : Nat) (hi : i + 1 < s.size) (hs : s.size ≤ 1048576) (c : Nat) (hc : (bytesN s)[i + 1]? = some c) (hsp : specialL.contains c = false) (_n110 : c ≠ 110) (_n116 : c ≠ 116) (_n114 : c ≠ 114) (_n102 : c ≠ 102) (_n118 : c ≠ 118) (_n100 : c ≠ 100) (_n68 : c ≠ 68) (_n119 : c ≠ 119) (_n87 : c ≠ 87) (_n115 : c ≠ 115) (hx : c = 83) (w : World) :
    Calls Tryd.prog 56 #[.string s, .int .i64 ((i : Nat) : Int)] w fun v w' => v = .returned (refV (escM (bytesN s) i)) ∧ Below w.heap.size w w' := by
  have HX := Lib.hid (resc_named_83 hc hsp hx)
  have q110 : (((c : Nat) : Int) == 110) = false := by rw [beq_eq_false_iff_ne]; omega
  have q116 : (((c : Nat) : Int) == 116) = false := by rw [beq_eq_false_iff_ne]; omega
  have q114 : (((c : Nat) : Int) == 114) = false := by rw [beq_eq_false_iff_ne]; omega
  have q102 : (((c : Nat) : Int) == 102) = false := by rw [beq_eq_false_iff_ne]; omega
  have q118 : (((c : Nat) : Int) == 118) = false := by rw [beq_eq_false_iff_ne]; omega
  have q100 : (((c : Nat) : Int) == 100) = false := by rw [beq_eq_false_iff_ne]; omega
  have q68 : (((c : Nat) : Int) == 68) = false := by rw [beq_eq_false_iff_ne]; omega
  have q119 : (((c : Nat) : Int) == 119) = false := by rw [beq_eq_false_iff_ne]; omega
  have q87 : (((c : Nat) : Int) == 87) = false := by rw [beq_eq_false_iff_ne]; omega
  have q115 : (((c : Nat) : Int) == 115) = false := by rw [beq_eq_false_iff_ne]; omega
  have HH := Lib.hid hx
  have HSP := Lib.hid hsp
  clear hx hsp
  have hc256 := bytesN_lt hc
  have hby : (s[i + 1]'hi).toNat = c := by obtain ⟨_, e⟩ := bytesN_some hc; exact e
  have HC := Lib.hid hc
  clear hc
  go_enter Tryd.func56, Tryd.ntmps56
  go_wp2_with fail
  have hok := esc_ok w i c
  generalize World.alloc _ _ = wa at *
  refine (refin_at _ c wa (by decide)).mono ?_
  rintro v w0 ⟨rfl, rfl⟩
  rename World => w0
  rw [show (bytesN { data := #[92, 124, 40, 41, 91, 93, 123, 125, 42, 43, 63, 46, 94, 36, 47, 45] }) = specialL from rfl]
  rw [HSP.out]
  have hx' : ((c : Nat) : Int) = 83 := by have := HH.out; omega
  obtain ⟨d0, d1, _, _⟩ := two_cells hok.fin.drew
  go_wp2_with fail
  go_region_with (first
    | (go_at_call 58; refine (some_at [(9, 13), (32, 32)] true hok.space.drew (by simp)).mono ?_; rintro v w2 ⟨rfl, hb2⟩; have hf2 := hok.fin.drew.below hb2 hok.fin.drew.lt; have hr2 := hok.r.drew.below hb2 hok.r.drew.lt; have he2 := hok.e.drew.below hb2 hok.e.drew.lt; have hbb := hok.below.drew.trans (hb2.mono hok.below.size); obtain ⟨x0, x1, x2, x3, y0, y1, y2, y3⟩ := hr2.four; obtain ⟨z0, z1, z2, z3⟩ := two_cells hf2; obtain ⟨v0, v1, v2, v3⟩ := two_cells he2; unfold setV))
  all_goals
    have hz := two_done hr2 he2 hbb (someM [(9, 13), (32, 32)] true) (i + 2) 0 (.int .i64 (((i : Nat) : Int) + 2)) rfl
    simp only [putCells, setL] at hz
    obtain ⟨hrz, hez, hbz⟩ := hz
    generalize World.setCell _ _ _ = wz at *
    clear hr2 he2 hbb hf2 hok x0 x1 x2 x3 y0 y1 y2 y3 z0 z1 z2 z3 v0 v1 v2 v3 hb2
    go_wp2
    refine ret_two (b := w.heap.size) (b' := w.heap.size + 1) rfl rfl rfl hrz hez rfl ⟨?_, hbz⟩
    exact congrArg Ending.returned (HX.out).symm
set_option maxRecDepth 100000 in
set_option maxHeartbeats 4000000 in
theorem refesc_other (s : ByteArray) (i : Nat) (hi : i + 1 < s.size) (hs : s.size ≤ 1048576) (c : Nat) (hc : (bytesN s)[i + 1]? = some c) (hsp : specialL.contains c = false) (n110 : c ≠ 110) (n116 : c ≠ 116) (n114 : c ≠ 114) (n102 : c ≠ 102) (n118 : c ≠ 118) (n100 : c ≠ 100) (n68 : c ≠ 68) (n119 : c ≠ 119) (n87 : c ≠ 87) (n115 : c ≠ 115) (n83 : c ≠ 83) (n120 : c ≠ 120) (ho : otherL.contains c = true) (w : World) :
    Calls Tryd.prog 56 #[.string s, .int .i64 ((i : Nat) : Int)] w fun v w' => v = .returned (refV (escM (bytesN s) i)) ∧ Below w.heap.size w w' := by
  have HX := Lib.hid (resc_other hc hsp (named_none n110 n116 n114 n102 n118 n100 n68 n119 n87 n115 n83) n120 ho)
  have HO := Lib.hid ho
  clear ho
  have q110 : (((c : Nat) : Int) == 110) = false := by rw [beq_eq_false_iff_ne]; omega
  have q116 : (((c : Nat) : Int) == 116) = false := by rw [beq_eq_false_iff_ne]; omega
  have q114 : (((c : Nat) : Int) == 114) = false := by rw [beq_eq_false_iff_ne]; omega
  have q102 : (((c : Nat) : Int) == 102) = false := by rw [beq_eq_false_iff_ne]; omega
  have q118 : (((c : Nat) : Int) == 118) = false := by rw [beq_eq_false_iff_ne]; omega
  have q100 : (((c : Nat) : Int) == 100) = false := by rw [beq_eq_false_iff_ne]; omega
  have q68 : (((c : Nat) : Int) == 68) = false := by rw [beq_eq_false_iff_ne]; omega
  have q119 : (((c : Nat) : Int) == 119) = false := by rw [beq_eq_false_iff_ne]; omega
  have q87 : (((c : Nat) : Int) == 87) = false := by rw [beq_eq_false_iff_ne]; omega
  have q115 : (((c : Nat) : Int) == 115) = false := by rw [beq_eq_false_iff_ne]; omega
  have q83 : (((c : Nat) : Int) == 83) = false := by rw [beq_eq_false_iff_ne]; omega
  have q120 : (((c : Nat) : Int) == 120) = false := by rw [beq_eq_false_iff_ne]; omega
  have HSP := Lib.hid hsp
  clear hsp
  have hc256 := bytesN_lt hc
  have hby : (s[i + 1]'hi).toNat = c := by obtain ⟨_, e⟩ := bytesN_some hc; exact e
  have HC := Lib.hid hc
  clear hc
  go_enter Tryd.func56, Tryd.ntmps56
  go_wp2_with fail
  have hok := esc_ok w i c
  generalize World.alloc _ _ = wa at *
  refine (refin_at _ c wa (by decide)).mono ?_
  rintro v w0 ⟨rfl, rfl⟩
  rename World => w0
  rw [show (bytesN { data := #[92, 124, 40, 41, 91, 93, 123, 125, 42, 43, 63, 46, 94, 36, 47, 45] }) = specialL from rfl]
  rw [HSP.out]
  go_wp2_with fail
  refine (refin_at _ c w0 (by decide)).mono ?_
  rintro v w5 ⟨rfl, rfl⟩
  rename World => w0
  rw [show (bytesN { data := #[49, 50, 51, 52, 53, 54, 55, 56, 57, 98, 66, 65, 122, 90, 71, 81, 69, 107, 112, 80] }) = otherL from rfl, HO.out]
  have hr2 := hok.r
  have he2 := hok.e
  have hbb := hok.below
  obtain ⟨x0, x1, x2, x3, y0, y1, y2, y3⟩ := hr2.four
  obtain ⟨v0, v1, v2, v3⟩ := two_cells he2
  go_wp2
  have hz := two_done hr2 he2 hbb noSet i 6 (.int .i64 ((i : Nat))) rfl
  rw [setL_none] at hz
  simp only [putCells] at hz
  obtain ⟨hrz, hez, hbz⟩ := hz
  generalize World.setCell _ _ _ = wz at *
  clear hr2 he2 hbb hok x0 x1 x2 x3 y0 y1 y2 y3 v0 v1 v2 v3
  refine ret_two (b := w.heap.size) (b' := w.heap.size + 1) rfl rfl rfl (m := noSet) (by rw [setL_none]; exact hrz) hez rfl ⟨?_, hbz⟩
  exact congrArg Ending.returned (HX.out).symm
set_option maxRecDepth 100000 in
set_option maxHeartbeats 4000000 in
theorem refesc_none (s : ByteArray) (i : Nat) (hi : i + 1 < s.size) (hs : s.size ≤ 1048576) (c : Nat) (hc : (bytesN s)[i + 1]? = some c) (hsp : specialL.contains c = false) (n110 : c ≠ 110) (n116 : c ≠ 116) (n114 : c ≠ 114) (n102 : c ≠ 102) (n118 : c ≠ 118) (n100 : c ≠ 100) (n68 : c ≠ 68) (n119 : c ≠ 119) (n87 : c ≠ 87) (n115 : c ≠ 115) (n83 : c ≠ 83) (n120 : c ≠ 120) (ho : otherL.contains c = false) (w : World) :
    Calls Tryd.prog 56 #[.string s, .int .i64 ((i : Nat) : Int)] w fun v w' => v = .returned (refV (escM (bytesN s) i)) ∧ Below w.heap.size w w' := by
  have HX := Lib.hid (resc_none hc hsp (named_none n110 n116 n114 n102 n118 n100 n68 n119 n87 n115 n83) n120 ho)
  have HO := Lib.hid ho
  clear ho
  have q110 : (((c : Nat) : Int) == 110) = false := by rw [beq_eq_false_iff_ne]; omega
  have q116 : (((c : Nat) : Int) == 116) = false := by rw [beq_eq_false_iff_ne]; omega
  have q114 : (((c : Nat) : Int) == 114) = false := by rw [beq_eq_false_iff_ne]; omega
  have q102 : (((c : Nat) : Int) == 102) = false := by rw [beq_eq_false_iff_ne]; omega
  have q118 : (((c : Nat) : Int) == 118) = false := by rw [beq_eq_false_iff_ne]; omega
  have q100 : (((c : Nat) : Int) == 100) = false := by rw [beq_eq_false_iff_ne]; omega
  have q68 : (((c : Nat) : Int) == 68) = false := by rw [beq_eq_false_iff_ne]; omega
  have q119 : (((c : Nat) : Int) == 119) = false := by rw [beq_eq_false_iff_ne]; omega
  have q87 : (((c : Nat) : Int) == 87) = false := by rw [beq_eq_false_iff_ne]; omega
  have q115 : (((c : Nat) : Int) == 115) = false := by rw [beq_eq_false_iff_ne]; omega
  have q83 : (((c : Nat) : Int) == 83) = false := by rw [beq_eq_false_iff_ne]; omega
  have q120 : (((c : Nat) : Int) == 120) = false := by rw [beq_eq_false_iff_ne]; omega
  have HSP := Lib.hid hsp
  clear hsp
  have hc256 := bytesN_lt hc
  have hby : (s[i + 1]'hi).toNat = c := by obtain ⟨_, e⟩ := bytesN_some hc; exact e
  have HC := Lib.hid hc
  clear hc
  go_enter Tryd.func56, Tryd.ntmps56
  go_wp2_with fail
  have hok := esc_ok w i c
  generalize World.alloc _ _ = wa at *
  refine (refin_at _ c wa (by decide)).mono ?_
  rintro v w0 ⟨rfl, rfl⟩
  rename World => w0
  rw [show (bytesN { data := #[92, 124, 40, 41, 91, 93, 123, 125, 42, 43, 63, 46, 94, 36, 47, 45] }) = specialL from rfl]
  rw [HSP.out]
  go_wp2_with fail
  refine (refin_at _ c w0 (by decide)).mono ?_
  rintro v w5 ⟨rfl, rfl⟩
  rename World => w0
  rw [show (bytesN { data := #[49, 50, 51, 52, 53, 54, 55, 56, 57, 98, 66, 65, 122, 90, 71, 81, 69, 107, 112, 80] }) = otherL from rfl, HO.out]
  have hr2 := hok.r
  have he2 := hok.e
  have hbb := hok.below
  obtain ⟨x0, x1, x2, x3, y0, y1, y2, y3⟩ := hr2.four
  obtain ⟨v0, v1, v2, v3⟩ := two_cells he2
  go_wp2
  have hz := two_done hr2 he2 hbb noSet (i + 1) 4 (.int .i64 (((i : Nat) : Int) + 1)) rfl
  rw [setL_none] at hz
  simp only [putCells] at hz
  obtain ⟨hrz, hez, hbz⟩ := hz
  generalize World.setCell _ _ _ = wz at *
  clear hr2 he2 hbb hok x0 x1 x2 x3 y0 y1 y2 y3 v0 v1 v2 v3
  refine ret_two (b := w.heap.size) (b' := w.heap.size + 1) rfl rfl rfl (m := noSet) (by rw [setL_none]; exact hrz) hez rfl ⟨?_, hbz⟩
  exact congrArg Ending.returned (HX.out).symm
set_option maxRecDepth 100000 in
set_option maxHeartbeats 4000000 in
theorem refesc_hex (s : ByteArray) (i : Nat) (hi : i + 1 < s.size) (hs : s.size ≤ 1048576) (c : Nat) (hc : (bytesN s)[i + 1]? = some c) (hsp : specialL.contains c = false) (_n110 : c ≠ 110) (_n116 : c ≠ 116) (_n114 : c ≠ 114) (_n102 : c ≠ 102) (_n118 : c ≠ 118) (_n100 : c ≠ 100) (_n68 : c ≠ 68) (_n119 : c ≠ 119) (_n87 : c ≠ 87) (_n115 : c ≠ 115) (_n83 : c ≠ 83) (hx : c = 120) (w : World) :
    Calls Tryd.prog 56 #[.string s, .int .i64 ((i : Nat) : Int)] w fun v w' => v = .returned (refV (escM (bytesN s) i)) ∧ Below w.heap.size w w' := by
  have HX := Lib.hid (resc_hex hc hsp hx)
  have q110 : (((c : Nat) : Int) == 110) = false := by rw [beq_eq_false_iff_ne]; omega
  have q116 : (((c : Nat) : Int) == 116) = false := by rw [beq_eq_false_iff_ne]; omega
  have q114 : (((c : Nat) : Int) == 114) = false := by rw [beq_eq_false_iff_ne]; omega
  have q102 : (((c : Nat) : Int) == 102) = false := by rw [beq_eq_false_iff_ne]; omega
  have q118 : (((c : Nat) : Int) == 118) = false := by rw [beq_eq_false_iff_ne]; omega
  have q100 : (((c : Nat) : Int) == 100) = false := by rw [beq_eq_false_iff_ne]; omega
  have q68 : (((c : Nat) : Int) == 68) = false := by rw [beq_eq_false_iff_ne]; omega
  have q119 : (((c : Nat) : Int) == 119) = false := by rw [beq_eq_false_iff_ne]; omega
  have q87 : (((c : Nat) : Int) == 87) = false := by rw [beq_eq_false_iff_ne]; omega
  have q115 : (((c : Nat) : Int) == 115) = false := by rw [beq_eq_false_iff_ne]; omega
  have q83 : (((c : Nat) : Int) == 83) = false := by rw [beq_eq_false_iff_ne]; omega
  have HH := Lib.hid hx
  have HSP := Lib.hid hsp
  clear hx hsp
  have hc256 := bytesN_lt hc
  have hby : (s[i + 1]'hi).toNat = c := by obtain ⟨_, e⟩ := bytesN_some hc; exact e
  have HC := Lib.hid hc
  clear hc
  go_enter Tryd.func56, Tryd.ntmps56
  go_wp2_with fail
  have hok := esc_ok w i c
  generalize World.alloc _ _ = wa at *
  refine (refin_at _ c wa (by decide)).mono ?_
  rintro v w0 ⟨rfl, rfl⟩
  rename World => w0
  rw [show (bytesN { data := #[92, 124, 40, 41, 91, 93, 123, 125, 42, 43, 63, 46, 94, 36, 47, 45] }) = specialL from rfl]
  rw [HSP.out]
  have hx' : ((c : Nat) : Int) = 120 := by have := HH.out; omega
  go_wp2_with fail
  go_loopw [12, 13] (fun nv iv wr => wr = w0 ∧ ((nv = .int .i64 0 ∧ iv = .int .i64 (((i : Nat) : Int) + 2)) ∨ (∃ h : Nat, h < 16 ∧ Hid (hexAt (bytesN s) (i + 2) = some h) ∧ nv = .int .i64 ((h : Nat) : Int) ∧ iv = .int .i64 (((i : Nat) : Int) + 3)) ∨ (∃ h l : Nat, h < 16 ∧ l < 16 ∧ Hid (hexAt (bytesN s) (i + 2) = some h ∧ hexAt (bytesN s) (i + 3) = some l) ∧ nv = .int .i64 (((16 * h + l : Nat) : Nat) : Int) ∧ iv = .int .i64 (((i : Nat) : Int) + 4)))) (fun _ iv _ => i + 4 - (intOf iv).toNat)
  case atStart => exact ⟨rfl, .inl ⟨rfl, rfl⟩⟩
  case round =>
    obtain ⟨rfl, hrel⟩ := hrel
    rename World => w0
    rcases hrel with ⟨rfl, rfl⟩ | ⟨h, hh16, hh, rfl, rfl⟩ | ⟨h, l, hh16, hl16, hh, rfl, rfl⟩
    · cases hd : hexAt (bytesN s) (i + 2) with
      | none =>
        rcases hexAt_none hd with hge | ⟨hP, d, hd1, hd2, hd3⟩
        · have hmin : min (((i : Nat) : Int) + 2) ((s.size : Nat) : Int) = ((i : Nat) : Int) + 2 := by omega
          have hge' : ((s.size : Nat) : Int) ≤ ((i : Nat) : Int) + 2 := by omega
          have HD := Lib.hid hd
          clear hd
          have hr2 := hok.r
          have he2 := hok.e
          have hbb := hok.below
          obtain ⟨x0, x1, x2, x3, y0, y1, y2, y3⟩ := hr2.four
          obtain ⟨v0, v1, v2, v3⟩ := two_cells he2
          have hlen : i + 2 = s.size := by omega
          go_wp2
          have hz := two_done hr2 he2 hbb noSet (i + 2) 4 (.int .i64 (((i : Nat) : Int) + 2)) rfl
          rw [setL_none] at hz
          simp only [putCells] at hz
          obtain ⟨hrz, hez, hbz⟩ := hz
          generalize World.setCell _ _ _ = wz at *
          clear hr2 he2 hbb hok x0 x1 x2 x3 y0 y1 y2 y3 v0 v1 v2 v3
          refine ret_two (b := w.heap.size) (b' := w.heap.size + 1) rfl rfl rfl (m := noSet) (by rw [setL_none]; exact hrz) hez rfl ⟨?_, hbz⟩
          exact congrArg Ending.returned ((HX.out.trans (by rw [HD.out]))).symm
        · have HD := Lib.hid hd
          clear hd
          have hlt' : ¬((s.size : Nat) : Int) ≤ ((i : Nat) : Int) + 2 := by omega
          go_wp2_with fail
          refine (refhex_at d hd2 _).mono ?_
          rintro v w5 ⟨rfl, rfl⟩
          rename World => w0
          rw [hd3]
          have hmin : min (((i : Nat) : Int) + 2) ((s.size : Nat) : Int) = ((i : Nat) : Int) + 2 := by omega
          have hr2 := hok.r
          have he2 := hok.e
          have hbb := hok.below
          obtain ⟨x0, x1, x2, x3, y0, y1, y2, y3⟩ := hr2.four
          obtain ⟨v0, v1, v2, v3⟩ := two_cells he2
          go_wp2
          have hz := two_done hr2 he2 hbb noSet (i + 2) 4 (.int .i64 (((i : Nat) : Int) + 2)) rfl
          rw [setL_none] at hz
          simp only [putCells] at hz
          obtain ⟨hrz, hez, hbz⟩ := hz
          generalize World.setCell _ _ _ = wz at *
          clear hr2 he2 hbb hok x0 x1 x2 x3 y0 y1 y2 y3 v0 v1 v2 v3
          refine ret_two (b := w.heap.size) (b' := w.heap.size + 1) rfl rfl rfl (m := noSet) (by rw [setL_none]; exact hrz) hez rfl ⟨?_, hbz⟩
          exact congrArg Ending.returned ((HX.out.trans (by rw [HD.out]))).symm
      | some e =>
        obtain ⟨hP, d, hd1, hd2, hd3, hd16⟩ := hexAt_some hd
        have HD := Lib.hid hd
        clear hd
        have hlt' : ¬((s.size : Nat) : Int) ≤ ((i : Nat) : Int) + 2 := by omega
        go_wp2_with fail
        refine (refhex_at d hd2 _).mono ?_
        rintro v w5 ⟨rfl, rfl⟩
        rename World => w0
        rw [hd3]
        go_wp2_with fail
        refine (refhex_at d hd2 _).mono ?_
        rintro v w5 ⟨rfl, rfl⟩
        rename World => w0
        rw [hd3]
        go_wp2
        go_roundw
        case rel => exact ⟨trivial, .inr (.inl ⟨e, hd16, Lib.hid rfl, by go_num, by go_num⟩)⟩
        case measure => simp [intOf]; omega
    · obtain ⟨hP2, -⟩ := hexAt_some hh.out
      cases hd : hexAt (bytesN s) (i + 3) with
      | none =>
        rcases hexAt_none hd with hge | ⟨hP, d, hd1, hd2, hd3⟩
        · have hmin : min (((i : Nat) : Int) + 3) ((s.size : Nat) : Int) = ((i : Nat) : Int) + 3 := by omega
          have hge' : ((s.size : Nat) : Int) ≤ ((i : Nat) : Int) + 3 := by omega
          have HD := Lib.hid hd
          clear hd
          have hr2 := hok.r
          have he2 := hok.e
          have hbb := hok.below
          obtain ⟨x0, x1, x2, x3, y0, y1, y2, y3⟩ := hr2.four
          obtain ⟨v0, v1, v2, v3⟩ := two_cells he2
          have hlen : i + 3 = s.size := by omega
          go_wp2
          have hz := two_done hr2 he2 hbb noSet (i + 3) 4 (.int .i64 (((i : Nat) : Int) + 3)) rfl
          rw [setL_none] at hz
          simp only [putCells] at hz
          obtain ⟨hrz, hez, hbz⟩ := hz
          generalize World.setCell _ _ _ = wz at *
          clear hr2 he2 hbb hok x0 x1 x2 x3 y0 y1 y2 y3 v0 v1 v2 v3
          refine ret_two (b := w.heap.size) (b' := w.heap.size + 1) rfl rfl rfl (m := noSet) (by rw [setL_none]; exact hrz) hez rfl ⟨?_, hbz⟩
          exact congrArg Ending.returned ((HX.out.trans (by rw [hh.out, HD.out]))).symm
        · have HD := Lib.hid hd
          clear hd
          have hlt' : ¬((s.size : Nat) : Int) ≤ ((i : Nat) : Int) + 3 := by omega
          go_wp2_with fail
          refine (refhex_at d hd2 _).mono ?_
          rintro v w5 ⟨rfl, rfl⟩
          rename World => w0
          rw [hd3]
          have hmin : min (((i : Nat) : Int) + 3) ((s.size : Nat) : Int) = ((i : Nat) : Int) + 3 := by omega
          have hr2 := hok.r
          have he2 := hok.e
          have hbb := hok.below
          obtain ⟨x0, x1, x2, x3, y0, y1, y2, y3⟩ := hr2.four
          obtain ⟨v0, v1, v2, v3⟩ := two_cells he2
          go_wp2
          have hz := two_done hr2 he2 hbb noSet (i + 3) 4 (.int .i64 (((i : Nat) : Int) + 3)) rfl
          rw [setL_none] at hz
          simp only [putCells] at hz
          obtain ⟨hrz, hez, hbz⟩ := hz
          generalize World.setCell _ _ _ = wz at *
          clear hr2 he2 hbb hok x0 x1 x2 x3 y0 y1 y2 y3 v0 v1 v2 v3
          refine ret_two (b := w.heap.size) (b' := w.heap.size + 1) rfl rfl rfl (m := noSet) (by rw [setL_none]; exact hrz) hez rfl ⟨?_, hbz⟩
          exact congrArg Ending.returned ((HX.out.trans (by rw [hh.out, HD.out]))).symm
      | some e =>
        obtain ⟨hP, d, hd1, hd2, hd3, hd16⟩ := hexAt_some hd
        have HD := Lib.hid hd
        clear hd
        have hlt' : ¬((s.size : Nat) : Int) ≤ ((i : Nat) : Int) + 3 := by omega
        go_wp2_with fail
        refine (refhex_at d hd2 _).mono ?_
        rintro v w5 ⟨rfl, rfl⟩
        rename World => w0
        rw [hd3]
        go_wp2_with fail
        refine (refhex_at d hd2 _).mono ?_
        rintro v w5 ⟨rfl, rfl⟩
        rename World => w0
        rw [hd3]
        go_wp2
        go_roundw
        case rel => exact ⟨trivial, .inr (.inr ⟨h, e, hh16, hd16, Lib.hid ⟨hh.out, rfl⟩, by go_num, by go_num⟩)⟩
        case measure => simp [intOf]; omega
    · have hN : Blk (w0.alloc (.cells #[.int .i64 (((16 * h + l : Nat) : Nat) : Int), .int .i64 (((16 * h + l : Nat) : Nat) : Int)] 42)) w0.heap.size 42 (prsL [(16 * h + l, 16 * h + l)]) := Blk.new w0 (prsL [(16 * h + l, 16 * h + l)]) 42
      have HX2 := Lib.hid (show refV (escM (bytesN s) i) = .tuple #[setV (someM [(16 * h + l, 16 * h + l)] false), endV (i + 4) 0] from HX.out.trans (by rw [hh.out.1, hh.out.2]))
      clear hh HX
      generalize 16 * h + l = hl at *
      go_wp2_with fail
      refine (some_at [(hl, hl)] false hN (by simp)).mono ?_
      rintro v w2 ⟨rfl, hb2⟩
      have hf2 := (hok.fin.alloc (.cells #[.int .i64 ((hl : Nat) : Int), .int .i64 ((hl : Nat) : Int)] 42)).below hb2 (hok.fin.alloc (.cells #[.int .i64 ((hl : Nat) : Int), .int .i64 ((hl : Nat) : Int)] 42)).lt
      have hr2 := (hok.r.alloc (.cells #[.int .i64 ((hl : Nat) : Int), .int .i64 ((hl : Nat) : Int)] 42)).below hb2 (hok.r.alloc (.cells #[.int .i64 ((hl : Nat) : Int), .int .i64 ((hl : Nat) : Int)] 42)).lt
      have he2 := (hok.e.alloc (.cells #[.int .i64 ((hl : Nat) : Int), .int .i64 ((hl : Nat) : Int)] 42)).below hb2 (hok.e.alloc (.cells #[.int .i64 ((hl : Nat) : Int), .int .i64 ((hl : Nat) : Int)] 42)).lt
      have hbb := (hok.below.alloc hok.below.size (.cells #[.int .i64 ((hl : Nat) : Int), .int .i64 ((hl : Nat) : Int)] 42)).trans (hb2.mono (hok.below.alloc hok.below.size (.cells #[.int .i64 ((hl : Nat) : Int), .int .i64 ((hl : Nat) : Int)] 42)).size)
      obtain ⟨x0, x1, x2, x3, y0, y1, y2, y3⟩ := hr2.four
      obtain ⟨v0, v1, v2, v3⟩ := two_cells he2
      unfold setV
      go_wp2
      have hz := two_done hr2 he2 hbb (someM [(hl, hl)] false) (i + 4) 0 (.int .i64 (((i : Nat) : Int) + 4)) rfl
      simp only [putCells, setL] at hz
      obtain ⟨hrz, hez, hbz⟩ := hz
      generalize World.setCell _ _ _ = wz at *
      clear hr2 he2 hbb hf2 hok x0 x1 x2 x3 y0 y1 y2 y3 v0 v1 v2 v3 hb2
      refine ret_two (b := w.heap.size) (b' := w.heap.size + 1) rfl rfl rfl hrz hez rfl ⟨?_, hbz⟩
      exact congrArg Ending.returned HX2.out.symm
end Go.Proofs.YtckoebfmoggeoaaDoor
/- The reference of layer 5: Escape whole, item. -/
namespace Go.Proofs.YtckoebfmoggeoaaDoor
set_option maxRecDepth 100000
open Go.RowKit
set_option maxRecDepth 100000 in
set_option maxHeartbeats 2000000 in
theorem refesc_end (s : ByteArray) (i : Nat) (hi : i + 1 = s.size) (hs : s.size ≤ 1048576) (w : World) :
    Calls Tryd.prog 56 #[.string s, .int .i64 ((i : Nat) : Int)] w fun v w' => v = .returned (refV (escM (bytesN s) i)) ∧ Below w.heap.size w w' := by
  have HX := Lib.hid (resc_end (t := bytesN s) (i := i) (List.getElem?_eq_none (by rw [bytesN_length]; omega)))
  have HZ := Lib.hid hi
  have hge : ((s.size : Nat) : Int) ≤ ((i : Nat) : Int) + 1 := by omega
  have hlt : i < s.size := by omega
  clear hi
  have HI := Lib.hid (show ((s.size : Nat) : Int) = ((i : Nat) : Int) + 1 by have := HZ.out; omega)
  go_enter Tryd.func56, Tryd.ntmps56
  go_wp2
  have st := ((St.nil w).alloc rfl (setL noSet) 29).alloc (n := w.heap.size + 1) (by simp) [.int .i64 ((s.size : Nat) : Int), .int .i64 4] 88
  rw [setL_none] at st
  have hg := st.get 0 rfl
  rw [HI.out] at hg
  refine ret_two (b := w.heap.size) (b' := w.heap.size + 1) (m := noSet) (j := i + 1) (e := 4) rfl rfl rfl (by rw [setL_none]; exact st.get 1 rfl) (by rw [HI.out]; exact hg) rfl ⟨?_, st.below⟩
  exact congrArg Ending.returned HX.out.symm
theorem refesc_at (s : ByteArray) (i : Nat) (hi : i < s.size) (hs : s.size ≤ 1048576) (w : World) :
    Calls Tryd.prog 56 #[.string s, .int .i64 ((i : Nat) : Int)] w fun v w' => v = .returned (refV (escM (bytesN s) i)) ∧ Below w.heap.size w w' := by
  cases hc : (bytesN s)[i + 1]? with
  | none => exact refesc_end s i (by have := bytesN_none hc; omega) hs w
  | some c =>
    obtain ⟨hi1, _⟩ := bytesN_some hc
    cases hsp : specialL.contains c with
    | true => exact refesc_special s i hi1 hs c hc hsp w
    | false =>
      by_cases k0 : c = 110
      · exact refesc_110 s i hi1 hs c hc hsp k0 w
      by_cases k1 : c = 116
      · exact refesc_116 s i hi1 hs c hc hsp k0 k1 w
      by_cases k2 : c = 114
      · exact refesc_114 s i hi1 hs c hc hsp k0 k1 k2 w
      by_cases k3 : c = 102
      · exact refesc_102 s i hi1 hs c hc hsp k0 k1 k2 k3 w
      by_cases k4 : c = 118
      · exact refesc_118 s i hi1 hs c hc hsp k0 k1 k2 k3 k4 w
      by_cases k5 : c = 100
      · exact refesc_100 s i hi1 hs c hc hsp k0 k1 k2 k3 k4 k5 w
      by_cases k6 : c = 68
      · exact refesc_68 s i hi1 hs c hc hsp k0 k1 k2 k3 k4 k5 k6 w
      by_cases k7 : c = 119
      · exact refesc_119 s i hi1 hs c hc hsp k0 k1 k2 k3 k4 k5 k6 k7 w
      by_cases k8 : c = 87
      · exact refesc_87 s i hi1 hs c hc hsp k0 k1 k2 k3 k4 k5 k6 k7 k8 w
      by_cases k9 : c = 115
      · exact refesc_115 s i hi1 hs c hc hsp k0 k1 k2 k3 k4 k5 k6 k7 k8 k9 w
      by_cases k10 : c = 83
      · exact refesc_83 s i hi1 hs c hc hsp k0 k1 k2 k3 k4 k5 k6 k7 k8 k9 k10 w
      by_cases k11 : c = 120
      · exact refesc_hex s i hi1 hs c hc hsp k0 k1 k2 k3 k4 k5 k6 k7 k8 k9 k10 k11 w
      cases ho : otherL.contains c with
      | true => exact refesc_other s i hi1 hs c hc hsp k0 k1 k2 k3 k4 k5 k6 k7 k8 k9 k10 k11 ho w
      | false => exact refesc_none s i hi1 hs c hc hsp k0 k1 k2 k3 k4 k5 k6 k7 k8 k9 k10 k11 ho w
/-- A reading's result, and where. -/
theorem refV_form (r : Res (Nat → Bool)) : ∃ m j e, refV r = .tuple #[setV m, endV j e] ∧ ((∃ m' j', r = .ok m' j' ∧ m = m' ∧ j = j' ∧ e = 0) ∨ (∃ j' e', r = .err j' e' ∧ m = noSet ∧ j = j' ∧ e = e')) := by
  cases r with
  | ok m j => exact ⟨m, j, 0, rfl, .inl ⟨m, j, rfl, rfl, rfl, rfl⟩⟩
  | err j e => exact ⟨noSet, j, e, rfl, .inr ⟨j, e, rfl, rfl, rfl, rfl⟩⟩
theorem ritem_inner {t : List Nat} {i c : Nat} (hc : t[i]? = some c) (h : innerL.contains c = true) : refV (itemM t i) = .tuple #[setV noSet, endV i 4] := by
  unfold itemM; rw [hc]; simp only []; rw [if_pos h]; rfl
theorem ritem_end {t : List Nat} {i : Nat} (hc : t[i]? = none) : refV (itemM t i) = .tuple #[setV noSet, endV i 4] := by
  unfold itemM; rw [hc]; rfl
theorem ritem_esc {t : List Nat} {i c : Nat} (hc : t[i]? = some c) (h : innerL.contains c = false) (hx : c = 92) : itemM t i = escM t i := by
  unfold itemM; rw [hc]; simp only []; rw [if_neg (by rw [h]; simp), if_pos hx]
theorem ritem_one {t : List Nat} {i c : Nat} (hc : t[i]? = some c) (h : innerL.contains c = false) (hx : c ≠ 92) : refV (itemM t i) = .tuple #[setV (someM [(c, c)] false), endV (i + 1) 0] := by
  unfold itemM; rw [hc]; simp only []; rw [if_neg (by rw [h]; simp), if_neg hx, ← some_one]; rfl
set_option maxRecDepth 100000 in
set_option maxHeartbeats 2000000 in
theorem refitem_end (s : ByteArray) (i : Nat) (hi : i = s.size) (_hs : s.size ≤ 1048576) (w : World) :
    Calls Tryd.prog 82 #[.string s, .int .i64 ((i : Nat) : Int)] w fun v w' => v = .returned (refV (itemM (bytesN s) i)) ∧ Below w.heap.size w w' := by
  subst hi
  have HX := Lib.hid (ritem_end (t := bytesN s) (i := s.size) (List.getElem?_eq_none (by rw [bytesN_length]; omega)))
  have hmin : min ((s.size : Nat) : Int) ((s.size : Nat) : Int) = ((s.size : Nat) : Int) := by omega
  go_enter Tryd.func82, Tryd.ntmps82
  go_wp2
  have st := ((St.nil w).alloc rfl (setL noSet) 29).alloc (n := w.heap.size + 1) (by simp) [.int .i64 ((s.size : Nat) : Int), .int .i64 4] 88
  rw [setL_none] at st
  refine ret_two (b := w.heap.size) (b' := w.heap.size + 1) (m := noSet) (j := s.size) (e := 4) rfl rfl rfl (by rw [setL_none]; exact st.get 1 rfl) (st.get 0 rfl) rfl ⟨?_, st.below⟩
  exact congrArg Ending.returned HX.out.symm
set_option maxRecDepth 100000 in
set_option maxHeartbeats 2000000 in
theorem refitem_in (s : ByteArray) (i : Nat) (hi : i < s.size) (hs : s.size ≤ 1048576) (w : World) :
    Calls Tryd.prog 82 #[.string s, .int .i64 ((i : Nat) : Int)] w fun v w' => v = .returned (refV (itemM (bytesN s) i)) ∧ Below w.heap.size w w' := by
  have HG := Lib.hid (show (bytesN s)[i]? = some (s[i]'hi).toNat by
    unfold bytesN
    rw [List.getElem?_map, Array.getElem?_toList, Array.getElem?_eq_getElem hi]
    rfl)
  have hc256 := (s[i]'hi).toNat_lt
  obtain ⟨c, hc⟩ : ∃ c, (s[i]'hi).toNat = c := ⟨_, rfl⟩
  rw [hc] at HG hc256
  have hnge : ¬((s.size : Nat) : Int) ≤ ((i : Nat) : Int) := by omega
  have hmin : min ((i : Nat) : Int) ((s.size : Nat) : Int) = ((i : Nat) : Int) := by omega
  cases hin : innerL.contains c with
  | true =>
    have HX := Lib.hid (ritem_inner HG.out hin)
    have HIN := Lib.hid hin
    clear hin
    go_enter Tryd.func82, Tryd.ntmps82
    go_wp2_with fail
    refine ((((St.nil w).alloc rfl [.int .u64 0, .int .u64 0, .int .u64 0, .int .u64 0] 29).alloc (n := w.heap.size + 1) (by simp) [.int .i64 0, .int .i64 0] 88)).at ?_
    intro w1 st
    refine (refin_at _ c _ (by decide)).mono ?_
    rintro v w2 ⟨rfl, rfl⟩
    rename World => w1
    rw [show (bytesN { data := #[91, 93, 45, 94] }) = innerL from rfl, HIN.out]
    obtain ⟨⟨c0, c1, c2, c3⟩, f0, f1, f2, f3⟩ := st.four 1 rfl
    obtain ⟨⟨d0, d1⟩, g0, g1⟩ := st.two 0 rfl
    go_wp2
    have st2 := (((((st.set 1 rfl 0 (.int .u64 0)).set 1 rfl 1 (.int .u64 0)).set 1 rfl 2 (.int .u64 0)).set 1 rfl 3 (.int .u64 0)).set 0 rfl 0 (.int .i64 ((i : Nat) : Int))).set 0 rfl 1 (.int .i64 4)
    refine ret_two (b := w.heap.size) (b' := w.heap.size + 1) (m := noSet) (j := i) (e := 4) rfl rfl rfl (by rw [setL_none]; exact st2.get 1 rfl) (st2.get 0 rfl) rfl ⟨?_, st2.below⟩
    exact congrArg Ending.returned HX.out.symm
  | false =>
    by_cases hx : c = 92
    · have HX := Lib.hid (congrArg refV (ritem_esc HG.out hin hx))
      have HIN := Lib.hid hin
      have HC := Lib.hid hx
      clear hin hx
      go_enter Tryd.func82, Tryd.ntmps82
      go_wp2_with fail
      refine ((((St.nil w).alloc rfl [.int .u64 0, .int .u64 0, .int .u64 0, .int .u64 0] 29).alloc (n := w.heap.size + 1) (by simp) [.int .i64 0, .int .i64 0] 88)).at ?_
      intro w1 st
      refine (refin_at _ c _ (by decide)).mono ?_
      rintro v w2 ⟨rfl, rfl⟩
      rename World => w1
      rw [show (bytesN { data := #[91, 93, 45, 94] }) = innerL from rfl, HIN.out]
      have hx' : ((c : Nat) : Int) = 92 := by have := HC.out; omega
      go_wp2_with fail
      refine (refesc_at s i hi hs _).mono ?_
      rintro v w2 ⟨rfl, hb⟩
      replace st := st.below' hb
      obtain ⟨m, j, e, hr, hr'⟩ := refV_form (escM (bytesN s) i)
      rw [hr]
      have HR := Lib.hid hr
      clear hr hr' hb
      obtain ⟨⟨c0, c1, c2, c3⟩, f0, f1, f2, f3⟩ := st.four 1 rfl
      obtain ⟨⟨d0, d1⟩, g0, g1⟩ := st.two 0 rfl
      unfold setV
      go_wp2
      have st2 := (((((st.set 1 rfl 0 (.int .u64 (word m 0))).set 1 rfl 1 (.int .u64 (word m 1))).set 1 rfl 2 (.int .u64 (word m 2))).set 1 rfl 3 (.int .u64 (word m 3))).set 0 rfl 0 (.int .i64 ((j : Nat) : Int))).set 0 rfl 1 (.int .i64 ((e : Nat) : Int))
      refine ret_two (b := w.heap.size) (b' := w.heap.size + 1) (m := m) (j := j) (e := e) rfl rfl rfl (st2.get 1 rfl) (st2.get 0 rfl) rfl ⟨?_, st2.below⟩
      exact congrArg Ending.returned (HX.out.trans HR.out).symm
    · have HX := Lib.hid (ritem_one HG.out hin hx)
      have HIN := Lib.hid hin
      have hq : (((c : Nat) : Int) == 92) = false := by rw [beq_eq_false_iff_ne]; omega
      clear hin hx
      go_enter Tryd.func82, Tryd.ntmps82
      go_wp2_with fail
      refine ((((St.nil w).alloc rfl [.int .u64 0, .int .u64 0, .int .u64 0, .int .u64 0] 29).alloc (n := w.heap.size + 1) (by simp) [.int .i64 0, .int .i64 0] 88)).at ?_
      intro w1 st
      refine (refin_at _ c _ (by decide)).mono ?_
      rintro v w2 ⟨rfl, rfl⟩
      rename World => w1
      rw [show (bytesN { data := #[91, 93, 45, 94] }) = innerL from rfl, HIN.out]
      go_wp2_with fail
      have hblt : w.heap.size < w1.heap.size := (st.get 1 rfl).lt
      have hblt2 : w.heap.size + 1 < w1.heap.size := (st.get 0 rfl).lt
      have hwc : IntKind.i64.wrap ((c : Nat) : Int) = ((c : Nat) : Int) := IntWalk.i64_in _ (by omega)
      have hwi : IntKind.i64.wrap (((i : Nat) : Int) + 1) = ((i : Nat) : Int) + 1 := IntWalk.i64_in _ (by omega)
      have hN : Blk ((w1.alloc (.cells #[.int .i64 ((c : Nat) : Int), .int .i64 ((c : Nat) : Int)] 42)).drew) w1.heap.size 42 (prsL [(c, c)]) := (Blk.new w1 (prsL [(c, c)]) 42).drew
      go_region_with (first
        | (go_at_call 58; refine (some_at [(c, c)] false hN (by simp)).mono ?_; rintro v w3 ⟨rfl, hb⟩; have st3 := (st.alloc (n := w1.heap.size) rfl (prsL [(c, c)]) 42).drew.below' hb; obtain ⟨⟨c0, c1, c2, c3⟩, f0, f1, f2, f3⟩ := st3.four 2 rfl; obtain ⟨⟨d0, d1⟩, g0, g1⟩ := st3.two 1 rfl; unfold setV))
      all_goals
        have st2 := (((((st3.set 2 rfl 0 (.int .u64 (word (someM [(c, c)] false) 0))).set 2 rfl 1 (.int .u64 (word (someM [(c, c)] false) 1))).set 2 rfl 2 (.int .u64 (word (someM [(c, c)] false) 2))).set 2 rfl 3 (.int .u64 (word (someM [(c, c)] false) 3))).set 1 rfl 0 (.int .i64 (((i : Nat) : Int) + 1))).set 1 rfl 1 (.int .i64 0)
        generalize World.setCell _ _ _ = wz at *
        clear c0 c1 c2 c3 f0 f1 f2 f3 d0 d1 g0 g1 hN hb st3 st
        go_wp2
        refine ret_two (b := w.heap.size) (b' := w.heap.size + 1) (m := someM [(c, c)] false) (j := i + 1) (e := 0) rfl rfl rfl (st2.get 2 rfl) (st2.get 1 rfl) rfl ⟨?_, st2.below⟩
        exact congrArg Ending.returned HX.out.symm
theorem refitem_at (s : ByteArray) (i : Nat) (hi : i ≤ s.size) (hs : s.size ≤ 1048576) (w : World) :
    Calls Tryd.prog 82 #[.string s, .int .i64 ((i : Nat) : Int)] w fun v w' => v = .returned (refV (itemM (bytesN s) i)) ∧ Below w.heap.size w w' := by
  rcases Nat.lt_or_ge i s.size with h | h
  · exact refitem_in s i h hs w
  · exact refitem_end s i (by omega) hs w
end Go.Proofs.YtckoebfmoggeoaaDoor
