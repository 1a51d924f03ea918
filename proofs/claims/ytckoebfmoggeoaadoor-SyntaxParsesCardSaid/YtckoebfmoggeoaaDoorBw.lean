/- The reference of layer 5: in, some, hex. -/
import Derived.Test.YtckoebfmoggeoaaDoorBb
import Derived.Test.YtckoebfmoggeoaaDoorBa
import Derived.Test.YtckoebfmoggeoaaDoorBe
import Derived.Deep.Cut
namespace Go.Proofs.YtckoebfmoggeoaaDoor
set_option maxRecDepth 100000
open Go.RowKit
set_option maxHeartbeats 1000000 in
theorem refin_at (s : ByteArray) (c : Nat) (w : World) (hs : s.size ≤ 1048576) :
    Calls Tryd.prog 59 #[.string s, .int .u8 ((c : Nat) : Int)] w fun e w' => e = .returned (.bool ((bytesN s).contains c)) ∧ w' = w := by
  go_enter Tryd.func59, Tryd.ntmps59
  go_wp2_with fail
  go_loopw [5] (fun iv wr => ∃ k : Nat, iv = .int .i64 ((k : Nat) : Int) ∧ wr = w ∧ k ≤ s.size ∧ Hid (∀ j, j < k → (bytesN s)[j]? ≠ some c)) (fun iv _ => s.size - (intOf iv).toNat)
  case atStart => exact ⟨0, rfl, rfl, Nat.zero_le _, fun j h => absurd h (Nat.not_lt_zero j)⟩
  case round =>
    obtain ⟨k, rfl, rfl, hk, hno⟩ := hrel
    by_cases hlt : k < s.size
    · have hget : (bytesN s)[k]? = some (s[k]'hlt).toNat := by
        unfold bytesN
        rw [List.getElem?_map, Array.getElem?_toList, Array.getElem?_eq_getElem hlt]
        rfl
      have HG := Lib.hid hget
      clear hget
      by_cases hd : (s[k]'hlt).toNat = c
      · have hdc : ((((s[k]'hlt).toNat : Nat) : Int) == ((c : Nat) : Int)) = true := by rw [beq_iff_eq]; omega
        have HD := Lib.hid hd
        clear hd
        go_wp2
        go_returns
        refine ⟨?_, rfl⟩
        rw [List.contains_iff_mem.2 (List.mem_of_getElem? (by rw [HG.out, HD.out]))]
        rfl
      · have hdc : ((((s[k]'hlt).toNat : Nat) : Int) == ((c : Nat) : Int)) = false := by rw [beq_eq_false_iff_ne]; omega
        have HD := Lib.hid hd
        clear hd
        go_wp2
        go_roundw
        case rel =>
          refine ⟨k + 1, by go_num, trivial, hlt, fun j hj => ?_⟩
          rcases Nat.lt_or_ge j k with h | h
          · exact hno.out j h
          · obtain rfl : j = k := by omega
            rw [HG.out]
            intro e
            injection e with e
            exact HD.out e
        case measure => simp [intOf]; omega
    · obtain rfl : k = s.size := by omega
      go_wp2
      go_returns
      refine ⟨?_, rfl⟩
      have : ¬(bytesN s).contains c = true := by
        rw [List.contains_iff_mem]
        intro hm
        obtain ⟨j, hj⟩ := List.getElem?_of_mem hm
        have := (List.getElem?_eq_some_iff.1 hj).1
        rw [bytesN_length] at this
        exact hno.out j this hj
      rw [Bool.not_eq_true] at this
      rw [this]
      rfl
/-- Pairs' cells. -/
def prsL (l : List (Nat × Nat)) : List Value := l.flatMap fun p => [.int .i64 ((p.1 : Nat) : Int), .int .i64 ((p.2 : Nat) : Int)]
def inAny (l : List (Nat × Nat)) (x : Nat) : Bool := l.any fun p => decide (p.1 ≤ x) && decide (x ≤ p.2)
def someM (l : List (Nat × Nat)) (nt : Bool) (x : Nat) : Bool := inAny l x != nt
theorem prsL_get : ∀ {l : List (Nat × Nat)} {k : Nat} {p : Nat × Nat}, l[k]? = some p → (prsL l)[k * 2]? = some (.int .i64 ((p.1 : Nat) : Int)) ∧ (prsL l)[k * 2 + 1]? = some (.int .i64 ((p.2 : Nat) : Int)) := by
  intro l
  induction l with
  | nil => intro k p h; cases h
  | cons q r ih =>
    intro k p h
    cases k with
    | zero => injection h with h; subst h; exact ⟨rfl, rfl⟩
    | succ k =>
      obtain ⟨h1, h2⟩ := ih (show r[k]? = some p from h)
      rw [show (k + 1) * 2 = k * 2 + 2 by omega, show k * 2 + 2 + 1 = k * 2 + 1 + 2 by omega]
      exact ⟨h1, h2⟩
theorem inAny_snoc (l : List (Nat × Nat)) (k x : Nat) (h : k < l.length) : inAny (l.take (k + 1)) x = (inAny (l.take k) x || (decide (l[k].1 ≤ x) && decide (x ≤ l[k].2))) := by
  unfold inAny
  rw [List.take_succ_eq_append_getElem h, List.any_append]
  simp
set_option maxRecDepth 100000 in
set_option maxHeartbeats 2000000 in
theorem some_at (l : List (Nat × Nat)) (nt : Bool) {b : Nat} {w : World} (hb : Blk w b 42 (prsL l)) (hl : l.length ≤ 4) :
    Calls Tryd.prog 58 #[.slice (some ⟨b, 0, none⟩) l.length l.length, .bool nt] w fun e w' => e = .returned (setV (someM l nt)) ∧ Below w.heap.size w w' := by
  have hlt := hb.lt
  have HM := Lib.hid (make_bools (w.alloc (.cells (setL fun _ => false).toArray 29)))
  go_enter Tryd.func58, Tryd.ntmps58
  have hrun := HM.out
  rw [show (setL fun _ => false).toArray = #[.int .u64 0, .int .u64 0, .int .u64 0, .int .u64 0] by rw [setL, word_none, word_none, word_none, word_none]] at hrun
  generalize hcs : (List.replicate 256 (Value.bool false)).toArray = cs at hrun
  have HC := Lib.hid hcs
  clear hcs
  go_wp2_with fail
  have hR : Blk ((w.alloc (.cells #[.int .u64 0, .int .u64 0, .int .u64 0, .int .u64 0] 29)).alloc (.cells cs 4)) w.heap.size 29 (setL fun _ => false) := by
    rw [setL, word_none, word_none, word_none, word_none]
    exact (Blk.new w _ _).alloc _
  have hO : Blk ((w.alloc (.cells #[.int .u64 0, .int .u64 0, .int .u64 0, .int .u64 0] 29)).alloc (.cells cs 4)) (w.heap.size + 1) 4 (boolsL (someM l nt) 0) := by
    rw [boolsL_zero, ← HC.out]
    exact blk_new2 w _ _ _
  have hB : Blk ((w.alloc (.cells #[.int .u64 0, .int .u64 0, .int .u64 0, .int .u64 0] 29)).alloc (.cells cs 4)) b 42 (prsL l) := (hb.alloc _).alloc _
  have hbw : Below w.heap.size w ((w.alloc (.cells #[.int .u64 0, .int .u64 0, .int .u64 0, .int .u64 0] 29)).alloc (.cells cs 4)) := (((Below.refl _ w).alloc (Nat.le_refl _) _).alloc (by simp) _)
  clear hrun HM hb HC
  generalize (w.alloc _).alloc _ = wa at *
  go_loopw [6] (fun iv wr => ∃ k : Nat, iv = .int .i64 ((k : Nat) : Int) ∧ k ≤ 256 ∧ Blk wr w.heap.size 29 (setL fun _ => false) ∧ Blk wr (w.heap.size + 1) 4 (boolsL (someM l nt) k) ∧ Blk wr b 42 (prsL l) ∧ Below w.heap.size w wr) (fun iv _ => 256 - (intOf iv).toNat)
  case atStart => exact ⟨0, rfl, by omega, hR, hO, hB, hbw⟩
  case round =>
    clear hR hO hB hbw
    obtain ⟨k, rfl, hk, hR, hO, hB, hbw⟩ := hrel
    by_cases h256 : k < 256
    · go_wp2_with fail
      go_loopw [7, 8] (fun sv jv wi => ∃ j : Nat, jv = .int .i64 ((j : Nat) : Int) ∧ j ≤ l.length ∧ sv = .bool (inAny (l.take j) k) ∧ wi = wr) (fun _ jv _ => l.length - (intOf jv).toNat)
      case atStart => exact ⟨0, rfl, Nat.zero_le _, by simp [inAny], rfl⟩
      case round =>
        obtain ⟨j, rfl, hj, rfl, rfl⟩ := hrel
        by_cases hlj : j < l.length
        · obtain ⟨q1, q2⟩ := prsL_get (List.getElem?_eq_getElem hlj)
          have c1 := (hB.cell (j * 2)).trans q1
          have c2 := (hB.cell (j * 2 + 1)).trans q2
          have HS := Lib.hid (inAny_snoc l j k hlj)
          clear q1 q2
          generalize l[j] = p at *
          obtain ⟨p1, p2⟩ := p
          dsimp only at c1 c2
          generalize inAny (l.take j) k = x at *
          have HS' := Lib.hid (show inAny (l.take (j + 1)) k = (x || (decide (p1 ≤ k) && decide (k ≤ p2))) from HS.out)
          clear HS
          cases x
          · by_cases y1 : p1 ≤ k
            · by_cases y2 : k ≤ p2
              all_goals
                have HY := Lib.hid (And.intro y1 y2)
                go_wp2
                go_roundw
                case rel =>
                  refine ⟨j + 1, by go_num, hlj, ?_, trivial⟩
                  rw [HS'.out]
                  simp [HY.out.1, HY.out.2]
                case measure => simp [intOf]; omega
            · have HY := Lib.hid y1
              go_wp2
              go_roundw
              case rel =>
                refine ⟨j + 1, by go_num, hlj, ?_, trivial⟩
                rw [HS'.out]
                simp [HY.out]
              case measure => simp [intOf]; omega
          · go_wp2
            go_roundw
            case rel =>
              refine ⟨j + 1, by go_num, hlj, ?_, trivial⟩
              rw [HS'.out]
              simp
            case measure => simp [intOf]; omega
        · obtain rfl : j = l.length := by omega
          rw [List.take_length]
          have hlO : (k : Nat) < (boolsL (someM l nt) k).length := by simp [boolsL]; omega
          have co := (hO.cell k).trans (List.getElem?_eq_getElem hlO)
          have fo := hO.frozen k
          have HX := Lib.hid (show someM l nt k = (inAny l k != nt) from rfl)
          generalize inAny l k = x at *
          go_wp2
          go_roundw
          case rel =>
            refine ⟨k + 1, by go_num, h256, hR.far (p := ⟨w.heap.size + 1, k, none⟩) (by simp) _, ?_, hB.far (p := ⟨w.heap.size + 1, k, none⟩) (by simp; omega) _, hbw.setCell (p := ⟨w.heap.size + 1, k, none⟩) (by simp) _⟩
            rw [boolsL_succ, HX.out]
            exact hO.set k _
          case measure => simp [intOf]; omega
    · obtain rfl : k = 256 := by omega
      have hrd : RdV wr (.slice (some ⟨w.heap.size + 1, 0, none⟩) 256 256) (((List.range 256).map (someM l nt)).map .bool) := by
        refine ⟨some ⟨w.heap.size + 1, 0, none⟩, 256, by simp, by simp, by simp, fun i u hu => ⟨_, rfl, hO.lt, ?_⟩⟩
        rw [show (⟨w.heap.size + 1, 0, none⟩ : Addr).add i = ⟨w.heap.size + 1, i, none⟩ by unfold Addr.add; split <;> simp_all, hO.cell i, ← hu]
        unfold boolsL
        rw [List.map_map]
        refine congrArg (fun (z : List Value) => z[i]?) (List.map_congr_left ?_)
        intro x hx
        have := List.mem_range.1 hx
        simp [this]
      have HR := Lib.hid hrd
      clear hrd
      go_wp2_with fail
      refine (make_any _ _ wr HR.out).mono ?_
      rintro v w1 ⟨rfl, hb1⟩
      have hR1 := hR.below hb1 hR.lt
      have hbw1 := hbw.trans (hb1.mono hbw.size)
      have HV := Lib.hid (show setV (makeM (((List.range 256).map (someM l nt)).take 256)) = setV (someM l nt) from setV_congr fun x hx => by
        rw [List.take_of_length_le (by simp)]
        simp [makeM, List.getD_eq_getElem?_getD, hx])
      rw [HV.out]
      generalize hm : someM l nt = m at *
      have HM2 := Lib.hid hm
      clear hm
      clear hO HR HV hR hbw
      obtain ⟨_, _, _, _, f0, f1, f2, f3⟩ := hR1.four
      obtain ⟨c0, c1, c2, c3, _, _, _, _⟩ := hR1.four
      unfold setV
      go_wp2
      refine ret_set (b := w.heap.size) rfl rfl (hR1.set4 _ _ _ _) rfl ⟨by rw [HM2.out], below_set4 hbw1 (Nat.le_refl _) _ _ _ _⟩
end Go.Proofs.YtckoebfmoggeoaaDoor
/- The reference of layer 5: hex. -/
namespace Go.Proofs.YtckoebfmoggeoaaDoor
set_option maxRecDepth 100000
open Go.RowKit
theorem hexIx_num {c n : Nat} (h : hexM c = some n) : hexIx c = ((n : Nat) : Int) := by unfold hexIx; rw [h]
theorem hexIx_none {c : Nat} (h : hexM c = none) : hexIx c = -1 := by unfold hexIx; rw [h]
set_option maxHeartbeats 1000000 in
theorem refhex_at (c : Nat) (hc : c < 256) (w : World) :
    Calls Tryd.prog 81 #[.int .u8 ((c : Nat) : Int)] w fun e w' => e = .returned (.int .i64 (hexIx c)) ∧ w' = w := by
  by_cases a1 : 48 ≤ c
  · by_cases a2 : c ≤ 57
    · have HX := Lib.hid (show hexIx c = ((c : Nat) : Int) - 48 by unfold hexIx hexM; rw [if_pos ⟨a1, a2⟩]; simp only []; omega)
      go_enter Tryd.func81, Tryd.ntmps81
      go_wp2
      go_returns
      refine ⟨?_, rfl⟩
      rw [HX.out]
      rfl
    · by_cases a3 : 97 ≤ c
      · by_cases a4 : c ≤ 102
        · have HX := Lib.hid (show hexIx c = ((c : Nat) : Int) - 97 + 10 by unfold hexIx hexM; rw [if_neg (by omega), if_pos ⟨a3, a4⟩]; simp only []; omega)
          go_enter Tryd.func81, Tryd.ntmps81
          go_wp2
          go_returns
          refine ⟨?_, rfl⟩
          rw [HX.out]
          rfl
        · have HX := Lib.hid (show hexIx c = -1 by unfold hexIx hexM; rw [if_neg (by omega), if_neg (by omega), if_neg (by omega)])
          go_enter Tryd.func81, Tryd.ntmps81
          go_wp2
          go_returns
          refine ⟨?_, rfl⟩
          rw [HX.out]
          rfl
      · by_cases a5 : 65 ≤ c
        · by_cases a6 : c ≤ 70
          · have HX := Lib.hid (show hexIx c = ((c : Nat) : Int) - 65 + 10 by unfold hexIx hexM; rw [if_neg (by omega), if_neg (by omega), if_pos ⟨a5, a6⟩]; simp only []; omega)
            go_enter Tryd.func81, Tryd.ntmps81
            go_wp2
            go_returns
            refine ⟨?_, rfl⟩
            rw [HX.out]
            rfl
          · have HX := Lib.hid (show hexIx c = -1 by unfold hexIx hexM; rw [if_neg (by omega), if_neg (by omega), if_neg (by omega)])
            go_enter Tryd.func81, Tryd.ntmps81
            go_wp2
            go_returns
            refine ⟨?_, rfl⟩
            rw [HX.out]
            rfl
        · have HX := Lib.hid (show hexIx c = -1 by unfold hexIx hexM; rw [if_neg (by omega), if_neg (by omega), if_neg (by omega)])
          go_enter Tryd.func81, Tryd.ntmps81
          go_wp2
          go_returns
          refine ⟨?_, rfl⟩
          rw [HX.out]
          rfl
  · have HX := Lib.hid (show hexIx c = -1 by unfold hexIx hexM; rw [if_neg (by omega), if_neg (by omega), if_neg (by omega)])
    go_enter Tryd.func81, Tryd.ntmps81
    go_wp2
    go_returns
    refine ⟨?_, rfl⟩
    rw [HX.out]
    rfl
end Go.Proofs.YtckoebfmoggeoaaDoor
/- The reference of layer 5: Escape: what it needs. -/
namespace Go.Proofs.YtckoebfmoggeoaaDoor
set_option maxRecDepth 100000
open Go.RowKit
abbrev endL (j e : Nat) : List Value := [.int .i64 ((j : Nat) : Int), .int .i64 ((e : Nat) : Int)]
abbrev endV (j e : Nat) : Value := .agg (endL j e).toArray
def refV (r : Res (Nat → Bool)) : Value := match r with
  | .ok m j => .tuple #[setV m, endV j 0]
  | .err j e => .tuple #[setV noSet, endV j e]
theorem info_end : (Tryd.prog.info? 88).map (·.size) = some 2 := by kernel_rfl
theorem info_set : (Tryd.prog.info? 29).map (·.size) = some 4 := by kernel_rfl
theorem load_end {w : World} {b : Nat} {j e : Nat} (h : Blk w b 88 (endL j e)) : (loadVar 88 ⟨b, 0, none⟩).run Tryd.prog w = .ok (endV j e) w :=
  run_loadVar_row w b 88 _ (endL j e).toArray (0, 0) _ h Tryd.underlying88 rfl (by rw [info_end]; simp)
theorem load_setc {w : World} {b : Nat} {m : Nat → Bool} (h : Blk w b 29 (setL m)) : (loadVar 29 ⟨b, 0, none⟩).run Tryd.prog w = .ok (setV m) w :=
  run_loadVar_row w b 29 _ (setL m).toArray (0, 0) _ h Tryd.underlying29 rfl (by rw [info_set]; simp [setL])
theorem ret_two {fn : Func} {R : Ending → World → Prop} {a : Act} {w : World} {b b' r r' : Nat} {m : Nat → Bool} {j e : Nat} (hres : fn.results = #[.cell r 29, .cell r' 88])
    (hr : a.tmps.getD r undef = .pointer (some ⟨b, 0, none⟩)) (hr' : a.tmps.getD r' undef = .pointer (some ⟨b', 0, none⟩)) (h : Blk w b 29 (setL m)) (h' : Blk w b' 88 (endL j e)) (hd : a.defers = [])
    (hR : R (.returned (.tuple #[setV m, endV j e])) w) : bodyPost Tryd.prog fn R .ret a w := by
  have hl1 := load_setc h
  have hl2 := load_end h'
  refine bodyPost_ret (v := .tuple #[setV m, endV j e]) ?_ hd hR
  have q1 : a.tmps[r]?.getD undef = .pointer (some ⟨b, 0, none⟩) := by simpa using hr
  have q2 : a.tmps[r']?.getD undef = .pointer (some ⟨b', 0, none⟩) := by simpa using hr'
  simp [results, hres, q1, q2, hl1, hl2, asAddr]
theorem new_at (w : World) (cs : List Value) (t : TypeId) {k : Nat} (h : w.heap.size = k) : Blk (w.alloc (.cells cs.toArray t)) k t cs := h ▸ Blk.new w cs t
/-- What lies ready behind Escape's first lines. -/
structure EscOk (w wa : World) (i c : Nat) : Prop where
  r : Blk wa w.heap.size 29 (setL noSet)
  e : Blk wa (w.heap.size + 1) 88 (endL 0 0)
  one : Blk wa (w.heap.size + 2) 42 (prsL [(c, c)])
  digits : Blk wa (w.heap.size + 3) 42 (prsL [(48, 57)])
  word : Blk wa (w.heap.size + 4) 42 (prsL [(48, 57), (97, 122), (65, 90), (95, 95)])
  space : Blk wa (w.heap.size + 5) 42 (prsL [(9, 13), (32, 32)])
  fin : Blk wa (w.heap.size + 6) 88 (endL (i + 2) 0)
  below : Below w.heap.size w wa
theorem esc_ok (w : World) (i c : Nat) : EscOk w (((((((w.alloc (.cells #[.int .u64 0, .int .u64 0, .int .u64 0, .int .u64 0] 29)).alloc (.cells #[.int .i64 0, .int .i64 0] 88)).alloc (.cells #[.int .i64 ((c : Nat) : Int), .int .i64 ((c : Nat) : Int)] 42)).alloc (.cells #[.int .i64 48, .int .i64 57] 42)).alloc
    (.cells #[.int .i64 48, .int .i64 57, .int .i64 97, .int .i64 122, .int .i64 65, .int .i64 90, .int .i64 95, .int .i64 95] 42)).alloc (.cells #[.int .i64 9, .int .i64 13, .int .i64 32, .int .i64 32] 42)).alloc (.cells #[.int .i64 (((i : Nat) : Int) + 2), .int .i64 0] 88)) i c := by
  refine ⟨?_, ?_, ?_, ?_, ?_, ?_, ?_, ?_⟩
  · rw [show noSet = fun _ => false from rfl, setL, word_none, word_none, word_none, word_none]
    exact ((((((new_at _ _ _ (by simp)).alloc _).alloc _).alloc _).alloc _).alloc _).alloc _
  · exact (((((new_at _ (endL 0 0) _ (by simp)).alloc _).alloc _).alloc _).alloc _).alloc _
  · exact ((((new_at _ (prsL [(c, c)]) _ (by simp)).alloc _).alloc _).alloc _).alloc _
  · exact (((new_at _ (prsL [(48, 57)]) _ (by simp)).alloc _).alloc _).alloc _
  · exact ((new_at _ (prsL [(48, 57), (97, 122), (65, 90), (95, 95)]) _ (by simp)).alloc _).alloc _
  · exact (new_at _ (prsL [(9, 13), (32, 32)]) _ (by simp)).alloc _
  · exact new_at _ (endL (i + 2) 0) _ (by simp)
  · exact (((((((Below.refl _ w).alloc (Nat.le_refl _) _).alloc (by simp) _).alloc (by simp; omega) _).alloc (by simp; omega) _).alloc (by simp; omega) _).alloc (by simp; omega) _).alloc (by simp; omega) _
theorem two_cells {w : World} {b t : Nat} {u0 u1 : Value} (h : Blk w b t [u0, u1]) : w.cell? ⟨b, 0, none⟩ = some u0 ∧ w.cell? ⟨b, 1, none⟩ = some u1 ∧ w.frozen? ⟨b, 0, none⟩ = false ∧ w.frozen? ⟨b, 1, none⟩ = false :=
  ⟨h.cell 0, h.cell 1, h.frozen 0, h.frozen 1⟩
/-- Behind the stores of both results. -/
theorem two_done {w w2 : World} {j0 e0 : Nat} {m0 : Nat → Bool} (hr : Blk w2 w.heap.size 29 (setL m0)) (he : Blk w2 (w.heap.size + 1) 88 (endL j0 e0)) (hb : Below w.heap.size w w2) (m : Nat → Bool) (j e : Nat) (jv : Value) (hj : jv = .int .i64 ((j : Nat) : Int)) :
    Blk (putCells (putCells w2 w.heap.size 0 (setL m)) (w.heap.size + 1) 0 [jv, .int .i64 ((e : Nat) : Int)]) w.heap.size 29 (setL m) ∧
    Blk (putCells (putCells w2 w.heap.size 0 (setL m)) (w.heap.size + 1) 0 [jv, .int .i64 ((e : Nat) : Int)]) (w.heap.size + 1) 88 (endL j e) ∧
    Below w.heap.size w (putCells (putCells w2 w.heap.size 0 (setL m)) (w.heap.size + 1) 0 [jv, .int .i64 ((e : Nat) : Int)]) := by
  subst hj
  refine ⟨Blk.farPuts (by omega) _ _ _ _ (Blk.puts0 hr (setL m) rfl), ?_, ?_⟩
  · exact Blk.puts0 (Blk.farPuts (by omega) _ _ _ _ he) (endL j e) rfl
  · simp only [putCells]
    exact (((((hb.setCell (p := ⟨w.heap.size, 0, none⟩) (Nat.le_refl _) _).setCell (p := ⟨w.heap.size, 1, none⟩) (Nat.le_refl _) _).setCell (p := ⟨w.heap.size, 2, none⟩) (Nat.le_refl _) _).setCell (p := ⟨w.heap.size, 3, none⟩) (Nat.le_refl _) _).setCell (p := ⟨w.heap.size + 1, 0, none⟩) (by simp) _).setCell (p := ⟨w.heap.size + 1, 1, none⟩) (by simp) _
theorem some_one (c : Nat) : setV (oneM c) = setV (someM [(c, c)] false) := setV_congr fun x _ => by
  simp only [oneM, ofM, someM, inAny, List.any_cons, List.any_nil, Bool.or_false, Bool.bne_false]
  by_cases h : x = c
  · subst h; simp
  · have : ¬((x : Int) = (c : Int)) := by omega
    have h2 : ¬(c ≤ x ∧ x ≤ c) := by omega
    simp [this]
    omega
theorem set_by {m m' : Nat → Bool} (h : ∀ x : Fin 256, m x.val = m' x.val) : setV m = setV m' := setV_congr fun x hx => h ⟨x, hx⟩
theorem resc_special {t : List Nat} {i c : Nat} (hc : t[i + 1]? = some c) (h : specialL.contains c = true) : refV (escM t i) = .tuple #[setV (someM [(c, c)] false), endV (i + 2) 0] := by
  unfold escM
  rw [hc]
  dsimp only
  rw [if_pos h, ← some_one]
  rfl
theorem resc_named {t : List Nat} {i c : Nat} {m m' : Nat → Bool} (hc : t[i + 1]? = some c) (h : specialL.contains c = false) (hn : namedM c = some m) (hm : setV m = setV m') : refV (escM t i) = .tuple #[setV m', endV (i + 2) 0] := by
  unfold escM
  rw [hc]
  dsimp only
  rw [if_neg (by rw [h]; simp), hn, ← hm]
  rfl
theorem resc_named_110 {t : List Nat} {i c : Nat} (hc : t[i + 1]? = some c) (h : specialL.contains c = false) (hx : c = 110) : refV (escM t i) = .tuple #[setV (someM [(10, 10)] false), endV (i + 2) 0] := resc_named hc h (by rw [hx]; rfl) (some_one 10)
theorem resc_named_116 {t : List Nat} {i c : Nat} (hc : t[i + 1]? = some c) (h : specialL.contains c = false) (hx : c = 116) : refV (escM t i) = .tuple #[setV (someM [(9, 9)] false), endV (i + 2) 0] := resc_named hc h (by rw [hx]; rfl) (some_one 9)
theorem resc_named_114 {t : List Nat} {i c : Nat} (hc : t[i + 1]? = some c) (h : specialL.contains c = false) (hx : c = 114) : refV (escM t i) = .tuple #[setV (someM [(13, 13)] false), endV (i + 2) 0] := resc_named hc h (by rw [hx]; rfl) (some_one 13)
theorem resc_named_102 {t : List Nat} {i c : Nat} (hc : t[i + 1]? = some c) (h : specialL.contains c = false) (hx : c = 102) : refV (escM t i) = .tuple #[setV (someM [(12, 12)] false), endV (i + 2) 0] := resc_named hc h (by rw [hx]; rfl) (some_one 12)
theorem resc_named_118 {t : List Nat} {i c : Nat} (hc : t[i + 1]? = some c) (h : specialL.contains c = false) (hx : c = 118) : refV (escM t i) = .tuple #[setV (someM [(11, 11)] false), endV (i + 2) 0] := resc_named hc h (by rw [hx]; rfl) (some_one 11)
theorem resc_named_100 {t : List Nat} {i c : Nat} (hc : t[i + 1]? = some c) (h : specialL.contains c = false) (hx : c = 100) : refV (escM t i) = .tuple #[setV (someM [(48, 57)] false), endV (i + 2) 0] := resc_named hc h (by rw [hx]; rfl) (set_by (by decide +kernel))
theorem resc_named_68 {t : List Nat} {i c : Nat} (hc : t[i + 1]? = some c) (h : specialL.contains c = false) (hx : c = 68) : refV (escM t i) = .tuple #[setV (someM [(48, 57)] true), endV (i + 2) 0] := resc_named hc h (by rw [hx]; rfl) (set_by (by decide +kernel))
theorem resc_named_119 {t : List Nat} {i c : Nat} (hc : t[i + 1]? = some c) (h : specialL.contains c = false) (hx : c = 119) : refV (escM t i) = .tuple #[setV (someM [(48, 57), (97, 122), (65, 90), (95, 95)] false), endV (i + 2) 0] := resc_named hc h (by rw [hx]; rfl) (set_by (by decide +kernel))
theorem resc_named_87 {t : List Nat} {i c : Nat} (hc : t[i + 1]? = some c) (h : specialL.contains c = false) (hx : c = 87) : refV (escM t i) = .tuple #[setV (someM [(48, 57), (97, 122), (65, 90), (95, 95)] true), endV (i + 2) 0] := resc_named hc h (by rw [hx]; rfl) (set_by (by decide +kernel))
theorem resc_named_115 {t : List Nat} {i c : Nat} (hc : t[i + 1]? = some c) (h : specialL.contains c = false) (hx : c = 115) : refV (escM t i) = .tuple #[setV (someM [(9, 13), (32, 32)] false), endV (i + 2) 0] := resc_named hc h (by rw [hx]; rfl) (set_by (by decide +kernel))
theorem resc_named_83 {t : List Nat} {i c : Nat} (hc : t[i + 1]? = some c) (h : specialL.contains c = false) (hx : c = 83) : refV (escM t i) = .tuple #[setV (someM [(9, 13), (32, 32)] true), endV (i + 2) 0] := resc_named hc h (by rw [hx]; rfl) (set_by (by decide +kernel))
theorem hexAt_none {s : ByteArray} {P : Nat} (h : hexAt (bytesN s) P = none) : s.size ≤ P ∨ ∃ (hP : P < s.size) (c : Nat), (s[P]'hP).toNat = c ∧ c < 256 ∧ hexIx c = -1 := by
  rcases Nat.lt_or_ge P s.size with hP | hP
  · refine .inr ⟨hP, _, rfl, (s[P]'hP).toNat_lt, ?_⟩
    unfold hexAt bytesN at h
    rw [List.getElem?_map, Array.getElem?_toList, Array.getElem?_eq_getElem (show P < s.data.size from hP)] at h
    unfold hexIx
    rw [show hexM (s[P]'hP).toNat = none from h]
  · exact .inl hP
theorem hexAt_some {s : ByteArray} {P d : Nat} (h : hexAt (bytesN s) P = some d) : ∃ (hP : P < s.size) (c : Nat), (s[P]'hP).toNat = c ∧ c < 256 ∧ hexIx c = ((d : Nat) : Int) ∧ d < 16 := by
  rcases Nat.lt_or_ge P s.size with hP | hP
  · unfold hexAt bytesN at h
    rw [List.getElem?_map, Array.getElem?_toList, Array.getElem?_eq_getElem (show P < s.data.size from hP)] at h
    have hx : hexM (s[P]'hP).toNat = some d := h
    refine ⟨hP, _, rfl, (s[P]'hP).toNat_lt, ?_, hexM_lt hx⟩
    unfold hexIx
    rw [hx]
  · unfold hexAt at h
    rw [List.getElem?_eq_none (by rw [bytesN_length]; exact hP)] at h
    cases h
theorem resc_end {t : List Nat} {i : Nat} (hc : t[i + 1]? = none) : refV (escM t i) = .tuple #[setV noSet, endV (i + 1) 4] := by
  unfold escM
  rw [hc]
  rfl
theorem resc_hex {t : List Nat} {i c : Nat} (hc : t[i + 1]? = some c) (h : specialL.contains c = false) (hx : c = 120) :
    refV (escM t i) = match hexAt t (i + 2) with
      | none => .tuple #[setV noSet, endV (i + 2) 4]
      | some hi => match hexAt t (i + 3) with
        | none => .tuple #[setV noSet, endV (i + 3) 4]
        | some lo => .tuple #[setV (someM [(16 * hi + lo, 16 * hi + lo)] false), endV (i + 4) 0] := by
  unfold escM
  rw [hc]
  dsimp only
  rw [if_neg (by rw [h]; simp), show namedM c = none by rw [hx]; rfl]
  dsimp only
  rw [if_pos hx]
  cases hexAt t (i + 2) with
  | none => rfl
  | some hi =>
    dsimp only
    cases hexAt t (i + 3) with
    | none => rfl
    | some lo =>
      dsimp only
      rw [← some_one]
      rfl
theorem named_none {c : Nat} (n110 : c ≠ 110) (n116 : c ≠ 116) (n114 : c ≠ 114) (n102 : c ≠ 102) (n118 : c ≠ 118) (n100 : c ≠ 100) (n68 : c ≠ 68) (n119 : c ≠ 119) (n87 : c ≠ 87) (n115 : c ≠ 115) (n83 : c ≠ 83) : namedM c = none := by
  unfold namedM
  simp only [n110, n116, n114, n102, n118, n100, n68, n119, n87, n115, n83, if_false]
theorem resc_other {t : List Nat} {i c : Nat} (hc : t[i + 1]? = some c) (h : specialL.contains c = false) (hn : namedM c = none) (n120 : c ≠ 120) (ho : otherL.contains c = true) : refV (escM t i) = .tuple #[setV noSet, endV i 6] := by
  unfold escM
  rw [hc]
  dsimp only
  rw [if_neg (by rw [h]; simp), hn]
  dsimp only
  rw [if_neg n120, if_pos ho]
  rfl
theorem resc_none {t : List Nat} {i c : Nat} (hc : t[i + 1]? = some c) (h : specialL.contains c = false) (hn : namedM c = none) (n120 : c ≠ 120) (ho : otherL.contains c = false) : refV (escM t i) = .tuple #[setV noSet, endV (i + 1) 4] := by
  unfold escM
  rw [hc]
  dsimp only
  rw [if_neg (by rw [h]; simp), hn]
  dsimp only
  rw [if_neg n120, if_neg (by rw [ho]; simp)]
  rfl
end Go.Proofs.YtckoebfmoggeoaaDoor
/- The reference of layer 5: only. -/
namespace Go.Proofs.YtckoebfmoggeoaaDoor
set_option maxRecDepth 100000
open Go.RowKit
def lastM (m : Nat → Bool) : Nat → Int
  | 0 => -1
  | k + 1 => if m k then ((k : Nat) : Int) else lastM m k
def onlyZ (m : Nat → Bool) : Int := match onlyM m with | none => -1 | some a => ((a : Nat) : Int)
theorem cnt_naught {m : Nat → Bool} {n : Nat} (h : cnt m n = 0) : ∀ j, j < n → m j = false := by
  induction n with
  | zero => intro j hj; omega
  | succ n ih =>
    intro j hj
    simp only [cnt] at h
    rcases Nat.lt_or_ge j n with hl | hl
    · exact ih (by omega) j hl
    · obtain rfl : j = n := by omega
      cases hm : m j with
      | false => rfl
      | true => rw [hm] at h; simp at h
theorem last_single {m : Nat → Bool} : ∀ {n : Nat}, cnt m n = 1 → ∃ a : Nat, a < n ∧ lastM m n = ((a : Nat) : Int) ∧ m a = true ∧ ∀ j, j < a → m j = false := by
  intro n
  induction n with
  | zero => intro h; simp [cnt] at h
  | succ n ih =>
    intro h
    simp only [cnt] at h
    simp only [lastM]
    cases hm : m n with
    | true =>
      rw [hm] at h
      simp only [if_true] at h
      exact ⟨n, by omega, by simp, hm, cnt_naught (by omega)⟩
    | false =>
      rw [hm] at h
      simp only [Bool.false_eq_true, if_false, Nat.add_zero] at h
      obtain ⟨a, h1, h2, h3⟩ := ih h
      exact ⟨a, by omega, by simpa using h2, h3⟩
theorem onlyZ_last {m : Nat → Bool} (h : cnt m 256 = 1) : lastM m 256 = onlyZ m := by
  obtain ⟨a, h1, h2, h3, h4⟩ := last_single h
  unfold onlyZ onlyM
  rw [if_pos h, firstM_some h3 h1 h4, h2]
theorem onlyZ_none {m : Nat → Bool} (h : cnt m 256 ≠ 1) : onlyZ m = -1 := by
  unfold onlyZ onlyM
  rw [if_neg h]
theorem cnt_le_n (m : Nat → Bool) (n : Nat) : cnt m n ≤ n := by
  induction n with
  | zero => exact Nat.le_refl _
  | succ n ih =>
    simp only [cnt]
    split <;> omega
set_option maxRecDepth 100000 in
set_option maxHeartbeats 2000000 in
theorem refonly_at (m : Nat → Bool) (w : World) :
    Calls Tryd.prog 84 #[setV m] w fun v w' => v = .returned (.int .i64 (onlyZ m)) ∧ Below w.heap.size w w' := by
  have hl := Lib.hid (@onlyZ_last m)
  have hn := Lib.hid (@onlyZ_none m)
  unfold setV
  go_enter Tryd.func84, Tryd.ntmps84
  go_wp2_with fail
  go_loopw [3, 4, 5] (fun nv lv bv wr => ∃ k : Nat, k ≤ 256 ∧ bv = .int .i64 ((k : Nat) : Int) ∧ nv = .int .i64 ((cnt m k : Nat) : Int) ∧ lv = .int .i64 (lastM m k) ∧ St w wr [(w.heap.size, 29, setL m)]) (fun _ _ bv _ => 256 - (intOf bv).toNat)
  case atStart => exact ⟨0, by omega, rfl, rfl, rfl, (St.nil w).alloc rfl (setL m) _⟩
  case round =>
    obtain ⟨k, hk, rfl, rfl, rfl, st⟩ := hrel
    obtain ⟨⟨c0, c1, c2, c3⟩, _⟩ := st.four 0 rfl
    have hcl := cnt_le_n m k
    by_cases hlt : k < 256
    · have HC := Lib.hid (show cnt m (k + 1) = cnt m k + (if m k then 1 else 0) from rfl)
      have HL := Lib.hid (show lastM m (k + 1) = if m k then ((k : Nat) : Int) else lastM m k from rfl)
      go_wp2_with fail
      refine (refhas_any _ _ (by omega) (by omega) _).mono ?_
      rintro e w1 ⟨rfl, hb⟩
      rw [Int.toNat_natCast]
      replace st := st.below' hb
      clear hb c0 c1 c2 c3
      generalize m k = x at *
      generalize cnt m k = y at *
      generalize lastM m k = z at *
      cases x with
      | true =>
        go_wp2
        go_roundw
        case rel => exact ⟨k + 1, by omega, by go_num, by rw [HC.out]; go_num, by rw [HL.out]; rfl, st⟩
        case measure => simp [intOf]; omega
      | false =>
        go_wp2
        go_roundw
        case rel => exact ⟨k + 1, by omega, by go_num, by rw [HC.out]; rfl, by rw [HL.out]; rfl, st⟩
        case measure => simp [intOf]; omega
    · obtain rfl : k = 256 := by omega
      clear c0 c1 c2 c3
      by_cases h1 : cnt m 256 = 1
      · have e := hl.out h1
        have E := Lib.hid e
        have ht : (((cnt m 256 : Nat) : Int) == 1) = true := by rw [beq_iff_eq]; omega
        have ht' : (((cnt m 256 : Nat) : Int) != 1) = false := by rw [bne_eq_false_iff_eq]; omega
        clear e h1
        generalize lastM m 256 = z at *
        generalize cnt m 256 = y at *
        go_wp2
        go_returns
        exact ⟨by rw [E.out]; rfl, st.below⟩
      · have E := Lib.hid (hn.out h1)
        have ht' : (((cnt m 256 : Nat) : Int) != 1) = true := by rw [bne_iff_ne]; omega
        have ht : (((cnt m 256 : Nat) : Int) == 1) = false := by rw [beq_eq_false_iff_ne]; omega
        clear h1
        generalize lastM m 256 = z at *
        generalize cnt m 256 = y at *
        go_wp2
        go_returns
        exact ⟨by rw [E.out]; rfl, st.below⟩
end Go.Proofs.YtckoebfmoggeoaaDoor
