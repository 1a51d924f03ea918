/- Blocks.Names: bytes' blocks. -/
import Derived.Test.YtanimknpnniabaaDoorMeth
import Derived.Test.YtanimknpnniabaaDoorFirsts
import Derived.Deep.RegionLaw
import Derived.BigRegion
namespace Go.Proofs.YtanimknpnniabaaDoor
open Go.RowKit
/-- 'v = append(v, x)' in a region that draws: v a row of the call's own, x's cells in a new block. -/
theorem step_append_one {P : Program} {ops : Array Oper} {o : Oper} {a : Act} {W : World} {K : Act → World → Prop} {Q : Exit → Act → World → Prop} {E : Prop} (hg : o.guard = none) (s x : Operand) (t : TypeId)
    (ho : o.op = .call { callee := .builtin .append, args := #[s, x], argTypes := #[t, t] }) (base : Nat) (e : TypeId) (size bytes : Nat) (he : Elem P t e size bytes)
    (v : Value) (n : Nat) (xs : List Value) (hs : a.eval s = v) (hown : W.ownsRow base e size v n xs) (news : List Value) (hx : a.eval x = .slice (some ⟨W.heap.size, 0, none⟩) 1 1)
    (hl : news.length = size) (h1 : ∀ u ∈ news, u.oneCell' = true) (h63 : n + 1 ≤ 9223372036854775807) (hbytes : (n + 1) * bytes ≤ 140737488355328) (hbase : base ≤ W.heap.size)
    (hK : ∀ v' w', w'.ownsRow base e size v' (n + 1) (xs ++ news) → Below base W w' → K (a.put o.dst v') w') :
    if Region.wanted o (yielded ops a.tmps) = true then Oper.wp P o a (W.alloc (.cells news.toArray e)) K Q else E := by
  have hw : Region.wanted o (yielded ops a.tmps) = true := by simp [Region.wanted, hg]
  rw [if_pos hw]
  obtain ⟨i, z, ht, hi, hz, hsize, hby, hzs, hsz⟩ := he
  refine wp_append_own _ s x t ho base e i z size bytes ht hi hz hsize hby hzs hsz v n xs hs (hown.alloc _) ⟨W.heap.size, 0, none⟩ 1 1 news hx (by omega) ?_ h1 h63 hbytes (by simp; omega) ?_
  · intro j u hu
    rw [show (⟨W.heap.size, 0, none⟩ : Addr).add j = ⟨W.heap.size, j, none⟩ by unfold Addr.add; split <;> simp_all]
    rw [(Blk.new W news e).cell j, hu]
  · intro v' w' hown' hgr _
    refine hK v' w' hown' ?_
    exact ((Below.refl base W).alloc hbase _).grown hgr (by simp; omega) (fun k hk => ((hown.lt) k hk).1)
theorem own_some {w : World} {base : Nat} {e : TypeId} {size : Nat} {v : Value} {n : Nat} {xs : List Value} (h : w.ownsRow base e size v n xs) (hn : 0 < n) : ∃ g c, v = .slice (some ⟨g, 0, none⟩) n c := by
  rcases h.2 with ⟨_, h0⟩ | ⟨g, cap, cur, rfl, _⟩
  · omega
  · exact ⟨_, _, rfl⟩
def namesZ (q : Nat → Nat) (s : ByteArray) (n : Nat) : List Int := (s.data.toList.take n).map fun b => ((q b.toNat : Nat) : Int)
theorem make_names (n : Nat) (hn : n ≤ 1000) (w : World) : ∃ cs : Array Value, cs.size = n ∧ (Instr.makeSlice 26 (.int .i64 0) (.int .i64 n)).run Tryd.prog w = .ok (.slice (some ⟨w.heap.size, 0, none⟩) 0 n) (w.alloc (.cells cs 3)) := by
  obtain ⟨i, hi, h0, h1, h2⟩ := info_parts (by kernel_rfl : (Tryd.prog.info? 3).map (fun i => (i.zero, i.size, i.bytes)) = some (some (.int .i64 0), 1, 8))
  have := run_make (P := Tryd.prog) w 26 3 i _ Tryd.underlying26 hi h0 .i64 .i64 0 n (by omega) (by omega) (by rw [h2]; omega) (by omega)
  rw [h1] at this
  exact ⟨madeCells (Value.int .i64 0).cells (n * 1), by rw [size_madeCells]; omega, by simpa using this⟩
theorem clip_at (g n c : Nat) (hc : n ≤ c) (w : World) : Calls Tryd.prog 42 #[.slice (some ⟨g, 0, none⟩) n c] w fun e w' => e = .returned (.slice (some ⟨g, 0, none⟩) n n) ∧ Below w.heap.size w w' := by
  go_enter Tryd.func42, Tryd.ntmps42
  go_wp2
  go_returns
  exact ⟨rfl, Below.refl _ _⟩
theorem Rd.clip {w : World} {A : Option Addr} {n c : Nat} {l : List Int} (h : Rd w .i64 (.slice A n c) l) : Rd w .i64 (.slice A n n) l := by
  obtain ⟨A', c', e, h1, h2, h3⟩ := h
  injection e with e1 e2 e3
  subst e1 e2
  exact ⟨A, l.length, rfl, Nat.le_refl _, h2, h3⟩
set_option maxRecDepth 100000 in
set_option maxHeartbeats 1000000 in
theorem names_at {x g n : Nat} {q : Nat → Nat} (s : ByteArray) (hs : s.size ≤ 1000) (w : World) (h : BlksAt w x g q n) :
    Calls Tryd.prog 29 #[.pointer (some ⟨x, 0, none⟩), .string s] w fun e w' => ∃ v, e = .returned v ∧ Rd w' .i64 v (namesZ q s s.size) ∧ Below w.heap.size w w' := by
  have HX := Lib.hid h
  clear h
  obtain ⟨cs, hcs, hmk⟩ := make_names s.size hs w
  have hmade := World.ownsRow_made (base := w.heap.size) (e := 3) (size := 1) w cs s.size (Nat.le_refl _) (by unfold maxLen; omega) (by omega)
  have HM := Lib.hid hmade
  clear hmade
  go_enter Tryd.func29, Tryd.ntmps29
  go_wp2
  clear hmk
  go_loopw [5, 14] (fun v i wr => ∃ k : Nat, k ≤ s.size ∧ i = .int .i64 ((k : Nat) : Int) ∧ (∃ g c, v = .slice (some ⟨g, 0, none⟩) k c) ∧ wr.ownsRow w.heap.size 3 1 v k ((namesZ q s k).map (.int .i64)) ∧ Below w.heap.size w wr) (fun _ i _ => s.size - (intOf i).toNat)
  case atStart => exact ⟨0, Nat.zero_le _, rfl, ⟨_, _, rfl⟩, HM.out, (Below.refl _ _).alloc (Nat.le_refl _) _⟩
  case round =>
    obtain ⟨k, hk, rfl, ⟨g6, c6, rfl⟩, hown, hbw⟩ := hrel
    have hsz := hbw.size
    by_cases hlt : k < s.size
    · obtain ⟨b, hbyte⟩ : ∃ b, s.data[k]? = some b := ⟨_, Array.getElem?_eq_getElem hlt⟩
      have HS := Lib.hid (show namesZ q s (k + 1) = namesZ q s k ++ [((q b.toNat : Nat) : Int)] by
        unfold namesZ
        have hk' : k < s.data.toList.length := by simpa using hlt
        have e : s.data.toList[k] = b := by
          have := (Array.getElem?_eq_some_iff.1 hbyte).2
          simpa using this
        rw [List.take_succ_eq_append_getElem hk', List.map_append, e]
        rfl)
      have hat : (⟨x, 0, none⟩ : Addr).add b.toNat = ⟨x, b.toNat, none⟩ := by unfold Addr.add; split <;> simp_all
      have hcell := (HX.out.below hbw).num b.toNat b.toNat_lt
      have hb256 : ((b.toNat : Nat) : Int) < 256 := by have := b.toNat_lt; omega
      have hget : s[k]'hlt = b := (Array.getElem?_eq_some_iff.1 hbyte).2
      have Hown := Lib.hid hown.drew
      clear hown
      go_wp2_with fail
      go_region_law (refine step_append_one rfl (.tmp 17) (.tmp 26) 26 rfl w.heap.size 3 1 8 elem_int _ _ _ (by simp [Act.eval, Act.put]) Hown.out [.int .i64 ((q b.toNat : Nat) : Int)] (by simp [Act.eval, Act.put]) rfl (one_int _ _) (by omega) (by omega) (by simp; omega) ?_; intro v2 w2 hown2 hb2)
      go_wp2
      go_roundw
      case rel =>
        refine ⟨k + 1, by omega, by go_num, own_some hown2 (by omega), ?_, hbw.drew.trans hb2⟩
        rw [HS.out, List.map_append]
        exact hown2
      case measure => simp [intOf]; omega
    · obtain rfl : k = s.size := by omega
      have hform : s.size ≤ c6 := by
        rcases hown.2 with ⟨e, _⟩ | ⟨g', cap, cur, e, _, _, h4, _⟩
        · cases e
        · injection e with e1 e2 e3
          omega
      have HR := Lib.hid (own_rd hown (by omega))
      clear hown
      go_wp2_with fail
      refine (clip_at g6 _ c6 hform _).mono ?_
      rintro e w1 ⟨rfl, hb⟩
      have hr := Lib.hid (HR.out.below hb).clip
      go_wp2
      go_returns
      exact ⟨_, rfl, hr.out, hbw.trans (hb.mono hsz)⟩
end Go.Proofs.YtanimknpnniabaaDoor
