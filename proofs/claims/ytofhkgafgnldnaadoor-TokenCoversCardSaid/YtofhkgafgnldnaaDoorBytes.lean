/- What each function of the package bytes does: its contracts, over the given translation. -/
import Derived.Test.YtofhkgafgnldnaaDoorRows
import Derived.Test.YtofhkgafgnldnaaDoorSets
import Derived.Test.YtofhkgafgnldnaaDoorMem
import Derived.WalkKit
import Derived.WalkSpells
import Derived.WalkLawsBesides
import Derived.Lib.Hide
import Derived.Handy
import Derived.StillTailTactics
import Derived.Deep.RegionWith
import Derived.Deep.QuietTactic
import Derived.BigQuiet
import Derived.Deep.RegionHeld3
import Derived.Deep.RegionLaw
namespace Go.Proofs.YtofhkgafgnldnaaDoor
open Go.RowKit

/-- A return of a set that lies in a block that is known whole. -/
theorem ret_set {fn : Func} {R : Ending → World → Prop} {a : Act} {w : World} {b r : Nat} {u0 u1 u2 u3 : Value} (hres : fn.results = #[.cell r 32])
    (hr : a.tmps.getD r undef = .pointer (some ⟨b, 0, none⟩)) (h : Blk w b 32 [u0, u1, u2, u3]) (hd : a.defers = []) (hR : R (.returned (.agg #[u0, u1, u2, u3])) w) : bodyPost Tryd.prog fn R .ret a w := by
  obtain ⟨c0, c1, c2, c3, _⟩ := h.four
  refine bodyPost_ret (v := .agg #[u0, u1, u2, u3]) ?_ hd hR
  have hr' : a.tmps[r]?.getD undef = .pointer (some ⟨b, 0, none⟩) := by simpa using hr
  simp [results, hres, go_sem, hr', c0, c1, c2, c3]
theorem run_eq_words (d : Nat) (a0 a1 a2 a3 b0 b1 b2 b3 : Int) (w : World) :
    (Op.equalIn (d + 2) 32 (.agg #[.int .u64 a0, .int .u64 a1, .int .u64 a2, .int .u64 a3]) (.agg #[.int .u64 b0, .int .u64 b1, .int .u64 b2, .int .u64 b3])).run Tryd.prog w = .ok (a0 == b0 && (a1 == b1 && (a2 == b2 && a3 == b3))) w := by
  have hs : ∀ w, (sizeOf 30).run Tryd.prog w = .ok 1 w := fun _ => by kernel_rfl
  have hp : ∀ (xs : Array Value) (i : Nat) (v : Value) (w : World), xs[i]? = some v → (part 30 xs i).run Tryd.prog w = .ok v w := by
    intro xs i v w h
    have ha : ∀ w, (isAgg 30).run Tryd.prog w = .ok false w := fun _ => by kernel_rfl
    simp [part, ha, h]
  have he : ∀ (a b : Int) (w : World), (Op.equalIn (d + 1) 30 (.int .u64 a) (.int .u64 b)).run Tryd.prog w = .ok (a == b) w := by
    intro a b w
    simp [Op.equalIn, run_underlying Tryd.underlying30]
  have p0 : ∀ (x0 x1 x2 x3 : Int) (w : World), (part 30 #[.int .u64 x0, .int .u64 x1, .int .u64 x2, .int .u64 x3] 0).run Tryd.prog w = .ok (.int .u64 x0) w := fun _ _ _ _ _ => hp _ _ _ _ rfl
  have p1 : ∀ (x0 x1 x2 x3 : Int) (w : World), (part 30 #[.int .u64 x0, .int .u64 x1, .int .u64 x2, .int .u64 x3] 1).run Tryd.prog w = .ok (.int .u64 x1) w := fun _ _ _ _ _ => hp _ _ _ _ rfl
  have p2 : ∀ (x0 x1 x2 x3 : Int) (w : World), (part 30 #[.int .u64 x0, .int .u64 x1, .int .u64 x2, .int .u64 x3] 2).run Tryd.prog w = .ok (.int .u64 x2) w := fun _ _ _ _ _ => hp _ _ _ _ rfl
  have p3 : ∀ (x0 x1 x2 x3 : Int) (w : World), (part 30 #[.int .u64 x0, .int .u64 x1, .int .u64 x2, .int .u64 x3] 3).run Tryd.prog w = .ok (.int .u64 x3) w := fun _ _ _ _ _ => hp _ _ _ _ rfl
  rw [Op.equalIn]
  simp only [Sem.run_bind, run_underlying Tryd.underlying32, Result.andThen_ok, hs]
  simp only [Std.Legacy.Range.forIn_eq_forIn_range', Std.Legacy.Range.size, List.range']
  simp [he, p0, p1, p2, p3]
  by_cases h0 : a0 = b0 <;> by_cases h1 : a1 = b1 <;> by_cases h2 : a2 = b2 <;> by_cases h3 : a3 = b3 <;> simp [h0, h1, h2, h3]
theorem eq_words (a0 a1 a2 a3 b0 b1 b2 b3 : Int) (w : World) :
    (Op.equalIn 10000 32 (.agg #[.int .u64 a0, .int .u64 a1, .int .u64 a2, .int .u64 a3]) (.agg #[.int .u64 b0, .int .u64 b1, .int .u64 b2, .int .u64 b3])).run Tryd.prog w = .ok (a0 == b0 && (a1 == b1 && (a2 == b2 && a3 == b3))) w := run_eq_words 9998 _ _ _ _ _ _ _ _ w
theorem elem_u8 : Elem Tryd.prog 38 5 1 1 := by
  obtain ⟨i, hi, h0, h1, h2⟩ := info_parts (by kernel_rfl : (Tryd.prog.info? 5).map (fun i => (i.zero, i.size, i.bytes)) = some (some (.int .u8 0), 1, 1))
  exact ⟨i, _, Tryd.underlying38, hi, h0, h1, h2, rfl, by decide⟩
theorem idx_set0 (x0 x1 x2 x3 : Int) (w : World) : (Instr.index 32 (.agg #[.int .u64 x0, .int .u64 x1, .int .u64 x2, .int .u64 x3]) (.int .i64 0)).run Tryd.prog w = .ok (.int .u64 x0) w := by kernel_rfl
theorem idx_set1 (x0 x1 x2 x3 : Int) (w : World) : (Instr.index 32 (.agg #[.int .u64 x0, .int .u64 x1, .int .u64 x2, .int .u64 x3]) (.int .i64 1)).run Tryd.prog w = .ok (.int .u64 x1) w := by kernel_rfl
theorem idx_set2 (x0 x1 x2 x3 : Int) (w : World) : (Instr.index 32 (.agg #[.int .u64 x0, .int .u64 x1, .int .u64 x2, .int .u64 x3]) (.int .i64 2)).run Tryd.prog w = .ok (.int .u64 x2) w := by kernel_rfl
theorem idx_set3 (x0 x1 x2 x3 : Int) (w : World) : (Instr.index 32 (.agg #[.int .u64 x0, .int .u64 x1, .int .u64 x2, .int .u64 x3]) (.int .i64 3)).run Tryd.prog w = .ok (.int .u64 x3) w := by kernel_rfl
set_option maxHeartbeats 400000 in
theorem put_any (m : Nat → Bool) (b : Int) (hb0 : 0 ≤ b) (hb : b < 256) (w : World) :
    Calls Tryd.prog 41 #[setV m, .int .u8 b] w fun e w' => e = .returned (setV (putM m b)) ∧ Below w.heap.size w w' := by
  have hq : b / 64 = 0 ∨ b / 64 = 1 ∨ b / 64 = 2 ∨ b / 64 = 3 := by omega
  unfold setV
  rcases hq with hq | hq | hq | hq
  · have e := put_word m b 0 hb0 hq
    have e1 := put_other m b 1 hb0 (by omega)
    have e2 := put_other m b 2 hb0 (by omega)
    have e3 := put_other m b 3 hb0 (by omega)
    have E := Lib.hid (And.intro e (And.intro e1 (And.intro e2 e3)))
    clear e e1 e2 e3
    go_enter Tryd.func41, Tryd.ntmps41
    go_wp2
    obtain ⟨e, e1, e2, e3⟩ := E.out
    refine bodyPost_ret (v := setV (putM m b)) (by simp [results, Tryd.results41, go_sem, e, ← e1, ← e2, ← e3, setV]) rfl ⟨rfl, ?_⟩
    go_grown
  · have e := put_word m b 1 hb0 hq
    have e1 := put_other m b 0 hb0 (by omega)
    have e2 := put_other m b 2 hb0 (by omega)
    have e3 := put_other m b 3 hb0 (by omega)
    have E := Lib.hid (And.intro e (And.intro e1 (And.intro e2 e3)))
    clear e e1 e2 e3
    go_enter Tryd.func41, Tryd.ntmps41
    go_wp2
    obtain ⟨e, e1, e2, e3⟩ := E.out
    refine bodyPost_ret (v := setV (putM m b)) (by simp [results, Tryd.results41, go_sem, e, ← e1, ← e2, ← e3, setV]) rfl ⟨rfl, ?_⟩
    go_grown
  · have e := put_word m b 2 hb0 hq
    have e1 := put_other m b 0 hb0 (by omega)
    have e2 := put_other m b 1 hb0 (by omega)
    have e3 := put_other m b 3 hb0 (by omega)
    have E := Lib.hid (And.intro e (And.intro e1 (And.intro e2 e3)))
    clear e e1 e2 e3
    go_enter Tryd.func41, Tryd.ntmps41
    go_wp2
    obtain ⟨e, e1, e2, e3⟩ := E.out
    refine bodyPost_ret (v := setV (putM m b)) (by simp [results, Tryd.results41, go_sem, e, ← e1, ← e2, ← e3, setV]) rfl ⟨rfl, ?_⟩
    go_grown
  · have e := put_word m b 3 hb0 hq
    have e1 := put_other m b 0 hb0 (by omega)
    have e2 := put_other m b 1 hb0 (by omega)
    have e3 := put_other m b 2 hb0 (by omega)
    have E := Lib.hid (And.intro e (And.intro e1 (And.intro e2 e3)))
    clear e e1 e2 e3
    go_enter Tryd.func41, Tryd.ntmps41
    go_wp2
    obtain ⟨e, e1, e2, e3⟩ := E.out
    refine bodyPost_ret (v := setV (putM m b)) (by simp [results, Tryd.results41, go_sem, e, ← e1, ← e2, ← e3, setV]) rfl ⟨rfl, ?_⟩
    go_grown
end Go.Proofs.YtofhkgafgnldnaaDoor
