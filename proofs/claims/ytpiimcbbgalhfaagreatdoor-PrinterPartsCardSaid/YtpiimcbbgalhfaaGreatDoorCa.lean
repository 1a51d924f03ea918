/- PrinterNone: the walk. -/
import Derived.Test.YtpiimcbbgalhfaaGreatDoorBz
namespace Go.Proofs.YtpiimcbbgalhfaaGreatDoor
set_option maxRecDepth 100000
open Go.RowKit
theorem eq_pair0 (w : World) : (Op.equalIn 10000 32 (.agg #[.int .i64 1, .int .i64 (-1)]) (.agg #[.int .i64 0, .int .i64 (-1)])).run Tryz.prog w = .ok false w := by kernel_rfl
theorem eq_pair1 (w : World) : (Op.equalIn 10000 32 (.agg #[.int .i64 1, .int .i64 (-1)]) (.agg #[.int .i64 1, .int .i64 (-1)])).run Tryz.prog w = .ok true w := by kernel_rfl
attribute [local go_sem] eq_pair0 eq_pair1
theorem countOk_plus : CntOk 1 (-1) false := fun w _ => by
  go_enter Tryz.func17, Tryz.ntmps17
  go_wp2
  go_returns
  exact ⟨rfl, Below.refl _ _⟩
def awake7S : ByteArray := { data := #[40, 63, 58, 97, 124, 91, 98, 93, 41, 123, 49, 44, 125] }
def awake7Is (n : Tree) : Prop := ∃ m m' : Nat → Bool, (∃ f1 t1 f2 t2 f3 t3 f4 t4 f5 t5, n = .mk 6 noSet 1 (-1) false [.mk 3 noSet 0 0 false [.mk 5 noSet 0 0 false [.mk 1 m' 0 0 false [] f1 t1, .mk 1 m 0 0 false [] f2 t2] f3 t3] f4 t4] f5 t5) ∧
  (cnt m 256 = 1 ∧ (setS m).size = 1) ∧ (cnt m' 256 = 1 ∧ (setS m').size = 1)
theorem awake7_parse : ∃ n j, parseB awake7S = .ok n j ∧ nodeP n [] = [40, 63, 58, 97, 124, 98, 41, 43] ∧ awake7Is n := ⟨_, _, rfl, rfl, _, _, ⟨_, _, _, _, _, _, _, _, _, _, rfl⟩, ⟨rfl, rfl⟩, ⟨rfl, rfl⟩⟩
theorem awake7_ok {n : Tree} (h : awake7Is n) : PrOk n := by
  obtain ⟨m, m', ⟨f1, t1, f2, t2, f3, t3, f4, t4, f5, t5, rfl⟩, ⟨h1, h2⟩, ⟨h3, h4⟩⟩ := h
  have hset : ∀ q : Nat → Bool, cnt q 256 = 1 → SetOk q := fun q hq w hT => pset_at (fun _ h => absurd hq h) w hT
  have hcs : (countS 1 (-1) false).size ≤ 2900 := by decide
  simp only [PrOk, PrOkL, and_true]
  refine ⟨fun e => by omega, fun _ => ⟨countOk_plus, hcs⟩, fun e => by omega, fun e => by omega, fun e => by omega, fun e => by omega, ⟨fun _ => ⟨hset _ h3, by omega⟩, fun e => by omega⟩, fun _ => ⟨hset _ h1, by omega⟩, fun e => by omega⟩
set_option maxHeartbeats 4000000 in
theorem awake07_at (w : World) (hT : TabP w) :
    Calls Tryz.prog 19 #[] w fun e w' => e = .returned (.bool true) ∧ Below w.heap.size w w' := by
  obtain ⟨n, j, hp, hn, his⟩ := awake7_parse
  have HN := Lib.hid (Normal_at awake7S w hT (fun n' j' h => by rw [hp] at h; injection h with h1 h2; rw [← h1]; exact awake7_ok his))
  rw [hp] at HN
  simp only [hn] at HN
  have HW := Lib.hid (show wordV [40, 63, 58, 97, 124, 98, 41, 43] = .string { data := #[40, 63, 58, 97, 124, 98, 41, 43] } from rfl)
  rw [HW.out] at HN
  clear hT hp hn his
  go_enter Tryz.func19, Tryz.ntmps19
  go_wp2_with fail
  refine HN.out.mono ?_
  rintro v w1 ⟨h1, hb⟩
  rw [if_neg (by decide)] at h1
  subst h1
  go_wp2
  go_returns
  exact ⟨rfl, hb⟩
def leafK (kind : Int) : Tree := .mk kind noSet 0 0 false [] 0 0
theorem leaf_fit (kind : Int) : fitT (leafK kind) = decide (kind = 0 ∨ kind = 1) := by
  unfold leafK
  simp only [fitT, fitL, formB, eqB_noSet, List.length_nil, Bool.and_true]
  by_cases h0 : kind = 0
  · subst h0; rfl
  · by_cases h1 : kind = 1
    · subst h1; rfl
    · rw [show decide (kind = 0 ∨ kind = 1) = false from decide_eq_false (by omega)]
      have hz : ((((0 : Nat) : Int) == 1)) = false := rfl
      split
      · rfl
      · rw [if_neg (by omega), hz]
        split
        · rfl
        · split
          · rfl
          · split
            · rfl
            · split
              · rfl
              · rfl
theorem leaf_deep (kind : Int) : deepT (leafK kind) ≤ 1 := by
  unfold leafK
  simp only [deepT, deepL]
  split <;> omega
theorem leaf_at {w : World} {kind : Int} : TreeAt (w.alloc (.cells #[.int .i64 kind, .int .u64 0, .int .u64 0, .int .u64 0, .int .u64 0, .int .i64 0, .int .i64 0, .bool false, .slice none 0 0, .int .i64 0, .int .i64 0] 34)) (fun _ => True) (leafK kind) w.heap.size := by
  refine TreeAt.leaf (A := none) (c := 0) trivial ?_
  rw [nodeL_noset]
  exact Blk.new w [.int .i64 kind, .int .u64 0, .int .u64 0, .int .u64 0, .int .u64 0, .int .i64 0, .int .i64 0, .bool false, .slice none 0 0, .int .i64 0, .int .i64 0] _
theorem set_none_ok : SetOk noSet := fun w hT => pset_at (fun h => absurd rfl h) w hT
end Go.Proofs.YtpiimcbbgalhfaaGreatDoor
