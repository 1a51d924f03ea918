/- The example of layer 4. -/
import Derived.Test.YtanimknpnniabaaDoorMeth
namespace Go.Proofs.YtanimknpnniabaaDoor
open Go.RowKit
attribute [local go_sem] eq_words eqB_words eqB_zero
def exA (x : Nat) : Bool := x == 97
def exB (x : Nat) : Bool := x == 97 || x == 98 || x == 99
theorem exA_words : setL exA = [.int .u64 0, .int .u64 8589934592, .int .u64 0, .int .u64 0] := by kernel_rfl
theorem exB_words : setL exB = [.int .u64 0, .int .u64 60129542144, .int .u64 0, .int .u64 0] := by kernel_rfl
theorem ex_cnt97 : cntOf (keyL [exA, exB]) 97 = 1 := by kernel_rfl
theorem ex_cnt98 : cntOf (keyL [exA, exB]) 98 = 2 := by kernel_rfl
theorem ex_cnt : cntL [exA, exB] = 3 := by kernel_rfl
theorem ex_97 : numL [exA, exB] 97 = 1 := by
  refine (num_first (key := keyL [exA, exB]) fun c hc => ?_).trans ex_cnt97
  intro h
  simp [keyL, exA] at h
  omega
theorem ex_98 : numL [exA, exB] 98 = 2 := by
  refine (num_first (key := keyL [exA, exB]) fun c hc => ?_).trans ex_cnt98
  intro h
  simp [keyL, exA, exB] at h
  omega
theorem ex_first : firstM (clsZ (numL [exA, exB]) 2) = some 98 := by
  refine firstM_some ?_ (by omega) fun j hj => ?_
  · simp [clsZ, ex_98]
  · have := numOf_lt (key := keyL [exA, exB]) hj
    rw [ex_cnt98] at this
    have h : numL [exA, exB] j < 2 := this
    have : ¬(numL [exA, exB] j : Int) = 2 := by omega
    simp [clsZ, this]
theorem ex_firstV : firstV (clsZ (numL [exA, exB]) 2) = .tuple #[.int .u8 98, .bool true] := by
  unfold firstV
  rw [ex_first]
  rfl
set_option maxHeartbeats 1000000 in
theorem awake04_any (w : World) (hT : TabOk w) : Calls Tryd.prog 9 #[] w fun e w' => e = .returned (.bool true) ∧ Below w.heap.size w w' := by
  have HT := Lib.hid hT
  clear hT
  go_enter Tryd.func9, Tryd.ntmps9
  go_wp2_with fail
  refine (new_any [exA, exB] _ _ ?_).mono ?_
  · have hr := rdS_new ((w.alloc (.cells #[.int .u64 0, .int .u64 8589934592, .int .u64 0, .int .u64 0] 35)).alloc (.cells #[.int .u64 0, .int .u64 60129542144, .int .u64 0, .int .u64 0] 35)) [exA, exB] 35 (by simp) _ rfl
    rw [show setsC [exA, exB] = [.int .u64 0, .int .u64 8589934592, .int .u64 0, .int .u64 0, .int .u64 0, .int .u64 60129542144, .int .u64 0, .int .u64 0] by simp only [setsC, List.flatMap_cons, List.flatMap_nil, exA_words, exB_words, List.cons_append, List.nil_append]] at hr
    simpa using hr
  · rintro e w1 ⟨x, g, rfl, hx, _, _, hb⟩
    have hbw : Below w.heap.size w w1 := by
      refine Below.trans ?_ (hb.mono (by simp; omega))
      go_grown
    clear hb
    go_wp2_with fail
    refine (least_at 2 _ hx (numL_lt _) (HT.out.below hbw)).mono ?_
    rintro e w2 ⟨rfl, hb⟩
    have hx2 := hx.below hb
    have hbw2 := hbw.trans (hb.mono hbw.size)
    rw [ex_firstV]
    clear hb hx hbw
    go_wp2_with fail
    refine (count_at _ hx2).mono ?_
    rintro e w3 ⟨rfl, hb⟩
    have hx3 := hx2.below hb
    have hbw3 := hbw2.trans (hb.mono hbw2.size)
    rw [ex_cnt]
    clear hb hx2 hbw2
    go_wp2_with fail
    refine (ofm_any 97 (by omega) _ hx3).mono ?_
    rintro e w4 ⟨rfl, hb⟩
    have hbw4 := hbw3.trans (hb.mono hbw3.size)
    rw [ex_97]
    go_wp2
    go_returns
    exact ⟨rfl, hbw4⟩
end Go.Proofs.YtanimknpnniabaaDoor
