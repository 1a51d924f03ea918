/- CoreNone: the walk. -/
import Derived.Test.YtimcmnnfpomnbaaGreatDoorBw
namespace Go.Proofs.YtimcmnnfpomnbaaGreatDoor
set_option maxRecDepth 100000
open Go.RowKit
def awake8S : ByteArray := { data := #[97, 123, 50, 44, 51, 125] }
def awake8T : Tree := .mk 6 noSet 2 3 false [.mk 1 (oneM 97) 0 0 false [] 0 1] 0 6
theorem awake8_parse : parseB awake8S = .ok awake8T 2 := by rfl
def awake8C : CT := .cat (.set (oneM 97)) (.cat (.set (oneM 97)) (.alt (.set (oneM 97)) .empty))
theorem awake8_core : wrapC 0 (coreT awake8T) = awake8C := by rfl
theorem awake8_size : sizeM awake8T 0 = 7 := by rfl
theorem one97 : setS (oneM 97) = { data := #[97] } := by rfl
theorem awake8_text : textC awake8C = { data := #[40, 97, 40, 97, 40, 97, 124, 40, 41, 41, 41, 41] } := by
  unfold awake8C
  simp only [textC, one97]
  rfl
theorem cnt97 : cnt (oneM 97) 256 = 1 := by rfl
theorem setOk97 : SetOk (oneM 97) := fun w hT => pset_at (fun _ h => absurd cnt97 h) w hT
set_option maxHeartbeats 4000000 in
theorem awake08_at (w : World) (hT : TabOk w) :
    Calls Tryz.prog 33 #[] w fun e w' => e = .returned (.bool true) ∧ Below w.heap.size w w' := by
  have HP := Lib.hid (cparse_at awake8S 0 w hT)
  unfold CoreIs at HP
  rw [awake8_parse] at HP
  simp only [awake8_core, awake8_size] at HP
  have HT := Lib.hid hT
  clear hT
  go_enter Tryz.func33, Tryz.ntmps33
  go_wp2_with fail
  refine HP.out.mono ?_
  rintro v w1 ⟨hp, hb⟩
  rw [if_pos (by omega), if_neg (by omega)] at hp
  obtain ⟨c, rfl, hc⟩ := hp
  have hT1 := HT.out.below hb
  have HTX := Lib.hid (text_at awake8C hc (fun m hm => by
    have : m = oneM 97 := by
      simp only [awake8C, setsOf, List.mem_append, List.mem_cons, List.not_mem_nil, or_false] at hm
      rcases hm with h | h | h <;> exact h
    rw [this]
    exact setOk97) hT1 (by rw [awake8_text]; decide))
  rw [awake8_text] at HTX
  have HSZ := Lib.hid (fun (W : World) (hW : Below w1.heap.size w1 W) => csize_at awake8C (hc.under hW) (by decide))
  rw [show sizeC awake8C = 7 from rfl] at HSZ
  have HB := Lib.hid hb
  clear hc hT1 hb
  go_wp2_with fail
  refine HTX.out.mono ?_
  rintro v w2 ⟨rfl, hb2⟩
  have HB2 := Lib.hid (HB.out.trans (hb2.mono HB.out.size))
  have HSZ2 := Lib.hid (HSZ.out w2 hb2)
  clear hb2
  go_wp2_with fail
  refine HSZ2.out.mono ?_
  rintro v w3 ⟨rfl, hb3⟩
  have HB3 := Lib.hid (HB2.out.trans (hb3.mono HB2.out.size))
  clear hb3
  go_wp2
  go_returns
  exact ⟨rfl, HB3.out⟩
theorem csame_nil (w : World) : Calls Tryz.prog 30 #[.pointer none, .pointer none] w fun v w' => v = .returned (.bool true) ∧ w' = w := by
  go_enter Tryz.func30, Tryz.ntmps30
  go_wp2
  go_returns
  exact ⟨rfl, rfl⟩
theorem csets_nil (w : World) : Calls Tryz.prog 31 #[.pointer none] w fun v w' => v = .returned (.slice none 0 0) ∧ w' = w := by
  go_enter Tryz.func31, Tryz.ntmps31
  go_wp2
  go_returns
  exact ⟨rfl, rfl⟩
set_option maxHeartbeats 4000000 in
theorem corenone_law (mode : Int) (w : World) (hT : TabOk w) :
    Calls Tryz.prog 7 #[.int .i64 mode] w fun e w' => e = .returned (.bool true) ∧ Below w.heap.size w w' := by
  have HA := Lib.hid (awake08_at w hT)
  clear hT
  go_enter Tryz.func7, Tryz.ntmps7
  go_wp2_with fail
  refine (Build_nil mode w).mono ?_
  rintro v w1 ⟨rfl, rfl⟩
  rename World => w
  go_wp2_with fail
  refine (Measure_nil mode w).mono ?_
  rintro v w1 ⟨rfl, rfl⟩
  rename World => w
  go_wp2_with fail
  refine (csize_nil w).mono ?_
  rintro v w1 ⟨rfl, rfl⟩
  rename World => w
  go_wp2_with fail
  refine (csame_nil w).mono ?_
  rintro v w1 ⟨rfl, rfl⟩
  rename World => w
  go_wp2_with fail
  refine (csets_nil w).mono ?_
  rintro v w1 ⟨rfl, rfl⟩
  rename World => w
  go_wp2_with fail
  refine (text_nil w).mono ?_
  rintro v w1 ⟨rfl, rfl⟩
  rename World => w
  go_wp2_with fail
  refine HA.out.mono ?_
  rintro v w1 ⟨rfl, hb⟩
  go_wp2
  go_returns
  exact ⟨rfl, hb⟩
end Go.Proofs.YtimcmnnfpomnbaaGreatDoor
