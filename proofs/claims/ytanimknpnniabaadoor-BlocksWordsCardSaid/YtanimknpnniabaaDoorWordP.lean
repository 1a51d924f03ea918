/- There and back: blocks' least bytes. No program in sight. -/
import Derived.Test.YtanimknpnniabaaDoorWord
import Derived.Test.YtanimknpnniabaaDoorNames
namespace Go.Proofs.YtanimknpnniabaaDoor
open Go.RowKit
/-- Rd, whatever its length. -/
def RdW (w : World) (k : IntKind) (v : Value) (l : List Int) : Prop :=
  ∃ A c, v = .slice A l.length c ∧ l.length ≤ c ∧ l.length ≤ 9223372036854775807 ∧ ∀ i x, l[i]? = some x → ∃ ad, A = some ad ∧ ad.block < w.heap.size ∧ w.cell? (ad.add i) = some (.int k x)
theorem RdW.rd {w : World} {k : IntKind} {v : Value} {l : List Int} (h : RdW w k v l) (hl : l.length ≤ 1000) : Rd w k v l := by
  obtain ⟨A, c, rfl, h1, _, h3⟩ := h
  exact ⟨A, c, rfl, h1, by omega, h3⟩
theorem firstM_spec {m : Nat → Bool} {b : Nat} (h : firstM m = some b) : m b = true ∧ b < 256 ∧ ∀ j, j < b → m j = false := by
  unfold firstM at h
  rw [List.find?_range_eq_some] at h
  obtain ⟨h1, h2, h3⟩ := h
  exact ⟨h1, List.mem_range.1 h2, fun j hj => by simpa using h3 j hj⟩
theorem first_some (l : List (Nat → Bool)) (i : Int) : (firstM (clsZ (numL l) i)).isSome = decide (0 ≤ i ∧ i < ((cntL l : Nat) : Int)) := by
  by_cases h : 0 ≤ i ∧ i < ((cntL l : Nat) : Int)
  · rw [decide_eq_true h]
    obtain ⟨k, rfl⟩ : ∃ k : Nat, i = k := ⟨i.toNat, by omega⟩
    obtain ⟨c, hc, _⟩ := firsts_get (key := keyL l) 256 k (by show k < cntL l; omega)
    rw [first_class l k c hc]
    rfl
  · rw [decide_eq_false h, clsZ_out (numL_lt l) (by omega), firstM_none (fun _ _ => rfl)]
    rfl
theorem least_class {q : Nat → Nat} {i : Int} (h : (firstM (clsZ q i)).isSome = true) : 0 ≤ leastZ q i ∧ leastZ q i < 256 ∧ ((q (leastZ q i).toNat : Nat) : Int) = i ∧ ∀ b : Nat, b < 256 → ((q b : Nat) : Int) = i → leastZ q i ≤ b := by
  obtain ⟨c, hc⟩ := Option.isSome_iff_exists.1 h
  obtain ⟨h1, h2, h3⟩ := firstM_spec hc
  have e : leastZ q i = c := by unfold leastZ; rw [hc]; rfl
  rw [e]
  simp only [clsZ, Bool.and_eq_true, decide_eq_true_eq] at h1
  refine ⟨by omega, by omega, by simpa using h1.2, fun b hb hq => ?_⟩
  rcases Nat.lt_or_ge b c with hlt | hge
  · have := h3 b hlt
    simp [clsZ, hb, hq] at this
  · omega
theorem wordS_bytes {q : Nat → Nat} {l : List Int} (h : wordOk q l = true) : wordS q l = strOfNums (wordB q l) := by unfold wordS; rw [h]; rfl
theorem wordS_size {q : Nat → Nat} {l : List Int} (h : wordOk q l = true) : (wordS q l).size = l.length := by
  rw [wordS_bytes h, strOfNums_size]
  simp [wordB]
theorem wordOk_at {q : Nat → Nat} {l : List Int} (h : wordOk q l = true) {k : Nat} {i : Int} (hk : l[k]? = some i) : (firstM (clsZ q i)).isSome = true :=
  List.all_eq_true.1 h i (List.mem_iff_getElem?.2 ⟨k, hk⟩)
theorem wordS_at {q : Nat → Nat} {l : List Int} (h : wordOk q l = true) {k : Nat} {i : Int} (hk : l[k]? = some i) : ∃ b : UInt8, (wordS q l).data[k]? = some b ∧ ((b.toNat : Nat) : Int) = leastZ q i := by
  have hl := least_class (wordOk_at h hk)
  refine ⟨UInt8.ofNat (leastZ q i).toNat, ?_, ?_⟩
  · rw [wordS_bytes h]
    simp [strOfNums, wordB, hk]
  · rw [UInt8.toNat_ofNat']
    omega
theorem names_length (q : Nat → Nat) (s : ByteArray) : (namesZ q s s.size).length = s.size := by
  unfold namesZ
  rw [List.length_map, List.length_take]
  simp
theorem names_at' (q : Nat → Nat) (s : ByteArray) (k : Nat) (b : UInt8) (h : s.data[k]? = some b) : (namesZ q s s.size)[k]? = some ((q b.toNat : Nat) : Int) := by
  unfold namesZ
  have hlt := (Array.getElem?_eq_some_iff.1 h).1
  have : k < s.size := hlt
  rw [List.getElem?_map, List.getElem?_take_of_lt this, Array.getElem?_toList, h]
  rfl
theorem names_back {q : Nat → Nat} {l : List Int} (h : wordOk q l = true) : namesZ q (wordS q l) (wordS q l).size = l := by
  apply List.ext_getElem?
  intro k
  rcases Nat.lt_or_ge k l.length with hlt | hge
  · obtain ⟨b, hb, hv⟩ := wordS_at h (List.getElem?_eq_getElem hlt)
    rw [names_at' q _ k b hb, List.getElem?_eq_getElem hlt]
    have := (least_class (wordOk_at h (List.getElem?_eq_getElem hlt))).2.2.1
    rw [← hv, Int.toNat_natCast] at this
    rw [this]
  · rw [List.getElem?_eq_none (by rw [names_length, wordS_size h]; exact hge), List.getElem?_eq_none hge]
theorem names_ok (l : List (Nat → Bool)) (s : ByteArray) : wordOk (numL l) (namesZ (numL l) s s.size) = true := by
  unfold wordOk
  rw [List.all_eq_true]
  intro i hi
  unfold namesZ at hi
  obtain ⟨b, _, rfl⟩ := List.mem_map.1 hi
  rw [first_some]
  have := numL_lt l b.toNat b.toNat_lt
  exact decide_eq_true ⟨by omega, by omega⟩
theorem wordOk_iff (l : List (Nat → Bool)) (z : List Int) (k : Nat) (i : Int) (hk : z[k]? = some i) : wordOk (numL l) (z.take (k + 1)) = (wordOk (numL l) (z.take k) && decide (0 ≤ i ∧ i < ((cntL l : Nat) : Int))) := by
  have hlt := (List.getElem?_eq_some_iff.1 hk).1
  rw [List.take_succ_eq_append_getElem hlt, wordOk_snoc, first_some, (List.getElem?_eq_some_iff.1 hk).2]
end Go.Proofs.YtanimknpnniabaaDoor
