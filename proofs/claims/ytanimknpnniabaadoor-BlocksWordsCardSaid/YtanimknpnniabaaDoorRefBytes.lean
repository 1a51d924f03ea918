/- The reference's Bytes: two lists that are the same. -/
import Derived.Test.YtanimknpnniabaaDoorRef01
import Derived.Laws.BytesArg
namespace Go.Proofs.YtanimknpnniabaaDoor
open Go.RowKit
theorem conv_rd {w : World} {v : Value} {l : List Int} (h : Rd w .u8 v l) : (convert 39 9 v).run Tryd.prog w = .ok (.string (strOfNums l)) w := by
  obtain ⟨A, c, rfl, h1, h2, h3⟩ := h
  cases A with
  | none =>
    have hl : l = [] := by
      cases l with
      | nil => rfl
      | cons x l =>
        obtain ⟨ad, he, _⟩ := h3 0 x rfl
        cases he
    subst hl
    exact run_convert_bytes_nil w 39 5 Tryd.underlying39 Tryd.underlying5 _ _ 9 Tryd.underlying9
  | some a =>
    have hl : (loadCells a l.length).run Tryd.prog w = .ok (l.map (Value.int .u8)).toArray w := by
      have := run_loadCells_list (P := Tryd.prog) w a (l.map (Value.int .u8)) (fun j u hj => by
        rw [List.getElem?_map] at hj
        obtain ⟨x, hx, rfl⟩ := Option.map_eq_some_iff.1 hj
        obtain ⟨ad, he, _, hc⟩ := h3 j x hx
        obtain rfl := Option.some.inj he
        exact hc)
      simpa using this
    rw [run_convert_bytes_string w 39 9 5 _ l.length c Tryd.underlying39 Tryd.underlying5 Tryd.underlying9, run_bytesToString w _ l.length c l hl, foldl_push_bytes]
    simp [strOfNums, ByteArray.empty, ByteArray.emptyWithCapacity]
    rfl
theorem refbytes_any (l : List Int) (v v' : Value) (w : World) (hv : Rd w .u8 v l) (hv' : Rd w .u8 v' l) :
    Calls Tryd.prog 22 #[v, v'] w fun e w' => e = .returned (.bool true) ∧ Below w.heap.size w w' := by
  have h1 := conv_rd hv
  have h2 := conv_rd hv'
  generalize strOfNums l = s at h1 h2
  go_enter Tryd.func22, Tryd.ntmps22
  go_wp2
  go_returns
  exact ⟨rfl, by go_grown⟩
end Go.Proofs.YtanimknpnniabaaDoor
