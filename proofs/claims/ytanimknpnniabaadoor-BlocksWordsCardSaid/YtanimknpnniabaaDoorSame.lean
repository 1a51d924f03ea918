/- caltroplaw04.same: two lists. -/
import Derived.Test.YtanimknpnniabaaDoorFirsts
import Derived.BigQuiet
namespace Go.Proofs.YtanimknpnniabaaDoor
open Go.RowKit
theorem take_next (l : List Int) (k : Nat) (h : k < l.length) : l.take (k + 1) = l.take k ++ [l[k]] := List.take_succ_eq_append_getElem h
set_option maxRecDepth 100000 in
set_option maxHeartbeats 1000000 in
theorem same_any (l l' : List Int) (v v' : Value) (w : World) (hv : Rd w .i64 v l) (hv' : Rd w .i64 v' l') :
    Calls Tryd.prog 28 #[v, v'] w fun e w' => e = .returned (.bool (decide (l = l'))) ∧ Below w.heap.size w w' := by
  obtain ⟨A, c, rfl, h1, h2, h3⟩ := hv
  obtain ⟨A', c', rfl, h1', h2', h3'⟩ := hv'
  have H3 := Lib.hid h3
  have H3' := Lib.hid h3'
  clear h3 h3'
  go_enter Tryd.func28, Tryd.ntmps28
  by_cases hlen : l.length = l'.length
  · go_wp2
    go_loopw [5] (fun i wr => ∃ k : Nat, k ≤ l.length ∧ i = .int .i64 ((k : Nat) : Int) ∧ l.take k = l'.take k ∧ Below w.heap.size w wr) (fun i _ => l.length - (intOf i).toNat)
    case atStart => exact ⟨0, Nat.zero_le _, rfl, rfl, Below.refl _ _⟩
    case round =>
      obtain ⟨k, hk, rfl, hs, hbw⟩ := hrel
      have HS := Lib.hid hs
      clear hs
      by_cases hlt : k < l.length
      · have hlt' : k < l'.length := by omega
        obtain ⟨ad, rfl, had, e0⟩ := H3.out k l[k] (List.getElem?_eq_getElem hlt)
        obtain ⟨ad', rfl, had', e0'⟩ := H3'.out k l'[k] (List.getElem?_eq_getElem hlt')
        have d0 := (hbw.cell (p := ad.add k) (by rw [add_block]; exact had)).trans e0
        have d0' := (hbw.cell (p := ad'.add k) (by rw [add_block]; exact had')).trans e0'
        have HT := Lib.hid (take_next l k hlt)
        have HT' := Lib.hid (take_next l' k hlt')
        have HG := Lib.hid (show l[k]? = some l[k] from List.getElem?_eq_getElem hlt)
        have HG' := Lib.hid (show l'[k]? = some l'[k] from List.getElem?_eq_getElem hlt')
        clear e0 e0'
        generalize l[k] = x at *
        generalize l'[k] = x' at *
        by_cases hx : x = x'
        · subst hx
          go_wp2_with fail
          go_quiet (fail)
          go_wp2
          go_roundw
          case rel => exact ⟨k + 1, by omega, by go_num, by rw [HT.out, HT'.out, HS.out], below_drewN hbw _⟩
          case measure => simp [intOf]; omega
        · have hne : l ≠ l' := fun e => by
            have a := HG.out
            have b := HG'.out
            rw [e, b] at a
            exact hx (Option.some.inj a).symm
          have HN := Lib.hid hne
          clear hne
          go_wp2_with fail
          go_quiet (fail)
          go_wp2
          go_returns
          exact ⟨congrArg (fun t => Ending.returned (.bool t)) (decide_eq_false HN.out).symm, below_drewN hbw _⟩
      · obtain rfl : k = l.length := by omega
        have he : l = l' := by
          have := HS.out
          rwa [List.take_length, hlen, List.take_length] at this
        have HE := Lib.hid he
        clear he
        go_wp2
        go_returns
        exact ⟨congrArg (fun t => Ending.returned (.bool t)) (decide_eq_true HE.out).symm, hbw⟩
  · have hne : l ≠ l' := fun e => hlen (by rw [e])
    have HN := Lib.hid hne
    clear hne
    go_wp2
    go_returns
    exact ⟨congrArg (fun t => Ending.returned (.bool t)) (decide_eq_false HN.out).symm, Below.refl _ _⟩
end Go.Proofs.YtanimknpnniabaaDoor
