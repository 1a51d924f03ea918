/- bytes.Ranges. -/
import Derived.Test.YtanimknpnniabaaPairs
import Derived.Deep.AppendLies
namespace Go.Proofs.Ytanimknpnniabaa
open Go.RowKit
theorem listM_rise (m : Nat → Bool) (n : Nat) : ∀ i j : Nat, i < j → ∀ x y : Int, (listM m n)[i]? = some x → (listM m n)[j]? = some y → x < y := by
  have h : (listM m n).Pairwise (· < ·) := by
    unfold listM
    rw [List.pairwise_map]
    exact (List.pairwise_lt_range.filter _).imp fun h => by omega
  rw [List.pairwise_iff_getElem] at h
  intro i j hij x y hx hy
  obtain ⟨hi, rfl⟩ := List.getElem?_eq_some_iff.1 hx
  obtain ⟨hj, rfl⟩ := List.getElem?_eq_some_iff.1 hy
  exact h i j hi hj hij
set_option maxRecDepth 100000 in
set_option maxHeartbeats 1000000 in
theorem ranges_any (m : Nat → Bool) (w : World) :
    Calls Try.prog 18 #[setV m] w fun e w' => ∃ v, e = .returned v ∧ w'.ownsRow w.heap.size 40 2 v (runsM (listM m 256)).length (pairsC (runsM (listM m 256))) ∧ Below w.heap.size w w' := by
  unfold setV
  go_enter Try.func18, Try.ntmps18
  go_wp2_with fail
  refine (list_any m _).mono ?_
  rintro e w1 ⟨v, rfl, hown, hb⟩
  have hle := listM_length m 256
  have hrd := own_cells hown
  have hbw : Below w.heap.size w w1 := Below.trans (by go_grown) (hb.mono (by simp))
  have hall : ∀ b ∈ listM m 256, 0 ≤ b ∧ b < 256 := fun b hb => by have := (mem_listM m 256 b).1 hb; omega
  have hok := runs_ok (listM m 256)
  have hrise := listM_rise m 256
  clear hown hb
  generalize hL : listM m 256 = l at *
  have HL := Lib.hid hL
  clear hL
  obtain ⟨A, c, rfl, h1, h3⟩ := hrd
  have H3 := Lib.hid h3
  have HA := Lib.hid hall
  have HO := Lib.hid hok
  have HR := Lib.hid hrise
  clear h3 hall hok hrise
  go_wp2
  go_loopw [3, 10] (fun v i wr => ∃ k : Nat, k ≤ l.length ∧ i = .int .i64 k ∧ Below w1.heap.size w1 wr ∧ wr.ownsRow w1.heap.size 40 2 v (runsM (l.take k)).length (pairsC (runsM (l.take k)))) (fun _ i _ => l.length - (intOf i).toNat)
  case atStart =>
    refine ⟨0, Nat.zero_le _, rfl, Below.refl _ _, ?_⟩
    rw [List.take_zero]
    exact World.ownsRow_nil _ _ _ _
  case round =>
    obtain ⟨k, hk, rfl, hbl, hown⟩ := hrel
    by_cases hlt : k < l.length
    · obtain ⟨ad, rfl, hlo, had, hc⟩ := H3.out k l[k] (List.getElem?_eq_getElem hlt)
      have hx := HA.out l[k] (List.getElem_mem hlt)
      have hcr : wr.cell? (ad.add k) = some (.int .u8 l[k]) := (hbl.cell (p := ad.add k) (by rw [add_block]; exact had)).trans hc
      have hsn := List.take_succ_eq_append_getElem hlt
      have hrk := HO.out k HR.out hk
      have hrs := runsM_snoc (l.take k) l[k]
      rw [← hsn] at hrs
      have hin : ∀ x ∈ l.take k, 0 ≤ x ∧ x < 256 := fun x hx => HA.out x (List.mem_of_mem_take hx)
      have hlen : (l.take k).length ≤ 256 := by rw [List.length_take]; omega
      clear hc hsn
      generalize hbx : l[k] = b at *
      clear hbx
      generalize runsM (l.take k) = out at *
      have HE := Lib.hid hrs
      clear hrs
      generalize l.take k = lk at *
      have hsz := hbl.size
      rcases List.eq_nil_or_concat out with rfl | ⟨L, ⟨lo, hi⟩, rfl⟩
      · obtain ⟨A', c', rfl⟩ := own_form hown
        have Hn := Lib.hid hown
        simp only [List.length_nil] at *
        clear hown
        go_wp2_with (at_builtin; refine append_one rfl (.tmp 36) (.tmp 40) 37 rfl w1.heap.size 40 2 2 elem_pair _ _ _ rfl Hn.out [.int .u8 b, .int .u8 b] rfl rfl (two_int _ _ _) ?h1 ?h2 ?h3 ?h4; (case h1 => omega); (case h2 => omega); (case h3 => omega); intro v2 w2 hown2 hb2)
        go_roundw
        case rel =>
          refine ⟨k + 1, by omega, by go_num, hbl.trans hb2, ?_⟩
          rw [HE.out, runStep_nil]
          exact hown2
        case measure => simp [intOf]; omega
      · rw [List.concat_eq_append] at *
        have hlohi : lo ≤ hi := hrk.le (lo, hi) (by simp)
        have hlo2 := hin lo ((hrk.has lo).1 ⟨(lo, hi), by simp, Int.le_refl _, hlohi⟩)
        have hhi2 := hin hi ((hrk.has hi).1 ⟨(lo, hi), by simp, hlohi, Int.le_refl _⟩)
        have hshort := hrk.short
        rw [List.length_append, List.length_singleton] at hown hshort
        obtain ⟨g, cap, rfl, hg, hgl⟩ := hown.form (by omega)
        have hcell := (own_pair hown L.length (lo, hi) (by simp)).2
        have hfro := hown.frozenAt (L.length * 2 + 1)
        simp only [] at hcell
        by_cases hnext : hi + 1 = b
        · have HN := Lib.hid hnext
          have Hn := Lib.hid hown
          clear hown
          go_wp2
          go_roundw
          case rel =>
            refine ⟨k + 1, by omega, by go_num, hbl.setCell (p := ⟨g, L.length * 2 + 1, none⟩) hg _, ?_⟩
            rw [HE.out, runStep_more L lo hi b HN.out, List.length_append, List.length_singleton, pairs_put L lo hi b]
            exact (Hn.out.stored _ _).1
          case measure => simp [intOf]; omega
        · have HN := Lib.hid hnext
          have Hn := Lib.hid hown
          clear hown
          go_wp2_with (at_builtin; refine append_one rfl (.tmp 36) (.tmp 40) 37 rfl w1.heap.size 40 2 2 elem_pair _ _ _ rfl Hn.out [.int .u8 b, .int .u8 b] rfl rfl (two_int _ _ _) ?q1 ?q2 ?q3 ?q4; (case q1 => omega); (case q2 => omega); (case q3 => omega); intro v2 w2 hown2 hb2)
          go_roundw
          case rel =>
            refine ⟨k + 1, by omega, by go_num, hbl.trans hb2, ?_⟩
            rw [HE.out, runStep_new L lo hi b HN.out, List.length_append, List.length_append, List.length_singleton, List.length_singleton, pairsC_append (L ++ [(lo, hi)])]
            exact hown2
          case measure => simp [intOf]; omega
    · obtain rfl : k = l.length := by omega
      rw [List.take_length] at hown
      go_wp2
      go_returns
      rw [HL.out]
      exact ⟨_, rfl, own_base hown (by have := hbw.size; omega), hbw.trans (hbl.mono hbw.size)⟩
end Go.Proofs.Ytanimknpnniabaa
