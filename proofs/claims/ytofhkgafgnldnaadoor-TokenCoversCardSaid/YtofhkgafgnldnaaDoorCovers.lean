/- TokenCovers: the walk. -/
import Derived.Test.YtofhkgafgnldnaaDoorScanC
namespace Go.Proofs.YtofhkgafgnldnaaDoor
open Go.RowKit
theorem own_form' {w : World} {base size n : Nat} {e : TypeId} {v : Value} {xs : List Value} (h : w.ownsRow base e size v n xs) : ∃ (o : Option Addr) (c : Nat), v = .slice o n c ∧ (0 < n → ∃ g, o = some ⟨g, 0, none⟩) := by
  rcases h.2 with ⟨rfl, rfl⟩ | ⟨g, cap, cur, rfl, _⟩
  · exact ⟨none, 0, rfl, fun h => absurd h (Nat.lt_irrefl 0)⟩
  · exact ⟨some ⟨g, 0, none⟩, cap, rfl, fun _ => ⟨g, rfl⟩⟩
theorem slice_len (w : World) (base : Nat) (s : ByteArray) (lv : Value) (n : Int) (e : Nat) (hsz : ¬1048576 < s.size) (h : ScanIs w base s lv n e) : ∃ (o : Option Addr) (m c : Nat), lv = .slice o m c ∧ n = n := by
  unfold ScanIs at h
  rw [if_neg hsz] at h
  cases hs : scanM (bytesN s) with
  | err j k => rw [hs] at h; exact ⟨none, 0, 0, h.1, rfl⟩
  | ok L m =>
    rw [hs] at h
    obtain ⟨o, c, rfl, _⟩ := own_form' h.1
    exact ⟨o, _, c, rfl, rfl⟩
set_option maxRecDepth 100000 in
set_option maxHeartbeats 2000000 in
theorem covers_law (p q : ByteArray) (w : World) (hT : TabOk w) :
    Calls Tryd.prog 4 #[.string p, .string q] w fun e w' => e = .returned (.bool true) ∧ Below w.heap.size w w' := by
  by_cases h1 : 200 < p.size
  · go_enter Tryd.func4, Tryd.ntmps4
    go_wp2_with fail
    refine (awake_at w hT).mono ?_
    rintro v w1 ⟨rfl, hb⟩
    go_wp2
    go_returns
    exact ⟨rfl, hb⟩
  · by_cases h2 : 200 < q.size
    · go_enter Tryd.func4, Tryd.ntmps4
      go_wp2_with fail
      refine (awake_at w hT).mono ?_
      rintro v w1 ⟨rfl, hb⟩
      go_wp2
      go_returns
      exact ⟨rfl, hb⟩
    · go_enter Tryd.func4, Tryd.ntmps4
      go_wp2_with fail
      refine (scan_at p w hT).mono ?_
      rintro v w1 ⟨lv, n, e, rfl, his, hb⟩
      have hT1 := hT.below hb
      unfold ScanIs at his
      rw [if_neg (by omega)] at his
      cases hs : scanM (bytesN p) with
      | err j k =>
        rw [hs] at his
        obtain ⟨rfl, rfl, rfl, hk⟩ := his
        have hk' : ((e : Nat) : Int) ≠ 0 := by omega
        clear hs
        go_wp2_with fail
        refine (awake_at w1 hT1).mono ?_
        rintro v w2 ⟨rfl, hb2⟩
        go_wp2
        go_returns
        exact ⟨rfl, hb.trans (hb2.mono hb.size)⟩
      | ok L m =>
        rw [hs] at his
        obtain ⟨hown, rfl, rfl⟩ := his
        have hch := chain_of hs
        have hlen := chain_le hch
        rw [bytesN_length] at hch hlen
        obtain ⟨o, c, rfl, ho⟩ := own_form' hown
        have HS := Lib.hid hs
        have HO := Lib.hid hown
        have HF := Lib.hid ho
        clear hs hown ho
        go_wp2_with fail
        go_loopw [8, 9] (fun av iv wr => ∃ a k : Nat, av = .int .i64 ((a : Nat) : Int) ∧ iv = .int .i64 ((k : Nat) : Int) ∧ wr = w1 ∧ k ≤ L.length ∧ chainTo p.size a (L.drop k)) (fun _ iv _ => L.length - (intOf iv).toNat)
        case atStart => exact ⟨0, 0, rfl, rfl, rfl, Nat.zero_le _, hch⟩
        case round =>
          obtain ⟨a, k, rfl, rfl, rfl, hk, hc⟩ := hrel
          by_cases hlt : k < L.length
          · obtain ⟨x, f, t, hx⟩ : ∃ x f t, L[k]? = some (x, f, t) := ⟨_, _, _, List.getElem?_eq_getElem hlt⟩
            obtain ⟨g, rfl⟩ := HF.out (by omega)
            have c1 : wr.cell? ⟨g, k * 10 + 1, none⟩ = some (.int .i64 ((f : Nat) : Int)) := own_cell HO.out _ _ (toksC_get (r := 1) hx rfl)
            have c2 : wr.cell? ⟨g, k * 10 + 2, none⟩ = some (.int .i64 ((t : Nat) : Int)) := own_cell HO.out _ _ (toksC_get (r := 2) hx rfl)
            have hd : L.drop k = (x, f, t) :: L.drop (k + 1) := by
              rw [List.drop_eq_getElem_cons hlt]
              congr 1
              rw [List.getElem?_eq_getElem hlt] at hx
              exact Option.some.inj hx
            rw [hd] at hc
            obtain ⟨rfl, hat, hc'⟩ := hc
            have HC := Lib.hid hc'
            clear hc' hd hx
            go_wp2
            go_roundw
            case rel => exact ⟨t, k + 1, rfl, by go_num, trivial, hlt, HC.out⟩
            case measure => simp [intOf]; omega
          · obtain rfl : k = L.length := by omega
            rw [List.drop_length] at hc
            obtain rfl : a = p.size := hc
            go_wp2_with fail
            refine (scan_at q wr hT1).mono ?_
            rintro v w2 ⟨lv2, n2, e2, rfl, his2, hb2⟩
            have hT2 := hT1.below hb2
            have hbb := hb.trans (hb2.mono hb.size)
            unfold ScanIs at his2
            rw [if_neg (by omega)] at his2
            cases hs2 : scanM (bytesN q) with
            | err j2 k2 =>
              rw [hs2] at his2
              obtain ⟨rfl, rfl, rfl, hk2⟩ := his2
              have hk2' : ((e2 : Nat) : Int) ≠ 0 := by omega
              clear hs2
              go_wp2_with fail
              refine (scan_at _ w2 hT2).mono ?_
              rintro v w3 ⟨lv3, n3, e3, rfl, _, hb3⟩
              have hT3 := hT2.below hb3
              replace hbb := hbb.trans (hb3.mono hbb.size)
              go_wp2_with fail
              refine (awake_at w3 hT3).mono ?_
              rintro v w4 ⟨rfl, hb4⟩
              replace hbb := hbb.trans (hb4.mono hbb.size)
              go_wp2
              go_returns
              exact ⟨rfl, hbb⟩
            | ok M m2 =>
              rw [hs2] at his2
              obtain ⟨hown2, rfl, rfl⟩ := his2
              obtain ⟨o2, c2, rfl, _⟩ := own_form' hown2
              have HS2 := Lib.hid hs2
              have hlen2 := chain_le (chain_of hs2)
              rw [bytesN_length] at hlen2
              clear hs2 hown2
              go_wp2_with fail
              refine (scan_at _ w2 hT2).mono ?_
              rintro v w3 ⟨lv3, n3, e3, rfl, his3, hb3⟩
              have hT3 := hT2.below hb3
              replace hbb := hbb.trans (hb3.mono hbb.size)
              obtain ⟨R, kR, hR, hRl⟩ := scan_bar HS.out HS2.out
              unfold ScanIs at his3
              rw [if_neg (by rw [ByteArray.size_append, ByteArray.size_append]; have : (⟨#[124]⟩ : ByteArray).size = 1 := rfl; omega), bytesN_bar, hR] at his3
              obtain ⟨hown3, rfl, rfl⟩ := his3
              obtain ⟨o3, c3, rfl, _⟩ := own_form' hown3
              have hq : (((R.length : Nat) : Int) == ((L.length : Nat) : Int) + 1 + ((M.length : Nat) : Int)) = true := by rw [beq_iff_eq]; omega
              clear hown3 hR hRl
              go_wp2_with fail
              refine (awake_at w3 hT3).mono ?_
              rintro v w4 ⟨rfl, hb4⟩
              replace hbb := hbb.trans (hb4.mono hbb.size)
              go_wp2
              go_returns
              exact ⟨rfl, hbb⟩
end Go.Proofs.YtofhkgafgnldnaaDoor
