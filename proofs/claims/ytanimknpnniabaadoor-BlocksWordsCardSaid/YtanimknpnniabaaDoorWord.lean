/- Blocks.Word: blocks' least bytes. -/
import Derived.Test.YtanimknpnniabaaDoorMeth
import Derived.Test.YtanimknpnniabaaDoorFirsts
namespace Go.Proofs.YtanimknpnniabaaDoor
open Go.RowKit
def leastZ (q : Nat → Nat) (i : Int) : Int := (((firstM (clsZ q i)).getD 0 : Nat) : Int)
def wordB (q : Nat → Nat) (l : List Int) : List Int := l.map (leastZ q)
def wordOk (q : Nat → Nat) (l : List Int) : Bool := l.all fun i => (firstM (clsZ q i)).isSome
def wordS (q : Nat → Nat) (l : List Int) : ByteArray := if wordOk q l then strOfNums (wordB q l) else ⟨#[]⟩
theorem firstV_least (q : Nat → Nat) (i : Int) : firstV (clsZ q i) = .tuple #[.int .u8 (leastZ q i), .bool (firstM (clsZ q i)).isSome] := rfl
theorem wordOk_snoc (q : Nat → Nat) (l : List Int) (i : Int) : wordOk q (l ++ [i]) = (wordOk q l && (firstM (clsZ q i)).isSome) := by
  unfold wordOk
  rw [List.all_append]
  simp
theorem wordOk_not (q : Nat → Nat) (l : List Int) (k : Nat) (x : Int) (hx : l[k]? = some x) (h : (firstM (clsZ q x)).isSome = false) : wordOk q l = false := by
  rw [Bool.eq_false_iff]
  intro ha
  have := List.all_eq_true.1 ha x (List.mem_iff_getElem?.2 ⟨k, hx⟩)
  rw [h] at this
  cases this
set_option maxRecDepth 100000 in
set_option maxHeartbeats 1000000 in
theorem word_at {x g n : Nat} {q : Nat → Nat} (l : List Int) (v : Value) (w : World) (h : BlksAt w x g q n) (hq : ∀ b, b < 256 → q b < n) (hT : TabOk w) (hv : Rd w .i64 v l) :
    Calls Tryd.prog 30 #[.pointer (some ⟨x, 0, none⟩), v] w fun e w' => e = .returned (.tuple #[.string (wordS q l), .bool (wordOk q l)]) ∧ Below w.heap.size w w' := by
  obtain ⟨A, c, rfl, h1, h2, h3⟩ := hv
  have H3 := Lib.hid h3
  have HT := Lib.hid hT
  have HX := Lib.hid h
  have HQ := Lib.hid hq
  clear h3 hT h hq
  go_enter Tryd.func30, Tryd.ntmps30
  go_wp2
  go_loopw [6, 13] (fun s i wr => ∃ k : Nat, k ≤ l.length ∧ i = .int .i64 ((k : Nat) : Int) ∧ wordOk q (l.take k) = true ∧ wr.ownsRow w.heap.size 5 1 s k ((wordB q (l.take k)).map (.int .u8)) ∧ Below w.heap.size w wr) (fun _ i _ => l.length - (intOf i).toNat)
  case atStart => exact ⟨0, Nat.zero_le _, rfl, rfl, World.ownsRow_nil _ _ _ _, Below.refl _ _⟩
  case round =>
    obtain ⟨k, hk, rfl, hok, hown, hbw⟩ := hrel
    have hsz := hbw.size
    have HO := Lib.hid hok
    clear hok
    by_cases hlt : k < l.length
    · obtain ⟨ad, rfl, had, e0⟩ := H3.out k l[k] (List.getElem?_eq_getElem hlt)
      have d0 := (hbw.cell (p := ad.add k) (by rw [add_block]; exact had)).trans e0
      have HS := Lib.hid (List.take_succ_eq_append_getElem hlt)
      have HG := Lib.hid (show l[k]? = some l[k] from List.getElem?_eq_getElem hlt)
      have Hown := Lib.hid hown
      clear e0 hown
      generalize l[k] = y at *
      obtain ⟨A6, c6, rfl⟩ := own_shape Hown.out
      go_wp2_with fail
      refine (least_at y _ (HX.out.below hbw) HQ.out (HT.out.below hbw)).mono ?_
      rintro e w1 ⟨rfl, hb⟩
      rw [firstV_least]
      have hown1 := own_below Hown.out hb
      have hbw1 := hbw.trans (hb.mono hsz)
      have hsz1 := hbw1.size
      clear hb d0 hbw Hown
      cases hf : (firstM (clsZ q y)).isSome with
      | true =>
        have HF := Lib.hid hf
        have hl : leastZ q y = leastZ q y := rfl
        generalize hly : leastZ q y = b at *
        have HL := Lib.hid hly
        clear hl hly hf
        go_wp2_with (at_builtin; refine append_one rfl (.tmp 25) (.tmp 27) 39 rfl w.heap.size 5 1 1 elem_u8 _ _ _ rfl hown1 [.int .u8 b] rfl rfl (one_int _ _) ?h1 ?h2 ?h3 ?h4; (case h1 => omega); (case h2 => omega); (case h3 => omega); intro v2 w2 hown2 hb2)
        go_roundw
        case rel =>
          refine ⟨k + 1, by omega, by go_num, ?_, ?_, hbw1.trans hb2⟩
          · rw [HS.out, wordOk_snoc, HO.out, HF.out]
            rfl
          · rw [HS.out, wordB, List.map_append, List.map_append]
            simp only [List.map_cons, List.map_nil, HL.out]
            exact hown2
        case measure => simp [intOf]; omega
      | false =>
        have HF := Lib.hid (wordOk_not q l k y HG.out hf)
        clear hf
        go_wp2
        go_returns
        exact ⟨by rw [wordS, HF.out]; rfl, hbw1⟩
    · obtain rfl : k = l.length := by omega
      rw [List.take_length] at hown HO
      have hr := own_rd hown (by omega)
      have hc := conv_rd hr
      have HS := Lib.hid (show wordS q l = strOfNums (wordB q l) by unfold wordS; rw [HO.out]; rfl)
      clear hr hown
      go_wp2
      go_returns
      exact ⟨by rw [HS.out, HO.out]; rfl, hbw⟩
end Go.Proofs.YtanimknpnniabaaDoor
