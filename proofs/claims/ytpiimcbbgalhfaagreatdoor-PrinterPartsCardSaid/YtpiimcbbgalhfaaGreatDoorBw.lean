/- Rows of pairs of bytes; a rising list's runs. -/
import Derived.Test.YtpiimcbbgalhfaaGreatDoorBa
import Derived.Test.YtpiimcbbgalhfaaGreatDoorBv
import Derived.Laws.IdiomStrings
import Derived.StillTailTactics
import Derived.Deep.RegionLaw
import Derived.BigRegion
namespace Go.Proofs.YtpiimcbbgalhfaaGreatDoor
set_option maxRecDepth 100000
open Go.RowKit
def pairsC (l : List (Int × Int)) : List Value := l.flatMap fun p => [.int .u8 p.1, .int .u8 p.2]
theorem pairsC_length (l : List (Int × Int)) : (pairsC l).length = l.length * 2 := by
  induction l with
  | nil => rfl
  | cons p l ih =>
    simp only [pairsC, List.flatMap_cons, List.length_append, List.length_cons, List.length_nil] at ih ⊢
    omega
theorem pairsC_append (a b : List (Int × Int)) : pairsC (a ++ b) = pairsC a ++ pairsC b := by simp [pairsC]
theorem pairsC_at (l : List (Int × Int)) : ∀ i p, l[i]? = some p → (pairsC l)[i * 2]? = some (.int .u8 p.1) ∧ (pairsC l)[i * 2 + 1]? = some (.int .u8 p.2) := by
  induction l with
  | nil => intro i p h; simp at h
  | cons q l ih =>
    intro i p h
    match i, h with
    | 0, h =>
      simp only [List.getElem?_cons_zero, Option.some.injEq] at h
      subst h
      exact ⟨rfl, rfl⟩
    | i + 1, h =>
      rw [List.getElem?_cons_succ] at h
      have h2 := ih i p h
      rw [show (i + 1) * 2 = i * 2 + 1 + 1 by omega]
      exact h2
theorem pairs_put (L : List (Int × Int)) (lo hi b : Int) : pairsC (L ++ [(lo, b)]) = (pairsC (L ++ [(lo, hi)])).set (L.length * 2 + 1) (.int .u8 b) := by
  rw [pairsC_append, pairsC_append, ← pairsC_length, List.set_append_right _ _ (by omega)]
  congr 1
  rw [show (pairsC L).length + 1 - (pairsC L).length = 1 by omega]
  rfl
def runStep (out : List (Int × Int)) (b : Int) : List (Int × Int) :=
  match out.getLast? with
  | some p => if p.2 + 1 = b then out.dropLast ++ [(p.1, b)] else out ++ [(b, b)]
  | none => [(b, b)]
def runsM (l : List Int) : List (Int × Int) := l.foldl runStep []
theorem runsM_snoc (l : List Int) (b : Int) : runsM (l ++ [b]) = runStep (runsM l) b := by simp [runsM]
theorem runStep_nil (b : Int) : runStep [] b = [(b, b)] := rfl
theorem runStep_more (L : List (Int × Int)) (lo hi b : Int) (h : hi + 1 = b) : runStep (L ++ [(lo, hi)]) b = L ++ [(lo, b)] := by simp [runStep, h]
theorem runStep_new (L : List (Int × Int)) (lo hi b : Int) (h : hi + 1 ≠ b) : runStep (L ++ [(lo, hi)]) b = (L ++ [(lo, hi)]) ++ [(b, b)] := by simp [runStep, h]
/-- Runs: what they have, that they rise, and none is beside another one. -/
structure RunsOK (out : List (Int × Int)) (l : List Int) : Prop where
  has : ∀ x, (∃ p ∈ out, p.1 ≤ x ∧ x ≤ p.2) ↔ x ∈ l
  le : ∀ p ∈ out, p.1 ≤ p.2
  gap : out.Pairwise fun p q => p.2 + 1 < q.1
  short : out.length ≤ l.length
theorem some_snoc {α : Type} {P : α → Prop} (L : List α) (q : α) : (∃ p ∈ L ++ [q], P p) ↔ (∃ p ∈ L, P p) ∨ P q := by
  constructor
  · rintro ⟨p, hp, h⟩
    rcases List.mem_append.1 hp with hp | hp
    · exact .inl ⟨p, hp, h⟩
    · obtain rfl := List.mem_singleton.1 hp
      exact .inr h
  · rintro (⟨p, hp, h⟩ | h)
    · exact ⟨p, List.mem_append_left _ hp, h⟩
    · exact ⟨q, by simp, h⟩
theorem runs_step {out : List (Int × Int)} {l : List Int} {b : Int} (h : RunsOK out l) (hb : ∀ x ∈ l, x < b) : RunsOK (runStep out b) (l ++ [b]) := by
  rcases List.eq_nil_or_concat out with rfl | ⟨L, ⟨lo, hi⟩, rfl⟩
  · rw [runStep_nil]
    refine ⟨fun x => ?_, ?_, ?_, ?_⟩
    · have := h.has x
      simp only [List.not_mem_nil, false_and, exists_false, false_iff] at this
      simp only [List.mem_singleton, exists_eq_left, List.mem_append, this, false_or]
      omega
    · simp
    · simp
    · simp
  · rw [List.concat_eq_append] at h ⊢
    have hlo : lo ≤ hi := h.le (lo, hi) (by simp)
    have hhi : hi < b := hb hi ((h.has hi).1 ⟨(lo, hi), by simp, hlo, Int.le_refl _⟩)
    have hg := List.pairwise_append.1 h.gap
    have hsh := h.short
    by_cases e : hi + 1 = b
    · rw [runStep_more L lo hi b e]
      refine ⟨fun x => ?_, ?_, ?_, ?_⟩
      · have := h.has x
        rw [List.mem_append, List.mem_singleton, ← this, some_snoc, some_snoc, or_assoc]
        refine or_congr Iff.rfl ?_
        simp only []
        omega
      · intro p hp
        rcases List.mem_append.1 hp with hp | hp
        · exact h.le p (by simp [hp])
        · obtain rfl := List.mem_singleton.1 hp
          simp only []
          omega
      · refine List.pairwise_append.2 ⟨hg.1, by simp, fun p hp q hq => ?_⟩
        obtain rfl := List.mem_singleton.1 hq
        exact hg.2.2 p hp (lo, hi) (by simp)
      · simp only [List.length_append, List.length_singleton] at hsh ⊢
        omega
    · rw [runStep_new L lo hi b e]
      refine ⟨fun x => ?_, ?_, ?_, ?_⟩
      · have := h.has x
        rw [List.mem_append, List.mem_singleton, ← this, some_snoc]
        refine or_congr Iff.rfl ?_
        simp only []
        omega
      · intro p hp
        rcases List.mem_append.1 hp with hp | hp
        · exact h.le p hp
        · obtain rfl := List.mem_singleton.1 hp
          exact Int.le_refl _
      · refine List.pairwise_append.2 ⟨h.gap, by simp, fun p hp q hq => ?_⟩
        obtain rfl := List.mem_singleton.1 hq
        rcases List.mem_append.1 hp with hp | hp
        · have := hg.2.2 p hp (lo, hi) (by simp)
          simp only [] at this ⊢
          omega
        · obtain rfl := List.mem_singleton.1 hp
          simp only []
          omega
      · simp only [List.length_append, List.length_singleton] at hsh ⊢
        omega
theorem runs_ok (l : List Int) : ∀ k, (∀ i j : Nat, i < j → ∀ x y : Int, l[i]? = some x → l[j]? = some y → x < y) → k ≤ l.length → RunsOK (runsM (l.take k)) (l.take k) := by
  intro k hs
  induction k with
  | zero => intro _; rw [List.take_zero]; exact ⟨by simp [runsM], by simp [runsM], by simp [runsM], by simp [runsM]⟩
  | succ k ih =>
    intro hk
    have hlt : k < l.length := by omega
    rw [List.take_succ_eq_append_getElem hlt, runsM_snoc]
    refine runs_step (ih (by omega)) fun x hx => ?_
    obtain ⟨i, hi, rfl⟩ := List.getElem_of_mem hx
    rw [List.length_take] at hi
    rw [List.getElem_take]
    exact hs i k (by omega) _ _ (List.getElem?_eq_getElem (by omega)) (List.getElem?_eq_getElem hlt)
theorem own_pair {w : World} {base : Nat} {e : TypeId} {g n cap : Nat} {l : List (Int × Int)} (h : w.ownsRow base e 2 (.slice (some ⟨g, 0, none⟩) n cap) n (pairsC l)) (i : Nat) (p : Int × Int) (hi : l[i]? = some p) :
    w.cell? ⟨g, i * 2, none⟩ = some (.int .u8 p.1) ∧ w.cell? ⟨g, i * 2 + 1, none⟩ = some (.int .u8 p.2) := by
  have hn : l.length = n := by have := h.1; rw [pairsC_length] at this; omega
  have hlt := (List.getElem?_eq_some_iff.1 hi).1
  obtain ⟨h0, h1⟩ := pairsC_at l i p hi
  exact ⟨(h.cellAt _ (by omega)).trans h0, (h.cellAt _ (by omega)).trans h1⟩
/-- The slice value v reads as pairs of bytes. -/
def RdP (w : World) (v : Value) (l : List (Int × Int)) : Prop :=
  ∃ A c, v = .slice A l.length c ∧ l.length ≤ c ∧ l.length ≤ 9223372036854775807 ∧ ∀ i p, l[i]? = some p → ∃ ad, A = some ad ∧ ad.block < w.heap.size ∧
    w.cell? (ad.add (i * 2)) = some (.int .u8 p.1) ∧ w.cell? ⟨(ad.add (i * 2)).block, (ad.add (i * 2)).off + 1, none⟩ = some (.int .u8 p.2)
theorem RdP.below {w w' : World} {v : Value} {l : List (Int × Int)} (h : RdP w v l) (hb : Below w.heap.size w w') : RdP w' v l := by
  obtain ⟨A, c, rfl, h1, h2, h3⟩ := h
  refine ⟨A, c, rfl, h1, h2, fun i x hi => ?_⟩
  obtain ⟨ad, rfl, hlt, c0, c1⟩ := h3 i x hi
  have hl : (ad.add (i * 2)).block < w.heap.size := by rw [add_block]; exact hlt
  exact ⟨ad, rfl, Nat.lt_of_lt_of_le hlt hb.size, (hb.cell hl).trans c0, (hb.cell (p := ⟨(ad.add (i * 2)).block, (ad.add (i * 2)).off + 1, none⟩) hl).trans c1⟩
theorem own_rdP {w : World} {base : Nat} {e : TypeId} {v : Value} {n : Nat} {l : List (Int × Int)} (h : w.ownsRow base e 2 v n (pairsC l)) (hn : n ≤ 140737488355328) : RdP w v l := by
  have hlen : l.length = n := by have := h.1; rw [pairsC_length] at this; omega
  have h' := h
  rcases h.2 with ⟨rfl, h0⟩ | ⟨g, cap, cur, rfl, hb, hg, h1, h2, h3, h4⟩
  · refine ⟨none, 0, by rw [hlen, h0], by omega, by omega, fun i x hi => ?_⟩
    rw [List.eq_nil_of_length_eq_zero (by omega : l.length = 0)] at hi
    simp at hi
  · refine ⟨some ⟨g, 0, none⟩, cap, by rw [hlen], by omega, by omega, fun i x hi => ⟨_, rfl, (Array.getElem?_eq_some_iff.1 hg).1, ?_⟩⟩
    have hc := own_pair h' i x hi
    rw [show (⟨g, 0, none⟩ : Addr).add (i * 2) = ⟨g, i * 2, none⟩ by unfold Addr.add; split <;> simp_all]
    exact hc
def fromM (l : List (Int × Int)) (x : Nat) : Bool := l.any fun p => rangeM p.1 p.2 x
theorem fromM_snoc (l : List (Int × Int)) (p : Int × Int) : anyM [fromM l, rangeM p.1 p.2] = fromM (l ++ [p]) := by
  funext x
  simp [anyM, fromM]
theorem two_int (k : IntKind) (n m : Int) : ∀ u ∈ [Value.int k n, Value.int k m], u.oneCell' = true := by
  intro u hu
  simp only [List.mem_cons, List.not_mem_nil, or_false] at hu
  rcases hu with rfl | rfl <;> rfl
theorem own_formP {w : World} {base : Nat} {e : TypeId} {size : Nat} {v : Value} {n : Nat} {xs : List Value} (h : w.ownsRow base e size v n xs) : ∃ A c, v = .slice A n c := by
  rcases h.2 with ⟨rfl, rfl⟩ | ⟨g, cap, cur, rfl, _⟩
  · exact ⟨_, _, rfl⟩
  · exact ⟨_, _, rfl⟩
theorem elem_pair : Elem Tryz.prog 219 221 2 2 := by
  obtain ⟨i, hi, h0, h1, h2⟩ := info_parts (by kernel_rfl : (Tryz.prog.info? 221).map (fun i => (i.zero, i.size, i.bytes)) = some (some (.agg #[.int .u8 0, .int .u8 0]), 2, 2))
  exact ⟨i, _, Tryz.underlying219, hi, h0, h1, h2, rfl, by decide⟩
end Go.Proofs.YtpiimcbbgalhfaaGreatDoor
/- printer.letter, printer.Byte. -/
namespace Go.Proofs.YtpiimcbbgalhfaaGreatDoor
set_option maxRecDepth 100000
open Go.RowKit
/-- A letter, or a digit. -/
def letB (b : Nat) : Bool := (decide (48 ≤ b) && decide (b ≤ 57)) || (decide (97 ≤ b ||| 32) && decide (b ||| 32 ≤ 122) && decide (b < 128))
set_option maxRecDepth 10000 in
theorem or32 : ∀ c : Fin 256, bits .or .u8 ((c.val : Nat) : Int) 32 = ((c.val ||| 32 : Nat) : Int) := by decide
set_option maxHeartbeats 4000000 in
theorem letter_at (b : Nat) (hb : b < 256) (w : World) : Calls Tryz.prog 78 #[.int .u8 ((b : Nat) : Int)] w fun v w' => v = .returned (.bool (letB b)) ∧ Below w.heap.size w w' := by
  obtain ⟨o, ho⟩ : ∃ o : Nat, b ||| 32 = o := ⟨_, rfl⟩
  have hq : bits .or .u8 ((b : Nat) : Int) 32 = (o : Int) := by
    rw [← ho]
    exact or32 ⟨b, hb⟩
  have HV := Lib.hid (show letB b = ((decide ((48 : Int) ≤ (b : Int)) && decide ((b : Int) ≤ 57)) || (decide ((97 : Int) ≤ (o : Int)) && decide ((o : Int) ≤ 122) && decide ((b : Int) < 128))) by
    unfold letB
    rw [ho]
    congr 1 <;> congr 1 <;> first | (congr 1 <;> (apply decide_eq_decide.2; omega)) | (apply decide_eq_decide.2; omega))
  clear ho
  cases h1 : (decide ((48 : Int) ≤ (b : Int))) <;> cases h2 : (decide ((b : Int) ≤ 57)) <;> cases h3 : (decide ((97 : Int) ≤ (o : Int))) <;> cases h4 : (decide ((o : Int) ≤ 122)) <;> cases h5 : (decide ((b : Int) < 128)) <;> (
  rw [h1, h2, h3, h4, h5] at HV
  go_enter Tryz.func78, Tryz.ntmps78
  go_wp2
  go_returns
  exact ⟨by rw [HV.out]; rfl, Below.refl _ _⟩)
def pselfL : List Nat := [32, 33, 34, 35, 37, 38, 39, 44, 58, 59, 60, 61, 62, 64, 95, 126, 96]
def pspecL : List Nat := [92, 124, 40, 41, 91, 93, 123, 125, 42, 43, 63, 46, 94, 36, 47, 45]
def hexD (n : Nat) : UInt8 := if n < 10 then (48 + n).toUInt8 else (87 + n).toUInt8
def byteS (b : Nat) : ByteArray := if letB b || pselfL.contains b then { data := #[b.toUInt8] } else if pspecL.contains b then { data := #[92, b.toUInt8] } else { data := #[92, 120, hexD (b / 16), hexD (b % 16)] }
set_option maxRecDepth 10000 in
theorem itself_in : ∀ c : Fin 256, decide (0 ≤ Lib.indexByte [32, 33, 34, 35, 37, 38, 39, 44, 58, 59, 60, 61, 62, 64, 95, 126, 96] c.val.toUInt8) = pselfL.contains c.val := by decide
set_option maxRecDepth 10000 in
theorem special_in : ∀ c : Fin 256, decide (0 ≤ Lib.indexByte [92, 124, 40, 41, 91, 93, 123, 125, 42, 43, 63, 46, 94, 36, 47, 45] c.val.toUInt8) = pspecL.contains c.val := by decide
theorem idx_digit (n : Nat) (h : n < 16) (w : World) : (Instr.index 9 (.string { data := #[48, 49, 50, 51, 52, 53, 54, 55, 56, 57, 97, 98, 99, 100, 101, 102] }) (.int .u8 ((n : Nat) : Int))).run Tryz.prog w = .ok (.int .u8 (((hexD n).toNat : Nat) : Int)) w :=
  match n, h with
  | 0, _ => by kernel_rfl
  | 1, _ => by kernel_rfl
  | 2, _ => by kernel_rfl
  | 3, _ => by kernel_rfl
  | 4, _ => by kernel_rfl
  | 5, _ => by kernel_rfl
  | 6, _ => by kernel_rfl
  | 7, _ => by kernel_rfl
  | 8, _ => by kernel_rfl
  | 9, _ => by kernel_rfl
  | 10, _ => by kernel_rfl
  | 11, _ => by kernel_rfl
  | 12, _ => by kernel_rfl
  | 13, _ => by kernel_rfl
  | 14, _ => by kernel_rfl
  | 15, _ => by kernel_rfl
  | n + 16, h => absurd h (by omega)
set_option maxRecDepth 10000 in
theorem and15 : ∀ c : Fin 256, bits .and .u8 ((c.val : Nat) : Int) 15 = ((c.val % 16 : Nat) : Int) := by decide
theorem str2 (c d : UInt8) (w : World) : (convert 115 9 (.slice (some ⟨w.heap.size, 0, none⟩) 2 2)).run Tryz.prog (w.alloc (.cells #[.int .u8 ((c.toNat : Nat) : Int), .int .u8 ((d.toNat : Nat) : Int)] 5)) = .ok (.string { data := #[c, d] }) (w.alloc (.cells #[.int .u8 ((c.toNat : Nat) : Int), .int .u8 ((d.toNat : Nat) : Int)] 5)) := by
  refine run_convert_bytes_back (w.alloc (.cells #[.int .u8 ((c.toNat : Nat) : Int), .int .u8 ((d.toNat : Nat) : Int)] 5)) 115 9 5 ⟨w.heap.size, 0, none⟩ 2 [c, d] Tryz.underlying115 Tryz.underlying5 Tryz.underlying9 fun j hj => ?_
  match j, hj with
  | 0, _ => exact (Blk.new w [Value.int .u8 ((c.toNat : Nat) : Int), .int .u8 ((d.toNat : Nat) : Int)] 5).cell 0
  | 1, _ => exact (Blk.new w [Value.int .u8 ((c.toNat : Nat) : Int), .int .u8 ((d.toNat : Nat) : Int)] 5).cell 1
  | n + 2, h => exact absurd h (by simp)
theorem str1 (b : Nat) (hb : b < 256) (w : World) : (convert 115 9 (.slice (some ⟨w.heap.size, 0, none⟩) 1 1)).run Tryz.prog (w.alloc (.cells #[.int .u8 ((b : Nat) : Int)] 5)) = .ok (.string { data := #[b.toUInt8] }) (w.alloc (.cells #[.int .u8 ((b : Nat) : Int)] 5)) := by
  refine run_convert_bytes_back (w.alloc (.cells #[.int .u8 ((b : Nat) : Int)] 5)) 115 9 5 ⟨w.heap.size, 0, none⟩ 1 [b.toUInt8] Tryz.underlying115 Tryz.underlying5 Tryz.underlying9 fun j hj => ?_
  have hj0 : j = 0 := by simpa using hj
  subst hj0
  have := (Blk.new w [Value.int .u8 ((b : Nat) : Int)] 5).cell 0
  refine this.trans ?_
  have e : ((b.toUInt8).toNat : Int) = (b : Int) := by
    have : (b.toUInt8).toNat = b := by simp [Nat.toUInt8]; omega
    omega
  show some (Value.int .u8 (b : Int)) = some (Value.int .u8 ((b.toUInt8).toNat : Int))
  rw [e]
set_option maxHeartbeats 4000000 in
theorem byte_at (b : Nat) (hb : b < 256) (w : World) : Calls Tryz.prog 13 #[.int .u8 ((b : Nat) : Int)] w fun v w' => v = .returned (.string (byteS b)) ∧ Below w.heap.size w w' := by
  have HL := Lib.hid (letter_at b hb)
  have HI := Lib.hid (itself_in ⟨b, hb⟩)
  have HS := Lib.hid (special_in ⟨b, hb⟩)
  have HV := Lib.hid (show byteS b = if letB b || pselfL.contains b then { data := #[b.toUInt8] } else if pspecL.contains b then { data := #[92, b.toUInt8] } else { data := #[92, 120, hexD (b / 16), hexD (b % 16)] } from rfl)
  have HC := Lib.hid (Tryz.strings_Contains_one)
  simp only [] at HI HS
  generalize letB b = x at *
  generalize pselfL.contains b = y at *
  generalize pspecL.contains b = z at *
  have hq := str1 b hb
  have HB0 := Lib.hid (((Below.refl w.heap.size w).alloc (Nat.le_refl _) (.cells #[.int .u8 ((b : Nat) : Int)] 5)))
  cases x with
  | true =>
    go_enter Tryz.func13, Tryz.ntmps13
    go_wp2_with (first | simp only [hq] | fail)
    refine (HL.out _).mono ?_
    rintro v w1 ⟨rfl, hb1⟩
    have HB1 := Lib.hid (HB0.out.trans (hb1.mono HB0.out.size))
    clear hb1
    go_wp2
    go_returns
    exact ⟨by rw [HV.out]; rfl, HB1.out⟩
  | false =>
    cases y with
    | true =>
      go_enter Tryz.func13, Tryz.ntmps13
      go_wp2_with (first | simp only [hq] | fail)
      refine (HL.out _).mono ?_
      rintro v w1 ⟨rfl, hb1⟩
      have HB1 := Lib.hid (HB0.out.trans (hb1.mono HB0.out.size))
      clear hb1
      go_wp2_with fail
      refine (HC.out _ _ _).mono ?_
      rintro v w2 ⟨rfl, rfl⟩
      rw [HI.out]
      go_wp2
      go_returns
      exact ⟨by rw [HV.out]; rfl, HB1.out⟩
    | false =>
      cases z with
      | true =>
        go_enter Tryz.func13, Tryz.ntmps13
        go_wp2_with (first | simp only [hq] | fail)
        refine (HL.out _).mono ?_
        rintro v w1 ⟨rfl, hb1⟩
        have HB1 := Lib.hid (HB0.out.trans (hb1.mono HB0.out.size))
        clear hb1
        go_wp2_with fail
        refine (HC.out _ _ _).mono ?_
        rintro v w2 ⟨rfl, rfl⟩
        rw [HI.out]
        go_wp2_with fail
        refine (HC.out _ _ _).mono ?_
        rintro v w2 ⟨rfl, rfl⟩
        rw [HS.out]
        go_wp2
        go_returns
        exact ⟨by rw [HV.out]; rfl, HB1.out⟩
      | false =>
        go_enter Tryz.func13, Tryz.ntmps13
        go_wp2_with (first | simp only [hq] | fail)
        refine (HL.out _).mono ?_
        rintro v w1 ⟨rfl, hb1⟩
        have HB1 := Lib.hid (HB0.out.trans (hb1.mono HB0.out.size))
        clear hb1
        go_wp2_with fail
        refine (HC.out _ _ _).mono ?_
        rintro v w2 ⟨rfl, rfl⟩
        rw [HI.out]
        go_wp2_with fail
        refine (HC.out _ _ _).mono ?_
        rintro v w2 ⟨rfl, rfl⟩
        rw [HS.out]
        have hdiv : ((b : Nat) : Int) / 16 = ((b / 16 : Nat) : Int) := by omega
        have hand := and15 ⟨b, hb⟩
        simp only [] at hand
        have hp16 : b / 16 < 16 := by omega
        have hq16 : b % 16 < 16 := by omega
        generalize b / 16 = p at *
        generalize b % 16 = q at *
        have hi1 := idx_digit p hp16
        have hi2 := idx_digit q hq16
        generalize hexD p = c at *
        generalize hexD q = d at *
        have hcv := str2 c d
        obtain ⟨cn, hcn⟩ : ∃ cn : Nat, c.toNat = cn := ⟨_, rfl⟩
        obtain ⟨dn, hdn⟩ : ∃ dn : Nat, d.toNat = dn := ⟨_, rfl⟩
        rw [hcn] at hi1 hcv
        rw [hdn] at hi2 hcv
        go_wp2_with fail
        refine wp_region_still_tail 6 (by kernel_rfl) (by kernel_rfl) ?_
        simp only [List.take_succ_cons, List.take_zero, List.drop_succ_cons, List.drop_zero]
        repeat still_step
        refine wpStill_nil ?_
        change wpList _ _ _ _ _ w2.drew
        have HB2 := Lib.hid HB1.out.drew
        generalize w2.drew = w3 at *
        have HB3 := Lib.hid (HB2.out.trans (((Below.refl w3.heap.size w3).alloc (Nat.le_refl _) (.cells #[.int .u8 ((cn : Nat) : Int), .int .u8 ((dn : Nat) : Int)] 5)).mono HB2.out.size))
        go_wp2_with (first | simp only [hcv] | fail)
        go_returns
        exact ⟨by rw [HV.out]; rfl, HB3.out⟩
end Go.Proofs.YtpiimcbbgalhfaaGreatDoor
/- printer.Set. -/
namespace Go.Proofs.YtpiimcbbgalhfaaGreatDoor
set_option maxRecDepth 100000
open Go.RowKit
attribute [local go_sem] eq_words eqB_words eqB_zero
def dotM (x : Nat) : Bool := !(ofM [10] x)
def nothingB : ByteArray := { data := #[91, 94, 92, 120, 48, 48, 45, 92, 120, 102, 102, 93] }
def dashB : ByteArray := { data := #[45] }
def pairS (p : Int × Int) : ByteArray := byteS p.1.toNat ++ (if p.1 = p.2 then { data := #[] } else dashB ++ byteS p.2.toNat)
def classL (m : Nat → Bool) : List UInt8 := [91] ++ (runsM (listM m 256)).flatMap (fun p => (pairS p).data.toList) ++ [93]
def classS (m : Nat → Bool) : ByteArray := ⟨(classL m).toArray⟩
def setS (m : Nat → Bool) : ByteArray := match firstM m with
  | none => nothingB
  | some b => if eqB m dotM then { data := #[46] } else if cnt m 256 = 1 then byteS b else classS m
def ClassOk (m : Nat → Bool) : Prop := ∀ w : World, Calls Tryz.prog 73 #[setV m] w fun v w' => v = .returned (.string (classS m)) ∧ Below w.heap.size w w'
def SetOk (m : Nat → Bool) : Prop := ∀ w : World, TabOk w → Calls Tryz.prog 11 #[setV m] w fun v w' => v = .returned (.string (setS m)) ∧ Below w.heap.size w w'
theorem rdu8_new (w : World) (l : List Int) (hl : l.length ≤ 1000) : Rd (w.alloc (.cells (l.map (Value.int .u8)).toArray 5)) .u8 (.slice (some ⟨w.heap.size, 0, none⟩) l.length l.length) l := by
  refine ⟨_, _, rfl, Nat.le_refl _, by omega, fun i x hx => ⟨_, rfl, by simp, ?_⟩⟩
  rw [show (⟨w.heap.size, 0, none⟩ : Addr).add i = ⟨w.heap.size, i, none⟩ by unfold Addr.add; split <;> simp_all]
  rw [(Blk.new w (l.map (Value.int .u8)) _).cell i, List.getElem?_map, hx]
  rfl
theorem of10 (w : World) : Calls Tryz.prog 71 #[.slice (some ⟨w.heap.size, 0, none⟩) 1 1] (w.alloc (.cells #[.int .u8 10] 5)) fun e w' => e = .returned (setV (ofM [10])) ∧ Below w.heap.size w w' :=
  (of_any [10] _ _ (rdu8_new w [10] (by simp)) (fun x hx => by rw [List.mem_singleton.1 hx]; omega)).mono fun e w' ⟨h1, h2⟩ => ⟨h1, ((Below.refl w.heap.size w).alloc (Nat.le_refl _) _).trans (h2.mono (by simp))⟩
set_option maxHeartbeats 4000000 in
theorem pset_at {m : Nat → Bool} (hcl : firstM m ≠ none → cnt m 256 ≠ 1 → ClassOk m) (w : World) (hT : TabOk w) : Calls Tryz.prog 11 #[setV m] w fun v w' => v = .returned (.string (setS m)) ∧ Below w.heap.size w w' := by
  have HV := Lib.hid (show setS m = match firstM m with
    | none => nothingB
    | some b => if eqB m dotM then { data := #[46] } else if cnt m 256 = 1 then byteS b else classS m from rfl)
  have hbx := (Below.refl w.heap.size w).alloc (Nat.le_refl _) (.cells (setL m).toArray 24)
  have hblk := Blk.new w (setL m) 24
  have HBX := Lib.hid hbx
  have HF := Lib.hid (first_any m _ (hT.below (hbx.mono (by simp))))
  have HBK := Lib.hid hblk
  have HCL := Lib.hid hcl
  clear hbx hblk hT hcl
  unfold firstV at HF
  unfold setV
  cases hf : firstM m with
  | none =>
    rw [hf] at HF HV
    go_enter Tryz.func11, Tryz.ntmps11
    go_wp2_with fail
    refine HF.out.mono ?_
    rintro v w1 ⟨rfl, hb⟩
    have HB1 := Lib.hid (HBX.out.trans (hb.mono HBX.out.size))
    clear hb
    go_wp2
    go_returns
    exact ⟨by rw [HV.out]; rfl, HB1.out⟩
  | some b =>
    rw [hf] at HF HV
    have hb256 : b < 256 := List.mem_range.1 (List.mem_of_find?_eq_some hf)
    have HCL2 := Lib.hid (HCL.out (by rw [hf]; intro e; cases e))
    clear hf HCL
    have HCL := Lib.hid HCL2.out
    clear HCL2
    simp only [] at HV
    obtain ⟨z, hz⟩ : ∃ z, eqB m dotM = z := ⟨_, rfl⟩
    have HZ := Lib.hid hz
    rw [hz] at HV
    obtain ⟨n, hn⟩ : ∃ n, cnt m 256 = n := ⟨_, rfl⟩
    have HCN := Lib.hid (count_any m)
    rw [hn] at HV HCN HCL
    have HOF := Lib.hid of10
    have HNOT := Lib.hid (not_any (ofM [10]))
    have HDE := Lib.hid (show setV (fun x => !(ofM [10] x)) = setV dotM from rfl)
    rw [HDE.out] at HNOT
    clear hz hn
    go_enter Tryz.func11, Tryz.ntmps11
    go_wp2_with fail
    refine HF.out.mono ?_
    rintro v w1 ⟨rfl, hb⟩
    have HB1 := Lib.hid (HBX.out.trans (hb.mono HBX.out.size))
    have hk1 := HBK.out.below hb HBK.out.lt
    clear hb
    obtain ⟨k0, k1, k2, k3, -, -, -, -⟩ := hk1.four
    have hkl := hk1.lt
    have HK1 := Lib.hid hk1
    clear hk1
    have hs1 := HB1.out.size
    go_wp2_with fail
    go_region_law (first
      | (go_simp; go_at_call 71; refine (HOF.out w1.drew).mono ?_; rintro v w3 ⟨rfl, hb3⟩; have HB3 := Lib.hid (HB1.out.drew.trans (hb3.mono hs1)); have hk3 := HK1.out.drew.below hb3 hkl; have HK3 := Lib.hid hk3; obtain ⟨k0, k1, k2, k3, -, -, -, -⟩ := hk3.four; have hs3 := HB3.out.size; clear hb3 hk3)
      | (go_simp; go_at_call 70; refine (HNOT.out w3).mono ?_; rintro v w4 ⟨rfl, hb4⟩; have HB4 := Lib.hid (HB3.out.trans (hb4.mono hs3)); have hk4 := HK3.out.below hb4 HK3.out.lt; have HK4 := Lib.hid hk4; obtain ⟨k0, k1, k2, k3, -, -, -, -⟩ := hk4.four; have hs4 := HB4.out.size; clear hb4 hk4))
    all_goals
      rw [HZ.out]
      cases z with
      | true =>
        go_wp2
        go_returns
        exact ⟨by rw [HV.out]; rfl, HB4.out⟩
      | false =>
        go_wp2_with fail
        refine (HCN.out _).mono ?_
        rintro v w5 ⟨rfl, hb5⟩
        have HB5 := Lib.hid (HB4.out.trans (hb5.mono hs4))
        have hk5 := HK4.out.below hb5 HK4.out.lt
        obtain ⟨k0, k1, k2, k3, -, -, -, -⟩ := hk5.four
        have hkl5 := hk5.lt
        have hs5 := HB5.out.size
        clear hb5 hk5
        by_cases h1 : n = 1
        · subst h1
          go_wp2_with fail
          refine (byte_at b hb256 _).mono ?_
          rintro v w6 ⟨rfl, hb6⟩
          go_wp2
          go_returns
          exact ⟨by rw [HV.out]; rfl, HB5.out.trans (hb6.mono hs5)⟩
        · have hq1 : (((n : Nat) : Int) == 1) = false := by rw [beq_eq_false_iff_ne]; omega
          have HN1 := Lib.hid h1
          have HCC := Lib.hid (HCL.out h1)
          clear h1
          go_wp2_with fail
          refine (HCC.out _).mono ?_
          rintro v w6 ⟨rfl, hb6⟩
          go_wp2
          go_returns
          exact ⟨by rw [HV.out, if_neg HN1.out]; rfl, HB5.out.trans (hb6.mono hs5)⟩
end Go.Proofs.YtpiimcbbgalhfaaGreatDoor
