/- Patterns' tokens: the plain model: what is read at a place. No program in sight. -/
import Derived.Test.YtpiimcbbgalhfaaGreatDoorBa
import Derived.Orders
import Derived.StillTail
import Derived.WalkKit
import Derived.BigQuiet
import Derived.Deep.QuietTactic
import Derived.BigRegion
import Derived.Deep.RegionWith
import Derived.Deep.Cut
import Derived.Deep.CutBlock
import Derived.IntWalk
import Derived.Test.YtpiimcbbgalhfaaGreatDoorRows
import Derived.Lib.Strings
import Derived.Lib.Slices
import Derived.Lib.Walk
import Derived.Lib.Bytealg
import Derived.StillTailTactics
import Derived.Deep.AppendLies
namespace Go.Proofs.YtpiimcbbgalhfaaGreatDoor
set_option maxRecDepth 100000
/-- What is read at a place: a value, and where one goes on; or where it fails, and the error's number. -/
inductive Res (α : Type) where
  | ok (v : α) (i : Nat)
  | err (i e : Nat)
/-- A text's bytes. -/
def bytesN (s : ByteArray) : List Nat := s.data.toList.map (·.toNat)
def specialL : List Nat := [92, 124, 40, 41, 91, 93, 123, 125, 42, 43, 63, 46, 94, 36, 47, 45]
def otherL : List Nat := [49, 50, 51, 52, 53, 54, 55, 56, 57, 98, 66, 65, 122, 90, 71, 81, 69, 107, 112, 80]
def loneL : List Nat := [93, 125]
def innerL : List Nat := [91, 93, 45, 94]
def oneM (c : Nat) : Nat → Bool := ofM [((c : Nat) : Int)]
def digitsM : Nat → Bool := rangeM 48 57
def wordM : Nat → Bool := anyM [rangeM 48 57, rangeM 97 122, rangeM 65 90, ofM [95]]
def spaceM : Nat → Bool := anyM [rangeM 9 13, ofM [32]]
def notM (m : Nat → Bool) (x : Nat) : Bool := !m x
def namedM (c : Nat) : Option (Nat → Bool) :=
  if c = 110 then some (oneM 10) else if c = 116 then some (oneM 9) else if c = 114 then some (oneM 13) else if c = 102 then some (oneM 12) else if c = 118 then some (oneM 11)
  else if c = 100 then some digitsM else if c = 119 then some wordM else if c = 115 then some spaceM else if c = 68 then some (notM digitsM) else if c = 87 then some (notM wordM) else if c = 83 then some (notM spaceM) else none
def hexM (c : Nat) : Option Nat := if 48 ≤ c ∧ c ≤ 57 then some (c - 48) else if 97 ≤ c ∧ c ≤ 102 then some (c - 87) else if 65 ≤ c ∧ c ≤ 70 then some (c - 55) else none
def hexAt (t : List Nat) (i : Nat) : Option Nat := (t[i]?).bind hexM
/-- At a backslash. -/
def escM (t : List Nat) (i : Nat) : Res (Nat → Bool) :=
  match t[i + 1]? with
  | none => .err (i + 1) 4
  | some c =>
    if specialL.contains c then .ok (oneM c) (i + 2)
    else match namedM c with
      | some m => .ok m (i + 2)
      | none =>
        if c = 120 then
          match hexAt t (i + 2) with
          | none => .err (i + 2) 4
          | some hi =>
            match hexAt t (i + 3) with
            | none => .err (i + 3) 4
            | some lo => .ok (oneM (16 * hi + lo)) (i + 4)
        else if otherL.contains c then .err i 6 else .err (i + 1) 4
def itemM (t : List Nat) (i : Nat) : Res (Nat → Bool) :=
  match t[i]? with
  | none => .err i 4
  | some c => if innerL.contains c then .err i 4 else if c = 92 then escM t i else .ok (oneM c) (i + 1)
/-- The byte of a set that has just one. -/
def onlyM (m : Nat → Bool) : Option Nat := if cnt m 256 = 1 then firstM m else none
/-- An item, or a range. -/
def spanM (t : List Nat) (i : Nat) : Res (Nat → Bool) :=
  match itemM t i with
  | .err j e => .err j e
  | .ok lo j =>
    if t[j]? = some 45 then
      match onlyM lo with
      | none => .err j 4
      | some a =>
        match itemM t (j + 1) with
        | .err k e => .err k e
        | .ok hi k =>
          match onlyM hi with
          | none => .err (j + 1) 4
          | some b => if b < a then .err i 5 else .ok (rangeM ((a : Nat) : Int) ((b : Nat) : Int)) k
    else .ok lo j
def classLoop (t : List Nat) : Nat → (Nat → Bool) → Nat → Res (Nat → Bool)
  | 0, _, i => .err i 4
  | f + 1, m, i =>
    if t[i]? = some 93 then .ok m (i + 1)
    else match spanM t i with
      | .err j e => .err j e
      | .ok m2 j => classLoop t f (anyM [m, m2]) j
def classBody (t : List Nat) (i : Nat) : Res (Nat → Bool) :=
  match spanM t i with
  | .err j e => .err j e
  | .ok m j => classLoop t (t.length + 1 - j) m j
/-- At a bracket. -/
def classM (t : List Nat) (i : Nat) : Res (Nat → Bool) :=
  if t[i + 1]? = some 94 then
    match classBody t (i + 2) with
    | .err j e => .err j e
    | .ok m j => .ok (notM m) j
  else classBody t (i + 1)
def digitAt (t : List Nat) (i : Nat) : Option Nat := (t[i]?).bind fun c => if 48 ≤ c ∧ c ≤ 57 then some (c - 48) else none
/-- The digits from a place on: their number, and where they end. -/
def numLoop (t : List Nat) : Nat → Nat → Nat → Nat × Nat
  | 0, n, i => (n, i)
  | f + 1, n, i => match digitAt t i with
    | none => (n, i)
    | some d => numLoop t f (10 * n + d) (i + 1)
def numberM (t : List Nat) (i : Nat) : Res Nat :=
  match digitAt t i with
  | none => .err i 4
  | some _ => let p := numLoop t (t.length - i) 0 i
    if p.1 > 1000 then .err i 5 else .ok p.1 p.2
/-- Behind an open brace: the least, and the most (none: endless). -/
def bracesM (t : List Nat) (i : Nat) : Res (Nat × Option Nat) :=
  match numberM t i with
  | .err j e => .err j e
  | .ok lo j =>
    if t[j]? = some 44 then
      if t[j + 1]? = some 125 then .ok (lo, none) (j + 2)
      else match numberM t (j + 1) with
        | .err k e => .err k e
        | .ok hi k => if hi < lo then .err (j + 1) 5 else if t[k]? = some 125 then .ok (lo, some hi) (k + 1) else .err k 4
    else if t[j]? = some 125 then .ok (lo, some lo) (j + 1) else .err j 4
/-- A token, but for its place. -/
structure Tok where
  kind : Nat
  set : Nat → Bool
  lo : Nat
  hi : Int
  lazy : Bool
def noSet : Nat → Bool := fun _ => false
def setTok (m : Nat → Bool) : Tok := ⟨0, m, 0, 0, false⟩
def kindTok (k : Nat) : Tok := ⟨k, noSet, 0, 0, false⟩
/-- Behind a count: is it lazy? -/
def lazyM (t : List Nat) (lo : Nat) (hi : Int) (i : Nat) : Res Tok :=
  let z := decide (t[i]? = some 63)
  let j := if t[i]? = some 63 then i + 1 else i
  if t[j]? = some 43 then .err j 6 else .ok ⟨5, noSet, lo, hi, z⟩ j
def hiZ (o : Option Nat) : Int := match o with | none => -1 | some n => ((n : Nat) : Int)
def setRes (r : Res (Nat → Bool)) : Res Tok := match r with
  | .err j e => .err j e
  | .ok m j => .ok (setTok m) j
def groupM (t : List Nat) (i : Nat) : Res Tok :=
  if t[i + 1]? = some 63 then (if t[i + 2]? = some 58 then .ok (kindTok 2) (i + 3) else .err i 6) else .ok (kindTok 1) (i + 1)
/-- The token at a place. -/
def tokM (t : List Nat) (i : Nat) : Res Tok :=
  match t[i]? with
  | none => .err i 4
  | some c =>
    if c = 92 then setRes (escM t i)
    else if c = 91 then setRes (classM t i)
    else if c = 40 then groupM t i
    else if c = 41 then .ok (kindTok 3) (i + 1)
    else if c = 124 then .ok (kindTok 4) (i + 1)
    else if c = 46 then .ok (setTok (notM (oneM 10))) (i + 1)
    else if c = 42 then lazyM t 0 (-1) (i + 1)
    else if c = 43 then lazyM t 1 (-1) (i + 1)
    else if c = 63 then lazyM t 0 1 (i + 1)
    else if c = 123 then
      match bracesM t (i + 1) with
      | .err j e => .err j e
      | .ok (lo, hi) j => lazyM t lo (hiZ hi) j
    else if c = 94 ∨ c = 36 then .err i 6
    else if loneL.contains c then .err i 4
    else .ok (setTok (oneM c)) (i + 1)
/-- All tokens, each with its place and its end. -/
def scanLoop (t : List Nat) : Nat → Nat → List (Tok × Nat × Nat) → Res (List (Tok × Nat × Nat))
  | 0, i, l => .ok l i
  | f + 1, i, l =>
    if i < t.length then
      match tokM t i with
      | .err j e => .err j e
      | .ok x j => scanLoop t f j (l ++ [(x, i, j)])
    else .ok l i
def scanM (t : List Nat) : Res (List (Tok × Nat × Nat)) := scanLoop t (t.length + 1) 0 []
end Go.Proofs.YtpiimcbbgalhfaaGreatDoor
/- Tokens: what is read goes forward and stays within the text; rounds enough are enough. No program in sight. -/
namespace Go.Proofs.YtpiimcbbgalhfaaGreatDoor
set_option maxRecDepth 100000
theorem get_lt {t : List Nat} {i c : Nat} (h : t[i]? = some c) : i < t.length := (List.getElem?_eq_some_iff.1 h).1
theorem hexAt_lt {t : List Nat} {i d : Nat} (h : hexAt t i = some d) : i < t.length := by
  unfold hexAt at h
  cases hc : t[i]? with
  | none => rw [hc] at h; cases h
  | some c => exact get_lt hc
theorem escM_le {t : List Nat} {i : Nat} {m : Nat → Bool} {j : Nat} (h : escM t i = .ok m j) : i < j ∧ j ≤ t.length := by
  unfold escM at h
  cases hc : t[i + 1]? with
  | none => rw [hc] at h; cases h
  | some c =>
    have hl := get_lt hc
    rw [hc] at h
    simp only [] at h
    split at h
    · injection h with _ h
      omega
    · cases hn : namedM c with
      | some m' =>
        rw [hn] at h
        injection h with _ h
        omega
      | none =>
        rw [hn] at h
        simp only [] at h
        split at h
        · cases h1 : hexAt t (i + 2) with
          | none => rw [h1] at h; cases h
          | some d =>
            rw [h1] at h
            simp only [] at h
            cases h2 : hexAt t (i + 3) with
            | none => rw [h2] at h; cases h
            | some d2 =>
              rw [h2] at h
              injection h with _ h
              have := hexAt_lt h2
              omega
        · split at h <;> cases h
theorem itemM_le {t : List Nat} {i : Nat} {m : Nat → Bool} {j : Nat} (h : itemM t i = .ok m j) : i < j ∧ j ≤ t.length := by
  unfold itemM at h
  cases hc : t[i]? with
  | none => rw [hc] at h; cases h
  | some c =>
    have hl := get_lt hc
    rw [hc] at h
    simp only [] at h
    split at h
    · cases h
    · split at h
      · exact escM_le h
      · injection h with _ h
        omega
theorem spanM_le {t : List Nat} {i : Nat} {m : Nat → Bool} {j : Nat} (h : spanM t i = .ok m j) : i < j ∧ j ≤ t.length := by
  unfold spanM at h
  cases h1 : itemM t i with
  | err k e => rw [h1] at h; cases h
  | ok lo k =>
    have hk := itemM_le h1
    rw [h1] at h
    simp only [] at h
    split at h
    · cases ha : onlyM lo with
      | none => rw [ha] at h; cases h
      | some a =>
        rw [ha] at h
        simp only [] at h
        cases h2 : itemM t (k + 1) with
        | err k e => rw [h2] at h; cases h
        | ok hi n =>
          have hn := itemM_le h2
          rw [h2] at h
          simp only [] at h
          cases hb : onlyM hi with
          | none => rw [hb] at h; cases h
          | some b2 =>
            rw [hb] at h
            simp only [] at h
            split at h
            · cases h
            · injection h with _ h
              omega
    · injection h with _ h
      omega
/-- Rounds enough are enough. -/
theorem class_fuel (t : List Nat) : ∀ (d i : Nat) (m : Nat → Bool) (f : Nat), t.length + 1 - i ≤ d → d ≤ f → classLoop t f m i = classLoop t d m i := by
  intro d
  induction d with
  | zero =>
    intro i m f h1 h2
    cases f with
    | zero => rfl
    | succ f =>
      have hn : t[i]? = none := List.getElem?_eq_none (by omega)
      unfold classLoop
      rw [if_neg (by rw [hn]; simp)]
      have : spanM t i = .err i 4 := by unfold spanM itemM; rw [hn]
      rw [this]
  | succ d ih =>
    intro i m f h1 h2
    obtain ⟨f, rfl⟩ : ∃ g, f = g + 1 := ⟨f - 1, by omega⟩
    unfold classLoop
    split
    · rfl
    · cases hs : spanM t i with
      | err j e => rfl
      | ok m2 j =>
        have := spanM_le hs
        exact ih j _ f (by omega) (by omega)
theorem classLoop_le (t : List Nat) : ∀ (f i : Nat) (m m' : Nat → Bool) (j : Nat), classLoop t f m i = .ok m' j → i < j ∧ j ≤ t.length := by
  intro f
  induction f with
  | zero => intro i m m' j h; cases h
  | succ f ih =>
    intro i m m' j h
    unfold classLoop at h
    split at h
    · rename_i hc
      have := get_lt hc
      injection h with _ h
      omega
    · cases hs : spanM t i with
      | err k e => rw [hs] at h; cases h
      | ok m2 k =>
        rw [hs] at h
        have h1 := spanM_le hs
        have h2 := ih k _ _ j h
        omega
theorem classBody_le {t : List Nat} {i : Nat} {m : Nat → Bool} {j : Nat} (h : classBody t i = .ok m j) : i < j ∧ j ≤ t.length := by
  unfold classBody at h
  cases hs : spanM t i with
  | err k e => rw [hs] at h; cases h
  | ok m2 k =>
    rw [hs] at h
    have h1 := spanM_le hs
    have h2 := classLoop_le t _ _ _ _ _ h
    omega
theorem classM_le {t : List Nat} {i : Nat} {m : Nat → Bool} {j : Nat} (h : classM t i = .ok m j) : i < j ∧ j ≤ t.length := by
  unfold classM at h
  split at h
  · cases hb : classBody t (i + 2) with
    | err k e => rw [hb] at h; cases h
    | ok m2 k =>
      rw [hb] at h
      injection h with _ h
      have := classBody_le hb
      omega
  · have := classBody_le h
    omega
/-- From place to place: what the rounds yet to come make of it. -/
def classFrom (t : List Nat) (m : Nat → Bool) (i : Nat) : Res (Nat → Bool) := classLoop t (t.length + 1 - i) m i
theorem classBody_from (t : List Nat) (i : Nat) : classBody t i = match spanM t i with | .err j e => .err j e | .ok m j => classFrom t m j := rfl
theorem classFrom_end {t : List Nat} {i : Nat} (m : Nat → Bool) (h : t[i]? = some 93) : classFrom t m i = .ok m (i + 1) := by
  have := get_lt h
  unfold classFrom
  obtain ⟨f, hf⟩ : ∃ f, t.length + 1 - i = f + 1 := ⟨t.length - i, by omega⟩
  rw [hf]
  unfold classLoop
  rw [if_pos h]
theorem classFrom_next {t : List Nat} {i : Nat} (m : Nat → Bool) (hi : i ≤ t.length) (h : t[i]? ≠ some 93) : classFrom t m i = match spanM t i with | .err j e => .err j e | .ok m2 j => classFrom t (anyM [m, m2]) j := by
  unfold classFrom
  obtain ⟨f, hf⟩ : ∃ f, t.length + 1 - i = f + 1 := ⟨t.length - i, by omega⟩
  rw [hf]
  conv => lhs; unfold classLoop
  rw [if_neg h]
  cases hs : spanM t i with
  | err j e => rfl
  | ok m2 j =>
    have := spanM_le hs
    exact class_fuel t _ j _ f (Nat.le_refl _) (by omega)
/-- Where a reading fails, it fails within the text, and the error isn't 0. -/
theorem digitAt_lt {t : List Nat} {i d : Nat} (h : digitAt t i = some d) : i < t.length ∧ d ≤ 9 := by
  unfold digitAt at h
  cases hc : t[i]? with
  | none => rw [hc] at h; cases h
  | some c =>
    rw [hc] at h
    simp only [Option.bind_some] at h
    split at h
    · injection h with h
      exact ⟨get_lt hc, by omega⟩
    · cases h
theorem num_fuel (t : List Nat) : ∀ (d n i f : Nat), t.length - i ≤ d → d ≤ f → numLoop t f n i = numLoop t d n i := by
  intro d
  induction d with
  | zero =>
    intro n i f h1 h2
    cases f with
    | zero => rfl
    | succ f =>
      have hn : digitAt t i = none := by unfold digitAt; rw [List.getElem?_eq_none (by omega)]; rfl
      unfold numLoop
      rw [hn]
  | succ d ih =>
    intro n i f h1 h2
    obtain ⟨f, rfl⟩ : ∃ g, f = g + 1 := ⟨f - 1, by omega⟩
    unfold numLoop
    cases hd : digitAt t i with
    | none => rfl
    | some x =>
      have := digitAt_lt hd
      exact ih _ (i + 1) f (by omega) (by omega)
def numFrom (t : List Nat) (n i : Nat) : Nat × Nat := numLoop t (t.length - i) n i
theorem numFrom_end {t : List Nat} {i : Nat} (n : Nat) (h : digitAt t i = none) : numFrom t n i = (n, i) := by
  unfold numFrom
  cases hf : t.length - i with
  | zero => rfl
  | succ f => unfold numLoop; rw [h]
theorem numFrom_next {t : List Nat} {i d : Nat} (n : Nat) (h : digitAt t i = some d) : numFrom t n i = numFrom t (10 * n + d) (i + 1) := by
  have := digitAt_lt h
  unfold numFrom
  obtain ⟨f, hf⟩ : ∃ f, t.length - i = f + 1 := ⟨t.length - i - 1, by omega⟩
  rw [hf]
  conv => lhs; unfold numLoop
  rw [h]
  exact num_fuel t _ _ _ _ (by omega) (by omega)
theorem numFrom_le (t : List Nat) : ∀ (d n i : Nat), t.length - i ≤ d → i ≤ t.length → i ≤ (numFrom t n i).2 ∧ (numFrom t n i).2 ≤ t.length ∧ n ≤ (numFrom t n i).1 := by
  intro d
  induction d with
  | zero =>
    intro n i h hi
    have hn : digitAt t i = none := by unfold digitAt; rw [List.getElem?_eq_none (by omega)]; rfl
    rw [numFrom_end n hn]
    exact ⟨Nat.le_refl _, hi, Nat.le_refl _⟩
  | succ d ih =>
    intro n i h hi
    cases hd : digitAt t i with
    | none =>
      rw [numFrom_end n hd]
      exact ⟨Nat.le_refl _, hi, Nat.le_refl _⟩
    | some x =>
      have hl := digitAt_lt hd
      rw [numFrom_next n hd]
      obtain ⟨h1, h2, h3⟩ := ih (10 * n + x) (i + 1) (by omega) (by omega)
      exact ⟨by omega, h2, by omega⟩
end Go.Proofs.YtpiimcbbgalhfaaGreatDoor
/- A token's end lies ahead, within the text. No program in sight. -/
namespace Go.Proofs.YtpiimcbbgalhfaaGreatDoor
set_option maxRecDepth 100000
theorem lazyM_le {t : List Nat} {lo : Nat} {hi : Int} {i : Nat} {x : Tok} {j : Nat} (hi0 : i ≤ t.length) (h : lazyM t lo hi i = .ok x j) : i ≤ j ∧ j ≤ t.length := by
  unfold lazyM at h
  by_cases h1 : t[i]? = some 63
  · have := get_lt h1
    simp only [h1, if_true] at h
    split at h
    · cases h
    · injection h with _ h
      omega
  · simp only [h1, if_false] at h
    split at h
    · cases h
    · injection h with _ h
      omega
theorem numberM_le {t : List Nat} {i n j : Nat} (h : numberM t i = .ok n j) : i < j ∧ j ≤ t.length := by
  unfold numberM at h
  cases hd : digitAt t i with
  | none => rw [hd] at h; cases h
  | some d =>
    have hl := digitAt_lt hd
    rw [hd] at h
    dsimp only at h
    have e : numLoop t (t.length - i) 0 i = numFrom t 0 i := rfl
    rw [e, numFrom_next 0 hd] at h
    have hm := numFrom_le t _ (10 * 0 + d) (i + 1) (Nat.le_refl _) (by omega)
    split at h
    · cases h
    · injection h with _ h
      omega
theorem bracesM_le {t : List Nat} {i : Nat} {v : Nat × Option Nat} {j : Nat} (h : bracesM t i = .ok v j) : i < j ∧ j ≤ t.length := by
  unfold bracesM at h
  cases h1 : numberM t i with
  | err k e => rw [h1] at h; cases h
  | ok lo k =>
    have hk := numberM_le h1
    rw [h1] at h
    dsimp only at h
    split at h
    · rename_i h2
      split at h
      · rename_i h3
        have := get_lt h3
        injection h with _ h
        omega
      · cases h4 : numberM t (k + 1) with
        | err n e => rw [h4] at h; cases h
        | ok hi n =>
          have hn := numberM_le h4
          rw [h4] at h
          dsimp only at h
          split at h
          · cases h
          · split at h
            · rename_i h5
              have := get_lt h5
              injection h with _ h
              omega
            · cases h
    · split at h
      · rename_i h3
        have := get_lt h3
        injection h with _ h
        omega
      · cases h
theorem setRes_le {r : Res (Nat → Bool)} {x : Tok} {j : Nat} (h : setRes r = .ok x j) : ∃ m, r = .ok m j := by
  cases r with
  | err k e => cases h
  | ok m k =>
    injection h with _ h
    exact ⟨m, by rw [h]⟩
theorem tokM_le {t : List Nat} {i : Nat} {x : Tok} {j : Nat} (h : tokM t i = .ok x j) : i < j ∧ j ≤ t.length := by
  unfold tokM at h
  cases hc : t[i]? with
  | none => rw [hc] at h; cases h
  | some c =>
    have hl := get_lt hc
    rw [hc] at h
    dsimp only at h
    by_cases h0 : c = 92
    · rw [if_pos h0] at h
      obtain ⟨m, hm⟩ := setRes_le h
      exact escM_le hm
    rw [if_neg h0] at h
    by_cases h1 : c = 91
    · rw [if_pos h1] at h
      obtain ⟨m, hm⟩ := setRes_le h
      exact classM_le hm
    rw [if_neg h1] at h
    by_cases h2 : c = 40
    · rw [if_pos h2] at h
      unfold groupM at h
      split at h
      · split at h
        · rename_i h3
          have := get_lt h3
          injection h with _ h
          omega
        · cases h
      · injection h with _ h
        omega
    rw [if_neg h2] at h
    by_cases h3 : c = 41
    · rw [if_pos h3] at h
      injection h with _ h
      omega
    rw [if_neg h3] at h
    by_cases h4 : c = 124
    · rw [if_pos h4] at h
      injection h with _ h
      omega
    rw [if_neg h4] at h
    by_cases h5 : c = 46
    · rw [if_pos h5] at h
      injection h with _ h
      omega
    rw [if_neg h5] at h
    by_cases h6 : c = 42
    · rw [if_pos h6] at h
      have := lazyM_le (by omega) h
      omega
    rw [if_neg h6] at h
    by_cases h7 : c = 43
    · rw [if_pos h7] at h
      have := lazyM_le (by omega) h
      omega
    rw [if_neg h7] at h
    by_cases h8 : c = 63
    · rw [if_pos h8] at h
      have := lazyM_le (by omega) h
      omega
    rw [if_neg h8] at h
    by_cases h9 : c = 123
    · rw [if_pos h9] at h
      cases hb : bracesM t (i + 1) with
      | err k e => rw [hb] at h; cases h
      | ok v k =>
        have hk := bracesM_le hb
        rw [hb] at h
        obtain ⟨lo, hi⟩ := v
        have := lazyM_le (by omega) h
        omega
    rw [if_neg h9] at h
    by_cases ha : c = 94 ∨ c = 36
    · rw [if_pos ha] at h
      cases h
    rw [if_neg ha] at h
    by_cases hlo : loneL.contains c = true
    · rw [if_pos hlo] at h
      cases h
    rw [if_neg hlo] at h
    injection h with _ h
    omega
end Go.Proofs.YtpiimcbbgalhfaaGreatDoor
/- Patterns' trees: the plain model: how tokens are read as a tree. No program in sight. -/
namespace Go.Proofs.YtpiimcbbgalhfaaGreatDoor
set_option maxRecDepth 100000
/-- A node. -/
inductive Tree where
  | mk (kind : Int) (set : Nat → Bool) (lo hi : Int) (lazy : Bool) (kids : List Tree) (f t : Nat)
abbrev Tk := Tok × Nat × Nat
def Tree.kind : Tree → Int | .mk k _ _ _ _ _ _ _ => k
def Tree.set : Tree → Nat → Bool | .mk _ s _ _ _ _ _ _ => s
def Tree.lo : Tree → Int | .mk _ _ l _ _ _ _ _ => l
def Tree.hi : Tree → Int | .mk _ _ _ h _ _ _ _ => h
def Tree.lazy : Tree → Bool | .mk _ _ _ _ z _ _ _ => z
def Tree.kids : Tree → List Tree | .mk _ _ _ _ _ k _ _ => k
def Tree.f : Tree → Nat | .mk _ _ _ _ _ _ f _ => f
def Tree.t : Tree → Nat | .mk _ _ _ _ _ _ _ t => t
inductive PRes where
  | ok (n : Tree) (j : Nat)
  | err (p e : Nat)
inductive LRes where
  | ok (l : List Tree) (j : Nat)
  | err (p e : Nat)
def kindAt (T : List Tk) (i : Nat) : Option Nat := (T[i]?).map (·.1.kind)
/-- Where the token at a place begins. -/
def fromAt (T : List Tk) (size i : Nat) : Nat := match T[i]? with | some x => x.2.1 | none => size
def leafT (x : Tk) : Tree := .mk 1 x.1.set 0 0 false [] x.2.1 x.2.2
def emptyT (p : Nat) : Tree := .mk 0 noSet 0 0 false [] p p
def groupT (x : Tk) (n : Tree) (t : Nat) : Tree := .mk (if x.1.kind = 2 then 3 else 2) noSet 0 0 false [n] x.2.1 t
def repT (x c : Tk) (n : Tree) : Tree := .mk 6 noSet c.1.lo c.1.hi c.1.lazy [n] x.2.1 c.2.2
def lastT (l : List Tree) : Nat := match l.getLast? with | some n => n.t | none => 0
def headT (l : List Tree) : Nat := match l.head? with | some n => n.f | none => 0
def manyT (k : Int) (l : List Tree) : Tree := match l with
  | [n] => n
  | l => .mk k noSet 0 0 false l (headT l) (lastT l)
section
variable (T : List Tk) (size : Nat) (rec : Nat → Nat → PRes)
def groupW (d i : Nat) (x : Tk) : PRes :=
  if 200 ≤ d then .err x.2.1 3
  else match rec (d + 1) (i + 1) with
    | .err p e => .err p e
    | .ok n j => match T[j]? with
      | some y => if y.1.kind = 3 then .ok (groupT x n y.2.2) (j + 1) else .err size 4
      | none => .err size 4
def baseW (d i : Nat) (x : Tk) : PRes :=
  if x.1.kind = 0 then .ok (leafT x) (i + 1) else if x.1.kind = 1 ∨ x.1.kind = 2 then groupW T size rec d i x else .err x.2.1 4
def itemW (d i : Nat) (x : Tk) : PRes :=
  match baseW T size rec d i x with
  | .err p e => .err p e
  | .ok n j => match T[j]? with
    | some c => if c.1.kind = 5 then .ok (repT x c n) (j + 1) else .ok n j
    | none => .ok n j
def catLoop (d : Nat) : Nat → List Tree → Nat → LRes
  | 0, l, i => .ok l i
  | f + 1, l, i => match T[i]? with
    | none => .ok l i
    | some x =>
      if x.1.kind = 4 ∨ x.1.kind = 3 then .ok l i
      else match itemW T size rec d i x with
        | .err p e => .err p e
        | .ok n j => catLoop d f (l ++ [n]) j
def catEnd (i : Nat) : LRes → PRes
  | .err p e => .err p e
  | .ok [] j => .ok (emptyT (fromAt T size i)) j
  | .ok l j => .ok (manyT 4 l) j
def catW (d i : Nat) : PRes := catEnd T size i (catLoop T size rec d (T.length + 1 - i) [] i)
def altLoop (d : Nat) : Nat → List Tree → Nat → LRes
  | 0, l, j => .ok l j
  | f + 1, l, j =>
    if kindAt T j = some 4 then match catW T size rec d (j + 1) with
      | .err p e => .err p e
      | .ok n k => altLoop d f (l ++ [n]) k
    else .ok l j
def altEnd : LRes → PRes
  | .err p e => .err p e
  | .ok l j => .ok (manyT 5 l) j
def altW (d i : Nat) : PRes := match catW T size rec d i with
  | .err p e => .err p e
  | .ok n j => altEnd (altLoop T size rec d (T.length + 1 - j) [n] j)
end
def altF (T : List Tk) (size : Nat) : Nat → Nat → Nat → PRes
  | 0 => fun _ _ => .err 0 4
  | n + 1 => altW T size (altF T size n)
/-- All tokens. -/
def treeM (T : List Tk) (size : Nat) : PRes := match altF T size (T.length + 1) 0 0 with
  | .err p e => .err p e
  | .ok n j => match T[j]? with
    | some x => .err x.2.1 4
    | none => .ok n j
/-- A pattern. -/
def parseM (s : ByteArray) : PRes := match scanM (bytesN s) with
  | .err j e => .err j e
  | .ok L _ => treeM L s.size
end Go.Proofs.YtpiimcbbgalhfaaGreatDoor
/- Patterns' trees: where a pattern can't go on, by counting brackets; which groups, and where they close. No program in sight. -/
namespace Go.Proofs.YtpiimcbbgalhfaaGreatDoor
set_option maxRecDepth 100000
/-- The first fault, from some tokens on. -/
def firstL (size : Nat) : List Tk → Nat → Bool → Option (Nat × Nat)
  | [], d, _ => if 0 < d then some (size, 4) else none
  | x :: r, d, ah =>
    if x.1.kind = 0 then firstL size r d true
    else if x.1.kind = 1 ∨ x.1.kind = 2 then (if 200 ≤ d then some (x.2.1, 3) else firstL size r (d + 1) false)
    else if x.1.kind = 3 then (if d = 0 then some (x.2.1, 4) else firstL size r (d - 1) true)
    else if x.1.kind = 4 then firstL size r d false
    else if ah then firstL size r d false else some (x.2.1, 4)
/-- Only a count asks what stands ahead. -/
theorem first_ahead {size : Nat} {r : List Tk} (h : ∀ x, r.head? = some x → x.1.kind = 0 ∨ x.1.kind = 1 ∨ x.1.kind = 2 ∨ x.1.kind = 3 ∨ x.1.kind = 4) (d : Nat) (a b : Bool) : firstL size r d a = firstL size r d b := by
  cases r with
  | nil => rfl
  | cons x r =>
    have := h x rfl
    unfold firstL
    split
    · rfl
    · split
      · rfl
      · split
        · rfl
        · split
          · rfl
          · omega
theorem drop_some {T : List Tk} {i : Nat} {x : Tk} (h : T[i]? = some x) : T.drop i = x :: T.drop (i + 1) := by
  obtain ⟨hl, rfl⟩ := List.getElem?_eq_some_iff.1 h
  exact List.drop_eq_getElem_cons hl
theorem drop_none {T : List Tk} {i : Nat} (h : T[i]? = none) : T.drop i = [] := List.drop_eq_nil_iff.2 (List.getElem?_eq_none_iff.1 h)
def kinds5 (T : List Tk) : Prop := ∀ (i : Nat) (x : Tk), T[i]? = some x → x.1.kind ≤ 5
section
variable {T : List Tk} {size : Nat}
/-- What is read says what the fault is: item by item. -/
def Says (T : List Tk) (size d i : Nat) (r : PRes) (stop : Nat → Prop) : Prop := match r with
  | .err p e => firstL size (T.drop i) d false = some (p, e)
  | .ok _ j => i < j ∧ j ≤ T.length ∧ firstL size (T.drop i) d false = firstL size (T.drop j) d false ∧ stop j
def SaysL (T : List Tk) (size d i : Nat) (r : LRes) (stop : Nat → Prop) : Prop := match r with
  | .err p e => firstL size (T.drop i) d false = some (p, e)
  | .ok _ j => i ≤ j ∧ j ≤ T.length ∧ firstL size (T.drop i) d false = firstL size (T.drop j) d false ∧ stop j
def SaysA (T : List Tk) (size d i : Nat) (r : PRes) : Prop := match r with
  | .err p e => firstL size (T.drop i) d false = some (p, e)
  | .ok _ j => i ≤ j ∧ j ≤ T.length ∧ firstL size (T.drop i) d false = firstL size (T.drop j) d false ∧ (kindAt T j = none ∨ kindAt T j = some 3)
theorem ahead_at {j : Nat} (h : ∀ x, T[j]? = some x → x.1.kind ≠ 5) (h5 : kinds5 T) (d : Nat) (a b : Bool) : firstL size (T.drop j) d a = firstL size (T.drop j) d b := by
  refine first_ahead (fun x hx => ?_) d a b
  rw [List.head?_drop] at hx
  have := h x hx
  have := h5 j x hx
  omega
theorem item_says (h5 : kinds5 T) {rec : Nat → Nat → PRes} {d i : Nat} {x : Tk} (hx : T[i]? = some x) (hk : x.1.kind ≠ 3) (hk4 : x.1.kind ≠ 4) (hrec : SaysA T size (d + 1) (i + 1) (rec (d + 1) (i + 1))) :
    Says T size d i (itemW T size rec d i x) (fun _ => True) := by
  have hdr := drop_some hx
  have hil := (List.getElem?_eq_some_iff.1 hx).1
  have hk5 := h5 i x hx
  -- the base
  have hbase : match baseW T size rec d i x with
      | .err p e => firstL size (T.drop i) d false = some (p, e)
      | .ok _ j => i < j ∧ j ≤ T.length ∧ firstL size (T.drop i) d false = firstL size (T.drop j) d true := by
    unfold baseW
    by_cases h0 : x.1.kind = 0
    · rw [if_pos h0]
      refine ⟨by omega, hil, ?_⟩
      rw [hdr]
      conv => lhs; unfold firstL
      rw [if_pos h0]
    · rw [if_neg h0]
      by_cases h12 : x.1.kind = 1 ∨ x.1.kind = 2
      · rw [if_pos h12]
        unfold groupW
        by_cases hd : 200 ≤ d
        · rw [if_pos hd]
          simp only []
          rw [hdr]
          unfold firstL
          rw [if_neg h0, if_pos h12, if_pos hd]
        · rw [if_neg hd]
          have hstep : firstL size (T.drop i) d false = firstL size (T.drop (i + 1)) (d + 1) false := by
            rw [hdr]
            conv => lhs; unfold firstL
            rw [if_neg h0, if_pos h12, if_neg hd]
          cases hr : rec (d + 1) (i + 1) with
          | err p e =>
            rw [hr] at hrec
            simp only []
            rw [hstep]
            exact hrec
          | ok n j =>
            rw [hr] at hrec
            obtain ⟨h1, h2, h3, h4⟩ := hrec
            simp only []
            cases hj : T[j]? with
            | none =>
              simp only []
              rw [hstep, h3, drop_none hj]
              unfold firstL
              rw [if_pos (by omega)]
            | some y =>
              simp only []
              have hky : y.1.kind = 3 := by
                rcases h4 with h4 | h4
                · unfold kindAt at h4; rw [hj] at h4; cases h4
                · unfold kindAt at h4; rw [hj] at h4; injection h4
              rw [if_pos hky]
              simp only []
              refine ⟨by omega, (List.getElem?_eq_some_iff.1 hj).1, ?_⟩
              rw [hstep, h3, drop_some hj]
              conv => lhs; unfold firstL
              rw [if_neg (by omega), if_neg (by omega), if_pos hky, if_neg (by omega), Nat.add_sub_cancel]
      · rw [if_neg h12]
        simp only []
        rw [hdr]
        unfold firstL
        rw [if_neg h0, if_neg h12, if_neg hk, if_neg hk4]
        simp
  unfold itemW
  cases hb : baseW T size rec d i x with
  | err p e =>
    rw [hb] at hbase
    exact hbase
  | ok n j =>
    rw [hb] at hbase
    obtain ⟨h1, h2, h3⟩ := hbase
    simp only []
    cases hj : T[j]? with
    | none =>
      simp only []
      refine ⟨h1, h2, ?_, trivial⟩
      rw [h3, drop_none hj]
      rfl
    | some c =>
      simp only []
      by_cases hc : c.1.kind = 5
      · rw [if_pos hc]
        refine ⟨by omega, (List.getElem?_eq_some_iff.1 hj).1, ?_, trivial⟩
        rw [h3, drop_some hj]
        conv => lhs; unfold firstL
        rw [if_neg (by omega), if_neg (by omega), if_neg (by omega), if_neg (by omega), if_pos rfl]
      · rw [if_neg hc]
        refine ⟨h1, h2, ?_, trivial⟩
        rw [h3]
        exact ahead_at (fun y hy => by rw [hj] at hy; injection hy with hy; subst hy; exact hc) h5 d true false
def catStop (T : List Tk) (j : Nat) : Prop := kindAt T j = none ∨ kindAt T j = some 3 ∨ kindAt T j = some 4
theorem cat_says (h5 : kinds5 T) {rec : Nat → Nat → PRes} {d : Nat} : ∀ (f : Nat) (l : List Tree) (i : Nat), i ≤ T.length → T.length - i < f → (∀ k, i ≤ k → k < T.length → SaysA T size (d + 1) (k + 1) (rec (d + 1) (k + 1))) → SaysL T size d i (catLoop T size rec d f l i) (catStop T) := by
  intro f
  induction f with
  | zero => intro l i _ h; omega
  | succ f ih =>
    intro l i hi hf hrec
    unfold catLoop
    cases hx : T[i]? with
    | none =>
      exact ⟨Nat.le_refl _, hi, rfl, .inl (by unfold kindAt; rw [hx]; rfl)⟩
    | some x =>
      simp only []
      by_cases h34 : x.1.kind = 4 ∨ x.1.kind = 3
      · rw [if_pos h34]
        refine ⟨Nat.le_refl _, hi, rfl, ?_⟩
        unfold catStop kindAt
        rw [hx]
        rcases h34 with h | h
        · exact .inr (.inr (by rw [← h]; rfl))
        · exact .inr (.inl (by rw [← h]; rfl))
      · rw [if_neg h34]
        have := item_says h5 hx (by omega) (by omega) (hrec i (Nat.le_refl _) (List.getElem?_eq_some_iff.1 hx).1)
        cases hit : itemW T size rec d i x with
        | err p e => rw [hit] at this; exact this
        | ok n j =>
          rw [hit] at this
          obtain ⟨h1, h2, h3, _⟩ := this
          simp only []
          have h := ih (l ++ [n]) j h2 (by omega) (fun k hk hl => hrec k (by omega) hl)
          cases hc : catLoop T size rec d f (l ++ [n]) j with
          | err p e => rw [hc] at h; exact h3.trans h
          | ok l' j' =>
            rw [hc] at h
            obtain ⟨g1, g2, g3, g4⟩ := h
            exact ⟨by omega, g2, h3.trans g3, g4⟩
theorem catW_says (h5 : kinds5 T) {rec : Nat → Nat → PRes} {d i : Nat} (hi : i ≤ T.length) (hrec : ∀ k, i ≤ k → k < T.length → SaysA T size (d + 1) (k + 1) (rec (d + 1) (k + 1))) : match catW T size rec d i with
      | .err p e => firstL size (T.drop i) d false = some (p, e)
      | .ok _ j => i ≤ j ∧ j ≤ T.length ∧ firstL size (T.drop i) d false = firstL size (T.drop j) d false ∧ catStop T j := by
  have h := cat_says h5 (T.length + 1 - i) [] i hi (by omega) hrec
  unfold catW
  cases hc : catLoop T size rec d (T.length + 1 - i) [] i with
  | err p e => rw [hc] at h; exact h
  | ok l j =>
    rw [hc] at h
    cases l with
    | nil => exact h
    | cons n l => exact h
theorem alt_says (h5 : kinds5 T) {rec : Nat → Nat → PRes} {d : Nat} : ∀ (f : Nat) (l : List Tree) (i : Nat), i ≤ T.length → T.length - i < f → catStop T i → (∀ k, i ≤ k → k < T.length → SaysA T size (d + 1) (k + 1) (rec (d + 1) (k + 1))) → SaysL T size d i (altLoop T size rec d f l i) (fun j => kindAt T j = none ∨ kindAt T j = some 3) := by
  intro f
  induction f with
  | zero => intro l i _ h; omega
  | succ f ih =>
    intro l i hi hf hst hrec
    unfold altLoop
    by_cases hb : kindAt T i = some 4
    · rw [if_pos hb]
      obtain ⟨x, hx, hx4⟩ : ∃ x, T[i]? = some x ∧ x.1.kind = 4 := by
        unfold kindAt at hb
        obtain ⟨x, hx, h⟩ := Option.map_eq_some_iff.1 hb
        exact ⟨x, hx, h⟩
      have hil := (List.getElem?_eq_some_iff.1 hx).1
      have hstep : firstL size (T.drop i) d false = firstL size (T.drop (i + 1)) d false := by
        rw [drop_some hx]
        conv => lhs; unfold firstL
        rw [if_neg (by omega), if_neg (by omega), if_neg (by omega), if_pos hx4]
      have h := catW_says h5 (i := i + 1) (rec := rec) (d := d) (size := size) hil (fun k hk hl => hrec k (by omega) hl)
      cases hc : catW T size rec d (i + 1) with
      | err p e => rw [hc] at h; exact hstep.trans h
      | ok n k =>
        rw [hc] at h
        obtain ⟨h1, h2, h3, h4⟩ := h
        simp only []
        have g := ih (l ++ [n]) k h2 (by omega) h4 (fun q hq hl => hrec q (by omega) hl)
        cases ha : altLoop T size rec d f (l ++ [n]) k with
        | err p e => rw [ha] at g; exact (hstep.trans h3).trans g
        | ok l' j =>
          rw [ha] at g
          obtain ⟨g1, g2, g3, g4⟩ := g
          exact ⟨by omega, g2, (hstep.trans h3).trans g3, g4⟩
    · rw [if_neg hb]
      refine ⟨Nat.le_refl _, hi, rfl, ?_⟩
      rcases hst with h | h | h
      · exact .inl h
      · exact .inr h
      · exact absurd h hb
theorem altF_says (h5 : kinds5 T) : ∀ (n d i : Nat), i ≤ T.length → T.length - i < n → SaysA T size d i (altF T size n d i) := by
  intro n
  induction n with
  | zero => intro d i _ h; omega
  | succ n ih =>
    intro d i hi hn
    have hrec : ∀ k, i ≤ k → k < T.length → SaysA T size (d + 1) (k + 1) (altF T size n (d + 1) (k + 1)) := fun k h1 h2 => ih (d + 1) (k + 1) h2 (by omega)
    show SaysA T size d i (altW T size (altF T size n) d i)
    unfold altW
    have h := catW_says (size := size) h5 hi hrec
    cases hc : catW T size (altF T size n) d i with
    | err p e => rw [hc] at h; exact h
    | ok m j =>
      rw [hc] at h
      obtain ⟨h1, h2, h3, h4⟩ := h
      simp only []
      have g := alt_says (size := size) h5 (T.length + 1 - j) [m] j h2 (by omega) h4 (fun k hk hl => hrec k (by omega) hl)
      cases ha : altLoop T size (altF T size n) d (T.length + 1 - j) [m] j with
      | err p e => rw [ha] at g; exact h3.trans g
      | ok l k =>
        rw [ha] at g
        obtain ⟨g1, g2, g3, g4⟩ := g
        exact ⟨by omega, g2, h3.trans g3, g4⟩
/-- A pattern can't go on just where its brackets and counts say so. -/
theorem tree_fault (h5 : kinds5 T) : match treeM T size with
    | .err p e => firstL size T 0 false = some (p, e)
    | .ok _ j => firstL size T 0 false = none ∧ j = T.length := by
  have h := altF_says (size := size) h5 (T.length + 1) 0 0 (Nat.zero_le _) (by omega)
  unfold treeM
  cases ha : altF T size (T.length + 1) 0 0 with
  | err p e => rw [ha] at h; exact h
  | ok n j =>
    rw [ha] at h
    obtain ⟨h1, h2, h3, h4⟩ := h
    rw [List.drop_zero] at h3
    simp only []
    cases hj : T[j]? with
    | none =>
      simp only []
      refine ⟨?_, ?_⟩
      · rw [h3, drop_none hj]
        rfl
      · have := List.getElem?_eq_none_iff.1 hj
        omega
    | some x =>
      simp only []
      have hk : x.1.kind = 3 := by
        rcases h4 with h4 | h4
        · unfold kindAt at h4; rw [hj] at h4; cases h4
        · unfold kindAt at h4; rw [hj] at h4; injection h4
      rw [h3, drop_some hj]
      unfold firstL
      rw [if_neg (by omega), if_neg (by omega), if_pos hk, if_pos rfl]
end
end Go.Proofs.YtpiimcbbgalhfaaGreatDoor
/- Patterns' trees: how deep one stands, bracket by bracket; what is read is even. No program in sight. -/
namespace Go.Proofs.YtpiimcbbgalhfaaGreatDoor
set_option maxRecDepth 100000
def wtK (k : Nat) : Int := if k = 1 ∨ k = 2 then 1 else if k = 3 then -1 else 0
/-- How many more groups are open at q than at i. -/
def depD (T : List Tk) (i : Nat) : Nat → Int
  | 0 => 0
  | q + 1 => if i ≤ q then depD T i q + (match kindAt T q with | some k => wtK k | none => 0) else 0
theorem dep_self (T : List Tk) (i : Nat) : depD T i i = 0 := by
  cases i with
  | zero => rfl
  | succ i => unfold depD; rw [if_neg (by omega)]
theorem dep_succ (T : List Tk) {i q : Nat} (h : i ≤ q) : depD T i (q + 1) = depD T i q + (match kindAt T q with | some k => wtK k | none => 0) := by
  conv => lhs; unfold depD
  rw [if_pos h]
theorem dep_add (T : List Tk) {i j : Nat} (hij : i ≤ j) : ∀ q, j ≤ q → depD T i q = depD T i j + depD T j q := by
  intro q
  induction q with
  | zero => intro h; obtain rfl : j = 0 := by omega
            rw [dep_self]; omega
  | succ q ih =>
    intro h
    rcases Nat.lt_or_ge q j with hl | hl
    · obtain rfl : j = q + 1 := by omega
      rw [dep_self]; omega
    · rw [dep_succ T (show i ≤ q by omega), dep_succ T hl, ih hl]
      omega
/-- A part that is even: it opens as many groups as it closes, and closes none that it doesn't open. -/
structure EvenP (T : List Tk) (i j : Nat) : Prop where
  le : i ≤ j
  dep : depD T i j = 0
  nn : ∀ q, i ≤ q → q ≤ j → 0 ≤ depD T i q
/-- No bar at its own height. -/
def NoBar (T : List Tk) (i j : Nat) : Prop := ∀ q, i ≤ q → q < j → kindAt T q = some 4 → 0 < depD T i q
theorem EvenP.refl (T : List Tk) (i : Nat) : EvenP T i i := by
  refine ⟨Nat.le_refl _, dep_self T i, fun q h1 h2 => ?_⟩
  obtain rfl : q = i := by omega
  rw [dep_self]
  exact Int.le_refl 0
theorem EvenP.trans {T : List Tk} {i j k : Nat} (h : EvenP T i j) (g : EvenP T j k) : EvenP T i k := by
  refine ⟨Nat.le_trans h.le g.le, by rw [dep_add T h.le k g.le, h.dep, g.dep]; rfl, fun q h1 h2 => ?_⟩
  rcases Nat.lt_or_ge q j with hl | hl
  · exact h.nn q h1 (by omega)
  · rw [dep_add T h.le q hl, h.dep]
    have := g.nn q hl h2
    omega
theorem EvenP.one {T : List Tk} {i : Nat} {k : Nat} (h : kindAt T i = some k) (hk : wtK k = 0) : EvenP T i (i + 1) := by
  have hd : depD T i (i + 1) = 0 := by rw [dep_succ T (Nat.le_refl i), dep_self, h]; simp only []; omega
  refine ⟨by omega, hd, fun q h1 h2 => ?_⟩
  rcases Nat.lt_or_ge i q with hl | hl
  · obtain rfl : q = i + 1 := by omega
    omega
  · obtain rfl : q = i := by omega
    rw [dep_self]; omega
theorem EvenP.group {T : List Tk} {i k a : Nat} (h : kindAt T i = some a) (ha : wtK a = 1) (g : EvenP T (i + 1) k) (hk : kindAt T k = some 3) : EvenP T i (k + 1) ∧ ∀ q, i < q → q ≤ k → 0 < depD T i q := by
  have h1 : depD T i (i + 1) = 1 := by rw [dep_succ T (Nat.le_refl i), dep_self, h]; simp only []; omega
  have hin : ∀ q, i + 1 ≤ q → depD T i q = 1 + depD T (i + 1) q := fun q hq => by rw [dep_add T (show i ≤ i + 1 by omega) q hq, h1]
  have hle := g.le
  have hpos : ∀ q, i < q → q ≤ k → 0 < depD T i q := fun q h2 h3 => by
    have := g.nn q h2 h3
    rw [hin q h2]
    omega
  have hend : depD T i (k + 1) = 0 := by
    rw [dep_succ T (show i ≤ k by omega), hin k (by omega), g.dep, hk]
    rfl
  refine ⟨⟨by omega, hend, fun q h2 h3 => ?_⟩, hpos⟩
  rcases Nat.lt_or_ge i q with hl | hl
  · rcases Nat.lt_or_ge k q with hm | hm
    · obtain rfl : q = k + 1 := by omega
      omega
    · have := hpos q hl hm
      omega
  · obtain rfl : q = i := by omega
    rw [dep_self]; omega
theorem NoBar.trans {T : List Tk} {i j k : Nat} (h : EvenP T i j) (hb : NoBar T i j) (gb : NoBar T j k) : NoBar T i k := by
  intro q h1 h2 h3
  rcases Nat.lt_or_ge q j with hl | hl
  · exact hb q h1 hl h3
  · rw [dep_add T h.le q hl, h.dep]
    have := gb q hl h2 h3
    omega
theorem NoBar.one {T : List Tk} {i k : Nat} (h : kindAt T i = some k) (hk : k ≠ 4) : NoBar T i (i + 1) := by
  intro q h1 h2 h3
  obtain rfl : q = i := by omega
  rw [h] at h3
  injection h3 with h3
  exact absurd h3 hk
theorem kind_some {T : List Tk} {i : Nat} {x : Tk} (h : T[i]? = some x) : kindAt T i = some x.1.kind := by unfold kindAt; rw [h]; rfl
theorem wt_none {k : Nat} (h1 : k ≠ 1) (h2 : k ≠ 2) (h3 : k ≠ 3) : wtK k = 0 := by
  unfold wtK
  rw [if_neg (by omega), if_neg h3]
section
variable {T : List Tk} {size : Nat}
def EvenA (T : List Tk) (i : Nat) (r : PRes) : Prop := match r with
  | .err _ _ => True
  | .ok _ j => EvenP T i j ∧ j ≤ T.length ∧ (kindAt T j = none ∨ kindAt T j = some 3)
theorem item_even {rec : Nat → Nat → PRes} {d i : Nat} {x : Tk} (hx : T[i]? = some x) (hk3 : x.1.kind ≠ 3) (hk4 : x.1.kind ≠ 4) (hrec : EvenA T (i + 1) (rec (d + 1) (i + 1))) :
    match itemW T size rec d i x with | .err _ _ => True | .ok _ j => i < j ∧ j ≤ T.length ∧ EvenP T i j ∧ NoBar T i j := by
  have hil := (List.getElem?_eq_some_iff.1 hx).1
  have hki := kind_some hx
  have hbase : match baseW T size rec d i x with | .err _ _ => True | .ok _ j => i < j ∧ j ≤ T.length ∧ EvenP T i j ∧ NoBar T i j := by
    unfold baseW
    by_cases h0 : x.1.kind = 0
    · rw [if_pos h0]
      exact ⟨by omega, hil, EvenP.one hki (wt_none (by omega) (by omega) (by omega)), NoBar.one hki hk4⟩
    · rw [if_neg h0]
      by_cases h12 : x.1.kind = 1 ∨ x.1.kind = 2
      · rw [if_pos h12]
        unfold groupW
        by_cases hd : 200 ≤ d
        · rw [if_pos hd]
          trivial
        · rw [if_neg hd]
          cases hr : rec (d + 1) (i + 1) with
          | err p e => trivial
          | ok n j =>
            rw [hr] at hrec
            obtain ⟨h1, h2, h3⟩ := hrec
            simp only []
            cases hj : T[j]? with
            | none => trivial
            | some y =>
              simp only []
              by_cases hy : y.1.kind = 3
              · rw [if_pos hy]
                have hkj := kind_some hj
                rw [hy] at hkj
                have hle := h1.le
                obtain ⟨g1, g2⟩ := EvenP.group hki (by unfold wtK; rw [if_pos h12]) h1 hkj
                refine ⟨by omega, (List.getElem?_eq_some_iff.1 hj).1, g1, fun q q1 q2 q3 => ?_⟩
                rcases Nat.lt_or_ge i q with hl | hl
                · exact g2 q hl (by omega)
                · obtain rfl : q = i := by omega
                  rw [hki] at q3
                  injection q3 with q3
                  omega
              · rw [if_neg hy]
                trivial
      · rw [if_neg h12]
        trivial
  unfold itemW
  cases hb : baseW T size rec d i x with
  | err p e => trivial
  | ok n j =>
    rw [hb] at hbase
    obtain ⟨h1, h2, h3, h4⟩ := hbase
    simp only []
    cases hj : T[j]? with
    | none => exact ⟨h1, h2, h3, h4⟩
    | some c =>
      simp only []
      by_cases hc : c.1.kind = 5
      · rw [if_pos hc]
        have hkj := kind_some hj
        rw [hc] at hkj
        exact ⟨by omega, (List.getElem?_eq_some_iff.1 hj).1, h3.trans (EvenP.one hkj (by decide)), NoBar.trans h3 h4 (NoBar.one hkj (by decide))⟩
      · rw [if_neg hc]
        exact ⟨h1, h2, h3, h4⟩
theorem cat_even {rec : Nat → Nat → PRes} {d : Nat} : ∀ (f : Nat) (l : List Tree) (i : Nat), i ≤ T.length → T.length - i < f → (∀ k, i ≤ k → k < T.length → EvenA T (k + 1) (rec (d + 1) (k + 1))) →
    match catLoop T size rec d f l i with | .err _ _ => True | .ok _ j => j ≤ T.length ∧ EvenP T i j ∧ NoBar T i j ∧ catStop T j := by
  intro f
  induction f with
  | zero => intro l i _ h; omega
  | succ f ih =>
    intro l i hi hf hrec
    unfold catLoop
    cases hx : T[i]? with
    | none => exact ⟨hi, EvenP.refl T i, fun q h1 h2 => by omega, .inl (by unfold kindAt; rw [hx]; rfl)⟩
    | some x =>
      simp only []
      by_cases h34 : x.1.kind = 4 ∨ x.1.kind = 3
      · rw [if_pos h34]
        refine ⟨hi, EvenP.refl T i, fun q h1 h2 => by omega, ?_⟩
        unfold catStop
        rw [kind_some hx]
        rcases h34 with h | h
        · exact .inr (.inr (by rw [h]))
        · exact .inr (.inl (by rw [h]))
      · rw [if_neg h34]
        have := item_even (size := size) hx (by omega) (by omega) (hrec i (Nat.le_refl _) (List.getElem?_eq_some_iff.1 hx).1)
        cases hit : itemW T size rec d i x with
        | err p e => trivial
        | ok n j =>
          rw [hit] at this
          obtain ⟨h1, h2, h3, h4⟩ := this
          simp only []
          have h := ih (l ++ [n]) j h2 (by omega) (fun k hk hl => hrec k (by omega) hl)
          cases hc : catLoop T size rec d f (l ++ [n]) j with
          | err p e => trivial
          | ok l' j' =>
            rw [hc] at h
            obtain ⟨g1, g2, g3, g4⟩ := h
            exact ⟨g1, h3.trans g2, NoBar.trans h3 h4 g3, g4⟩
theorem catW_even {rec : Nat → Nat → PRes} {d i : Nat} (hi : i ≤ T.length) (hrec : ∀ k, i ≤ k → k < T.length → EvenA T (k + 1) (rec (d + 1) (k + 1))) :
    match catW T size rec d i with | .err _ _ => True | .ok _ j => j ≤ T.length ∧ EvenP T i j ∧ NoBar T i j ∧ catStop T j := by
  have h := cat_even (size := size) (T.length + 1 - i) [] i hi (by omega) hrec
  unfold catW
  cases hc : catLoop T size rec d (T.length + 1 - i) [] i with
  | err p e => trivial
  | ok l j =>
    rw [hc] at h
    cases l with
    | nil => exact h
    | cons n l => exact h
theorem alt_even {rec : Nat → Nat → PRes} {d : Nat} : ∀ (f : Nat) (l : List Tree) (i : Nat), i ≤ T.length → T.length - i < f → catStop T i → (∀ k, i ≤ k → k < T.length → EvenA T (k + 1) (rec (d + 1) (k + 1))) →
    match altLoop T size rec d f l i with | .err _ _ => True | .ok _ j => j ≤ T.length ∧ EvenP T i j ∧ (kindAt T j = none ∨ kindAt T j = some 3) := by
  intro f
  induction f with
  | zero => intro l i _ h; omega
  | succ f ih =>
    intro l i hi hf hst hrec
    unfold altLoop
    by_cases hb : kindAt T i = some 4
    · rw [if_pos hb]
      have hil : i < T.length := by
        unfold kindAt at hb
        obtain ⟨x, hx, _⟩ := Option.map_eq_some_iff.1 hb
        exact (List.getElem?_eq_some_iff.1 hx).1
      have h := catW_even (i := i + 1) (rec := rec) (d := d) (size := size) hil (fun k hk hl => hrec k (by omega) hl)
      cases hc : catW T size rec d (i + 1) with
      | err p e => trivial
      | ok n k =>
        rw [hc] at h
        obtain ⟨h2, h3, _, h4⟩ := h
        have hle := h3.le
        simp only []
        have g := ih (l ++ [n]) k h2 (by omega) h4 (fun q hq hl => hrec q (by omega) hl)
        cases ha : altLoop T size rec d f (l ++ [n]) k with
        | err p e => trivial
        | ok l' j =>
          rw [ha] at g
          obtain ⟨g1, g2, g3⟩ := g
          exact ⟨g1, ((EvenP.one hb (by decide)).trans h3).trans g2, g3⟩
    · rw [if_neg hb]
      refine ⟨hi, EvenP.refl T i, ?_⟩
      rcases hst with h | h | h
      · exact .inl h
      · exact .inr h
      · exact absurd h hb
theorem altF_even : ∀ (n d i : Nat), i ≤ T.length → T.length - i < n → EvenA T i (altF T size n d i) := by
  intro n
  induction n with
  | zero => intro d i _ h; omega
  | succ n ih =>
    intro d i hi hn
    have hrec : ∀ k, i ≤ k → k < T.length → EvenA T (k + 1) (altF T size n (d + 1) (k + 1)) := fun k h1 h2 => ih (d + 1) (k + 1) h2 (by omega)
    show EvenA T i (altW T size (altF T size n) d i)
    unfold altW
    have h := catW_even (size := size) hi hrec
    cases hc : catW T size (altF T size n) d i with
    | err p e => trivial
    | ok m j =>
      rw [hc] at h
      obtain ⟨h2, h3, _, h4⟩ := h
      simp only []
      have hle := h3.le
      have g := alt_even (size := size) (T.length + 1 - j) [m] j h2 (by omega) h4 (fun k hk hl => hrec k (by omega) hl)
      cases ha : altLoop T size (altF T size n) d (T.length + 1 - j) [m] j with
      | err p e => trivial
      | ok l k =>
        rw [ha] at g
        obtain ⟨g1, g2, g3⟩ := g
        exact ⟨h3.trans g2, g1, g3⟩
end
end Go.Proofs.YtpiimcbbgalhfaaGreatDoor
/- Trees, as they lie in memory. -/
namespace Go.Proofs.YtpiimcbbgalhfaaGreatDoor
set_option maxRecDepth 100000
open Go.RowKit
abbrev nodeL (k : Int) (set : Nat → Bool) (lo hi : Int) (lazy : Bool) (L : Value) (f t : Nat) : List Value :=
  [.int .i64 k, .int .u64 (word set 0), .int .u64 (word set 1), .int .u64 (word set 2), .int .u64 (word set 3), .int .i64 lo, .int .i64 hi, .bool lazy, L, .int .i64 ((f : Nat) : Int), .int .i64 ((t : Nat) : Int)]
/-- At block b lies the tree; all its blocks are of S. -/
inductive TreeAt (w : World) (S : Nat → Prop) : Tree → Nat → Prop
  | mk {k : Int} {set : Nat → Bool} {lo hi : Int} {lazy : Bool} {kids : List Tree} {f t b ga c : Nat} {A : Option Addr} {bs : List Nat} (hS : S b) (hb : Blk w b 34 (nodeL k set lo hi lazy (.slice A kids.length c) f t))
      (hl : bs.length = kids.length) (hm : kids.length ≤ 1048577) (hA : kids ≠ [] → A = some ⟨ga, 0, none⟩ ∧ S ga) (hc : ∀ (i g : Nat), bs[i]? = some g → w.cell? ⟨ga, i, none⟩ = some (.pointer (some ⟨g, 0, none⟩)))
      (hk : ∀ (i : Nat) (n : Tree) (g : Nat), kids[i]? = some n → bs[i]? = some g → TreeAt w S n g) : TreeAt w S (.mk k set lo hi lazy kids f t) b
theorem cell_lt0 {w : World} {b o : Nat} {v : Value} (h : w.cell? ⟨b, o, none⟩ = some v) : b < w.heap.size := by
  unfold World.cell? at h
  rcases Nat.lt_or_ge b w.heap.size with hl | hl
  · exact hl
  · simp only [] at h
    rw [Array.getElem?_eq_none hl] at h
    cases h
theorem TreeAt.turn {w w' : World} {S S' : Nat → Prop} {n : Tree} {b : Nat} (h : TreeAt w S n b) (hw : ∀ k, S k → k < w.heap.size → w'.heap[k]? = w.heap[k]?) (hS : ∀ k, S k → k < w.heap.size → S' k) : TreeAt w' S' n b := by
  induction h with
  | @mk k set lo hi lazy kids f t b ga c A bs hSb hb hl hm hA hc hk ih =>
    refine .mk (ga := ga) (bs := bs) (hS b hSb hb.lt) ((hw b hSb hb.lt).trans hb) hl hm (fun h => ⟨(hA h).1, ?_⟩) (fun i g hg => ?_) (fun i n g hn hg => ih i n g hn hg)
    · cases bs with
      | nil => exact absurd (List.eq_nil_of_length_eq_zero (by rw [← hl]; rfl)) h
      | cons g0 _ => exact hS ga (hA h).2 (cell_lt0 (hc 0 g0 rfl))
    · have hne : kids ≠ [] := by
        intro e
        rw [e] at hl
        rw [List.eq_nil_of_length_eq_zero hl] at hg
        cases hg
      have hcell := hc i g hg
      rw [← hcell]
      exact World.cell?_of_block (hw ga (hA hne).2 (cell_lt0 hcell))
theorem TreeAt.lt {w : World} {S : Nat → Prop} {n : Tree} {b : Nat} (h : TreeAt w S n b) : b < w.heap.size := by
  cases h with
  | mk hS hb => exact hb.lt
theorem TreeAt.in {w : World} {S : Nat → Prop} {n : Tree} {b : Nat} (h : TreeAt w S n b) : S b := by
  cases h with
  | mk hS hb => exact hS
theorem TreeAt.under {w w' : World} {S : Nat → Prop} {n : Tree} {b : Nat} (h : TreeAt w S n b) (hb : Below w.heap.size w w') : TreeAt w' S n b := h.turn (fun k _ hk => hb.block k hk) (fun _ h _ => h)
theorem TreeAt.mono {w : World} {S S' : Nat → Prop} {n : Tree} {b : Nat} (h : TreeAt w S n b) (hS : ∀ k, S k → k < w.heap.size → S' k) : TreeAt w S' n b := h.turn (fun _ _ _ => rfl) hS
theorem TreeAt.only {w w' : World} {S : Nat → Prop} {n : Tree} {b p : Nat} (h : TreeAt w S n b) (hg : w.grownBy w' (some p)) (hp : ∀ k, S k → k ≠ p) : TreeAt w' S n b :=
  h.turn (fun k hS hk => hg.block k hk (fun e => hp k hS (by injection e))) (fun _ h _ => h)
/-- The node of a tree. -/
theorem TreeAt.node {w : World} {S : Nat → Prop} {n : Tree} {b : Nat} (h : TreeAt w S n b) : ∃ A c, Blk w b 34 (nodeL n.kind n.set n.lo n.hi n.lazy (.slice A n.kids.length c) n.f n.t) ∧ n.kids.length ≤ 1048577 ∧ (∀ i x, n.kids[i]? = some x → ∃ ga g, A = some ⟨ga, 0, none⟩ ∧ w.cell? ⟨ga, i, none⟩ = some (.pointer (some ⟨g, 0, none⟩)) ∧ TreeAt w S x g) := by
  cases h with
  | @mk k set lo hi lazy kids f t b ga c A bs hSb hb hl hm hA hc hk =>
    refine ⟨A, c, hb, hm, fun i x hx => ?_⟩
    have hi : i < bs.length := by rw [hl]; exact (List.getElem?_eq_some_iff.1 hx).1
    have hne : kids ≠ [] := by intro e; rw [e] at hl; rw [hl] at hi; exact absurd hi (Nat.not_lt_zero _)
    exact ⟨ga, bs[i], (hA hne).1, hc i _ (List.getElem?_eq_getElem hi), hk i x _ hx (List.getElem?_eq_getElem hi)⟩
end Go.Proofs.YtpiimcbbgalhfaaGreatDoor
/- A region that draws its order, whatever it holds: what each operation leaves is said once, in no order; whatever order is drawn, all of it holds behind the region. No program in sight. -/
namespace Go.Proofs.YtpiimcbbgalhfaaGreatDoor
set_option maxRecDepth 100000
open Go.RowKit

/-- What is said of a value in a world, blocks within N alone looked at: it stays so while those blocks stay. -/
structure RG where
  g : Value → World → (Nat → Prop) → Prop
  mono : ∀ v w w' (N N' : Nat → Prop), g v w N → w.heap.size ≤ w'.heap.size → (∀ k, k < w.heap.size → N k → N' k ∧ w'.heap[k]? = w.heap[k]?) → g v w' N'
/-- What an operation is: it yields a value of which g is said ('kind' 0), it makes a block of one's own ('kind' 1: of type ty, len cells), it stores cs into the block that operation 'at_' made ('kind' 2). -/
structure RK where
  kind : Nat
  rg : RG
  ty : TypeId
  len : Nat
  at_ : Nat
  cs : List Value
def RG.any : RG := ⟨fun _ _ _ => True, fun _ _ _ _ _ h _ _ => h⟩
def RG.eq (c : Value) : RG := ⟨fun v _ _ => v = c, fun _ _ _ _ _ h _ _ => h⟩
def RK.val (g : RG) : RK := ⟨0, g, 0, 0, 0, []⟩
def RK.eq (c : Value) : RK := RK.val (RG.eq c)
def RK.new (ty : TypeId) (len : Nat) : RK := ⟨1, RG.any, ty, len, 0, []⟩
def RK.put (p : Nat) (cs : List Value) : RK := ⟨2, RG.any, 0, 0, p, cs⟩
def dstOf (ops : Array Oper) (i : Nat) : Option Tmp := (ops[i]?).bind (·.dst)
def valOf (ops : Array Oper) (i : Nat) (a : Act) : Value := a.tmps.getD ((dstOf ops i).getD 0) undef
def specOf (S : List RK) (i : Nat) : RK := S.getD i (RK.val RG.any)
/-- What holds behind operation i. -/
def Fact (ops : Array Oper) (S : List RK) (i : Nat) (a : Act) (w : World) (N : Nat → Prop) : Prop :=
  match (specOf S i).kind with
  | 0 => (specOf S i).rg.g (valOf ops i a) w N
  | 1 => ∃ b cs, valOf ops i a = .pointer (some ⟨b, 0, none⟩) ∧ ¬N b ∧ Blk w b (specOf S i).ty cs ∧ cs.length = (specOf S i).len
  | _ => ∃ b, valOf ops (specOf S i).at_ a = .pointer (some ⟨b, 0, none⟩) ∧ ¬N b ∧ Blk w b (specOf S (specOf S i).at_).ty (specOf S i).cs
/-- What an operation does to the world. -/
def Does (ops : Array Oper) (S : List RK) (i : Nat) (a : Act) (w : World) (N : Nat → Prop) (v : Value) (w' : World) : Prop :=
  match (specOf S i).kind with
  | 0 => Below w.heap.size w w' ∧ ∀ N' : Nat → Prop, (∀ k, k < w.heap.size → N k → N' k) → (∀ k, w.heap.size ≤ k → N' k) → (specOf S i).rg.g v w' N'
  | 1 => ∃ cs : List Value, v = .pointer (some ⟨w.heap.size, 0, none⟩) ∧ w' = w.alloc (.cells cs.toArray (specOf S i).ty) ∧ cs.length = (specOf S i).len
  | _ => ∃ b, valOf ops (specOf S i).at_ a = .pointer (some ⟨b, 0, none⟩) ∧ w.grownBy w' (some b) ∧ w'.heap.size = w.heap.size ∧ Blk w' b (specOf S (specOf S i).at_).ty (specOf S i).cs
/-- The region's operations look back alone; no two write one temporary; 'new' and 'val' write one each, 'put' none, its block is made ahead of it. -/
def okRegion (n : Nat) (ops : Array Oper) (S : List RK) : Bool :=
  (List.range ops.size).all fun i =>
    ((ops[i]?).map fun o => o.after.all fun e => !Region.binds .any e || decide (e.on < i)).getD false &&
    (match dstOf ops i with
     | some d => decide (d < n) && ((specOf S i).kind == 0 || (specOf S i).kind == 1) && (List.range i).all fun j => dstOf ops j != some d
     | none => (specOf S i).kind == 2 && (specOf S (specOf S i).at_).kind == 1 && (specOf S i).cs.length == (specOf S (specOf S i).at_).len && ((ops[i]?).map fun o => o.after.any fun e => Region.binds .any e && e.on == (specOf S i).at_).getD false && (List.range i).all fun j => (specOf S j).kind != 2 || (specOf S j).at_ != (specOf S i).at_)
theorem wpAny_law {P : Program} {ops : Array Oper} {Q : Exit → Act → World → Prop} (J : Array Bool → Act → World → Prop)
    (hback : ∀ i o, ops[i]? = some o → ∀ e ∈ o.after, Region.binds .any e = true → e.on < i)
    (hstep : ∀ listed a w i, listed.size = ops.size → i ∈ Region.ready .any ops listed → J listed a w → wpOp P ops Q i (J (listed.setIfInBounds i true)) a w)
    (hend : ∀ listed a w, J listed a w → (∀ i, i < ops.size → listed.getD i false = true) → Q .normal a w) :
    ∀ (fuel : Nat) (listed : Array Bool) (a : Act) (w : World), listed.size = ops.size → ((List.range ops.size).filter fun i => !listed.getD i true).length = fuel → J listed a w → wpAny P .any ops Q fuel listed a w := by
  have hnil : ∀ listed : Array Bool, listed.size = ops.size → Region.ready .any ops listed = [] → ∀ i, i < ops.size → listed.getD i false = true := by
    intro listed hs hr i
    induction i using Nat.strongRecOn with
    | _ i ih =>
      intro hi
      by_cases h : listed.getD i false = true
      · exact h
      · exfalso
        have hmem : i ∈ Region.ready .any ops listed := by
          rw [mem_ready]
          refine ⟨?_, ops[i], Array.getElem?_eq_getElem hi, fun e he hb => ?_⟩
          · have hi' : i < listed.size := by omega
            simp only [Array.getD_eq_getD_getElem?, Array.getElem?_eq_getElem hi', Option.getD_some] at h ⊢
            simpa using h
          · have hlt := hback i _ (Array.getElem?_eq_getElem hi) e he hb
            exact ih e.on hlt (by omega)
        rw [hr] at hmem
        cases hmem
  intro fuel
  induction fuel with
  | zero =>
    intro listed a w hs hlen hJ
    have hr : Region.ready .any ops listed = [] := by
      have h0 := List.eq_nil_of_length_eq_zero hlen
      rw [List.eq_nil_iff_forall_not_mem]
      intro i hi
      have hi2 := mem_ready.1 hi
      obtain ⟨h1, o, ho, _⟩ := hi2
      have hlt : i < ops.size := (Array.getElem?_eq_some_iff.1 ho).1
      have : i ∈ (List.range ops.size).filter fun i => !listed.getD i true := by
        rw [List.mem_filter, List.mem_range]
        exact ⟨hlt, by rw [h1]; rfl⟩
      rw [h0] at this
      cases this
    exact ⟨hr, hend _ _ _ hJ (hnil _ hs hr)⟩
  | succ fuel ih =>
    intro listed a w hs hlen hJ
    refine ⟨fun hr => hend _ _ _ hJ (hnil _ hs hr), fun i hi => ?_⟩
    refine wpOp_mono (fun a' w' hJ' => ih _ a' w' (by simpa using hs) ?_ hJ') (hstep listed a w i hs hi hJ)
    obtain ⟨h1, o, ho, _⟩ := mem_ready.1 hi
    have hlt : i < ops.size := (Array.getElem?_eq_some_iff.1 ho).1
    have hcount : ∀ (l : List Nat), l.Nodup → i ∈ l → (l.filter fun j => !listed.getD j true).length = (l.filter fun j => !(listed.setIfInBounds i true).getD j true).length + 1 := by
      intro l
      induction l with
      | nil => intro _ h; cases h
      | cons x l ihl =>
        intro hnd hm
        rw [List.nodup_cons] at hnd
        by_cases hx : x = i
        · subst hx
          have he : (l.filter fun j => !listed.getD j true) = l.filter fun j => !(listed.setIfInBounds x true).getD j true := by
            apply List.filter_congr
            intro j hj
            have : x ≠ j := fun e => hnd.1 (e ▸ hj)
            rw [getD_set_ne true this]
          have hset : (listed.setIfInBounds x true).getD x true = true := by
            have hx' : x < listed.size := by omega
            simp [hx']
          rw [List.filter_cons_of_pos (by rw [h1]; rfl), List.filter_cons_of_neg (by rw [hset]; simp), he, List.length_cons]
        · have hm' : i ∈ l := by
            rcases List.mem_cons.1 hm with h | h
            · exact absurd h.symm hx
            · exact h
          have := ihl hnd.2 hm'
          rw [List.filter_cons, List.filter_cons, getD_set_ne true (Ne.symm hx)]
          split
          · simp only [List.length_cons]; omega
          · exact this
    have := hcount (List.range ops.size) List.nodup_range (List.mem_range.2 hlt)
    omega
/-- What stands at the head of each operation, and behind all. -/
structure Held (ops : Array Oper) (a0 : Act) (w0 : World) (a : Act) (w : World) (N : Nat → Prop) : Prop where
  defers : a.defers = a0.defers
  size : a.tmps.size = a0.tmps.size
  base : ∀ s, (∀ i, dstOf ops i ≠ some s) → a.tmps.getD s undef = a0.tmps.getD s undef
  below : Below w0.heap.size w0 w
  old : ∀ k, k < w0.heap.size → N k
  new : ∀ k, w.heap.size ≤ k → N k
def RJ (ops : Array Oper) (S : List RK) (a0 : Act) (w0 : World) (listed : Array Bool) (a : Act) (w : World) : Prop :=
  ∃ N, Held ops a0 w0 a w N ∧ (∀ i, listed.getD i false = true → Fact ops S i a w N) ∧
    (∀ i j, i ≠ j → listed.getD i false = true → listed.getD j false = true → (specOf S i).kind = 1 → (specOf S j).kind = 1 → valOf ops i a ≠ valOf ops j a) ∧
    (∀ i o, ops[i]? = some o → listed.getD i false = true → ∀ e ∈ o.after, Region.binds .any e = true → listed.getD e.on false = true)
/-- One operation's part. -/
def Obl (P : Program) (ops : Array Oper) (S : List RK) (Q : Exit → Act → World → Prop) (a0 : Act) (w0 : World) (i : Nat) : Prop :=
  ∀ a w N, Held ops a0 w0 a w N → (∀ o, ops[i]? = some o → ∀ e ∈ o.after, Region.binds .any e = true → Fact ops S e.on a w N) →
    wpOp P ops Q i (fun a' w' => ∃ v, a' = a.put (dstOf ops i) v ∧ Does ops S i a w N v w') a w
theorem val_put {ops : Array Oper} {a : Act} {i j : Nat} {v : Value} (hj : (dstOf ops j).isSome = true) (hne : dstOf ops j ≠ dstOf ops i) : valOf ops j (a.put (dstOf ops i) v) = valOf ops j a := by
  unfold valOf
  cases hi : dstOf ops i with
  | none => rfl
  | some d =>
    obtain ⟨c, hc⟩ := Option.isSome_iff_exists.1 hj
    have hcd : d ≠ c := fun e => hne (by rw [hc, hi, e])
    simp only [hc, Option.getD_some, Act.put]
    simp [hcd]
theorem val_put_self {ops : Array Oper} {a : Act} {i : Nat} {v : Value} {d : Tmp} (hi : dstOf ops i = some d) (hd : d < a.tmps.size) : valOf ops i (a.put (dstOf ops i) v) = v := by
  unfold valOf
  simp only [hi, Option.getD_some, Act.put]
  simp [hd]
theorem listed_set {listed : Array Bool} {i j : Nat} (h : (listed.setIfInBounds i true).getD j false = true) : j = i ∨ (j ≠ i ∧ listed.getD j false = true) := by
  by_cases e : j = i
  · exact .inl e
  · exact .inr ⟨e, by rwa [getD_set_ne false (Ne.symm e)] at h⟩
theorem region_law {P : Program} {ops : Array Oper} {id : Nat} {Q : Exit → Act → World → Prop} {a0 : Act} {w : World} (S : List RK) (n : Nat) (hn : a0.tmps.size = n) (hm : P.follows .mixedOrders = true)
    (hok : okRegion n ops S = true) (hop : ∀ i, i < ops.size → Obl P ops S Q a0 w.drew i)
    (hend : ∀ a w' N, Held ops a0 w.drew a w' N → (∀ i, i < ops.size → Fact ops S i a w' N) → Q .normal a w') : (Code.region id ops true).wp P Q a0 w := by
  have hk : ∀ i, i < ops.size → _ := fun i hi => List.all_eq_true.1 hok i (List.mem_range.2 hi)
  have hback : ∀ i o, ops[i]? = some o → ∀ e ∈ o.after, Region.binds .any e = true → e.on < i := by
    intro i o ho e he hb
    have h := hk i (Array.getElem?_eq_some_iff.1 ho).1
    rw [Bool.and_eq_true] at h
    have h1 := h.1
    rw [ho] at h1
    simp only [Option.map_some, Option.getD_some, Array.all_eq_true_iff_forall_mem, Bool.or_eq_true, decide_eq_true_eq] at h1
    rcases h1 e he with h2 | h2
    · rw [hb] at h2; cases h2
    · exact h2
  have hdst : ∀ i j, i < ops.size → j < ops.size → i ≠ j → (dstOf ops i).isSome = true → dstOf ops i ≠ dstOf ops j := by
    have key : ∀ i j, i < ops.size → j < i → (dstOf ops i).isSome = true → dstOf ops j ≠ dstOf ops i := by
      intro i j hi hj hs
      obtain ⟨d, hd⟩ := Option.isSome_iff_exists.1 hs
      have h := (Bool.and_eq_true _ _ ▸ hk i hi).2
      simp only [hd, Bool.and_eq_true] at h
      have h2 := List.all_eq_true.1 h.2 j (List.mem_range.2 hj)
      rw [hd]
      simpa using h2
    intro i j hi hj hne hs
    rcases Nat.lt_or_gt_of_ne hne with h | h
    · intro e
      have hs' : (dstOf ops j).isSome = true := by rw [← e]; exact hs
      exact key j i hj h hs' e
    · exact fun e => key i j hi h hs e.symm
  have hkind : ∀ i, i < ops.size → ((specOf S i).kind = 0 ∨ (specOf S i).kind = 1) → ∃ d, dstOf ops i = some d ∧ d < n := by
    intro i hi h01
    have h := (Bool.and_eq_true _ _ ▸ hk i hi).2
    cases hd : dstOf ops i with
    | none =>
      simp only [hd, Bool.and_eq_true, beq_iff_eq] at h
      have := h.1.1.1.1
      omega
    | some d =>
      simp only [hd, Bool.and_eq_true, decide_eq_true_eq] at h
      exact ⟨d, rfl, h.1.1⟩
  have hput : ∀ i, i < ops.size → (specOf S i).kind ≠ 0 → (specOf S i).kind ≠ 1 → dstOf ops i = none ∧ (specOf S i).kind = 2 ∧ (specOf S (specOf S i).at_).kind = 1 ∧ (specOf S i).cs.length = (specOf S (specOf S i).at_).len ∧
      (∃ o, ops[i]? = some o ∧ ∃ e ∈ o.after, Region.binds .any e = true ∧ e.on = (specOf S i).at_) ∧ ∀ j, j < i → (specOf S j).kind = 2 → (specOf S j).at_ ≠ (specOf S i).at_ := by
    intro i hi h0 h1
    have h := (Bool.and_eq_true _ _ ▸ hk i hi).2
    cases hd : dstOf ops i with
    | some d =>
      simp only [hd, Bool.and_eq_true, Bool.or_eq_true, beq_iff_eq] at h
      rcases h.1.2 with h | h <;> contradiction
    | none =>
      simp only [hd, Bool.and_eq_true, beq_iff_eq] at h
      obtain ⟨⟨⟨⟨k1, k2⟩, k3⟩, k4⟩, k5⟩ := h
      refine ⟨rfl, k1, k2, k3, ?_, fun j hj hj2 => ?_⟩
      · rw [Array.getElem?_eq_getElem hi] at k4 ⊢
        simp only [Option.map_some, Option.getD_some] at k4
        obtain ⟨e, he, hb⟩ := Array.any_eq_true'.1 k4
        simp only [Bool.and_eq_true, beq_iff_eq] at hb
        exact ⟨_, rfl, e, he, hb.1, hb.2⟩
      · have := List.all_eq_true.1 k5 j (List.mem_range.2 hj)
        simp only [Bool.or_eq_true, bne_iff_ne, ne_eq] at this
        rcases this with h | h
        · exact absurd hj2 h
        · exact h
  have hlt_of : ∀ (listed : Array Bool) i, listed.size = ops.size → listed.getD i false = true → i < ops.size := by
    intro listed i hs h
    rcases Nat.lt_or_ge i listed.size with h' | h'
    · omega
    · simp [Array.getElem?_eq_none h'] at h
  refine wp_region_any hm ?_
  change wpAny _ _ _ _ _ _ _ (World.drew w)
  refine wpAny_law (RJ ops S a0 w.drew) hback ?_ ?_ _ _ _ _ (by simp) ?_ ?_
  · intro listed a w1 i hsz hi hJ
    obtain ⟨N, H, hF, hD, hC⟩ := hJ
    obtain ⟨hun, o, ho, hall⟩ := mem_ready.1 hi
    have hilt : i < ops.size := (Array.getElem?_eq_some_iff.1 ho).1
    refine wpOp_mono ?_ (hop i hilt a w1 N H (fun o' ho' e he hb => by
      have : o' = o := Option.some.inj (ho'.symm.trans ho)
      subst this
      exact hF _ (hall e he hb)))
    rintro a' w2 ⟨v, rfl, hdo⟩
    have hclosed : ∀ j o', ops[j]? = some o' → (listed.setIfInBounds i true).getD j false = true → ∀ e ∈ o'.after, Region.binds .any e = true → (listed.setIfInBounds i true).getD e.on false = true := by
      intro j o' ho' hl e he hb
      rcases listed_set hl with rfl | ⟨_, hl⟩
      · have : o' = o := Option.some.inj (ho'.symm.trans ho)
        subst this
        exact getD_set_true (hall e he hb)
      · exact getD_set_true (hC j o' ho' hl e he hb)
    have hval : ∀ j, j ≠ i → listed.getD j false = true → ((specOf S j).kind = 0 ∨ (specOf S j).kind = 1) → valOf ops j (a.put (dstOf ops i) v) = valOf ops j a := by
      intro j hne hl h01
      have hjl := hlt_of listed j hsz hl
      obtain ⟨d, hd, _⟩ := hkind j hjl h01
      exact val_put (by rw [hd]; rfl) (hdst j i hjl hilt hne (by rw [hd]; rfl))
    have hframe : ∀ (N' : Nat → Prop), Below w.drew.heap.size w.drew w2 → (∀ k, k < w.drew.heap.size → N' k) → (∀ k, w2.heap.size ≤ k → N' k) → Held ops a0 w.drew (a.put (dstOf ops i) v) w2 N' := by
      intro N' hb ho hn'
      refine ⟨?_, ?_, fun s hs => ?_, hb, ho, hn'⟩
      · rw [← H.defers]; unfold Act.put; split <;> rfl
      · rw [← H.size]; unfold Act.put; split <;> simp
      · rw [← H.base s hs]
        unfold Act.put
        split
        · rename_i d hd
          have : d ≠ s := fun e => hs i (by rw [hd, e])
          simp [this]
        · rfl
    by_cases k0 : (specOf S i).kind = 0
    · obtain ⟨d, hd, hdn⟩ := hkind i hilt (.inl k0)
      simp only [Does, k0] at hdo
      obtain ⟨hb, hg⟩ := hdo
      have hb0 : Below w.drew.heap.size w.drew w2 := H.below.trans (hb.mono H.below.size)
      refine ⟨N, hframe N hb0 H.old (fun k hk' => H.new k (Nat.le_trans hb.size hk')), fun j hl => ?_, fun x y hxy hlx hly hx1 hy1 => ?_, hclosed⟩
      · rcases listed_set hl with rfl | ⟨hne, hl⟩
        · simp only [Fact, k0]
          rw [val_put_self hd (by rw [H.size, hn]; exact hdn)]
          exact hg N (fun _ _ h => h) H.new
        · have hf := hF j hl
          by_cases j0 : (specOf S j).kind = 0
          · simp only [Fact, j0] at hf ⊢
            rw [hval j hne hl (.inl j0)]
            exact (specOf S j).rg.mono _ _ _ _ _ hf hb.size (fun k hk' hN => ⟨hN, hb.block k hk'⟩)
          by_cases j1 : (specOf S j).kind = 1
          · simp only [Fact, j1] at hf ⊢
            obtain ⟨b, cs, h1, h2, h3, h4⟩ := hf
            exact ⟨b, cs, by rw [hval j hne hl (.inr j1)]; exact h1, h2, h3.below hb h3.lt, h4⟩
          · obtain ⟨_, j2, p1, _, ⟨oj, hoj, e, he, hbd, hon⟩, _⟩ := hput j (hlt_of listed j hsz hl) j0 j1
            simp only [Fact, j2] at hf ⊢
            obtain ⟨b, h1, h2, h3⟩ := hf
            have hlp : listed.getD (specOf S j).at_ false = true := hon ▸ hC j oj hoj hl e he hbd
            have hne' : (specOf S j).at_ ≠ i := fun e => by rw [e] at p1; omega
            exact ⟨b, by rw [hval _ hne' hlp (.inr p1)]; exact h1, h2, h3.below hb h3.lt⟩
      · rcases listed_set hlx with rfl | ⟨hnx, hlx⟩
        · omega
        rcases listed_set hly with rfl | ⟨hny, hly⟩
        · omega
        rw [hval x hnx hlx (.inr hx1), hval y hny hly (.inr hy1)]
        exact hD x y hxy hlx hly hx1 hy1
    by_cases k1 : (specOf S i).kind = 1
    · obtain ⟨d, hd, hdn⟩ := hkind i hilt (.inr k1)
      simp only [Does, k1] at hdo
      obtain ⟨cs, rfl, rfl, hcs⟩ := hdo
      have hb : Below w1.heap.size w1 (w1.alloc (.cells cs.toArray (specOf S i).ty)) := (Below.refl _ _).alloc (Nat.le_refl _) _
      have hb0 : Below w.drew.heap.size w.drew (w1.alloc (.cells cs.toArray (specOf S i).ty)) := H.below.trans (hb.mono H.below.size)
      have hsz2 : (w1.alloc (.cells cs.toArray (specOf S i).ty)).heap.size = w1.heap.size + 1 := by simp
      have hself := val_put_self (ops := ops) (a := a) (v := .pointer (some ⟨w1.heap.size, 0, none⟩)) hd (by rw [H.size, hn]; exact hdn)
      refine ⟨fun k => N k ∧ k ≠ w1.heap.size, hframe _ hb0 (fun k hk' => ⟨H.old k hk', by have := H.below.size; omega⟩) (fun k hk' => ⟨H.new k (by omega), by omega⟩), fun j hl => ?_, fun x y hxy hlx hly hx1 hy1 => ?_, hclosed⟩
      · rcases listed_set hl with rfl | ⟨hne, hl⟩
        · simp only [Fact, k1]
          exact ⟨w1.heap.size, cs, hself, by simp, Blk.new _ _ _, hcs⟩
        · have hf := hF j hl
          by_cases j0 : (specOf S j).kind = 0
          · simp only [Fact, j0] at hf ⊢
            rw [hval j hne hl (.inl j0)]
            exact (specOf S j).rg.mono _ _ _ _ _ hf hb.size (fun k hk' hN => ⟨⟨hN, by omega⟩, hb.block k hk'⟩)
          by_cases j1 : (specOf S j).kind = 1
          · simp only [Fact, j1] at hf ⊢
            obtain ⟨b, cs', h1, h2, h3, h4⟩ := hf
            exact ⟨b, cs', by rw [hval j hne hl (.inr j1)]; exact h1, fun h => h2 h.1, h3.below hb h3.lt, h4⟩
          · obtain ⟨_, j2, p1, _, ⟨oj, hoj, e, he, hbd, hon⟩, _⟩ := hput j (hlt_of listed j hsz hl) j0 j1
            simp only [Fact, j2] at hf ⊢
            obtain ⟨b, h1, h2, h3⟩ := hf
            have hlp : listed.getD (specOf S j).at_ false = true := hon ▸ hC j oj hoj hl e he hbd
            have hne' : (specOf S j).at_ ≠ i := fun e => by
              rw [e] at hlp
              have : listed.getD i true = true := by
                have hi' : i < listed.size := by omega
                simp only [Array.getD_eq_getD_getElem?, Array.getElem?_eq_getElem hi', Option.getD_some] at hlp ⊢
                exact hlp
              rw [hun] at this
              cases this
            exact ⟨b, by rw [hval _ hne' hlp (.inr p1)]; exact h1, fun h => h2 h.1, h3.below hb h3.lt⟩
      · have hptr : ∀ z, z ≠ i → listed.getD z false = true → (specOf S z).kind = 1 → valOf ops z a ≠ .pointer (some ⟨w1.heap.size, 0, none⟩) := by
          intro z _ hlz hz1 he
          have hf := hF z hlz
          simp only [Fact, hz1] at hf
          obtain ⟨b, cs', h1, _, h3, _⟩ := hf
          rw [he] at h1
          have hbz := h3.lt
          simp only [Value.pointer.injEq, Option.some.injEq, Addr.mk.injEq] at h1
          omega
        rcases listed_set hlx with rfl | ⟨hnx, hlx'⟩
        · rcases listed_set hly with rfl | ⟨hny, hly'⟩
          · exact absurd rfl hxy
          · rw [hself, hval y hny hly' (.inr hy1)]
            exact (hptr y hny hly' hy1).symm
        rcases listed_set hly with rfl | ⟨hny, hly'⟩
        · rw [hself, hval x hnx hlx' (.inr hx1)]
          exact hptr x hnx hlx' hx1
        rw [hval x hnx hlx' (.inr hx1), hval y hny hly' (.inr hy1)]
        exact hD x y hxy hlx' hly' hx1 hy1
    · obtain ⟨hd, k2, p1, hlen, ⟨oi, hoi, ei, hei, hbi, honi⟩, hat⟩ := hput i hilt k0 k1
      have hoi' : oi = o := Option.some.inj (hoi.symm.trans ho)
      subst hoi'
      have hlp : listed.getD (specOf S i).at_ false = true := honi ▸ hall ei hei hbi
      simp only [Does, k2] at hdo
      obtain ⟨b, hvb, hg, hsize, hblk⟩ := hdo
      have hfp := hF _ hlp
      simp only [Fact, p1] at hfp
      obtain ⟨b', csp, hvb', hNb, hblkp, _⟩ := hfp
      have hbb : b' = b := by
        rw [hvb] at hvb'
        simp only [Value.pointer.injEq, Option.some.injEq, Addr.mk.injEq] at hvb'
        exact hvb'.1.symm
      subst hbb
      have hput0 : a.put (dstOf ops i) v = a := by rw [hd]; rfl
      rw [hput0] at hframe hval ⊢
      have hb0 : Below w.drew.heap.size w.drew w2 := by
        refine H.below.trans ⟨hg.os, hg.tape, hg.output, hg.size, fun k hk' => hg.block k (Nat.lt_of_lt_of_le hk' H.below.size) (fun e => hNb ?_)⟩
        have : k = b' := by injection e
        exact this ▸ H.old k hk'
      have hdiff : ∀ z, z ≠ (specOf S i).at_ → listed.getD z false = true → (specOf S z).kind = 1 → ∀ bz, valOf ops z a = .pointer (some ⟨bz, 0, none⟩) → bz ≠ b' := by
        intro z hz hlz hz1 bz hbz e
        subst e
        exact hD z _ hz hlz hlp hz1 p1 (hbz.trans hvb.symm)
      have hkeep : ∀ bz, bz < w1.heap.size → bz ≠ b' → w2.heap[bz]? = w1.heap[bz]? := fun bz h1 h2 => hg.block bz h1 (fun e => h2 (by injection e))
      refine ⟨N, hframe N hb0 H.old (fun k hk' => H.new k (by omega)), fun j hl => ?_, fun x y hxy hlx hly hx1 hy1 => ?_, hclosed⟩
      · rcases listed_set hl with rfl | ⟨hne, hl⟩
        · simp only [Fact, k2]
          exact ⟨b', hvb, hNb, hblk⟩
        · have hf := hF j hl
          by_cases j0 : (specOf S j).kind = 0
          · simp only [Fact, j0] at hf ⊢
            exact (specOf S j).rg.mono _ _ _ _ _ hf hg.size (fun k hk' hN => ⟨hN, hkeep k hk' (fun e => hNb (e ▸ hN))⟩)
          by_cases j1 : (specOf S j).kind = 1
          · simp only [Fact, j1] at hf ⊢
            obtain ⟨bj, cs', h1, h2, h3, h4⟩ := hf
            by_cases hjp : j = (specOf S i).at_
            · subst hjp
              rw [hvb] at h1
              simp only [Value.pointer.injEq, Option.some.injEq, Addr.mk.injEq] at h1
              exact ⟨b', _, hvb, hNb, hblk, hlen⟩
            · exact ⟨bj, cs', h1, h2, (hkeep bj h3.lt (hdiff j hjp hl j1 bj h1)).trans h3, h4⟩
          · obtain ⟨_, j2, pj1, _, ⟨oj, hoj, e, he, hbd, hon⟩, hatj⟩ := hput j (hlt_of listed j hsz hl) j0 j1
            simp only [Fact, j2] at hf ⊢
            obtain ⟨bj, h1, h2, h3⟩ := hf
            have hlpj : listed.getD (specOf S j).at_ false = true := hon ▸ hC j oj hoj hl e he hbd
            have hnp : (specOf S j).at_ ≠ (specOf S i).at_ := by
              rcases Nat.lt_or_gt_of_ne hne with h | h
              · exact hat j h j2
              · exact fun e => hatj i h k2 e.symm
            exact ⟨bj, h1, h2, (hkeep bj h3.lt (hdiff _ hnp hlpj pj1 bj h1)).trans h3⟩
      · rcases listed_set hlx with rfl | ⟨hnx, hlx⟩
        · omega
        rcases listed_set hly with rfl | ⟨hny, hly⟩
        · omega
        exact hD x y hxy hlx hly hx1 hy1
  · intro listed a w1 hJ hall
    obtain ⟨N, H, hF, _, _⟩ := hJ
    exact hend a w1 N H (fun i hi => hF i (hall i hi))
  · have h : ∀ i, i < ops.size → (Array.replicate ops.size false).getD i true = false := by
      intro i hi
      simp [hi]
    rw [List.filter_eq_self.2 (fun i hi => by rw [h i (List.mem_range.1 hi)]; rfl), List.length_range]
  · refine ⟨fun _ => True, ⟨rfl, rfl, fun _ _ => rfl, Below.refl _ _, fun _ _ => trivial, fun _ _ => trivial⟩, ?_, ?_, ?_⟩
    · intro i hi
      rw [getD_replicate_false] at hi
      cases hi
    · intro i j _ hi
      rw [getD_replicate_false] at hi
      cases hi
    · intro i o _ hi
      rw [getD_replicate_false] at hi
      cases hi
/-- The same, of operations that go by a name. -/
theorem region_named {P : Program} {ops ops' : Array Oper} {id : Nat} {Q : Exit → Act → World → Prop} {a0 : Act} {w : World} (he : ops = ops') (S : List RK) (n : Nat) (hn : a0.tmps.size = n) (hm : P.follows .mixedOrders = true)
    (hok : okRegion n ops' S = true) (hop : ∀ i, i < ops'.size → Obl P ops' S Q a0 w.drew i)
    (hend : ∀ a w' N, Held ops' a0 w.drew a w' N → (∀ i, decide (i < ops'.size) = true → Fact ops' S i a w' N) → Q .normal a w') : (Code.region id ops true).wp P Q a0 w := by
  subst he
  exact region_law S n hn hm hok hop (fun a w' N H hF => hend a w' N H (fun i hi => hF i (of_decide_eq_true hi)))
theorem fact_put {ops : Array Oper} {S : List RK} {a : Act} {w : World} {N : Nat → Prop} {i p s : Nat} {cs : List Value} {t : TypeId} {n : Nat} (h : Fact ops S i a w N) (hs : specOf S i = RK.put p cs) (hp : specOf S p = RK.new t n) (hd : dstOf ops p = some s) :
    ∃ b, a.tmps.getD s undef = .pointer (some ⟨b, 0, none⟩) ∧ Blk w b t cs := by
  unfold Fact at h
  rw [hs] at h
  simp only [RK.put] at h
  obtain ⟨b, hb, _, hblk⟩ := h
  rw [hp] at hblk
  unfold valOf at hb
  rw [hd] at hb
  exact ⟨b, hb, hblk⟩
end Go.Proofs.YtpiimcbbgalhfaaGreatDoor
/- What the walks of layer 6 import. -/
namespace Go.Proofs.YtpiimcbbgalhfaaGreatDoor
set_option maxRecDepth 100000
end Go.Proofs.YtpiimcbbgalhfaaGreatDoor
/- Single operations, for regions that draw their order: what each leaves, out of what its operands hold. -/
namespace Go.Proofs.YtpiimcbbgalhfaaGreatDoor
set_option maxRecDepth 100000
open Go.RowKit

/-- What an operation hangs on. -/
def depsOf (ops : Array Oper) (i : Nat) : List Nat := ((ops[i]?).map fun o => (o.after.toList.filter fun e => Region.binds .any e).map (·.on)).getD []
def regionsOf : Code → List (Array Oper)
  | .region _ ops _ => [ops]
  | .seq a b => regionsOf a ++ regionsOf b
  | .cond _ a b => regionsOf a ++ regionsOf b
  | .block _ b => regionsOf b
  | .loop b => regionsOf b
  | .scope b => regionsOf b
  | .rangeFunc _ _ x b => regionsOf x ++ regionsOf b
  | _ => []
/-- Region k of a function, in the text's order. -/
def regOf (f : Func) (k : Nat) : Array Oper := ((f.body.map regionsOf).getD []).getD k #[]
def notDst (ops : Array Oper) (s : Nat) : Bool := (List.range ops.size).all fun i => dstOf ops i != some s
section
variable {P : Program} {ops : Array Oper} {S : List RK} {Q : Exit → Act → World → Prop} {a0 : Act} {w0 : World} {a : Act} {w : World} {N : Nat → Prop}
theorem held_base (H : Held ops a0 w0 a w N) (s : Nat) (hs : notDst ops s = true) {v : Value} (hv : a0.tmps.getD s undef = v) : a.eval (.tmp s) = v := by
  subst hv
  refine H.base s fun i hi => ?_
  have hlt : i < ops.size := by
    unfold dstOf at hi
    cases h : ops[i]? with
    | none => rw [h] at hi; cases hi
    | some o => exact (Array.getElem?_eq_some_iff.1 h).1
  have := List.all_eq_true.1 hs i (List.mem_range.2 hlt)
  rw [hi] at this
  simp at this
theorem fact_val {j s : Nat} {G : RG} (h : Fact ops S j a w N) (hs : specOf S j = RK.val G) (hd : dstOf ops j = some s) : G.g (a.eval (.tmp s)) w N := by
  unfold Fact at h
  rw [hs] at h
  unfold valOf at h
  rw [hd] at h
  exact h
theorem fact_eq {j s : Nat} {c : Value} (h : Fact ops S j a w N) (hs : specOf S j = RK.eq c) (hd : dstOf ops j = some s) : a.eval (.tmp s) = c := fact_val (G := RG.eq c) h hs hd
theorem obl_val {i : Nat} {G : RG} (op : Op) (g : Option (Nat × Bool)) (hs : specOf S i = RK.val G) (hop : (ops[i]?).map (fun o => (o.op, o.guard)) = some (op, g))
    (h : ∀ a w N, Held ops a0 w0 a w N → (∀ j, (depsOf ops i).contains j = true → Fact ops S j a w N) → (∀ j b, g = some (j, b) → ∃ d, dstOf ops j = some d ∧ a.eval (.tmp d) = .bool b) ∧
      ∀ o : Oper, o.op = op → o.wp P a w (fun a' w' => ∃ v, a' = a.put o.dst v ∧ Below w.heap.size w w' ∧ ∀ N' : Nat → Prop, (∀ k, k < w.heap.size → N k → N' k) → (∀ k, w.heap.size ≤ k → N' k) → G.g v w' N') Q) : Obl P ops S Q a0 w0 i := by
  intro a w N H D
  cases ho : ops[i]? with
  | none => rw [ho] at hop; cases hop
  | some o =>
    rw [ho] at hop
    simp only [Option.map_some, Option.some.injEq, Prod.mk.injEq] at hop
    obtain ⟨hg, hwp⟩ := h a w N H (fun j hj => by
      replace hj : j ∈ depsOf ops i := by simpa using hj
      unfold depsOf at hj
      rw [ho] at hj
      simp only [Option.map_some, Option.getD_some, List.mem_map, List.mem_filter] at hj
      obtain ⟨e, ⟨he, hb⟩, rfl⟩ := hj
      exact D o ho e (by simpa using he) hb)
    have hdst : dstOf ops i = o.dst := by unfold dstOf; rw [ho]; rfl
    unfold wpOp
    simp only [ho]
    have hw : Region.wanted o (yielded ops a.tmps) = true := by
      unfold Region.wanted
      rw [hop.2]
      cases g with
      | none => rfl
      | some jb =>
        obtain ⟨j, b⟩ := jb
        obtain ⟨d, hd, hv⟩ := hg j b rfl
        unfold dstOf at hd
        simp only [yielded, hd, Option.bind_some]
        change a.tmps.getD d undef = .bool b at hv
        have : a.tmps[d]? = some (.bool b) := by
          rcases Nat.lt_or_ge d a.tmps.size with hl | hl
          · simp only [Array.getD_eq_getD_getElem?, Array.getElem?_eq_getElem hl, Option.getD_some] at hv ⊢
            rw [hv]
          · simp only [Array.getD_eq_getD_getElem?, Array.getElem?_eq_none hl, Option.getD_none] at hv
            cases hv
        rw [this]
        simp
    rw [if_pos hw]
    refine .inl (Oper.wp_mono ?_ (hwp o hop.1))
    rintro a' w' ⟨v, rfl, hb, hg'⟩
    refine ⟨v, by rw [hdst], ?_⟩
    unfold Does
    rw [hs]
    exact ⟨hb, hg'⟩
/-- An operation whose guard says no. -/
theorem obl_skip {i : Nat} (op : Op) (j : Nat) (b : Bool) (hs : specOf S i = RK.eq undef) (hop : (ops[i]?).map (fun o => (o.op, o.guard)) = some (op, some (j, b)))
    (h : ∀ a w N, Held ops a0 w0 a w N → (∀ j, (depsOf ops i).contains j = true → Fact ops S j a w N) → ∃ d v, dstOf ops j = some d ∧ a.eval (.tmp d) = v ∧ v ≠ .bool b) : Obl P ops S Q a0 w0 i := by
  intro a w N H D
  cases ho : ops[i]? with
  | none => rw [ho] at hop; cases hop
  | some o =>
    rw [ho] at hop
    simp only [Option.map_some, Option.some.injEq, Prod.mk.injEq] at hop
    obtain ⟨d, v, hd, hv, hne⟩ := h a w N H (fun j hj => by
      replace hj : j ∈ depsOf ops i := by simpa using hj
      unfold depsOf at hj
      rw [ho] at hj
      simp only [Option.map_some, Option.getD_some, List.mem_map, List.mem_filter] at hj
      obtain ⟨e, ⟨he, hb⟩, rfl⟩ := hj
      exact D o ho e (by simpa using he) hb)
    have hdst : dstOf ops i = o.dst := by unfold dstOf; rw [ho]; rfl
    unfold wpOp
    simp only [ho]
    have hw : ¬Region.wanted o (yielded ops a.tmps) = true := by
      unfold Region.wanted
      rw [hop.2]
      unfold dstOf at hd
      simp only [yielded, hd, Option.bind_some]
      change a.tmps.getD d undef = v at hv
      rcases Nat.lt_or_ge d a.tmps.size with hl | hl
      · simp only [Array.getD_eq_getD_getElem?, Array.getElem?_eq_getElem hl, Option.getD_some] at hv ⊢
        rw [hv]
        cases v <;> simp_all
      · simp [Array.getElem?_eq_none hl]
    rw [if_neg hw]
    refine ⟨undef, by rw [hdst], ?_⟩
    unfold Does
    rw [hs]
    exact ⟨Below.refl _ _, fun _ _ _ => rfl⟩
theorem wp_of_run {o : Oper} {K : Act → World → Prop} {v : Value} {w' : World} (h : (execOp a.eval o).run P w = .ok (.value v) w') (hK : K (a.put o.dst v) w') : o.wp P a w K Q := by
  unfold Oper.wp
  rw [h]
  exact hK
/-- A value that needs no memory, and makes none. -/
theorem wp_quiet {o : Oper} {v : Value} (h : (execOp a.eval o).run P w = .ok (.value v) w) :
    o.wp P a w (fun a' w' => ∃ u, a' = a.put o.dst u ∧ Below w.heap.size w w' ∧ ∀ N' : Nat → Prop, (∀ k, k < w.heap.size → N k → N' k) → (∀ k, w.heap.size ≤ k → N' k) → (RG.eq v).g u w' N') Q :=
  wp_of_run h ⟨v, rfl, Below.refl _ _, fun _ _ _ => rfl⟩
theorem wp_move {o : Oper} {x : Operand} {v : Value} (ho : o.op = .move x ∨ o.op = .assign x) (hx : a.eval x = v) :
    o.wp P a w (fun a' w' => ∃ u, a' = a.put o.dst u ∧ Below w.heap.size w w' ∧ ∀ N' : Nat → Prop, (∀ k, k < w.heap.size → N k → N' k) → (∀ k, w.heap.size ≤ k → N' k) → (RG.eq v).g u w' N') Q := by
  subst hx
  rcases ho with ho | ho <;> exact wp_quiet (by simp [execOp, ho])
theorem wp_pick {o : Oper} {c x y : Operand} {b : Bool} {v : Value} (ho : o.op = .pick c x y) (hc : a.eval c = .bool b) (hx : (if b then a.eval x else a.eval y) = v) :
    o.wp P a w (fun a' w' => ∃ u, a' = a.put o.dst u ∧ Below w.heap.size w w' ∧ ∀ N' : Nat → Prop, (∀ k, k < w.heap.size → N k → N' k) → (∀ k, w.heap.size ≤ k → N' k) → (RG.eq v).g u w' N') Q := by
  subst hx
  refine wp_quiet ?_
  cases b <;> simp [execOp, ho, hc, asBool]
/-- A call of a function that is met by its contract. -/
theorem wp_callee {o : Oper} {f : FuncId} {args : Array Operand} {ts : Array TypeId} {K : Act → World → Prop} (ho : o.op = .call { callee := .value (.func f), args := args, argTypes := ts })
    (hf : ∀ (xs : Array Value) (w : World), (callFunc f xs).run P w = .ok (.enter f xs) w) (hc : Calls P f (args.map a.eval) w fun e w' => ∃ v, e = .returned v ∧ K (a.put o.dst v) w') : o.wp P a w K Q := by
  unfold Oper.wp
  have hr : (execOp a.eval o).run P w = .ok (.enter f (args.map a.eval)) w := by
    simp [execOp, ho, resolve, Act.eval, Deferred.ofValue, invoke, hf]
  rw [hr]
  refine hc.mono ?_
  rintro e w' ⟨v, rfl, hK⟩
  exact hK
end
/-! sets -/
section
variable {ops : Array Oper} {S : List RK} {Q : Exit → Act → World → Prop} {a0 : Act} {w0 : World} {a : Act} {w : World} {N : Nat → Prop}
/-- It reads as the sets l, in blocks within N. -/
def RG.sets (l : List (Nat → Bool)) : RG where
  g v w N := ∃ A c, v = .slice A l.length c ∧ l.length ≤ c ∧ l.length ≤ 140737488355328 ∧ ∀ i m, l[i]? = some m → ∃ ad, A = some ad ∧ N ad.block ∧ ad.block < w.heap.size ∧
    w.cell? (ad.add (i * 4)) = some (.int .u64 (word m 0)) ∧ w.cell? ⟨(ad.add (i * 4)).block, (ad.add (i * 4)).off + 1, none⟩ = some (.int .u64 (word m 1)) ∧
    w.cell? ⟨(ad.add (i * 4)).block, (ad.add (i * 4)).off + 2, none⟩ = some (.int .u64 (word m 2)) ∧ w.cell? ⟨(ad.add (i * 4)).block, (ad.add (i * 4)).off + 3, none⟩ = some (.int .u64 (word m 3))
  mono := by
    rintro v w w' N N' ⟨A, c, rfl, h1, h2, h3⟩ hs hk
    refine ⟨A, c, rfl, h1, h2, fun i x hi => ?_⟩
    obtain ⟨ad, rfl, hN, hlt, c0, c1, c2, c3⟩ := h3 i x hi
    have hb : w'.heap[ad.block]? = w.heap[ad.block]? := (hk _ hlt hN).2
    have hl : ∀ p : Addr, p.block = ad.block → w'.cell? p = w.cell? p := fun p hp => World.cell?_of_block (by rw [hp]; exact hb)
    have hl2 : ∀ o, w'.cell? ⟨(ad.add (i * 4)).block, o, none⟩ = w.cell? ⟨(ad.add (i * 4)).block, o, none⟩ := fun o => hl ⟨(ad.add (i * 4)).block, o, none⟩ (add_block _ _)
    exact ⟨ad, rfl, (hk _ hlt hN).1, Nat.lt_of_lt_of_le hlt hs, (hl _ (add_block _ _)).trans c0, (hl2 _).trans c1, (hl2 _).trans c2, (hl2 _).trans c3⟩
theorem RG.sets_rd {v : Value} {l : List (Nat → Bool)} (h : (RG.sets l).g v w N) : RdS w v l := by
  obtain ⟨A, c, rfl, h1, h2, h3⟩ := h
  refine ⟨A, c, rfl, h1, h2, fun i x hi => ?_⟩
  obtain ⟨ad, rfl, _, hlt, hc⟩ := h3 i x hi
  exact ⟨ad, rfl, hlt, hc⟩
theorem RG.sets_own {v : Value} {l : List (Nat → Bool)} {w' : World} {base : Nat} {e : TypeId} {n : Nat} (h : w'.ownsRow base e 4 v n (setsC l)) (hn : n ≤ 140737488355328) {N' : Nat → Prop} (hN : ∀ k, base ≤ k → N' k) : (RG.sets l).g v w' N' := by
  obtain ⟨A, c, rfl, h1, h2, h3⟩ := own_rdS h hn
  refine ⟨A, c, rfl, h1, h2, fun i x hi => ?_⟩
  obtain ⟨ad, rfl, hlt, hc⟩ := h3 i x hi
  refine ⟨ad, rfl, hN _ ?_, hlt, hc⟩
  have := h.lt ad.block rfl
  exact this.1
theorem wp_load_set {o : Oper} {x : Operand} {b : Nat} {u0 u1 u2 u3 : Value} (ho : o.op = .load 24 x) (hx : a.eval x = .pointer (some ⟨b, 0, none⟩)) (hb : Blk w b 24 [u0, u1, u2, u3]) :
    o.wp Tryz.prog a w (fun a' w' => ∃ u, a' = a.put o.dst u ∧ Below w.heap.size w w' ∧ ∀ N' : Nat → Prop, (∀ k, k < w.heap.size → N k → N' k) → (∀ k, w.heap.size ≤ k → N' k) → (RG.eq (.agg #[u0, u1, u2, u3])).g u w' N') Q := by
  obtain ⟨c0, c1, c2, c3, _⟩ := hb.four
  refine wp_quiet ?_
  simp only [execOp, ho, hx]
  simp [go_sem, c0, c1, c2, c3]
/-- A load out of a block that stood there ahead of the region. -/
theorem obl_load_old {i : Nat} {m : Nat → Bool} (s : Nat) (b : Nat) (hs : specOf S i = RK.eq (setV m)) (g : Option (Nat × Bool)) (hop : (ops[i]?).map (fun o => (o.op, o.guard)) = some (.load 24 (.tmp s), g)) (hnd : notDst ops s = true)
    (hv : a0.tmps.getD s undef = .pointer (some ⟨b, 0, none⟩)) (hb : Blk w0 b 24 (setL m))
    (hg : ∀ a w N, Held ops a0 w0 a w N → (∀ j, (depsOf ops i).contains j = true → Fact ops S j a w N) → (∀ j b, g = some (j, b) → ∃ d, dstOf ops j = some d ∧ a.eval (.tmp d) = .bool b)) : Obl Tryz.prog ops S Q a0 w0 i :=
  obl_val _ g hs hop fun a w N H D => ⟨hg a w N H D, fun _ ho => wp_load_set ho (held_base H s hnd hv) (hb.below H.below hb.lt)⟩
/-- A load out of a block of the region's own. -/
theorem obl_load_new {i : Nat} {u0 u1 u2 u3 : Value} (s p j : Nat) (hs : specOf S i = RK.eq (.agg #[u0, u1, u2, u3])) (g : Option (Nat × Bool)) (hop : (ops[i]?).map (fun o => (o.op, o.guard)) = some (.load 24 (.tmp s), g))
    (hp : specOf S p = RK.new 24 4) (hd : dstOf ops p = some s) (hj : specOf S j = RK.put p [u0, u1, u2, u3]) (hdep : (depsOf ops i).contains j = true)
    (hg : ∀ a w N, Held ops a0 w0 a w N → (∀ j, (depsOf ops i).contains j = true → Fact ops S j a w N) → (∀ j b, g = some (j, b) → ∃ d, dstOf ops j = some d ∧ a.eval (.tmp d) = .bool b)) : Obl Tryz.prog ops S Q a0 w0 i :=
  obl_val _ g hs hop fun a w N H D => ⟨hg a w N H D, fun _ ho => by
    have hf := D j hdep
    unfold Fact at hf
    rw [hj] at hf
    simp only [RK.put] at hf
    obtain ⟨b, hb, _, hblk⟩ := hf
    rw [hp] at hblk
    unfold valOf at hb
    rw [hd] at hb
    exact wp_load_set ho hb hblk⟩
theorem obl_new {i : Nat} (hs : specOf S i = RK.new 24 4) (hop : (ops[i]?).map (fun o => (o.op, o.guard)) = some (.alloc 24, none)) : Obl Tryz.prog ops S Q a0 w0 i := by
  intro a w N H D
  cases ho : ops[i]? with
  | none => rw [ho] at hop; cases hop
  | some o =>
    rw [ho] at hop
    simp only [Option.map_some, Option.some.injEq, Prod.mk.injEq] at hop
    have hdst : dstOf ops i = o.dst := by unfold dstOf; rw [ho]; rfl
    unfold wpOp
    simp only [ho]
    rw [if_pos (by unfold Region.wanted; rw [hop.2])]
    left
    refine wp_of_run (v := .pointer (some ⟨w.heap.size, 0, none⟩)) (w' := w.alloc (.cells [Value.int .u64 0, .int .u64 0, .int .u64 0, .int .u64 0].toArray 24)) (by simp [execOp, hop.1, go_sem]) ?_
    refine ⟨_, by rw [hdst], ?_⟩
    unfold Does
    rw [hs]
    exact ⟨_, rfl, rfl, rfl⟩
theorem obl_put {i : Nat} {m : Nat → Bool} (s p x j : Nat) (hs : specOf S i = RK.put p (setL m)) (hop : (ops[i]?).map (fun o => (o.op, o.guard)) = some (.store 24 (.tmp s) (.tmp x), none)) (_hnone : dstOf ops i = none)
    (hp : specOf S p = RK.new 24 4) (hd : dstOf ops p = some s) (hj : specOf S j = RK.eq (setV m)) (hdj : dstOf ops j = some x) (hdep : (depsOf ops i).contains j = true) (hdep2 : (depsOf ops i).contains p = true) : Obl Tryz.prog ops S Q a0 w0 i := by
  intro a w N H D
  cases ho : ops[i]? with
  | none => rw [ho] at hop; cases hop
  | some o =>
    rw [ho] at hop
    simp only [Option.map_some, Option.some.injEq, Prod.mk.injEq] at hop
    have hdst : dstOf ops i = o.dst := by unfold dstOf; rw [ho]; rfl
    have D' : ∀ j, j ∈ depsOf ops i → Fact ops S j a w N := fun j hj => by
      unfold depsOf at hj
      rw [ho] at hj
      simp only [Option.map_some, Option.getD_some, List.mem_map, List.mem_filter] at hj
      obtain ⟨e, ⟨he, hb⟩, rfl⟩ := hj
      exact D o ho e (by simpa using he) hb
    have hx := fact_eq (D' j (by simpa using hdep)) hj hdj
    have hf := D' p (by simpa using hdep2)
    unfold Fact at hf
    rw [hp] at hf
    simp only [RK.new] at hf
    obtain ⟨b, cs, hb, hNb, hblk, hlen⟩ := hf
    have hv : valOf ops p a = a.eval (.tmp s) := by unfold valOf; rw [hd]; rfl
    obtain ⟨v0, v1, v2, v3, rfl⟩ : ∃ v0 v1 v2 v3, cs = [v0, v1, v2, v3] := by
      match cs, hlen with
      | [v0, v1, v2, v3], _ => exact ⟨v0, v1, v2, v3, rfl⟩
    obtain ⟨c0, c1, c2, c3, f0, f1, f2, f3⟩ := hblk.four
    unfold wpOp
    simp only [ho]
    rw [if_pos (by unfold Region.wanted; rw [hop.2])]
    left
    have hpx : a.eval (.tmp s) = .pointer (some ⟨b, 0, none⟩) := hv.symm.trans hb
    have hrun : (execOp a.eval o).run Tryz.prog w = .ok .skip ((((w.setCell ⟨b, 0, none⟩ (.int .u64 (word m 0))).setCell ⟨b, 1, none⟩ (.int .u64 (word m 1))).setCell ⟨b, 2, none⟩ (.int .u64 (word m 2))).setCell ⟨b, 3, none⟩ (.int .u64 (word m 3))) := by
      simp only [execOp, hop.1, hx, hpx]
      simp [go_sem, c0, c1, c2, c3, f0, f1, f2, f3]
    unfold Oper.wp
    rw [hrun]
    show ∃ v, a.put o.dst undef = a.put (dstOf ops i) v ∧ _
    refine ⟨undef, by rw [hdst], ?_⟩
    unfold Does
    rw [hs]
    simp only [RK.put, hp, RK.new]
    exact ⟨b, hb, only_set4 (World.grownBy.refl _ _) _ _ _ _, by simp [World.setCell], hblk.set4 _ _ _ _⟩
/-- Equality of two sets. -/
theorem wp_eq_set {o : Oper} {x y : Operand} {m m' : Nat → Bool} {t : TypeId} (ho : o.op = .binOp .eql 24 x y t) (hx : a.eval x = setV m) (hy : a.eval y = setV m') :
    o.wp Tryz.prog a w (fun a' w' => ∃ u, a' = a.put o.dst u ∧ Below w.heap.size w w' ∧ ∀ N' : Nat → Prop, (∀ k, k < w.heap.size → N k → N' k) → (∀ k, w.heap.size ≤ k → N' k) → (RG.eq (.bool (eqB m m'))).g u w' N') Q := by
  refine wp_quiet ?_
  simp only [execOp, ho, hx, hy]
  simp [go_sem, eq_words, eqB_words]
theorem wp_neq_set {o : Oper} {x y : Operand} {m m' : Nat → Bool} {t : TypeId} (ho : o.op = .binOp .neq 24 x y t) (hx : a.eval x = setV m) (hy : a.eval y = setV m') :
    o.wp Tryz.prog a w (fun a' w' => ∃ u, a' = a.put o.dst u ∧ Below w.heap.size w w' ∧ ∀ N' : Nat → Prop, (∀ k, k < w.heap.size → N k → N' k) → (∀ k, w.heap.size ≤ k → N' k) → (RG.eq (.bool (!eqB m m'))).g u w' N') Q := by
  refine wp_quiet ?_
  simp only [execOp, ho, hx, hy]
  simp [go_sem, eq_words, eqB_words]
theorem wp_of_eq {o : Oper} {c : Value} (h : o.wp Tryz.prog a w (fun a' w' => ∃ u, a' = a.put o.dst u ∧ Below w.heap.size w w' ∧ ∀ N' : Nat → Prop, (∀ k, k < w.heap.size → N k → N' k) → (∀ k, w.heap.size ≤ k → N' k) → (RG.eq c).g u w' N') Q) (c' : Value) (hc : c = c') :
    o.wp Tryz.prog a w (fun a' w' => ∃ u, a' = a.put o.dst u ∧ Below w.heap.size w w' ∧ ∀ N' : Nat → Prop, (∀ k, k < w.heap.size → N k → N' k) → (∀ k, w.heap.size ≤ k → N' k) → (RG.eq c').g u w' N') Q := by
  subst hc
  exact h
theorem wp_sub8 {o : Oper} {x y : Operand} {p q r : Int} {t : TypeId} (ho : o.op = .binOp .sub 5 x y t) (hx : a.eval x = .int .u8 p) (hy : a.eval y = .int .u8 q) (hr : p - q = r) (h0 : 0 ≤ r ∧ r < 256) :
    o.wp Tryz.prog a w (fun a' w' => ∃ u, a' = a.put o.dst u ∧ Below w.heap.size w w' ∧ ∀ N' : Nat → Prop, (∀ k, k < w.heap.size → N k → N' k) → (∀ k, w.heap.size ≤ k → N' k) → (RG.eq (.int .u8 r)).g u w' N') Q := by
  have hw : IntKind.u8.wrap (p - q) = r := by rw [IntKind.wrap_u8']; omega
  refine wp_quiet ?_
  simp only [execOp, ho, hx, hy]
  simp [go_sem, hw]
theorem wp_eqb {o : Oper} {x y : Operand} {p q : Bool} {t : TypeId} (ho : o.op = .binOp .eql 4 x y t) (hx : a.eval x = .bool p) (hy : a.eval y = .bool q) :
    o.wp Tryz.prog a w (fun a' w' => ∃ u, a' = a.put o.dst u ∧ Below w.heap.size w w' ∧ ∀ N' : Nat → Prop, (∀ k, k < w.heap.size → N k → N' k) → (∀ k, w.heap.size ≤ k → N' k) → (RG.eq (.bool (p == q))).g u w' N') Q := by
  refine wp_quiet ?_
  simp only [execOp, ho, hx, hy]
  simp [go_sem]
theorem wp_not {o : Oper} {x : Operand} {p : Bool} {t : TypeId} (ho : o.op = .unOp .not t x) (hx : a.eval x = .bool p) :
    o.wp Tryz.prog a w (fun a' w' => ∃ u, a' = a.put o.dst u ∧ Below w.heap.size w w' ∧ ∀ N' : Nat → Prop, (∀ k, k < w.heap.size → N k → N' k) → (∀ k, w.heap.size ≤ k → N' k) → (RG.eq (.bool (!p))).g u w' N') Q := by
  refine wp_quiet ?_
  simp only [execOp, ho, hx]
  simp [go_sem]
/-- A frame, written out. -/
theorem act_eq (a : Act) (n : Nat) (h : a.tmps.size = n) : a = ⟨((List.range n).map fun k => a.tmps.getD k undef).toArray, a.defers⟩ := by
  obtain ⟨t, d⟩ := a
  simp only at h
  congr 1
  apply Array.ext
  · simp [h]
  · intro i h1 h2
    simp [h1]
theorem wp_addi {o : Oper} {x y : Operand} {p q : Int} {t : TypeId} (ho : o.op = .binOp .add 3 x y t) (hx : a.eval x = .int .i64 p) (hy : a.eval y = .int .i64 q) :
    o.wp Tryz.prog a w (fun a' w' => ∃ u, a' = a.put o.dst u ∧ Below w.heap.size w w' ∧ ∀ N' : Nat → Prop, (∀ k, k < w.heap.size → N k → N' k) → (∀ k, w.heap.size ≤ k → N' k) → (RG.eq (.int .i64 (wrap64 (p + q)))).g u w' N') Q := by
  refine wp_quiet ?_
  simp only [execOp, ho, hx, hy]
  simp [go_sem, wrap64, IntKind.wrap_i64]
theorem wp_eqi {o : Oper} {x y : Operand} {p q : Int} {t : TypeId} (ho : o.op = .binOp .eql 3 x y t) (hx : a.eval x = .int .i64 p) (hy : a.eval y = .int .i64 q) :
    o.wp Tryz.prog a w (fun a' w' => ∃ u, a' = a.put o.dst u ∧ Below w.heap.size w w' ∧ ∀ N' : Nat → Prop, (∀ k, k < w.heap.size → N k → N' k) → (∀ k, w.heap.size ≤ k → N' k) → (RG.eq (.bool (p == q))).g u w' N') Q := by
  refine wp_quiet ?_
  simp only [execOp, ho, hx, hy]
  simp [go_sem]
/-- A call that answers a value known ahead. -/
theorem wp_call_eq {o : Oper} {f : FuncId} {args : Array Operand} {ts : Array TypeId} {c : Value} (ho : o.op = .call { callee := .value (.func f), args := args, argTypes := ts })
    (hf : ∀ (xs : Array Value) (w : World), (callFunc f xs).run Tryz.prog w = .ok (.enter f xs) w) {xs : Array Value} (hx : args.map a.eval = xs) (hc : Calls Tryz.prog f xs w fun e w' => e = .returned c ∧ Below w.heap.size w w') :
    o.wp Tryz.prog a w (fun a' w' => ∃ u, a' = a.put o.dst u ∧ Below w.heap.size w w' ∧ ∀ N' : Nat → Prop, (∀ k, k < w.heap.size → N k → N' k) → (∀ k, w.heap.size ≤ k → N' k) → (RG.eq c).g u w' N') Q := by
  subst hx
  refine wp_callee ho hf (hc.mono ?_)
  rintro e w' ⟨rfl, hb⟩
  exact ⟨c, rfl, c, rfl, hb, fun _ _ _ => rfl⟩
theorem run_build2 (m0 m1 : Nat → Bool) (w : World) : (Instr.buildSlice 132 2 #[(0, setV m0), (1, setV m1)]).run Tryz.prog w = .ok (.slice (some ⟨w.heap.size, 0, none⟩) 2 2) (w.alloc (.cells (setsC [m0, m1]).toArray 24)) := by kernel_rfl
theorem wp_build2 {o : Oper} {x0 x1 : Operand} {m0 m1 : Nat → Bool} (ho : o.op = .buildSlice 132 2 #[(0, x0), (1, x1)]) (h0 : a.eval x0 = setV m0) (h1 : a.eval x1 = setV m1) :
    o.wp Tryz.prog a w (fun a' w' => ∃ u, a' = a.put o.dst u ∧ Below w.heap.size w w' ∧ ∀ N' : Nat → Prop, (∀ k, k < w.heap.size → N k → N' k) → (∀ k, w.heap.size ≤ k → N' k) → (RG.sets [m0, m1]).g u w' N') Q := by
  have hr := run_build2 m0 m1 w
  refine wp_of_run (v := .slice (some ⟨w.heap.size, 0, none⟩) 2 2) (w' := w.alloc (.cells (setsC [m0, m1]).toArray 24)) (by simp only [execOp, ho, List.map_toArray, List.map_cons, List.map_nil, h0, h1]; simp [hr]) ⟨_, rfl, (Below.refl _ _).alloc (Nat.le_refl _) _, fun N' _ hN => ?_⟩
  exact RG.sets_own (World.ownsRow_lit (base := w.heap.size) (e := 24) (size := 4) w (setsC [m0, m1]).toArray 2 (Nat.le_refl _) (by unfold maxLen; omega) rfl) (by omega) hN
end
theorem enter_union (xs : Array Value) (w : World) : (callFunc 226 xs).run Tryz.prog w = .ok (.enter 226 xs) w := by kernel_rfl
end Go.Proofs.YtpiimcbbgalhfaaGreatDoor
/- A reader of a pattern, as it lies; peek, is, fail, bad. -/
namespace Go.Proofs.YtpiimcbbgalhfaaGreatDoor
set_option maxRecDepth 100000
open Go.RowKit
theorem bytesN_length (s : ByteArray) : (bytesN s).length = s.size := by simp [bytesN]
theorem bytesN_some {s : ByteArray} {i c : Nat} (h : (bytesN s)[i]? = some c) : ∃ hi : i < s.size, (s[i]'hi).toNat = c := by
  unfold bytesN at h
  rw [List.getElem?_map, Option.map_eq_some_iff] at h
  obtain ⟨b, hb, rfl⟩ := h
  rw [Array.getElem?_toList, Array.getElem?_eq_some_iff] at hb
  obtain ⟨hi, rfl⟩ := hb
  exact ⟨hi, rfl⟩
theorem bytesN_none {s : ByteArray} {i : Nat} (h : (bytesN s)[i]? = none) : s.size ≤ i := by
  rw [List.getElem?_eq_none_iff, bytesN_length] at h
  exact h
theorem bytesN_lt {s : ByteArray} {i c : Nat} (h : (bytesN s)[i]? = some c) : c < 256 := by
  obtain ⟨hi, rfl⟩ := bytesN_some h
  exact (s[i]'hi).toNat_lt
/-- Block b holds a reader of the text s: it stands at i, its error is e, its tokens are lv. -/
structure Rdr (w : World) (b : Nat) (s : ByteArray) (i e : Nat) (lv : Value) : Prop where
  blk : Blk w b 226 [.string s, .int .i64 ((i : Nat) : Int), .int .i64 ((e : Nat) : Int), lv]
  tab : TabOk w
  ne : b ≠ 0
  le : i ≤ s.size
  size : s.size ≤ 1048576
theorem Rdr.below {w w' : World} {b : Nat} {s : ByteArray} {i e : Nat} {lv : Value} (h : Rdr w b s i e lv) (hb : Below w.heap.size w w') : Rdr w' b s i e lv := ⟨h.blk.below hb h.blk.lt, h.tab.below hb, h.ne, h.le, h.size⟩
theorem TabOk.only {w w' : World} {b : Nat} (h : TabOk w) (hg : w.grownBy w' (some b)) (hne : b ≠ 0) : TabOk w' := by
  intro j hj
  have hc := h j hj
  have hlt : 0 < w.heap.size := by
    unfold World.cell? at hc
    rcases Nat.lt_or_ge 0 w.heap.size with hl | hl
    · exact hl
    · simp only [] at hc
      rw [Array.getElem?_eq_none hl] at hc
      cases hc
  rw [← hc]
  exact World.cell?_of_block (hg.block _ hlt (by simp; exact fun e => hne e.symm))
theorem Rdr.turn {w w' : World} {b : Nat} {s : ByteArray} {i e i' e' : Nat} {lv : Value} (h : Rdr w b s i e lv) (hg : w.grownBy w' (some b)) (hle : i' ≤ s.size)
    (hb : Blk w' b 226 [.string s, .int .i64 ((i' : Nat) : Int), .int .i64 ((e' : Nat) : Int), lv]) : Rdr w' b s i' e' lv := ⟨hb, h.tab.only hg h.ne, h.ne, hle, h.size⟩
theorem only_refl (w : World) (b : Nat) : w.grownBy w (some b) := World.grownBy.refl _ _
theorem only_of {w w' : World} (b : Nat) (hb : Below w.heap.size w w') : w.grownBy w' (some b) := only_below (only_refl w b) hb
theorem only_trans {w w1 w2 : World} {b : Nat} (h : w.grownBy w1 (some b)) (h' : w1.grownBy w2 (some b)) : w.grownBy w2 (some b) :=
  ⟨h'.os.trans h.os, h'.tape.trans h.tape, h'.output.trans h.output, Nat.le_trans h.size h'.size, fun i hi hn => (h'.block i (Nat.lt_of_lt_of_le hi h.size) hn).trans (h.block i hi hn)⟩
/-- What peek answers. -/
def peekV (t : List Nat) (i : Nat) : Value := match t[i]? with
  | none => .tuple #[.int .u8 0, .bool false]
  | some c => .tuple #[.int .u8 ((c : Nat) : Int), .bool true]
theorem Rdr.cells {w : World} {b : Nat} {s : ByteArray} {i e : Nat} {lv : Value} (h : Rdr w b s i e lv) :
    w.cell? ⟨b, 0, none⟩ = some (.string s) ∧ w.cell? ⟨b, 1, none⟩ = some (.int .i64 ((i : Nat) : Int)) ∧ w.cell? ⟨b, 2, none⟩ = some (.int .i64 ((e : Nat) : Int)) ∧ w.cell? ⟨b, 3, none⟩ = some lv ∧
    w.frozen? ⟨b, 1, none⟩ = false ∧ w.frozen? ⟨b, 2, none⟩ = false ∧ w.frozen? ⟨b, 3, none⟩ = false :=
  ⟨h.blk.cell 0, h.blk.cell 1, h.blk.cell 2, h.blk.cell 3, h.blk.frozen 1, h.blk.frozen 2, h.blk.frozen 3⟩
theorem peek_at {w : World} {b : Nat} {s : ByteArray} {i e : Nat} {lv : Value} (h : Rdr w b s i e lv) :
    Calls Tryz.prog 221 #[.pointer (some ⟨b, 0, none⟩)] w fun v w' => v = .returned (peekV (bytesN s) i) ∧ Below w.heap.size w w' := by
  obtain ⟨c0, c1, _, _, _, _, _⟩ := h.cells
  have hsz := h.size
  unfold peekV
  cases hc : (bytesN s)[i]? with
  | none =>
    have h1 := bytesN_none hc
    have hd : decide (((s.size : Nat) : Int) ≤ ((i : Nat) : Int)) = true := decide_eq_true (by omega)
    clear hc
    go_enter Tryz.func221, Tryz.ntmps221
    go_wp2_with fail
    go_quiet (fail)
    go_wp2
    go_returns
    exact ⟨rfl, below_drewN (Below.refl _ _) _⟩
  | some c =>
    obtain ⟨h1, h2⟩ := bytesN_some hc
    have hd : decide (((s.size : Nat) : Int) ≤ ((i : Nat) : Int)) = false := decide_eq_false (by omega)
    clear hc
    go_enter Tryz.func221, Tryz.ntmps221
    go_wp2_with fail
    go_quiet (fail)
    go_wp2_with fail
    go_quiet (fail)
    go_wp2
    go_returns
    exact ⟨rfl, below_drewN (below_drewN (Below.refl _ _) _) _⟩
theorem bad_at {w : World} {b : Nat} {s : ByteArray} {i e : Nat} {lv : Value} (h : Rdr w b s i e lv) :
    Calls Tryz.prog 130 #[.pointer (some ⟨b, 0, none⟩)] w fun v w' => v = .returned (.bool (decide (e ≠ 0))) ∧ Below w.heap.size w w' := by
  obtain ⟨_, _, c2, _, _, _, _⟩ := h.cells
  by_cases he : e = 0
  · subst he
    go_enter Tryz.func130, Tryz.ntmps130
    go_wp2
    go_returns
    exact ⟨rfl, Below.refl _ _⟩
  · have he' : ((e : Nat) : Int) ≠ 0 := by omega
    have hd := decide_eq_true he
    rw [hd]
    clear hd
    go_enter Tryz.func130, Tryz.ntmps130
    go_wp2
    go_returns
    exact ⟨congrArg (fun t => Ending.returned (.bool t)) (bne_iff_ne.2 he'), Below.refl _ _⟩
/-- fail, where nothing was wrong. -/
theorem fail_at {w : World} {b : Nat} {s : ByteArray} {i j k : Nat} {lv : Value} (h : Rdr w b s i 0 lv) (hj : j ≤ s.size) :
    Calls Tryz.prog 175 #[.pointer (some ⟨b, 0, none⟩), .int .i64 ((j : Nat) : Int), .int .i64 ((k : Nat) : Int)] w fun v w' => (∃ u, v = .returned u) ∧ Rdr w' b s j k lv ∧ w.grownBy w' (some b) := by
  obtain ⟨_, c1, c2, _, f1, f2, _⟩ := h.cells
  go_enter Tryz.func175, Tryz.ntmps175
  go_wp2
  go_returns
  have hg := only_setCell (only_setCell (only_refl w b) 1 (.int .i64 ((j : Nat) : Int))) 2 (.int .i64 ((k : Nat) : Int))
  exact ⟨⟨_, rfl⟩, h.turn hg hj ((h.blk.set 1 _).set 2 _), hg⟩
/-- Whether a byte stands there, and where one stands behind it. -/
def isB (t : List Nat) (i c : Nat) : Bool := decide (t[i]? = some c)
def isI (t : List Nat) (i c : Nat) : Nat := if t[i]? = some c then i + 1 else i
theorem isB_yes {t : List Nat} {i c : Nat} (h : t[i]? = some c) : isB t i c = true ∧ isI t i c = i + 1 := ⟨decide_eq_true h, if_pos h⟩
theorem isB_no {t : List Nat} {i c : Nat} (h : t[i]? ≠ some c) : isB t i c = false ∧ isI t i c = i := ⟨decide_eq_false h, if_neg h⟩
theorem is_at {w : World} {b : Nat} {s : ByteArray} {i e : Nat} {lv : Value} (c : Nat) (h : Rdr w b s i e lv) :
    Calls Tryz.prog 224 #[.pointer (some ⟨b, 0, none⟩), .int .u8 ((c : Nat) : Int)] w fun v w' => v = .returned (.bool (isB (bytesN s) i c)) ∧ Rdr w' b s (isI (bytesN s) i c) e lv ∧ w.grownBy w' (some b) := by
  have hsz := h.size
  by_cases hcase : (bytesN s)[i]? = some c
  · obtain ⟨e1, e2⟩ := isB_yes hcase
    rw [e1, e2]
    have hle : i + 1 ≤ s.size := (bytesN_some hcase).1
    have hp : peekV (bytesN s) i = .tuple #[.int .u8 ((c : Nat) : Int), .bool true] := by unfold peekV; rw [hcase]
    clear e1 e2 hcase
    go_enter Tryz.func224, Tryz.ntmps224
    go_wp2_with fail
    refine (peek_at h).mono ?_
    rintro v w1 ⟨rfl, hb⟩
    rw [hp]
    have h1 := h.below hb
    obtain ⟨_, c1, _, _, f1, _, _⟩ := h1.cells
    go_wp2
    go_returns
    have hg := only_setCell (only_of b hb) 1 (.int .i64 ((i : Nat) + 1 : Int))
    exact ⟨rfl, h.turn hg hle (h1.blk.set 1 _), hg⟩
  · obtain ⟨e1, e2⟩ := isB_no hcase
    rw [e1, e2]
    clear e1 e2
    cases hc : (bytesN s)[i]? with
    | none =>
      have hp : peekV (bytesN s) i = .tuple #[.int .u8 0, .bool false] := by unfold peekV; rw [hc]
      clear hcase hc
      go_enter Tryz.func224, Tryz.ntmps224
      go_wp2_with fail
      refine (peek_at h).mono ?_
      rintro v w1 ⟨rfl, hb⟩
      rw [hp]
      go_wp2
      go_returns
      exact ⟨rfl, h.below hb, only_of b hb⟩
    | some d =>
      have hp : peekV (bytesN s) i = .tuple #[.int .u8 ((d : Nat) : Int), .bool true] := by unfold peekV; rw [hc]
      have hd' : ((d : Nat) : Int) ≠ ((c : Nat) : Int) := by
        intro e
        apply hcase
        rw [hc]
        congr 1
        omega
      clear hcase hc
      go_enter Tryz.func224, Tryz.ntmps224
      go_wp2_with fail
      refine (peek_at h).mono ?_
      rintro v w1 ⟨rfl, hb⟩
      rw [hp]
      go_wp2
      go_returns
      exact ⟨rfl, h.below hb, only_of b hb⟩
end Go.Proofs.YtpiimcbbgalhfaaGreatDoor
/- strings.IndexByte, strings.HasPrefix: their contracts (after the shelf's texts); which byte is among which. -/
namespace Go.Proofs.YtpiimcbbgalhfaaGreatDoor
set_option maxRecDepth 100000
open Go.RowKit
set_option maxHeartbeats 1000000 in
set_option maxRecDepth 100000 in
theorem lite_index (s : ByteArray) (c : Int) (w : World) :
    Calls Tryz.prog 229 #[.string s, .int .u8 c] w fun e w' => e = .returned (.int .i64 (Lib.indexByte s.data.toList c.toNat.toUInt8)) ∧ w' = w := by
  go_enter Tryz.func229, Tryz.ntmps229
  go_wp2
  rw [run_callFunc_extern Tryz.func263 (by kernel_rfl) (by kernel_rfl) (by kernel_rfl) (e := Extern.BytealgIndexByte.indexByte) (by kernel_rfl), Lib.run_indexByteString]
  simp only [Result.andThen]
  rw [Oper.upon_value]
  go_wp2
  go_ret
  exact ⟨rfl, rfl⟩
theorem index_of (s : ByteArray) (c : Int) (w : World) :
    Calls Tryz.prog 176 #[.string s, .int .u8 c] w fun e w' => e = .returned (.int .i64 (Lib.indexByte s.data.toList c.toNat.toUInt8)) ∧ w' = w := by
  go_enter Tryz.func176, Tryz.ntmps176
  go_wp2_with fail
  refine (lite_index _ _ _).mono ?_
  rintro e w' ⟨rfl, rfl⟩
  go_wp2
  go_ret
  exact ⟨rfl, rfl⟩
/-- A byte's place among some, or a number below 0. -/
theorem index_in (l : ByteArray) (L : List Nat) (hL : ∀ c : Fin 256, decide (0 ≤ Lib.indexByte l.data.toList c.val.toUInt8) = L.contains c.val) (c : Nat) (hc : c < 256) (w : World) :
    Calls Tryz.prog 176 #[.string l, .int .u8 ((c : Nat) : Int)] w fun e w' => (∃ n : Int, e = .returned (.int .i64 n) ∧ (if L.contains c = true then 0 ≤ n else n < 0)) ∧ w' = w := by
  refine (index_of l _ w).mono ?_
  rintro e w' ⟨rfl, rfl⟩
  refine ⟨⟨_, rfl, ?_⟩, rfl⟩
  have h := hL ⟨c, hc⟩
  simp only [Int.toNat_natCast] at h ⊢
  split
  · rename_i hm
    rw [hm] at h
    exact of_decide_eq_true h
  · rename_i hm
    rw [Bool.not_eq_true] at hm
    rw [hm] at h
    have := of_decide_eq_false h
    omega
theorem special_ix : ∀ c : Fin 256, decide (0 ≤ Lib.indexByte (⟨#[92, 124, 40, 41, 91, 93, 123, 125, 42, 43, 63, 46, 94, 36, 47, 45]⟩ : ByteArray).data.toList c.val.toUInt8) = (specialL).contains c.val := by decide +kernel
theorem other_ix : ∀ c : Fin 256, decide (0 ≤ Lib.indexByte (⟨#[49, 50, 51, 52, 53, 54, 55, 56, 57, 98, 66, 65, 122, 90, 71, 81, 69, 107, 112, 80]⟩ : ByteArray).data.toList c.val.toUInt8) = (otherL).contains c.val := by decide +kernel
theorem lone_ix : ∀ c : Fin 256, decide (0 ≤ Lib.indexByte (⟨#[93, 125]⟩ : ByteArray).data.toList c.val.toUInt8) = (loneL).contains c.val := by decide +kernel
theorem inner_ix : ∀ c : Fin 256, decide (0 ≤ Lib.indexByte (⟨#[91, 93, 45, 94]⟩ : ByteArray).data.toList c.val.toUInt8) = (innerL).contains c.val := by decide +kernel
def hexIx (c : Nat) : Int := match hexM c with | some n => ((n : Nat) : Int) | none => -1
theorem hex_up : ∀ c : Fin 256, 65 ≤ c.val → Lib.indexByte (⟨#[48, 49, 50, 51, 52, 53, 54, 55, 56, 57, 97, 98, 99, 100, 101, 102]⟩ : ByteArray).data.toList (bits .or .u8 ((c.val : Nat) : Int) 32).toNat.toUInt8 = hexIx c.val := by decide +kernel
theorem hex_low : ∀ c : Fin 256, c.val < 65 → Lib.indexByte (⟨#[48, 49, 50, 51, 52, 53, 54, 55, 56, 57]⟩ : ByteArray).data.toList ((c.val : Nat) : Int).toNat.toUInt8 = hexIx c.val := by decide +kernel
theorem hexM_lt {c n : Nat} (h : hexM c = some n) : n < 16 := by
  unfold hexM at h
  split at h
  · injection h; omega
  · split at h
    · injection h; omega
    · split at h
      · injection h; omega
      · cases h
set_option maxHeartbeats 1000000 in
theorem prefix_of (s p : ByteArray) (w : World) :
    Calls Tryz.prog 227 #[.string s, .string p] w fun e w' => e = .returned (.bool (Lib.hasPrefix s.data.toList p.data.toList)) ∧ w' = w := by
  rw [← Lib.hasPrefix_of_take, ← Lib.size_eq, ← Lib.size_eq]
  go_enter Tryz.func227, Tryz.ntmps227
  go_wp2
  · rename_i h
    go_ret
    refine ⟨?_, rfl⟩
    show Ending.returned (Value.bool ((s.extract 0 p.size).toList == p.toList)) = _
    rw [Lib.extract_toList, Lib.toList_data]
    simp [h]
  · rename_i h
    go_ret
    refine ⟨?_, rfl⟩
    show Ending.returned (Value.bool false) = _
    simp [h]
end Go.Proofs.YtpiimcbbgalhfaaGreatDoor
/- Digits, decimal and hex: digits, hex. -/
namespace Go.Proofs.YtpiimcbbgalhfaaGreatDoor
set_option maxRecDepth 100000
open Go.RowKit
theorem digits_at {w : World} {b : Nat} {s : ByteArray} {i e : Nat} {lv : Value} (h : Rdr w b s i e lv) :
    Calls Tryz.prog 277 #[.pointer (some ⟨b, 0, none⟩)] w fun v w' => v = .returned (.bool (digitAt (bytesN s) i).isSome) ∧ Below w.heap.size w w' := by
  cases hc : (bytesN s)[i]? with
  | none =>
    have hd : (digitAt (bytesN s) i).isSome = false := by unfold digitAt; rw [hc]; rfl
    have hp : peekV (bytesN s) i = .tuple #[.int .u8 0, .bool false] := by unfold peekV; rw [hc]
    rw [hd]
    clear hc hd
    go_enter Tryz.func277, Tryz.ntmps277
    go_wp2_with fail
    refine (peek_at h).mono ?_
    rintro v w1 ⟨rfl, hb⟩
    rw [hp]
    go_wp2
    go_returns
    exact ⟨rfl, hb⟩
  | some c =>
    have hp : peekV (bytesN s) i = .tuple #[.int .u8 ((c : Nat) : Int), .bool true] := by unfold peekV; rw [hc]
    have HD := Lib.hid (show (digitAt (bytesN s) i).isSome = decide (48 ≤ c ∧ c ≤ 57) by
      unfold digitAt
      rw [hc]
      simp only [Option.bind_some]
      by_cases g : 48 ≤ c ∧ c ≤ 57
      · rw [if_pos g, decide_eq_true g]; rfl
      · rw [if_neg g, decide_eq_false g]; rfl)
    clear hc
    go_enter Tryz.func277, Tryz.ntmps277
    go_wp2_with fail
    refine (peek_at h).mono ?_
    rintro v w1 ⟨rfl, hb⟩
    rw [hp]
    by_cases h1 : 48 ≤ c
    · by_cases h2 : c ≤ 57
      · go_wp2
        go_returns
        refine ⟨?_, hb⟩
        rw [HD.out, decide_eq_true (show 48 ≤ c ∧ c ≤ 57 from ⟨h1, h2⟩)]
        first | rfl | (simp; omega)
      · go_wp2
        go_returns
        refine ⟨?_, hb⟩
        rw [HD.out, decide_eq_false (show ¬(48 ≤ c ∧ c ≤ 57) from fun g => h2 g.2)]
        first | rfl | (simp; omega)
    · go_wp2
      go_returns
      refine ⟨?_, hb⟩
      rw [HD.out, decide_eq_false (show ¬(48 ≤ c ∧ c ≤ 57) from fun g => h1 g.1)]
      first | rfl | (simp; omega)
/-- What hex leaves. -/
def HexIs (t : List Nat) (i n j e : Nat) : Prop := n < 16 ∧ match hexAt t i with
  | some d => n = d ∧ j = i + 1 ∧ e = 0
  | none => j = i ∧ e = 4
set_option maxRecDepth 100000 in
set_option maxHeartbeats 1000000 in
theorem hex_at {w : World} {b : Nat} {s : ByteArray} {i : Nat} {lv : Value} (h : Rdr w b s i 0 lv) :
    Calls Tryz.prog 223 #[.pointer (some ⟨b, 0, none⟩)] w fun v w' => ∃ n j e, v = .returned (.int .u8 ((n : Nat) : Int)) ∧ Rdr w' b s j e lv ∧ w.grownBy w' (some b) ∧ HexIs (bytesN s) i n j e := by
  have hsz := h.size
  cases hc : (bytesN s)[i]? with
  | none =>
    have hp : peekV (bytesN s) i = .tuple #[.int .u8 0, .bool false] := by unfold peekV; rw [hc]
    have HX := Lib.hid (show HexIs (bytesN s) i 0 i 4 from ⟨by omega, by unfold hexAt; rw [hc]; exact ⟨rfl, rfl⟩⟩)
    clear hc
    go_enter Tryz.func223, Tryz.ntmps223
    go_wp2_with fail
    refine (peek_at h).mono ?_
    rintro v w1 ⟨rfl, hb⟩
    rw [hp]
    go_wp2_with fail
    refine (index_of _ _ _).mono ?_
    rintro v w2 ⟨rfl, rfl⟩
    generalize Lib.indexByte _ _ = n1
    go_wp2_with fail
    refine (index_of _ _ _).mono ?_
    rintro v w3 ⟨rfl, rfl⟩
    generalize Lib.indexByte _ _ = n2
    have h1 := h.below hb
    obtain ⟨_, c1, _, _, f1, _, _⟩ := h1.cells
    go_wp2_with fail
    go_still_tail 8, (by kernel_rfl)
    change wpList _ _ _ _ _ w3.drew
    go_wp2_with fail
    refine (fail_at (k := 4) (h1.below (Below.refl _ _).drew) (by have := h1.le; omega)).mono ?_
    rintro v w4 ⟨⟨u, rfl⟩, h4, hg⟩
    go_wp2
    go_returns
    exact ⟨0, i, 4, rfl, h4, only_trans (only_of b (hb.trans ((Below.refl _ _).drew))) hg, HX.out⟩
  | some c =>
    have hp : peekV (bytesN s) i = .tuple #[.int .u8 ((c : Nat) : Int), .bool true] := by unfold peekV; rw [hc]
    have hc256 := bytesN_lt hc
    have hle := (bytesN_some hc).1
    have hup := fun g : 65 ≤ c => hex_up ⟨c, hc256⟩ g
    have hlow := fun g : c < 65 => hex_low ⟨c, hc256⟩ g
    simp only [] at hup hlow
    have HU := Lib.hid hup
    have HLo := Lib.hid hlow
    have HX := Lib.hid (show ∀ n j e, n < 16 → (match hexM c with | some d => n = d ∧ j = i + 1 ∧ e = 0 | none => j = i ∧ e = 4) → HexIs (bytesN s) i n j e from fun n j e h1 h2 => ⟨h1, by unfold hexAt; rw [hc]; exact h2⟩)
    clear hc hup hlow
    go_enter Tryz.func223, Tryz.ntmps223
    go_wp2_with fail
    refine (peek_at h).mono ?_
    rintro v w1 ⟨rfl, hb⟩
    rw [hp]
    have h1 := h.below hb
    obtain ⟨_, c1, _, _, f1, _, _⟩ := h1.cells
    by_cases hcase : 65 ≤ c
    · go_wp2_with fail
      refine (index_of _ _ _).mono ?_
      rintro v w2 ⟨rfl, rfl⟩
      rw [HU.out hcase]
      unfold hexIx
      cases hx : hexM c with
      | none =>
        dsimp only
        go_wp2_with fail
        go_still_tail 8, (by kernel_rfl)
        change wpList _ _ _ _ _ w2.drew
        go_wp2_with fail
        refine (fail_at (k := 4) (h1.below (Below.refl _ _).drew) (by have := h1.le; omega)).mono ?_
        rintro v w4 ⟨⟨u, rfl⟩, h4, hg⟩
        go_wp2
        go_returns
        exact ⟨0, i, 4, rfl, h4, only_trans (only_of b (hb.trans ((Below.refl _ _).drew))) hg, HX.out 0 i 4 (by omega) (by rw [hx]; exact ⟨rfl, rfl⟩)⟩
      | some d =>
        have hd := hexM_lt hx
        dsimp only
        have HH := Lib.hid hx
        clear hx
        go_wp2
        go_returns
        have hg := only_setCell (only_of b hb) 1 (.int .i64 ((i : Nat) + 1 : Int))
        exact ⟨d, i + 1, 0, rfl, h.turn hg hle (h1.blk.set 1 _), hg, HX.out d (i + 1) 0 hd (by rw [HH.out]; exact ⟨rfl, rfl, rfl⟩)⟩
    · have hcase' : c < 65 := by omega
      go_wp2_with fail
      refine (index_of _ _ _).mono ?_
      rintro v w2 ⟨rfl, rfl⟩
      generalize Lib.indexByte _ _ = n1
      go_wp2_with fail
      refine (index_of _ _ _).mono ?_
      rintro v w3 ⟨rfl, rfl⟩
      rw [HLo.out hcase']
      unfold hexIx
      cases hx : hexM c with
      | none =>
        dsimp only
        go_wp2_with fail
        go_still_tail 8, (by kernel_rfl)
        change wpList _ _ _ _ _ w3.drew
        go_wp2_with fail
        refine (fail_at (k := 4) (h1.below (Below.refl _ _).drew) (by have := h1.le; omega)).mono ?_
        rintro v w4 ⟨⟨u, rfl⟩, h4, hg⟩
        go_wp2
        go_returns
        exact ⟨0, i, 4, rfl, h4, only_trans (only_of b (hb.trans ((Below.refl _ _).drew))) hg, HX.out 0 i 4 (by omega) (by rw [hx]; exact ⟨rfl, rfl⟩)⟩
      | some d =>
        have hd := hexM_lt hx
        dsimp only
        have HH := Lib.hid hx
        clear hx
        go_wp2
        go_returns
        have hg := only_setCell (only_of b hb) 1 (.int .i64 ((i : Nat) + 1 : Int))
        exact ⟨d, i + 1, 0, rfl, h.turn hg hle (h1.blk.set 1 _), hg, HX.out d (i + 1) 0 hd (by rw [HH.out]; exact ⟨rfl, rfl, rfl⟩)⟩
end Go.Proofs.YtpiimcbbgalhfaaGreatDoor
/- Operations for regions: bytes in a row, a set of some bytes, four sets in a row. -/
namespace Go.Proofs.YtpiimcbbgalhfaaGreatDoor
set_option maxRecDepth 100000
open Go.RowKit
section
variable {ops : Array Oper} {S : List RK} {Q : Exit → Act → World → Prop} {a0 : Act} {w0 : World} {a : Act} {w : World} {N : Nat → Prop}
/-- It reads as the numbers l, in blocks within N. -/
def RG.rd (k : IntKind) (l : List Int) : RG where
  g v w N := ∃ A c, v = .slice A l.length c ∧ l.length ≤ c ∧ l.length ≤ 140737488355328 ∧ ∀ i x, l[i]? = some x → ∃ ad, A = some ad ∧ N ad.block ∧ ad.block < w.heap.size ∧ w.cell? (ad.add i) = some (.int k x)
  mono := by
    rintro v w w' N N' ⟨A, c, rfl, h1, h2, h3⟩ hs hk
    refine ⟨A, c, rfl, h1, h2, fun i x hi => ?_⟩
    obtain ⟨ad, rfl, hN, hlt, hc⟩ := h3 i x hi
    have hb : w'.heap[ad.block]? = w.heap[ad.block]? := (hk _ hlt hN).2
    exact ⟨ad, rfl, (hk _ hlt hN).1, Nat.lt_of_lt_of_le hlt hs, (World.cell?_of_block (by rw [add_block]; exact hb)).trans hc⟩
theorem RG.rd_rd {k : IntKind} {v : Value} {l : List Int} (h : (RG.rd k l).g v w N) : Rd w k v l := by
  obtain ⟨A, c, rfl, h1, h2, h3⟩ := h
  refine ⟨A, c, rfl, h1, h2, fun i x hi => ?_⟩
  obtain ⟨ad, rfl, _, hlt, hc⟩ := h3 i x hi
  exact ⟨ad, rfl, hlt, hc⟩
theorem wp_build_u8 {o : Oper} {x : Operand} {p : Int} (ho : o.op = .buildSlice 115 1 #[(0, x)]) (hx : a.eval x = .int .u8 p) :
    o.wp Tryz.prog a w (fun a' w' => ∃ u, a' = a.put o.dst u ∧ Below w.heap.size w w' ∧ ∀ N' : Nat → Prop, (∀ k, k < w.heap.size → N k → N' k) → (∀ k, w.heap.size ≤ k → N' k) → (RG.rd .u8 [p]).g u w' N') Q := by
  have hr : (Instr.buildSlice 115 1 #[(0, .int .u8 p)]).run Tryz.prog w = .ok (.slice (some ⟨w.heap.size, 0, none⟩) 1 1) (w.alloc (.cells [.int .u8 p].toArray 5)) := by kernel_rfl
  refine wp_of_run (v := .slice (some ⟨w.heap.size, 0, none⟩) 1 1) (w' := w.alloc (.cells [.int .u8 p].toArray 5)) (by simp [execOp, ho, hx, hr, Result.andThen]) ?_
  refine ⟨_, rfl, (Below.refl _ w).alloc (Nat.le_refl _) _, fun N' _ hN => ⟨_, _, rfl, Nat.le_refl _, by simp, fun i x hi => ⟨_, rfl, hN _ (Nat.le_refl _), (Blk.new w [.int .u8 p] 5).lt, ?_⟩⟩⟩
  match i, hi with
  | 0, hi =>
    simp only [List.getElem?_cons_zero, Option.some.injEq] at hi
    subst hi
    exact (Blk.new w [.int .u8 p] 5).cell 0
  | i + 1, hi => simp at hi
theorem wp_of {o : Oper} {x : Operand} {ts : Array TypeId} {l : List Int} (ho : o.op = .call { callee := .value (.func 71), args := #[x], argTypes := ts }) (hx : (RG.rd .u8 l).g (a.eval x) w N) (hl : ∀ x ∈ l, 0 ≤ x ∧ x < 256) :
    o.wp Tryz.prog a w (fun a' w' => ∃ u, a' = a.put o.dst u ∧ Below w.heap.size w w' ∧ ∀ N' : Nat → Prop, (∀ k, k < w.heap.size → N k → N' k) → (∀ k, w.heap.size ≤ k → N' k) → (RG.eq (setV (ofM l))).g u w' N') Q :=
  wp_call_eq (xs := #[a.eval x]) ho (fun xs w => by kernel_rfl) (by simp only [List.map_toArray, List.map_cons, List.map_nil]) (of_any l _ w (RG.rd_rd hx) hl)
theorem run_build4 (m0 m1 m2 m3 : Nat → Bool) (w : World) : (Instr.buildSlice 132 4 #[(0, setV m0), (1, setV m1), (2, setV m2), (3, setV m3)]).run Tryz.prog w = .ok (.slice (some ⟨w.heap.size, 0, none⟩) 4 4) (w.alloc (.cells (setsC [m0, m1, m2, m3]).toArray 24)) := by kernel_rfl
theorem wp_build4 {o : Oper} {x0 x1 x2 x3 : Operand} {m0 m1 m2 m3 : Nat → Bool} (ho : o.op = .buildSlice 132 4 #[(0, x0), (1, x1), (2, x2), (3, x3)]) (h0 : a.eval x0 = setV m0) (h1 : a.eval x1 = setV m1) (h2 : a.eval x2 = setV m2) (h3 : a.eval x3 = setV m3) :
    o.wp Tryz.prog a w (fun a' w' => ∃ u, a' = a.put o.dst u ∧ Below w.heap.size w w' ∧ ∀ N' : Nat → Prop, (∀ k, k < w.heap.size → N k → N' k) → (∀ k, w.heap.size ≤ k → N' k) → (RG.sets [m0, m1, m2, m3]).g u w' N') Q := by
  have hr := run_build4 m0 m1 m2 m3 w
  refine wp_of_run (v := .slice (some ⟨w.heap.size, 0, none⟩) 4 4) (w' := w.alloc (.cells (setsC [m0, m1, m2, m3]).toArray 24)) (by simp only [execOp, ho, List.map_toArray, List.map_cons, List.map_nil, h0, h1, h2, h3]; simp [hr]) ⟨_, rfl, (Below.refl _ _).alloc (Nat.le_refl _) _, fun N' _ hN => ?_⟩
  exact RG.sets_own (World.ownsRow_lit (base := w.heap.size) (e := 24) (size := 4) w (setsC [m0, m1, m2, m3]).toArray 4 (Nat.le_refl _) (by unfold maxLen; omega) rfl) (by omega) hN
end
end Go.Proofs.YtpiimcbbgalhfaaGreatDoor
/- The frame behind a region: the one ahead of it, with the region's own slots put in. No program in sight. -/
namespace Go.Proofs.YtpiimcbbgalhfaaGreatDoor
set_option maxRecDepth 100000
open Go.RowKit
theorem fold_put (f : Nat → Value) (ds : List Nat) : ∀ t : Array Value, ((ds.map fun d => (d, f d)).foldl (fun t p => t.setIfInBounds p.1 p.2) t).size = t.size ∧
    ∀ s, s < t.size → ((ds.map fun d => (d, f d)).foldl (fun t p => t.setIfInBounds p.1 p.2) t)[s]? = if s ∈ ds then some (f s) else t[s]? := by
  induction ds with
  | nil => intro t; simp
  | cons d ds ih =>
    intro t
    obtain ⟨h1, h2⟩ := ih (t.setIfInBounds d (f d))
    refine ⟨by simpa using h1, fun s hs => ?_⟩
    have := h2 s (by simpa using hs)
    simp only [List.map_cons, List.foldl_cons]
    rw [this]
    by_cases hm : s ∈ ds
    · rw [if_pos hm, if_pos (List.mem_cons_of_mem _ hm)]
    · rw [if_neg hm]
      by_cases e : d = s
      · subst e
        rw [if_pos List.mem_cons_self]
        simp [hs]
      · rw [if_neg (by simp only [List.mem_cons, not_or]; exact ⟨fun h => e h.symm, hm⟩)]
        simp [e]
def putAll (a0 : Act) (vs : List (Nat × Value)) : Act := ⟨vs.foldl (fun t p => t.setIfInBounds p.1 p.2) a0.tmps, a0.defers⟩
def dstsIn (ops : Array Oper) (ds : List Nat) : Bool := (List.range ops.size).all fun i => match dstOf ops i with | some d => ds.contains d | none => true
theorem held_frame {ops : Array Oper} {a0 a : Act} {w0 w : World} {N : Nat → Prop} (H : Held ops a0 w0 a w N) (ds : List Nat) (hds : dstsIn ops ds = true) : a = putAll a0 (ds.map fun d => (d, a.tmps.getD d undef)) := by
  obtain ⟨h1, h2⟩ := fold_put (fun d => a.tmps.getD d undef) ds a0.tmps
  have hsz := H.size
  have ht : a.tmps = (ds.map fun d => (d, a.tmps.getD d undef)).foldl (fun t p => t.setIfInBounds p.1 p.2) a0.tmps := by
    apply Array.ext_getElem?
    intro s
    by_cases hs : s < a0.tmps.size
    · rw [h2 s hs]
      have hs' : s < a.tmps.size := by omega
      split
      · simp [hs']
      · rename_i hm
        have hb := H.base s fun i hi => by
          have hlt : i < ops.size := by
            unfold dstOf at hi
            cases h : ops[i]? with
            | none => rw [h] at hi; cases hi
            | some o => exact (Array.getElem?_eq_some_iff.1 h).1
          have := List.all_eq_true.1 hds i (List.mem_range.2 hlt)
          rw [hi] at this
          simp only [List.contains_iff_mem] at this
          exact hm this
        simp only [Array.getD_eq_getD_getElem?, Array.getElem?_eq_getElem hs, Array.getElem?_eq_getElem hs', Option.getD_some] at hb ⊢
        rw [hb]
    · rw [Array.getElem?_eq_none (by omega), Array.getElem?_eq_none (by omega)]
  have hd := H.defers
  obtain ⟨t, d⟩ := a
  simp only at ht hd
  simp only [putAll, Act.mk.injEq]
  exact ⟨ht, hd⟩
end Go.Proofs.YtpiimcbbgalhfaaGreatDoor
/- A region that draws its order, whose last operation stands behind all others. No program in sight. -/
namespace Go.Proofs.YtpiimcbbgalhfaaGreatDoor
set_option maxRecDepth 100000
open Go.RowKit
def okUpto (n : Nat) (ops : Array Oper) (S : List RK) (K : Nat) : Bool :=
  (List.range K).all fun i =>
    ((ops[i]?).map fun o => o.after.all fun e => !Region.binds .any e || decide (e.on < i)).getD false &&
    (match dstOf ops i with
     | some d => decide (d < n) && ((specOf S i).kind == 0 || (specOf S i).kind == 1) && (List.range i).all fun j => dstOf ops j != some d
     | none => (specOf S i).kind == 2 && (specOf S (specOf S i).at_).kind == 1 && (specOf S i).cs.length == (specOf S (specOf S i).at_).len && ((ops[i]?).map fun o => o.after.any fun e => Region.binds .any e && e.on == (specOf S i).at_).getD false && (List.range i).all fun j => (specOf S j).kind != 2 || (specOf S j).at_ != (specOf S i).at_)
def depsIn (ops : Array Oper) (i : Nat) : List Nat := ((ops[i]?).map fun o => (o.after.toList.filter fun e => Region.binds .any e).map (·.on)).getD []
theorem ok_back {n : Nat} {ops : Array Oper} {S : List RK} {K : Nat} (hok : okUpto n ops S K = true) : ∀ i, i < K → ∀ o, ops[i]? = some o → ∀ e ∈ o.after, Region.binds .any e = true → e.on < i := by
  have hk : ∀ i, i < K → _ := fun i hi => List.all_eq_true.1 hok i (List.mem_range.2 hi)
  intro i hiK o ho e he hb
  have h := hk i hiK
  rw [Bool.and_eq_true] at h
  have h1 := h.1
  rw [ho] at h1
  simp only [Option.map_some, Option.getD_some, Array.all_eq_true_iff_forall_mem, Bool.or_eq_true, decide_eq_true_eq] at h1
  rcases h1 e he with h2 | h2
  · rw [hb] at h2; cases h2
  · exact h2
/-- One operation of the first K is done. -/
theorem rj_step {P : Program} {ops : Array Oper} {Q : Exit → Act → World → Prop} {a0 : Act} {w : World} (S : List RK) (n K : Nat) (hn : a0.tmps.size = n) (hKle : K ≤ ops.size) (hok : okUpto n ops S K = true) (hop : ∀ i, i < K → Obl P ops S Q a0 w.drew i)
    (listed : Array Bool) (a : Act) (w1 : World) (i : Nat) (hsz : listed.size = ops.size) (hlt : ∀ j, listed.getD j false = true → j < K) (hilt : i < K) (hi : i ∈ Region.ready .any ops listed) (hJ : RJ ops S a0 w.drew listed a w1) :
    wpOp P ops Q i (RJ ops S a0 w.drew (listed.setIfInBounds i true)) a w1 := by
  have hk : ∀ i, i < K → _ := fun i hi => List.all_eq_true.1 hok i (List.mem_range.2 hi)
  have hdst : ∀ i j, i < K → j < K → i ≠ j → (dstOf ops i).isSome = true → dstOf ops i ≠ dstOf ops j := by
    have key : ∀ i j, i < K → j < i → (dstOf ops i).isSome = true → dstOf ops j ≠ dstOf ops i := by
      intro i j hi hj hs
      obtain ⟨d, hd⟩ := Option.isSome_iff_exists.1 hs
      have h := (Bool.and_eq_true _ _ ▸ hk i hi).2
      simp only [hd, Bool.and_eq_true] at h
      have h2 := List.all_eq_true.1 h.2 j (List.mem_range.2 hj)
      rw [hd]
      simpa using h2
    intro i j hi hj hne hs
    rcases Nat.lt_or_gt_of_ne hne with h | h
    · intro e
      have hs' : (dstOf ops j).isSome = true := by rw [← e]; exact hs
      exact key j i hj h hs' e
    · exact fun e => key i j hi h hs e.symm
  have hkind : ∀ i, i < K → ((specOf S i).kind = 0 ∨ (specOf S i).kind = 1) → ∃ d, dstOf ops i = some d ∧ d < n := by
    intro i hi h01
    have h := (Bool.and_eq_true _ _ ▸ hk i hi).2
    cases hd : dstOf ops i with
    | none =>
      simp only [hd, Bool.and_eq_true, beq_iff_eq] at h
      have := h.1.1.1.1
      omega
    | some d =>
      simp only [hd, Bool.and_eq_true, decide_eq_true_eq] at h
      exact ⟨d, rfl, h.1.1⟩
  have hput : ∀ i, i < K → (specOf S i).kind ≠ 0 → (specOf S i).kind ≠ 1 → dstOf ops i = none ∧ (specOf S i).kind = 2 ∧ (specOf S (specOf S i).at_).kind = 1 ∧ (specOf S i).cs.length = (specOf S (specOf S i).at_).len ∧
      (∃ o, ops[i]? = some o ∧ ∃ e ∈ o.after, Region.binds .any e = true ∧ e.on = (specOf S i).at_) ∧ ∀ j, j < i → (specOf S j).kind = 2 → (specOf S j).at_ ≠ (specOf S i).at_ := by
    intro i hi h0 h1
    have h := (Bool.and_eq_true _ _ ▸ hk i hi).2
    cases hd : dstOf ops i with
    | some d =>
      simp only [hd, Bool.and_eq_true, Bool.or_eq_true, beq_iff_eq] at h
      rcases h.1.2 with h | h <;> contradiction
    | none =>
      simp only [hd, Bool.and_eq_true, beq_iff_eq] at h
      obtain ⟨⟨⟨⟨k1, k2⟩, k3⟩, k4⟩, k5⟩ := h
      refine ⟨rfl, k1, k2, k3, ?_, fun j hj hj2 => ?_⟩
      · rw [Array.getElem?_eq_getElem (Nat.lt_of_lt_of_le hi hKle)] at k4 ⊢
        simp only [Option.map_some, Option.getD_some] at k4
        obtain ⟨e, he, hb⟩ := Array.any_eq_true'.1 k4
        simp only [Bool.and_eq_true, beq_iff_eq] at hb
        exact ⟨_, rfl, e, he, hb.1, hb.2⟩
      · have := List.all_eq_true.1 k5 j (List.mem_range.2 hj)
        simp only [Bool.or_eq_true, bne_iff_ne, ne_eq] at this
        rcases this with h | h
        · exact absurd hj2 h
        · exact h
  obtain ⟨N, H, hF, hD, hC⟩ := hJ
  obtain ⟨hun, o, ho, hall⟩ := mem_ready.1 hi
  have hlt_of : i < ops.size := (Array.getElem?_eq_some_iff.1 ho).1
  refine wpOp_mono ?_ (hop i hilt a w1 N H (fun o' ho' e he hb => by
    have : o' = o := Option.some.inj (ho'.symm.trans ho)
    subst this
    exact hF _ (hall e he hb)))
  rintro a' w2 ⟨v, rfl, hdo⟩
  have hclosed : ∀ j o', ops[j]? = some o' → (listed.setIfInBounds i true).getD j false = true → ∀ e ∈ o'.after, Region.binds .any e = true → (listed.setIfInBounds i true).getD e.on false = true := by
    intro j o' ho' hl e he hb
    rcases listed_set hl with rfl | ⟨_, hl⟩
    · have : o' = o := Option.some.inj (ho'.symm.trans ho)
      subst this
      exact getD_set_true (hall e he hb)
    · exact getD_set_true (hC j o' ho' hl e he hb)
  have hval : ∀ j, j ≠ i → listed.getD j false = true → ((specOf S j).kind = 0 ∨ (specOf S j).kind = 1) → valOf ops j (a.put (dstOf ops i) v) = valOf ops j a := by
    intro j hne hl h01
    have hjl := hlt j hl
    obtain ⟨d, hd, _⟩ := hkind j hjl h01
    exact val_put (by rw [hd]; rfl) (hdst j i hjl hilt hne (by rw [hd]; rfl))
  have hframe : ∀ (N' : Nat → Prop), Below w.drew.heap.size w.drew w2 → (∀ k, k < w.drew.heap.size → N' k) → (∀ k, w2.heap.size ≤ k → N' k) → Held ops a0 w.drew (a.put (dstOf ops i) v) w2 N' := by
    intro N' hb ho hn'
    refine ⟨?_, ?_, fun s hs => ?_, hb, ho, hn'⟩
    · rw [← H.defers]; unfold Act.put; split <;> rfl
    · rw [← H.size]; unfold Act.put; split <;> simp
    · rw [← H.base s hs]
      unfold Act.put
      split
      · rename_i d hd
        have : d ≠ s := fun e => hs i (by rw [hd, e])
        simp [this]
      · rfl
  by_cases k0 : (specOf S i).kind = 0
  · obtain ⟨d, hd, hdn⟩ := hkind i hilt (.inl k0)
    simp only [Does, k0] at hdo
    obtain ⟨hb, hg⟩ := hdo
    have hb0 : Below w.drew.heap.size w.drew w2 := H.below.trans (hb.mono H.below.size)
    refine ⟨N, hframe N hb0 H.old (fun k hk' => H.new k (Nat.le_trans hb.size hk')), fun j hl => ?_, fun x y hxy hlx hly hx1 hy1 => ?_, hclosed⟩
    · rcases listed_set hl with rfl | ⟨hne, hl⟩
      · simp only [Fact, k0]
        rw [val_put_self hd (by rw [H.size, hn]; exact hdn)]
        exact hg N (fun _ _ h => h) H.new
      · have hf := hF j hl
        by_cases j0 : (specOf S j).kind = 0
        · simp only [Fact, j0] at hf ⊢
          rw [hval j hne hl (.inl j0)]
          exact (specOf S j).rg.mono _ _ _ _ _ hf hb.size (fun k hk' hN => ⟨hN, hb.block k hk'⟩)
        by_cases j1 : (specOf S j).kind = 1
        · simp only [Fact, j1] at hf ⊢
          obtain ⟨b, cs, h1, h2, h3, h4⟩ := hf
          exact ⟨b, cs, by rw [hval j hne hl (.inr j1)]; exact h1, h2, h3.below hb h3.lt, h4⟩
        · obtain ⟨_, j2, p1, _, ⟨oj, hoj, e, he, hbd, hon⟩, _⟩ := hput j (hlt j hl) j0 j1
          simp only [Fact, j2] at hf ⊢
          obtain ⟨b, h1, h2, h3⟩ := hf
          have hlp : listed.getD (specOf S j).at_ false = true := hon ▸ hC j oj hoj hl e he hbd
          have hne' : (specOf S j).at_ ≠ i := fun e => by rw [e] at p1; omega
          exact ⟨b, by rw [hval _ hne' hlp (.inr p1)]; exact h1, h2, h3.below hb h3.lt⟩
    · rcases listed_set hlx with rfl | ⟨hnx, hlx⟩
      · omega
      rcases listed_set hly with rfl | ⟨hny, hly⟩
      · omega
      rw [hval x hnx hlx (.inr hx1), hval y hny hly (.inr hy1)]
      exact hD x y hxy hlx hly hx1 hy1
  by_cases k1 : (specOf S i).kind = 1
  · obtain ⟨d, hd, hdn⟩ := hkind i hilt (.inr k1)
    simp only [Does, k1] at hdo
    obtain ⟨cs, rfl, rfl, hcs⟩ := hdo
    have hb : Below w1.heap.size w1 (w1.alloc (.cells cs.toArray (specOf S i).ty)) := (Below.refl _ _).alloc (Nat.le_refl _) _
    have hb0 : Below w.drew.heap.size w.drew (w1.alloc (.cells cs.toArray (specOf S i).ty)) := H.below.trans (hb.mono H.below.size)
    have hsz2 : (w1.alloc (.cells cs.toArray (specOf S i).ty)).heap.size = w1.heap.size + 1 := by simp
    have hself := val_put_self (ops := ops) (a := a) (v := .pointer (some ⟨w1.heap.size, 0, none⟩)) hd (by rw [H.size, hn]; exact hdn)
    refine ⟨fun k => N k ∧ k ≠ w1.heap.size, hframe _ hb0 (fun k hk' => ⟨H.old k hk', by have := H.below.size; omega⟩) (fun k hk' => ⟨H.new k (by omega), by omega⟩), fun j hl => ?_, fun x y hxy hlx hly hx1 hy1 => ?_, hclosed⟩
    · rcases listed_set hl with rfl | ⟨hne, hl⟩
      · simp only [Fact, k1]
        exact ⟨w1.heap.size, cs, hself, by simp, Blk.new _ _ _, hcs⟩
      · have hf := hF j hl
        by_cases j0 : (specOf S j).kind = 0
        · simp only [Fact, j0] at hf ⊢
          rw [hval j hne hl (.inl j0)]
          exact (specOf S j).rg.mono _ _ _ _ _ hf hb.size (fun k hk' hN => ⟨⟨hN, by omega⟩, hb.block k hk'⟩)
        by_cases j1 : (specOf S j).kind = 1
        · simp only [Fact, j1] at hf ⊢
          obtain ⟨b, cs', h1, h2, h3, h4⟩ := hf
          exact ⟨b, cs', by rw [hval j hne hl (.inr j1)]; exact h1, fun h => h2 h.1, h3.below hb h3.lt, h4⟩
        · obtain ⟨_, j2, p1, _, ⟨oj, hoj, e, he, hbd, hon⟩, _⟩ := hput j (hlt j hl) j0 j1
          simp only [Fact, j2] at hf ⊢
          obtain ⟨b, h1, h2, h3⟩ := hf
          have hlp : listed.getD (specOf S j).at_ false = true := hon ▸ hC j oj hoj hl e he hbd
          have hne' : (specOf S j).at_ ≠ i := fun e => by
            rw [e] at hlp
            have : listed.getD i true = true := by
              have hi' : i < listed.size := by omega
              simp only [Array.getD_eq_getD_getElem?, Array.getElem?_eq_getElem hi', Option.getD_some] at hlp ⊢
              exact hlp
            rw [hun] at this
            cases this
          exact ⟨b, by rw [hval _ hne' hlp (.inr p1)]; exact h1, fun h => h2 h.1, h3.below hb h3.lt⟩
    · have hptr : ∀ z, z ≠ i → listed.getD z false = true → (specOf S z).kind = 1 → valOf ops z a ≠ .pointer (some ⟨w1.heap.size, 0, none⟩) := by
        intro z _ hlz hz1 he
        have hf := hF z hlz
        simp only [Fact, hz1] at hf
        obtain ⟨b, cs', h1, _, h3, _⟩ := hf
        rw [he] at h1
        have hbz := h3.lt
        simp only [Value.pointer.injEq, Option.some.injEq, Addr.mk.injEq] at h1
        omega
      rcases listed_set hlx with rfl | ⟨hnx, hlx'⟩
      · rcases listed_set hly with rfl | ⟨hny, hly'⟩
        · exact absurd rfl hxy
        · rw [hself, hval y hny hly' (.inr hy1)]
          exact (hptr y hny hly' hy1).symm
      rcases listed_set hly with rfl | ⟨hny, hly'⟩
      · rw [hself, hval x hnx hlx' (.inr hx1)]
        exact hptr x hnx hlx' hx1
      rw [hval x hnx hlx' (.inr hx1), hval y hny hly' (.inr hy1)]
      exact hD x y hxy hlx' hly' hx1 hy1
  · obtain ⟨hd, k2, p1, hlen, ⟨oi, hoi, ei, hei, hbi, honi⟩, hat⟩ := hput i hilt k0 k1
    have hoi' : oi = o := Option.some.inj (hoi.symm.trans ho)
    subst hoi'
    have hlp : listed.getD (specOf S i).at_ false = true := honi ▸ hall ei hei hbi
    simp only [Does, k2] at hdo
    obtain ⟨b, hvb, hg, hsize, hblk⟩ := hdo
    have hfp := hF _ hlp
    simp only [Fact, p1] at hfp
    obtain ⟨b', csp, hvb', hNb, hblkp, _⟩ := hfp
    have hbb : b' = b := by
      rw [hvb] at hvb'
      simp only [Value.pointer.injEq, Option.some.injEq, Addr.mk.injEq] at hvb'
      exact hvb'.1.symm
    subst hbb
    have hput0 : a.put (dstOf ops i) v = a := by rw [hd]; rfl
    rw [hput0] at hframe hval ⊢
    have hb0 : Below w.drew.heap.size w.drew w2 := by
      refine H.below.trans ⟨hg.os, hg.tape, hg.output, hg.size, fun k hk' => hg.block k (Nat.lt_of_lt_of_le hk' H.below.size) (fun e => hNb ?_)⟩
      have : k = b' := by injection e
      exact this ▸ H.old k hk'
    have hdiff : ∀ z, z ≠ (specOf S i).at_ → listed.getD z false = true → (specOf S z).kind = 1 → ∀ bz, valOf ops z a = .pointer (some ⟨bz, 0, none⟩) → bz ≠ b' := by
      intro z hz hlz hz1 bz hbz e
      subst e
      exact hD z _ hz hlz hlp hz1 p1 (hbz.trans hvb.symm)
    have hkeep : ∀ bz, bz < w1.heap.size → bz ≠ b' → w2.heap[bz]? = w1.heap[bz]? := fun bz h1 h2 => hg.block bz h1 (fun e => h2 (by injection e))
    refine ⟨N, hframe N hb0 H.old (fun k hk' => H.new k (by omega)), fun j hl => ?_, fun x y hxy hlx hly hx1 hy1 => ?_, hclosed⟩
    · rcases listed_set hl with rfl | ⟨hne, hl⟩
      · simp only [Fact, k2]
        exact ⟨b', hvb, hNb, hblk⟩
      · have hf := hF j hl
        by_cases j0 : (specOf S j).kind = 0
        · simp only [Fact, j0] at hf ⊢
          exact (specOf S j).rg.mono _ _ _ _ _ hf hg.size (fun k hk' hN => ⟨hN, hkeep k hk' (fun e => hNb (e ▸ hN))⟩)
        by_cases j1 : (specOf S j).kind = 1
        · simp only [Fact, j1] at hf ⊢
          obtain ⟨bj, cs', h1, h2, h3, h4⟩ := hf
          by_cases hjp : j = (specOf S i).at_
          · subst hjp
            rw [hvb] at h1
            simp only [Value.pointer.injEq, Option.some.injEq, Addr.mk.injEq] at h1
            exact ⟨b', _, hvb, hNb, hblk, hlen⟩
          · exact ⟨bj, cs', h1, h2, (hkeep bj h3.lt (hdiff j hjp hl j1 bj h1)).trans h3, h4⟩
        · obtain ⟨_, j2, pj1, _, ⟨oj, hoj, e, he, hbd, hon⟩, hatj⟩ := hput j (hlt j hl) j0 j1
          simp only [Fact, j2] at hf ⊢
          obtain ⟨bj, h1, h2, h3⟩ := hf
          have hlpj : listed.getD (specOf S j).at_ false = true := hon ▸ hC j oj hoj hl e he hbd
          have hnp : (specOf S j).at_ ≠ (specOf S i).at_ := by
            rcases Nat.lt_or_gt_of_ne hne with h | h
            · exact hat j h j2
            · exact fun e => hatj i h k2 e.symm
          exact ⟨bj, h1, h2, (hkeep bj h3.lt (hdiff _ hnp hlpj pj1 bj h1)).trans h3⟩
    · rcases listed_set hlx with rfl | ⟨hnx, hlx⟩
      · omega
      rcases listed_set hly with rfl | ⟨hny, hly⟩
      · omega
      exact hD x y hxy hlx hly hx1 hy1
theorem listed_lt {listed : Array Bool} {i n : Nat} (hs : listed.size = n) (h : listed.getD i false = true) : i < n := by
  rcases Nat.lt_or_ge i listed.size with h' | h'
  · omega
  · simp [Array.getElem?_eq_none h'] at h
/-- All that the last operation asks for, and what that asks for. -/
def marks (ops : Array Oper) (K : Nat) : List Nat := ((List.range (K + 1)).reverse).foldl (fun m i => if m.contains i then m ++ depsIn ops i else m) [K]
def okLast (ops : Array Oper) (K : Nat) : Bool := ops.size == K + 1 && ((List.range K).all fun i => (marks ops K).contains i) && (depsIn ops K).all fun d => decide (d < K)
theorem marks_all {ops : Array Oper} {K : Nat} {L : Nat → Prop} (hK : L K) (h : ∀ i, L i → ∀ d ∈ depsIn ops i, L d) : ∀ x ∈ marks ops K, L x := by
  unfold marks
  have key : ∀ (l : List Nat) (m : List Nat), (∀ x ∈ m, L x) → ∀ x ∈ l.foldl (fun m i => if m.contains i then m ++ depsIn ops i else m) m, L x := by
    intro l
    induction l with
    | nil => exact fun m hm => hm
    | cons i l ih =>
      intro m hm
      refine ih _ fun x hx => ?_
      simp only [] at hx
      split at hx
      · rename_i hc
        rcases List.mem_append.1 hx with hx | hx
        · exact hm x hx
        · exact h i (hm i (by simpa using hc)) x hx
      · exact hm x hx
  exact key _ _ fun x hx => by
    obtain rfl := List.mem_singleton.1 hx
    exact hK
/-- A region whose last operation stands behind all others: that one may do whatever it likes. -/
theorem region_last {P : Program} {ops ops' : Array Oper} {id : Nat} {Q : Exit → Act → World → Prop} {a0 : Act} {w : World} (he : ops = ops') (S : List RK) (n K : Nat) (hn : a0.tmps.size = n) (hm : P.follows .mixedOrders = true)
    (hok : okUpto n ops' S K = true) (hlast : okLast ops' K = true) (hop : ∀ i, i < K → Obl P ops' S Q a0 w.drew i)
    (hend : ∀ a w' N, Held ops' a0 w.drew a w' N → (∀ i, decide (i < K) = true → Fact ops' S i a w' N) → wpOp P ops' Q K (fun a w => Q .normal a w) a w') : (Code.region id ops true).wp P Q a0 w := by
  subst he
  unfold okLast at hlast
  simp only [Bool.and_eq_true, beq_iff_eq] at hlast
  obtain ⟨⟨hsize, hmarks⟩, hdl⟩ := hlast
  have hback := ok_back hok
  refine wp_region_any hm ?_
  change wpAny _ _ _ _ _ _ _ (World.drew w)
  refine wpAny_law (fun listed a w1 => (listed.getD K false = false ∧ RJ ops S a0 w.drew listed a w1) ∨ ((∀ i, i < ops.size → listed.getD i false = true) ∧ Q .normal a w1)) ?_ ?_ ?_ _ _ _ _ (by simp) ?_ ?_
  · intro i o ho e he hb
    have hi := (Array.getElem?_eq_some_iff.1 ho).1
    rcases Nat.lt_or_ge i K with h | h
    · exact hback i h o ho e he hb
    · obtain rfl : i = K := by omega
      have hmem : e.on ∈ depsIn ops i := by
        unfold depsIn
        rw [ho]
        simp only [Option.map_some, Option.getD_some, List.mem_map, List.mem_filter]
        exact ⟨e, ⟨by simpa using he, hb⟩, rfl⟩
      exact of_decide_eq_true (List.all_eq_true.1 hdl _ hmem)
  · intro listed a w1 i hsz hi hJ
    obtain ⟨hun, o, ho, hall⟩ := mem_ready.1 hi
    have hilt := (Array.getElem?_eq_some_iff.1 ho).1
    rcases hJ with ⟨hKn, hJ⟩ | ⟨hJ, _⟩
    · rcases Nat.lt_or_ge i K with h | h
      · have hlt : ∀ j, listed.getD j false = true → j < K := by
          intro j hj
          have := listed_lt hsz hj
          rcases Nat.lt_or_ge j K with h | h
          · exact h
          · obtain rfl : j = K := by omega
            rw [hKn] at hj
            cases hj
        refine wpOp_mono ?_ (rj_step S n K hn (by omega) hok hop listed a w1 i hsz hlt h hi hJ)
        intro a' w' hJ'
        exact .inl ⟨by rw [getD_set_ne false (by omega)]; exact hKn, hJ'⟩
      · obtain rfl : i = K := by omega
        obtain ⟨N, H, hF, hD, hC⟩ := hJ
        have hlisted : ∀ j, j < i → listed.getD j false = true := by
          intro j hj
          have hm := marks_all (ops := ops) (K := i) (L := fun x => x = i ∨ listed.getD x false = true) (.inl rfl) (fun x hx d hd => by
            unfold depsIn at hd
            cases hox : ops[x]? with
            | none => rw [hox] at hd; simp at hd
            | some ox =>
              rw [hox] at hd
              simp only [Option.map_some, Option.getD_some, List.mem_map, List.mem_filter] at hd
              obtain ⟨e, ⟨he, hb⟩, rfl⟩ := hd
              rcases hx with rfl | hx
              · have : ox = o := Option.some.inj (hox.symm.trans ho)
                subst this
                exact .inr (hall e (by simpa using he) hb)
              · exact .inr (hC x ox hox hx e (by simpa using he) hb)) j (by simpa using List.all_eq_true.1 hmarks j (List.mem_range.2 hj))
          rcases hm with rfl | hm
          · omega
          · exact hm
        refine wpOp_mono ?_ (hend a w1 N H fun j hj => hF j (hlisted j (of_decide_eq_true hj)))
        intro a' w' hQ
        refine .inr ⟨fun j hj => ?_, hQ⟩
        by_cases e : j = i
        · subst e
          simp [hsz, hj]
        · exact getD_set_true (hlisted j (by omega))
    · have hc := hJ i hilt
      have : listed.getD i true = true := by
        have hi' : i < listed.size := by omega
        simp only [Array.getD_eq_getD_getElem?, Array.getElem?_eq_getElem hi', Option.getD_some] at hc ⊢
        exact hc
      rw [hun] at this
      cases this
  · intro listed a w1 hJ hall
    rcases hJ with ⟨hKn, _⟩ | ⟨_, hQ⟩
    · rw [hall K (by omega)] at hKn
      cases hKn
    · exact hQ
  · have h : ∀ i, i < ops.size → (Array.replicate ops.size false).getD i true = false := by
      intro i hi
      simp [hi]
    rw [List.filter_eq_self.2 (fun i hi => by rw [h i (List.mem_range.1 hi)]; rfl), List.length_range]
  · refine .inl ⟨by rw [getD_replicate_false], fun _ => True, ⟨rfl, rfl, fun _ _ => rfl, Below.refl _ _, fun _ _ => trivial, fun _ _ => trivial⟩, ?_, ?_, ?_⟩
    · intro i hi
      rw [getD_replicate_false] at hi
      cases hi
    · intro i j _ hi
      rw [getD_replicate_false] at hi
      cases hi
    · intro i o _ hi
      rw [getD_replicate_false] at hi
      cases hi
end Go.Proofs.YtpiimcbbgalhfaaGreatDoor
/- More operations for regions that draw their order: rows of Bools, the reference's functions of layer 1. -/
namespace Go.Proofs.YtpiimcbbgalhfaaGreatDoor
set_option maxRecDepth 100000
open Go.RowKit
section
variable {ops : Array Oper} {S : List RK} {Q : Exit → Act → World → Prop} {a0 : Act} {w0 : World} {a : Act} {w : World} {N : Nat → Prop}
/-- What is known of a value, handed on. -/
theorem wp_move_g {o : Oper} {x : Operand} {G : RG} (ho : o.op = .move x ∨ o.op = .assign x) (hx : G.g (a.eval x) w N) :
    o.wp Tryz.prog a w (fun a' w' => ∃ u, a' = a.put o.dst u ∧ Below w.heap.size w w' ∧ ∀ N' : Nat → Prop, (∀ k, k < w.heap.size → N k → N' k) → (∀ k, w.heap.size ≤ k → N' k) → G.g u w' N') Q := by
  refine wp_of_run (v := a.eval x) (w' := w) (by rcases ho with ho | ho <;> simp [execOp, ho]) ⟨_, rfl, Below.refl _ _, fun N' hN _ => G.mono _ _ _ _ _ hx (Nat.le_refl _) fun k hk hNk => ⟨hN k hk hNk, rfl⟩⟩
/-- The 256 Bools of a set. -/
def RG.bools (m : Nat → Bool) : RG where
  g v w N := ∃ g, v = .slice (some ⟨g, 0, none⟩) 256 256 ∧ N g ∧ Blk w g 4 (boolsL m 256)
  mono := by
    rintro v w w' N N' ⟨g, rfl, hN, hb⟩ hs hk
    exact ⟨g, rfl, (hk g hb.lt hN).1, ((hk g hb.lt hN).2).trans hb⟩
theorem wp_index8 {o : Oper} {x y : Operand} {g n c : Nat} {k : Int} (ho : o.op = .indexAddr 83 x y) (hx : a.eval x = .slice (some ⟨g, 0, none⟩) n c) (hy : a.eval y = .int .u8 k) (h0 : 0 ≤ k) (h1 : k < n) :
    o.wp Tryz.prog a w (fun a' w' => ∃ u, a' = a.put o.dst u ∧ Below w.heap.size w w' ∧ ∀ N' : Nat → Prop, (∀ k, k < w.heap.size → N k → N' k) → (∀ k, w.heap.size ≤ k → N' k) → (RG.eq (.pointer (some ⟨g, k.toNat, none⟩))).g u w' N') Q := by
  refine wp_quiet ?_
  simp only [execOp, ho, hx, hy]
  simp [go_sem, h0, h1]
theorem wp_load_bool {o : Oper} {x : Operand} {p : Addr} {b : Bool} (ho : o.op = .load 4 x) (hx : a.eval x = .pointer (some p)) (hc : w.cell? p = some (.bool b)) :
    o.wp Tryz.prog a w (fun a' w' => ∃ u, a' = a.put o.dst u ∧ Below w.heap.size w w' ∧ ∀ N' : Nat → Prop, (∀ k, k < w.heap.size → N k → N' k) → (∀ k, w.heap.size ≤ k → N' k) → (RG.eq (.bool b)).g u w' N') Q := by
  refine wp_quiet ?_
  simp only [execOp, ho, hx]
  simp [go_sem, hc]
theorem wp_union_nil {o : Oper} {ts : Array TypeId} (ho : o.op = .call { callee := .value (.func 226), args := #[.const (.slice none 0 0)], argTypes := ts }) :
    o.wp Tryz.prog a w (fun a' w' => ∃ u, a' = a.put o.dst u ∧ Below w.heap.size w w' ∧ ∀ N' : Nat → Prop, (∀ k, k < w.heap.size → N k → N' k) → (∀ k, w.heap.size ≤ k → N' k) → (RG.eq (setV (anyM []))).g u w' N') Q :=
  wp_call_eq (xs := #[.slice none 0 0]) ho (fun xs w => by kernel_rfl) (by simp only [List.map_toArray, List.map_cons, List.map_nil, Act.eval]) (union_any [] _ _ ⟨none, 0, rfl, Nat.le_refl _, Nat.zero_le _, fun i m h => by simp at h⟩)
theorem run_build0 (w : World) : (Instr.build 24 #[]).run Tryz.prog w = .ok (setV (fun _ => false)) w := by
  have h : setV (fun _ => false) = .agg #[.int .u64 0, .int .u64 0, .int .u64 0, .int .u64 0] := by
    simp only [setV, word_none]
  rw [h]
  exact (by kernel_rfl : (Instr.build 24 #[]).run Tryz.prog w = .ok (.agg #[.int .u64 0, .int .u64 0, .int .u64 0, .int .u64 0]) w)
theorem wp_build0 {o : Oper} (ho : o.op = .build 24 #[]) :
    o.wp Tryz.prog a w (fun a' w' => ∃ u, a' = a.put o.dst u ∧ Below w.heap.size w w' ∧ ∀ N' : Nat → Prop, (∀ k, k < w.heap.size → N k → N' k) → (∀ k, w.heap.size ≤ k → N' k) → (RG.eq (setV (fun _ => false))).g u w' N') Q := by
  have hr := run_build0 w
  refine wp_quiet ?_
  simp only [execOp, ho]
  simp [hr]
end
theorem one_bool (b : Bool) : ∀ u ∈ [Value.bool b], u.oneCell' = true := by
  intro u hu
  obtain rfl := List.mem_singleton.1 hu
  rfl
theorem elem_bool : Elem Tryz.prog 83 4 1 1 := by
  obtain ⟨i, hi, h0, h1, h2⟩ := info_parts (by kernel_rfl : (Tryz.prog.info? 4).map (fun i => (i.zero, i.size, i.bytes)) = some (some (.bool false), 1, 1))
  exact ⟨i, _, Tryz.underlying83, hi, h0, h1, h2, rfl, by decide⟩
/-- Bools, one behind the other. -/
def upL (f : Nat → Bool) (k : Nat) : List Value := (List.range k).map fun x => .bool (f x)
theorem upL_succ (f : Nat → Bool) (k : Nat) : upL f (k + 1) = upL f k ++ [.bool (f k)] := by
  unfold upL
  rw [List.range_succ, List.map_append]
  rfl
theorem upL_length (f : Nat → Bool) (k : Nat) : (upL f k).length = k := by simp [upL]
theorem upL_take (f : Nat → Bool) (k : Nat) (x : Nat) (h : x < k) : makeM ((List.range k).map f) x = f x := by
  simp [makeM, List.getD_eq_getElem?_getD, h]
theorem own_rdV {w : World} {base : Nat} {e : TypeId} {v : Value} {n : Nat} {cs : List Value} (h : w.ownsRow base e 1 v n cs) (hn : n ≤ 140737488355328) : RdV w v cs := by
  have hlen : cs.length = n := by have := h.1; simpa using this
  rcases h.2 with ⟨rfl, h0⟩ | ⟨g, cap, cur, rfl, hb, hg, h1, h2, h3, h4⟩
  · refine ⟨none, 0, by rw [hlen, h0], by omega, by omega, fun i x hi => ?_⟩
    rw [List.eq_nil_of_length_eq_zero (by omega : cs.length = 0)] at hi
    simp at hi
  · exact ⟨some ⟨g, 0, none⟩, cap, by rw [hlen], by omega, by omega, fun i x hi => ⟨_, rfl, (Array.getElem?_eq_some_iff.1 hg).1, h.cells (g := g) rfl i _ hi⟩⟩
theorem blk_rdV {w : World} {g : Nat} {t : TypeId} {cs : List Value} (h : Blk w g t cs) (hn : cs.length ≤ 140737488355328) : RdV w (.slice (some ⟨g, 0, none⟩) cs.length cs.length) cs :=
  ⟨some ⟨g, 0, none⟩, cs.length, rfl, Nat.le_refl _, hn, fun i u hi => ⟨_, rfl, h.lt, by
    rw [show (⟨g, 0, none⟩ : Addr).add i = ⟨g, i, none⟩ by unfold Addr.add; split <;> simp_all]
    rw [h.cell, hi]⟩⟩
theorem upL_map (f : Nat → Bool) (k : Nat) : upL f k = ((List.range k).map f).map .bool := by simp [upL]
theorem make_up (f : Nat → Bool) (x : Nat) (h : x < 256) : makeM (((List.range 256).map f).take 256) x = f x := by
  rw [List.take_of_length_le (by simp)]
  exact upL_take f 256 x h
/-- The Bools of the folded set behind k rounds. -/
def foldB (m : Nat → Bool) (k : Nat) (x : Nat) : Bool := m x || (decide (65 ≤ x ∧ x ≤ 90 ∧ x + 32 < k) && m (x + 32)) || (decide (97 ≤ x ∧ x ≤ 122 ∧ x - 32 < k) && m (x - 32))
def foldV (m : Nat → Bool) (k : Nat) : List Value := (List.range 256).map fun x => .bool (foldB m k x)
theorem foldV_zero (m : Nat → Bool) : foldV m 0 = boolsL m 256 := by
  unfold foldV boolsL
  apply List.map_congr_left
  intro x hx
  rw [List.mem_range] at hx
  simp [foldB, hx]
theorem foldV_length (m : Nat → Bool) (k : Nat) : (foldV m k).length = 256 := by simp [foldV]
theorem foldV_same (m : Nat → Bool) (k : Nat) (h : m k = false ∨ (¬(97 ≤ k ∧ k ≤ 122) ∧ ¬(65 ≤ k ∧ k ≤ 90))) : foldV m (k + 1) = foldV m k := by
  unfold foldV
  apply List.map_congr_left
  intro x _
  congr 1
  unfold foldB
  congr 1
  · congr 1
    by_cases hx : x + 32 = k
    · subst hx
      rcases h with h | h
      · rw [h]; simp
      · have : ¬(65 ≤ x ∧ x ≤ 90) := by omega
        have h1 : decide (65 ≤ x ∧ x ≤ 90 ∧ x + 32 < x + 32 + 1) = false := by simp; omega
        have h2 : decide (65 ≤ x ∧ x ≤ 90 ∧ x + 32 < x + 32) = false := by simp
        rw [h1, h2]
    · congr 1
      simp only [decide_eq_decide]
      omega
  · by_cases hx : 97 ≤ x ∧ x ≤ 122 ∧ x - 32 = k
    · obtain ⟨hx1, hx2, rfl⟩ := hx
      rcases h with h | h
      · rw [h]; simp
      · omega
    · congr 1
      simp only [decide_eq_decide]
      omega
theorem foldV_put (m : Nat → Bool) (k j : Nat) (hm : m k = true) (h : (97 ≤ k ∧ k ≤ 122 ∧ j = k - 32) ∨ (65 ≤ k ∧ k ≤ 90 ∧ j = k + 32)) : foldV m (k + 1) = (foldV m k).set j (.bool true) := by
  apply List.ext_getElem
  · simp [foldV]
  · intro x h1 h2
    simp only [foldV, List.length_map, List.length_range] at h1
    simp only [foldV, List.getElem_map, List.getElem_range, List.getElem_set]
    by_cases hx : j = x
    · subst hx
      rw [if_pos rfl]
      congr 1
      unfold foldB
      rcases h with ⟨a, b, rfl⟩ | ⟨a, b, rfl⟩
      · have : decide (65 ≤ k - 32 ∧ k - 32 ≤ 90 ∧ k - 32 + 32 < k + 1) = true := by simp; omega
        rw [this, show k - 32 + 32 = k by omega, hm]
        simp
      · have : decide (97 ≤ k + 32 ∧ k + 32 ≤ 122 ∧ k + 32 - 32 < k + 1) = true := by simp; omega
        rw [this, show k + 32 - 32 = k by omega, hm]
        simp
    · rw [if_neg hx]
      congr 1
      unfold foldB
      congr 1
      · congr 2
        simp only [decide_eq_decide]
        omega
      · congr 1
        simp only [decide_eq_decide]
        omega
end Go.Proofs.YtpiimcbbgalhfaaGreatDoor
/- Several rows of the call's own side by side: one is appended to, the others stay. No program in sight. -/
namespace Go.Proofs.YtpiimcbbgalhfaaGreatDoor
set_option maxRecDepth 100000
open Go.RowKit
/-- v's row has turned, nothing else that was there; its new block is g. -/
structure Moved (W w' : World) (v : Value) (g : Nat) : Prop where
  os : w'.os = W.os
  tape : w'.tape = W.tape
  output : w'.output = W.output
  size : W.heap.size ≤ w'.heap.size
  keep : ∀ k, k < W.heap.size → v.ownBlock ≠ some k → w'.heap[k]? = W.heap[k]?
  lies : v.ownBlock = some g ∨ W.heap.size ≤ g
def Apart (u v : Value) : Prop := ∀ g, u.ownBlock = some g → v.ownBlock ≠ some g
theorem Apart.symm {u v : Value} (h : Apart u v) : Apart v u := fun g hv hu => h g hu hv
theorem apart_nil (v : Value) : Apart (.slice none 0 0) v := fun g h => by cases h
theorem Moved.below {W W0 w' : World} {v : Value} {g B : Nat} (h : Moved W w' v g) (hb : Below B W0 W) (hB : B ≤ W.heap.size) (hv : ∀ k, v.ownBlock = some k → B ≤ k) : Below B W0 w' :=
  hb.trans ⟨h.os, h.tape, h.output, h.size, fun k hk => h.keep k (by omega) (fun e => by have := hv k e; omega)⟩
theorem Moved.own {W w' : World} {v u : Value} {g base n size : Nat} {e : TypeId} {xs : List Value} (h : Moved W w' v g) (hu : W.ownsRow base e size u n xs) (ha : Apart u v) : w'.ownsRow base e size u n xs := by
  obtain ⟨h1, h2⟩ := hu
  refine ⟨h1, ?_⟩
  rcases h2 with h2 | ⟨b, cap, cur, rfl, hb, hg, h3⟩
  · exact .inl h2
  · exact .inr ⟨b, cap, cur, rfl, hb, (h.keep b (Array.getElem?_eq_some_iff.1 hg).1 (ha b rfl)).trans hg, h3⟩
theorem Moved.apart {W w' : World} {v u : Value} {g base n size : Nat} {e : TypeId} {xs : List Value} (h : Moved W w' v g) (hu : W.ownsRow base e size u n xs) (ha : Apart u v) (len cap : Nat) : Apart u (.slice (some ⟨g, 0, none⟩) len cap) := by
  intro b hub hgb
  have hbg : g = b := by injection hgb
  subst hbg
  rcases h.lies with hl | hl
  · exact ha g hub hl
  · have := (hu.lt g hub).2
    omega
/-- 'v = append(v, x)', v one of several rows. -/
theorem append_far {P : Program} {W : World} {ops : Array Oper} {rest : List Oper} {o : Oper} {a : Act} {Q : Exit → Act → World → Prop} (hgd : o.guard = none) (s x : Operand) (t : TypeId)
    (ho : o.op = .call { callee := .builtin .append, args := #[s, x], argTypes := #[t, t] }) (base : Nat) (e : TypeId) (size bytes : Nat) (he : Elem P t e size bytes)
    (v : Value) (n : Nat) (xs : List Value) (hs : a.eval s = v) (hown : W.ownsRow base e size v n xs) (news : List Value) (hx : a.eval x = .slice (some ⟨W.heap.size, 0, none⟩) 1 1)
    (hl : news.length = size) (h1 : ∀ u ∈ news, u.oneCell' = true) (h63 : n + 1 ≤ 9223372036854775807) (hbytes : (n + 1) * bytes ≤ 140737488355328) (hbase : base ≤ W.heap.size)
    (h : ∀ g cap w', w'.ownsRow base e size (.slice (some ⟨g, 0, none⟩) (n + 1) cap) (n + 1) (xs ++ news) → Moved W w' v g → wpList P ops Q rest (a.put o.dst (.slice (some ⟨g, 0, none⟩) (n + 1) cap)) w') : wpList P ops Q (o :: rest) a (W.alloc (.cells news.toArray e)) := by
  obtain ⟨i, z, ht, hi, hz, hsize, hby, hzs, hsz⟩ := he
  refine wpList_append_lies (w := W.alloc (.cells news.toArray e)) hgd s x t ho base e i z size bytes ht hi hz hsize hby hzs hsz v n xs hs (hown.alloc _) ⟨W.heap.size, 0, none⟩ 1 1 news hx (by omega) ?_ h1 (by omega) h63 hbytes (by simp; omega) _ rfl ?_
  · intro j u hu
    rw [show (⟨W.heap.size, 0, none⟩ : Addr).add j = ⟨W.heap.size, j, none⟩ by unfold Addr.add; split <;> simp_all]
    rw [(Blk.new W news e).cell j, hu]
  · intro g cap w' hown' hg hlie _
    have hsz' : (W.alloc (.cells news.toArray e)).heap.size = W.heap.size + 1 := by simp
    refine h g cap w' hown' ⟨hg.os, hg.tape, hg.output, by have := hg.size; omega, fun k hk hne => ?_, ?_⟩
    · exact (hg.block k (by omega) (fun e => hne e.symm)).trans (Below.heap_alloc W _ k hk)
    · rcases hlie with h | h
      · exact .inl h
      · exact .inr (by omega)
/-- Four rows of one-cell elements of type e. -/
structure Rows4 (w : World) (base : Nat) (e : TypeId) (v1 v2 v3 v4 : Value) (l1 l2 l3 l4 : List Value) : Prop where
  o1 : w.ownsRow base e 1 v1 l1.length l1
  o2 : w.ownsRow base e 1 v2 l2.length l2
  o3 : w.ownsRow base e 1 v3 l3.length l3
  o4 : w.ownsRow base e 1 v4 l4.length l4
  a12 : Apart v1 v2
  a13 : Apart v1 v3
  a14 : Apart v1 v4
  a23 : Apart v2 v3
  a24 : Apart v2 v4
  a34 : Apart v3 v4
theorem Rows4.nil (w : World) (base : Nat) (e : TypeId) : Rows4 w base e (.slice none 0 0) (.slice none 0 0) (.slice none 0 0) (.slice none 0 0) [] [] [] [] :=
  ⟨World.ownsRow_nil _ _ _ _, World.ownsRow_nil _ _ _ _, World.ownsRow_nil _ _ _ _, World.ownsRow_nil _ _ _ _, apart_nil _, apart_nil _, apart_nil _, apart_nil _, apart_nil _, apart_nil _⟩
theorem Rows4.below {w w' : World} {base : Nat} {e : TypeId} {v1 v2 v3 v4 : Value} {l1 l2 l3 l4 : List Value} (h : Rows4 w base e v1 v2 v3 v4 l1 l2 l3 l4) (hb : Below w.heap.size w w') : Rows4 w' base e v1 v2 v3 v4 l1 l2 l3 l4 :=
  ⟨own_below h.o1 hb, own_below h.o2 hb, own_below h.o3 hb, own_below h.o4 hb, h.a12, h.a13, h.a14, h.a23, h.a24, h.a34⟩
/-- The first row has grown; and the next one stands first. -/
theorem Rows4.step {w w' : World} {base : Nat} {e : TypeId} {v1 v2 v3 v4 : Value} {l1 l2 l3 l4 : List Value} (h : Rows4 w base e v1 v2 v3 v4 l1 l2 l3 l4) {g cap : Nat} {x : Value}
    (hn : w'.ownsRow base e 1 (.slice (some ⟨g, 0, none⟩) (l1.length + 1) cap) (l1.length + 1) (l1 ++ [x])) (hm : Moved w w' v1 g) :
    Rows4 w' base e v2 v3 v4 (.slice (some ⟨g, 0, none⟩) (l1.length + 1) cap) l2 l3 l4 (l1 ++ [x]) :=
  ⟨hm.own h.o2 h.a12.symm, hm.own h.o3 h.a13.symm, hm.own h.o4 h.a14.symm, by simpa using hn, h.a23, h.a24, hm.apart h.o2 h.a12.symm _ _, h.a34, hm.apart h.o3 h.a13.symm _ _, hm.apart h.o4 h.a14.symm _ _⟩
theorem Rows4.far {w : World} {base : Nat} {e : TypeId} {v1 v2 v3 v4 : Value} {l1 l2 l3 l4 : List Value} (h : Rows4 w base e v1 v2 v3 v4 l1 l2 l3 l4) {p : Addr} (hp : p.block < base) (u : Value) : Rows4 (w.setCell p u) base e v1 v2 v3 v4 l1 l2 l3 l4 :=
  ⟨ownsRow_setCell_below h.o1 hp u, ownsRow_setCell_below h.o2 hp u, ownsRow_setCell_below h.o3 hp u, ownsRow_setCell_below h.o4 hp u, h.a12, h.a13, h.a14, h.a23, h.a24, h.a34⟩
/-- A row that grows lies beyond what stood there: that is as it was, but for block f. -/
theorem Moved.only {a W w' : World} {v : Value} {g f base n size : Nat} {e : TypeId} {xs : List Value} (h : Moved W w' v g) (ha : a.grownBy W (some f)) (hv : W.ownsRow base e size v n xs) (hb : a.heap.size ≤ base) : a.grownBy w' (some f) :=
  ⟨h.os.trans ha.os, h.tape.trans ha.tape, h.output.trans ha.output, Nat.le_trans ha.size h.size, fun k hk hne => (h.keep k (Nat.lt_of_lt_of_le hk ha.size) (fun e => by have := (hv.lt k e).1; omega)).trans (ha.block k hk hne)⟩
theorem Moved.blk {W w' : World} {v : Value} {g b base n size : Nat} {e t : TypeId} {xs cs : List Value} (h : Moved W w' v g) (hblk : Blk W b t cs) (hv : W.ownsRow base e size v n xs) (hb : b < base) : Blk w' b t cs :=
  (h.keep b hblk.lt (fun e => by have := (hv.lt b e).1; omega)).trans hblk
/-- What stays while rows from 'base' on grow: blocks that are known whole, and all that was there ahead of the call. -/
structure Stay (w : World) (base : Nat) (bs : List (Nat × TypeId × List Value)) (wr : World) : Prop where
  blk : ∀ p ∈ bs, Blk wr p.1 p.2.1 p.2.2
  low : ∀ p ∈ bs, p.1 < base
  below : Below w.heap.size w wr
  size : base ≤ wr.heap.size
  old : w.heap.size ≤ base
theorem Stay.moved {w wr w' : World} {base : Nat} {bs : List (Nat × TypeId × List Value)} (h : Stay w base bs wr) {v : Value} {g n size : Nat} {e : TypeId} {xs : List Value} (hm : Moved wr w' v g) (hv : wr.ownsRow base e size v n xs) : Stay w base bs w' :=
  ⟨fun p hp => hm.blk (h.blk p hp) hv (h.low p hp), h.low, hm.below h.below (Nat.le_trans h.old h.size) (fun k hk => Nat.le_trans h.old (hv.lt k hk).1), Nat.le_trans h.size hm.size, h.old⟩
theorem Stay.below' {w wr w' : World} {base : Nat} {bs : List (Nat × TypeId × List Value)} (h : Stay w base bs wr) (hb : Below wr.heap.size wr w') : Stay w base bs w' :=
  ⟨fun p hp => (h.blk p hp).below hb (h.blk p hp).lt, h.low, h.below.trans (hb.mono h.below.size), Nat.le_trans h.size hb.size, h.old⟩
/-- A store into the last of the blocks. -/
theorem Stay.set {w wr : World} {base g : Nat} {t : TypeId} {cs : List Value} {bs : List (Nat × TypeId × List Value)} (h : Stay w base ((g, t, cs) :: bs) wr) (hne : ∀ p ∈ bs, p.1 ≠ g) (hg : w.heap.size ≤ g) (j : Nat) (u : Value) : Stay w base ((g, t, cs.set j u) :: bs) (wr.setCell ⟨g, j, none⟩ u) := by
  refine ⟨fun p hp => ?_, fun p hp => ?_, h.below.setCell (p := ⟨g, j, none⟩) hg u, by simpa [World.setCell] using h.size, h.old⟩
  · rcases List.mem_cons.1 hp with rfl | hp
    · exact (h.blk (g, t, cs) (by simp)).set j u
    · exact (h.blk p (by simp [hp])).far (p := ⟨g, j, none⟩) (hne p hp) u
  · rcases List.mem_cons.1 hp with rfl | hp
    · exact h.low (g, t, cs) (by simp)
    · exact h.low p (by simp [hp])
end Go.Proofs.YtpiimcbbgalhfaaGreatDoor
/- What lies ready: the blocks of the call's own, each known whole. No program in sight. -/
namespace Go.Proofs.YtpiimcbbgalhfaaGreatDoor
set_option maxRecDepth 100000
open Go.RowKit
abbrev BlkL := List (Nat × TypeId × List Value)
structure St (w0 w : World) (L : BlkL) : Prop where
  below : Below w0.heap.size w0 w
  blk : ∀ e ∈ L, Blk w e.1 e.2.1 e.2.2
  base : ∀ e ∈ L, w0.heap.size ≤ e.1
  apart : L.Pairwise fun x y => y.1 < x.1
theorem St.nil (w : World) : St w w [] := ⟨Below.refl _ w, (fun _ h => by cases h), (fun _ h => by cases h), List.Pairwise.nil⟩
theorem St.size {w0 w : World} {L : BlkL} (h : St w0 w L) : w0.heap.size ≤ w.heap.size := h.below.size
theorem St.get {w0 w : World} {L : BlkL} (h : St w0 w L) (k : Nat) {b : Nat} {t : TypeId} {cs : List Value} (hk : L[k]? = some (b, t, cs)) : Blk w b t cs := h.blk _ (List.mem_of_getElem? hk)
theorem St.ge {w0 w : World} {L : BlkL} (h : St w0 w L) (k : Nat) {b : Nat} {t : TypeId} {cs : List Value} (hk : L[k]? = some (b, t, cs)) : w0.heap.size ≤ b := h.base _ (List.mem_of_getElem? hk)
theorem St.alloc {w0 w : World} {L : BlkL} (h : St w0 w L) {n : Nat} (hn : w.heap.size = n) (cs : List Value) (t : TypeId) : St w0 (w.alloc (.cells cs.toArray t)) ((n, t, cs) :: L) := by
  subst hn
  refine ⟨h.below.alloc h.size _, ?_, ?_, ?_⟩
  · intro e he
    rcases List.mem_cons.1 he with rfl | he
    · exact Blk.new w cs t
    · exact (h.blk e he).alloc _
  · intro e he
    rcases List.mem_cons.1 he with rfl | he
    · exact h.size
    · exact h.base e he
  · exact .cons (fun e he => (h.blk e he).lt) h.apart
theorem St.drew {w0 w : World} {L : BlkL} (h : St w0 w L) : St w0 w.drew L := ⟨h.below.drew, fun e he => (h.blk e he).drew, h.base, h.apart⟩
theorem St.drewN {w0 w : World} {L : BlkL} (h : St w0 w L) (n : Nat) : St w0 (w.drewN n) L :=
  ⟨h.below.trans ⟨rfl, rfl, rfl, Nat.le_refl _, fun _ _ => rfl⟩, fun e he => h.blk e he, h.base, h.apart⟩
theorem St.below' {w0 w w' : World} {L : BlkL} (h : St w0 w L) (hb : Below w.heap.size w w') : St w0 w' L :=
  ⟨h.below.trans (hb.mono h.size), fun e he => (h.blk e he).below hb (h.blk e he).lt, h.base, h.apart⟩
theorem St.set {w0 w : World} {L : BlkL} (h : St w0 w L) (k : Nat) {b : Nat} {t : TypeId} {cs : List Value} (hk : L[k]? = some (b, t, cs)) (o : Nat) (v : Value) : St w0 (w.setCell ⟨b, o, none⟩ v) (L.set k (b, t, cs.set o v)) := by
  have hlt : k < L.length := (List.getElem?_eq_some_iff.1 hk).1
  have hLk : L[k] = (b, t, cs) := (List.getElem?_eq_some_iff.1 hk).2
  have hpw := List.pairwise_iff_getElem.1 h.apart
  have hne : ∀ j (hj : j < L.length), j ≠ k → (L[j]).1 ≠ b := by
    intro j hj hjk
    rcases Nat.lt_or_ge j k with hl | hl
    · have := hpw j k hj hlt hl
      rw [hLk] at this
      exact Nat.ne_of_gt this
    · have := hpw k j hlt hj (by omega)
      rw [hLk] at this
      exact Nat.ne_of_lt this
  refine ⟨h.below.setCell (p := ⟨b, o, none⟩) (h.ge k hk) v, ?_, ?_, ?_⟩
  · intro e he
    obtain ⟨j, hj, rfl⟩ := List.mem_iff_getElem.1 he
    rw [List.length_set] at hj
    rw [List.getElem_set]
    split
    · exact (h.get k hk).set o v
    · rename_i hjk
      exact (h.blk _ (List.getElem_mem hj)).far (p := ⟨b, o, none⟩) (hne j hj (fun e => hjk e.symm)) v
  · intro e he
    obtain ⟨j, hj, rfl⟩ := List.mem_iff_getElem.1 he
    rw [List.length_set] at hj
    rw [List.getElem_set]
    split
    · exact h.ge k hk
    · exact h.base _ (List.getElem_mem hj)
  · rw [List.pairwise_iff_getElem]
    intro i j hi hj hij
    rw [List.length_set] at hi hj
    have e : ∀ x (hx : x < L.length), ((L.set k (b, t, cs.set o v))[x]'(by rw [List.length_set]; exact hx)).1 = (L[x]).1 := by
      intro x hx
      rw [List.getElem_set]
      split
      · rename_i hxk
        subst hxk
        rw [hLk]
      · rfl
    rw [e i hi, e j hj]
    exact hpw i j hi hj hij
/-- At a call: the world under one name. -/
theorem St.at {P : Program} {f : Nat} {args : Array Value} {w0 w : World} {L : BlkL} {Q : Ending → World → Prop} (h : St w0 w L) (k : ∀ w', St w0 w' L → Calls P f args w' Q) : Calls P f args w Q := k w h
theorem St.two {w0 w : World} {L : BlkL} (h : St w0 w L) (k : Nat) {b : Nat} {t : TypeId} {u0 u1 : Value} (hk : L[k]? = some (b, t, [u0, u1])) :
    (w.cell? ⟨b, 0, none⟩ = some u0 ∧ w.cell? ⟨b, 1, none⟩ = some u1) ∧ (w.frozen? ⟨b, 0, none⟩ = false ∧ w.frozen? ⟨b, 1, none⟩ = false) :=
  let g := h.get k hk
  ⟨⟨g.cell 0, g.cell 1⟩, g.frozen 0, g.frozen 1⟩
theorem St.four {w0 w : World} {L : BlkL} (h : St w0 w L) (k : Nat) {b : Nat} {t : TypeId} {u0 u1 u2 u3 : Value} (hk : L[k]? = some (b, t, [u0, u1, u2, u3])) :
    (w.cell? ⟨b, 0, none⟩ = some u0 ∧ w.cell? ⟨b, 1, none⟩ = some u1 ∧ w.cell? ⟨b, 2, none⟩ = some u2 ∧ w.cell? ⟨b, 3, none⟩ = some u3) ∧
    (w.frozen? ⟨b, 0, none⟩ = false ∧ w.frozen? ⟨b, 1, none⟩ = false ∧ w.frozen? ⟨b, 2, none⟩ = false ∧ w.frozen? ⟨b, 3, none⟩ = false) :=
  let g := h.get k hk
  ⟨⟨g.cell 0, g.cell 1, g.cell 2, g.cell 3⟩, g.frozen 0, g.frozen 1, g.frozen 2, g.frozen 3⟩
theorem St.ten {w0 w : World} {L : BlkL} (h : St w0 w L) (k : Nat) {b : Nat} {t : TypeId} {u0 u1 u2 u3 u4 u5 u6 u7 u8 u9 : Value} (hk : L[k]? = some (b, t, [u0, u1, u2, u3, u4, u5, u6, u7, u8, u9])) :
    (w.cell? ⟨b, 0, none⟩ = some u0 ∧ w.cell? ⟨b, 1, none⟩ = some u1 ∧ w.cell? ⟨b, 2, none⟩ = some u2 ∧ w.cell? ⟨b, 3, none⟩ = some u3 ∧ w.cell? ⟨b, 4, none⟩ = some u4 ∧ w.cell? ⟨b, 5, none⟩ = some u5 ∧ w.cell? ⟨b, 6, none⟩ = some u6 ∧ w.cell? ⟨b, 7, none⟩ = some u7 ∧ w.cell? ⟨b, 8, none⟩ = some u8 ∧ w.cell? ⟨b, 9, none⟩ = some u9) ∧
    (w.frozen? ⟨b, 0, none⟩ = false ∧ w.frozen? ⟨b, 1, none⟩ = false ∧ w.frozen? ⟨b, 2, none⟩ = false ∧ w.frozen? ⟨b, 3, none⟩ = false ∧ w.frozen? ⟨b, 4, none⟩ = false ∧ w.frozen? ⟨b, 5, none⟩ = false ∧ w.frozen? ⟨b, 6, none⟩ = false ∧ w.frozen? ⟨b, 7, none⟩ = false ∧ w.frozen? ⟨b, 8, none⟩ = false ∧ w.frozen? ⟨b, 9, none⟩ = false) :=
  let g := h.get k hk
  ⟨⟨g.cell 0, g.cell 1, g.cell 2, g.cell 3, g.cell 4, g.cell 5, g.cell 6, g.cell 7, g.cell 8, g.cell 9⟩, g.frozen 0, g.frozen 1, g.frozen 2, g.frozen 3, g.frozen 4, g.frozen 5, g.frozen 6, g.frozen 7, g.frozen 8, g.frozen 9⟩
end Go.Proofs.YtpiimcbbgalhfaaGreatDoor
