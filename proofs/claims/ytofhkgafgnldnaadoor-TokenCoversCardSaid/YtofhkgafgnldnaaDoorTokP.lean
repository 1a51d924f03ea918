/- Patterns' tokens: the plain model: what is read at a place. No program in sight. -/
import Derived.Test.YtofhkgafgnldnaaDoorSets
import Derived.Test.YtofhkgafgnldnaaDoorOf
import Derived.Test.YtofhkgafgnldnaaDoorCount
import Derived.Test.YtofhkgafgnldnaaDoorFirst
namespace Go.Proofs.YtofhkgafgnldnaaDoor
/-- What is read at a place: a value, and where one goes on; or where it fails, and the error's number. -/
inductive Res (α : Type) where
  | ok (v : α) (i : Nat)
  | err (i e : Nat)
/-- A text's bytes. -/
def bytesN (s : ByteArray) : List Nat := s.data.toList.map (·.toNat)
def specialL : List Nat := [92, 124, 40, 41, 91, 93, 123, 125, 42, 43, 63, 46, 94, 36, 47, 45]
def otherL : List Nat := [49, 50, 51, 52, 53, 54, 55, 56, 57, 98, 66, 65, 122, 90, 71, 81, 69, 107, 112, 80]
def loneL : List Nat := [93, 125]
def innerL : List Nat := [91, 93, 45, 94]
def oneM (c : Nat) : Nat → Bool := ofM [((c : Nat) : Int)]
def digitsM : Nat → Bool := rangeM 48 57
def wordM : Nat → Bool := anyM [rangeM 48 57, rangeM 97 122, rangeM 65 90, ofM [95]]
def spaceM : Nat → Bool := anyM [rangeM 9 13, ofM [32]]
def notM (m : Nat → Bool) (x : Nat) : Bool := !m x
def namedM (c : Nat) : Option (Nat → Bool) :=
  if c = 110 then some (oneM 10) else if c = 116 then some (oneM 9) else if c = 114 then some (oneM 13) else if c = 102 then some (oneM 12) else if c = 118 then some (oneM 11)
  else if c = 100 then some digitsM else if c = 119 then some wordM else if c = 115 then some spaceM else if c = 68 then some (notM digitsM) else if c = 87 then some (notM wordM) else if c = 83 then some (notM spaceM) else none
def hexM (c : Nat) : Option Nat := if 48 ≤ c ∧ c ≤ 57 then some (c - 48) else if 97 ≤ c ∧ c ≤ 102 then some (c - 87) else if 65 ≤ c ∧ c ≤ 70 then some (c - 55) else none
def hexAt (t : List Nat) (i : Nat) : Option Nat := (t[i]?).bind hexM
/-- At a backslash. -/
def escM (t : List Nat) (i : Nat) : Res (Nat → Bool) :=
  match t[i + 1]? with
  | none => .err (i + 1) 4
  | some c =>
    if specialL.contains c then .ok (oneM c) (i + 2)
    else match namedM c with
      | some m => .ok m (i + 2)
      | none =>
        if c = 120 then
          match hexAt t (i + 2) with
          | none => .err (i + 2) 4
          | some hi =>
            match hexAt t (i + 3) with
            | none => .err (i + 3) 4
            | some lo => .ok (oneM (16 * hi + lo)) (i + 4)
        else if otherL.contains c then .err i 6 else .err (i + 1) 4
def itemM (t : List Nat) (i : Nat) : Res (Nat → Bool) :=
  match t[i]? with
  | none => .err i 4
  | some c => if innerL.contains c then .err i 4 else if c = 92 then escM t i else .ok (oneM c) (i + 1)
/-- The byte of a set that has just one. -/
def onlyM (m : Nat → Bool) : Option Nat := if cnt m 256 = 1 then firstM m else none
/-- An item, or a range. -/
def spanM (t : List Nat) (i : Nat) : Res (Nat → Bool) :=
  match itemM t i with
  | .err j e => .err j e
  | .ok lo j =>
    if t[j]? = some 45 then
      match onlyM lo with
      | none => .err j 4
      | some a =>
        match itemM t (j + 1) with
        | .err k e => .err k e
        | .ok hi k =>
          match onlyM hi with
          | none => .err (j + 1) 4
          | some b => if b < a then .err i 5 else .ok (rangeM ((a : Nat) : Int) ((b : Nat) : Int)) k
    else .ok lo j
def classLoop (t : List Nat) : Nat → (Nat → Bool) → Nat → Res (Nat → Bool)
  | 0, _, i => .err i 4
  | f + 1, m, i =>
    if t[i]? = some 93 then .ok m (i + 1)
    else match spanM t i with
      | .err j e => .err j e
      | .ok m2 j => classLoop t f (anyM [m, m2]) j
def classBody (t : List Nat) (i : Nat) : Res (Nat → Bool) :=
  match spanM t i with
  | .err j e => .err j e
  | .ok m j => classLoop t (t.length + 1 - j) m j
/-- At a bracket. -/
def classM (t : List Nat) (i : Nat) : Res (Nat → Bool) :=
  if t[i + 1]? = some 94 then
    match classBody t (i + 2) with
    | .err j e => .err j e
    | .ok m j => .ok (notM m) j
  else classBody t (i + 1)
def digitAt (t : List Nat) (i : Nat) : Option Nat := (t[i]?).bind fun c => if 48 ≤ c ∧ c ≤ 57 then some (c - 48) else none
/-- The digits from a place on: their number, and where they end. -/
def numLoop (t : List Nat) : Nat → Nat → Nat → Nat × Nat
  | 0, n, i => (n, i)
  | f + 1, n, i => match digitAt t i with
    | none => (n, i)
    | some d => numLoop t f (10 * n + d) (i + 1)
def numberM (t : List Nat) (i : Nat) : Res Nat :=
  match digitAt t i with
  | none => .err i 4
  | some _ => let p := numLoop t (t.length - i) 0 i
    if p.1 > 1000 then .err i 5 else .ok p.1 p.2
/-- Behind an open brace: the least, and the most (none: endless). -/
def bracesM (t : List Nat) (i : Nat) : Res (Nat × Option Nat) :=
  match numberM t i with
  | .err j e => .err j e
  | .ok lo j =>
    if t[j]? = some 44 then
      if t[j + 1]? = some 125 then .ok (lo, none) (j + 2)
      else match numberM t (j + 1) with
        | .err k e => .err k e
        | .ok hi k => if hi < lo then .err (j + 1) 5 else if t[k]? = some 125 then .ok (lo, some hi) (k + 1) else .err k 4
    else if t[j]? = some 125 then .ok (lo, some lo) (j + 1) else .err j 4
/-- A token, but for its place. -/
structure Tok where
  kind : Nat
  set : Nat → Bool
  lo : Nat
  hi : Int
  lazy : Bool
def noSet : Nat → Bool := fun _ => false
def setTok (m : Nat → Bool) : Tok := ⟨0, m, 0, 0, false⟩
def kindTok (k : Nat) : Tok := ⟨k, noSet, 0, 0, false⟩
/-- Behind a count: is it lazy? -/
def lazyM (t : List Nat) (lo : Nat) (hi : Int) (i : Nat) : Res Tok :=
  let z := decide (t[i]? = some 63)
  let j := if t[i]? = some 63 then i + 1 else i
  if t[j]? = some 43 then .err j 6 else .ok ⟨5, noSet, lo, hi, z⟩ j
def hiZ (o : Option Nat) : Int := match o with | none => -1 | some n => ((n : Nat) : Int)
def setRes (r : Res (Nat → Bool)) : Res Tok := match r with
  | .err j e => .err j e
  | .ok m j => .ok (setTok m) j
def groupM (t : List Nat) (i : Nat) : Res Tok :=
  if t[i + 1]? = some 63 then (if t[i + 2]? = some 58 then .ok (kindTok 2) (i + 3) else .err i 6) else .ok (kindTok 1) (i + 1)
/-- The token at a place. -/
def tokM (t : List Nat) (i : Nat) : Res Tok :=
  match t[i]? with
  | none => .err i 4
  | some c =>
    if c = 92 then setRes (escM t i)
    else if c = 91 then setRes (classM t i)
    else if c = 40 then groupM t i
    else if c = 41 then .ok (kindTok 3) (i + 1)
    else if c = 124 then .ok (kindTok 4) (i + 1)
    else if c = 46 then .ok (setTok (notM (oneM 10))) (i + 1)
    else if c = 42 then lazyM t 0 (-1) (i + 1)
    else if c = 43 then lazyM t 1 (-1) (i + 1)
    else if c = 63 then lazyM t 0 1 (i + 1)
    else if c = 123 then
      match bracesM t (i + 1) with
      | .err j e => .err j e
      | .ok (lo, hi) j => lazyM t lo (hiZ hi) j
    else if c = 94 ∨ c = 36 then .err i 6
    else if loneL.contains c then .err i 4
    else .ok (setTok (oneM c)) (i + 1)
/-- All tokens, each with its place and its end. -/
def scanLoop (t : List Nat) : Nat → Nat → List (Tok × Nat × Nat) → Res (List (Tok × Nat × Nat))
  | 0, i, l => .ok l i
  | f + 1, i, l =>
    if i < t.length then
      match tokM t i with
      | .err j e => .err j e
      | .ok x j => scanLoop t f j (l ++ [(x, i, j)])
    else .ok l i
def scanM (t : List Nat) : Res (List (Tok × Nat × Nat)) := scanLoop t (t.length + 1) 0 []
end Go.Proofs.YtofhkgafgnldnaaDoor
