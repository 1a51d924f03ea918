/-
  No cell of these rows narrows 'for every input' (looked for: loops, veiled, ifaces, maps, wideKeys, modest, calm, conditions, laid).
  DERIVED. THE GIVEN ROWS OF THIS SEAT. 4 by the template 'for every input the law returns true; each argument reads behind the call as it read before'; 0 by the template 'total and deterministic' (their statements: YtanimknpnniabaaTotals.lean).
  GIVEN WITH THE SEED: the statements are not yours to turn. If you find one false, say at which input.
  Laid BY PROGRAM, IN A SANDBOX (cutbox-rows.mjs): the forced cells as the released guide's own fill.sh prints them over the translation d9d66527a9424a2a… (all of the seat's roots in one cut). By AI agents, Wed Nov 11 2026. No macro, syntax, notation, axiom, sorry.
-/
import Derived.Test.YtanimknpnniabaaChecked
import GoSem.Claim
import GoSem.ClaimJoined
import GoSem.ClaimMapViews
import Derived.JoinedTies
import Derived.KernelRfl
namespace Go.Proofs.Ytanimknpnniabaa
/- THE CELL 'sum', in the pinned program and in every row, IS THE sha256 OF THE DUMP (.gsa) THAT YtanimknpnniabaaProg.lean LOADS. Nothing in Lean hashes anything: it is a label: what it is worth is what the hold of that sum in a sandbox is worth. -/
noncomputable def Try.pinned : Pinned := { name := "ytanimknpnniabaa", sum := "d9d66527a9424a2a6619146d025dee52e2a2de336ca236619d138e4d5c368bc7", checked := Try.checked }
namespace Rows
def none {H : Type} : Left H := { results := [], args := [] }

/-- 'caltroplaw01.BytesLattice': WHATEVER THE INPUT: true; the input reads as it did. -/
def bytesLatticeSpec : ChangeSpec := { name := "bytesLattice", fn := fun _ => fun
  | [d1, d2, d3] => { results := [.lit (.bool true)], args := [d1, d2, d3] }
  | _ => none }
def bytesLatticeRow : OpenClaim := { program := "ytanimknpnniabaa", sum := "d9d66527a9424a2a6619146d025dee52e2a2de336ca236619d138e4d5c368bc7", func := "caltrop/caltroplaw01.BytesLattice", spec := "bytesLattice", unfollowed := true, recurses := true, apart := false }
def BytesLatticeSaid : Prop := bytesLatticeRow.holds Try.pinned (OpenSpec.ofChange bytesLatticeSpec)

/-- ITS FALSE NEIGHBOUR: 'it returns false'. Refute it at one input. -/
def bytesLatticeWrong : ChangeSpec := { name := "bytesLattice", fn := fun _ => fun
  | [d1, d2, d3] => { results := [.lit (.bool false)], args := [d1, d2, d3] }
  | _ => none }
def BytesLatticeWrongFalsely : Prop := bytesLatticeRow.holds Try.pinned (OpenSpec.ofChange bytesLatticeWrong)

/-- 'caltroplaw01.BytesFolds': WHATEVER THE INPUT: true; the input reads as it did. -/
def bytesFoldsSpec : ChangeSpec := { name := "bytesFolds", fn := fun _ => fun
  | [d1, d2, d3] => { results := [.lit (.bool true)], args := [d1, d2, d3] }
  | _ => none }
def bytesFoldsRow : OpenClaim := { program := "ytanimknpnniabaa", sum := "d9d66527a9424a2a6619146d025dee52e2a2de336ca236619d138e4d5c368bc7", func := "caltrop/caltroplaw01.BytesFolds", spec := "bytesFolds", unfollowed := true, recurses := true, apart := false }
def BytesFoldsSaid : Prop := bytesFoldsRow.holds Try.pinned (OpenSpec.ofChange bytesFoldsSpec)

/-- ITS FALSE NEIGHBOUR: 'it returns false'. Refute it at one input. -/
def bytesFoldsWrong : ChangeSpec := { name := "bytesFolds", fn := fun _ => fun
  | [d1, d2, d3] => { results := [.lit (.bool false)], args := [d1, d2, d3] }
  | _ => none }
def BytesFoldsWrongFalsely : Prop := bytesFoldsRow.holds Try.pinned (OpenSpec.ofChange bytesFoldsWrong)

/-- 'caltroplaw01.BytesBoth': WHATEVER THE INPUT: true; the input reads as it did. -/
def bytesBothSpec : ChangeSpec := { name := "bytesBoth", fn := fun _ => fun
  | [d1, d2, d3] => { results := [.lit (.bool true)], args := [d1, d2, d3] }
  | _ => none }
def bytesBothRow : OpenClaim := { program := "ytanimknpnniabaa", sum := "d9d66527a9424a2a6619146d025dee52e2a2de336ca236619d138e4d5c368bc7", func := "caltrop/caltroplaw01.BytesBoth", spec := "bytesBoth", unfollowed := true, recurses := true, apart := false }
def BytesBothSaid : Prop := bytesBothRow.holds Try.pinned (OpenSpec.ofChange bytesBothSpec)

/-- ITS FALSE NEIGHBOUR: 'it returns false'. Refute it at one input. -/
def bytesBothWrong : ChangeSpec := { name := "bytesBoth", fn := fun _ => fun
  | [d1, d2, d3] => { results := [.lit (.bool false)], args := [d1, d2, d3] }
  | _ => none }
def BytesBothWrongFalsely : Prop := bytesBothRow.holds Try.pinned (OpenSpec.ofChange bytesBothWrong)

/-- 'caltroplaw01.BytesRanges': WHATEVER THE INPUT: true; the input reads as it did. -/
def bytesRangesSpec : ChangeSpec := { name := "bytesRanges", fn := fun _ => fun
  | [d1, d2] => { results := [.lit (.bool true)], args := [d1, d2] }
  | _ => none }
def bytesRangesRow : OpenClaim := { program := "ytanimknpnniabaa", sum := "d9d66527a9424a2a6619146d025dee52e2a2de336ca236619d138e4d5c368bc7", func := "caltrop/caltroplaw01.BytesRanges", spec := "bytesRanges", unfollowed := true, recurses := true, apart := false }
def BytesRangesSaid : Prop := bytesRangesRow.holds Try.pinned (OpenSpec.ofChange bytesRangesSpec)

/-- ITS FALSE NEIGHBOUR: 'it returns false'. Refute it at one input. -/
def bytesRangesWrong : ChangeSpec := { name := "bytesRanges", fn := fun _ => fun
  | [d1, d2] => { results := [.lit (.bool false)], args := [d1, d2] }
  | _ => none }
def BytesRangesWrongFalsely : Prop := bytesRangesRow.holds Try.pinned (OpenSpec.ofChange bytesRangesWrong)

/- THE SECOND FORM. 'bulk': how many values and letters a reading holds, each counted each time it is reached (what is shared counts as often as it is met; a slice's spare places count too). A statement '..UptoSaid' is the law's where the arguments, and the package variables that the reading takes, are together of bulk at most 1048576: NARROWER than '..Said'. Prove '..Said' where nothing that the law and all that it calls make is longer than what came in: it says more and counts as full. Else prove '..UptoSaid'. A law counts once. -/
mutual
def uptoBulk {H : Type} : DataW H → Nat
  | .lit (.string bytes) => bytes.length + 1
  | .lit _ => 1
  | .nil => 1
  | .ptr d => uptoBulk d + 1
  | .slice elems spare => uptoBulkAll elems + uptoBulkAll spare + 1
  | .agg parts => uptoBulkAll parts + 1
  | .iface _ d => uptoBulk d + 1
  | .map entries => uptoBulkEntries entries + 1
  | .held _ => 1
def uptoBulkAll {H : Type} : List (DataW H) → Nat
  | [] => 0
  | d :: r => uptoBulk d + uptoBulkAll r
def uptoBulkEntries {H : Type} : List (Lit × DataW H) → Nat
  | [] => 0
  | x :: r => uptoBulkEntry x + uptoBulkEntries r
def uptoBulkEntry {H : Type} : Lit × DataW H → Nat
  | (.string bytes, d) => bytes.length + uptoBulk d + 1
  | (_, d) => uptoBulk d + 1
 end
def uptoSmall : (H : Type) → List (DataW H) → Bool := fun _ ds => decide (uptoBulkAll ds ≤ 1048576)
def OpenSpec.upto (s : _root_.Go.ChangeSpec) : _root_.Go.OpenSpec := { _root_.Go.OpenSpec.ofChange s with cond := some uptoSmall }

/-- 'caltroplaw01.BytesLattice', WHERE WHAT IT READS IS OF BULK AT MOST 1048576: true; the input reads as it did. -/
def bytesLatticeUptoRow : OpenClaim := { program := "ytanimknpnniabaa", sum := "d9d66527a9424a2a6619146d025dee52e2a2de336ca236619d138e4d5c368bc7", func := "caltrop/caltroplaw01.BytesLattice", spec := "bytesLattice", unfollowed := true, recurses := true, apart := false, narrowed := true }
def BytesLatticeUptoSaid : Prop := bytesLatticeUptoRow.holds Try.pinned (OpenSpec.upto bytesLatticeSpec)

/-- 'caltroplaw01.BytesFolds', WHERE WHAT IT READS IS OF BULK AT MOST 1048576: true; the input reads as it did. -/
def bytesFoldsUptoRow : OpenClaim := { program := "ytanimknpnniabaa", sum := "d9d66527a9424a2a6619146d025dee52e2a2de336ca236619d138e4d5c368bc7", func := "caltrop/caltroplaw01.BytesFolds", spec := "bytesFolds", unfollowed := true, recurses := true, apart := false, narrowed := true }
def BytesFoldsUptoSaid : Prop := bytesFoldsUptoRow.holds Try.pinned (OpenSpec.upto bytesFoldsSpec)

/-- 'caltroplaw01.BytesBoth', WHERE WHAT IT READS IS OF BULK AT MOST 1048576: true; the input reads as it did. -/
def bytesBothUptoRow : OpenClaim := { program := "ytanimknpnniabaa", sum := "d9d66527a9424a2a6619146d025dee52e2a2de336ca236619d138e4d5c368bc7", func := "caltrop/caltroplaw01.BytesBoth", spec := "bytesBoth", unfollowed := true, recurses := true, apart := false, narrowed := true }
def BytesBothUptoSaid : Prop := bytesBothUptoRow.holds Try.pinned (OpenSpec.upto bytesBothSpec)

/-- 'caltroplaw01.BytesRanges', WHERE WHAT IT READS IS OF BULK AT MOST 1048576: true; the input reads as it did. -/
def bytesRangesUptoRow : OpenClaim := { program := "ytanimknpnniabaa", sum := "d9d66527a9424a2a6619146d025dee52e2a2de336ca236619d138e4d5c368bc7", func := "caltrop/caltroplaw01.BytesRanges", spec := "bytesRanges", unfollowed := true, recurses := true, apart := false, narrowed := true }
def BytesRangesUptoSaid : Prop := bytesRangesUptoRow.holds Try.pinned (OpenSpec.upto bytesRangesSpec)

end Rows
end Go.Proofs.Ytanimknpnniabaa
