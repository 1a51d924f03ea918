/-
  NARROWER THAN 'FOR EVERY INPUT', by the rows' own cells (each row's printed sentence says how): PrinterParts: laid · PrinterBack: laid · WeighNone: laid · WeighCats: laid · WaysNone: laid · TraceNone: laid · MemberNone: laid · SameNone: laid.
  DERIVED. THE GIVEN ROWS OF THIS SEAT. 8 by the template 'for every input the law returns true; each argument reads behind the call as it read before'; 0 by the template 'total and deterministic' (their statements: YtpiimcbbgalhfaaGreatDoorTotals.lean).
  GIVEN WITH THE SEED: the statements are not yours to turn. If you find one false, say at which input.
  Laid BY PROGRAM, IN A SANDBOX (cutbox-rows.mjs): the forced cells as the released guide's own fill.sh prints them over the translation e61a10e8b81f5682… (all of the seat's roots in one cut). By AI agents, Wed Nov 11 2026. No macro, syntax, notation, axiom, sorry.
-/
import Derived.Test.YtpiimcbbgalhfaaGreatDoorChecked
import GoSem.Claim
import GoSem.ClaimJoined
import GoSem.ClaimMapViews
import Derived.JoinedTies
import Derived.KernelRfl
namespace Go.Proofs.YtpiimcbbgalhfaaGreatDoor
/- THE CELL 'sum', in the pinned program and in every row, IS THE sha256 OF THE DUMP (.gsa) THAT YtpiimcbbgalhfaaGreatDoorProg.lean LOADS. Nothing in Lean hashes anything: it is a label: what it is worth is what the hold of that sum in a sandbox is worth. -/
noncomputable def Tryz.pinned : Pinned := { name := "ytpiimcbbgalhfaagreatdoor", sum := "e61a10e8b81f5682361f522e24386611af0a0a82b872cc7d6f4da58ff6e96682", checked := Tryz.checked }
namespace Rows
def none {H : Type} : Left H := { results := [], args := [] }

/- WHAT THE LISTED PACKAGE-LEVEL VARIABLES READ AS WHEN THE CALL BEGINS. Each datum BY PROGRAM (the guide's laid-datum.mjs) off the statement by which the dump's own 'gosem.cut.vars' lays the variable. In a bare row this is a premise. The card (YtpiimcbbgalhfaaGreatDoorCards.lean) ties it to the program's text. -/
def laid_math_bits_deBruijn32tab {H : Type} : DataW H := .agg [.lit (.int .u8 0), .lit (.int .u8 1), .lit (.int .u8 28), .lit (.int .u8 2), .lit (.int .u8 29), .lit (.int .u8 14), .lit (.int .u8 24), .lit (.int .u8 3), .lit (.int .u8 30), .lit (.int .u8 22), .lit (.int .u8 20), .lit (.int .u8 15), .lit (.int .u8 25), .lit (.int .u8 17), .lit (.int .u8 4), .lit (.int .u8 8), .lit (.int .u8 31), .lit (.int .u8 27), .lit (.int .u8 13), .lit (.int .u8 23), .lit (.int .u8 21), .lit (.int .u8 19), .lit (.int .u8 16), .lit (.int .u8 7), .lit (.int .u8 26), .lit (.int .u8 12), .lit (.int .u8 18), .lit (.int .u8 6), .lit (.int .u8 11), .lit (.int .u8 5), .lit (.int .u8 10), .lit (.int .u8 9)]
def laid_math_bits_deBruijn64tab {H : Type} : DataW H := .agg [.lit (.int .u8 0), .lit (.int .u8 1), .lit (.int .u8 56), .lit (.int .u8 2), .lit (.int .u8 57), .lit (.int .u8 49), .lit (.int .u8 28), .lit (.int .u8 3), .lit (.int .u8 61), .lit (.int .u8 58), .lit (.int .u8 42), .lit (.int .u8 50), .lit (.int .u8 38), .lit (.int .u8 29), .lit (.int .u8 17), .lit (.int .u8 4), .lit (.int .u8 62), .lit (.int .u8 47), .lit (.int .u8 59), .lit (.int .u8 36), .lit (.int .u8 45), .lit (.int .u8 43), .lit (.int .u8 51), .lit (.int .u8 22), .lit (.int .u8 53), .lit (.int .u8 39), .lit (.int .u8 33), .lit (.int .u8 30), .lit (.int .u8 24), .lit (.int .u8 18), .lit (.int .u8 12), .lit (.int .u8 5), .lit (.int .u8 63), .lit (.int .u8 55), .lit (.int .u8 48), .lit (.int .u8 27), .lit (.int .u8 60), .lit (.int .u8 41), .lit (.int .u8 37), .lit (.int .u8 16), .lit (.int .u8 46), .lit (.int .u8 35), .lit (.int .u8 44), .lit (.int .u8 21), .lit (.int .u8 52), .lit (.int .u8 32), .lit (.int .u8 23), .lit (.int .u8 11), .lit (.int .u8 54), .lit (.int .u8 26), .lit (.int .u8 40), .lit (.int .u8 15), .lit (.int .u8 34), .lit (.int .u8 20), .lit (.int .u8 31), .lit (.int .u8 10), .lit (.int .u8 25), .lit (.int .u8 14), .lit (.int .u8 19), .lit (.int .u8 9), .lit (.int .u8 13), .lit (.int .u8 8), .lit (.int .u8 7), .lit (.int .u8 6)]
def laid_internal_strconv_uint64pow10 {H : Type} : DataW H := .agg [.lit (.int .u64 1), .lit (.int .u64 10), .lit (.int .u64 100), .lit (.int .u64 1000), .lit (.int .u64 10000), .lit (.int .u64 100000), .lit (.int .u64 1000000), .lit (.int .u64 10000000), .lit (.int .u64 100000000), .lit (.int .u64 1000000000), .lit (.int .u64 10000000000), .lit (.int .u64 100000000000), .lit (.int .u64 1000000000000), .lit (.int .u64 10000000000000), .lit (.int .u64 100000000000000), .lit (.int .u64 1000000000000000), .lit (.int .u64 10000000000000000), .lit (.int .u64 100000000000000000), .lit (.int .u64 1000000000000000000), .lit (.int .u64 10000000000000000000)]

/-- 'caltroplaw07.PrinterParts': WHATEVER THE INPUT: true; the input reads as it did. -/
def printerPartsSpec : ChangeSpec := { name := "printerParts", fn := fun _ => fun
  | [d1, d2, d3, d4, d5] => { results := [.lit (.bool true)], args := [d1, d2, d3, d4, d5] }
  | _ => none }
def printerPartsRow : OpenClaim := { program := "ytpiimcbbgalhfaagreatdoor", sum := "e61a10e8b81f5682361f522e24386611af0a0a82b872cc7d6f4da58ff6e96682", func := "caltrop/caltroplaw07.PrinterParts", spec := "printerParts", inPlace := ["internal/bytealg.IndexByteString", "internal/bytealg.IndexString", "internal/abi.NoEscape"], unfollowed := true, recurses := true, named := ["math/bits.deBruijn64tab", "internal/bytealg.MaxLen", "internal/strconv.uint64pow10", "math/bits.deBruijn32tab"], plainKeys := false, apart := false, laid := [("math/bits.deBruijn32tab", laid_math_bits_deBruijn32tab), ("math/bits.deBruijn64tab", laid_math_bits_deBruijn64tab), ("internal/strconv.uint64pow10", laid_internal_strconv_uint64pow10)] }
def PrinterPartsSaid : Prop := printerPartsRow.holds Tryz.pinned (OpenSpec.ofChange printerPartsSpec)

/-- ITS FALSE NEIGHBOUR: 'it returns false'. Refute it at one input. -/
def printerPartsWrong : ChangeSpec := { name := "printerParts", fn := fun _ => fun
  | [d1, d2, d3, d4, d5] => { results := [.lit (.bool false)], args := [d1, d2, d3, d4, d5] }
  | _ => none }
def PrinterPartsWrongFalsely : Prop := printerPartsRow.holds Tryz.pinned (OpenSpec.ofChange printerPartsWrong)

/-- 'caltroplaw07.PrinterBack': WHATEVER THE INPUT: true; the input reads as it did. -/
def printerBackSpec : ChangeSpec := { name := "printerBack", fn := fun _ => fun
  | [d] => { results := [.lit (.bool true)], args := [d] }
  | _ => none }
def printerBackRow : OpenClaim := { program := "ytpiimcbbgalhfaagreatdoor", sum := "e61a10e8b81f5682361f522e24386611af0a0a82b872cc7d6f4da58ff6e96682", func := "caltrop/caltroplaw07.PrinterBack", spec := "printerBack", inPlace := ["internal/bytealg.IndexByteString", "internal/bytealg.IndexString", "internal/abi.NoEscape"], unfollowed := true, recurses := true, named := ["math/bits.deBruijn64tab", "internal/bytealg.MaxLen", "internal/strconv.uint64pow10", "math/bits.deBruijn32tab"], plainKeys := false, apart := false, laid := [("math/bits.deBruijn32tab", laid_math_bits_deBruijn32tab), ("math/bits.deBruijn64tab", laid_math_bits_deBruijn64tab), ("internal/strconv.uint64pow10", laid_internal_strconv_uint64pow10)] }
def PrinterBackSaid : Prop := printerBackRow.holds Tryz.pinned (OpenSpec.ofChange printerBackSpec)

/-- ITS FALSE NEIGHBOUR: 'it returns false'. Refute it at one input. -/
def printerBackWrong : ChangeSpec := { name := "printerBack", fn := fun _ => fun
  | [d] => { results := [.lit (.bool false)], args := [d] }
  | _ => none }
def PrinterBackWrongFalsely : Prop := printerBackRow.holds Tryz.pinned (OpenSpec.ofChange printerBackWrong)

/-- 'caltroplaw09.WeighNone': WHATEVER THE INPUT: true; the input reads as it did. -/
def weighNoneSpec : ChangeSpec := { name := "weighNone", fn := fun _ => fun
  | [d] => { results := [.lit (.bool true)], args := [d] }
  | _ => none }
def weighNoneRow : OpenClaim := { program := "ytpiimcbbgalhfaagreatdoor", sum := "e61a10e8b81f5682361f522e24386611af0a0a82b872cc7d6f4da58ff6e96682", func := "caltrop/caltroplaw09.WeighNone", spec := "weighNone", inPlace := ["math/bits.Add64", "internal/bytealg.IndexByteString"], unfollowed := true, recurses := true, named := ["math/bits.deBruijn64tab"], plainKeys := false, apart := false, laid := [("math/bits.deBruijn64tab", laid_math_bits_deBruijn64tab)] }
def WeighNoneSaid : Prop := weighNoneRow.holds Tryz.pinned (OpenSpec.ofChange weighNoneSpec)

/-- ITS FALSE NEIGHBOUR: 'it returns false'. Refute it at one input. -/
def weighNoneWrong : ChangeSpec := { name := "weighNone", fn := fun _ => fun
  | [d] => { results := [.lit (.bool false)], args := [d] }
  | _ => none }
def WeighNoneWrongFalsely : Prop := weighNoneRow.holds Tryz.pinned (OpenSpec.ofChange weighNoneWrong)

/-- 'caltroplaw09.WeighCats': WHATEVER THE INPUT: true; the input reads as it did. -/
def weighCatsSpec : ChangeSpec := { name := "weighCats", fn := fun _ => fun
  | [d1, d2] => { results := [.lit (.bool true)], args := [d1, d2] }
  | _ => none }
def weighCatsRow : OpenClaim := { program := "ytpiimcbbgalhfaagreatdoor", sum := "e61a10e8b81f5682361f522e24386611af0a0a82b872cc7d6f4da58ff6e96682", func := "caltrop/caltroplaw09.WeighCats", spec := "weighCats", inPlace := ["internal/bytealg.IndexByteString", "math/bits.Add64"], unfollowed := true, recurses := true, named := ["math/bits.deBruijn64tab"], plainKeys := false, apart := false, laid := [("math/bits.deBruijn64tab", laid_math_bits_deBruijn64tab)] }
def WeighCatsSaid : Prop := weighCatsRow.holds Tryz.pinned (OpenSpec.ofChange weighCatsSpec)

/-- ITS FALSE NEIGHBOUR: 'it returns false'. Refute it at one input. -/
def weighCatsWrong : ChangeSpec := { name := "weighCats", fn := fun _ => fun
  | [d1, d2] => { results := [.lit (.bool false)], args := [d1, d2] }
  | _ => none }
def WeighCatsWrongFalsely : Prop := weighCatsRow.holds Tryz.pinned (OpenSpec.ofChange weighCatsWrong)

/-- 'caltroplaw13.WaysNone': WHATEVER THE INPUT: true; the input reads as it did. -/
def waysNoneSpec : ChangeSpec := { name := "waysNone", fn := fun _ => fun
  | [d1, d2] => { results := [.lit (.bool true)], args := [d1, d2] }
  | _ => none }
def waysNoneRow : OpenClaim := { program := "ytpiimcbbgalhfaagreatdoor", sum := "e61a10e8b81f5682361f522e24386611af0a0a82b872cc7d6f4da58ff6e96682", func := "caltrop/caltroplaw13.WaysNone", spec := "waysNone", inPlace := ["internal/bytealg.IndexByteString", "math/bits.Add64"], unfollowed := true, recurses := true, named := ["math/bits.deBruijn64tab"], plainKeys := false, apart := false, laid := [("math/bits.deBruijn64tab", laid_math_bits_deBruijn64tab)] }
def WaysNoneSaid : Prop := waysNoneRow.holds Tryz.pinned (OpenSpec.ofChange waysNoneSpec)

/-- ITS FALSE NEIGHBOUR: 'it returns false'. Refute it at one input. -/
def waysNoneWrong : ChangeSpec := { name := "waysNone", fn := fun _ => fun
  | [d1, d2] => { results := [.lit (.bool false)], args := [d1, d2] }
  | _ => none }
def WaysNoneWrongFalsely : Prop := waysNoneRow.holds Tryz.pinned (OpenSpec.ofChange waysNoneWrong)

/-- 'caltroplaw25.TraceNone': WHATEVER THE INPUT: true; the input reads as it did. -/
def traceNoneSpec : ChangeSpec := { name := "traceNone", fn := fun _ => fun
  | [d1, d2] => { results := [.lit (.bool true)], args := [d1, d2] }
  | _ => none }
def traceNoneRow : OpenClaim := { program := "ytpiimcbbgalhfaagreatdoor", sum := "e61a10e8b81f5682361f522e24386611af0a0a82b872cc7d6f4da58ff6e96682", func := "caltrop/caltroplaw25.TraceNone", spec := "traceNone", inPlace := ["internal/bytealg.IndexByteString", "math/bits.Add64", "internal/abi.NoEscape", "internal/bytealg.MakeNoZero"], unfollowed := true, recurses := true, named := ["math/bits.deBruijn64tab", "internal/strconv.uint64pow10", "math/bits.deBruijn32tab"], plainKeys := false, apart := false, laid := [("math/bits.deBruijn32tab", laid_math_bits_deBruijn32tab), ("math/bits.deBruijn64tab", laid_math_bits_deBruijn64tab), ("internal/strconv.uint64pow10", laid_internal_strconv_uint64pow10)] }
def TraceNoneSaid : Prop := traceNoneRow.holds Tryz.pinned (OpenSpec.ofChange traceNoneSpec)

/-- ITS FALSE NEIGHBOUR: 'it returns false'. Refute it at one input. -/
def traceNoneWrong : ChangeSpec := { name := "traceNone", fn := fun _ => fun
  | [d1, d2] => { results := [.lit (.bool false)], args := [d1, d2] }
  | _ => none }
def TraceNoneWrongFalsely : Prop := traceNoneRow.holds Tryz.pinned (OpenSpec.ofChange traceNoneWrong)

/-- 'caltroplaw11.MemberNone': WHATEVER THE INPUT: true; the input reads as it did. -/
def memberNoneSpec : ChangeSpec := { name := "memberNone", fn := fun _ => fun
  | [d] => { results := [.lit (.bool true)], args := [d] }
  | _ => none }
def memberNoneRow : OpenClaim := { program := "ytpiimcbbgalhfaagreatdoor", sum := "e61a10e8b81f5682361f522e24386611af0a0a82b872cc7d6f4da58ff6e96682", func := "caltrop/caltroplaw11.MemberNone", spec := "memberNone", inPlace := ["internal/bytealg.IndexByteString", "math/bits.Add64"], unfollowed := true, recurses := true, named := ["math/bits.deBruijn64tab"], plainKeys := false, apart := false, laid := [("math/bits.deBruijn64tab", laid_math_bits_deBruijn64tab)] }
def MemberNoneSaid : Prop := memberNoneRow.holds Tryz.pinned (OpenSpec.ofChange memberNoneSpec)

/-- ITS FALSE NEIGHBOUR: 'it returns false'. Refute it at one input. -/
def memberNoneWrong : ChangeSpec := { name := "memberNone", fn := fun _ => fun
  | [d] => { results := [.lit (.bool false)], args := [d] }
  | _ => none }
def MemberNoneWrongFalsely : Prop := memberNoneRow.holds Tryz.pinned (OpenSpec.ofChange memberNoneWrong)

/-- 'caltroplaw27.SameNone': WHATEVER THE INPUT: true; the input reads as it did. -/
def sameNoneSpec : ChangeSpec := { name := "sameNone", fn := fun _ => fun
  | [d1, d2, d3] => { results := [.lit (.bool true)], args := [d1, d2, d3] }
  | _ => none }
def sameNoneRow : OpenClaim := { program := "ytpiimcbbgalhfaagreatdoor", sum := "e61a10e8b81f5682361f522e24386611af0a0a82b872cc7d6f4da58ff6e96682", func := "caltrop/caltroplaw27.SameNone", spec := "sameNone", inPlace := ["internal/bytealg.IndexByteString", "math/bits.Add64"], unfollowed := true, recurses := true, named := ["math/bits.deBruijn64tab"], plainKeys := false, apart := false, laid := [("math/bits.deBruijn64tab", laid_math_bits_deBruijn64tab)] }
def SameNoneSaid : Prop := sameNoneRow.holds Tryz.pinned (OpenSpec.ofChange sameNoneSpec)

/-- ITS FALSE NEIGHBOUR: 'it returns false'. Refute it at one input. -/
def sameNoneWrong : ChangeSpec := { name := "sameNone", fn := fun _ => fun
  | [d1, d2, d3] => { results := [.lit (.bool false)], args := [d1, d2, d3] }
  | _ => none }
def SameNoneWrongFalsely : Prop := sameNoneRow.holds Tryz.pinned (OpenSpec.ofChange sameNoneWrong)

/- THE SECOND FORM. 'bulk': how many values and letters a reading holds, each counted each time it is reached (what is shared counts as often as it is met; a slice's spare places count too). A statement '..UptoSaid' is the law's where the arguments, and the package variables that the reading takes, are together of bulk at most 1048576: NARROWER than '..Said'. Prove '..Said' where nothing that the law and all that it calls make is longer than what came in: it says more and counts as full. Else prove '..UptoSaid'. A law counts once. -/
mutual
def uptoBulk {H : Type} : DataW H → Nat
  | .lit (.string bytes) => bytes.length + 1
  | .lit _ => 1
  | .nil => 1
  | .ptr d => uptoBulk d + 1
  | .slice elems spare => uptoBulkAll elems + uptoBulkAll spare + 1
  | .agg parts => uptoBulkAll parts + 1
  | .iface _ d => uptoBulk d + 1
  | .map entries => uptoBulkEntries entries + 1
  | .held _ => 1
def uptoBulkAll {H : Type} : List (DataW H) → Nat
  | [] => 0
  | d :: r => uptoBulk d + uptoBulkAll r
def uptoBulkEntries {H : Type} : List (Lit × DataW H) → Nat
  | [] => 0
  | x :: r => uptoBulkEntry x + uptoBulkEntries r
def uptoBulkEntry {H : Type} : Lit × DataW H → Nat
  | (.string bytes, d) => bytes.length + uptoBulk d + 1
  | (_, d) => uptoBulk d + 1
 end
def uptoSmall : (H : Type) → List (DataW H) → Bool := fun _ ds => decide (uptoBulkAll ds ≤ 1048576)
def OpenSpec.upto (s : _root_.Go.ChangeSpec) : _root_.Go.OpenSpec := { _root_.Go.OpenSpec.ofChange s with cond := some uptoSmall }

/-- 'caltroplaw07.PrinterParts', WHERE WHAT IT READS IS OF BULK AT MOST 1048576: true; the input reads as it did. -/
def printerPartsUptoRow : OpenClaim := { program := "ytpiimcbbgalhfaagreatdoor", sum := "e61a10e8b81f5682361f522e24386611af0a0a82b872cc7d6f4da58ff6e96682", func := "caltrop/caltroplaw07.PrinterParts", spec := "printerParts", inPlace := ["internal/bytealg.IndexByteString", "internal/bytealg.IndexString", "internal/abi.NoEscape"], unfollowed := true, recurses := true, named := ["math/bits.deBruijn64tab", "internal/bytealg.MaxLen", "internal/strconv.uint64pow10", "math/bits.deBruijn32tab"], plainKeys := false, apart := false, laid := [("math/bits.deBruijn32tab", laid_math_bits_deBruijn32tab), ("math/bits.deBruijn64tab", laid_math_bits_deBruijn64tab), ("internal/strconv.uint64pow10", laid_internal_strconv_uint64pow10)], narrowed := true }
def PrinterPartsUptoSaid : Prop := printerPartsUptoRow.holds Tryz.pinned (OpenSpec.upto printerPartsSpec)

/-- 'caltroplaw07.PrinterBack', WHERE WHAT IT READS IS OF BULK AT MOST 1048576: true; the input reads as it did. -/
def printerBackUptoRow : OpenClaim := { program := "ytpiimcbbgalhfaagreatdoor", sum := "e61a10e8b81f5682361f522e24386611af0a0a82b872cc7d6f4da58ff6e96682", func := "caltrop/caltroplaw07.PrinterBack", spec := "printerBack", inPlace := ["internal/bytealg.IndexByteString", "internal/bytealg.IndexString", "internal/abi.NoEscape"], unfollowed := true, recurses := true, named := ["math/bits.deBruijn64tab", "internal/bytealg.MaxLen", "internal/strconv.uint64pow10", "math/bits.deBruijn32tab"], plainKeys := false, apart := false, laid := [("math/bits.deBruijn32tab", laid_math_bits_deBruijn32tab), ("math/bits.deBruijn64tab", laid_math_bits_deBruijn64tab), ("internal/strconv.uint64pow10", laid_internal_strconv_uint64pow10)], narrowed := true }
def PrinterBackUptoSaid : Prop := printerBackUptoRow.holds Tryz.pinned (OpenSpec.upto printerBackSpec)

/-- 'caltroplaw09.WeighNone', WHERE WHAT IT READS IS OF BULK AT MOST 1048576: true; the input reads as it did. -/
def weighNoneUptoRow : OpenClaim := { program := "ytpiimcbbgalhfaagreatdoor", sum := "e61a10e8b81f5682361f522e24386611af0a0a82b872cc7d6f4da58ff6e96682", func := "caltrop/caltroplaw09.WeighNone", spec := "weighNone", inPlace := ["math/bits.Add64", "internal/bytealg.IndexByteString"], unfollowed := true, recurses := true, named := ["math/bits.deBruijn64tab"], plainKeys := false, apart := false, laid := [("math/bits.deBruijn64tab", laid_math_bits_deBruijn64tab)], narrowed := true }
def WeighNoneUptoSaid : Prop := weighNoneUptoRow.holds Tryz.pinned (OpenSpec.upto weighNoneSpec)

/-- 'caltroplaw09.WeighCats', WHERE WHAT IT READS IS OF BULK AT MOST 1048576: true; the input reads as it did. -/
def weighCatsUptoRow : OpenClaim := { program := "ytpiimcbbgalhfaagreatdoor", sum := "e61a10e8b81f5682361f522e24386611af0a0a82b872cc7d6f4da58ff6e96682", func := "caltrop/caltroplaw09.WeighCats", spec := "weighCats", inPlace := ["internal/bytealg.IndexByteString", "math/bits.Add64"], unfollowed := true, recurses := true, named := ["math/bits.deBruijn64tab"], plainKeys := false, apart := false, laid := [("math/bits.deBruijn64tab", laid_math_bits_deBruijn64tab)], narrowed := true }
def WeighCatsUptoSaid : Prop := weighCatsUptoRow.holds Tryz.pinned (OpenSpec.upto weighCatsSpec)

/-- 'caltroplaw13.WaysNone', WHERE WHAT IT READS IS OF BULK AT MOST 1048576: true; the input reads as it did. -/
def waysNoneUptoRow : OpenClaim := { program := "ytpiimcbbgalhfaagreatdoor", sum := "e61a10e8b81f5682361f522e24386611af0a0a82b872cc7d6f4da58ff6e96682", func := "caltrop/caltroplaw13.WaysNone", spec := "waysNone", inPlace := ["internal/bytealg.IndexByteString", "math/bits.Add64"], unfollowed := true, recurses := true, named := ["math/bits.deBruijn64tab"], plainKeys := false, apart := false, laid := [("math/bits.deBruijn64tab", laid_math_bits_deBruijn64tab)], narrowed := true }
def WaysNoneUptoSaid : Prop := waysNoneUptoRow.holds Tryz.pinned (OpenSpec.upto waysNoneSpec)

/-- 'caltroplaw25.TraceNone', WHERE WHAT IT READS IS OF BULK AT MOST 1048576: true; the input reads as it did. -/
def traceNoneUptoRow : OpenClaim := { program := "ytpiimcbbgalhfaagreatdoor", sum := "e61a10e8b81f5682361f522e24386611af0a0a82b872cc7d6f4da58ff6e96682", func := "caltrop/caltroplaw25.TraceNone", spec := "traceNone", inPlace := ["internal/bytealg.IndexByteString", "math/bits.Add64", "internal/abi.NoEscape", "internal/bytealg.MakeNoZero"], unfollowed := true, recurses := true, named := ["math/bits.deBruijn64tab", "internal/strconv.uint64pow10", "math/bits.deBruijn32tab"], plainKeys := false, apart := false, laid := [("math/bits.deBruijn32tab", laid_math_bits_deBruijn32tab), ("math/bits.deBruijn64tab", laid_math_bits_deBruijn64tab), ("internal/strconv.uint64pow10", laid_internal_strconv_uint64pow10)], narrowed := true }
def TraceNoneUptoSaid : Prop := traceNoneUptoRow.holds Tryz.pinned (OpenSpec.upto traceNoneSpec)

/-- 'caltroplaw11.MemberNone', WHERE WHAT IT READS IS OF BULK AT MOST 1048576: true; the input reads as it did. -/
def memberNoneUptoRow : OpenClaim := { program := "ytpiimcbbgalhfaagreatdoor", sum := "e61a10e8b81f5682361f522e24386611af0a0a82b872cc7d6f4da58ff6e96682", func := "caltrop/caltroplaw11.MemberNone", spec := "memberNone", inPlace := ["internal/bytealg.IndexByteString", "math/bits.Add64"], unfollowed := true, recurses := true, named := ["math/bits.deBruijn64tab"], plainKeys := false, apart := false, laid := [("math/bits.deBruijn64tab", laid_math_bits_deBruijn64tab)], narrowed := true }
def MemberNoneUptoSaid : Prop := memberNoneUptoRow.holds Tryz.pinned (OpenSpec.upto memberNoneSpec)

/-- 'caltroplaw27.SameNone', WHERE WHAT IT READS IS OF BULK AT MOST 1048576: true; the input reads as it did. -/
def sameNoneUptoRow : OpenClaim := { program := "ytpiimcbbgalhfaagreatdoor", sum := "e61a10e8b81f5682361f522e24386611af0a0a82b872cc7d6f4da58ff6e96682", func := "caltrop/caltroplaw27.SameNone", spec := "sameNone", inPlace := ["internal/bytealg.IndexByteString", "math/bits.Add64"], unfollowed := true, recurses := true, named := ["math/bits.deBruijn64tab"], plainKeys := false, apart := false, laid := [("math/bits.deBruijn64tab", laid_math_bits_deBruijn64tab)], narrowed := true }
def SameNoneUptoSaid : Prop := sameNoneUptoRow.holds Tryz.pinned (OpenSpec.upto sameNoneSpec)

end Rows
end Go.Proofs.YtpiimcbbgalhfaaGreatDoor
