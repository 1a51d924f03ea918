/-
  NARROWER THAN 'FOR EVERY INPUT', by the rows' own cells (each row's printed sentence says how): PrinterApart: laid · PrinterNone: laid · PrinterParts: laid · PrinterBack: laid · CoreNone: laid · CoreSame: laid · WeighNone: laid · WaysNone: laid · TraceNone: laid · MemberNone: laid · SquareNone: laid.
  DERIVED. THE GIVEN ROWS OF THIS SEAT. 11 by the template 'for every input the law returns true; each argument reads behind the call as it read before'; 0 by the template 'total and deterministic' (their statements: YtimcmnnfpomnbaaGreatDoorTotals.lean).
  GIVEN WITH THE SEED: the statements are not yours to turn. If you find one false, say at which input.
  Laid BY PROGRAM, IN A SANDBOX (cutbox-rows.mjs): the forced cells as the released guide's own fill.sh prints them over the translation 534596753f3f5bd6… (all of the seat's roots in one cut). By AI agents, Wed Nov 11 2026. No macro, syntax, notation, axiom, sorry.
-/
import Derived.Test.YtimcmnnfpomnbaaGreatDoorChecked
import GoSem.Claim
import GoSem.ClaimJoined
import GoSem.ClaimMapViews
import Derived.JoinedTies
import Derived.KernelRfl
namespace Go.Proofs.YtimcmnnfpomnbaaGreatDoor
/- THE CELL 'sum', in the pinned program and in every row, IS THE sha256 OF THE DUMP (.gsa) THAT YtimcmnnfpomnbaaGreatDoorProg.lean LOADS. Nothing in Lean hashes anything: it is a label: what it is worth is what the hold of that sum in a sandbox is worth. -/
noncomputable def Tryz.pinned : Pinned := { name := "ytimcmnnfpomnbaagreatdoor", sum := "534596753f3f5bd65d4bec6e9617c8cb69c21cd41bac721174104db037586c10", checked := Tryz.checked }
namespace Rows
def none {H : Type} : Left H := { results := [], args := [] }

/- WHAT THE LISTED PACKAGE-LEVEL VARIABLES READ AS WHEN THE CALL BEGINS. Each datum BY PROGRAM (the guide's laid-datum.mjs) off the statement by which the dump's own 'gosem.cut.vars' lays the variable. In a bare row this is a premise. The card (YtimcmnnfpomnbaaGreatDoorCards.lean) ties it to the program's text. -/
def laid_math_bits_deBruijn32tab {H : Type} : DataW H := .agg [.lit (.int .u8 0), .lit (.int .u8 1), .lit (.int .u8 28), .lit (.int .u8 2), .lit (.int .u8 29), .lit (.int .u8 14), .lit (.int .u8 24), .lit (.int .u8 3), .lit (.int .u8 30), .lit (.int .u8 22), .lit (.int .u8 20), .lit (.int .u8 15), .lit (.int .u8 25), .lit (.int .u8 17), .lit (.int .u8 4), .lit (.int .u8 8), .lit (.int .u8 31), .lit (.int .u8 27), .lit (.int .u8 13), .lit (.int .u8 23), .lit (.int .u8 21), .lit (.int .u8 19), .lit (.int .u8 16), .lit (.int .u8 7), .lit (.int .u8 26), .lit (.int .u8 12), .lit (.int .u8 18), .lit (.int .u8 6), .lit (.int .u8 11), .lit (.int .u8 5), .lit (.int .u8 10), .lit (.int .u8 9)]
def laid_math_bits_deBruijn64tab {H : Type} : DataW H := .agg [.lit (.int .u8 0), .lit (.int .u8 1), .lit (.int .u8 56), .lit (.int .u8 2), .lit (.int .u8 57), .lit (.int .u8 49), .lit (.int .u8 28), .lit (.int .u8 3), .lit (.int .u8 61), .lit (.int .u8 58), .lit (.int .u8 42), .lit (.int .u8 50), .lit (.int .u8 38), .lit (.int .u8 29), .lit (.int .u8 17), .lit (.int .u8 4), .lit (.int .u8 62), .lit (.int .u8 47), .lit (.int .u8 59), .lit (.int .u8 36), .lit (.int .u8 45), .lit (.int .u8 43), .lit (.int .u8 51), .lit (.int .u8 22), .lit (.int .u8 53), .lit (.int .u8 39), .lit (.int .u8 33), .lit (.int .u8 30), .lit (.int .u8 24), .lit (.int .u8 18), .lit (.int .u8 12), .lit (.int .u8 5), .lit (.int .u8 63), .lit (.int .u8 55), .lit (.int .u8 48), .lit (.int .u8 27), .lit (.int .u8 60), .lit (.int .u8 41), .lit (.int .u8 37), .lit (.int .u8 16), .lit (.int .u8 46), .lit (.int .u8 35), .lit (.int .u8 44), .lit (.int .u8 21), .lit (.int .u8 52), .lit (.int .u8 32), .lit (.int .u8 23), .lit (.int .u8 11), .lit (.int .u8 54), .lit (.int .u8 26), .lit (.int .u8 40), .lit (.int .u8 15), .lit (.int .u8 34), .lit (.int .u8 20), .lit (.int .u8 31), .lit (.int .u8 10), .lit (.int .u8 25), .lit (.int .u8 14), .lit (.int .u8 19), .lit (.int .u8 9), .lit (.int .u8 13), .lit (.int .u8 8), .lit (.int .u8 7), .lit (.int .u8 6)]
def laid_internal_strconv_uint64pow10 {H : Type} : DataW H := .agg [.lit (.int .u64 1), .lit (.int .u64 10), .lit (.int .u64 100), .lit (.int .u64 1000), .lit (.int .u64 10000), .lit (.int .u64 100000), .lit (.int .u64 1000000), .lit (.int .u64 10000000), .lit (.int .u64 100000000), .lit (.int .u64 1000000000), .lit (.int .u64 10000000000), .lit (.int .u64 100000000000), .lit (.int .u64 1000000000000), .lit (.int .u64 10000000000000), .lit (.int .u64 100000000000000), .lit (.int .u64 1000000000000000), .lit (.int .u64 10000000000000000), .lit (.int .u64 100000000000000000), .lit (.int .u64 1000000000000000000), .lit (.int .u64 10000000000000000000)]

/-- 'caltroplaw07.PrinterApart': WHATEVER THE INPUT: true; the input reads as it did. -/
def printerApartSpec : ChangeSpec := { name := "printerApart", fn := fun _ => fun
  | [d1, d2, d3, d4] => { results := [.lit (.bool true)], args := [d1, d2, d3, d4] }
  | _ => none }
def printerApartRow : OpenClaim := { program := "ytimcmnnfpomnbaagreatdoor", sum := "534596753f3f5bd65d4bec6e9617c8cb69c21cd41bac721174104db037586c10", func := "caltrop/caltroplaw07.PrinterApart", spec := "printerApart", inPlace := ["internal/bytealg.IndexByteString", "internal/bytealg.IndexString", "internal/abi.NoEscape"], unfollowed := true, recurses := true, named := ["math/bits.deBruijn64tab", "internal/bytealg.MaxLen", "internal/strconv.uint64pow10", "math/bits.deBruijn32tab"], plainKeys := false, apart := false, laid := [("math/bits.deBruijn32tab", laid_math_bits_deBruijn32tab), ("math/bits.deBruijn64tab", laid_math_bits_deBruijn64tab), ("internal/strconv.uint64pow10", laid_internal_strconv_uint64pow10)] }
def PrinterApartSaid : Prop := printerApartRow.holds Tryz.pinned (OpenSpec.ofChange printerApartSpec)

/-- ITS FALSE NEIGHBOUR: 'it returns false'. Refute it at one input. -/
def printerApartWrong : ChangeSpec := { name := "printerApart", fn := fun _ => fun
  | [d1, d2, d3, d4] => { results := [.lit (.bool false)], args := [d1, d2, d3, d4] }
  | _ => none }
def PrinterApartWrongFalsely : Prop := printerApartRow.holds Tryz.pinned (OpenSpec.ofChange printerApartWrong)

/-- 'caltroplaw07.PrinterNone': WHATEVER THE INPUT: true; the input reads as it did. -/
def printerNoneSpec : ChangeSpec := { name := "printerNone", fn := fun _ => fun
  | [d] => { results := [.lit (.bool true)], args := [d] }
  | _ => none }
def printerNoneRow : OpenClaim := { program := "ytimcmnnfpomnbaagreatdoor", sum := "534596753f3f5bd65d4bec6e9617c8cb69c21cd41bac721174104db037586c10", func := "caltrop/caltroplaw07.PrinterNone", spec := "printerNone", inPlace := ["internal/bytealg.IndexByteString", "internal/bytealg.IndexString", "internal/abi.NoEscape"], unfollowed := true, recurses := true, named := ["math/bits.deBruijn64tab", "internal/bytealg.MaxLen", "internal/strconv.uint64pow10", "math/bits.deBruijn32tab"], plainKeys := false, apart := false, laid := [("math/bits.deBruijn32tab", laid_math_bits_deBruijn32tab), ("math/bits.deBruijn64tab", laid_math_bits_deBruijn64tab), ("internal/strconv.uint64pow10", laid_internal_strconv_uint64pow10)] }
def PrinterNoneSaid : Prop := printerNoneRow.holds Tryz.pinned (OpenSpec.ofChange printerNoneSpec)

/-- ITS FALSE NEIGHBOUR: 'it returns false'. Refute it at one input. -/
def printerNoneWrong : ChangeSpec := { name := "printerNone", fn := fun _ => fun
  | [d] => { results := [.lit (.bool false)], args := [d] }
  | _ => none }
def PrinterNoneWrongFalsely : Prop := printerNoneRow.holds Tryz.pinned (OpenSpec.ofChange printerNoneWrong)

/-- 'caltroplaw07.PrinterParts': WHATEVER THE INPUT: true; the input reads as it did. -/
def printerPartsSpec : ChangeSpec := { name := "printerParts", fn := fun _ => fun
  | [d1, d2, d3, d4, d5] => { results := [.lit (.bool true)], args := [d1, d2, d3, d4, d5] }
  | _ => none }
def printerPartsRow : OpenClaim := { program := "ytimcmnnfpomnbaagreatdoor", sum := "534596753f3f5bd65d4bec6e9617c8cb69c21cd41bac721174104db037586c10", func := "caltrop/caltroplaw07.PrinterParts", spec := "printerParts", inPlace := ["internal/bytealg.IndexByteString", "internal/bytealg.IndexString", "internal/abi.NoEscape"], unfollowed := true, recurses := true, named := ["math/bits.deBruijn64tab", "internal/bytealg.MaxLen", "internal/strconv.uint64pow10", "math/bits.deBruijn32tab"], plainKeys := false, apart := false, laid := [("math/bits.deBruijn32tab", laid_math_bits_deBruijn32tab), ("math/bits.deBruijn64tab", laid_math_bits_deBruijn64tab), ("internal/strconv.uint64pow10", laid_internal_strconv_uint64pow10)] }
def PrinterPartsSaid : Prop := printerPartsRow.holds Tryz.pinned (OpenSpec.ofChange printerPartsSpec)

/-- ITS FALSE NEIGHBOUR: 'it returns false'. Refute it at one input. -/
def printerPartsWrong : ChangeSpec := { name := "printerParts", fn := fun _ => fun
  | [d1, d2, d3, d4, d5] => { results := [.lit (.bool false)], args := [d1, d2, d3, d4, d5] }
  | _ => none }
def PrinterPartsWrongFalsely : Prop := printerPartsRow.holds Tryz.pinned (OpenSpec.ofChange printerPartsWrong)

/-- 'caltroplaw07.PrinterBack': WHATEVER THE INPUT: true; the input reads as it did. -/
def printerBackSpec : ChangeSpec := { name := "printerBack", fn := fun _ => fun
  | [d] => { results := [.lit (.bool true)], args := [d] }
  | _ => none }
def printerBackRow : OpenClaim := { program := "ytimcmnnfpomnbaagreatdoor", sum := "534596753f3f5bd65d4bec6e9617c8cb69c21cd41bac721174104db037586c10", func := "caltrop/caltroplaw07.PrinterBack", spec := "printerBack", inPlace := ["internal/bytealg.IndexByteString", "internal/bytealg.IndexString", "internal/abi.NoEscape"], unfollowed := true, recurses := true, named := ["math/bits.deBruijn64tab", "internal/bytealg.MaxLen", "internal/strconv.uint64pow10", "math/bits.deBruijn32tab"], plainKeys := false, apart := false, laid := [("math/bits.deBruijn32tab", laid_math_bits_deBruijn32tab), ("math/bits.deBruijn64tab", laid_math_bits_deBruijn64tab), ("internal/strconv.uint64pow10", laid_internal_strconv_uint64pow10)] }
def PrinterBackSaid : Prop := printerBackRow.holds Tryz.pinned (OpenSpec.ofChange printerBackSpec)

/-- ITS FALSE NEIGHBOUR: 'it returns false'. Refute it at one input. -/
def printerBackWrong : ChangeSpec := { name := "printerBack", fn := fun _ => fun
  | [d] => { results := [.lit (.bool false)], args := [d] }
  | _ => none }
def PrinterBackWrongFalsely : Prop := printerBackRow.holds Tryz.pinned (OpenSpec.ofChange printerBackWrong)

/-- 'caltroplaw08.CoreNone': WHATEVER THE INPUT: true; the input reads as it did. -/
def coreNoneSpec : ChangeSpec := { name := "coreNone", fn := fun _ => fun
  | [d] => { results := [.lit (.bool true)], args := [d] }
  | _ => none }
def coreNoneRow : OpenClaim := { program := "ytimcmnnfpomnbaagreatdoor", sum := "534596753f3f5bd65d4bec6e9617c8cb69c21cd41bac721174104db037586c10", func := "caltrop/caltroplaw08.CoreNone", spec := "coreNone", inPlace := ["math/bits.Add64", "internal/bytealg.IndexByteString", "internal/bytealg.IndexString", "internal/abi.NoEscape"], unfollowed := true, recurses := true, named := ["math/bits.deBruijn64tab", "internal/bytealg.MaxLen"], plainKeys := false, apart := false, laid := [("math/bits.deBruijn64tab", laid_math_bits_deBruijn64tab)] }
def CoreNoneSaid : Prop := coreNoneRow.holds Tryz.pinned (OpenSpec.ofChange coreNoneSpec)

/-- ITS FALSE NEIGHBOUR: 'it returns false'. Refute it at one input. -/
def coreNoneWrong : ChangeSpec := { name := "coreNone", fn := fun _ => fun
  | [d] => { results := [.lit (.bool false)], args := [d] }
  | _ => none }
def CoreNoneWrongFalsely : Prop := coreNoneRow.holds Tryz.pinned (OpenSpec.ofChange coreNoneWrong)

/-- 'caltroplaw08.CoreSame': WHATEVER THE INPUT: true; the input reads as it did. -/
def coreSameSpec : ChangeSpec := { name := "coreSame", fn := fun _ => fun
  | [d1, d2, d3] => { results := [.lit (.bool true)], args := [d1, d2, d3] }
  | _ => none }
def coreSameRow : OpenClaim := { program := "ytimcmnnfpomnbaagreatdoor", sum := "534596753f3f5bd65d4bec6e9617c8cb69c21cd41bac721174104db037586c10", func := "caltrop/caltroplaw08.CoreSame", spec := "coreSame", inPlace := ["internal/bytealg.IndexByteString", "math/bits.Add64", "internal/bytealg.IndexString", "internal/abi.NoEscape"], unfollowed := true, recurses := true, named := ["math/bits.deBruijn64tab", "internal/bytealg.MaxLen"], plainKeys := false, apart := false, laid := [("math/bits.deBruijn64tab", laid_math_bits_deBruijn64tab)] }
def CoreSameSaid : Prop := coreSameRow.holds Tryz.pinned (OpenSpec.ofChange coreSameSpec)

/-- ITS FALSE NEIGHBOUR: 'it returns false'. Refute it at one input. -/
def coreSameWrong : ChangeSpec := { name := "coreSame", fn := fun _ => fun
  | [d1, d2, d3] => { results := [.lit (.bool false)], args := [d1, d2, d3] }
  | _ => none }
def CoreSameWrongFalsely : Prop := coreSameRow.holds Tryz.pinned (OpenSpec.ofChange coreSameWrong)

/-- 'caltroplaw09.WeighNone': WHATEVER THE INPUT: true; the input reads as it did. -/
def weighNoneSpec : ChangeSpec := { name := "weighNone", fn := fun _ => fun
  | [d] => { results := [.lit (.bool true)], args := [d] }
  | _ => none }
def weighNoneRow : OpenClaim := { program := "ytimcmnnfpomnbaagreatdoor", sum := "534596753f3f5bd65d4bec6e9617c8cb69c21cd41bac721174104db037586c10", func := "caltrop/caltroplaw09.WeighNone", spec := "weighNone", inPlace := ["math/bits.Add64", "internal/bytealg.IndexByteString"], unfollowed := true, recurses := true, named := ["math/bits.deBruijn64tab"], plainKeys := false, apart := false, laid := [("math/bits.deBruijn64tab", laid_math_bits_deBruijn64tab)] }
def WeighNoneSaid : Prop := weighNoneRow.holds Tryz.pinned (OpenSpec.ofChange weighNoneSpec)

/-- ITS FALSE NEIGHBOUR: 'it returns false'. Refute it at one input. -/
def weighNoneWrong : ChangeSpec := { name := "weighNone", fn := fun _ => fun
  | [d] => { results := [.lit (.bool false)], args := [d] }
  | _ => none }
def WeighNoneWrongFalsely : Prop := weighNoneRow.holds Tryz.pinned (OpenSpec.ofChange weighNoneWrong)

/-- 'caltroplaw13.WaysNone': WHATEVER THE INPUT: true; the input reads as it did. -/
def waysNoneSpec : ChangeSpec := { name := "waysNone", fn := fun _ => fun
  | [d1, d2] => { results := [.lit (.bool true)], args := [d1, d2] }
  | _ => none }
def waysNoneRow : OpenClaim := { program := "ytimcmnnfpomnbaagreatdoor", sum := "534596753f3f5bd65d4bec6e9617c8cb69c21cd41bac721174104db037586c10", func := "caltrop/caltroplaw13.WaysNone", spec := "waysNone", inPlace := ["internal/bytealg.IndexByteString", "math/bits.Add64"], unfollowed := true, recurses := true, named := ["math/bits.deBruijn64tab"], plainKeys := false, apart := false, laid := [("math/bits.deBruijn64tab", laid_math_bits_deBruijn64tab)] }
def WaysNoneSaid : Prop := waysNoneRow.holds Tryz.pinned (OpenSpec.ofChange waysNoneSpec)

/-- ITS FALSE NEIGHBOUR: 'it returns false'. Refute it at one input. -/
def waysNoneWrong : ChangeSpec := { name := "waysNone", fn := fun _ => fun
  | [d1, d2] => { results := [.lit (.bool false)], args := [d1, d2] }
  | _ => none }
def WaysNoneWrongFalsely : Prop := waysNoneRow.holds Tryz.pinned (OpenSpec.ofChange waysNoneWrong)

/-- 'caltroplaw25.TraceNone': WHATEVER THE INPUT: true; the input reads as it did. -/
def traceNoneSpec : ChangeSpec := { name := "traceNone", fn := fun _ => fun
  | [d1, d2] => { results := [.lit (.bool true)], args := [d1, d2] }
  | _ => none }
def traceNoneRow : OpenClaim := { program := "ytimcmnnfpomnbaagreatdoor", sum := "534596753f3f5bd65d4bec6e9617c8cb69c21cd41bac721174104db037586c10", func := "caltrop/caltroplaw25.TraceNone", spec := "traceNone", inPlace := ["internal/bytealg.IndexByteString", "math/bits.Add64", "internal/abi.NoEscape", "internal/bytealg.MakeNoZero"], unfollowed := true, recurses := true, named := ["math/bits.deBruijn64tab", "internal/strconv.uint64pow10", "math/bits.deBruijn32tab"], plainKeys := false, apart := false, laid := [("math/bits.deBruijn32tab", laid_math_bits_deBruijn32tab), ("math/bits.deBruijn64tab", laid_math_bits_deBruijn64tab), ("internal/strconv.uint64pow10", laid_internal_strconv_uint64pow10)] }
def TraceNoneSaid : Prop := traceNoneRow.holds Tryz.pinned (OpenSpec.ofChange traceNoneSpec)

/-- ITS FALSE NEIGHBOUR: 'it returns false'. Refute it at one input. -/
def traceNoneWrong : ChangeSpec := { name := "traceNone", fn := fun _ => fun
  | [d1, d2] => { results := [.lit (.bool false)], args := [d1, d2] }
  | _ => none }
def TraceNoneWrongFalsely : Prop := traceNoneRow.holds Tryz.pinned (OpenSpec.ofChange traceNoneWrong)

/-- 'caltroplaw11.MemberNone': WHATEVER THE INPUT: true; the input reads as it did. -/
def memberNoneSpec : ChangeSpec := { name := "memberNone", fn := fun _ => fun
  | [d] => { results := [.lit (.bool true)], args := [d] }
  | _ => none }
def memberNoneRow : OpenClaim := { program := "ytimcmnnfpomnbaagreatdoor", sum := "534596753f3f5bd65d4bec6e9617c8cb69c21cd41bac721174104db037586c10", func := "caltrop/caltroplaw11.MemberNone", spec := "memberNone", inPlace := ["internal/bytealg.IndexByteString", "math/bits.Add64"], unfollowed := true, recurses := true, named := ["math/bits.deBruijn64tab"], plainKeys := false, apart := false, laid := [("math/bits.deBruijn64tab", laid_math_bits_deBruijn64tab)] }
def MemberNoneSaid : Prop := memberNoneRow.holds Tryz.pinned (OpenSpec.ofChange memberNoneSpec)

/-- ITS FALSE NEIGHBOUR: 'it returns false'. Refute it at one input. -/
def memberNoneWrong : ChangeSpec := { name := "memberNone", fn := fun _ => fun
  | [d] => { results := [.lit (.bool false)], args := [d] }
  | _ => none }
def MemberNoneWrongFalsely : Prop := memberNoneRow.holds Tryz.pinned (OpenSpec.ofChange memberNoneWrong)

/-- 'caltroplaw15.SquareNone': WHATEVER THE INPUT: true; the input reads as it did. -/
def squareNoneSpec : ChangeSpec := { name := "squareNone", fn := fun _ => fun
  | [d] => { results := [.lit (.bool true)], args := [d] }
  | _ => none }
def squareNoneRow : OpenClaim := { program := "ytimcmnnfpomnbaagreatdoor", sum := "534596753f3f5bd65d4bec6e9617c8cb69c21cd41bac721174104db037586c10", func := "caltrop/caltroplaw15.SquareNone", spec := "squareNone", inPlace := ["internal/bytealg.IndexByteString", "math/bits.Add64"], unfollowed := true, recurses := true, named := ["math/bits.deBruijn64tab"], plainKeys := false, apart := false, laid := [("math/bits.deBruijn64tab", laid_math_bits_deBruijn64tab)] }
def SquareNoneSaid : Prop := squareNoneRow.holds Tryz.pinned (OpenSpec.ofChange squareNoneSpec)

/-- ITS FALSE NEIGHBOUR: 'it returns false'. Refute it at one input. -/
def squareNoneWrong : ChangeSpec := { name := "squareNone", fn := fun _ => fun
  | [d] => { results := [.lit (.bool false)], args := [d] }
  | _ => none }
def SquareNoneWrongFalsely : Prop := squareNoneRow.holds Tryz.pinned (OpenSpec.ofChange squareNoneWrong)

/- THE SECOND FORM. 'bulk': how many values and letters a reading holds, each counted each time it is reached (what is shared counts as often as it is met; a slice's spare places count too). A statement '..UptoSaid' is the law's where the arguments, and the package variables that the reading takes, are together of bulk at most 1048576: NARROWER than '..Said'. Prove '..Said' where nothing that the law and all that it calls make is longer than what came in: it says more and counts as full. Else prove '..UptoSaid'. A law counts once. -/
mutual
def uptoBulk {H : Type} : DataW H → Nat
  | .lit (.string bytes) => bytes.length + 1
  | .lit _ => 1
  | .nil => 1
  | .ptr d => uptoBulk d + 1
  | .slice elems spare => uptoBulkAll elems + uptoBulkAll spare + 1
  | .agg parts => uptoBulkAll parts + 1
  | .iface _ d => uptoBulk d + 1
  | .map entries => uptoBulkEntries entries + 1
  | .held _ => 1
def uptoBulkAll {H : Type} : List (DataW H) → Nat
  | [] => 0
  | d :: r => uptoBulk d + uptoBulkAll r
def uptoBulkEntries {H : Type} : List (Lit × DataW H) → Nat
  | [] => 0
  | x :: r => uptoBulkEntry x + uptoBulkEntries r
def uptoBulkEntry {H : Type} : Lit × DataW H → Nat
  | (.string bytes, d) => bytes.length + uptoBulk d + 1
  | (_, d) => uptoBulk d + 1
 end
def uptoSmall : (H : Type) → List (DataW H) → Bool := fun _ ds => decide (uptoBulkAll ds ≤ 1048576)
def OpenSpec.upto (s : _root_.Go.ChangeSpec) : _root_.Go.OpenSpec := { _root_.Go.OpenSpec.ofChange s with cond := some uptoSmall }

/-- 'caltroplaw07.PrinterApart', WHERE WHAT IT READS IS OF BULK AT MOST 1048576: true; the input reads as it did. -/
def printerApartUptoRow : OpenClaim := { program := "ytimcmnnfpomnbaagreatdoor", sum := "534596753f3f5bd65d4bec6e9617c8cb69c21cd41bac721174104db037586c10", func := "caltrop/caltroplaw07.PrinterApart", spec := "printerApart", inPlace := ["internal/bytealg.IndexByteString", "internal/bytealg.IndexString", "internal/abi.NoEscape"], unfollowed := true, recurses := true, named := ["math/bits.deBruijn64tab", "internal/bytealg.MaxLen", "internal/strconv.uint64pow10", "math/bits.deBruijn32tab"], plainKeys := false, apart := false, laid := [("math/bits.deBruijn32tab", laid_math_bits_deBruijn32tab), ("math/bits.deBruijn64tab", laid_math_bits_deBruijn64tab), ("internal/strconv.uint64pow10", laid_internal_strconv_uint64pow10)], narrowed := true }
def PrinterApartUptoSaid : Prop := printerApartUptoRow.holds Tryz.pinned (OpenSpec.upto printerApartSpec)

/-- 'caltroplaw07.PrinterNone', WHERE WHAT IT READS IS OF BULK AT MOST 1048576: true; the input reads as it did. -/
def printerNoneUptoRow : OpenClaim := { program := "ytimcmnnfpomnbaagreatdoor", sum := "534596753f3f5bd65d4bec6e9617c8cb69c21cd41bac721174104db037586c10", func := "caltrop/caltroplaw07.PrinterNone", spec := "printerNone", inPlace := ["internal/bytealg.IndexByteString", "internal/bytealg.IndexString", "internal/abi.NoEscape"], unfollowed := true, recurses := true, named := ["math/bits.deBruijn64tab", "internal/bytealg.MaxLen", "internal/strconv.uint64pow10", "math/bits.deBruijn32tab"], plainKeys := false, apart := false, laid := [("math/bits.deBruijn32tab", laid_math_bits_deBruijn32tab), ("math/bits.deBruijn64tab", laid_math_bits_deBruijn64tab), ("internal/strconv.uint64pow10", laid_internal_strconv_uint64pow10)], narrowed := true }
def PrinterNoneUptoSaid : Prop := printerNoneUptoRow.holds Tryz.pinned (OpenSpec.upto printerNoneSpec)

/-- 'caltroplaw07.PrinterParts', WHERE WHAT IT READS IS OF BULK AT MOST 1048576: true; the input reads as it did. -/
def printerPartsUptoRow : OpenClaim := { program := "ytimcmnnfpomnbaagreatdoor", sum := "534596753f3f5bd65d4bec6e9617c8cb69c21cd41bac721174104db037586c10", func := "caltrop/caltroplaw07.PrinterParts", spec := "printerParts", inPlace := ["internal/bytealg.IndexByteString", "internal/bytealg.IndexString", "internal/abi.NoEscape"], unfollowed := true, recurses := true, named := ["math/bits.deBruijn64tab", "internal/bytealg.MaxLen", "internal/strconv.uint64pow10", "math/bits.deBruijn32tab"], plainKeys := false, apart := false, laid := [("math/bits.deBruijn32tab", laid_math_bits_deBruijn32tab), ("math/bits.deBruijn64tab", laid_math_bits_deBruijn64tab), ("internal/strconv.uint64pow10", laid_internal_strconv_uint64pow10)], narrowed := true }
def PrinterPartsUptoSaid : Prop := printerPartsUptoRow.holds Tryz.pinned (OpenSpec.upto printerPartsSpec)

/-- 'caltroplaw07.PrinterBack', WHERE WHAT IT READS IS OF BULK AT MOST 1048576: true; the input reads as it did. -/
def printerBackUptoRow : OpenClaim := { program := "ytimcmnnfpomnbaagreatdoor", sum := "534596753f3f5bd65d4bec6e9617c8cb69c21cd41bac721174104db037586c10", func := "caltrop/caltroplaw07.PrinterBack", spec := "printerBack", inPlace := ["internal/bytealg.IndexByteString", "internal/bytealg.IndexString", "internal/abi.NoEscape"], unfollowed := true, recurses := true, named := ["math/bits.deBruijn64tab", "internal/bytealg.MaxLen", "internal/strconv.uint64pow10", "math/bits.deBruijn32tab"], plainKeys := false, apart := false, laid := [("math/bits.deBruijn32tab", laid_math_bits_deBruijn32tab), ("math/bits.deBruijn64tab", laid_math_bits_deBruijn64tab), ("internal/strconv.uint64pow10", laid_internal_strconv_uint64pow10)], narrowed := true }
def PrinterBackUptoSaid : Prop := printerBackUptoRow.holds Tryz.pinned (OpenSpec.upto printerBackSpec)

/-- 'caltroplaw08.CoreNone', WHERE WHAT IT READS IS OF BULK AT MOST 1048576: true; the input reads as it did. -/
def coreNoneUptoRow : OpenClaim := { program := "ytimcmnnfpomnbaagreatdoor", sum := "534596753f3f5bd65d4bec6e9617c8cb69c21cd41bac721174104db037586c10", func := "caltrop/caltroplaw08.CoreNone", spec := "coreNone", inPlace := ["math/bits.Add64", "internal/bytealg.IndexByteString", "internal/bytealg.IndexString", "internal/abi.NoEscape"], unfollowed := true, recurses := true, named := ["math/bits.deBruijn64tab", "internal/bytealg.MaxLen"], plainKeys := false, apart := false, laid := [("math/bits.deBruijn64tab", laid_math_bits_deBruijn64tab)], narrowed := true }
def CoreNoneUptoSaid : Prop := coreNoneUptoRow.holds Tryz.pinned (OpenSpec.upto coreNoneSpec)

/-- 'caltroplaw08.CoreSame', WHERE WHAT IT READS IS OF BULK AT MOST 1048576: true; the input reads as it did. -/
def coreSameUptoRow : OpenClaim := { program := "ytimcmnnfpomnbaagreatdoor", sum := "534596753f3f5bd65d4bec6e9617c8cb69c21cd41bac721174104db037586c10", func := "caltrop/caltroplaw08.CoreSame", spec := "coreSame", inPlace := ["internal/bytealg.IndexByteString", "math/bits.Add64", "internal/bytealg.IndexString", "internal/abi.NoEscape"], unfollowed := true, recurses := true, named := ["math/bits.deBruijn64tab", "internal/bytealg.MaxLen"], plainKeys := false, apart := false, laid := [("math/bits.deBruijn64tab", laid_math_bits_deBruijn64tab)], narrowed := true }
def CoreSameUptoSaid : Prop := coreSameUptoRow.holds Tryz.pinned (OpenSpec.upto coreSameSpec)

/-- 'caltroplaw09.WeighNone', WHERE WHAT IT READS IS OF BULK AT MOST 1048576: true; the input reads as it did. -/
def weighNoneUptoRow : OpenClaim := { program := "ytimcmnnfpomnbaagreatdoor", sum := "534596753f3f5bd65d4bec6e9617c8cb69c21cd41bac721174104db037586c10", func := "caltrop/caltroplaw09.WeighNone", spec := "weighNone", inPlace := ["math/bits.Add64", "internal/bytealg.IndexByteString"], unfollowed := true, recurses := true, named := ["math/bits.deBruijn64tab"], plainKeys := false, apart := false, laid := [("math/bits.deBruijn64tab", laid_math_bits_deBruijn64tab)], narrowed := true }
def WeighNoneUptoSaid : Prop := weighNoneUptoRow.holds Tryz.pinned (OpenSpec.upto weighNoneSpec)

/-- 'caltroplaw13.WaysNone', WHERE WHAT IT READS IS OF BULK AT MOST 1048576: true; the input reads as it did. -/
def waysNoneUptoRow : OpenClaim := { program := "ytimcmnnfpomnbaagreatdoor", sum := "534596753f3f5bd65d4bec6e9617c8cb69c21cd41bac721174104db037586c10", func := "caltrop/caltroplaw13.WaysNone", spec := "waysNone", inPlace := ["internal/bytealg.IndexByteString", "math/bits.Add64"], unfollowed := true, recurses := true, named := ["math/bits.deBruijn64tab"], plainKeys := false, apart := false, laid := [("math/bits.deBruijn64tab", laid_math_bits_deBruijn64tab)], narrowed := true }
def WaysNoneUptoSaid : Prop := waysNoneUptoRow.holds Tryz.pinned (OpenSpec.upto waysNoneSpec)

/-- 'caltroplaw25.TraceNone', WHERE WHAT IT READS IS OF BULK AT MOST 1048576: true; the input reads as it did. -/
def traceNoneUptoRow : OpenClaim := { program := "ytimcmnnfpomnbaagreatdoor", sum := "534596753f3f5bd65d4bec6e9617c8cb69c21cd41bac721174104db037586c10", func := "caltrop/caltroplaw25.TraceNone", spec := "traceNone", inPlace := ["internal/bytealg.IndexByteString", "math/bits.Add64", "internal/abi.NoEscape", "internal/bytealg.MakeNoZero"], unfollowed := true, recurses := true, named := ["math/bits.deBruijn64tab", "internal/strconv.uint64pow10", "math/bits.deBruijn32tab"], plainKeys := false, apart := false, laid := [("math/bits.deBruijn32tab", laid_math_bits_deBruijn32tab), ("math/bits.deBruijn64tab", laid_math_bits_deBruijn64tab), ("internal/strconv.uint64pow10", laid_internal_strconv_uint64pow10)], narrowed := true }
def TraceNoneUptoSaid : Prop := traceNoneUptoRow.holds Tryz.pinned (OpenSpec.upto traceNoneSpec)

/-- 'caltroplaw11.MemberNone', WHERE WHAT IT READS IS OF BULK AT MOST 1048576: true; the input reads as it did. -/
def memberNoneUptoRow : OpenClaim := { program := "ytimcmnnfpomnbaagreatdoor", sum := "534596753f3f5bd65d4bec6e9617c8cb69c21cd41bac721174104db037586c10", func := "caltrop/caltroplaw11.MemberNone", spec := "memberNone", inPlace := ["internal/bytealg.IndexByteString", "math/bits.Add64"], unfollowed := true, recurses := true, named := ["math/bits.deBruijn64tab"], plainKeys := false, apart := false, laid := [("math/bits.deBruijn64tab", laid_math_bits_deBruijn64tab)], narrowed := true }
def MemberNoneUptoSaid : Prop := memberNoneUptoRow.holds Tryz.pinned (OpenSpec.upto memberNoneSpec)

/-- 'caltroplaw15.SquareNone', WHERE WHAT IT READS IS OF BULK AT MOST 1048576: true; the input reads as it did. -/
def squareNoneUptoRow : OpenClaim := { program := "ytimcmnnfpomnbaagreatdoor", sum := "534596753f3f5bd65d4bec6e9617c8cb69c21cd41bac721174104db037586c10", func := "caltrop/caltroplaw15.SquareNone", spec := "squareNone", inPlace := ["internal/bytealg.IndexByteString", "math/bits.Add64"], unfollowed := true, recurses := true, named := ["math/bits.deBruijn64tab"], plainKeys := false, apart := false, laid := [("math/bits.deBruijn64tab", laid_math_bits_deBruijn64tab)], narrowed := true }
def SquareNoneUptoSaid : Prop := squareNoneUptoRow.holds Tryz.pinned (OpenSpec.upto squareNoneSpec)

end Rows
end Go.Proofs.YtimcmnnfpomnbaaGreatDoor
