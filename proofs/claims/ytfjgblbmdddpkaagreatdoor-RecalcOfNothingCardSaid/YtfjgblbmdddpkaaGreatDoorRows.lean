/-
  NARROWER THAN 'FOR EVERY INPUT', by the rows' own cells (each row's printed sentence says how): SemLast: laid · SemStands: laid · SemOf: laid · SemOfNothing: laid · RecalcMeans: laid · RecalcAgain: laid · RecalcPlays: laid · RecalcOfNothing: laid.
  DERIVED. THE GIVEN ROWS OF THIS SEAT. 8 by the template 'for every input the law returns true; each argument reads behind the call as it read before'; 0 by the template 'total and deterministic' (their statements: YtfjgblbmdddpkaaGreatDoorTotals.lean).
  GIVEN WITH THE SEED: the statements are not yours to turn. If you find one false, say at which input.
  Laid BY PROGRAM, IN A SANDBOX (cutbox-rows.mjs): the forced cells as the released guide's own fill.sh prints them over the translation aa9105d5568fd65b… (all of the seat's roots in one cut). By AI agents, Wed Nov 11 2026. No macro, syntax, notation, axiom, sorry.
-/
import Derived.Test.YtfjgblbmdddpkaaGreatDoorChecked
import GoSem.Claim
import GoSem.ClaimJoined
import GoSem.ClaimMapViews
import Derived.JoinedTies
import Derived.KernelRfl
namespace Go.Proofs.YtfjgblbmdddpkaaGreatDoor
/- THE CELL 'sum', in the pinned program and in every row, IS THE sha256 OF THE DUMP (.gsa) THAT YtfjgblbmdddpkaaGreatDoorProg.lean LOADS. Nothing in Lean hashes anything: it is a label: what it is worth is what the hold of that sum in a sandbox is worth. -/
noncomputable def Tryz.pinned : Pinned := { name := "ytfjgblbmdddpkaagreatdoor", sum := "aa9105d5568fd65b438b2d3561d0d3ce74471c68bb804e6c5338a2f1630c0dcd", checked := Tryz.checked }
namespace Rows
def none {H : Type} : Left H := { results := [], args := [] }

/- WHAT THE LISTED PACKAGE-LEVEL VARIABLES READ AS WHEN THE CALL BEGINS. Each datum BY PROGRAM (the guide's laid-datum.mjs) off the statement by which the dump's own 'gosem.cut.vars' lays the variable. In a bare row this is a premise. The card (YtfjgblbmdddpkaaGreatDoorCards.lean) ties it to the program's text. -/
def laid_math_bits_deBruijn32tab {H : Type} : DataW H := .agg [.lit (.int .u8 0), .lit (.int .u8 1), .lit (.int .u8 28), .lit (.int .u8 2), .lit (.int .u8 29), .lit (.int .u8 14), .lit (.int .u8 24), .lit (.int .u8 3), .lit (.int .u8 30), .lit (.int .u8 22), .lit (.int .u8 20), .lit (.int .u8 15), .lit (.int .u8 25), .lit (.int .u8 17), .lit (.int .u8 4), .lit (.int .u8 8), .lit (.int .u8 31), .lit (.int .u8 27), .lit (.int .u8 13), .lit (.int .u8 23), .lit (.int .u8 21), .lit (.int .u8 19), .lit (.int .u8 16), .lit (.int .u8 7), .lit (.int .u8 26), .lit (.int .u8 12), .lit (.int .u8 18), .lit (.int .u8 6), .lit (.int .u8 11), .lit (.int .u8 5), .lit (.int .u8 10), .lit (.int .u8 9)]
def laid_math_bits_deBruijn64tab {H : Type} : DataW H := .agg [.lit (.int .u8 0), .lit (.int .u8 1), .lit (.int .u8 56), .lit (.int .u8 2), .lit (.int .u8 57), .lit (.int .u8 49), .lit (.int .u8 28), .lit (.int .u8 3), .lit (.int .u8 61), .lit (.int .u8 58), .lit (.int .u8 42), .lit (.int .u8 50), .lit (.int .u8 38), .lit (.int .u8 29), .lit (.int .u8 17), .lit (.int .u8 4), .lit (.int .u8 62), .lit (.int .u8 47), .lit (.int .u8 59), .lit (.int .u8 36), .lit (.int .u8 45), .lit (.int .u8 43), .lit (.int .u8 51), .lit (.int .u8 22), .lit (.int .u8 53), .lit (.int .u8 39), .lit (.int .u8 33), .lit (.int .u8 30), .lit (.int .u8 24), .lit (.int .u8 18), .lit (.int .u8 12), .lit (.int .u8 5), .lit (.int .u8 63), .lit (.int .u8 55), .lit (.int .u8 48), .lit (.int .u8 27), .lit (.int .u8 60), .lit (.int .u8 41), .lit (.int .u8 37), .lit (.int .u8 16), .lit (.int .u8 46), .lit (.int .u8 35), .lit (.int .u8 44), .lit (.int .u8 21), .lit (.int .u8 52), .lit (.int .u8 32), .lit (.int .u8 23), .lit (.int .u8 11), .lit (.int .u8 54), .lit (.int .u8 26), .lit (.int .u8 40), .lit (.int .u8 15), .lit (.int .u8 34), .lit (.int .u8 20), .lit (.int .u8 31), .lit (.int .u8 10), .lit (.int .u8 25), .lit (.int .u8 14), .lit (.int .u8 19), .lit (.int .u8 9), .lit (.int .u8 13), .lit (.int .u8 8), .lit (.int .u8 7), .lit (.int .u8 6)]
def laid_internal_strconv_uint64pow10 {H : Type} : DataW H := .agg [.lit (.int .u64 1), .lit (.int .u64 10), .lit (.int .u64 100), .lit (.int .u64 1000), .lit (.int .u64 10000), .lit (.int .u64 100000), .lit (.int .u64 1000000), .lit (.int .u64 10000000), .lit (.int .u64 100000000), .lit (.int .u64 1000000000), .lit (.int .u64 10000000000), .lit (.int .u64 100000000000), .lit (.int .u64 1000000000000), .lit (.int .u64 10000000000000), .lit (.int .u64 100000000000000), .lit (.int .u64 1000000000000000), .lit (.int .u64 10000000000000000), .lit (.int .u64 100000000000000000), .lit (.int .u64 1000000000000000000), .lit (.int .u64 10000000000000000000)]
def laid_strconv_ErrRange {H : Type} : DataW H := .iface "*errors.errorString" (.ptr (.agg [.lit (.string [118, 97, 108, 117, 101, 32, 111, 117, 116, 32, 111, 102, 32, 114, 97, 110, 103, 101])]))
def laid_strconv_ErrSyntax {H : Type} : DataW H := .iface "*errors.errorString" (.ptr (.agg [.lit (.string [105, 110, 118, 97, 108, 105, 100, 32, 115, 121, 110, 116, 97, 120])]))

/-- 'formularylaw11.SemLast': WHATEVER THE INPUT: true; the input reads as it did. -/
def semLastSpec : ChangeSpec := { name := "semLast", fn := fun _ => fun
  | [d1, d2, d3] => { results := [.lit (.bool true)], args := [d1, d2, d3] }
  | _ => none }
def semLastRow : OpenClaim := { program := "ytfjgblbmdddpkaagreatdoor", sum := "aa9105d5568fd65b438b2d3561d0d3ce74471c68bb804e6c5338a2f1630c0dcd", func := "formulary/formularylaw11.SemLast", spec := "semLast", inPlace := ["math.Float64frombits", "internal/bytealg.IndexByteString", "internal/bytealg.IndexString", "math.Float64bits", "math.archTrunc", "internal/abi.NoEscape", "internal/bytealg.MakeNoZero", "math.archFloor"], unfollowed := true, recurses := true, named := ["strconv.ErrSyntax", "strconv.ErrRange", "internal/strconv.uint64pow10", "math/bits.deBruijn32tab", "math/bits.deBruijn64tab", "internal/bytealg.MaxLen"], apart := false, laid := [("math/bits.deBruijn32tab", laid_math_bits_deBruijn32tab), ("math/bits.deBruijn64tab", laid_math_bits_deBruijn64tab), ("internal/strconv.uint64pow10", laid_internal_strconv_uint64pow10), ("strconv.ErrRange", laid_strconv_ErrRange), ("strconv.ErrSyntax", laid_strconv_ErrSyntax)] }
def SemLastSaid : Prop := semLastRow.holds Tryz.pinned (OpenSpec.ofChange semLastSpec)

/-- ITS FALSE NEIGHBOUR: 'it returns false'. Refute it at one input. -/
def semLastWrong : ChangeSpec := { name := "semLast", fn := fun _ => fun
  | [d1, d2, d3] => { results := [.lit (.bool false)], args := [d1, d2, d3] }
  | _ => none }
def SemLastWrongFalsely : Prop := semLastRow.holds Tryz.pinned (OpenSpec.ofChange semLastWrong)

/-- 'formularylaw11.SemStands': WHATEVER THE INPUT: true; the input reads as it did. -/
def semStandsSpec : ChangeSpec := { name := "semStands", fn := fun _ => fun
  | [d1, d2] => { results := [.lit (.bool true)], args := [d1, d2] }
  | _ => none }
def semStandsRow : OpenClaim := { program := "ytfjgblbmdddpkaagreatdoor", sum := "aa9105d5568fd65b438b2d3561d0d3ce74471c68bb804e6c5338a2f1630c0dcd", func := "formulary/formularylaw11.SemStands", spec := "semStands", inPlace := ["math.Float64frombits", "internal/bytealg.IndexByteString", "internal/bytealg.IndexString", "math.Float64bits", "math.archTrunc", "internal/abi.NoEscape", "internal/bytealg.MakeNoZero", "math.archFloor"], unfollowed := true, recurses := true, named := ["strconv.ErrSyntax", "strconv.ErrRange", "internal/strconv.uint64pow10", "math/bits.deBruijn32tab", "math/bits.deBruijn64tab", "internal/bytealg.MaxLen"], apart := false, laid := [("math/bits.deBruijn32tab", laid_math_bits_deBruijn32tab), ("math/bits.deBruijn64tab", laid_math_bits_deBruijn64tab), ("internal/strconv.uint64pow10", laid_internal_strconv_uint64pow10), ("strconv.ErrRange", laid_strconv_ErrRange), ("strconv.ErrSyntax", laid_strconv_ErrSyntax)] }
def SemStandsSaid : Prop := semStandsRow.holds Tryz.pinned (OpenSpec.ofChange semStandsSpec)

/-- ITS FALSE NEIGHBOUR: 'it returns false'. Refute it at one input. -/
def semStandsWrong : ChangeSpec := { name := "semStands", fn := fun _ => fun
  | [d1, d2] => { results := [.lit (.bool false)], args := [d1, d2] }
  | _ => none }
def SemStandsWrongFalsely : Prop := semStandsRow.holds Tryz.pinned (OpenSpec.ofChange semStandsWrong)

/-- 'formularylaw11.SemOf': WHATEVER THE INPUT: true; the input reads as it did. -/
def semOfSpec : ChangeSpec := { name := "semOf", fn := fun _ => fun
  | [d1, d2] => { results := [.lit (.bool true)], args := [d1, d2] }
  | _ => none }
def semOfRow : OpenClaim := { program := "ytfjgblbmdddpkaagreatdoor", sum := "aa9105d5568fd65b438b2d3561d0d3ce74471c68bb804e6c5338a2f1630c0dcd", func := "formulary/formularylaw11.SemOf", spec := "semOf", inPlace := ["math.Float64frombits", "math.Float64bits", "internal/bytealg.IndexByteString", "internal/bytealg.IndexString", "math.archTrunc", "internal/abi.NoEscape", "internal/bytealg.MakeNoZero", "math.archFloor"], unfollowed := true, recurses := true, named := ["strconv.ErrSyntax", "strconv.ErrRange", "internal/strconv.uint64pow10", "math/bits.deBruijn32tab", "math/bits.deBruijn64tab", "internal/bytealg.MaxLen"], apart := false, laid := [("math/bits.deBruijn32tab", laid_math_bits_deBruijn32tab), ("math/bits.deBruijn64tab", laid_math_bits_deBruijn64tab), ("internal/strconv.uint64pow10", laid_internal_strconv_uint64pow10), ("strconv.ErrRange", laid_strconv_ErrRange), ("strconv.ErrSyntax", laid_strconv_ErrSyntax)] }
def SemOfSaid : Prop := semOfRow.holds Tryz.pinned (OpenSpec.ofChange semOfSpec)

/-- ITS FALSE NEIGHBOUR: 'it returns false'. Refute it at one input. -/
def semOfWrong : ChangeSpec := { name := "semOf", fn := fun _ => fun
  | [d1, d2] => { results := [.lit (.bool false)], args := [d1, d2] }
  | _ => none }
def SemOfWrongFalsely : Prop := semOfRow.holds Tryz.pinned (OpenSpec.ofChange semOfWrong)

/-- 'formularylaw11.SemOfNothing': WHATEVER THE INPUT: true; the input reads as it did. -/
def semOfNothingSpec : ChangeSpec := { name := "semOfNothing", fn := fun _ => fun
  | [d1, d2] => { results := [.lit (.bool true)], args := [d1, d2] }
  | _ => none }
def semOfNothingRow : OpenClaim := { program := "ytfjgblbmdddpkaagreatdoor", sum := "aa9105d5568fd65b438b2d3561d0d3ce74471c68bb804e6c5338a2f1630c0dcd", func := "formulary/formularylaw11.SemOfNothing", spec := "semOfNothing", inPlace := ["math.Float64frombits", "math.Float64bits", "math.archTrunc", "internal/abi.NoEscape", "internal/bytealg.MakeNoZero", "internal/bytealg.IndexByteString", "internal/bytealg.IndexString", "math.archFloor"], unfollowed := true, recurses := true, named := ["internal/strconv.uint64pow10", "math/bits.deBruijn32tab", "math/bits.deBruijn64tab", "strconv.ErrSyntax", "strconv.ErrRange", "internal/bytealg.MaxLen"], apart := false, laid := [("math/bits.deBruijn32tab", laid_math_bits_deBruijn32tab), ("math/bits.deBruijn64tab", laid_math_bits_deBruijn64tab), ("internal/strconv.uint64pow10", laid_internal_strconv_uint64pow10), ("strconv.ErrRange", laid_strconv_ErrRange), ("strconv.ErrSyntax", laid_strconv_ErrSyntax)] }
def SemOfNothingSaid : Prop := semOfNothingRow.holds Tryz.pinned (OpenSpec.ofChange semOfNothingSpec)

/-- ITS FALSE NEIGHBOUR: 'it returns false'. Refute it at one input. -/
def semOfNothingWrong : ChangeSpec := { name := "semOfNothing", fn := fun _ => fun
  | [d1, d2] => { results := [.lit (.bool false)], args := [d1, d2] }
  | _ => none }
def SemOfNothingWrongFalsely : Prop := semOfNothingRow.holds Tryz.pinned (OpenSpec.ofChange semOfNothingWrong)

/-- 'formularylaw12.RecalcMeans': WHATEVER THE INPUT: true; the input reads as it did. -/
def recalcMeansSpec : ChangeSpec := { name := "recalcMeans", fn := fun _ => fun
  | [d1, d2] => { results := [.lit (.bool true)], args := [d1, d2] }
  | _ => none }
def recalcMeansRow : OpenClaim := { program := "ytfjgblbmdddpkaagreatdoor", sum := "aa9105d5568fd65b438b2d3561d0d3ce74471c68bb804e6c5338a2f1630c0dcd", func := "formulary/formularylaw12.RecalcMeans", spec := "recalcMeans", inPlace := ["math.Float64frombits", "math.Float64bits", "internal/bytealg.IndexByteString", "internal/bytealg.IndexString", "math.archTrunc", "internal/abi.NoEscape", "internal/bytealg.MakeNoZero", "math.archFloor"], unfollowed := true, recurses := true, named := ["strconv.ErrSyntax", "strconv.ErrRange", "internal/strconv.uint64pow10", "math/bits.deBruijn32tab", "math/bits.deBruijn64tab", "internal/bytealg.MaxLen"], apart := false, laid := [("math/bits.deBruijn32tab", laid_math_bits_deBruijn32tab), ("math/bits.deBruijn64tab", laid_math_bits_deBruijn64tab), ("internal/strconv.uint64pow10", laid_internal_strconv_uint64pow10), ("strconv.ErrRange", laid_strconv_ErrRange), ("strconv.ErrSyntax", laid_strconv_ErrSyntax)] }
def RecalcMeansSaid : Prop := recalcMeansRow.holds Tryz.pinned (OpenSpec.ofChange recalcMeansSpec)

/-- ITS FALSE NEIGHBOUR: 'it returns false'. Refute it at one input. -/
def recalcMeansWrong : ChangeSpec := { name := "recalcMeans", fn := fun _ => fun
  | [d1, d2] => { results := [.lit (.bool false)], args := [d1, d2] }
  | _ => none }
def RecalcMeansWrongFalsely : Prop := recalcMeansRow.holds Tryz.pinned (OpenSpec.ofChange recalcMeansWrong)

/-- 'formularylaw12.RecalcAgain': WHATEVER THE INPUT: true; the input reads as it did. -/
def recalcAgainSpec : ChangeSpec := { name := "recalcAgain", fn := fun _ => fun
  | [d1, d2] => { results := [.lit (.bool true)], args := [d1, d2] }
  | _ => none }
def recalcAgainRow : OpenClaim := { program := "ytfjgblbmdddpkaagreatdoor", sum := "aa9105d5568fd65b438b2d3561d0d3ce74471c68bb804e6c5338a2f1630c0dcd", func := "formulary/formularylaw12.RecalcAgain", spec := "recalcAgain", inPlace := ["math.Float64frombits", "math.Float64bits", "internal/bytealg.IndexByteString", "internal/bytealg.IndexString", "math.archTrunc", "internal/abi.NoEscape", "internal/bytealg.MakeNoZero", "math.archFloor"], unfollowed := true, recurses := true, named := ["strconv.ErrSyntax", "strconv.ErrRange", "internal/strconv.uint64pow10", "math/bits.deBruijn32tab", "math/bits.deBruijn64tab", "internal/bytealg.MaxLen"], apart := false, laid := [("math/bits.deBruijn32tab", laid_math_bits_deBruijn32tab), ("math/bits.deBruijn64tab", laid_math_bits_deBruijn64tab), ("internal/strconv.uint64pow10", laid_internal_strconv_uint64pow10), ("strconv.ErrRange", laid_strconv_ErrRange), ("strconv.ErrSyntax", laid_strconv_ErrSyntax)] }
def RecalcAgainSaid : Prop := recalcAgainRow.holds Tryz.pinned (OpenSpec.ofChange recalcAgainSpec)

/-- ITS FALSE NEIGHBOUR: 'it returns false'. Refute it at one input. -/
def recalcAgainWrong : ChangeSpec := { name := "recalcAgain", fn := fun _ => fun
  | [d1, d2] => { results := [.lit (.bool false)], args := [d1, d2] }
  | _ => none }
def RecalcAgainWrongFalsely : Prop := recalcAgainRow.holds Tryz.pinned (OpenSpec.ofChange recalcAgainWrong)

/-- 'formularylaw12.RecalcPlays': WHATEVER THE INPUT: true; the input reads as it did. -/
def recalcPlaysSpec : ChangeSpec := { name := "recalcPlays", fn := fun _ => fun
  | [d1, d2] => { results := [.lit (.bool true)], args := [d1, d2] }
  | _ => none }
def recalcPlaysRow : OpenClaim := { program := "ytfjgblbmdddpkaagreatdoor", sum := "aa9105d5568fd65b438b2d3561d0d3ce74471c68bb804e6c5338a2f1630c0dcd", func := "formulary/formularylaw12.RecalcPlays", spec := "recalcPlays", inPlace := ["math.Float64frombits", "math.Float64bits", "internal/bytealg.IndexByteString", "internal/bytealg.IndexString", "math.archTrunc", "internal/abi.NoEscape", "internal/bytealg.MakeNoZero", "math.archFloor"], unfollowed := true, recurses := true, named := ["strconv.ErrSyntax", "strconv.ErrRange", "internal/strconv.uint64pow10", "math/bits.deBruijn32tab", "math/bits.deBruijn64tab", "internal/bytealg.MaxLen"], apart := false, laid := [("math/bits.deBruijn32tab", laid_math_bits_deBruijn32tab), ("math/bits.deBruijn64tab", laid_math_bits_deBruijn64tab), ("internal/strconv.uint64pow10", laid_internal_strconv_uint64pow10), ("strconv.ErrRange", laid_strconv_ErrRange), ("strconv.ErrSyntax", laid_strconv_ErrSyntax)] }
def RecalcPlaysSaid : Prop := recalcPlaysRow.holds Tryz.pinned (OpenSpec.ofChange recalcPlaysSpec)

/-- ITS FALSE NEIGHBOUR: 'it returns false'. Refute it at one input. -/
def recalcPlaysWrong : ChangeSpec := { name := "recalcPlays", fn := fun _ => fun
  | [d1, d2] => { results := [.lit (.bool false)], args := [d1, d2] }
  | _ => none }
def RecalcPlaysWrongFalsely : Prop := recalcPlaysRow.holds Tryz.pinned (OpenSpec.ofChange recalcPlaysWrong)

/-- 'formularylaw12.RecalcOfNothing': WHATEVER THE INPUT: true; the input reads as it did. -/
def recalcOfNothingSpec : ChangeSpec := { name := "recalcOfNothing", fn := fun _ => fun
  | [d1, d2] => { results := [.lit (.bool true)], args := [d1, d2] }
  | _ => none }
def recalcOfNothingRow : OpenClaim := { program := "ytfjgblbmdddpkaagreatdoor", sum := "aa9105d5568fd65b438b2d3561d0d3ce74471c68bb804e6c5338a2f1630c0dcd", func := "formulary/formularylaw12.RecalcOfNothing", spec := "recalcOfNothing", inPlace := ["math.Float64frombits", "math.Float64bits", "math.archTrunc", "internal/abi.NoEscape", "internal/bytealg.MakeNoZero", "internal/bytealg.IndexByteString", "internal/bytealg.IndexString", "math.archFloor"], unfollowed := true, recurses := true, named := ["internal/strconv.uint64pow10", "math/bits.deBruijn32tab", "math/bits.deBruijn64tab", "strconv.ErrSyntax", "strconv.ErrRange", "internal/bytealg.MaxLen"], apart := false, laid := [("math/bits.deBruijn32tab", laid_math_bits_deBruijn32tab), ("math/bits.deBruijn64tab", laid_math_bits_deBruijn64tab), ("internal/strconv.uint64pow10", laid_internal_strconv_uint64pow10), ("strconv.ErrRange", laid_strconv_ErrRange), ("strconv.ErrSyntax", laid_strconv_ErrSyntax)] }
def RecalcOfNothingSaid : Prop := recalcOfNothingRow.holds Tryz.pinned (OpenSpec.ofChange recalcOfNothingSpec)

/-- ITS FALSE NEIGHBOUR: 'it returns false'. Refute it at one input. -/
def recalcOfNothingWrong : ChangeSpec := { name := "recalcOfNothing", fn := fun _ => fun
  | [d1, d2] => { results := [.lit (.bool false)], args := [d1, d2] }
  | _ => none }
def RecalcOfNothingWrongFalsely : Prop := recalcOfNothingRow.holds Tryz.pinned (OpenSpec.ofChange recalcOfNothingWrong)

/- THE SECOND FORM. 'bulk': how many values and letters a reading holds, each counted each time it is reached (what is shared counts as often as it is met; a slice's spare places count too). A statement '..UptoSaid' is the law's where the arguments, and the package variables that the reading takes, are together of bulk at most 1048576: NARROWER than '..Said'. Prove '..Said' where nothing that the law and all that it calls make is longer than what came in: it says more and counts as full. Else prove '..UptoSaid'. A law counts once. -/
mutual
def uptoBulk {H : Type} : DataW H → Nat
  | .lit (.string bytes) => bytes.length + 1
  | .lit _ => 1
  | .nil => 1
  | .ptr d => uptoBulk d + 1
  | .slice elems spare => uptoBulkAll elems + uptoBulkAll spare + 1
  | .agg parts => uptoBulkAll parts + 1
  | .iface _ d => uptoBulk d + 1
  | .map entries => uptoBulkEntries entries + 1
  | .held _ => 1
def uptoBulkAll {H : Type} : List (DataW H) → Nat
  | [] => 0
  | d :: r => uptoBulk d + uptoBulkAll r
def uptoBulkEntries {H : Type} : List (Lit × DataW H) → Nat
  | [] => 0
  | x :: r => uptoBulkEntry x + uptoBulkEntries r
def uptoBulkEntry {H : Type} : Lit × DataW H → Nat
  | (.string bytes, d) => bytes.length + uptoBulk d + 1
  | (_, d) => uptoBulk d + 1
 end
def uptoSmall : (H : Type) → List (DataW H) → Bool := fun _ ds => decide (uptoBulkAll ds ≤ 1048576)
def OpenSpec.upto (s : _root_.Go.ChangeSpec) : _root_.Go.OpenSpec := { _root_.Go.OpenSpec.ofChange s with cond := some uptoSmall }

/-- 'formularylaw11.SemLast', WHERE WHAT IT READS IS OF BULK AT MOST 1048576: true; the input reads as it did. -/
def semLastUptoRow : OpenClaim := { program := "ytfjgblbmdddpkaagreatdoor", sum := "aa9105d5568fd65b438b2d3561d0d3ce74471c68bb804e6c5338a2f1630c0dcd", func := "formulary/formularylaw11.SemLast", spec := "semLast", inPlace := ["math.Float64frombits", "internal/bytealg.IndexByteString", "internal/bytealg.IndexString", "math.Float64bits", "math.archTrunc", "internal/abi.NoEscape", "internal/bytealg.MakeNoZero", "math.archFloor"], unfollowed := true, recurses := true, named := ["strconv.ErrSyntax", "strconv.ErrRange", "internal/strconv.uint64pow10", "math/bits.deBruijn32tab", "math/bits.deBruijn64tab", "internal/bytealg.MaxLen"], apart := false, laid := [("math/bits.deBruijn32tab", laid_math_bits_deBruijn32tab), ("math/bits.deBruijn64tab", laid_math_bits_deBruijn64tab), ("internal/strconv.uint64pow10", laid_internal_strconv_uint64pow10), ("strconv.ErrRange", laid_strconv_ErrRange), ("strconv.ErrSyntax", laid_strconv_ErrSyntax)], narrowed := true }
def SemLastUptoSaid : Prop := semLastUptoRow.holds Tryz.pinned (OpenSpec.upto semLastSpec)

/-- 'formularylaw11.SemStands', WHERE WHAT IT READS IS OF BULK AT MOST 1048576: true; the input reads as it did. -/
def semStandsUptoRow : OpenClaim := { program := "ytfjgblbmdddpkaagreatdoor", sum := "aa9105d5568fd65b438b2d3561d0d3ce74471c68bb804e6c5338a2f1630c0dcd", func := "formulary/formularylaw11.SemStands", spec := "semStands", inPlace := ["math.Float64frombits", "internal/bytealg.IndexByteString", "internal/bytealg.IndexString", "math.Float64bits", "math.archTrunc", "internal/abi.NoEscape", "internal/bytealg.MakeNoZero", "math.archFloor"], unfollowed := true, recurses := true, named := ["strconv.ErrSyntax", "strconv.ErrRange", "internal/strconv.uint64pow10", "math/bits.deBruijn32tab", "math/bits.deBruijn64tab", "internal/bytealg.MaxLen"], apart := false, laid := [("math/bits.deBruijn32tab", laid_math_bits_deBruijn32tab), ("math/bits.deBruijn64tab", laid_math_bits_deBruijn64tab), ("internal/strconv.uint64pow10", laid_internal_strconv_uint64pow10), ("strconv.ErrRange", laid_strconv_ErrRange), ("strconv.ErrSyntax", laid_strconv_ErrSyntax)], narrowed := true }
def SemStandsUptoSaid : Prop := semStandsUptoRow.holds Tryz.pinned (OpenSpec.upto semStandsSpec)

/-- 'formularylaw11.SemOf', WHERE WHAT IT READS IS OF BULK AT MOST 1048576: true; the input reads as it did. -/
def semOfUptoRow : OpenClaim := { program := "ytfjgblbmdddpkaagreatdoor", sum := "aa9105d5568fd65b438b2d3561d0d3ce74471c68bb804e6c5338a2f1630c0dcd", func := "formulary/formularylaw11.SemOf", spec := "semOf", inPlace := ["math.Float64frombits", "math.Float64bits", "internal/bytealg.IndexByteString", "internal/bytealg.IndexString", "math.archTrunc", "internal/abi.NoEscape", "internal/bytealg.MakeNoZero", "math.archFloor"], unfollowed := true, recurses := true, named := ["strconv.ErrSyntax", "strconv.ErrRange", "internal/strconv.uint64pow10", "math/bits.deBruijn32tab", "math/bits.deBruijn64tab", "internal/bytealg.MaxLen"], apart := false, laid := [("math/bits.deBruijn32tab", laid_math_bits_deBruijn32tab), ("math/bits.deBruijn64tab", laid_math_bits_deBruijn64tab), ("internal/strconv.uint64pow10", laid_internal_strconv_uint64pow10), ("strconv.ErrRange", laid_strconv_ErrRange), ("strconv.ErrSyntax", laid_strconv_ErrSyntax)], narrowed := true }
def SemOfUptoSaid : Prop := semOfUptoRow.holds Tryz.pinned (OpenSpec.upto semOfSpec)

/-- 'formularylaw11.SemOfNothing', WHERE WHAT IT READS IS OF BULK AT MOST 1048576: true; the input reads as it did. -/
def semOfNothingUptoRow : OpenClaim := { program := "ytfjgblbmdddpkaagreatdoor", sum := "aa9105d5568fd65b438b2d3561d0d3ce74471c68bb804e6c5338a2f1630c0dcd", func := "formulary/formularylaw11.SemOfNothing", spec := "semOfNothing", inPlace := ["math.Float64frombits", "math.Float64bits", "math.archTrunc", "internal/abi.NoEscape", "internal/bytealg.MakeNoZero", "internal/bytealg.IndexByteString", "internal/bytealg.IndexString", "math.archFloor"], unfollowed := true, recurses := true, named := ["internal/strconv.uint64pow10", "math/bits.deBruijn32tab", "math/bits.deBruijn64tab", "strconv.ErrSyntax", "strconv.ErrRange", "internal/bytealg.MaxLen"], apart := false, laid := [("math/bits.deBruijn32tab", laid_math_bits_deBruijn32tab), ("math/bits.deBruijn64tab", laid_math_bits_deBruijn64tab), ("internal/strconv.uint64pow10", laid_internal_strconv_uint64pow10), ("strconv.ErrRange", laid_strconv_ErrRange), ("strconv.ErrSyntax", laid_strconv_ErrSyntax)], narrowed := true }
def SemOfNothingUptoSaid : Prop := semOfNothingUptoRow.holds Tryz.pinned (OpenSpec.upto semOfNothingSpec)

/-- 'formularylaw12.RecalcMeans', WHERE WHAT IT READS IS OF BULK AT MOST 1048576: true; the input reads as it did. -/
def recalcMeansUptoRow : OpenClaim := { program := "ytfjgblbmdddpkaagreatdoor", sum := "aa9105d5568fd65b438b2d3561d0d3ce74471c68bb804e6c5338a2f1630c0dcd", func := "formulary/formularylaw12.RecalcMeans", spec := "recalcMeans", inPlace := ["math.Float64frombits", "math.Float64bits", "internal/bytealg.IndexByteString", "internal/bytealg.IndexString", "math.archTrunc", "internal/abi.NoEscape", "internal/bytealg.MakeNoZero", "math.archFloor"], unfollowed := true, recurses := true, named := ["strconv.ErrSyntax", "strconv.ErrRange", "internal/strconv.uint64pow10", "math/bits.deBruijn32tab", "math/bits.deBruijn64tab", "internal/bytealg.MaxLen"], apart := false, laid := [("math/bits.deBruijn32tab", laid_math_bits_deBruijn32tab), ("math/bits.deBruijn64tab", laid_math_bits_deBruijn64tab), ("internal/strconv.uint64pow10", laid_internal_strconv_uint64pow10), ("strconv.ErrRange", laid_strconv_ErrRange), ("strconv.ErrSyntax", laid_strconv_ErrSyntax)], narrowed := true }
def RecalcMeansUptoSaid : Prop := recalcMeansUptoRow.holds Tryz.pinned (OpenSpec.upto recalcMeansSpec)

/-- 'formularylaw12.RecalcAgain', WHERE WHAT IT READS IS OF BULK AT MOST 1048576: true; the input reads as it did. -/
def recalcAgainUptoRow : OpenClaim := { program := "ytfjgblbmdddpkaagreatdoor", sum := "aa9105d5568fd65b438b2d3561d0d3ce74471c68bb804e6c5338a2f1630c0dcd", func := "formulary/formularylaw12.RecalcAgain", spec := "recalcAgain", inPlace := ["math.Float64frombits", "math.Float64bits", "internal/bytealg.IndexByteString", "internal/bytealg.IndexString", "math.archTrunc", "internal/abi.NoEscape", "internal/bytealg.MakeNoZero", "math.archFloor"], unfollowed := true, recurses := true, named := ["strconv.ErrSyntax", "strconv.ErrRange", "internal/strconv.uint64pow10", "math/bits.deBruijn32tab", "math/bits.deBruijn64tab", "internal/bytealg.MaxLen"], apart := false, laid := [("math/bits.deBruijn32tab", laid_math_bits_deBruijn32tab), ("math/bits.deBruijn64tab", laid_math_bits_deBruijn64tab), ("internal/strconv.uint64pow10", laid_internal_strconv_uint64pow10), ("strconv.ErrRange", laid_strconv_ErrRange), ("strconv.ErrSyntax", laid_strconv_ErrSyntax)], narrowed := true }
def RecalcAgainUptoSaid : Prop := recalcAgainUptoRow.holds Tryz.pinned (OpenSpec.upto recalcAgainSpec)

/-- 'formularylaw12.RecalcPlays', WHERE WHAT IT READS IS OF BULK AT MOST 1048576: true; the input reads as it did. -/
def recalcPlaysUptoRow : OpenClaim := { program := "ytfjgblbmdddpkaagreatdoor", sum := "aa9105d5568fd65b438b2d3561d0d3ce74471c68bb804e6c5338a2f1630c0dcd", func := "formulary/formularylaw12.RecalcPlays", spec := "recalcPlays", inPlace := ["math.Float64frombits", "math.Float64bits", "internal/bytealg.IndexByteString", "internal/bytealg.IndexString", "math.archTrunc", "internal/abi.NoEscape", "internal/bytealg.MakeNoZero", "math.archFloor"], unfollowed := true, recurses := true, named := ["strconv.ErrSyntax", "strconv.ErrRange", "internal/strconv.uint64pow10", "math/bits.deBruijn32tab", "math/bits.deBruijn64tab", "internal/bytealg.MaxLen"], apart := false, laid := [("math/bits.deBruijn32tab", laid_math_bits_deBruijn32tab), ("math/bits.deBruijn64tab", laid_math_bits_deBruijn64tab), ("internal/strconv.uint64pow10", laid_internal_strconv_uint64pow10), ("strconv.ErrRange", laid_strconv_ErrRange), ("strconv.ErrSyntax", laid_strconv_ErrSyntax)], narrowed := true }
def RecalcPlaysUptoSaid : Prop := recalcPlaysUptoRow.holds Tryz.pinned (OpenSpec.upto recalcPlaysSpec)

/-- 'formularylaw12.RecalcOfNothing', WHERE WHAT IT READS IS OF BULK AT MOST 1048576: true; the input reads as it did. -/
def recalcOfNothingUptoRow : OpenClaim := { program := "ytfjgblbmdddpkaagreatdoor", sum := "aa9105d5568fd65b438b2d3561d0d3ce74471c68bb804e6c5338a2f1630c0dcd", func := "formulary/formularylaw12.RecalcOfNothing", spec := "recalcOfNothing", inPlace := ["math.Float64frombits", "math.Float64bits", "math.archTrunc", "internal/abi.NoEscape", "internal/bytealg.MakeNoZero", "internal/bytealg.IndexByteString", "internal/bytealg.IndexString", "math.archFloor"], unfollowed := true, recurses := true, named := ["internal/strconv.uint64pow10", "math/bits.deBruijn32tab", "math/bits.deBruijn64tab", "strconv.ErrSyntax", "strconv.ErrRange", "internal/bytealg.MaxLen"], apart := false, laid := [("math/bits.deBruijn32tab", laid_math_bits_deBruijn32tab), ("math/bits.deBruijn64tab", laid_math_bits_deBruijn64tab), ("internal/strconv.uint64pow10", laid_internal_strconv_uint64pow10), ("strconv.ErrRange", laid_strconv_ErrRange), ("strconv.ErrSyntax", laid_strconv_ErrSyntax)], narrowed := true }
def RecalcOfNothingUptoSaid : Prop := recalcOfNothingUptoRow.holds Tryz.pinned (OpenSpec.upto recalcOfNothingSpec)

end Rows
end Go.Proofs.YtfjgblbmdddpkaaGreatDoor
