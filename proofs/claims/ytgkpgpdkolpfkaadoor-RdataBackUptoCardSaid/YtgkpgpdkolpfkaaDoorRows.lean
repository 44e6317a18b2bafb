/-
  NARROWER THAN 'FOR EVERY INPUT', by the rows' own cells (each row's printed sentence says how): RdataPuts: laid · RdataShows: laid · RdataChecks: laid · RdataBack: laid · RdataTypes: laid.
  DERIVED. THE GIVEN ROWS OF THIS SEAT. 5 by the template 'for every input the law returns true; each argument reads behind the call as it read before'; 0 by the template 'total and deterministic' (their statements: YtgkpgpdkolpfkaaDoorTotals.lean).
  GIVEN WITH THE SEED: the statements are not yours to turn. If you find one false, say at which input.
  Laid BY PROGRAM, IN A SANDBOX (cutbox-rows.mjs): the forced cells as the released guide's own fill.sh prints them over the translation 1a51c70332689fce… (all of the seat's roots in one cut). By AI agents, Wed Nov 11 2026. No macro, syntax, notation, axiom, sorry.
-/
import Derived.Test.YtgkpgpdkolpfkaaDoorChecked
import GoSem.Claim
import GoSem.ClaimJoined
import GoSem.ClaimMapViews
import Derived.JoinedTies
import Derived.KernelRfl
namespace Go.Proofs.YtgkpgpdkolpfkaaDoor
/- THE CELL 'sum', in the pinned program and in every row, IS THE sha256 OF THE DUMP (.gsa) THAT YtgkpgpdkolpfkaaDoorProg.lean LOADS. Nothing in Lean hashes anything: it is a label: what it is worth is what the hold of that sum in a sandbox is worth. -/
noncomputable def Tryd.pinned : Pinned := { name := "ytgkpgpdkolpfkaadoor", sum := "1a51c70332689fcedbcd8dd024935a8c69e579a4c013ebec3a3959be1a0266bd", checked := Tryd.checked }
namespace Rows
def none {H : Type} : Left H := { results := [], args := [] }

/- WHAT THE LISTED PACKAGE-LEVEL VARIABLES READ AS WHEN THE CALL BEGINS. Each datum BY PROGRAM (the guide's laid-datum.mjs) off the statement by which the dump's own 'gosem.cut.vars' lays the variable. In a bare row this is a premise. The card (YtgkpgpdkolpfkaaDoorCards.lean) ties it to the program's text. -/
def laid_math_bits_deBruijn32tab {H : Type} : DataW H := .agg [.lit (.int .u8 0), .lit (.int .u8 1), .lit (.int .u8 28), .lit (.int .u8 2), .lit (.int .u8 29), .lit (.int .u8 14), .lit (.int .u8 24), .lit (.int .u8 3), .lit (.int .u8 30), .lit (.int .u8 22), .lit (.int .u8 20), .lit (.int .u8 15), .lit (.int .u8 25), .lit (.int .u8 17), .lit (.int .u8 4), .lit (.int .u8 8), .lit (.int .u8 31), .lit (.int .u8 27), .lit (.int .u8 13), .lit (.int .u8 23), .lit (.int .u8 21), .lit (.int .u8 19), .lit (.int .u8 16), .lit (.int .u8 7), .lit (.int .u8 26), .lit (.int .u8 12), .lit (.int .u8 18), .lit (.int .u8 6), .lit (.int .u8 11), .lit (.int .u8 5), .lit (.int .u8 10), .lit (.int .u8 9)]
def laid_math_bits_deBruijn64tab {H : Type} : DataW H := .agg [.lit (.int .u8 0), .lit (.int .u8 1), .lit (.int .u8 56), .lit (.int .u8 2), .lit (.int .u8 57), .lit (.int .u8 49), .lit (.int .u8 28), .lit (.int .u8 3), .lit (.int .u8 61), .lit (.int .u8 58), .lit (.int .u8 42), .lit (.int .u8 50), .lit (.int .u8 38), .lit (.int .u8 29), .lit (.int .u8 17), .lit (.int .u8 4), .lit (.int .u8 62), .lit (.int .u8 47), .lit (.int .u8 59), .lit (.int .u8 36), .lit (.int .u8 45), .lit (.int .u8 43), .lit (.int .u8 51), .lit (.int .u8 22), .lit (.int .u8 53), .lit (.int .u8 39), .lit (.int .u8 33), .lit (.int .u8 30), .lit (.int .u8 24), .lit (.int .u8 18), .lit (.int .u8 12), .lit (.int .u8 5), .lit (.int .u8 63), .lit (.int .u8 55), .lit (.int .u8 48), .lit (.int .u8 27), .lit (.int .u8 60), .lit (.int .u8 41), .lit (.int .u8 37), .lit (.int .u8 16), .lit (.int .u8 46), .lit (.int .u8 35), .lit (.int .u8 44), .lit (.int .u8 21), .lit (.int .u8 52), .lit (.int .u8 32), .lit (.int .u8 23), .lit (.int .u8 11), .lit (.int .u8 54), .lit (.int .u8 26), .lit (.int .u8 40), .lit (.int .u8 15), .lit (.int .u8 34), .lit (.int .u8 20), .lit (.int .u8 31), .lit (.int .u8 10), .lit (.int .u8 25), .lit (.int .u8 14), .lit (.int .u8 19), .lit (.int .u8 9), .lit (.int .u8 13), .lit (.int .u8 8), .lit (.int .u8 7), .lit (.int .u8 6)]
def laid_internal_strconv_uint64pow10 {H : Type} : DataW H := .agg [.lit (.int .u64 1), .lit (.int .u64 10), .lit (.int .u64 100), .lit (.int .u64 1000), .lit (.int .u64 10000), .lit (.int .u64 100000), .lit (.int .u64 1000000), .lit (.int .u64 10000000), .lit (.int .u64 100000000), .lit (.int .u64 1000000000), .lit (.int .u64 10000000000), .lit (.int .u64 100000000000), .lit (.int .u64 1000000000000), .lit (.int .u64 10000000000000), .lit (.int .u64 100000000000000), .lit (.int .u64 1000000000000000), .lit (.int .u64 10000000000000000), .lit (.int .u64 100000000000000000), .lit (.int .u64 1000000000000000000), .lit (.int .u64 10000000000000000000)]
def laid_hearsay_rdata_kinds {H : Type} : DataW H := .agg [.agg [.lit (.int .u16 1), .lit (.string [65]), .lit (.string [97])], .agg [.lit (.int .u16 2), .lit (.string [78, 83]), .lit (.string [104])], .agg [.lit (.int .u16 5), .lit (.string [67, 78, 65, 77, 69]), .lit (.string [104])], .agg [.lit (.int .u16 6), .lit (.string [83, 79, 65]), .lit (.string [104, 109, 108, 108, 108, 108, 108])], .agg [.lit (.int .u16 12), .lit (.string [80, 84, 82]), .lit (.string [104])], .agg [.lit (.int .u16 15), .lit (.string [77, 88]), .lit (.string [115, 104])], .agg [.lit (.int .u16 16), .lit (.string [84, 88, 84]), .lit (.string [120])], .agg [.lit (.int .u16 28), .lit (.string [65, 65, 65, 65]), .lit (.string [113])], .agg [.lit (.int .u16 33), .lit (.string [83, 82, 86]), .lit (.string [115, 115, 115, 112])]]
def laid_strconv_ErrRange {H : Type} : DataW H := .iface "*errors.errorString" (.ptr (.agg [.lit (.string [118, 97, 108, 117, 101, 32, 111, 117, 116, 32, 111, 102, 32, 114, 97, 110, 103, 101])]))
def laid_strconv_ErrSyntax {H : Type} : DataW H := .iface "*errors.errorString" (.ptr (.agg [.lit (.string [105, 110, 118, 97, 108, 105, 100, 32, 115, 121, 110, 116, 97, 120])]))

/-- 'hearsaylaw04.RdataPuts': WHATEVER THE INPUT: true; the input reads as it did. -/
def rdataPutsSpec : ChangeSpec := { name := "rdataPuts", fn := fun _ => fun
  | [d] => { results := [.lit (.bool true)], args := [d] }
  | _ => none }
def rdataPutsRow : OpenClaim := { program := "ytgkpgpdkolpfkaadoor", sum := "1a51c70332689fcedbcd8dd024935a8c69e579a4c013ebec3a3959be1a0266bd", func := "hearsay/hearsaylaw04.RdataPuts", spec := "rdataPuts", inPlace := ["internal/abi.NoEscape", "internal/bytealg.MakeNoZero"], unfollowed := true, recurses := true, named := ["hearsay/rdata.kinds", "internal/strconv.uint64pow10", "math/bits.deBruijn32tab", "math/bits.deBruijn64tab"], apart := false, laid := [("math/bits.deBruijn32tab", laid_math_bits_deBruijn32tab), ("math/bits.deBruijn64tab", laid_math_bits_deBruijn64tab), ("internal/strconv.uint64pow10", laid_internal_strconv_uint64pow10), ("hearsay/rdata.kinds", laid_hearsay_rdata_kinds)] }
def RdataPutsSaid : Prop := rdataPutsRow.holds Tryd.pinned (OpenSpec.ofChange rdataPutsSpec)

/-- ITS FALSE NEIGHBOUR: 'it returns false'. Refute it at one input. -/
def rdataPutsWrong : ChangeSpec := { name := "rdataPuts", fn := fun _ => fun
  | [d] => { results := [.lit (.bool false)], args := [d] }
  | _ => none }
def RdataPutsWrongFalsely : Prop := rdataPutsRow.holds Tryd.pinned (OpenSpec.ofChange rdataPutsWrong)

/-- 'hearsaylaw04.RdataShows': WHATEVER THE INPUT: true; the input reads as it did. -/
def rdataShowsSpec : ChangeSpec := { name := "rdataShows", fn := fun _ => fun
  | [d1, d2] => { results := [.lit (.bool true)], args := [d1, d2] }
  | _ => none }
def rdataShowsRow : OpenClaim := { program := "ytgkpgpdkolpfkaadoor", sum := "1a51c70332689fcedbcd8dd024935a8c69e579a4c013ebec3a3959be1a0266bd", func := "hearsay/hearsaylaw04.RdataShows", spec := "rdataShows", inPlace := ["internal/abi.NoEscape", "internal/bytealg.MakeNoZero"], unfollowed := true, recurses := true, named := ["hearsay/rdata.kinds", "internal/strconv.uint64pow10", "math/bits.deBruijn32tab", "math/bits.deBruijn64tab"], apart := false, laid := [("math/bits.deBruijn32tab", laid_math_bits_deBruijn32tab), ("math/bits.deBruijn64tab", laid_math_bits_deBruijn64tab), ("internal/strconv.uint64pow10", laid_internal_strconv_uint64pow10), ("hearsay/rdata.kinds", laid_hearsay_rdata_kinds)] }
def RdataShowsSaid : Prop := rdataShowsRow.holds Tryd.pinned (OpenSpec.ofChange rdataShowsSpec)

/-- ITS FALSE NEIGHBOUR: 'it returns false'. Refute it at one input. -/
def rdataShowsWrong : ChangeSpec := { name := "rdataShows", fn := fun _ => fun
  | [d1, d2] => { results := [.lit (.bool false)], args := [d1, d2] }
  | _ => none }
def RdataShowsWrongFalsely : Prop := rdataShowsRow.holds Tryd.pinned (OpenSpec.ofChange rdataShowsWrong)

/-- 'hearsaylaw04.RdataChecks': WHATEVER THE INPUT: true; the input reads as it did. -/
def rdataChecksSpec : ChangeSpec := { name := "rdataChecks", fn := fun _ => fun
  | [d1, d2] => { results := [.lit (.bool true)], args := [d1, d2] }
  | _ => none }
def rdataChecksRow : OpenClaim := { program := "ytgkpgpdkolpfkaadoor", sum := "1a51c70332689fcedbcd8dd024935a8c69e579a4c013ebec3a3959be1a0266bd", func := "hearsay/hearsaylaw04.RdataChecks", spec := "rdataChecks", inPlace := ["internal/abi.NoEscape", "internal/bytealg.MakeNoZero"], unfollowed := true, recurses := true, named := ["hearsay/rdata.kinds", "internal/strconv.uint64pow10", "math/bits.deBruijn32tab", "math/bits.deBruijn64tab"], apart := false, laid := [("math/bits.deBruijn32tab", laid_math_bits_deBruijn32tab), ("math/bits.deBruijn64tab", laid_math_bits_deBruijn64tab), ("internal/strconv.uint64pow10", laid_internal_strconv_uint64pow10), ("hearsay/rdata.kinds", laid_hearsay_rdata_kinds)] }
def RdataChecksSaid : Prop := rdataChecksRow.holds Tryd.pinned (OpenSpec.ofChange rdataChecksSpec)

/-- ITS FALSE NEIGHBOUR: 'it returns false'. Refute it at one input. -/
def rdataChecksWrong : ChangeSpec := { name := "rdataChecks", fn := fun _ => fun
  | [d1, d2] => { results := [.lit (.bool false)], args := [d1, d2] }
  | _ => none }
def RdataChecksWrongFalsely : Prop := rdataChecksRow.holds Tryd.pinned (OpenSpec.ofChange rdataChecksWrong)

/-- 'hearsaylaw04.RdataBack': WHATEVER THE INPUT: true; the input reads as it did. -/
def rdataBackSpec : ChangeSpec := { name := "rdataBack", fn := fun _ => fun
  | [d1, d2] => { results := [.lit (.bool true)], args := [d1, d2] }
  | _ => none }
def rdataBackRow : OpenClaim := { program := "ytgkpgpdkolpfkaadoor", sum := "1a51c70332689fcedbcd8dd024935a8c69e579a4c013ebec3a3959be1a0266bd", func := "hearsay/hearsaylaw04.RdataBack", spec := "rdataBack", inPlace := ["internal/abi.NoEscape", "internal/bytealg.MakeNoZero"], unfollowed := true, recurses := true, named := ["hearsay/rdata.kinds", "internal/strconv.uint64pow10", "math/bits.deBruijn32tab", "math/bits.deBruijn64tab"], apart := false, laid := [("math/bits.deBruijn32tab", laid_math_bits_deBruijn32tab), ("math/bits.deBruijn64tab", laid_math_bits_deBruijn64tab), ("internal/strconv.uint64pow10", laid_internal_strconv_uint64pow10), ("hearsay/rdata.kinds", laid_hearsay_rdata_kinds)] }
def RdataBackSaid : Prop := rdataBackRow.holds Tryd.pinned (OpenSpec.ofChange rdataBackSpec)

/-- ITS FALSE NEIGHBOUR: 'it returns false'. Refute it at one input. -/
def rdataBackWrong : ChangeSpec := { name := "rdataBack", fn := fun _ => fun
  | [d1, d2] => { results := [.lit (.bool false)], args := [d1, d2] }
  | _ => none }
def RdataBackWrongFalsely : Prop := rdataBackRow.holds Tryd.pinned (OpenSpec.ofChange rdataBackWrong)

/-- 'hearsaylaw04.RdataTypes': WHATEVER THE INPUT: true; the input reads as it did. -/
def rdataTypesSpec : ChangeSpec := { name := "rdataTypes", fn := fun _ => fun
  | [d1, d2] => { results := [.lit (.bool true)], args := [d1, d2] }
  | _ => none }
def rdataTypesRow : OpenClaim := { program := "ytgkpgpdkolpfkaadoor", sum := "1a51c70332689fcedbcd8dd024935a8c69e579a4c013ebec3a3959be1a0266bd", func := "hearsay/hearsaylaw04.RdataTypes", spec := "rdataTypes", inPlace := ["internal/abi.NoEscape", "internal/bytealg.MakeNoZero"], unfollowed := true, recurses := true, named := ["hearsay/rdata.kinds", "strconv.ErrSyntax", "strconv.ErrRange", "internal/strconv.uint64pow10", "math/bits.deBruijn32tab", "math/bits.deBruijn64tab"], apart := false, laid := [("math/bits.deBruijn32tab", laid_math_bits_deBruijn32tab), ("math/bits.deBruijn64tab", laid_math_bits_deBruijn64tab), ("internal/strconv.uint64pow10", laid_internal_strconv_uint64pow10), ("strconv.ErrRange", laid_strconv_ErrRange), ("strconv.ErrSyntax", laid_strconv_ErrSyntax), ("hearsay/rdata.kinds", laid_hearsay_rdata_kinds)] }
def RdataTypesSaid : Prop := rdataTypesRow.holds Tryd.pinned (OpenSpec.ofChange rdataTypesSpec)

/-- ITS FALSE NEIGHBOUR: 'it returns false'. Refute it at one input. -/
def rdataTypesWrong : ChangeSpec := { name := "rdataTypes", fn := fun _ => fun
  | [d1, d2] => { results := [.lit (.bool false)], args := [d1, d2] }
  | _ => none }
def RdataTypesWrongFalsely : Prop := rdataTypesRow.holds Tryd.pinned (OpenSpec.ofChange rdataTypesWrong)

/- THE SECOND FORM. 'bulk': how many values and letters a reading holds, each counted each time it is reached (what is shared counts as often as it is met; a slice's spare places count too). A statement '..UptoSaid' is the law's where the arguments, and the package variables that the reading takes, are together of bulk at most 1048576: NARROWER than '..Said'. Prove '..Said' where nothing that the law and all that it calls make is longer than what came in: it says more and counts as full. Else prove '..UptoSaid'. A law counts once. -/
mutual
def uptoBulk {H : Type} : DataW H → Nat
  | .lit (.string bytes) => bytes.length + 1
  | .lit _ => 1
  | .nil => 1
  | .ptr d => uptoBulk d + 1
  | .slice elems spare => uptoBulkAll elems + uptoBulkAll spare + 1
  | .agg parts => uptoBulkAll parts + 1
  | .iface _ d => uptoBulk d + 1
  | .map entries => uptoBulkEntries entries + 1
  | .held _ => 1
def uptoBulkAll {H : Type} : List (DataW H) → Nat
  | [] => 0
  | d :: r => uptoBulk d + uptoBulkAll r
def uptoBulkEntries {H : Type} : List (Lit × DataW H) → Nat
  | [] => 0
  | x :: r => uptoBulkEntry x + uptoBulkEntries r
def uptoBulkEntry {H : Type} : Lit × DataW H → Nat
  | (.string bytes, d) => bytes.length + uptoBulk d + 1
  | (_, d) => uptoBulk d + 1
 end
def uptoSmall : (H : Type) → List (DataW H) → Bool := fun _ ds => decide (uptoBulkAll ds ≤ 1048576)
def OpenSpec.upto (s : _root_.Go.ChangeSpec) : _root_.Go.OpenSpec := { _root_.Go.OpenSpec.ofChange s with cond := some uptoSmall }

/-- 'hearsaylaw04.RdataPuts', WHERE WHAT IT READS IS OF BULK AT MOST 1048576: true; the input reads as it did. -/
def rdataPutsUptoRow : OpenClaim := { program := "ytgkpgpdkolpfkaadoor", sum := "1a51c70332689fcedbcd8dd024935a8c69e579a4c013ebec3a3959be1a0266bd", func := "hearsay/hearsaylaw04.RdataPuts", spec := "rdataPuts", inPlace := ["internal/abi.NoEscape", "internal/bytealg.MakeNoZero"], unfollowed := true, recurses := true, named := ["hearsay/rdata.kinds", "internal/strconv.uint64pow10", "math/bits.deBruijn32tab", "math/bits.deBruijn64tab"], apart := false, laid := [("math/bits.deBruijn32tab", laid_math_bits_deBruijn32tab), ("math/bits.deBruijn64tab", laid_math_bits_deBruijn64tab), ("internal/strconv.uint64pow10", laid_internal_strconv_uint64pow10), ("hearsay/rdata.kinds", laid_hearsay_rdata_kinds)], narrowed := true }
def RdataPutsUptoSaid : Prop := rdataPutsUptoRow.holds Tryd.pinned (OpenSpec.upto rdataPutsSpec)

/-- 'hearsaylaw04.RdataShows', WHERE WHAT IT READS IS OF BULK AT MOST 1048576: true; the input reads as it did. -/
def rdataShowsUptoRow : OpenClaim := { program := "ytgkpgpdkolpfkaadoor", sum := "1a51c70332689fcedbcd8dd024935a8c69e579a4c013ebec3a3959be1a0266bd", func := "hearsay/hearsaylaw04.RdataShows", spec := "rdataShows", inPlace := ["internal/abi.NoEscape", "internal/bytealg.MakeNoZero"], unfollowed := true, recurses := true, named := ["hearsay/rdata.kinds", "internal/strconv.uint64pow10", "math/bits.deBruijn32tab", "math/bits.deBruijn64tab"], apart := false, laid := [("math/bits.deBruijn32tab", laid_math_bits_deBruijn32tab), ("math/bits.deBruijn64tab", laid_math_bits_deBruijn64tab), ("internal/strconv.uint64pow10", laid_internal_strconv_uint64pow10), ("hearsay/rdata.kinds", laid_hearsay_rdata_kinds)], narrowed := true }
def RdataShowsUptoSaid : Prop := rdataShowsUptoRow.holds Tryd.pinned (OpenSpec.upto rdataShowsSpec)

/-- 'hearsaylaw04.RdataChecks', WHERE WHAT IT READS IS OF BULK AT MOST 1048576: true; the input reads as it did. -/
def rdataChecksUptoRow : OpenClaim := { program := "ytgkpgpdkolpfkaadoor", sum := "1a51c70332689fcedbcd8dd024935a8c69e579a4c013ebec3a3959be1a0266bd", func := "hearsay/hearsaylaw04.RdataChecks", spec := "rdataChecks", inPlace := ["internal/abi.NoEscape", "internal/bytealg.MakeNoZero"], unfollowed := true, recurses := true, named := ["hearsay/rdata.kinds", "internal/strconv.uint64pow10", "math/bits.deBruijn32tab", "math/bits.deBruijn64tab"], apart := false, laid := [("math/bits.deBruijn32tab", laid_math_bits_deBruijn32tab), ("math/bits.deBruijn64tab", laid_math_bits_deBruijn64tab), ("internal/strconv.uint64pow10", laid_internal_strconv_uint64pow10), ("hearsay/rdata.kinds", laid_hearsay_rdata_kinds)], narrowed := true }
def RdataChecksUptoSaid : Prop := rdataChecksUptoRow.holds Tryd.pinned (OpenSpec.upto rdataChecksSpec)

/-- 'hearsaylaw04.RdataBack', WHERE WHAT IT READS IS OF BULK AT MOST 1048576: true; the input reads as it did. -/
def rdataBackUptoRow : OpenClaim := { program := "ytgkpgpdkolpfkaadoor", sum := "1a51c70332689fcedbcd8dd024935a8c69e579a4c013ebec3a3959be1a0266bd", func := "hearsay/hearsaylaw04.RdataBack", spec := "rdataBack", inPlace := ["internal/abi.NoEscape", "internal/bytealg.MakeNoZero"], unfollowed := true, recurses := true, named := ["hearsay/rdata.kinds", "internal/strconv.uint64pow10", "math/bits.deBruijn32tab", "math/bits.deBruijn64tab"], apart := false, laid := [("math/bits.deBruijn32tab", laid_math_bits_deBruijn32tab), ("math/bits.deBruijn64tab", laid_math_bits_deBruijn64tab), ("internal/strconv.uint64pow10", laid_internal_strconv_uint64pow10), ("hearsay/rdata.kinds", laid_hearsay_rdata_kinds)], narrowed := true }
def RdataBackUptoSaid : Prop := rdataBackUptoRow.holds Tryd.pinned (OpenSpec.upto rdataBackSpec)

/-- 'hearsaylaw04.RdataTypes', WHERE WHAT IT READS IS OF BULK AT MOST 1048576: true; the input reads as it did. -/
def rdataTypesUptoRow : OpenClaim := { program := "ytgkpgpdkolpfkaadoor", sum := "1a51c70332689fcedbcd8dd024935a8c69e579a4c013ebec3a3959be1a0266bd", func := "hearsay/hearsaylaw04.RdataTypes", spec := "rdataTypes", inPlace := ["internal/abi.NoEscape", "internal/bytealg.MakeNoZero"], unfollowed := true, recurses := true, named := ["hearsay/rdata.kinds", "strconv.ErrSyntax", "strconv.ErrRange", "internal/strconv.uint64pow10", "math/bits.deBruijn32tab", "math/bits.deBruijn64tab"], apart := false, laid := [("math/bits.deBruijn32tab", laid_math_bits_deBruijn32tab), ("math/bits.deBruijn64tab", laid_math_bits_deBruijn64tab), ("internal/strconv.uint64pow10", laid_internal_strconv_uint64pow10), ("strconv.ErrRange", laid_strconv_ErrRange), ("strconv.ErrSyntax", laid_strconv_ErrSyntax), ("hearsay/rdata.kinds", laid_hearsay_rdata_kinds)], narrowed := true }
def RdataTypesUptoSaid : Prop := rdataTypesUptoRow.holds Tryd.pinned (OpenSpec.upto rdataTypesSpec)

end Rows
end Go.Proofs.YtgkpgpdkolpfkaaDoor
