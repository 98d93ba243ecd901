/-
  NARROWER THAN 'FOR EVERY INPUT', by the rows' own cells (each row's printed sentence says how): HeaderForms: laid · HeaderWrites: laid · HeaderReads: laid · HeaderBack: laid · HeaderByte: laid.
  DERIVED. THE GIVEN ROWS OF THIS SEAT. 5 by the template 'for every input the law returns true; each argument reads behind the call as it read before'; 0 by the template 'total and deterministic' (their statements: YtjeaofabpfgngaaDoorTotals.lean).
  GIVEN WITH THE SEED: the statements are not yours to turn. If you find one false, say at which input.
  Laid BY PROGRAM, IN A SANDBOX (cutbox-rows.mjs): the forced cells as the released guide's own fill.sh prints them over the translation 7c1172cbb2abef55… (all of the seat's roots in one cut). By AI agents, Wed Nov 11 2026. No macro, syntax, notation, axiom, sorry.
-/
import Derived.Test.YtjeaofabpfgngaaDoorChecked
import GoSem.PinnedTables
import GoSem.Claim
import GoSem.ClaimJoined
import GoSem.ClaimMapViews
import Derived.JoinedTies
import Derived.KernelRfl
namespace Go.Proofs.YtjeaofabpfgngaaDoor
/- THE CELL 'sum', in the pinned program and in every row, IS THE sha256 OF THE DUMP (.gsa) THAT YtjeaofabpfgngaaDoorProg.lean LOADS. Nothing in Lean hashes anything: it is a label: what it is worth is what the hold of that sum in a sandbox is worth. -/
noncomputable def Tryd.pinned : Pinned := { name := "ytjeaofabpfgngaadoor", sum := "7c1172cbb2abef55ef4f9b7cbd6b4a095ad23556ea417faf24c80e4c8d806fa9", checked := Tryd.checked }
namespace Rows
def none {H : Type} : Left H := { results := [], args := [] }

/- WHAT THE LISTED PACKAGE-LEVEL VARIABLES READ AS WHEN THE CALL BEGINS. Each datum BY PROGRAM (the guide's laid-datum.mjs) off the statement by which the dump's own 'gosem.cut.vars' lays the variable. In a bare row this is a premise. The card (YtjeaofabpfgngaaDoorCards.lean) ties it to the program's text. -/
def laid_math_bits_deBruijn32tab {H : Type} : DataW H := .agg [.lit (.int .u8 0), .lit (.int .u8 1), .lit (.int .u8 28), .lit (.int .u8 2), .lit (.int .u8 29), .lit (.int .u8 14), .lit (.int .u8 24), .lit (.int .u8 3), .lit (.int .u8 30), .lit (.int .u8 22), .lit (.int .u8 20), .lit (.int .u8 15), .lit (.int .u8 25), .lit (.int .u8 17), .lit (.int .u8 4), .lit (.int .u8 8), .lit (.int .u8 31), .lit (.int .u8 27), .lit (.int .u8 13), .lit (.int .u8 23), .lit (.int .u8 21), .lit (.int .u8 19), .lit (.int .u8 16), .lit (.int .u8 7), .lit (.int .u8 26), .lit (.int .u8 12), .lit (.int .u8 18), .lit (.int .u8 6), .lit (.int .u8 11), .lit (.int .u8 5), .lit (.int .u8 10), .lit (.int .u8 9)]
def laid_math_bits_deBruijn64tab {H : Type} : DataW H := .agg [.lit (.int .u8 0), .lit (.int .u8 1), .lit (.int .u8 56), .lit (.int .u8 2), .lit (.int .u8 57), .lit (.int .u8 49), .lit (.int .u8 28), .lit (.int .u8 3), .lit (.int .u8 61), .lit (.int .u8 58), .lit (.int .u8 42), .lit (.int .u8 50), .lit (.int .u8 38), .lit (.int .u8 29), .lit (.int .u8 17), .lit (.int .u8 4), .lit (.int .u8 62), .lit (.int .u8 47), .lit (.int .u8 59), .lit (.int .u8 36), .lit (.int .u8 45), .lit (.int .u8 43), .lit (.int .u8 51), .lit (.int .u8 22), .lit (.int .u8 53), .lit (.int .u8 39), .lit (.int .u8 33), .lit (.int .u8 30), .lit (.int .u8 24), .lit (.int .u8 18), .lit (.int .u8 12), .lit (.int .u8 5), .lit (.int .u8 63), .lit (.int .u8 55), .lit (.int .u8 48), .lit (.int .u8 27), .lit (.int .u8 60), .lit (.int .u8 41), .lit (.int .u8 37), .lit (.int .u8 16), .lit (.int .u8 46), .lit (.int .u8 35), .lit (.int .u8 44), .lit (.int .u8 21), .lit (.int .u8 52), .lit (.int .u8 32), .lit (.int .u8 23), .lit (.int .u8 11), .lit (.int .u8 54), .lit (.int .u8 26), .lit (.int .u8 40), .lit (.int .u8 15), .lit (.int .u8 34), .lit (.int .u8 20), .lit (.int .u8 31), .lit (.int .u8 10), .lit (.int .u8 25), .lit (.int .u8 14), .lit (.int .u8 19), .lit (.int .u8 9), .lit (.int .u8 13), .lit (.int .u8 8), .lit (.int .u8 7), .lit (.int .u8 6)]
def laid_internal_strconv_uint64pow10 {H : Type} : DataW H := .agg [.lit (.int .u64 1), .lit (.int .u64 10), .lit (.int .u64 100), .lit (.int .u64 1000), .lit (.int .u64 10000), .lit (.int .u64 100000), .lit (.int .u64 1000000), .lit (.int .u64 10000000), .lit (.int .u64 100000000), .lit (.int .u64 1000000000), .lit (.int .u64 10000000000), .lit (.int .u64 100000000000), .lit (.int .u64 1000000000000), .lit (.int .u64 10000000000000), .lit (.int .u64 100000000000000), .lit (.int .u64 1000000000000000), .lit (.int .u64 10000000000000000), .lit (.int .u64 100000000000000000), .lit (.int .u64 1000000000000000000), .lit (.int .u64 10000000000000000000)]
def laid_satchel_header_atName {H : Type} : DataW H := .agg [.lit (.int .i64 0), .lit (.int .i64 100)]
def laid_satchel_header_atType {H : Type} : DataW H := .lit (.int .i64 156)
def laid_satchel_header_atLink {H : Type} : DataW H := .agg [.lit (.int .i64 157), .lit (.int .i64 100)]
def laid_satchel_header_atMagic {H : Type} : DataW H := .agg [.lit (.int .i64 257), .lit (.int .i64 8)]
def laid_satchel_header_atUser {H : Type} : DataW H := .agg [.lit (.int .i64 265), .lit (.int .i64 32)]
def laid_satchel_header_atGroup {H : Type} : DataW H := .agg [.lit (.int .i64 297), .lit (.int .i64 32)]
def laid_satchel_header_atPrefix {H : Type} : DataW H := .agg [.lit (.int .i64 345), .lit (.int .i64 155)]
def laid_unicode_utf8_acceptRanges {H : Type} : DataW H := .agg [.agg [.lit (.int .u8 128), .lit (.int .u8 191)], .agg [.lit (.int .u8 160), .lit (.int .u8 191)], .agg [.lit (.int .u8 128), .lit (.int .u8 159)], .agg [.lit (.int .u8 144), .lit (.int .u8 191)], .agg [.lit (.int .u8 128), .lit (.int .u8 143)], .agg [.lit (.int .u8 0), .lit (.int .u8 0)], .agg [.lit (.int .u8 0), .lit (.int .u8 0)], .agg [.lit (.int .u8 0), .lit (.int .u8 0)], .agg [.lit (.int .u8 0), .lit (.int .u8 0)], .agg [.lit (.int .u8 0), .lit (.int .u8 0)], .agg [.lit (.int .u8 0), .lit (.int .u8 0)], .agg [.lit (.int .u8 0), .lit (.int .u8 0)], .agg [.lit (.int .u8 0), .lit (.int .u8 0)], .agg [.lit (.int .u8 0), .lit (.int .u8 0)], .agg [.lit (.int .u8 0), .lit (.int .u8 0)], .agg [.lit (.int .u8 0), .lit (.int .u8 0)]]
/-- One of Go's own tables, pinned by name: the form's constant. -/
def laid_unicode_utf8_first : DataW Unit := Go.Pinned.utf8First

/-- 'satchellaw13.HeaderForms': WHATEVER THE INPUT: true; the input reads as it did. -/
def headerFormsSpec : ChangeSpec := { name := "headerForms", fn := fun _ => fun
  | [d] => { results := [.lit (.bool true)], args := [d] }
  | _ => none }
def headerFormsRow : OpenClaim := { program := "ytjeaofabpfgngaadoor", sum := "7c1172cbb2abef55ef4f9b7cbd6b4a095ad23556ea417faf24c80e4c8d806fa9", func := "satchel/satchellaw13.HeaderForms", spec := "headerForms", inPlace := ["internal/bytealg.IndexByteString", "internal/abi.NoEscape", "internal/bytealg.MakeNoZero"], unfollowed := true, recurses := true, named := ["satchel/header.atType", "satchel/header.atMagic", "satchel/header.atName", "satchel/header.atLink", "satchel/header.atUser", "satchel/header.atGroup", "satchel/header.atPrefix", "internal/strconv.uint64pow10", "math/bits.deBruijn32tab", "math/bits.deBruijn64tab"], apart := false, laid := [("math/bits.deBruijn32tab", laid_math_bits_deBruijn32tab), ("math/bits.deBruijn64tab", laid_math_bits_deBruijn64tab), ("internal/strconv.uint64pow10", laid_internal_strconv_uint64pow10), ("satchel/header.atName", laid_satchel_header_atName), ("satchel/header.atType", laid_satchel_header_atType), ("satchel/header.atLink", laid_satchel_header_atLink), ("satchel/header.atMagic", laid_satchel_header_atMagic), ("satchel/header.atUser", laid_satchel_header_atUser), ("satchel/header.atGroup", laid_satchel_header_atGroup), ("satchel/header.atPrefix", laid_satchel_header_atPrefix)] }
def HeaderFormsSaid : Prop := headerFormsRow.holds Tryd.pinned (OpenSpec.ofChange headerFormsSpec)

/-- ITS FALSE NEIGHBOUR: 'it returns false'. Refute it at one input. -/
def headerFormsWrong : ChangeSpec := { name := "headerForms", fn := fun _ => fun
  | [d] => { results := [.lit (.bool false)], args := [d] }
  | _ => none }
def HeaderFormsWrongFalsely : Prop := headerFormsRow.holds Tryd.pinned (OpenSpec.ofChange headerFormsWrong)

/-- 'satchellaw13.HeaderWrites': WHATEVER THE INPUT: true; the input reads as it did. -/
def headerWritesSpec : ChangeSpec := { name := "headerWrites", fn := fun _ => fun
  | [d] => { results := [.lit (.bool true)], args := [d] }
  | _ => none }
def headerWritesRow : OpenClaim := { program := "ytjeaofabpfgngaadoor", sum := "7c1172cbb2abef55ef4f9b7cbd6b4a095ad23556ea417faf24c80e4c8d806fa9", func := "satchel/satchellaw13.HeaderWrites", spec := "headerWrites", inPlace := ["internal/bytealg.IndexByteString", "internal/abi.NoEscape", "internal/bytealg.MakeNoZero"], unfollowed := true, recurses := true, named := ["satchel/header.atType", "satchel/header.atMagic", "satchel/header.atName", "satchel/header.atLink", "satchel/header.atUser", "satchel/header.atGroup", "satchel/header.atPrefix", "internal/strconv.uint64pow10", "math/bits.deBruijn32tab", "math/bits.deBruijn64tab"], apart := false, laid := [("math/bits.deBruijn32tab", laid_math_bits_deBruijn32tab), ("math/bits.deBruijn64tab", laid_math_bits_deBruijn64tab), ("internal/strconv.uint64pow10", laid_internal_strconv_uint64pow10), ("satchel/header.atName", laid_satchel_header_atName), ("satchel/header.atType", laid_satchel_header_atType), ("satchel/header.atLink", laid_satchel_header_atLink), ("satchel/header.atMagic", laid_satchel_header_atMagic), ("satchel/header.atUser", laid_satchel_header_atUser), ("satchel/header.atGroup", laid_satchel_header_atGroup), ("satchel/header.atPrefix", laid_satchel_header_atPrefix)] }
def HeaderWritesSaid : Prop := headerWritesRow.holds Tryd.pinned (OpenSpec.ofChange headerWritesSpec)

/-- ITS FALSE NEIGHBOUR: 'it returns false'. Refute it at one input. -/
def headerWritesWrong : ChangeSpec := { name := "headerWrites", fn := fun _ => fun
  | [d] => { results := [.lit (.bool false)], args := [d] }
  | _ => none }
def HeaderWritesWrongFalsely : Prop := headerWritesRow.holds Tryd.pinned (OpenSpec.ofChange headerWritesWrong)

/-- 'satchellaw13.HeaderReads': WHATEVER THE INPUT: true; the input reads as it did. -/
def headerReadsSpec : ChangeSpec := { name := "headerReads", fn := fun _ => fun
  | [d] => { results := [.lit (.bool true)], args := [d] }
  | _ => none }
def headerReadsRow : OpenClaim := { program := "ytjeaofabpfgngaadoor", sum := "7c1172cbb2abef55ef4f9b7cbd6b4a095ad23556ea417faf24c80e4c8d806fa9", func := "satchel/satchellaw13.HeaderReads", spec := "headerReads", inPlace := ["internal/bytealg.IndexByte", "internal/bytealg.Index", "internal/bytealg.IndexByteString", "internal/abi.NoEscape", "internal/bytealg.MakeNoZero"], unfollowed := true, recurses := true, named := ["satchel/header.atMagic", "satchel/header.atType", "unicode/utf8.first", "unicode/utf8.acceptRanges", "satchel/header.atName", "satchel/header.atLink", "satchel/header.atUser", "satchel/header.atGroup", "satchel/header.atPrefix", "internal/bytealg.MaxLen", "internal/strconv.uint64pow10", "math/bits.deBruijn32tab", "math/bits.deBruijn64tab"], apart := false, laid := [("math/bits.deBruijn32tab", laid_math_bits_deBruijn32tab), ("math/bits.deBruijn64tab", laid_math_bits_deBruijn64tab), ("internal/strconv.uint64pow10", laid_internal_strconv_uint64pow10), ("unicode/utf8.acceptRanges", laid_unicode_utf8_acceptRanges), ("satchel/header.atName", laid_satchel_header_atName), ("satchel/header.atType", laid_satchel_header_atType), ("satchel/header.atLink", laid_satchel_header_atLink), ("satchel/header.atMagic", laid_satchel_header_atMagic), ("satchel/header.atUser", laid_satchel_header_atUser), ("satchel/header.atGroup", laid_satchel_header_atGroup), ("satchel/header.atPrefix", laid_satchel_header_atPrefix), ("unicode/utf8.first", laid_unicode_utf8_first)] }
def HeaderReadsSaid : Prop := headerReadsRow.holds Tryd.pinned (OpenSpec.ofChange headerReadsSpec)

/-- ITS FALSE NEIGHBOUR: 'it returns false'. Refute it at one input. -/
def headerReadsWrong : ChangeSpec := { name := "headerReads", fn := fun _ => fun
  | [d] => { results := [.lit (.bool false)], args := [d] }
  | _ => none }
def HeaderReadsWrongFalsely : Prop := headerReadsRow.holds Tryd.pinned (OpenSpec.ofChange headerReadsWrong)

/-- 'satchellaw13.HeaderBack': WHATEVER THE INPUT: true; the input reads as it did. -/
def headerBackSpec : ChangeSpec := { name := "headerBack", fn := fun _ => fun
  | [d] => { results := [.lit (.bool true)], args := [d] }
  | _ => none }
def headerBackRow : OpenClaim := { program := "ytjeaofabpfgngaadoor", sum := "7c1172cbb2abef55ef4f9b7cbd6b4a095ad23556ea417faf24c80e4c8d806fa9", func := "satchel/satchellaw13.HeaderBack", spec := "headerBack", inPlace := ["internal/bytealg.IndexByteString", "internal/abi.NoEscape", "internal/bytealg.MakeNoZero", "internal/bytealg.IndexByte", "internal/bytealg.Index"], unfollowed := true, recurses := true, named := ["satchel/header.atType", "satchel/header.atMagic", "satchel/header.atName", "satchel/header.atLink", "satchel/header.atUser", "satchel/header.atGroup", "satchel/header.atPrefix", "internal/strconv.uint64pow10", "math/bits.deBruijn32tab", "math/bits.deBruijn64tab", "unicode/utf8.first", "unicode/utf8.acceptRanges", "internal/bytealg.MaxLen"], apart := false, laid := [("math/bits.deBruijn32tab", laid_math_bits_deBruijn32tab), ("math/bits.deBruijn64tab", laid_math_bits_deBruijn64tab), ("internal/strconv.uint64pow10", laid_internal_strconv_uint64pow10), ("unicode/utf8.acceptRanges", laid_unicode_utf8_acceptRanges), ("satchel/header.atName", laid_satchel_header_atName), ("satchel/header.atType", laid_satchel_header_atType), ("satchel/header.atLink", laid_satchel_header_atLink), ("satchel/header.atMagic", laid_satchel_header_atMagic), ("satchel/header.atUser", laid_satchel_header_atUser), ("satchel/header.atGroup", laid_satchel_header_atGroup), ("satchel/header.atPrefix", laid_satchel_header_atPrefix), ("unicode/utf8.first", laid_unicode_utf8_first)] }
def HeaderBackSaid : Prop := headerBackRow.holds Tryd.pinned (OpenSpec.ofChange headerBackSpec)

/-- ITS FALSE NEIGHBOUR: 'it returns false'. Refute it at one input. -/
def headerBackWrong : ChangeSpec := { name := "headerBack", fn := fun _ => fun
  | [d] => { results := [.lit (.bool false)], args := [d] }
  | _ => none }
def HeaderBackWrongFalsely : Prop := headerBackRow.holds Tryd.pinned (OpenSpec.ofChange headerBackWrong)

/-- 'satchellaw13.HeaderByte': WHATEVER THE INPUT: true; the input reads as it did. -/
def headerByteSpec : ChangeSpec := { name := "headerByte", fn := fun _ => fun
  | [d1, d2, d3] => { results := [.lit (.bool true)], args := [d1, d2, d3] }
  | _ => none }
def headerByteRow : OpenClaim := { program := "ytjeaofabpfgngaadoor", sum := "7c1172cbb2abef55ef4f9b7cbd6b4a095ad23556ea417faf24c80e4c8d806fa9", func := "satchel/satchellaw13.HeaderByte", spec := "headerByte", inPlace := ["internal/bytealg.IndexByteString", "internal/abi.NoEscape", "internal/bytealg.MakeNoZero", "internal/bytealg.IndexByte", "internal/bytealg.Index"], unfollowed := true, recurses := true, named := ["satchel/header.atType", "satchel/header.atMagic", "satchel/header.atName", "satchel/header.atLink", "satchel/header.atUser", "satchel/header.atGroup", "satchel/header.atPrefix", "internal/strconv.uint64pow10", "math/bits.deBruijn32tab", "math/bits.deBruijn64tab", "unicode/utf8.first", "unicode/utf8.acceptRanges", "internal/bytealg.MaxLen"], apart := false, laid := [("math/bits.deBruijn32tab", laid_math_bits_deBruijn32tab), ("math/bits.deBruijn64tab", laid_math_bits_deBruijn64tab), ("internal/strconv.uint64pow10", laid_internal_strconv_uint64pow10), ("unicode/utf8.acceptRanges", laid_unicode_utf8_acceptRanges), ("satchel/header.atName", laid_satchel_header_atName), ("satchel/header.atType", laid_satchel_header_atType), ("satchel/header.atLink", laid_satchel_header_atLink), ("satchel/header.atMagic", laid_satchel_header_atMagic), ("satchel/header.atUser", laid_satchel_header_atUser), ("satchel/header.atGroup", laid_satchel_header_atGroup), ("satchel/header.atPrefix", laid_satchel_header_atPrefix), ("unicode/utf8.first", laid_unicode_utf8_first)] }
def HeaderByteSaid : Prop := headerByteRow.holds Tryd.pinned (OpenSpec.ofChange headerByteSpec)

/-- ITS FALSE NEIGHBOUR: 'it returns false'. Refute it at one input. -/
def headerByteWrong : ChangeSpec := { name := "headerByte", fn := fun _ => fun
  | [d1, d2, d3] => { results := [.lit (.bool false)], args := [d1, d2, d3] }
  | _ => none }
def HeaderByteWrongFalsely : Prop := headerByteRow.holds Tryd.pinned (OpenSpec.ofChange headerByteWrong)

/- THE SECOND FORM. 'bulk': how many values and letters a reading holds, each counted each time it is reached (what is shared counts as often as it is met; a slice's spare places count too). A statement '..UptoSaid' is the law's where the arguments, and the package variables that the reading takes, are together of bulk at most 1048576: NARROWER than '..Said'. Prove '..Said' where nothing that the law and all that it calls make is longer than what came in: it says more and counts as full. Else prove '..UptoSaid'. A law counts once. -/
mutual
def uptoBulk {H : Type} : DataW H → Nat
  | .lit (.string bytes) => bytes.length + 1
  | .lit _ => 1
  | .nil => 1
  | .ptr d => uptoBulk d + 1
  | .slice elems spare => uptoBulkAll elems + uptoBulkAll spare + 1
  | .agg parts => uptoBulkAll parts + 1
  | .iface _ d => uptoBulk d + 1
  | .map entries => uptoBulkEntries entries + 1
  | .held _ => 1
def uptoBulkAll {H : Type} : List (DataW H) → Nat
  | [] => 0
  | d :: r => uptoBulk d + uptoBulkAll r
def uptoBulkEntries {H : Type} : List (Lit × DataW H) → Nat
  | [] => 0
  | x :: r => uptoBulkEntry x + uptoBulkEntries r
def uptoBulkEntry {H : Type} : Lit × DataW H → Nat
  | (.string bytes, d) => bytes.length + uptoBulk d + 1
  | (_, d) => uptoBulk d + 1
 end
def uptoSmall : (H : Type) → List (DataW H) → Bool := fun _ ds => decide (uptoBulkAll ds ≤ 1048576)
def OpenSpec.upto (s : _root_.Go.ChangeSpec) : _root_.Go.OpenSpec := { _root_.Go.OpenSpec.ofChange s with cond := some uptoSmall }

/-- 'satchellaw13.HeaderForms', WHERE WHAT IT READS IS OF BULK AT MOST 1048576: true; the input reads as it did. -/
def headerFormsUptoRow : OpenClaim := { program := "ytjeaofabpfgngaadoor", sum := "7c1172cbb2abef55ef4f9b7cbd6b4a095ad23556ea417faf24c80e4c8d806fa9", func := "satchel/satchellaw13.HeaderForms", spec := "headerForms", inPlace := ["internal/bytealg.IndexByteString", "internal/abi.NoEscape", "internal/bytealg.MakeNoZero"], unfollowed := true, recurses := true, named := ["satchel/header.atType", "satchel/header.atMagic", "satchel/header.atName", "satchel/header.atLink", "satchel/header.atUser", "satchel/header.atGroup", "satchel/header.atPrefix", "internal/strconv.uint64pow10", "math/bits.deBruijn32tab", "math/bits.deBruijn64tab"], apart := false, laid := [("math/bits.deBruijn32tab", laid_math_bits_deBruijn32tab), ("math/bits.deBruijn64tab", laid_math_bits_deBruijn64tab), ("internal/strconv.uint64pow10", laid_internal_strconv_uint64pow10), ("satchel/header.atName", laid_satchel_header_atName), ("satchel/header.atType", laid_satchel_header_atType), ("satchel/header.atLink", laid_satchel_header_atLink), ("satchel/header.atMagic", laid_satchel_header_atMagic), ("satchel/header.atUser", laid_satchel_header_atUser), ("satchel/header.atGroup", laid_satchel_header_atGroup), ("satchel/header.atPrefix", laid_satchel_header_atPrefix)], narrowed := true }
def HeaderFormsUptoSaid : Prop := headerFormsUptoRow.holds Tryd.pinned (OpenSpec.upto headerFormsSpec)

/-- 'satchellaw13.HeaderWrites', WHERE WHAT IT READS IS OF BULK AT MOST 1048576: true; the input reads as it did. -/
def headerWritesUptoRow : OpenClaim := { program := "ytjeaofabpfgngaadoor", sum := "7c1172cbb2abef55ef4f9b7cbd6b4a095ad23556ea417faf24c80e4c8d806fa9", func := "satchel/satchellaw13.HeaderWrites", spec := "headerWrites", inPlace := ["internal/bytealg.IndexByteString", "internal/abi.NoEscape", "internal/bytealg.MakeNoZero"], unfollowed := true, recurses := true, named := ["satchel/header.atType", "satchel/header.atMagic", "satchel/header.atName", "satchel/header.atLink", "satchel/header.atUser", "satchel/header.atGroup", "satchel/header.atPrefix", "internal/strconv.uint64pow10", "math/bits.deBruijn32tab", "math/bits.deBruijn64tab"], apart := false, laid := [("math/bits.deBruijn32tab", laid_math_bits_deBruijn32tab), ("math/bits.deBruijn64tab", laid_math_bits_deBruijn64tab), ("internal/strconv.uint64pow10", laid_internal_strconv_uint64pow10), ("satchel/header.atName", laid_satchel_header_atName), ("satchel/header.atType", laid_satchel_header_atType), ("satchel/header.atLink", laid_satchel_header_atLink), ("satchel/header.atMagic", laid_satchel_header_atMagic), ("satchel/header.atUser", laid_satchel_header_atUser), ("satchel/header.atGroup", laid_satchel_header_atGroup), ("satchel/header.atPrefix", laid_satchel_header_atPrefix)], narrowed := true }
def HeaderWritesUptoSaid : Prop := headerWritesUptoRow.holds Tryd.pinned (OpenSpec.upto headerWritesSpec)

/-- 'satchellaw13.HeaderReads', WHERE WHAT IT READS IS OF BULK AT MOST 1048576: true; the input reads as it did. -/
def headerReadsUptoRow : OpenClaim := { program := "ytjeaofabpfgngaadoor", sum := "7c1172cbb2abef55ef4f9b7cbd6b4a095ad23556ea417faf24c80e4c8d806fa9", func := "satchel/satchellaw13.HeaderReads", spec := "headerReads", inPlace := ["internal/bytealg.IndexByte", "internal/bytealg.Index", "internal/bytealg.IndexByteString", "internal/abi.NoEscape", "internal/bytealg.MakeNoZero"], unfollowed := true, recurses := true, named := ["satchel/header.atMagic", "satchel/header.atType", "unicode/utf8.first", "unicode/utf8.acceptRanges", "satchel/header.atName", "satchel/header.atLink", "satchel/header.atUser", "satchel/header.atGroup", "satchel/header.atPrefix", "internal/bytealg.MaxLen", "internal/strconv.uint64pow10", "math/bits.deBruijn32tab", "math/bits.deBruijn64tab"], apart := false, laid := [("math/bits.deBruijn32tab", laid_math_bits_deBruijn32tab), ("math/bits.deBruijn64tab", laid_math_bits_deBruijn64tab), ("internal/strconv.uint64pow10", laid_internal_strconv_uint64pow10), ("unicode/utf8.acceptRanges", laid_unicode_utf8_acceptRanges), ("satchel/header.atName", laid_satchel_header_atName), ("satchel/header.atType", laid_satchel_header_atType), ("satchel/header.atLink", laid_satchel_header_atLink), ("satchel/header.atMagic", laid_satchel_header_atMagic), ("satchel/header.atUser", laid_satchel_header_atUser), ("satchel/header.atGroup", laid_satchel_header_atGroup), ("satchel/header.atPrefix", laid_satchel_header_atPrefix), ("unicode/utf8.first", laid_unicode_utf8_first)], narrowed := true }
def HeaderReadsUptoSaid : Prop := headerReadsUptoRow.holds Tryd.pinned (OpenSpec.upto headerReadsSpec)

/-- 'satchellaw13.HeaderBack', WHERE WHAT IT READS IS OF BULK AT MOST 1048576: true; the input reads as it did. -/
def headerBackUptoRow : OpenClaim := { program := "ytjeaofabpfgngaadoor", sum := "7c1172cbb2abef55ef4f9b7cbd6b4a095ad23556ea417faf24c80e4c8d806fa9", func := "satchel/satchellaw13.HeaderBack", spec := "headerBack", inPlace := ["internal/bytealg.IndexByteString", "internal/abi.NoEscape", "internal/bytealg.MakeNoZero", "internal/bytealg.IndexByte", "internal/bytealg.Index"], unfollowed := true, recurses := true, named := ["satchel/header.atType", "satchel/header.atMagic", "satchel/header.atName", "satchel/header.atLink", "satchel/header.atUser", "satchel/header.atGroup", "satchel/header.atPrefix", "internal/strconv.uint64pow10", "math/bits.deBruijn32tab", "math/bits.deBruijn64tab", "unicode/utf8.first", "unicode/utf8.acceptRanges", "internal/bytealg.MaxLen"], apart := false, laid := [("math/bits.deBruijn32tab", laid_math_bits_deBruijn32tab), ("math/bits.deBruijn64tab", laid_math_bits_deBruijn64tab), ("internal/strconv.uint64pow10", laid_internal_strconv_uint64pow10), ("unicode/utf8.acceptRanges", laid_unicode_utf8_acceptRanges), ("satchel/header.atName", laid_satchel_header_atName), ("satchel/header.atType", laid_satchel_header_atType), ("satchel/header.atLink", laid_satchel_header_atLink), ("satchel/header.atMagic", laid_satchel_header_atMagic), ("satchel/header.atUser", laid_satchel_header_atUser), ("satchel/header.atGroup", laid_satchel_header_atGroup), ("satchel/header.atPrefix", laid_satchel_header_atPrefix), ("unicode/utf8.first", laid_unicode_utf8_first)], narrowed := true }
def HeaderBackUptoSaid : Prop := headerBackUptoRow.holds Tryd.pinned (OpenSpec.upto headerBackSpec)

/-- 'satchellaw13.HeaderByte', WHERE WHAT IT READS IS OF BULK AT MOST 1048576: true; the input reads as it did. -/
def headerByteUptoRow : OpenClaim := { program := "ytjeaofabpfgngaadoor", sum := "7c1172cbb2abef55ef4f9b7cbd6b4a095ad23556ea417faf24c80e4c8d806fa9", func := "satchel/satchellaw13.HeaderByte", spec := "headerByte", inPlace := ["internal/bytealg.IndexByteString", "internal/abi.NoEscape", "internal/bytealg.MakeNoZero", "internal/bytealg.IndexByte", "internal/bytealg.Index"], unfollowed := true, recurses := true, named := ["satchel/header.atType", "satchel/header.atMagic", "satchel/header.atName", "satchel/header.atLink", "satchel/header.atUser", "satchel/header.atGroup", "satchel/header.atPrefix", "internal/strconv.uint64pow10", "math/bits.deBruijn32tab", "math/bits.deBruijn64tab", "unicode/utf8.first", "unicode/utf8.acceptRanges", "internal/bytealg.MaxLen"], apart := false, laid := [("math/bits.deBruijn32tab", laid_math_bits_deBruijn32tab), ("math/bits.deBruijn64tab", laid_math_bits_deBruijn64tab), ("internal/strconv.uint64pow10", laid_internal_strconv_uint64pow10), ("unicode/utf8.acceptRanges", laid_unicode_utf8_acceptRanges), ("satchel/header.atName", laid_satchel_header_atName), ("satchel/header.atType", laid_satchel_header_atType), ("satchel/header.atLink", laid_satchel_header_atLink), ("satchel/header.atMagic", laid_satchel_header_atMagic), ("satchel/header.atUser", laid_satchel_header_atUser), ("satchel/header.atGroup", laid_satchel_header_atGroup), ("satchel/header.atPrefix", laid_satchel_header_atPrefix), ("unicode/utf8.first", laid_unicode_utf8_first)], narrowed := true }
def HeaderByteUptoSaid : Prop := headerByteUptoRow.holds Tryd.pinned (OpenSpec.upto headerByteSpec)

end Rows
end Go.Proofs.YtjeaofabpfgngaaDoor
