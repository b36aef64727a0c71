/-
  NARROWER THAN 'FOR EVERY INPUT', by the rows' own cells (each row's printed sentence says how): UtextOtherForms: laid · UtextOneForm: laid · UtextGivesBack: laid · UtextChecks: laid · UtextPlaces: laid · UtextSplices: laid · UtextQuotes: laid · UtextWalks: laid · UtextAll: laid.
  DERIVED. THE GIVEN ROWS OF THIS SEAT. 9 by the template 'for every input the law returns true; each argument reads behind the call as it read before'; 0 by the template 'total and deterministic' (their statements: YtfgekdefnbohbaaDoorTotals.lean).
  GIVEN WITH THE SEED: the statements are not yours to turn. If you find one false, say at which input.
  Laid BY PROGRAM, IN A SANDBOX (cutbox-rows.mjs): the forced cells as the released guide's own fill.sh prints them over the translation 66f4eb9a067a92fa… (all of the seat's roots in one cut). By AI agents, Wed Nov 11 2026. No macro, syntax, notation, axiom, sorry.
-/
import Derived.Test.YtfgekdefnbohbaaDoorChecked
import GoSem.Claim
import GoSem.ClaimJoined
import GoSem.ClaimMapViews
import Derived.JoinedTies
import Derived.KernelRfl
namespace Go.Proofs.YtfgekdefnbohbaaDoor
/- THE CELL 'sum', in the pinned program and in every row, IS THE sha256 OF THE DUMP (.gsa) THAT YtfgekdefnbohbaaDoorProg.lean LOADS. Nothing in Lean hashes anything: it is a label: what it is worth is what the hold of that sum in a sandbox is worth. -/
noncomputable def Tryd.pinned : Pinned := { name := "ytfgekdefnbohbaadoor", sum := "66f4eb9a067a92fae8f00cacb316d2903be204a67a3d9764681c792a23636cb4", checked := Tryd.checked }
namespace Rows
def none {H : Type} : Left H := { results := [], args := [] }

/- WHAT THE LISTED PACKAGE-LEVEL VARIABLES READ AS WHEN THE CALL BEGINS. Each datum BY PROGRAM (the guide's laid-datum.mjs) off the statement by which the dump's own 'gosem.cut.vars' lays the variable. In a bare row this is a premise. The card (YtfgekdefnbohbaaDoorCards.lean) ties it to the program's text. -/
def laid_math_bits_deBruijn32tab {H : Type} : DataW H := .agg [.lit (.int .u8 0), .lit (.int .u8 1), .lit (.int .u8 28), .lit (.int .u8 2), .lit (.int .u8 29), .lit (.int .u8 14), .lit (.int .u8 24), .lit (.int .u8 3), .lit (.int .u8 30), .lit (.int .u8 22), .lit (.int .u8 20), .lit (.int .u8 15), .lit (.int .u8 25), .lit (.int .u8 17), .lit (.int .u8 4), .lit (.int .u8 8), .lit (.int .u8 31), .lit (.int .u8 27), .lit (.int .u8 13), .lit (.int .u8 23), .lit (.int .u8 21), .lit (.int .u8 19), .lit (.int .u8 16), .lit (.int .u8 7), .lit (.int .u8 26), .lit (.int .u8 12), .lit (.int .u8 18), .lit (.int .u8 6), .lit (.int .u8 11), .lit (.int .u8 5), .lit (.int .u8 10), .lit (.int .u8 9)]
def laid_math_bits_deBruijn64tab {H : Type} : DataW H := .agg [.lit (.int .u8 0), .lit (.int .u8 1), .lit (.int .u8 56), .lit (.int .u8 2), .lit (.int .u8 57), .lit (.int .u8 49), .lit (.int .u8 28), .lit (.int .u8 3), .lit (.int .u8 61), .lit (.int .u8 58), .lit (.int .u8 42), .lit (.int .u8 50), .lit (.int .u8 38), .lit (.int .u8 29), .lit (.int .u8 17), .lit (.int .u8 4), .lit (.int .u8 62), .lit (.int .u8 47), .lit (.int .u8 59), .lit (.int .u8 36), .lit (.int .u8 45), .lit (.int .u8 43), .lit (.int .u8 51), .lit (.int .u8 22), .lit (.int .u8 53), .lit (.int .u8 39), .lit (.int .u8 33), .lit (.int .u8 30), .lit (.int .u8 24), .lit (.int .u8 18), .lit (.int .u8 12), .lit (.int .u8 5), .lit (.int .u8 63), .lit (.int .u8 55), .lit (.int .u8 48), .lit (.int .u8 27), .lit (.int .u8 60), .lit (.int .u8 41), .lit (.int .u8 37), .lit (.int .u8 16), .lit (.int .u8 46), .lit (.int .u8 35), .lit (.int .u8 44), .lit (.int .u8 21), .lit (.int .u8 52), .lit (.int .u8 32), .lit (.int .u8 23), .lit (.int .u8 11), .lit (.int .u8 54), .lit (.int .u8 26), .lit (.int .u8 40), .lit (.int .u8 15), .lit (.int .u8 34), .lit (.int .u8 20), .lit (.int .u8 31), .lit (.int .u8 10), .lit (.int .u8 25), .lit (.int .u8 14), .lit (.int .u8 19), .lit (.int .u8 9), .lit (.int .u8 13), .lit (.int .u8 8), .lit (.int .u8 7), .lit (.int .u8 6)]
def laid_internal_strconv_uint64pow10 {H : Type} : DataW H := .agg [.lit (.int .u64 1), .lit (.int .u64 10), .lit (.int .u64 100), .lit (.int .u64 1000), .lit (.int .u64 10000), .lit (.int .u64 100000), .lit (.int .u64 1000000), .lit (.int .u64 10000000), .lit (.int .u64 100000000), .lit (.int .u64 1000000000), .lit (.int .u64 10000000000), .lit (.int .u64 100000000000), .lit (.int .u64 1000000000000), .lit (.int .u64 10000000000000), .lit (.int .u64 100000000000000), .lit (.int .u64 1000000000000000), .lit (.int .u64 10000000000000000), .lit (.int .u64 100000000000000000), .lit (.int .u64 1000000000000000000), .lit (.int .u64 10000000000000000000)]
def laid_strconv_ErrRange {H : Type} : DataW H := .iface "*errors.errorString" (.ptr (.agg [.lit (.string [118, 97, 108, 117, 101, 32, 111, 117, 116, 32, 111, 102, 32, 114, 97, 110, 103, 101])]))
def laid_strconv_ErrSyntax {H : Type} : DataW H := .iface "*errors.errorString" (.ptr (.agg [.lit (.string [105, 110, 118, 97, 108, 105, 100, 32, 115, 121, 110, 116, 97, 120])]))
def laid_redraft_utext_bars {H : Type} : DataW H := .agg [.agg [.lit (.int .i32 0), .lit (.int .i32 8)], .agg [.lit (.int .i32 11), .lit (.int .i32 31)], .agg [.lit (.int .i32 127), .lit (.int .i32 159)], .agg [.lit (.int .i32 64976), .lit (.int .i32 65007)], .agg [.lit (.int .i32 65279), .lit (.int .i32 65279)]]
def laid_redraft_utext_walks {H : Type} : DataW H := .iface "func table" (.agg [.nil, .iface "func" (.lit (.string [114, 101, 100, 114, 97, 102, 116, 47, 117, 116, 101, 120, 116, 46, 119, 97, 108, 107, 115, 36, 49])), .iface "func" (.lit (.string [114, 101, 100, 114, 97, 102, 116, 47, 117, 116, 101, 120, 116, 46, 119, 97, 108, 107, 115, 36, 50])), .iface "func" (.lit (.string [114, 101, 100, 114, 97, 102, 116, 47, 117, 116, 101, 120, 116, 46, 104, 111, 109, 101])), .iface "func" (.lit (.string [114, 101, 100, 114, 97, 102, 116, 47, 117, 116, 101, 120, 116, 46, 108, 105, 110, 101, 69, 110, 100])), .iface "func" (.lit (.string [114, 101, 100, 114, 97, 102, 116, 47, 117, 116, 101, 120, 116, 46, 117, 112])), .iface "func" (.lit (.string [114, 101, 100, 114, 97, 102, 116, 47, 117, 116, 101, 120, 116, 46, 100, 111, 119, 110])), .iface "func" (.lit (.string [114, 101, 100, 114, 97, 102, 116, 47, 117, 116, 101, 120, 116, 46, 119, 111, 114, 100, 76, 101, 102, 116])), .iface "func" (.lit (.string [114, 101, 100, 114, 97, 102, 116, 47, 117, 116, 101, 120, 116, 46, 119, 111, 114, 100, 82, 105, 103, 104, 116])), .iface "func" (.lit (.string [114, 101, 100, 114, 97, 102, 116, 47, 117, 116, 101, 120, 116, 46, 119, 97, 108, 107, 115, 36, 51])), .iface "func" (.lit (.string [114, 101, 100, 114, 97, 102, 116, 47, 117, 116, 101, 120, 116, 46, 119, 97, 108, 107, 115, 36, 52]))])

/-- 'redraftlaw01.UtextOtherForms': WHATEVER THE INPUT: true; the input reads as it did. -/
def utextOtherFormsSpec : ChangeSpec := { name := "utextOtherForms", fn := fun _ => fun
  | [d] => { results := [.lit (.bool true)], args := [d] }
  | _ => none }
def utextOtherFormsRow : OpenClaim := { program := "ytfgekdefnbohbaadoor", sum := "66f4eb9a067a92fae8f00cacb316d2903be204a67a3d9764681c792a23636cb4", func := "redraft/redraftlaw01.UtextOtherForms", spec := "utextOtherForms", inPlace := ["internal/abi.NoEscape", "internal/bytealg.IndexByteString"], named := ["internal/strconv.uint64pow10", "math/bits.deBruijn32tab", "math/bits.deBruijn64tab", "strconv.ErrSyntax", "strconv.ErrRange"], apart := false, laid := [("math/bits.deBruijn32tab", laid_math_bits_deBruijn32tab), ("math/bits.deBruijn64tab", laid_math_bits_deBruijn64tab), ("internal/strconv.uint64pow10", laid_internal_strconv_uint64pow10), ("strconv.ErrRange", laid_strconv_ErrRange), ("strconv.ErrSyntax", laid_strconv_ErrSyntax)] }
def UtextOtherFormsSaid : Prop := utextOtherFormsRow.holds Tryd.pinned (OpenSpec.ofChange utextOtherFormsSpec)

/-- ITS FALSE NEIGHBOUR: 'it returns false'. Refute it at one input. -/
def utextOtherFormsWrong : ChangeSpec := { name := "utextOtherForms", fn := fun _ => fun
  | [d] => { results := [.lit (.bool false)], args := [d] }
  | _ => none }
def UtextOtherFormsWrongFalsely : Prop := utextOtherFormsRow.holds Tryd.pinned (OpenSpec.ofChange utextOtherFormsWrong)

/-- 'redraftlaw01.UtextOneForm': WHATEVER THE INPUT: true; the input reads as it did. -/
def utextOneFormSpec : ChangeSpec := { name := "utextOneForm", fn := fun _ => fun
  | [d] => { results := [.lit (.bool true)], args := [d] }
  | _ => none }
def utextOneFormRow : OpenClaim := { program := "ytfgekdefnbohbaadoor", sum := "66f4eb9a067a92fae8f00cacb316d2903be204a67a3d9764681c792a23636cb4", func := "redraft/redraftlaw01.UtextOneForm", spec := "utextOneForm", inPlace := ["internal/abi.NoEscape", "internal/bytealg.IndexByteString"], named := ["redraft/utext.bars", "internal/strconv.uint64pow10", "math/bits.deBruijn32tab", "math/bits.deBruijn64tab", "strconv.ErrSyntax", "strconv.ErrRange"], apart := false, laid := [("math/bits.deBruijn32tab", laid_math_bits_deBruijn32tab), ("math/bits.deBruijn64tab", laid_math_bits_deBruijn64tab), ("internal/strconv.uint64pow10", laid_internal_strconv_uint64pow10), ("strconv.ErrRange", laid_strconv_ErrRange), ("strconv.ErrSyntax", laid_strconv_ErrSyntax), ("redraft/utext.bars", laid_redraft_utext_bars)] }
def UtextOneFormSaid : Prop := utextOneFormRow.holds Tryd.pinned (OpenSpec.ofChange utextOneFormSpec)

/-- ITS FALSE NEIGHBOUR: 'it returns false'. Refute it at one input. -/
def utextOneFormWrong : ChangeSpec := { name := "utextOneForm", fn := fun _ => fun
  | [d] => { results := [.lit (.bool false)], args := [d] }
  | _ => none }
def UtextOneFormWrongFalsely : Prop := utextOneFormRow.holds Tryd.pinned (OpenSpec.ofChange utextOneFormWrong)

/-- 'redraftlaw01.UtextGivesBack': WHATEVER THE INPUT: true; the input reads as it did. -/
def utextGivesBackSpec : ChangeSpec := { name := "utextGivesBack", fn := fun _ => fun
  | [d] => { results := [.lit (.bool true)], args := [d] }
  | _ => none }
def utextGivesBackRow : OpenClaim := { program := "ytfgekdefnbohbaadoor", sum := "66f4eb9a067a92fae8f00cacb316d2903be204a67a3d9764681c792a23636cb4", func := "redraft/redraftlaw01.UtextGivesBack", spec := "utextGivesBack", inPlace := ["internal/abi.NoEscape", "internal/bytealg.IndexByteString"], named := ["redraft/utext.bars", "internal/strconv.uint64pow10", "math/bits.deBruijn32tab", "math/bits.deBruijn64tab", "strconv.ErrSyntax", "strconv.ErrRange"], apart := false, laid := [("math/bits.deBruijn32tab", laid_math_bits_deBruijn32tab), ("math/bits.deBruijn64tab", laid_math_bits_deBruijn64tab), ("internal/strconv.uint64pow10", laid_internal_strconv_uint64pow10), ("strconv.ErrRange", laid_strconv_ErrRange), ("strconv.ErrSyntax", laid_strconv_ErrSyntax), ("redraft/utext.bars", laid_redraft_utext_bars)] }
def UtextGivesBackSaid : Prop := utextGivesBackRow.holds Tryd.pinned (OpenSpec.ofChange utextGivesBackSpec)

/-- ITS FALSE NEIGHBOUR: 'it returns false'. Refute it at one input. -/
def utextGivesBackWrong : ChangeSpec := { name := "utextGivesBack", fn := fun _ => fun
  | [d] => { results := [.lit (.bool false)], args := [d] }
  | _ => none }
def UtextGivesBackWrongFalsely : Prop := utextGivesBackRow.holds Tryd.pinned (OpenSpec.ofChange utextGivesBackWrong)

/-- 'redraftlaw01.UtextChecks': WHATEVER THE INPUT: true; the input reads as it did. -/
def utextChecksSpec : ChangeSpec := { name := "utextChecks", fn := fun _ => fun
  | [d] => { results := [.lit (.bool true)], args := [d] }
  | _ => none }
def utextChecksRow : OpenClaim := { program := "ytfgekdefnbohbaadoor", sum := "66f4eb9a067a92fae8f00cacb316d2903be204a67a3d9764681c792a23636cb4", func := "redraft/redraftlaw01.UtextChecks", spec := "utextChecks", inPlace := ["internal/abi.NoEscape", "internal/bytealg.IndexByteString"], unfollowed := true, recurses := true, named := ["redraft/utext.bars", "internal/strconv.uint64pow10", "math/bits.deBruijn32tab", "math/bits.deBruijn64tab", "strconv.ErrSyntax", "strconv.ErrRange", "redraft/utext.walks"], apart := false, laid := [("math/bits.deBruijn32tab", laid_math_bits_deBruijn32tab), ("math/bits.deBruijn64tab", laid_math_bits_deBruijn64tab), ("internal/strconv.uint64pow10", laid_internal_strconv_uint64pow10), ("strconv.ErrRange", laid_strconv_ErrRange), ("strconv.ErrSyntax", laid_strconv_ErrSyntax), ("redraft/utext.bars", laid_redraft_utext_bars), ("redraft/utext.walks", laid_redraft_utext_walks)] }
def UtextChecksSaid : Prop := utextChecksRow.holds Tryd.pinned (OpenSpec.ofChange utextChecksSpec)

/-- ITS FALSE NEIGHBOUR: 'it returns false'. Refute it at one input. -/
def utextChecksWrong : ChangeSpec := { name := "utextChecks", fn := fun _ => fun
  | [d] => { results := [.lit (.bool false)], args := [d] }
  | _ => none }
def UtextChecksWrongFalsely : Prop := utextChecksRow.holds Tryd.pinned (OpenSpec.ofChange utextChecksWrong)

/-- 'redraftlaw01.UtextPlaces': WHATEVER THE INPUT: true; the input reads as it did. -/
def utextPlacesSpec : ChangeSpec := { name := "utextPlaces", fn := fun _ => fun
  | [d] => { results := [.lit (.bool true)], args := [d] }
  | _ => none }
def utextPlacesRow : OpenClaim := { program := "ytfgekdefnbohbaadoor", sum := "66f4eb9a067a92fae8f00cacb316d2903be204a67a3d9764681c792a23636cb4", func := "redraft/redraftlaw01.UtextPlaces", spec := "utextPlaces", inPlace := ["internal/abi.NoEscape", "internal/bytealg.IndexByteString"], unfollowed := true, recurses := true, named := ["redraft/utext.bars", "internal/strconv.uint64pow10", "math/bits.deBruijn32tab", "math/bits.deBruijn64tab", "strconv.ErrSyntax", "strconv.ErrRange", "redraft/utext.walks"], apart := false, laid := [("math/bits.deBruijn32tab", laid_math_bits_deBruijn32tab), ("math/bits.deBruijn64tab", laid_math_bits_deBruijn64tab), ("internal/strconv.uint64pow10", laid_internal_strconv_uint64pow10), ("strconv.ErrRange", laid_strconv_ErrRange), ("strconv.ErrSyntax", laid_strconv_ErrSyntax), ("redraft/utext.bars", laid_redraft_utext_bars), ("redraft/utext.walks", laid_redraft_utext_walks)] }
def UtextPlacesSaid : Prop := utextPlacesRow.holds Tryd.pinned (OpenSpec.ofChange utextPlacesSpec)

/-- ITS FALSE NEIGHBOUR: 'it returns false'. Refute it at one input. -/
def utextPlacesWrong : ChangeSpec := { name := "utextPlaces", fn := fun _ => fun
  | [d] => { results := [.lit (.bool false)], args := [d] }
  | _ => none }
def UtextPlacesWrongFalsely : Prop := utextPlacesRow.holds Tryd.pinned (OpenSpec.ofChange utextPlacesWrong)

/-- 'redraftlaw01.UtextSplices': WHATEVER THE INPUT: true; the input reads as it did. -/
def utextSplicesSpec : ChangeSpec := { name := "utextSplices", fn := fun _ => fun
  | [d] => { results := [.lit (.bool true)], args := [d] }
  | _ => none }
def utextSplicesRow : OpenClaim := { program := "ytfgekdefnbohbaadoor", sum := "66f4eb9a067a92fae8f00cacb316d2903be204a67a3d9764681c792a23636cb4", func := "redraft/redraftlaw01.UtextSplices", spec := "utextSplices", inPlace := ["internal/abi.NoEscape", "internal/bytealg.IndexByteString"], unfollowed := true, recurses := true, named := ["redraft/utext.bars", "internal/strconv.uint64pow10", "math/bits.deBruijn32tab", "math/bits.deBruijn64tab", "strconv.ErrSyntax", "strconv.ErrRange", "redraft/utext.walks"], apart := false, laid := [("math/bits.deBruijn32tab", laid_math_bits_deBruijn32tab), ("math/bits.deBruijn64tab", laid_math_bits_deBruijn64tab), ("internal/strconv.uint64pow10", laid_internal_strconv_uint64pow10), ("strconv.ErrRange", laid_strconv_ErrRange), ("strconv.ErrSyntax", laid_strconv_ErrSyntax), ("redraft/utext.bars", laid_redraft_utext_bars), ("redraft/utext.walks", laid_redraft_utext_walks)] }
def UtextSplicesSaid : Prop := utextSplicesRow.holds Tryd.pinned (OpenSpec.ofChange utextSplicesSpec)

/-- ITS FALSE NEIGHBOUR: 'it returns false'. Refute it at one input. -/
def utextSplicesWrong : ChangeSpec := { name := "utextSplices", fn := fun _ => fun
  | [d] => { results := [.lit (.bool false)], args := [d] }
  | _ => none }
def UtextSplicesWrongFalsely : Prop := utextSplicesRow.holds Tryd.pinned (OpenSpec.ofChange utextSplicesWrong)

/-- 'redraftlaw01.UtextQuotes': WHATEVER THE INPUT: true; the input reads as it did. -/
def utextQuotesSpec : ChangeSpec := { name := "utextQuotes", fn := fun _ => fun
  | [d] => { results := [.lit (.bool true)], args := [d] }
  | _ => none }
def utextQuotesRow : OpenClaim := { program := "ytfgekdefnbohbaadoor", sum := "66f4eb9a067a92fae8f00cacb316d2903be204a67a3d9764681c792a23636cb4", func := "redraft/redraftlaw01.UtextQuotes", spec := "utextQuotes", inPlace := ["internal/abi.NoEscape", "internal/bytealg.IndexByteString"], unfollowed := true, recurses := true, named := ["redraft/utext.bars", "internal/strconv.uint64pow10", "math/bits.deBruijn32tab", "math/bits.deBruijn64tab", "strconv.ErrSyntax", "strconv.ErrRange", "redraft/utext.walks"], apart := false, laid := [("math/bits.deBruijn32tab", laid_math_bits_deBruijn32tab), ("math/bits.deBruijn64tab", laid_math_bits_deBruijn64tab), ("internal/strconv.uint64pow10", laid_internal_strconv_uint64pow10), ("strconv.ErrRange", laid_strconv_ErrRange), ("strconv.ErrSyntax", laid_strconv_ErrSyntax), ("redraft/utext.bars", laid_redraft_utext_bars), ("redraft/utext.walks", laid_redraft_utext_walks)] }
def UtextQuotesSaid : Prop := utextQuotesRow.holds Tryd.pinned (OpenSpec.ofChange utextQuotesSpec)

/-- ITS FALSE NEIGHBOUR: 'it returns false'. Refute it at one input. -/
def utextQuotesWrong : ChangeSpec := { name := "utextQuotes", fn := fun _ => fun
  | [d] => { results := [.lit (.bool false)], args := [d] }
  | _ => none }
def UtextQuotesWrongFalsely : Prop := utextQuotesRow.holds Tryd.pinned (OpenSpec.ofChange utextQuotesWrong)

/-- 'redraftlaw01.UtextWalks': WHATEVER THE INPUT: true; the input reads as it did. -/
def utextWalksSpec : ChangeSpec := { name := "utextWalks", fn := fun _ => fun
  | [d] => { results := [.lit (.bool true)], args := [d] }
  | _ => none }
def utextWalksRow : OpenClaim := { program := "ytfgekdefnbohbaadoor", sum := "66f4eb9a067a92fae8f00cacb316d2903be204a67a3d9764681c792a23636cb4", func := "redraft/redraftlaw01.UtextWalks", spec := "utextWalks", inPlace := ["internal/abi.NoEscape", "internal/bytealg.IndexByteString"], unfollowed := true, recurses := true, named := ["redraft/utext.bars", "internal/strconv.uint64pow10", "math/bits.deBruijn32tab", "math/bits.deBruijn64tab", "strconv.ErrSyntax", "strconv.ErrRange", "redraft/utext.walks"], apart := false, laid := [("math/bits.deBruijn32tab", laid_math_bits_deBruijn32tab), ("math/bits.deBruijn64tab", laid_math_bits_deBruijn64tab), ("internal/strconv.uint64pow10", laid_internal_strconv_uint64pow10), ("strconv.ErrRange", laid_strconv_ErrRange), ("strconv.ErrSyntax", laid_strconv_ErrSyntax), ("redraft/utext.bars", laid_redraft_utext_bars), ("redraft/utext.walks", laid_redraft_utext_walks)] }
def UtextWalksSaid : Prop := utextWalksRow.holds Tryd.pinned (OpenSpec.ofChange utextWalksSpec)

/-- ITS FALSE NEIGHBOUR: 'it returns false'. Refute it at one input. -/
def utextWalksWrong : ChangeSpec := { name := "utextWalks", fn := fun _ => fun
  | [d] => { results := [.lit (.bool false)], args := [d] }
  | _ => none }
def UtextWalksWrongFalsely : Prop := utextWalksRow.holds Tryd.pinned (OpenSpec.ofChange utextWalksWrong)

/-- 'redraftlaw01.UtextAll': WHATEVER THE INPUT: true; the input reads as it did. -/
def utextAllSpec : ChangeSpec := { name := "utextAll", fn := fun _ => fun
  | [d] => { results := [.lit (.bool true)], args := [d] }
  | _ => none }
def utextAllRow : OpenClaim := { program := "ytfgekdefnbohbaadoor", sum := "66f4eb9a067a92fae8f00cacb316d2903be204a67a3d9764681c792a23636cb4", func := "redraft/redraftlaw01.UtextAll", spec := "utextAll", inPlace := ["internal/abi.NoEscape", "internal/bytealg.IndexByteString"], unfollowed := true, recurses := true, named := ["redraft/utext.bars", "internal/strconv.uint64pow10", "math/bits.deBruijn32tab", "math/bits.deBruijn64tab", "strconv.ErrSyntax", "strconv.ErrRange", "redraft/utext.walks"], apart := false, laid := [("math/bits.deBruijn32tab", laid_math_bits_deBruijn32tab), ("math/bits.deBruijn64tab", laid_math_bits_deBruijn64tab), ("internal/strconv.uint64pow10", laid_internal_strconv_uint64pow10), ("strconv.ErrRange", laid_strconv_ErrRange), ("strconv.ErrSyntax", laid_strconv_ErrSyntax), ("redraft/utext.bars", laid_redraft_utext_bars), ("redraft/utext.walks", laid_redraft_utext_walks)] }
def UtextAllSaid : Prop := utextAllRow.holds Tryd.pinned (OpenSpec.ofChange utextAllSpec)

/-- ITS FALSE NEIGHBOUR: 'it returns false'. Refute it at one input. -/
def utextAllWrong : ChangeSpec := { name := "utextAll", fn := fun _ => fun
  | [d] => { results := [.lit (.bool false)], args := [d] }
  | _ => none }
def UtextAllWrongFalsely : Prop := utextAllRow.holds Tryd.pinned (OpenSpec.ofChange utextAllWrong)

/- THE SECOND FORM. 'bulk': how many values and letters a reading holds, each counted each time it is reached (what is shared counts as often as it is met; a slice's spare places count too). A statement '..UptoSaid' is the law's where the arguments, and the package variables that the reading takes, are together of bulk at most 1048576: NARROWER than '..Said'. Prove '..Said' where nothing that the law and all that it calls make is longer than what came in: it says more and counts as full. Else prove '..UptoSaid'. A law counts once. -/
mutual
def uptoBulk {H : Type} : DataW H → Nat
  | .lit (.string bytes) => bytes.length + 1
  | .lit _ => 1
  | .nil => 1
  | .ptr d => uptoBulk d + 1
  | .slice elems spare => uptoBulkAll elems + uptoBulkAll spare + 1
  | .agg parts => uptoBulkAll parts + 1
  | .iface _ d => uptoBulk d + 1
  | .map entries => uptoBulkEntries entries + 1
  | .held _ => 1
def uptoBulkAll {H : Type} : List (DataW H) → Nat
  | [] => 0
  | d :: r => uptoBulk d + uptoBulkAll r
def uptoBulkEntries {H : Type} : List (Lit × DataW H) → Nat
  | [] => 0
  | x :: r => uptoBulkEntry x + uptoBulkEntries r
def uptoBulkEntry {H : Type} : Lit × DataW H → Nat
  | (.string bytes, d) => bytes.length + uptoBulk d + 1
  | (_, d) => uptoBulk d + 1
 end
def uptoSmall : (H : Type) → List (DataW H) → Bool := fun _ ds => decide (uptoBulkAll ds ≤ 1048576)
def OpenSpec.upto (s : _root_.Go.ChangeSpec) : _root_.Go.OpenSpec := { _root_.Go.OpenSpec.ofChange s with cond := some uptoSmall }

/-- 'redraftlaw01.UtextOtherForms', WHERE WHAT IT READS IS OF BULK AT MOST 1048576: true; the input reads as it did. -/
def utextOtherFormsUptoRow : OpenClaim := { program := "ytfgekdefnbohbaadoor", sum := "66f4eb9a067a92fae8f00cacb316d2903be204a67a3d9764681c792a23636cb4", func := "redraft/redraftlaw01.UtextOtherForms", spec := "utextOtherForms", inPlace := ["internal/abi.NoEscape", "internal/bytealg.IndexByteString"], named := ["internal/strconv.uint64pow10", "math/bits.deBruijn32tab", "math/bits.deBruijn64tab", "strconv.ErrSyntax", "strconv.ErrRange"], apart := false, laid := [("math/bits.deBruijn32tab", laid_math_bits_deBruijn32tab), ("math/bits.deBruijn64tab", laid_math_bits_deBruijn64tab), ("internal/strconv.uint64pow10", laid_internal_strconv_uint64pow10), ("strconv.ErrRange", laid_strconv_ErrRange), ("strconv.ErrSyntax", laid_strconv_ErrSyntax)], narrowed := true }
def UtextOtherFormsUptoSaid : Prop := utextOtherFormsUptoRow.holds Tryd.pinned (OpenSpec.upto utextOtherFormsSpec)

/-- 'redraftlaw01.UtextOneForm', WHERE WHAT IT READS IS OF BULK AT MOST 1048576: true; the input reads as it did. -/
def utextOneFormUptoRow : OpenClaim := { program := "ytfgekdefnbohbaadoor", sum := "66f4eb9a067a92fae8f00cacb316d2903be204a67a3d9764681c792a23636cb4", func := "redraft/redraftlaw01.UtextOneForm", spec := "utextOneForm", inPlace := ["internal/abi.NoEscape", "internal/bytealg.IndexByteString"], named := ["redraft/utext.bars", "internal/strconv.uint64pow10", "math/bits.deBruijn32tab", "math/bits.deBruijn64tab", "strconv.ErrSyntax", "strconv.ErrRange"], apart := false, laid := [("math/bits.deBruijn32tab", laid_math_bits_deBruijn32tab), ("math/bits.deBruijn64tab", laid_math_bits_deBruijn64tab), ("internal/strconv.uint64pow10", laid_internal_strconv_uint64pow10), ("strconv.ErrRange", laid_strconv_ErrRange), ("strconv.ErrSyntax", laid_strconv_ErrSyntax), ("redraft/utext.bars", laid_redraft_utext_bars)], narrowed := true }
def UtextOneFormUptoSaid : Prop := utextOneFormUptoRow.holds Tryd.pinned (OpenSpec.upto utextOneFormSpec)

/-- 'redraftlaw01.UtextGivesBack', WHERE WHAT IT READS IS OF BULK AT MOST 1048576: true; the input reads as it did. -/
def utextGivesBackUptoRow : OpenClaim := { program := "ytfgekdefnbohbaadoor", sum := "66f4eb9a067a92fae8f00cacb316d2903be204a67a3d9764681c792a23636cb4", func := "redraft/redraftlaw01.UtextGivesBack", spec := "utextGivesBack", inPlace := ["internal/abi.NoEscape", "internal/bytealg.IndexByteString"], named := ["redraft/utext.bars", "internal/strconv.uint64pow10", "math/bits.deBruijn32tab", "math/bits.deBruijn64tab", "strconv.ErrSyntax", "strconv.ErrRange"], apart := false, laid := [("math/bits.deBruijn32tab", laid_math_bits_deBruijn32tab), ("math/bits.deBruijn64tab", laid_math_bits_deBruijn64tab), ("internal/strconv.uint64pow10", laid_internal_strconv_uint64pow10), ("strconv.ErrRange", laid_strconv_ErrRange), ("strconv.ErrSyntax", laid_strconv_ErrSyntax), ("redraft/utext.bars", laid_redraft_utext_bars)], narrowed := true }
def UtextGivesBackUptoSaid : Prop := utextGivesBackUptoRow.holds Tryd.pinned (OpenSpec.upto utextGivesBackSpec)

/-- 'redraftlaw01.UtextChecks', WHERE WHAT IT READS IS OF BULK AT MOST 1048576: true; the input reads as it did. -/
def utextChecksUptoRow : OpenClaim := { program := "ytfgekdefnbohbaadoor", sum := "66f4eb9a067a92fae8f00cacb316d2903be204a67a3d9764681c792a23636cb4", func := "redraft/redraftlaw01.UtextChecks", spec := "utextChecks", inPlace := ["internal/abi.NoEscape", "internal/bytealg.IndexByteString"], unfollowed := true, recurses := true, named := ["redraft/utext.bars", "internal/strconv.uint64pow10", "math/bits.deBruijn32tab", "math/bits.deBruijn64tab", "strconv.ErrSyntax", "strconv.ErrRange", "redraft/utext.walks"], apart := false, laid := [("math/bits.deBruijn32tab", laid_math_bits_deBruijn32tab), ("math/bits.deBruijn64tab", laid_math_bits_deBruijn64tab), ("internal/strconv.uint64pow10", laid_internal_strconv_uint64pow10), ("strconv.ErrRange", laid_strconv_ErrRange), ("strconv.ErrSyntax", laid_strconv_ErrSyntax), ("redraft/utext.bars", laid_redraft_utext_bars), ("redraft/utext.walks", laid_redraft_utext_walks)], narrowed := true }
def UtextChecksUptoSaid : Prop := utextChecksUptoRow.holds Tryd.pinned (OpenSpec.upto utextChecksSpec)

/-- 'redraftlaw01.UtextPlaces', WHERE WHAT IT READS IS OF BULK AT MOST 1048576: true; the input reads as it did. -/
def utextPlacesUptoRow : OpenClaim := { program := "ytfgekdefnbohbaadoor", sum := "66f4eb9a067a92fae8f00cacb316d2903be204a67a3d9764681c792a23636cb4", func := "redraft/redraftlaw01.UtextPlaces", spec := "utextPlaces", inPlace := ["internal/abi.NoEscape", "internal/bytealg.IndexByteString"], unfollowed := true, recurses := true, named := ["redraft/utext.bars", "internal/strconv.uint64pow10", "math/bits.deBruijn32tab", "math/bits.deBruijn64tab", "strconv.ErrSyntax", "strconv.ErrRange", "redraft/utext.walks"], apart := false, laid := [("math/bits.deBruijn32tab", laid_math_bits_deBruijn32tab), ("math/bits.deBruijn64tab", laid_math_bits_deBruijn64tab), ("internal/strconv.uint64pow10", laid_internal_strconv_uint64pow10), ("strconv.ErrRange", laid_strconv_ErrRange), ("strconv.ErrSyntax", laid_strconv_ErrSyntax), ("redraft/utext.bars", laid_redraft_utext_bars), ("redraft/utext.walks", laid_redraft_utext_walks)], narrowed := true }
def UtextPlacesUptoSaid : Prop := utextPlacesUptoRow.holds Tryd.pinned (OpenSpec.upto utextPlacesSpec)

/-- 'redraftlaw01.UtextSplices', WHERE WHAT IT READS IS OF BULK AT MOST 1048576: true; the input reads as it did. -/
def utextSplicesUptoRow : OpenClaim := { program := "ytfgekdefnbohbaadoor", sum := "66f4eb9a067a92fae8f00cacb316d2903be204a67a3d9764681c792a23636cb4", func := "redraft/redraftlaw01.UtextSplices", spec := "utextSplices", inPlace := ["internal/abi.NoEscape", "internal/bytealg.IndexByteString"], unfollowed := true, recurses := true, named := ["redraft/utext.bars", "internal/strconv.uint64pow10", "math/bits.deBruijn32tab", "math/bits.deBruijn64tab", "strconv.ErrSyntax", "strconv.ErrRange", "redraft/utext.walks"], apart := false, laid := [("math/bits.deBruijn32tab", laid_math_bits_deBruijn32tab), ("math/bits.deBruijn64tab", laid_math_bits_deBruijn64tab), ("internal/strconv.uint64pow10", laid_internal_strconv_uint64pow10), ("strconv.ErrRange", laid_strconv_ErrRange), ("strconv.ErrSyntax", laid_strconv_ErrSyntax), ("redraft/utext.bars", laid_redraft_utext_bars), ("redraft/utext.walks", laid_redraft_utext_walks)], narrowed := true }
def UtextSplicesUptoSaid : Prop := utextSplicesUptoRow.holds Tryd.pinned (OpenSpec.upto utextSplicesSpec)

/-- 'redraftlaw01.UtextQuotes', WHERE WHAT IT READS IS OF BULK AT MOST 1048576: true; the input reads as it did. -/
def utextQuotesUptoRow : OpenClaim := { program := "ytfgekdefnbohbaadoor", sum := "66f4eb9a067a92fae8f00cacb316d2903be204a67a3d9764681c792a23636cb4", func := "redraft/redraftlaw01.UtextQuotes", spec := "utextQuotes", inPlace := ["internal/abi.NoEscape", "internal/bytealg.IndexByteString"], unfollowed := true, recurses := true, named := ["redraft/utext.bars", "internal/strconv.uint64pow10", "math/bits.deBruijn32tab", "math/bits.deBruijn64tab", "strconv.ErrSyntax", "strconv.ErrRange", "redraft/utext.walks"], apart := false, laid := [("math/bits.deBruijn32tab", laid_math_bits_deBruijn32tab), ("math/bits.deBruijn64tab", laid_math_bits_deBruijn64tab), ("internal/strconv.uint64pow10", laid_internal_strconv_uint64pow10), ("strconv.ErrRange", laid_strconv_ErrRange), ("strconv.ErrSyntax", laid_strconv_ErrSyntax), ("redraft/utext.bars", laid_redraft_utext_bars), ("redraft/utext.walks", laid_redraft_utext_walks)], narrowed := true }
def UtextQuotesUptoSaid : Prop := utextQuotesUptoRow.holds Tryd.pinned (OpenSpec.upto utextQuotesSpec)

/-- 'redraftlaw01.UtextWalks', WHERE WHAT IT READS IS OF BULK AT MOST 1048576: true; the input reads as it did. -/
def utextWalksUptoRow : OpenClaim := { program := "ytfgekdefnbohbaadoor", sum := "66f4eb9a067a92fae8f00cacb316d2903be204a67a3d9764681c792a23636cb4", func := "redraft/redraftlaw01.UtextWalks", spec := "utextWalks", inPlace := ["internal/abi.NoEscape", "internal/bytealg.IndexByteString"], unfollowed := true, recurses := true, named := ["redraft/utext.bars", "internal/strconv.uint64pow10", "math/bits.deBruijn32tab", "math/bits.deBruijn64tab", "strconv.ErrSyntax", "strconv.ErrRange", "redraft/utext.walks"], apart := false, laid := [("math/bits.deBruijn32tab", laid_math_bits_deBruijn32tab), ("math/bits.deBruijn64tab", laid_math_bits_deBruijn64tab), ("internal/strconv.uint64pow10", laid_internal_strconv_uint64pow10), ("strconv.ErrRange", laid_strconv_ErrRange), ("strconv.ErrSyntax", laid_strconv_ErrSyntax), ("redraft/utext.bars", laid_redraft_utext_bars), ("redraft/utext.walks", laid_redraft_utext_walks)], narrowed := true }
def UtextWalksUptoSaid : Prop := utextWalksUptoRow.holds Tryd.pinned (OpenSpec.upto utextWalksSpec)

/-- 'redraftlaw01.UtextAll', WHERE WHAT IT READS IS OF BULK AT MOST 1048576: true; the input reads as it did. -/
def utextAllUptoRow : OpenClaim := { program := "ytfgekdefnbohbaadoor", sum := "66f4eb9a067a92fae8f00cacb316d2903be204a67a3d9764681c792a23636cb4", func := "redraft/redraftlaw01.UtextAll", spec := "utextAll", inPlace := ["internal/abi.NoEscape", "internal/bytealg.IndexByteString"], unfollowed := true, recurses := true, named := ["redraft/utext.bars", "internal/strconv.uint64pow10", "math/bits.deBruijn32tab", "math/bits.deBruijn64tab", "strconv.ErrSyntax", "strconv.ErrRange", "redraft/utext.walks"], apart := false, laid := [("math/bits.deBruijn32tab", laid_math_bits_deBruijn32tab), ("math/bits.deBruijn64tab", laid_math_bits_deBruijn64tab), ("internal/strconv.uint64pow10", laid_internal_strconv_uint64pow10), ("strconv.ErrRange", laid_strconv_ErrRange), ("strconv.ErrSyntax", laid_strconv_ErrSyntax), ("redraft/utext.bars", laid_redraft_utext_bars), ("redraft/utext.walks", laid_redraft_utext_walks)], narrowed := true }
def UtextAllUptoSaid : Prop := utextAllUptoRow.holds Tryd.pinned (OpenSpec.upto utextAllSpec)

end Rows
end Go.Proofs.YtfgekdefnbohbaaDoor
