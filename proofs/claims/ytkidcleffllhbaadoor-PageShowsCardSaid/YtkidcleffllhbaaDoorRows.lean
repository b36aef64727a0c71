/-
  NARROWER THAN 'FOR EVERY INPUT', by the rows' own cells (each row's printed sentence says how): DeltaShortest: laid · DeltaMeets: laid · DeltaNames: laid · PageShows: laid · PageExact: laid.
  DERIVED. THE GIVEN ROWS OF THIS SEAT. 5 by the template 'for every input the law returns true; each argument reads behind the call as it read before'; 0 by the template 'total and deterministic' (their statements: YtkidcleffllhbaaDoorTotals.lean).
  GIVEN WITH THE SEED: the statements are not yours to turn. If you find one false, say at which input.
  Laid BY PROGRAM, IN A SANDBOX (cutbox-rows.mjs): the forced cells as the released guide's own fill.sh prints them over the translation 7a51bfe1b93523ec… (all of the seat's roots in one cut). By AI agents, Wed Nov 11 2026. No macro, syntax, notation, axiom, sorry.
-/
import Derived.Test.YtkidcleffllhbaaDoorChecked
import GoSem.PinnedTables
import GoSem.Claim
import GoSem.ClaimJoined
import GoSem.ClaimMapViews
import Derived.JoinedTies
import Derived.KernelRfl
namespace Go.Proofs.YtkidcleffllhbaaDoor
/- THE CELL 'sum', in the pinned program and in every row, IS THE sha256 OF THE DUMP (.gsa) THAT YtkidcleffllhbaaDoorProg.lean LOADS. Nothing in Lean hashes anything: it is a label: what it is worth is what the hold of that sum in a sandbox is worth. -/
noncomputable def Tryd.pinned : Pinned := { name := "ytkidcleffllhbaadoor", sum := "7a51bfe1b93523eca40ec1fa0449c865abc59df4bcdbf673eb8e52dd99a55d35", checked := Tryd.checked }
namespace Rows
def none {H : Type} : Left H := { results := [], args := [] }

/- WHAT THE LISTED PACKAGE-LEVEL VARIABLES READ AS WHEN THE CALL BEGINS. Each datum BY PROGRAM (the guide's laid-datum.mjs) off the statement by which the dump's own 'gosem.cut.vars' lays the variable. In a bare row this is a premise. The card (YtkidcleffllhbaaDoorCards.lean) ties it to the program's text. -/
def laid_redraft_utext_bars {H : Type} : DataW H := .agg [.agg [.lit (.int .i32 0), .lit (.int .i32 8)], .agg [.lit (.int .i32 11), .lit (.int .i32 31)], .agg [.lit (.int .i32 127), .lit (.int .i32 159)], .agg [.lit (.int .i32 64976), .lit (.int .i32 65007)], .agg [.lit (.int .i32 65279), .lit (.int .i32 65279)]]
def laid_unicode_utf8_acceptRanges {H : Type} : DataW H := .agg [.agg [.lit (.int .u8 128), .lit (.int .u8 191)], .agg [.lit (.int .u8 160), .lit (.int .u8 191)], .agg [.lit (.int .u8 128), .lit (.int .u8 159)], .agg [.lit (.int .u8 144), .lit (.int .u8 191)], .agg [.lit (.int .u8 128), .lit (.int .u8 143)], .agg [.lit (.int .u8 0), .lit (.int .u8 0)], .agg [.lit (.int .u8 0), .lit (.int .u8 0)], .agg [.lit (.int .u8 0), .lit (.int .u8 0)], .agg [.lit (.int .u8 0), .lit (.int .u8 0)], .agg [.lit (.int .u8 0), .lit (.int .u8 0)], .agg [.lit (.int .u8 0), .lit (.int .u8 0)], .agg [.lit (.int .u8 0), .lit (.int .u8 0)], .agg [.lit (.int .u8 0), .lit (.int .u8 0)], .agg [.lit (.int .u8 0), .lit (.int .u8 0)], .agg [.lit (.int .u8 0), .lit (.int .u8 0)], .agg [.lit (.int .u8 0), .lit (.int .u8 0)]]
/-- One of Go's own tables, pinned by name: the form's constant. -/
def laid_unicode_utf8_first : DataW Unit := Go.Pinned.utf8First
def laid_redraft_page_none {H : Type} : DataW H := .agg [.agg [.lit (.int .i32 768), .lit (.int .i32 879)], .agg [.lit (.int .i32 8203), .lit (.int .i32 8205)], .agg [.lit (.int .i32 65024), .lit (.int .i32 65039)]]
def laid_redraft_page_wide {H : Type} : DataW H := .agg [.agg [.lit (.int .i32 4352), .lit (.int .i32 4447)], .agg [.lit (.int .i32 11904), .lit (.int .i32 12350)], .agg [.lit (.int .i32 12353), .lit (.int .i32 42191)], .agg [.lit (.int .i32 44032), .lit (.int .i32 55203)], .agg [.lit (.int .i32 63744), .lit (.int .i32 64255)], .agg [.lit (.int .i32 65072), .lit (.int .i32 65135)], .agg [.lit (.int .i32 65280), .lit (.int .i32 65376)], .agg [.lit (.int .i32 65504), .lit (.int .i32 65510)], .agg [.lit (.int .i32 127744), .lit (.int .i32 129791)], .agg [.lit (.int .i32 131072), .lit (.int .i32 262141)]]
def laid_redraft_utext_walks {H : Type} : DataW H := .iface "func table" (.agg [.nil, .iface "func" (.lit (.string [114, 101, 100, 114, 97, 102, 116, 47, 117, 116, 101, 120, 116, 46, 119, 97, 108, 107, 115, 36, 49])), .iface "func" (.lit (.string [114, 101, 100, 114, 97, 102, 116, 47, 117, 116, 101, 120, 116, 46, 119, 97, 108, 107, 115, 36, 50])), .iface "func" (.lit (.string [114, 101, 100, 114, 97, 102, 116, 47, 117, 116, 101, 120, 116, 46, 104, 111, 109, 101])), .iface "func" (.lit (.string [114, 101, 100, 114, 97, 102, 116, 47, 117, 116, 101, 120, 116, 46, 108, 105, 110, 101, 69, 110, 100])), .iface "func" (.lit (.string [114, 101, 100, 114, 97, 102, 116, 47, 117, 116, 101, 120, 116, 46, 117, 112])), .iface "func" (.lit (.string [114, 101, 100, 114, 97, 102, 116, 47, 117, 116, 101, 120, 116, 46, 100, 111, 119, 110])), .iface "func" (.lit (.string [114, 101, 100, 114, 97, 102, 116, 47, 117, 116, 101, 120, 116, 46, 119, 111, 114, 100, 76, 101, 102, 116])), .iface "func" (.lit (.string [114, 101, 100, 114, 97, 102, 116, 47, 117, 116, 101, 120, 116, 46, 119, 111, 114, 100, 82, 105, 103, 104, 116])), .iface "func" (.lit (.string [114, 101, 100, 114, 97, 102, 116, 47, 117, 116, 101, 120, 116, 46, 119, 97, 108, 107, 115, 36, 51])), .iface "func" (.lit (.string [114, 101, 100, 114, 97, 102, 116, 47, 117, 116, 101, 120, 116, 46, 119, 97, 108, 107, 115, 36, 52]))])
def laid_redraft_page_walks {H : Type} : DataW H := .iface "func table" (.agg [.nil, .nil, .nil, .iface "func" (.lit (.string [40, 42, 114, 101, 100, 114, 97, 102, 116, 47, 112, 97, 103, 101, 46, 115, 104, 101, 101, 116, 41, 46, 104, 111, 109, 101])), .iface "func" (.lit (.string [40, 42, 114, 101, 100, 114, 97, 102, 116, 47, 112, 97, 103, 101, 46, 115, 104, 101, 101, 116, 41, 46, 101, 110, 100])), .iface "func" (.lit (.string [40, 42, 114, 101, 100, 114, 97, 102, 116, 47, 112, 97, 103, 101, 46, 115, 104, 101, 101, 116, 41, 46, 117, 112])), .iface "func" (.lit (.string [40, 42, 114, 101, 100, 114, 97, 102, 116, 47, 112, 97, 103, 101, 46, 115, 104, 101, 101, 116, 41, 46, 100, 111, 119, 110])), .nil, .nil, .nil, .nil])

/-- 'redraftlaw27.DeltaShortest': WHATEVER THE INPUT: true; the input reads as it did. -/
def deltaShortestSpec : ChangeSpec := { name := "deltaShortest", fn := fun _ => fun
  | [d] => { results := [.lit (.bool true)], args := [d] }
  | _ => none }
def deltaShortestRow : OpenClaim := { program := "ytkidcleffllhbaadoor", sum := "7a51bfe1b93523eca40ec1fa0449c865abc59df4bcdbf673eb8e52dd99a55d35", func := "redraft/redraftlaw27.DeltaShortest", spec := "deltaShortest", named := ["redraft/utext.bars"], apart := false, laid := [("redraft/utext.bars", laid_redraft_utext_bars)] }
def DeltaShortestSaid : Prop := deltaShortestRow.holds Tryd.pinned (OpenSpec.ofChange deltaShortestSpec)

/-- ITS FALSE NEIGHBOUR: 'it returns false'. Refute it at one input. -/
def deltaShortestWrong : ChangeSpec := { name := "deltaShortest", fn := fun _ => fun
  | [d] => { results := [.lit (.bool false)], args := [d] }
  | _ => none }
def DeltaShortestWrongFalsely : Prop := deltaShortestRow.holds Tryd.pinned (OpenSpec.ofChange deltaShortestWrong)

/-- 'redraftlaw27.DeltaMeets': WHATEVER THE INPUT: true; the input reads as it did. -/
def deltaMeetsSpec : ChangeSpec := { name := "deltaMeets", fn := fun _ => fun
  | [d] => { results := [.lit (.bool true)], args := [d] }
  | _ => none }
def deltaMeetsRow : OpenClaim := { program := "ytkidcleffllhbaadoor", sum := "7a51bfe1b93523eca40ec1fa0449c865abc59df4bcdbf673eb8e52dd99a55d35", func := "redraft/redraftlaw27.DeltaMeets", spec := "deltaMeets", inPlace := ["internal/bytealg.CountString", "internal/bytealg.IndexByteString", "internal/bytealg.IndexString", "internal/abi.NoEscape", "internal/bytealg.MakeNoZero"], named := ["redraft/utext.bars", "unicode/utf8.first", "unicode/utf8.acceptRanges", "internal/bytealg.MaxLen"], apart := false, laid := [("unicode/utf8.acceptRanges", laid_unicode_utf8_acceptRanges), ("redraft/utext.bars", laid_redraft_utext_bars), ("unicode/utf8.first", laid_unicode_utf8_first)] }
def DeltaMeetsSaid : Prop := deltaMeetsRow.holds Tryd.pinned (OpenSpec.ofChange deltaMeetsSpec)

/-- ITS FALSE NEIGHBOUR: 'it returns false'. Refute it at one input. -/
def deltaMeetsWrong : ChangeSpec := { name := "deltaMeets", fn := fun _ => fun
  | [d] => { results := [.lit (.bool false)], args := [d] }
  | _ => none }
def DeltaMeetsWrongFalsely : Prop := deltaMeetsRow.holds Tryd.pinned (OpenSpec.ofChange deltaMeetsWrong)

/-- 'redraftlaw27.DeltaNames': WHATEVER THE INPUT: true; the input reads as it did. -/
def deltaNamesSpec : ChangeSpec := { name := "deltaNames", fn := fun _ => fun
  | [] => { results := [.lit (.bool true)], args := [] }
  | _ => none }
def deltaNamesRow : OpenClaim := { program := "ytkidcleffllhbaadoor", sum := "7a51bfe1b93523eca40ec1fa0449c865abc59df4bcdbf673eb8e52dd99a55d35", func := "redraft/redraftlaw27.DeltaNames", spec := "deltaNames", inPlace := ["internal/bytealg.CountString", "internal/bytealg.IndexByteString", "internal/bytealg.IndexString", "internal/abi.NoEscape", "internal/bytealg.MakeNoZero"], named := ["redraft/utext.bars", "unicode/utf8.first", "unicode/utf8.acceptRanges", "internal/bytealg.MaxLen"], apart := false, laid := [("unicode/utf8.acceptRanges", laid_unicode_utf8_acceptRanges), ("redraft/utext.bars", laid_redraft_utext_bars), ("unicode/utf8.first", laid_unicode_utf8_first)] }
def DeltaNamesSaid : Prop := deltaNamesRow.holds Tryd.pinned (OpenSpec.ofChange deltaNamesSpec)

/-- ITS FALSE NEIGHBOUR: 'it returns false'. Refute it at one input. -/
def deltaNamesWrong : ChangeSpec := { name := "deltaNames", fn := fun _ => fun
  | [] => { results := [.lit (.bool false)], args := [] }
  | _ => none }
def DeltaNamesWrongFalsely : Prop := deltaNamesRow.holds Tryd.pinned (OpenSpec.ofChange deltaNamesWrong)

/-- 'redraftlaw19.PageShows': WHATEVER THE INPUT: true; the input reads as it did. -/
def pageShowsSpec : ChangeSpec := { name := "pageShows", fn := fun _ => fun
  | [d1, d2, d3, d4, d5] => { results := [.lit (.bool true)], args := [d1, d2, d3, d4, d5] }
  | _ => none }
def pageShowsRow : OpenClaim := { program := "ytkidcleffllhbaadoor", sum := "7a51bfe1b93523eca40ec1fa0449c865abc59df4bcdbf673eb8e52dd99a55d35", func := "redraft/redraftlaw19.PageShows", spec := "pageShows", inPlace := ["internal/abi.NoEscape", "internal/bytealg.MakeNoZero", "internal/bytealg.IndexByteString", "internal/bytealg.IndexString"], unfollowed := true, recurses := true, named := ["redraft/utext.bars", "redraft/page.none", "redraft/page.wide", "unicode/utf8.first", "unicode/utf8.acceptRanges", "internal/bytealg.MaxLen"], apart := false, laid := [("unicode/utf8.acceptRanges", laid_unicode_utf8_acceptRanges), ("redraft/utext.bars", laid_redraft_utext_bars), ("redraft/page.none", laid_redraft_page_none), ("redraft/page.wide", laid_redraft_page_wide), ("unicode/utf8.first", laid_unicode_utf8_first)] }
def PageShowsSaid : Prop := pageShowsRow.holds Tryd.pinned (OpenSpec.ofChange pageShowsSpec)

/-- ITS FALSE NEIGHBOUR: 'it returns false'. Refute it at one input. -/
def pageShowsWrong : ChangeSpec := { name := "pageShows", fn := fun _ => fun
  | [d1, d2, d3, d4, d5] => { results := [.lit (.bool false)], args := [d1, d2, d3, d4, d5] }
  | _ => none }
def PageShowsWrongFalsely : Prop := pageShowsRow.holds Tryd.pinned (OpenSpec.ofChange pageShowsWrong)

/-- 'redraftlaw19.PageExact': WHATEVER THE INPUT: true; the input reads as it did. -/
def pageExactSpec : ChangeSpec := { name := "pageExact", fn := fun _ => fun
  | [d] => { results := [.lit (.bool true)], args := [d] }
  | _ => none }
def pageExactRow : OpenClaim := { program := "ytkidcleffllhbaadoor", sum := "7a51bfe1b93523eca40ec1fa0449c865abc59df4bcdbf673eb8e52dd99a55d35", func := "redraft/redraftlaw19.PageExact", spec := "pageExact", inPlace := ["internal/abi.NoEscape", "internal/bytealg.MakeNoZero", "internal/bytealg.IndexByteString", "internal/bytealg.IndexString"], unfollowed := true, recurses := true, named := ["redraft/page.none", "redraft/page.wide", "redraft/utext.bars", "redraft/page.walks", "redraft/utext.walks", "unicode/utf8.first", "unicode/utf8.acceptRanges", "internal/bytealg.MaxLen"], apart := false, laid := [("unicode/utf8.acceptRanges", laid_unicode_utf8_acceptRanges), ("redraft/utext.bars", laid_redraft_utext_bars), ("redraft/utext.walks", laid_redraft_utext_walks), ("redraft/page.none", laid_redraft_page_none), ("redraft/page.wide", laid_redraft_page_wide), ("redraft/page.walks", laid_redraft_page_walks), ("unicode/utf8.first", laid_unicode_utf8_first)] }
def PageExactSaid : Prop := pageExactRow.holds Tryd.pinned (OpenSpec.ofChange pageExactSpec)

/-- ITS FALSE NEIGHBOUR: 'it returns false'. Refute it at one input. -/
def pageExactWrong : ChangeSpec := { name := "pageExact", fn := fun _ => fun
  | [d] => { results := [.lit (.bool false)], args := [d] }
  | _ => none }
def PageExactWrongFalsely : Prop := pageExactRow.holds Tryd.pinned (OpenSpec.ofChange pageExactWrong)

/- THE SECOND FORM. 'bulk': how many values and letters a reading holds, each counted each time it is reached (what is shared counts as often as it is met; a slice's spare places count too). A statement '..UptoSaid' is the law's where the arguments, and the package variables that the reading takes, are together of bulk at most 1048576: NARROWER than '..Said'. Prove '..Said' where nothing that the law and all that it calls make is longer than what came in: it says more and counts as full. Else prove '..UptoSaid'. A law counts once. -/
mutual
def uptoBulk {H : Type} : DataW H → Nat
  | .lit (.string bytes) => bytes.length + 1
  | .lit _ => 1
  | .nil => 1
  | .ptr d => uptoBulk d + 1
  | .slice elems spare => uptoBulkAll elems + uptoBulkAll spare + 1
  | .agg parts => uptoBulkAll parts + 1
  | .iface _ d => uptoBulk d + 1
  | .map entries => uptoBulkEntries entries + 1
  | .held _ => 1
def uptoBulkAll {H : Type} : List (DataW H) → Nat
  | [] => 0
  | d :: r => uptoBulk d + uptoBulkAll r
def uptoBulkEntries {H : Type} : List (Lit × DataW H) → Nat
  | [] => 0
  | x :: r => uptoBulkEntry x + uptoBulkEntries r
def uptoBulkEntry {H : Type} : Lit × DataW H → Nat
  | (.string bytes, d) => bytes.length + uptoBulk d + 1
  | (_, d) => uptoBulk d + 1
 end
def uptoSmall : (H : Type) → List (DataW H) → Bool := fun _ ds => decide (uptoBulkAll ds ≤ 1048576)
def OpenSpec.upto (s : _root_.Go.ChangeSpec) : _root_.Go.OpenSpec := { _root_.Go.OpenSpec.ofChange s with cond := some uptoSmall }

/-- 'redraftlaw27.DeltaShortest', WHERE WHAT IT READS IS OF BULK AT MOST 1048576: true; the input reads as it did. -/
def deltaShortestUptoRow : OpenClaim := { program := "ytkidcleffllhbaadoor", sum := "7a51bfe1b93523eca40ec1fa0449c865abc59df4bcdbf673eb8e52dd99a55d35", func := "redraft/redraftlaw27.DeltaShortest", spec := "deltaShortest", named := ["redraft/utext.bars"], apart := false, laid := [("redraft/utext.bars", laid_redraft_utext_bars)], narrowed := true }
def DeltaShortestUptoSaid : Prop := deltaShortestUptoRow.holds Tryd.pinned (OpenSpec.upto deltaShortestSpec)

/-- 'redraftlaw27.DeltaMeets', WHERE WHAT IT READS IS OF BULK AT MOST 1048576: true; the input reads as it did. -/
def deltaMeetsUptoRow : OpenClaim := { program := "ytkidcleffllhbaadoor", sum := "7a51bfe1b93523eca40ec1fa0449c865abc59df4bcdbf673eb8e52dd99a55d35", func := "redraft/redraftlaw27.DeltaMeets", spec := "deltaMeets", inPlace := ["internal/bytealg.CountString", "internal/bytealg.IndexByteString", "internal/bytealg.IndexString", "internal/abi.NoEscape", "internal/bytealg.MakeNoZero"], named := ["redraft/utext.bars", "unicode/utf8.first", "unicode/utf8.acceptRanges", "internal/bytealg.MaxLen"], apart := false, laid := [("unicode/utf8.acceptRanges", laid_unicode_utf8_acceptRanges), ("redraft/utext.bars", laid_redraft_utext_bars), ("unicode/utf8.first", laid_unicode_utf8_first)], narrowed := true }
def DeltaMeetsUptoSaid : Prop := deltaMeetsUptoRow.holds Tryd.pinned (OpenSpec.upto deltaMeetsSpec)

/-- 'redraftlaw27.DeltaNames', WHERE WHAT IT READS IS OF BULK AT MOST 1048576: true; the input reads as it did. -/
def deltaNamesUptoRow : OpenClaim := { program := "ytkidcleffllhbaadoor", sum := "7a51bfe1b93523eca40ec1fa0449c865abc59df4bcdbf673eb8e52dd99a55d35", func := "redraft/redraftlaw27.DeltaNames", spec := "deltaNames", inPlace := ["internal/bytealg.CountString", "internal/bytealg.IndexByteString", "internal/bytealg.IndexString", "internal/abi.NoEscape", "internal/bytealg.MakeNoZero"], named := ["redraft/utext.bars", "unicode/utf8.first", "unicode/utf8.acceptRanges", "internal/bytealg.MaxLen"], apart := false, laid := [("unicode/utf8.acceptRanges", laid_unicode_utf8_acceptRanges), ("redraft/utext.bars", laid_redraft_utext_bars), ("unicode/utf8.first", laid_unicode_utf8_first)], narrowed := true }
def DeltaNamesUptoSaid : Prop := deltaNamesUptoRow.holds Tryd.pinned (OpenSpec.upto deltaNamesSpec)

/-- 'redraftlaw19.PageShows', WHERE WHAT IT READS IS OF BULK AT MOST 1048576: true; the input reads as it did. -/
def pageShowsUptoRow : OpenClaim := { program := "ytkidcleffllhbaadoor", sum := "7a51bfe1b93523eca40ec1fa0449c865abc59df4bcdbf673eb8e52dd99a55d35", func := "redraft/redraftlaw19.PageShows", spec := "pageShows", inPlace := ["internal/abi.NoEscape", "internal/bytealg.MakeNoZero", "internal/bytealg.IndexByteString", "internal/bytealg.IndexString"], unfollowed := true, recurses := true, named := ["redraft/utext.bars", "redraft/page.none", "redraft/page.wide", "unicode/utf8.first", "unicode/utf8.acceptRanges", "internal/bytealg.MaxLen"], apart := false, laid := [("unicode/utf8.acceptRanges", laid_unicode_utf8_acceptRanges), ("redraft/utext.bars", laid_redraft_utext_bars), ("redraft/page.none", laid_redraft_page_none), ("redraft/page.wide", laid_redraft_page_wide), ("unicode/utf8.first", laid_unicode_utf8_first)], narrowed := true }
def PageShowsUptoSaid : Prop := pageShowsUptoRow.holds Tryd.pinned (OpenSpec.upto pageShowsSpec)

/-- 'redraftlaw19.PageExact', WHERE WHAT IT READS IS OF BULK AT MOST 1048576: true; the input reads as it did. -/
def pageExactUptoRow : OpenClaim := { program := "ytkidcleffllhbaadoor", sum := "7a51bfe1b93523eca40ec1fa0449c865abc59df4bcdbf673eb8e52dd99a55d35", func := "redraft/redraftlaw19.PageExact", spec := "pageExact", inPlace := ["internal/abi.NoEscape", "internal/bytealg.MakeNoZero", "internal/bytealg.IndexByteString", "internal/bytealg.IndexString"], unfollowed := true, recurses := true, named := ["redraft/page.none", "redraft/page.wide", "redraft/utext.bars", "redraft/page.walks", "redraft/utext.walks", "unicode/utf8.first", "unicode/utf8.acceptRanges", "internal/bytealg.MaxLen"], apart := false, laid := [("unicode/utf8.acceptRanges", laid_unicode_utf8_acceptRanges), ("redraft/utext.bars", laid_redraft_utext_bars), ("redraft/utext.walks", laid_redraft_utext_walks), ("redraft/page.none", laid_redraft_page_none), ("redraft/page.wide", laid_redraft_page_wide), ("redraft/page.walks", laid_redraft_page_walks), ("unicode/utf8.first", laid_unicode_utf8_first)], narrowed := true }
def PageExactUptoSaid : Prop := pageExactUptoRow.holds Tryd.pinned (OpenSpec.upto pageExactSpec)

end Rows
end Go.Proofs.YtkidcleffllhbaaDoor
