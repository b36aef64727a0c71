/-
  NARROWER THAN 'FOR EVERY INPUT', by the rows' own cells (each row's printed sentence says how): PageKeeps: laid · PageFull: laid · PageSpots: laid · PageWalks: laid.
  DERIVED. THE GIVEN ROWS OF THIS SEAT. 4 by the template 'for every input the law returns true; each argument reads behind the call as it read before'; 0 by the template 'total and deterministic' (their statements: YthbfkmfinalfdaaDoorTotals.lean).
  GIVEN WITH THE SEED: the statements are not yours to turn. If you find one false, say at which input.
  Laid BY PROGRAM, IN A SANDBOX (cutbox-rows.mjs): the forced cells as the released guide's own fill.sh prints them over the translation e5f8c799b67f1359… (all of the seat's roots in one cut). By AI agents, Wed Nov 11 2026. No macro, syntax, notation, axiom, sorry.
-/
import Derived.Test.YthbfkmfinalfdaaDoorChecked
import GoSem.Claim
import GoSem.ClaimJoined
import GoSem.ClaimMapViews
import Derived.JoinedTies
import Derived.KernelRfl
namespace Go.Proofs.YthbfkmfinalfdaaDoor
/- THE CELL 'sum', in the pinned program and in every row, IS THE sha256 OF THE DUMP (.gsa) THAT YthbfkmfinalfdaaDoorProg.lean LOADS. Nothing in Lean hashes anything: it is a label: what it is worth is what the hold of that sum in a sandbox is worth. -/
noncomputable def Tryd.pinned : Pinned := { name := "ythbfkmfinalfdaadoor", sum := "e5f8c799b67f1359c45e3c24a0d7cd0b2888df0569e4a83f36f22e78622e39de", checked := Tryd.checked }
namespace Rows
def none {H : Type} : Left H := { results := [], args := [] }

/- WHAT THE LISTED PACKAGE-LEVEL VARIABLES READ AS WHEN THE CALL BEGINS. Each datum BY PROGRAM (the guide's laid-datum.mjs) off the statement by which the dump's own 'gosem.cut.vars' lays the variable. In a bare row this is a premise. The card (YthbfkmfinalfdaaDoorCards.lean) ties it to the program's text. -/
def laid_redraft_utext_bars {H : Type} : DataW H := .agg [.agg [.lit (.int .i32 0), .lit (.int .i32 8)], .agg [.lit (.int .i32 11), .lit (.int .i32 31)], .agg [.lit (.int .i32 127), .lit (.int .i32 159)], .agg [.lit (.int .i32 64976), .lit (.int .i32 65007)], .agg [.lit (.int .i32 65279), .lit (.int .i32 65279)]]
def laid_redraft_page_none {H : Type} : DataW H := .agg [.agg [.lit (.int .i32 768), .lit (.int .i32 879)], .agg [.lit (.int .i32 8203), .lit (.int .i32 8205)], .agg [.lit (.int .i32 65024), .lit (.int .i32 65039)]]
def laid_redraft_page_wide {H : Type} : DataW H := .agg [.agg [.lit (.int .i32 4352), .lit (.int .i32 4447)], .agg [.lit (.int .i32 11904), .lit (.int .i32 12350)], .agg [.lit (.int .i32 12353), .lit (.int .i32 42191)], .agg [.lit (.int .i32 44032), .lit (.int .i32 55203)], .agg [.lit (.int .i32 63744), .lit (.int .i32 64255)], .agg [.lit (.int .i32 65072), .lit (.int .i32 65135)], .agg [.lit (.int .i32 65280), .lit (.int .i32 65376)], .agg [.lit (.int .i32 65504), .lit (.int .i32 65510)], .agg [.lit (.int .i32 127744), .lit (.int .i32 129791)], .agg [.lit (.int .i32 131072), .lit (.int .i32 262141)]]
def laid_redraft_utext_walks {H : Type} : DataW H := .iface "func table" (.agg [.nil, .iface "func" (.lit (.string [114, 101, 100, 114, 97, 102, 116, 47, 117, 116, 101, 120, 116, 46, 119, 97, 108, 107, 115, 36, 49])), .iface "func" (.lit (.string [114, 101, 100, 114, 97, 102, 116, 47, 117, 116, 101, 120, 116, 46, 119, 97, 108, 107, 115, 36, 50])), .iface "func" (.lit (.string [114, 101, 100, 114, 97, 102, 116, 47, 117, 116, 101, 120, 116, 46, 104, 111, 109, 101])), .iface "func" (.lit (.string [114, 101, 100, 114, 97, 102, 116, 47, 117, 116, 101, 120, 116, 46, 108, 105, 110, 101, 69, 110, 100])), .iface "func" (.lit (.string [114, 101, 100, 114, 97, 102, 116, 47, 117, 116, 101, 120, 116, 46, 117, 112])), .iface "func" (.lit (.string [114, 101, 100, 114, 97, 102, 116, 47, 117, 116, 101, 120, 116, 46, 100, 111, 119, 110])), .iface "func" (.lit (.string [114, 101, 100, 114, 97, 102, 116, 47, 117, 116, 101, 120, 116, 46, 119, 111, 114, 100, 76, 101, 102, 116])), .iface "func" (.lit (.string [114, 101, 100, 114, 97, 102, 116, 47, 117, 116, 101, 120, 116, 46, 119, 111, 114, 100, 82, 105, 103, 104, 116])), .iface "func" (.lit (.string [114, 101, 100, 114, 97, 102, 116, 47, 117, 116, 101, 120, 116, 46, 119, 97, 108, 107, 115, 36, 51])), .iface "func" (.lit (.string [114, 101, 100, 114, 97, 102, 116, 47, 117, 116, 101, 120, 116, 46, 119, 97, 108, 107, 115, 36, 52]))])
def laid_redraft_page_walks {H : Type} : DataW H := .iface "func table" (.agg [.nil, .nil, .nil, .iface "func" (.lit (.string [40, 42, 114, 101, 100, 114, 97, 102, 116, 47, 112, 97, 103, 101, 46, 115, 104, 101, 101, 116, 41, 46, 104, 111, 109, 101])), .iface "func" (.lit (.string [40, 42, 114, 101, 100, 114, 97, 102, 116, 47, 112, 97, 103, 101, 46, 115, 104, 101, 101, 116, 41, 46, 101, 110, 100])), .iface "func" (.lit (.string [40, 42, 114, 101, 100, 114, 97, 102, 116, 47, 112, 97, 103, 101, 46, 115, 104, 101, 101, 116, 41, 46, 117, 112])), .iface "func" (.lit (.string [40, 42, 114, 101, 100, 114, 97, 102, 116, 47, 112, 97, 103, 101, 46, 115, 104, 101, 101, 116, 41, 46, 100, 111, 119, 110])), .nil, .nil, .nil, .nil])

/-- 'redraftlaw19.PageKeeps': WHATEVER THE INPUT: true; the input reads as it did. -/
def pageKeepsSpec : ChangeSpec := { name := "pageKeeps", fn := fun _ => fun
  | [d1, d2] => { results := [.lit (.bool true)], args := [d1, d2] }
  | _ => none }
def pageKeepsRow : OpenClaim := { program := "ythbfkmfinalfdaadoor", sum := "e5f8c799b67f1359c45e3c24a0d7cd0b2888df0569e4a83f36f22e78622e39de", func := "redraft/redraftlaw19.PageKeeps", spec := "pageKeeps", named := ["redraft/utext.bars", "redraft/page.none", "redraft/page.wide"], apart := false, laid := [("redraft/utext.bars", laid_redraft_utext_bars), ("redraft/page.none", laid_redraft_page_none), ("redraft/page.wide", laid_redraft_page_wide)] }
def PageKeepsSaid : Prop := pageKeepsRow.holds Tryd.pinned (OpenSpec.ofChange pageKeepsSpec)

/-- ITS FALSE NEIGHBOUR: 'it returns false'. Refute it at one input. -/
def pageKeepsWrong : ChangeSpec := { name := "pageKeeps", fn := fun _ => fun
  | [d1, d2] => { results := [.lit (.bool false)], args := [d1, d2] }
  | _ => none }
def PageKeepsWrongFalsely : Prop := pageKeepsRow.holds Tryd.pinned (OpenSpec.ofChange pageKeepsWrong)

/-- 'redraftlaw19.PageFull': WHATEVER THE INPUT: true; the input reads as it did. -/
def pageFullSpec : ChangeSpec := { name := "pageFull", fn := fun _ => fun
  | [d1, d2] => { results := [.lit (.bool true)], args := [d1, d2] }
  | _ => none }
def pageFullRow : OpenClaim := { program := "ythbfkmfinalfdaadoor", sum := "e5f8c799b67f1359c45e3c24a0d7cd0b2888df0569e4a83f36f22e78622e39de", func := "redraft/redraftlaw19.PageFull", spec := "pageFull", named := ["redraft/utext.bars", "redraft/page.none", "redraft/page.wide"], apart := false, laid := [("redraft/utext.bars", laid_redraft_utext_bars), ("redraft/page.none", laid_redraft_page_none), ("redraft/page.wide", laid_redraft_page_wide)] }
def PageFullSaid : Prop := pageFullRow.holds Tryd.pinned (OpenSpec.ofChange pageFullSpec)

/-- ITS FALSE NEIGHBOUR: 'it returns false'. Refute it at one input. -/
def pageFullWrong : ChangeSpec := { name := "pageFull", fn := fun _ => fun
  | [d1, d2] => { results := [.lit (.bool false)], args := [d1, d2] }
  | _ => none }
def PageFullWrongFalsely : Prop := pageFullRow.holds Tryd.pinned (OpenSpec.ofChange pageFullWrong)

/-- 'redraftlaw19.PageSpots': WHATEVER THE INPUT: true; the input reads as it did. -/
def pageSpotsSpec : ChangeSpec := { name := "pageSpots", fn := fun _ => fun
  | [d1, d2, d3, d4] => { results := [.lit (.bool true)], args := [d1, d2, d3, d4] }
  | _ => none }
def pageSpotsRow : OpenClaim := { program := "ythbfkmfinalfdaadoor", sum := "e5f8c799b67f1359c45e3c24a0d7cd0b2888df0569e4a83f36f22e78622e39de", func := "redraft/redraftlaw19.PageSpots", spec := "pageSpots", unfollowed := true, recurses := true, named := ["redraft/utext.bars", "redraft/page.none", "redraft/page.wide"], apart := false, laid := [("redraft/utext.bars", laid_redraft_utext_bars), ("redraft/page.none", laid_redraft_page_none), ("redraft/page.wide", laid_redraft_page_wide)] }
def PageSpotsSaid : Prop := pageSpotsRow.holds Tryd.pinned (OpenSpec.ofChange pageSpotsSpec)

/-- ITS FALSE NEIGHBOUR: 'it returns false'. Refute it at one input. -/
def pageSpotsWrong : ChangeSpec := { name := "pageSpots", fn := fun _ => fun
  | [d1, d2, d3, d4] => { results := [.lit (.bool false)], args := [d1, d2, d3, d4] }
  | _ => none }
def PageSpotsWrongFalsely : Prop := pageSpotsRow.holds Tryd.pinned (OpenSpec.ofChange pageSpotsWrong)

/-- 'redraftlaw19.PageWalks': WHATEVER THE INPUT: true; the input reads as it did. -/
def pageWalksSpec : ChangeSpec := { name := "pageWalks", fn := fun _ => fun
  | [d1, d2, d3, d4] => { results := [.lit (.bool true)], args := [d1, d2, d3, d4] }
  | _ => none }
def pageWalksRow : OpenClaim := { program := "ythbfkmfinalfdaadoor", sum := "e5f8c799b67f1359c45e3c24a0d7cd0b2888df0569e4a83f36f22e78622e39de", func := "redraft/redraftlaw19.PageWalks", spec := "pageWalks", unfollowed := true, recurses := true, named := ["redraft/utext.bars", "redraft/page.none", "redraft/page.wide", "redraft/page.walks", "redraft/utext.walks"], apart := false, laid := [("redraft/utext.bars", laid_redraft_utext_bars), ("redraft/utext.walks", laid_redraft_utext_walks), ("redraft/page.none", laid_redraft_page_none), ("redraft/page.wide", laid_redraft_page_wide), ("redraft/page.walks", laid_redraft_page_walks)] }
def PageWalksSaid : Prop := pageWalksRow.holds Tryd.pinned (OpenSpec.ofChange pageWalksSpec)

/-- ITS FALSE NEIGHBOUR: 'it returns false'. Refute it at one input. -/
def pageWalksWrong : ChangeSpec := { name := "pageWalks", fn := fun _ => fun
  | [d1, d2, d3, d4] => { results := [.lit (.bool false)], args := [d1, d2, d3, d4] }
  | _ => none }
def PageWalksWrongFalsely : Prop := pageWalksRow.holds Tryd.pinned (OpenSpec.ofChange pageWalksWrong)

/- THE SECOND FORM. 'bulk': how many values and letters a reading holds, each counted each time it is reached (what is shared counts as often as it is met; a slice's spare places count too). A statement '..UptoSaid' is the law's where the arguments, and the package variables that the reading takes, are together of bulk at most 1048576: NARROWER than '..Said'. Prove '..Said' where nothing that the law and all that it calls make is longer than what came in: it says more and counts as full. Else prove '..UptoSaid'. A law counts once. -/
mutual
def uptoBulk {H : Type} : DataW H → Nat
  | .lit (.string bytes) => bytes.length + 1
  | .lit _ => 1
  | .nil => 1
  | .ptr d => uptoBulk d + 1
  | .slice elems spare => uptoBulkAll elems + uptoBulkAll spare + 1
  | .agg parts => uptoBulkAll parts + 1
  | .iface _ d => uptoBulk d + 1
  | .map entries => uptoBulkEntries entries + 1
  | .held _ => 1
def uptoBulkAll {H : Type} : List (DataW H) → Nat
  | [] => 0
  | d :: r => uptoBulk d + uptoBulkAll r
def uptoBulkEntries {H : Type} : List (Lit × DataW H) → Nat
  | [] => 0
  | x :: r => uptoBulkEntry x + uptoBulkEntries r
def uptoBulkEntry {H : Type} : Lit × DataW H → Nat
  | (.string bytes, d) => bytes.length + uptoBulk d + 1
  | (_, d) => uptoBulk d + 1
 end
def uptoSmall : (H : Type) → List (DataW H) → Bool := fun _ ds => decide (uptoBulkAll ds ≤ 1048576)
def OpenSpec.upto (s : _root_.Go.ChangeSpec) : _root_.Go.OpenSpec := { _root_.Go.OpenSpec.ofChange s with cond := some uptoSmall }

/-- 'redraftlaw19.PageKeeps', WHERE WHAT IT READS IS OF BULK AT MOST 1048576: true; the input reads as it did. -/
def pageKeepsUptoRow : OpenClaim := { program := "ythbfkmfinalfdaadoor", sum := "e5f8c799b67f1359c45e3c24a0d7cd0b2888df0569e4a83f36f22e78622e39de", func := "redraft/redraftlaw19.PageKeeps", spec := "pageKeeps", named := ["redraft/utext.bars", "redraft/page.none", "redraft/page.wide"], apart := false, laid := [("redraft/utext.bars", laid_redraft_utext_bars), ("redraft/page.none", laid_redraft_page_none), ("redraft/page.wide", laid_redraft_page_wide)], narrowed := true }
def PageKeepsUptoSaid : Prop := pageKeepsUptoRow.holds Tryd.pinned (OpenSpec.upto pageKeepsSpec)

/-- 'redraftlaw19.PageFull', WHERE WHAT IT READS IS OF BULK AT MOST 1048576: true; the input reads as it did. -/
def pageFullUptoRow : OpenClaim := { program := "ythbfkmfinalfdaadoor", sum := "e5f8c799b67f1359c45e3c24a0d7cd0b2888df0569e4a83f36f22e78622e39de", func := "redraft/redraftlaw19.PageFull", spec := "pageFull", named := ["redraft/utext.bars", "redraft/page.none", "redraft/page.wide"], apart := false, laid := [("redraft/utext.bars", laid_redraft_utext_bars), ("redraft/page.none", laid_redraft_page_none), ("redraft/page.wide", laid_redraft_page_wide)], narrowed := true }
def PageFullUptoSaid : Prop := pageFullUptoRow.holds Tryd.pinned (OpenSpec.upto pageFullSpec)

/-- 'redraftlaw19.PageSpots', WHERE WHAT IT READS IS OF BULK AT MOST 1048576: true; the input reads as it did. -/
def pageSpotsUptoRow : OpenClaim := { program := "ythbfkmfinalfdaadoor", sum := "e5f8c799b67f1359c45e3c24a0d7cd0b2888df0569e4a83f36f22e78622e39de", func := "redraft/redraftlaw19.PageSpots", spec := "pageSpots", unfollowed := true, recurses := true, named := ["redraft/utext.bars", "redraft/page.none", "redraft/page.wide"], apart := false, laid := [("redraft/utext.bars", laid_redraft_utext_bars), ("redraft/page.none", laid_redraft_page_none), ("redraft/page.wide", laid_redraft_page_wide)], narrowed := true }
def PageSpotsUptoSaid : Prop := pageSpotsUptoRow.holds Tryd.pinned (OpenSpec.upto pageSpotsSpec)

/-- 'redraftlaw19.PageWalks', WHERE WHAT IT READS IS OF BULK AT MOST 1048576: true; the input reads as it did. -/
def pageWalksUptoRow : OpenClaim := { program := "ythbfkmfinalfdaadoor", sum := "e5f8c799b67f1359c45e3c24a0d7cd0b2888df0569e4a83f36f22e78622e39de", func := "redraft/redraftlaw19.PageWalks", spec := "pageWalks", unfollowed := true, recurses := true, named := ["redraft/utext.bars", "redraft/page.none", "redraft/page.wide", "redraft/page.walks", "redraft/utext.walks"], apart := false, laid := [("redraft/utext.bars", laid_redraft_utext_bars), ("redraft/utext.walks", laid_redraft_utext_walks), ("redraft/page.none", laid_redraft_page_none), ("redraft/page.wide", laid_redraft_page_wide), ("redraft/page.walks", laid_redraft_page_walks)], narrowed := true }
def PageWalksUptoSaid : Prop := pageWalksUptoRow.holds Tryd.pinned (OpenSpec.upto pageWalksSpec)

end Rows
end Go.Proofs.YthbfkmfinalfdaaDoor
