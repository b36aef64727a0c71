/-
  NARROWER THAN 'FOR EVERY INPUT', by the rows' own cells (each row's printed sentence says how): OpOrder: laid.
  DERIVED. THE GIVEN ROWS OF THIS SEAT. 1 by the template 'for every input the law returns true; each argument reads behind the call as it read before'; 0 by the template 'total and deterministic' (their statements: YtiagimmdohpddabDoorTotals.lean).
  GIVEN WITH THE SEED: the statements are not yours to turn. If you find one false, say at which input.
  Laid BY PROGRAM, IN A SANDBOX (cutbox-rows.mjs): the forced cells as the released guide's own fill.sh prints them over the translation 05bbfa84340adc83… (all of the seat's roots in one cut). By AI agents, Wed Nov 11 2026. No macro, syntax, notation, axiom, sorry.
-/
import Derived.Test.YtiagimmdohpddabDoorChecked
import GoSem.Claim
import GoSem.ClaimJoined
import GoSem.ClaimMapViews
import Derived.JoinedTies
import Derived.KernelRfl
namespace Go.Proofs.YtiagimmdohpddabDoor
/- THE CELL 'sum', in the pinned program and in every row, IS THE sha256 OF THE DUMP (.gsa) THAT YtiagimmdohpddabDoorProg.lean LOADS. Nothing in Lean hashes anything: it is a label: what it is worth is what the hold of that sum in a sandbox is worth. -/
noncomputable def Tryd.pinned : Pinned := { name := "ytiagimmdohpddabdoor", sum := "05bbfa84340adc83b2462f196608360764fb98feb577c9a13cd77cf6a8faf006", checked := Tryd.checked }
namespace Rows
def none {H : Type} : Left H := { results := [], args := [] }

/- WHAT THE LISTED PACKAGE-LEVEL VARIABLES READ AS WHEN THE CALL BEGINS. Each datum BY PROGRAM (the guide's laid-datum.mjs) off the statement by which the dump's own 'gosem.cut.vars' lays the variable. In a bare row this is a premise. The card (YtiagimmdohpddabDoorCards.lean) ties it to the program's text. -/
def laid_redraft_utext_bars {H : Type} : DataW H := .agg [.agg [.lit (.int .i32 0), .lit (.int .i32 8)], .agg [.lit (.int .i32 11), .lit (.int .i32 31)], .agg [.lit (.int .i32 127), .lit (.int .i32 159)], .agg [.lit (.int .i32 64976), .lit (.int .i32 65007)], .agg [.lit (.int .i32 65279), .lit (.int .i32 65279)]]

/-- 'redraftlaw04.OpOrder': WHATEVER THE INPUT: true; the input reads as it did. -/
def opOrderSpec : ChangeSpec := { name := "opOrder", fn := fun _ => fun
  | [d1, d2, d3] => { results := [.lit (.bool true)], args := [d1, d2, d3] }
  | _ => none }
def opOrderRow : OpenClaim := { program := "ytiagimmdohpddabdoor", sum := "05bbfa84340adc83b2462f196608360764fb98feb577c9a13cd77cf6a8faf006", func := "redraft/redraftlaw04.OpOrder", spec := "opOrder", named := ["redraft/utext.bars"], apart := false, laid := [("redraft/utext.bars", laid_redraft_utext_bars)] }
def OpOrderSaid : Prop := opOrderRow.holds Tryd.pinned (OpenSpec.ofChange opOrderSpec)

/-- ITS FALSE NEIGHBOUR: 'it returns false'. Refute it at one input. -/
def opOrderWrong : ChangeSpec := { name := "opOrder", fn := fun _ => fun
  | [d1, d2, d3] => { results := [.lit (.bool false)], args := [d1, d2, d3] }
  | _ => none }
def OpOrderWrongFalsely : Prop := opOrderRow.holds Tryd.pinned (OpenSpec.ofChange opOrderWrong)

/- THE SECOND FORM. 'bulk': how many values and letters a reading holds, each counted each time it is reached (what is shared counts as often as it is met; a slice's spare places count too). A statement '..UptoSaid' is the law's where the arguments, and the package variables that the reading takes, are together of bulk at most 1048576: NARROWER than '..Said'. Prove '..Said' where nothing that the law and all that it calls make is longer than what came in: it says more and counts as full. Else prove '..UptoSaid'. A law counts once. -/
mutual
def uptoBulk {H : Type} : DataW H → Nat
  | .lit (.string bytes) => bytes.length + 1
  | .lit _ => 1
  | .nil => 1
  | .ptr d => uptoBulk d + 1
  | .slice elems spare => uptoBulkAll elems + uptoBulkAll spare + 1
  | .agg parts => uptoBulkAll parts + 1
  | .iface _ d => uptoBulk d + 1
  | .map entries => uptoBulkEntries entries + 1
  | .held _ => 1
def uptoBulkAll {H : Type} : List (DataW H) → Nat
  | [] => 0
  | d :: r => uptoBulk d + uptoBulkAll r
def uptoBulkEntries {H : Type} : List (Lit × DataW H) → Nat
  | [] => 0
  | x :: r => uptoBulkEntry x + uptoBulkEntries r
def uptoBulkEntry {H : Type} : Lit × DataW H → Nat
  | (.string bytes, d) => bytes.length + uptoBulk d + 1
  | (_, d) => uptoBulk d + 1
 end
def uptoSmall : (H : Type) → List (DataW H) → Bool := fun _ ds => decide (uptoBulkAll ds ≤ 1048576)
def OpenSpec.upto (s : _root_.Go.ChangeSpec) : _root_.Go.OpenSpec := { _root_.Go.OpenSpec.ofChange s with cond := some uptoSmall }

/-- 'redraftlaw04.OpOrder', WHERE WHAT IT READS IS OF BULK AT MOST 1048576: true; the input reads as it did. -/
def opOrderUptoRow : OpenClaim := { program := "ytiagimmdohpddabdoor", sum := "05bbfa84340adc83b2462f196608360764fb98feb577c9a13cd77cf6a8faf006", func := "redraft/redraftlaw04.OpOrder", spec := "opOrder", named := ["redraft/utext.bars"], apart := false, laid := [("redraft/utext.bars", laid_redraft_utext_bars)], narrowed := true }
def OpOrderUptoSaid : Prop := opOrderUptoRow.holds Tryd.pinned (OpenSpec.upto opOrderSpec)

end Rows
end Go.Proofs.YtiagimmdohpddabDoor
