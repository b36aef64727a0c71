/-
  DERIVED. GIVEN WITH THE SEED: THE CARDS: each row of YtiagimmdohpddabDoorRows.lean that lists a variable, with what it lists TIED to the program's text (the seventh form; the later family's looks); each row that meets fmt, with fmt's text TOLD by the authors' own Lean function (tested against real Go, not proved from fmt's source: count such statements apart). THE CARD IS WHAT COUNTS. Prove the row's statement (the work); the ties are given (YtiagimmdohpddabDoorTie.lean); close each card by the builder's one call (the guide's Derived/Test/ToyasCard.lean, 'card_holds'). Laid BY PROGRAM, IN A SANDBOX (cutbox-door.mjs). By AI agents, Wed Nov 11 2026. No macro, syntax, notation, axiom, sorry.
-/
import Derived.Test.YtiagimmdohpddabDoorRows
import GoSem.ClaimSeven
namespace Go.Proofs.YtiagimmdohpddabDoor
namespace Rows

/-- THE TIED CARD OF 'redraftlaw04.OpOrder'. -/
def opOrderCard : Claim7 := { stood := { row := opOrderRow, standIns := [], harness := (true, "eba156ff2a1d493ee4005f9b75ae445e35518a7350fa2cadbe06f19e198c8404"), looks := false }, kinds := [], alts := [], laidByText := true, laidKinds := [.data], laidTests := true, laidLooks := .later }
def OpOrderCardSaid : Prop := Claim7.holds Tryd.pinned (.plain (OpenSpec.ofChange opOrderSpec)) opOrderCard

/-- THE SECOND FORM's CARD OF 'redraftlaw04.OpOrder'. -/
def opOrderUptoCard : Claim7 := { stood := { row := opOrderUptoRow, standIns := [], harness := (true, "eba156ff2a1d493ee4005f9b75ae445e35518a7350fa2cadbe06f19e198c8404"), looks := false }, kinds := [], alts := [], laidByText := true, laidKinds := [.data], laidTests := true, laidLooks := .later }
def OpOrderUptoCardSaid : Prop := Claim7.holds Tryd.pinned (.plain (OpenSpec.upto opOrderSpec)) opOrderUptoCard
end Rows
end Go.Proofs.YtiagimmdohpddabDoor
