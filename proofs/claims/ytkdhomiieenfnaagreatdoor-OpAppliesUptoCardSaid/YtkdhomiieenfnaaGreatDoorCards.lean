/-
  DERIVED. GIVEN WITH THE SEED: THE CARDS: each row of YtkdhomiieenfnaaGreatDoorRows.lean that lists a variable, with what it lists TIED to the program's text (the seventh form; the later family's looks); each row that meets fmt, with fmt's text TOLD by the authors' own Lean function (tested against real Go, not proved from fmt's source: count such statements apart). THE CARD IS WHAT COUNTS. Prove the row's statement (the work); the ties are given (YtkdhomiieenfnaaGreatDoorTie.lean); close each card by the builder's one call (the guide's Derived/Test/ToyasCard.lean, 'card_holds'). Laid BY PROGRAM, IN A SANDBOX (cutbox-door.mjs). By AI agents, Wed Nov 11 2026. No macro, syntax, notation, axiom, sorry.
-/
import Derived.Test.YtkdhomiieenfnaaGreatDoorRows
import GoSem.ClaimSeven
namespace Go.Proofs.YtkdhomiieenfnaaGreatDoor
namespace Rows

/-- THE TIED CARD OF 'redraftlaw04.OpChecks'. -/
def opChecksCard : Claim7 := { stood := { row := opChecksRow, standIns := [], harness := (true, "ee5c6e86594e32ace6c3628167dafd00202c5751ce2d84ca016fd3269b25c08f"), looks := true }, kinds := [], alts := [], laidByText := true, laidKinds := [.data, .data, .data, .data, .sentinel, .sentinel, .data, .pinned], laidTests := true, laidLooks := .later }
def OpChecksCardSaid : Prop := Claim7.holds Tryz.pinned (.plain (OpenSpec.ofChange opChecksSpec)) opChecksCard

/-- THE TIED CARD OF 'redraftlaw04.OpShapes'. -/
def opShapesCard : Claim7 := { stood := { row := opShapesRow, standIns := [], harness := (true, "ee5c6e86594e32ace6c3628167dafd00202c5751ce2d84ca016fd3269b25c08f"), looks := true }, kinds := [], alts := [], laidByText := true, laidKinds := [.data, .data, .data, .data, .sentinel, .sentinel, .data, .pinned], laidTests := true, laidLooks := .later }
def OpShapesCardSaid : Prop := Claim7.holds Tryz.pinned (.plain (OpenSpec.ofChange opShapesSpec)) opShapesCard

/-- THE TIED CARD OF 'redraftlaw04.OpApplies'. -/
def opAppliesCard : Claim7 := { stood := { row := opAppliesRow, standIns := [], harness := (true, "ee5c6e86594e32ace6c3628167dafd00202c5751ce2d84ca016fd3269b25c08f"), looks := true }, kinds := [], alts := [], laidByText := true, laidKinds := [.data, .data, .data, .data, .sentinel, .sentinel, .data, .pinned], laidTests := true, laidLooks := .later }
def OpAppliesCardSaid : Prop := Claim7.holds Tryz.pinned (.plain (OpenSpec.ofChange opAppliesSpec)) opAppliesCard

/-- THE TIED CARD OF 'redraftlaw04.OpLines'. -/
def opLinesCard : Claim7 := { stood := { row := opLinesRow, standIns := [], harness := (true, "ee5c6e86594e32ace6c3628167dafd00202c5751ce2d84ca016fd3269b25c08f"), looks := true }, kinds := [], alts := [], laidByText := true, laidKinds := [.data, .data, .data, .data, .sentinel, .sentinel, .data, .pinned], laidTests := true, laidLooks := .later }
def OpLinesCardSaid : Prop := Claim7.holds Tryz.pinned (.plain (OpenSpec.ofChange opLinesSpec)) opLinesCard

/-- THE TIED CARD OF 'redraftlaw04.OpAll'. -/
def opAllCard : Claim7 := { stood := { row := opAllRow, standIns := [], harness := (true, "ee5c6e86594e32ace6c3628167dafd00202c5751ce2d84ca016fd3269b25c08f"), looks := true }, kinds := [], alts := [], laidByText := true, laidKinds := [.data, .data, .data, .data, .sentinel, .sentinel, .data, .pinned], laidTests := true, laidLooks := .later }
def OpAllCardSaid : Prop := Claim7.holds Tryz.pinned (.plain (OpenSpec.ofChange opAllSpec)) opAllCard

/-- THE TIED CARD OF 'redraftlaw04.OpTakesBack'. -/
def opTakesBackCard : Claim7 := { stood := { row := opTakesBackRow, standIns := [], harness := (true, "ee5c6e86594e32ace6c3628167dafd00202c5751ce2d84ca016fd3269b25c08f"), looks := true }, kinds := [], alts := [], laidByText := true, laidKinds := [.data, .data, .data, .data, .sentinel, .sentinel, .data, .pinned], laidTests := true, laidLooks := .later }
def OpTakesBackCardSaid : Prop := Claim7.holds Tryz.pinned (.plain (OpenSpec.ofChange opTakesBackSpec)) opTakesBackCard

/-- THE SECOND FORM's CARD OF 'redraftlaw04.OpChecks'. -/
def opChecksUptoCard : Claim7 := { stood := { row := opChecksUptoRow, standIns := [], harness := (true, "ee5c6e86594e32ace6c3628167dafd00202c5751ce2d84ca016fd3269b25c08f"), looks := true }, kinds := [], alts := [], laidByText := true, laidKinds := [.data, .data, .data, .data, .sentinel, .sentinel, .data, .pinned], laidTests := true, laidLooks := .later }
def OpChecksUptoCardSaid : Prop := Claim7.holds Tryz.pinned (.plain (OpenSpec.upto opChecksSpec)) opChecksUptoCard

/-- THE SECOND FORM's CARD OF 'redraftlaw04.OpShapes'. -/
def opShapesUptoCard : Claim7 := { stood := { row := opShapesUptoRow, standIns := [], harness := (true, "ee5c6e86594e32ace6c3628167dafd00202c5751ce2d84ca016fd3269b25c08f"), looks := true }, kinds := [], alts := [], laidByText := true, laidKinds := [.data, .data, .data, .data, .sentinel, .sentinel, .data, .pinned], laidTests := true, laidLooks := .later }
def OpShapesUptoCardSaid : Prop := Claim7.holds Tryz.pinned (.plain (OpenSpec.upto opShapesSpec)) opShapesUptoCard

/-- THE SECOND FORM's CARD OF 'redraftlaw04.OpApplies'. -/
def opAppliesUptoCard : Claim7 := { stood := { row := opAppliesUptoRow, standIns := [], harness := (true, "ee5c6e86594e32ace6c3628167dafd00202c5751ce2d84ca016fd3269b25c08f"), looks := true }, kinds := [], alts := [], laidByText := true, laidKinds := [.data, .data, .data, .data, .sentinel, .sentinel, .data, .pinned], laidTests := true, laidLooks := .later }
def OpAppliesUptoCardSaid : Prop := Claim7.holds Tryz.pinned (.plain (OpenSpec.upto opAppliesSpec)) opAppliesUptoCard

/-- THE SECOND FORM's CARD OF 'redraftlaw04.OpLines'. -/
def opLinesUptoCard : Claim7 := { stood := { row := opLinesUptoRow, standIns := [], harness := (true, "ee5c6e86594e32ace6c3628167dafd00202c5751ce2d84ca016fd3269b25c08f"), looks := true }, kinds := [], alts := [], laidByText := true, laidKinds := [.data, .data, .data, .data, .sentinel, .sentinel, .data, .pinned], laidTests := true, laidLooks := .later }
def OpLinesUptoCardSaid : Prop := Claim7.holds Tryz.pinned (.plain (OpenSpec.upto opLinesSpec)) opLinesUptoCard

/-- THE SECOND FORM's CARD OF 'redraftlaw04.OpAll'. -/
def opAllUptoCard : Claim7 := { stood := { row := opAllUptoRow, standIns := [], harness := (true, "ee5c6e86594e32ace6c3628167dafd00202c5751ce2d84ca016fd3269b25c08f"), looks := true }, kinds := [], alts := [], laidByText := true, laidKinds := [.data, .data, .data, .data, .sentinel, .sentinel, .data, .pinned], laidTests := true, laidLooks := .later }
def OpAllUptoCardSaid : Prop := Claim7.holds Tryz.pinned (.plain (OpenSpec.upto opAllSpec)) opAllUptoCard

/-- THE SECOND FORM's CARD OF 'redraftlaw04.OpTakesBack'. -/
def opTakesBackUptoCard : Claim7 := { stood := { row := opTakesBackUptoRow, standIns := [], harness := (true, "ee5c6e86594e32ace6c3628167dafd00202c5751ce2d84ca016fd3269b25c08f"), looks := true }, kinds := [], alts := [], laidByText := true, laidKinds := [.data, .data, .data, .data, .sentinel, .sentinel, .data, .pinned], laidTests := true, laidLooks := .later }
def OpTakesBackUptoCardSaid : Prop := Claim7.holds Tryz.pinned (.plain (OpenSpec.upto opTakesBackSpec)) opTakesBackUptoCard
end Rows
end Go.Proofs.YtkdhomiieenfnaaGreatDoor
