/-
  DERIVED. GIVEN WITH THE SEED: THE CARDS: each row of YtnippaaiopgnaaaDoorRows.lean that lists a variable, with what it lists TIED to the program's text (the seventh form; the later family's looks); each row that meets fmt, with fmt's text TOLD by the authors' own Lean function (tested against real Go, not proved from fmt's source: count such statements apart). THE CARD IS WHAT COUNTS. Prove the row's statement (the work); the ties are given (YtnippaaiopgnaaaDoorTie.lean); close each card by the builder's one call (the guide's Derived/Test/ToyasCard.lean, 'card_holds'). Laid BY PROGRAM, IN A SANDBOX (cutbox-door.mjs). By AI agents, Wed Nov 11 2026. No macro, syntax, notation, axiom, sorry.
-/
import Derived.Test.YtnippaaiopgnaaaDoorRows
import GoSem.ClaimSeven
namespace Go.Proofs.YtnippaaiopgnaaaDoor
namespace Rows

/-- THE TIED CARD OF 'redraftlaw04.OpOrder'. -/
def opOrderCard : Claim7 := { stood := { row := opOrderRow, standIns := [], harness := (true, "93d6084e3344d46c6117decc7b8dab417b830d615ee27c5d836d584fc8937b34"), looks := true }, kinds := [], alts := [], laidByText := true, laidKinds := [.data], laidTests := true, laidLooks := .later }
def OpOrderCardSaid : Prop := Claim7.holds Tryd.pinned (.plain (OpenSpec.ofChange opOrderSpec)) opOrderCard

/-- THE TIED CARD OF 'redraftlaw04.OpNames'. -/
def opNamesCard : Claim7 := { stood := { row := opNamesRow, standIns := [], harness := (true, "93d6084e3344d46c6117decc7b8dab417b830d615ee27c5d836d584fc8937b34"), looks := true }, kinds := [], alts := [], laidByText := true, laidKinds := [.data, .data, .data, .data], laidTests := true, laidLooks := .later }
def OpNamesCardSaid : Prop := Claim7.holds Tryd.pinned (.plain (OpenSpec.ofChange opNamesSpec)) opNamesCard

/-- THE TIED CARD OF 'redraftlaw04.OpEqualMeans'. -/
def opEqualMeansCard : Claim7 := { stood := { row := opEqualMeansRow, standIns := [], harness := (true, "93d6084e3344d46c6117decc7b8dab417b830d615ee27c5d836d584fc8937b34"), looks := true }, kinds := [], alts := [], laidByText := true, laidKinds := [.data, .data, .data, .data], laidTests := true, laidLooks := .later }
def OpEqualMeansCardSaid : Prop := Claim7.holds Tryd.pinned (.plain (OpenSpec.ofChange opEqualMeansSpec)) opEqualMeansCard

/-- THE TIED CARD OF 'redraftlaw04.OpOneForm'. -/
def opOneFormCard : Claim7 := { stood := { row := opOneFormRow, standIns := [], harness := (true, "93d6084e3344d46c6117decc7b8dab417b830d615ee27c5d836d584fc8937b34"), looks := true }, kinds := [], alts := [], laidByText := true, laidKinds := [.data, .data, .data, .data, .sentinel, .sentinel, .data, .pinned], laidTests := true, laidLooks := .later }
def OpOneFormCardSaid : Prop := Claim7.holds Tryd.pinned (.plain (OpenSpec.ofChange opOneFormSpec)) opOneFormCard

/-- THE TIED CARD OF 'redraftlaw04.OpNewMemory'. -/
def opNewMemoryCard : Claim7 := { stood := { row := opNewMemoryRow, standIns := [], harness := (true, "93d6084e3344d46c6117decc7b8dab417b830d615ee27c5d836d584fc8937b34"), looks := true }, kinds := [], alts := [], laidByText := true, laidKinds := [.data, .data, .data, .data, .sentinel, .sentinel, .data, .pinned], laidTests := true, laidLooks := .later }
def OpNewMemoryCardSaid : Prop := Claim7.holds Tryd.pinned (.plain (OpenSpec.ofChange opNewMemorySpec)) opNewMemoryCard

/-- THE SECOND FORM's CARD OF 'redraftlaw04.OpOrder'. -/
def opOrderUptoCard : Claim7 := { stood := { row := opOrderUptoRow, standIns := [], harness := (true, "93d6084e3344d46c6117decc7b8dab417b830d615ee27c5d836d584fc8937b34"), looks := true }, kinds := [], alts := [], laidByText := true, laidKinds := [.data], laidTests := true, laidLooks := .later }
def OpOrderUptoCardSaid : Prop := Claim7.holds Tryd.pinned (.plain (OpenSpec.upto opOrderSpec)) opOrderUptoCard

/-- THE SECOND FORM's CARD OF 'redraftlaw04.OpNames'. -/
def opNamesUptoCard : Claim7 := { stood := { row := opNamesUptoRow, standIns := [], harness := (true, "93d6084e3344d46c6117decc7b8dab417b830d615ee27c5d836d584fc8937b34"), looks := true }, kinds := [], alts := [], laidByText := true, laidKinds := [.data, .data, .data, .data], laidTests := true, laidLooks := .later }
def OpNamesUptoCardSaid : Prop := Claim7.holds Tryd.pinned (.plain (OpenSpec.upto opNamesSpec)) opNamesUptoCard

/-- THE SECOND FORM's CARD OF 'redraftlaw04.OpEqualMeans'. -/
def opEqualMeansUptoCard : Claim7 := { stood := { row := opEqualMeansUptoRow, standIns := [], harness := (true, "93d6084e3344d46c6117decc7b8dab417b830d615ee27c5d836d584fc8937b34"), looks := true }, kinds := [], alts := [], laidByText := true, laidKinds := [.data, .data, .data, .data], laidTests := true, laidLooks := .later }
def OpEqualMeansUptoCardSaid : Prop := Claim7.holds Tryd.pinned (.plain (OpenSpec.upto opEqualMeansSpec)) opEqualMeansUptoCard

/-- THE SECOND FORM's CARD OF 'redraftlaw04.OpOneForm'. -/
def opOneFormUptoCard : Claim7 := { stood := { row := opOneFormUptoRow, standIns := [], harness := (true, "93d6084e3344d46c6117decc7b8dab417b830d615ee27c5d836d584fc8937b34"), looks := true }, kinds := [], alts := [], laidByText := true, laidKinds := [.data, .data, .data, .data, .sentinel, .sentinel, .data, .pinned], laidTests := true, laidLooks := .later }
def OpOneFormUptoCardSaid : Prop := Claim7.holds Tryd.pinned (.plain (OpenSpec.upto opOneFormSpec)) opOneFormUptoCard

/-- THE SECOND FORM's CARD OF 'redraftlaw04.OpNewMemory'. -/
def opNewMemoryUptoCard : Claim7 := { stood := { row := opNewMemoryUptoRow, standIns := [], harness := (true, "93d6084e3344d46c6117decc7b8dab417b830d615ee27c5d836d584fc8937b34"), looks := true }, kinds := [], alts := [], laidByText := true, laidKinds := [.data, .data, .data, .data, .sentinel, .sentinel, .data, .pinned], laidTests := true, laidLooks := .later }
def OpNewMemoryUptoCardSaid : Prop := Claim7.holds Tryd.pinned (.plain (OpenSpec.upto opNewMemorySpec)) opNewMemoryUptoCard
end Rows
end Go.Proofs.YtnippaaiopgnaaaDoor
