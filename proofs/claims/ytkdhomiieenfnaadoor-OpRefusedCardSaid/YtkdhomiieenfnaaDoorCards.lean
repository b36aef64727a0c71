/-
  DERIVED. GIVEN WITH THE SEED: THE CARDS: each row of YtkdhomiieenfnaaDoorRows.lean that lists a variable, with what it lists TIED to the program's text (the seventh form; the later family's looks); each row that meets fmt, with fmt's text TOLD by the authors' own Lean function (tested against real Go, not proved from fmt's source: count such statements apart). THE CARD IS WHAT COUNTS. Prove the row's statement (the work); the ties are given (YtkdhomiieenfnaaDoorTie.lean); close each card by the builder's one call (the guide's Derived/Test/ToyasCard.lean, 'card_holds'). Laid BY PROGRAM, IN A SANDBOX (cutbox-door.mjs). By AI agents, Wed Nov 11 2026. No macro, syntax, notation, axiom, sorry.
-/
import Derived.Test.YtkdhomiieenfnaaDoorRows
import GoSem.ClaimSeven
namespace Go.Proofs.YtkdhomiieenfnaaDoor
namespace Rows

/-- THE TIED CARD OF 'redraftlaw04.OpSeen'. -/
def opSeenCard : Claim7 := { stood := { row := opSeenRow, standIns := [], harness := (true, "8a981232c4c66015ebb087d343f1c35f0cf2b1a217420df53ef1dbdf0e94004e"), looks := true }, kinds := [], alts := [], laidByText := true, laidKinds := [.data], laidTests := true, laidLooks := .later }
def OpSeenCardSaid : Prop := Claim7.holds Tryd.pinned (.plain (OpenSpec.ofChange opSeenSpec)) opSeenCard

/-- THE TIED CARD OF 'redraftlaw04.OpRefused'. -/
def opRefusedCard : Claim7 := { stood := { row := opRefusedRow, standIns := [], harness := (true, "8a981232c4c66015ebb087d343f1c35f0cf2b1a217420df53ef1dbdf0e94004e"), looks := true }, kinds := [], alts := [], laidByText := true, laidKinds := [.data, .data, .data, .data], laidTests := true, laidLooks := .later }
def OpRefusedCardSaid : Prop := Claim7.holds Tryd.pinned (.plain (OpenSpec.ofChange opRefusedSpec)) opRefusedCard

/-- THE TIED CARD OF 'redraftlaw04.OpNewMemory'. -/
def opNewMemoryCard : Claim7 := { stood := { row := opNewMemoryRow, standIns := [], harness := (true, "8a981232c4c66015ebb087d343f1c35f0cf2b1a217420df53ef1dbdf0e94004e"), looks := true }, kinds := [], alts := [], laidByText := true, laidKinds := [.data, .data, .data, .data, .sentinel, .sentinel, .data, .pinned], laidTests := true, laidLooks := .later }
def OpNewMemoryCardSaid : Prop := Claim7.holds Tryd.pinned (.plain (OpenSpec.ofChange opNewMemorySpec)) opNewMemoryCard

/-- THE SECOND FORM's CARD OF 'redraftlaw04.OpSeen'. -/
def opSeenUptoCard : Claim7 := { stood := { row := opSeenUptoRow, standIns := [], harness := (true, "8a981232c4c66015ebb087d343f1c35f0cf2b1a217420df53ef1dbdf0e94004e"), looks := true }, kinds := [], alts := [], laidByText := true, laidKinds := [.data], laidTests := true, laidLooks := .later }
def OpSeenUptoCardSaid : Prop := Claim7.holds Tryd.pinned (.plain (OpenSpec.upto opSeenSpec)) opSeenUptoCard

/-- THE SECOND FORM's CARD OF 'redraftlaw04.OpRefused'. -/
def opRefusedUptoCard : Claim7 := { stood := { row := opRefusedUptoRow, standIns := [], harness := (true, "8a981232c4c66015ebb087d343f1c35f0cf2b1a217420df53ef1dbdf0e94004e"), looks := true }, kinds := [], alts := [], laidByText := true, laidKinds := [.data, .data, .data, .data], laidTests := true, laidLooks := .later }
def OpRefusedUptoCardSaid : Prop := Claim7.holds Tryd.pinned (.plain (OpenSpec.upto opRefusedSpec)) opRefusedUptoCard

/-- THE SECOND FORM's CARD OF 'redraftlaw04.OpNewMemory'. -/
def opNewMemoryUptoCard : Claim7 := { stood := { row := opNewMemoryUptoRow, standIns := [], harness := (true, "8a981232c4c66015ebb087d343f1c35f0cf2b1a217420df53ef1dbdf0e94004e"), looks := true }, kinds := [], alts := [], laidByText := true, laidKinds := [.data, .data, .data, .data, .sentinel, .sentinel, .data, .pinned], laidTests := true, laidLooks := .later }
def OpNewMemoryUptoCardSaid : Prop := Claim7.holds Tryd.pinned (.plain (OpenSpec.upto opNewMemorySpec)) opNewMemoryUptoCard
end Rows
end Go.Proofs.YtkdhomiieenfnaaDoor
