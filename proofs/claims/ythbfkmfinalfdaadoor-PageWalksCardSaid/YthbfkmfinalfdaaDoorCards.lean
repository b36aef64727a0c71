/-
  DERIVED. GIVEN WITH THE SEED: THE CARDS: each row of YthbfkmfinalfdaaDoorRows.lean that lists a variable, with what it lists TIED to the program's text (the seventh form; the later family's looks); each row that meets fmt, with fmt's text TOLD by the authors' own Lean function (tested against real Go, not proved from fmt's source: count such statements apart). THE CARD IS WHAT COUNTS. Prove the row's statement (the work); the ties are given (YthbfkmfinalfdaaDoorTie.lean); close each card by the builder's one call (the guide's Derived/Test/ToyasCard.lean, 'card_holds'). Laid BY PROGRAM, IN A SANDBOX (cutbox-door.mjs). By AI agents, Wed Nov 11 2026. No macro, syntax, notation, axiom, sorry.
-/
import Derived.Test.YthbfkmfinalfdaaDoorRows
import GoSem.ClaimSeven
namespace Go.Proofs.YthbfkmfinalfdaaDoor
namespace Rows

/-- THE TIED CARD OF 'redraftlaw19.PageKeeps'. -/
def pageKeepsCard : Claim7 := { stood := { row := pageKeepsRow, standIns := [], harness := (true, "6fd1ada27237f99e85c3f41914a7a6786948eb24d803ea958d0d3525f3839074"), looks := false }, kinds := [], alts := [], laidByText := true, laidKinds := [.data, .widerDeep, .widerDeep], laidTests := true, laidLooks := .later }
def PageKeepsCardSaid : Prop := Claim7.holds Tryd.pinned (.plain (OpenSpec.ofChange pageKeepsSpec)) pageKeepsCard

/-- THE TIED CARD OF 'redraftlaw19.PageFull'. -/
def pageFullCard : Claim7 := { stood := { row := pageFullRow, standIns := [], harness := (true, "6fd1ada27237f99e85c3f41914a7a6786948eb24d803ea958d0d3525f3839074"), looks := false }, kinds := [], alts := [], laidByText := true, laidKinds := [.data, .widerDeep, .widerDeep], laidTests := true, laidLooks := .later }
def PageFullCardSaid : Prop := Claim7.holds Tryd.pinned (.plain (OpenSpec.ofChange pageFullSpec)) pageFullCard

/-- THE TIED CARD OF 'redraftlaw19.PageSpots'. -/
def pageSpotsCard : Claim7 := { stood := { row := pageSpotsRow, standIns := [], harness := (true, "6fd1ada27237f99e85c3f41914a7a6786948eb24d803ea958d0d3525f3839074"), looks := false }, kinds := [], alts := [], laidByText := true, laidKinds := [.data, .widerDeep, .widerDeep], laidTests := true, laidLooks := .later }
def PageSpotsCardSaid : Prop := Claim7.holds Tryd.pinned (.plain (OpenSpec.ofChange pageSpotsSpec)) pageSpotsCard

/-- THE TIED CARD OF 'redraftlaw19.PageWalks'. -/
def pageWalksCard : Claim7 := { stood := { row := pageWalksRow, standIns := [], harness := (true, "6fd1ada27237f99e85c3f41914a7a6786948eb24d803ea958d0d3525f3839074"), looks := false }, kinds := [], alts := [], laidByText := true, laidKinds := [.data, .funcs, .widerDeep, .widerDeep, .funcs], laidTests := true, laidLooks := .later }
def PageWalksCardSaid : Prop := Claim7.holds Tryd.pinned (.plain (OpenSpec.ofChange pageWalksSpec)) pageWalksCard

/-- THE SECOND FORM's CARD OF 'redraftlaw19.PageKeeps'. -/
def pageKeepsUptoCard : Claim7 := { stood := { row := pageKeepsUptoRow, standIns := [], harness := (true, "6fd1ada27237f99e85c3f41914a7a6786948eb24d803ea958d0d3525f3839074"), looks := false }, kinds := [], alts := [], laidByText := true, laidKinds := [.data, .widerDeep, .widerDeep], laidTests := true, laidLooks := .later }
def PageKeepsUptoCardSaid : Prop := Claim7.holds Tryd.pinned (.plain (OpenSpec.upto pageKeepsSpec)) pageKeepsUptoCard

/-- THE SECOND FORM's CARD OF 'redraftlaw19.PageFull'. -/
def pageFullUptoCard : Claim7 := { stood := { row := pageFullUptoRow, standIns := [], harness := (true, "6fd1ada27237f99e85c3f41914a7a6786948eb24d803ea958d0d3525f3839074"), looks := false }, kinds := [], alts := [], laidByText := true, laidKinds := [.data, .widerDeep, .widerDeep], laidTests := true, laidLooks := .later }
def PageFullUptoCardSaid : Prop := Claim7.holds Tryd.pinned (.plain (OpenSpec.upto pageFullSpec)) pageFullUptoCard

/-- THE SECOND FORM's CARD OF 'redraftlaw19.PageSpots'. -/
def pageSpotsUptoCard : Claim7 := { stood := { row := pageSpotsUptoRow, standIns := [], harness := (true, "6fd1ada27237f99e85c3f41914a7a6786948eb24d803ea958d0d3525f3839074"), looks := false }, kinds := [], alts := [], laidByText := true, laidKinds := [.data, .widerDeep, .widerDeep], laidTests := true, laidLooks := .later }
def PageSpotsUptoCardSaid : Prop := Claim7.holds Tryd.pinned (.plain (OpenSpec.upto pageSpotsSpec)) pageSpotsUptoCard

/-- THE SECOND FORM's CARD OF 'redraftlaw19.PageWalks'. -/
def pageWalksUptoCard : Claim7 := { stood := { row := pageWalksUptoRow, standIns := [], harness := (true, "6fd1ada27237f99e85c3f41914a7a6786948eb24d803ea958d0d3525f3839074"), looks := false }, kinds := [], alts := [], laidByText := true, laidKinds := [.data, .funcs, .widerDeep, .widerDeep, .funcs], laidTests := true, laidLooks := .later }
def PageWalksUptoCardSaid : Prop := Claim7.holds Tryd.pinned (.plain (OpenSpec.upto pageWalksSpec)) pageWalksUptoCard
end Rows
end Go.Proofs.YthbfkmfinalfdaaDoor
