/-
  DERIVED. GIVEN WITH THE SEED: THE CARDS: each row of YtkidcleffllhbaaDoorRows.lean that lists a variable, with what it lists TIED to the program's text (the seventh form; the later family's looks); each row that meets fmt, with fmt's text TOLD by the authors' own Lean function (tested against real Go, not proved from fmt's source: count such statements apart). THE CARD IS WHAT COUNTS. Prove the row's statement (the work); the ties are given (YtkidcleffllhbaaDoorTie.lean); close each card by the builder's one call (the guide's Derived/Test/ToyasCard.lean, 'card_holds'). Laid BY PROGRAM, IN A SANDBOX (cutbox-door.mjs). By AI agents, Wed Nov 11 2026. No macro, syntax, notation, axiom, sorry.
-/
import Derived.Test.YtkidcleffllhbaaDoorRows
import GoSem.ClaimSeven
namespace Go.Proofs.YtkidcleffllhbaaDoor
namespace Rows

/-- THE TIED CARD OF 'redraftlaw27.DeltaShortest'. -/
def deltaShortestCard : Claim7 := { stood := { row := deltaShortestRow, standIns := [], harness := (true, "c645d79bab4797446dcddd115b0dbfd4640463c80c5cbc03022a7925bd122b48"), looks := false }, kinds := [], alts := [], laidByText := true, laidKinds := [.data], laidTests := true, laidLooks := .later }
def DeltaShortestCardSaid : Prop := Claim7.holds Tryd.pinned (.plain (OpenSpec.ofChange deltaShortestSpec)) deltaShortestCard

/-- THE TIED CARD OF 'redraftlaw27.DeltaMeets'. -/
def deltaMeetsCard : Claim7 := { stood := { row := deltaMeetsRow, standIns := [], harness := (true, "c645d79bab4797446dcddd115b0dbfd4640463c80c5cbc03022a7925bd122b48"), looks := false }, kinds := [], alts := [], laidByText := true, laidKinds := [.data, .data, .pinned], laidTests := true, laidLooks := .later }
def DeltaMeetsCardSaid : Prop := Claim7.holds Tryd.pinned (.plain (OpenSpec.ofChange deltaMeetsSpec)) deltaMeetsCard

/-- THE TIED CARD OF 'redraftlaw27.DeltaNames'. -/
def deltaNamesCard : Claim7 := { stood := { row := deltaNamesRow, standIns := [], harness := (true, "c645d79bab4797446dcddd115b0dbfd4640463c80c5cbc03022a7925bd122b48"), looks := false }, kinds := [], alts := [], laidByText := true, laidKinds := [.data, .data, .pinned], laidTests := true, laidLooks := .later }
def DeltaNamesCardSaid : Prop := Claim7.holds Tryd.pinned (.plain (OpenSpec.ofChange deltaNamesSpec)) deltaNamesCard

/-- THE TIED CARD OF 'redraftlaw19.PageShows'. -/
def pageShowsCard : Claim7 := { stood := { row := pageShowsRow, standIns := [], harness := (true, "c645d79bab4797446dcddd115b0dbfd4640463c80c5cbc03022a7925bd122b48"), looks := false }, kinds := [], alts := [], laidByText := true, laidKinds := [.data, .data, .widerDeep, .widerDeep, .pinned], laidTests := true, laidLooks := .later }
def PageShowsCardSaid : Prop := Claim7.holds Tryd.pinned (.plain (OpenSpec.ofChange pageShowsSpec)) pageShowsCard

/-- THE TIED CARD OF 'redraftlaw19.PageExact'. -/
def pageExactCard : Claim7 := { stood := { row := pageExactRow, standIns := [], harness := (true, "c645d79bab4797446dcddd115b0dbfd4640463c80c5cbc03022a7925bd122b48"), looks := false }, kinds := [], alts := [], laidByText := true, laidKinds := [.data, .data, .funcs, .widerDeep, .widerDeep, .funcs, .pinned], laidTests := true, laidLooks := .later }
def PageExactCardSaid : Prop := Claim7.holds Tryd.pinned (.plain (OpenSpec.ofChange pageExactSpec)) pageExactCard

/-- THE SECOND FORM's CARD OF 'redraftlaw27.DeltaShortest'. -/
def deltaShortestUptoCard : Claim7 := { stood := { row := deltaShortestUptoRow, standIns := [], harness := (true, "c645d79bab4797446dcddd115b0dbfd4640463c80c5cbc03022a7925bd122b48"), looks := false }, kinds := [], alts := [], laidByText := true, laidKinds := [.data], laidTests := true, laidLooks := .later }
def DeltaShortestUptoCardSaid : Prop := Claim7.holds Tryd.pinned (.plain (OpenSpec.upto deltaShortestSpec)) deltaShortestUptoCard

/-- THE SECOND FORM's CARD OF 'redraftlaw27.DeltaMeets'. -/
def deltaMeetsUptoCard : Claim7 := { stood := { row := deltaMeetsUptoRow, standIns := [], harness := (true, "c645d79bab4797446dcddd115b0dbfd4640463c80c5cbc03022a7925bd122b48"), looks := false }, kinds := [], alts := [], laidByText := true, laidKinds := [.data, .data, .pinned], laidTests := true, laidLooks := .later }
def DeltaMeetsUptoCardSaid : Prop := Claim7.holds Tryd.pinned (.plain (OpenSpec.upto deltaMeetsSpec)) deltaMeetsUptoCard

/-- THE SECOND FORM's CARD OF 'redraftlaw27.DeltaNames'. -/
def deltaNamesUptoCard : Claim7 := { stood := { row := deltaNamesUptoRow, standIns := [], harness := (true, "c645d79bab4797446dcddd115b0dbfd4640463c80c5cbc03022a7925bd122b48"), looks := false }, kinds := [], alts := [], laidByText := true, laidKinds := [.data, .data, .pinned], laidTests := true, laidLooks := .later }
def DeltaNamesUptoCardSaid : Prop := Claim7.holds Tryd.pinned (.plain (OpenSpec.upto deltaNamesSpec)) deltaNamesUptoCard

/-- THE SECOND FORM's CARD OF 'redraftlaw19.PageShows'. -/
def pageShowsUptoCard : Claim7 := { stood := { row := pageShowsUptoRow, standIns := [], harness := (true, "c645d79bab4797446dcddd115b0dbfd4640463c80c5cbc03022a7925bd122b48"), looks := false }, kinds := [], alts := [], laidByText := true, laidKinds := [.data, .data, .widerDeep, .widerDeep, .pinned], laidTests := true, laidLooks := .later }
def PageShowsUptoCardSaid : Prop := Claim7.holds Tryd.pinned (.plain (OpenSpec.upto pageShowsSpec)) pageShowsUptoCard

/-- THE SECOND FORM's CARD OF 'redraftlaw19.PageExact'. -/
def pageExactUptoCard : Claim7 := { stood := { row := pageExactUptoRow, standIns := [], harness := (true, "c645d79bab4797446dcddd115b0dbfd4640463c80c5cbc03022a7925bd122b48"), looks := false }, kinds := [], alts := [], laidByText := true, laidKinds := [.data, .data, .funcs, .widerDeep, .widerDeep, .funcs, .pinned], laidTests := true, laidLooks := .later }
def PageExactUptoCardSaid : Prop := Claim7.holds Tryd.pinned (.plain (OpenSpec.upto pageExactSpec)) pageExactUptoCard
end Rows
end Go.Proofs.YtkidcleffllhbaaDoor
