/-
  DERIVED. GIVEN WITH THE SEED: THE CARDS: each row of YtfgekdefnbohbaaDoorRows.lean that lists a variable, with what it lists TIED to the program's text (the seventh form; the later family's looks); each row that meets fmt, with fmt's text TOLD by the authors' own Lean function (tested against real Go, not proved from fmt's source: count such statements apart). THE CARD IS WHAT COUNTS. Prove the row's statement (the work); the ties are given (YtfgekdefnbohbaaDoorTie.lean); close each card by the builder's one call (the guide's Derived/Test/ToyasCard.lean, 'card_holds'). Laid BY PROGRAM, IN A SANDBOX (cutbox-door.mjs). By AI agents, Wed Nov 11 2026. No macro, syntax, notation, axiom, sorry.
-/
import Derived.Test.YtfgekdefnbohbaaDoorRows
import GoSem.ClaimSeven
namespace Go.Proofs.YtfgekdefnbohbaaDoor
namespace Rows

/-- THE TIED CARD OF 'redraftlaw01.UtextOtherForms'. -/
def utextOtherFormsCard : Claim7 := { stood := { row := utextOtherFormsRow, standIns := [], harness := (true, "b28a2caeb7d3095acd5cc060f998d01decfb38ef08ec9eb94ddf8cfdc70b6a62"), looks := true }, kinds := [], alts := [], laidByText := true, laidKinds := [.data, .data, .data, .sentinel, .sentinel], laidTests := true, laidLooks := .later }
def UtextOtherFormsCardSaid : Prop := Claim7.holds Tryd.pinned (.plain (OpenSpec.ofChange utextOtherFormsSpec)) utextOtherFormsCard

/-- THE TIED CARD OF 'redraftlaw01.UtextOneForm'. -/
def utextOneFormCard : Claim7 := { stood := { row := utextOneFormRow, standIns := [], harness := (true, "b28a2caeb7d3095acd5cc060f998d01decfb38ef08ec9eb94ddf8cfdc70b6a62"), looks := true }, kinds := [], alts := [], laidByText := true, laidKinds := [.data, .data, .data, .sentinel, .sentinel, .data], laidTests := true, laidLooks := .later }
def UtextOneFormCardSaid : Prop := Claim7.holds Tryd.pinned (.plain (OpenSpec.ofChange utextOneFormSpec)) utextOneFormCard

/-- THE TIED CARD OF 'redraftlaw01.UtextGivesBack'. -/
def utextGivesBackCard : Claim7 := { stood := { row := utextGivesBackRow, standIns := [], harness := (true, "b28a2caeb7d3095acd5cc060f998d01decfb38ef08ec9eb94ddf8cfdc70b6a62"), looks := true }, kinds := [], alts := [], laidByText := true, laidKinds := [.data, .data, .data, .sentinel, .sentinel, .data], laidTests := true, laidLooks := .later }
def UtextGivesBackCardSaid : Prop := Claim7.holds Tryd.pinned (.plain (OpenSpec.ofChange utextGivesBackSpec)) utextGivesBackCard

/-- THE TIED CARD OF 'redraftlaw01.UtextChecks'. -/
def utextChecksCard : Claim7 := { stood := { row := utextChecksRow, standIns := [], harness := (true, "b28a2caeb7d3095acd5cc060f998d01decfb38ef08ec9eb94ddf8cfdc70b6a62"), looks := true }, kinds := [], alts := [], laidByText := true, laidKinds := [.data, .data, .data, .sentinel, .sentinel, .data, .funcs], laidTests := true, laidLooks := .later }
def UtextChecksCardSaid : Prop := Claim7.holds Tryd.pinned (.plain (OpenSpec.ofChange utextChecksSpec)) utextChecksCard

/-- THE TIED CARD OF 'redraftlaw01.UtextPlaces'. -/
def utextPlacesCard : Claim7 := { stood := { row := utextPlacesRow, standIns := [], harness := (true, "b28a2caeb7d3095acd5cc060f998d01decfb38ef08ec9eb94ddf8cfdc70b6a62"), looks := true }, kinds := [], alts := [], laidByText := true, laidKinds := [.data, .data, .data, .sentinel, .sentinel, .data, .funcs], laidTests := true, laidLooks := .later }
def UtextPlacesCardSaid : Prop := Claim7.holds Tryd.pinned (.plain (OpenSpec.ofChange utextPlacesSpec)) utextPlacesCard

/-- THE TIED CARD OF 'redraftlaw01.UtextSplices'. -/
def utextSplicesCard : Claim7 := { stood := { row := utextSplicesRow, standIns := [], harness := (true, "b28a2caeb7d3095acd5cc060f998d01decfb38ef08ec9eb94ddf8cfdc70b6a62"), looks := true }, kinds := [], alts := [], laidByText := true, laidKinds := [.data, .data, .data, .sentinel, .sentinel, .data, .funcs], laidTests := true, laidLooks := .later }
def UtextSplicesCardSaid : Prop := Claim7.holds Tryd.pinned (.plain (OpenSpec.ofChange utextSplicesSpec)) utextSplicesCard

/-- THE TIED CARD OF 'redraftlaw01.UtextQuotes'. -/
def utextQuotesCard : Claim7 := { stood := { row := utextQuotesRow, standIns := [], harness := (true, "b28a2caeb7d3095acd5cc060f998d01decfb38ef08ec9eb94ddf8cfdc70b6a62"), looks := true }, kinds := [], alts := [], laidByText := true, laidKinds := [.data, .data, .data, .sentinel, .sentinel, .data, .funcs], laidTests := true, laidLooks := .later }
def UtextQuotesCardSaid : Prop := Claim7.holds Tryd.pinned (.plain (OpenSpec.ofChange utextQuotesSpec)) utextQuotesCard

/-- THE TIED CARD OF 'redraftlaw01.UtextWalks'. -/
def utextWalksCard : Claim7 := { stood := { row := utextWalksRow, standIns := [], harness := (true, "b28a2caeb7d3095acd5cc060f998d01decfb38ef08ec9eb94ddf8cfdc70b6a62"), looks := true }, kinds := [], alts := [], laidByText := true, laidKinds := [.data, .data, .data, .sentinel, .sentinel, .data, .funcs], laidTests := true, laidLooks := .later }
def UtextWalksCardSaid : Prop := Claim7.holds Tryd.pinned (.plain (OpenSpec.ofChange utextWalksSpec)) utextWalksCard

/-- THE TIED CARD OF 'redraftlaw01.UtextAll'. -/
def utextAllCard : Claim7 := { stood := { row := utextAllRow, standIns := [], harness := (true, "b28a2caeb7d3095acd5cc060f998d01decfb38ef08ec9eb94ddf8cfdc70b6a62"), looks := true }, kinds := [], alts := [], laidByText := true, laidKinds := [.data, .data, .data, .sentinel, .sentinel, .data, .funcs], laidTests := true, laidLooks := .later }
def UtextAllCardSaid : Prop := Claim7.holds Tryd.pinned (.plain (OpenSpec.ofChange utextAllSpec)) utextAllCard

/-- THE SECOND FORM's CARD OF 'redraftlaw01.UtextOtherForms'. -/
def utextOtherFormsUptoCard : Claim7 := { stood := { row := utextOtherFormsUptoRow, standIns := [], harness := (true, "b28a2caeb7d3095acd5cc060f998d01decfb38ef08ec9eb94ddf8cfdc70b6a62"), looks := true }, kinds := [], alts := [], laidByText := true, laidKinds := [.data, .data, .data, .sentinel, .sentinel], laidTests := true, laidLooks := .later }
def UtextOtherFormsUptoCardSaid : Prop := Claim7.holds Tryd.pinned (.plain (OpenSpec.upto utextOtherFormsSpec)) utextOtherFormsUptoCard

/-- THE SECOND FORM's CARD OF 'redraftlaw01.UtextOneForm'. -/
def utextOneFormUptoCard : Claim7 := { stood := { row := utextOneFormUptoRow, standIns := [], harness := (true, "b28a2caeb7d3095acd5cc060f998d01decfb38ef08ec9eb94ddf8cfdc70b6a62"), looks := true }, kinds := [], alts := [], laidByText := true, laidKinds := [.data, .data, .data, .sentinel, .sentinel, .data], laidTests := true, laidLooks := .later }
def UtextOneFormUptoCardSaid : Prop := Claim7.holds Tryd.pinned (.plain (OpenSpec.upto utextOneFormSpec)) utextOneFormUptoCard

/-- THE SECOND FORM's CARD OF 'redraftlaw01.UtextGivesBack'. -/
def utextGivesBackUptoCard : Claim7 := { stood := { row := utextGivesBackUptoRow, standIns := [], harness := (true, "b28a2caeb7d3095acd5cc060f998d01decfb38ef08ec9eb94ddf8cfdc70b6a62"), looks := true }, kinds := [], alts := [], laidByText := true, laidKinds := [.data, .data, .data, .sentinel, .sentinel, .data], laidTests := true, laidLooks := .later }
def UtextGivesBackUptoCardSaid : Prop := Claim7.holds Tryd.pinned (.plain (OpenSpec.upto utextGivesBackSpec)) utextGivesBackUptoCard

/-- THE SECOND FORM's CARD OF 'redraftlaw01.UtextChecks'. -/
def utextChecksUptoCard : Claim7 := { stood := { row := utextChecksUptoRow, standIns := [], harness := (true, "b28a2caeb7d3095acd5cc060f998d01decfb38ef08ec9eb94ddf8cfdc70b6a62"), looks := true }, kinds := [], alts := [], laidByText := true, laidKinds := [.data, .data, .data, .sentinel, .sentinel, .data, .funcs], laidTests := true, laidLooks := .later }
def UtextChecksUptoCardSaid : Prop := Claim7.holds Tryd.pinned (.plain (OpenSpec.upto utextChecksSpec)) utextChecksUptoCard

/-- THE SECOND FORM's CARD OF 'redraftlaw01.UtextPlaces'. -/
def utextPlacesUptoCard : Claim7 := { stood := { row := utextPlacesUptoRow, standIns := [], harness := (true, "b28a2caeb7d3095acd5cc060f998d01decfb38ef08ec9eb94ddf8cfdc70b6a62"), looks := true }, kinds := [], alts := [], laidByText := true, laidKinds := [.data, .data, .data, .sentinel, .sentinel, .data, .funcs], laidTests := true, laidLooks := .later }
def UtextPlacesUptoCardSaid : Prop := Claim7.holds Tryd.pinned (.plain (OpenSpec.upto utextPlacesSpec)) utextPlacesUptoCard

/-- THE SECOND FORM's CARD OF 'redraftlaw01.UtextSplices'. -/
def utextSplicesUptoCard : Claim7 := { stood := { row := utextSplicesUptoRow, standIns := [], harness := (true, "b28a2caeb7d3095acd5cc060f998d01decfb38ef08ec9eb94ddf8cfdc70b6a62"), looks := true }, kinds := [], alts := [], laidByText := true, laidKinds := [.data, .data, .data, .sentinel, .sentinel, .data, .funcs], laidTests := true, laidLooks := .later }
def UtextSplicesUptoCardSaid : Prop := Claim7.holds Tryd.pinned (.plain (OpenSpec.upto utextSplicesSpec)) utextSplicesUptoCard

/-- THE SECOND FORM's CARD OF 'redraftlaw01.UtextQuotes'. -/
def utextQuotesUptoCard : Claim7 := { stood := { row := utextQuotesUptoRow, standIns := [], harness := (true, "b28a2caeb7d3095acd5cc060f998d01decfb38ef08ec9eb94ddf8cfdc70b6a62"), looks := true }, kinds := [], alts := [], laidByText := true, laidKinds := [.data, .data, .data, .sentinel, .sentinel, .data, .funcs], laidTests := true, laidLooks := .later }
def UtextQuotesUptoCardSaid : Prop := Claim7.holds Tryd.pinned (.plain (OpenSpec.upto utextQuotesSpec)) utextQuotesUptoCard

/-- THE SECOND FORM's CARD OF 'redraftlaw01.UtextWalks'. -/
def utextWalksUptoCard : Claim7 := { stood := { row := utextWalksUptoRow, standIns := [], harness := (true, "b28a2caeb7d3095acd5cc060f998d01decfb38ef08ec9eb94ddf8cfdc70b6a62"), looks := true }, kinds := [], alts := [], laidByText := true, laidKinds := [.data, .data, .data, .sentinel, .sentinel, .data, .funcs], laidTests := true, laidLooks := .later }
def UtextWalksUptoCardSaid : Prop := Claim7.holds Tryd.pinned (.plain (OpenSpec.upto utextWalksSpec)) utextWalksUptoCard

/-- THE SECOND FORM's CARD OF 'redraftlaw01.UtextAll'. -/
def utextAllUptoCard : Claim7 := { stood := { row := utextAllUptoRow, standIns := [], harness := (true, "b28a2caeb7d3095acd5cc060f998d01decfb38ef08ec9eb94ddf8cfdc70b6a62"), looks := true }, kinds := [], alts := [], laidByText := true, laidKinds := [.data, .data, .data, .sentinel, .sentinel, .data, .funcs], laidTests := true, laidLooks := .later }
def UtextAllUptoCardSaid : Prop := Claim7.holds Tryd.pinned (.plain (OpenSpec.upto utextAllSpec)) utextAllUptoCard
end Rows
end Go.Proofs.YtfgekdefnbohbaaDoor
