/-
  DERIVED. GIVEN WITH THE SEED: THE CARDS: each row of YtekibfhlkocdlaaDoorRows.lean that lists a variable, with what it lists TIED to the program's text (the seventh form; the later family's looks); each row that meets fmt, with fmt's text TOLD by the authors' own Lean function (tested against real Go, not proved from fmt's source: count such statements apart). THE CARD IS WHAT COUNTS. Prove the row's statement (the work); the ties are given (YtekibfhlkocdlaaDoorTie.lean); close each card by the builder's one call (the guide's Derived/Test/ToyasCard.lean, 'card_holds'). Laid BY PROGRAM, IN A SANDBOX (cutbox-door.mjs). By AI agents, Wed Nov 11 2026. No macro, syntax, notation, axiom, sorry.
-/
import Derived.Test.YtekibfhlkocdlaaDoorRows
import GoSem.ClaimSeven
namespace Go.Proofs.YtekibfhlkocdlaaDoor
namespace Rows

/-- THE TIED CARD OF 'redraftlaw01.UtextFirstFault'. -/
def utextFirstFaultCard : Claim7 := { stood := { row := utextFirstFaultRow, standIns := [], harness := (true, "f9eba3f3896765d550a3f2f471b8bde58516375131d9ae797d11a86101b2f860"), looks := true }, kinds := [], alts := [], laidByText := true, laidKinds := [.data], laidTests := true, laidLooks := .later }
def UtextFirstFaultCardSaid : Prop := Claim7.holds Tryd.pinned (.plain (OpenSpec.ofChange utextFirstFaultSpec)) utextFirstFaultCard

/-- THE TIED CARD OF 'redraftlaw01.UtextLetsIn'. -/
def utextLetsInCard : Claim7 := { stood := { row := utextLetsInRow, standIns := [], harness := (true, "f9eba3f3896765d550a3f2f471b8bde58516375131d9ae797d11a86101b2f860"), looks := true }, kinds := [], alts := [], laidByText := true, laidKinds := [.data], laidTests := true, laidLooks := .later }
def UtextLetsInCardSaid : Prop := Claim7.holds Tryd.pinned (.plain (OpenSpec.ofChange utextLetsInSpec)) utextLetsInCard

/-- THE TIED CARD OF 'redraftlaw01.UtextShortest'. -/
def utextShortestCard : Claim7 := { stood := { row := utextShortestRow, standIns := [], harness := (true, "f9eba3f3896765d550a3f2f471b8bde58516375131d9ae797d11a86101b2f860"), looks := true }, kinds := [], alts := [], laidByText := true, laidKinds := [.data], laidTests := true, laidLooks := .later }
def UtextShortestCardSaid : Prop := Claim7.holds Tryd.pinned (.plain (OpenSpec.ofChange utextShortestSpec)) utextShortestCard

/-- THE TIED CARD OF 'redraftlaw01.UtextPlacesMeet'. -/
def utextPlacesMeetCard : Claim7 := { stood := { row := utextPlacesMeetRow, standIns := [], harness := (true, "f9eba3f3896765d550a3f2f471b8bde58516375131d9ae797d11a86101b2f860"), looks := true }, kinds := [], alts := [], laidByText := true, laidKinds := [.data], laidTests := true, laidLooks := .later }
def UtextPlacesMeetCardSaid : Prop := Claim7.holds Tryd.pinned (.plain (OpenSpec.ofChange utextPlacesMeetSpec)) utextPlacesMeetCard

/-- THE TIED CARD OF 'redraftlaw01.UtextLinesBack'. -/
def utextLinesBackCard : Claim7 := { stood := { row := utextLinesBackRow, standIns := [], harness := (true, "f9eba3f3896765d550a3f2f471b8bde58516375131d9ae797d11a86101b2f860"), looks := true }, kinds := [], alts := [], laidByText := true, laidKinds := [.data], laidTests := true, laidLooks := .later }
def UtextLinesBackCardSaid : Prop := Claim7.holds Tryd.pinned (.plain (OpenSpec.ofChange utextLinesBackSpec)) utextLinesBackCard

/-- THE TIED CARD OF 'redraftlaw01.UtextGoes'. -/
def utextGoesCard : Claim7 := { stood := { row := utextGoesRow, standIns := [], harness := (true, "f9eba3f3896765d550a3f2f471b8bde58516375131d9ae797d11a86101b2f860"), looks := true }, kinds := [], alts := [], laidByText := true, laidKinds := [.data, .funcs], laidTests := true, laidLooks := .later }
def UtextGoesCardSaid : Prop := Claim7.holds Tryd.pinned (.plain (OpenSpec.ofChange utextGoesSpec)) utextGoesCard

/-- THE TIED CARD OF 'redraftlaw01.UtextWords'. -/
def utextWordsCard : Claim7 := { stood := { row := utextWordsRow, standIns := [], harness := (true, "f9eba3f3896765d550a3f2f471b8bde58516375131d9ae797d11a86101b2f860"), looks := true }, kinds := [], alts := [], laidByText := true, laidKinds := [.data, .funcs], laidTests := true, laidLooks := .later }
def UtextWordsCardSaid : Prop := Claim7.holds Tryd.pinned (.plain (OpenSpec.ofChange utextWordsSpec)) utextWordsCard

/-- THE TIED CARD OF 'redraftlaw01.UtextNames'. -/
def utextNamesCard : Claim7 := { stood := { row := utextNamesRow, standIns := [], harness := (true, "f9eba3f3896765d550a3f2f471b8bde58516375131d9ae797d11a86101b2f860"), looks := true }, kinds := [], alts := [], laidByText := true, laidKinds := [.data, .data, .data, .data], laidTests := true, laidLooks := .later }
def UtextNamesCardSaid : Prop := Claim7.holds Tryd.pinned (.plain (OpenSpec.ofChange utextNamesSpec)) utextNamesCard

/-- THE TIED CARD OF 'redraftlaw01.UtextOtherForms'. -/
def utextOtherFormsCard : Claim7 := { stood := { row := utextOtherFormsRow, standIns := [], harness := (true, "f9eba3f3896765d550a3f2f471b8bde58516375131d9ae797d11a86101b2f860"), looks := true }, kinds := [], alts := [], laidByText := true, laidKinds := [.data, .data, .data, .sentinel, .sentinel], laidTests := true, laidLooks := .later }
def UtextOtherFormsCardSaid : Prop := Claim7.holds Tryd.pinned (.plain (OpenSpec.ofChange utextOtherFormsSpec)) utextOtherFormsCard

/-- THE TIED CARD OF 'redraftlaw01.UtextOneForm'. -/
def utextOneFormCard : Claim7 := { stood := { row := utextOneFormRow, standIns := [], harness := (true, "f9eba3f3896765d550a3f2f471b8bde58516375131d9ae797d11a86101b2f860"), looks := true }, kinds := [], alts := [], laidByText := true, laidKinds := [.data, .data, .data, .sentinel, .sentinel, .data], laidTests := true, laidLooks := .later }
def UtextOneFormCardSaid : Prop := Claim7.holds Tryd.pinned (.plain (OpenSpec.ofChange utextOneFormSpec)) utextOneFormCard

/-- THE TIED CARD OF 'redraftlaw01.UtextGivesBack'. -/
def utextGivesBackCard : Claim7 := { stood := { row := utextGivesBackRow, standIns := [], harness := (true, "f9eba3f3896765d550a3f2f471b8bde58516375131d9ae797d11a86101b2f860"), looks := true }, kinds := [], alts := [], laidByText := true, laidKinds := [.data, .data, .data, .sentinel, .sentinel, .data], laidTests := true, laidLooks := .later }
def UtextGivesBackCardSaid : Prop := Claim7.holds Tryd.pinned (.plain (OpenSpec.ofChange utextGivesBackSpec)) utextGivesBackCard

/-- THE SECOND FORM's CARD OF 'redraftlaw01.UtextFirstFault'. -/
def utextFirstFaultUptoCard : Claim7 := { stood := { row := utextFirstFaultUptoRow, standIns := [], harness := (true, "f9eba3f3896765d550a3f2f471b8bde58516375131d9ae797d11a86101b2f860"), looks := true }, kinds := [], alts := [], laidByText := true, laidKinds := [.data], laidTests := true, laidLooks := .later }
def UtextFirstFaultUptoCardSaid : Prop := Claim7.holds Tryd.pinned (.plain (OpenSpec.upto utextFirstFaultSpec)) utextFirstFaultUptoCard

/-- THE SECOND FORM's CARD OF 'redraftlaw01.UtextLetsIn'. -/
def utextLetsInUptoCard : Claim7 := { stood := { row := utextLetsInUptoRow, standIns := [], harness := (true, "f9eba3f3896765d550a3f2f471b8bde58516375131d9ae797d11a86101b2f860"), looks := true }, kinds := [], alts := [], laidByText := true, laidKinds := [.data], laidTests := true, laidLooks := .later }
def UtextLetsInUptoCardSaid : Prop := Claim7.holds Tryd.pinned (.plain (OpenSpec.upto utextLetsInSpec)) utextLetsInUptoCard

/-- THE SECOND FORM's CARD OF 'redraftlaw01.UtextShortest'. -/
def utextShortestUptoCard : Claim7 := { stood := { row := utextShortestUptoRow, standIns := [], harness := (true, "f9eba3f3896765d550a3f2f471b8bde58516375131d9ae797d11a86101b2f860"), looks := true }, kinds := [], alts := [], laidByText := true, laidKinds := [.data], laidTests := true, laidLooks := .later }
def UtextShortestUptoCardSaid : Prop := Claim7.holds Tryd.pinned (.plain (OpenSpec.upto utextShortestSpec)) utextShortestUptoCard

/-- THE SECOND FORM's CARD OF 'redraftlaw01.UtextPlacesMeet'. -/
def utextPlacesMeetUptoCard : Claim7 := { stood := { row := utextPlacesMeetUptoRow, standIns := [], harness := (true, "f9eba3f3896765d550a3f2f471b8bde58516375131d9ae797d11a86101b2f860"), looks := true }, kinds := [], alts := [], laidByText := true, laidKinds := [.data], laidTests := true, laidLooks := .later }
def UtextPlacesMeetUptoCardSaid : Prop := Claim7.holds Tryd.pinned (.plain (OpenSpec.upto utextPlacesMeetSpec)) utextPlacesMeetUptoCard

/-- THE SECOND FORM's CARD OF 'redraftlaw01.UtextLinesBack'. -/
def utextLinesBackUptoCard : Claim7 := { stood := { row := utextLinesBackUptoRow, standIns := [], harness := (true, "f9eba3f3896765d550a3f2f471b8bde58516375131d9ae797d11a86101b2f860"), looks := true }, kinds := [], alts := [], laidByText := true, laidKinds := [.data], laidTests := true, laidLooks := .later }
def UtextLinesBackUptoCardSaid : Prop := Claim7.holds Tryd.pinned (.plain (OpenSpec.upto utextLinesBackSpec)) utextLinesBackUptoCard

/-- THE SECOND FORM's CARD OF 'redraftlaw01.UtextGoes'. -/
def utextGoesUptoCard : Claim7 := { stood := { row := utextGoesUptoRow, standIns := [], harness := (true, "f9eba3f3896765d550a3f2f471b8bde58516375131d9ae797d11a86101b2f860"), looks := true }, kinds := [], alts := [], laidByText := true, laidKinds := [.data, .funcs], laidTests := true, laidLooks := .later }
def UtextGoesUptoCardSaid : Prop := Claim7.holds Tryd.pinned (.plain (OpenSpec.upto utextGoesSpec)) utextGoesUptoCard

/-- THE SECOND FORM's CARD OF 'redraftlaw01.UtextWords'. -/
def utextWordsUptoCard : Claim7 := { stood := { row := utextWordsUptoRow, standIns := [], harness := (true, "f9eba3f3896765d550a3f2f471b8bde58516375131d9ae797d11a86101b2f860"), looks := true }, kinds := [], alts := [], laidByText := true, laidKinds := [.data, .funcs], laidTests := true, laidLooks := .later }
def UtextWordsUptoCardSaid : Prop := Claim7.holds Tryd.pinned (.plain (OpenSpec.upto utextWordsSpec)) utextWordsUptoCard

/-- THE SECOND FORM's CARD OF 'redraftlaw01.UtextNames'. -/
def utextNamesUptoCard : Claim7 := { stood := { row := utextNamesUptoRow, standIns := [], harness := (true, "f9eba3f3896765d550a3f2f471b8bde58516375131d9ae797d11a86101b2f860"), looks := true }, kinds := [], alts := [], laidByText := true, laidKinds := [.data, .data, .data, .data], laidTests := true, laidLooks := .later }
def UtextNamesUptoCardSaid : Prop := Claim7.holds Tryd.pinned (.plain (OpenSpec.upto utextNamesSpec)) utextNamesUptoCard

/-- THE SECOND FORM's CARD OF 'redraftlaw01.UtextOtherForms'. -/
def utextOtherFormsUptoCard : Claim7 := { stood := { row := utextOtherFormsUptoRow, standIns := [], harness := (true, "f9eba3f3896765d550a3f2f471b8bde58516375131d9ae797d11a86101b2f860"), looks := true }, kinds := [], alts := [], laidByText := true, laidKinds := [.data, .data, .data, .sentinel, .sentinel], laidTests := true, laidLooks := .later }
def UtextOtherFormsUptoCardSaid : Prop := Claim7.holds Tryd.pinned (.plain (OpenSpec.upto utextOtherFormsSpec)) utextOtherFormsUptoCard

/-- THE SECOND FORM's CARD OF 'redraftlaw01.UtextOneForm'. -/
def utextOneFormUptoCard : Claim7 := { stood := { row := utextOneFormUptoRow, standIns := [], harness := (true, "f9eba3f3896765d550a3f2f471b8bde58516375131d9ae797d11a86101b2f860"), looks := true }, kinds := [], alts := [], laidByText := true, laidKinds := [.data, .data, .data, .sentinel, .sentinel, .data], laidTests := true, laidLooks := .later }
def UtextOneFormUptoCardSaid : Prop := Claim7.holds Tryd.pinned (.plain (OpenSpec.upto utextOneFormSpec)) utextOneFormUptoCard

/-- THE SECOND FORM's CARD OF 'redraftlaw01.UtextGivesBack'. -/
def utextGivesBackUptoCard : Claim7 := { stood := { row := utextGivesBackUptoRow, standIns := [], harness := (true, "f9eba3f3896765d550a3f2f471b8bde58516375131d9ae797d11a86101b2f860"), looks := true }, kinds := [], alts := [], laidByText := true, laidKinds := [.data, .data, .data, .sentinel, .sentinel, .data], laidTests := true, laidLooks := .later }
def UtextGivesBackUptoCardSaid : Prop := Claim7.holds Tryd.pinned (.plain (OpenSpec.upto utextGivesBackSpec)) utextGivesBackUptoCard
end Rows
end Go.Proofs.YtekibfhlkocdlaaDoor
