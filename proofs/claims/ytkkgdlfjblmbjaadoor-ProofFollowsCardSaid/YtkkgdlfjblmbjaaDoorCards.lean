/-
  DERIVED. GIVEN WITH THE SEED: THE CARDS: each row of YtkkgdlfjblmbjaaDoorRows.lean that lists a variable, with what it lists TIED to the program's text (the seventh form; the later family's looks); each row that meets fmt, with fmt's text TOLD by the authors' own Lean function (tested against real Go, not proved from fmt's source: count such statements apart). THE CARD IS WHAT COUNTS. Prove the row's statement (the work); the ties are given (YtkkgdlfjblmbjaaDoorTie.lean); close each card by the builder's one call (the guide's Derived/Test/ToyasCard.lean, 'card_holds'). Laid BY PROGRAM, IN A SANDBOX (cutbox-door.mjs). By AI agents, Wed Nov 11 2026. No macro, syntax, notation, axiom, sorry.
-/
import Derived.Test.YtkkgdlfjblmbjaaDoorRows
import GoSem.ClaimSeven
namespace Go.Proofs.YtkkgdlfjblmbjaaDoor
namespace Rows

/-- THE TIED CARD OF 'solspacelaw.ClauseHolds'. -/
def clauseHoldsCard : Claim7 := { stood := { row := clauseHoldsRow, standIns := [], harness := (true, "007051e77640a9d3ba5263e9e351e4d329ad9383802847ef79fa87de647d244e"), looks := true }, kinds := [], alts := [], laidByText := true, laidKinds := [.handle, .data], laidTests := true, laidLooks := .later }
def ClauseHoldsCardSaid : Prop := Claim7.holds Tryd.pinned (.plain (OpenSpec.ofChange clauseHoldsSpec)) clauseHoldsCard

/-- THE TIED CARD OF 'solspacelaw.ClauseFollows'. -/
def clauseFollowsCard : Claim7 := { stood := { row := clauseFollowsRow, standIns := [], harness := (true, "007051e77640a9d3ba5263e9e351e4d329ad9383802847ef79fa87de647d244e"), looks := true }, kinds := [], alts := [], laidByText := true, laidKinds := [.handle, .data], laidTests := true, laidLooks := .later }
def ClauseFollowsCardSaid : Prop := Claim7.holds Tryd.pinned (.plain (OpenSpec.ofChange clauseFollowsSpec)) clauseFollowsCard

/-- THE TIED CARD OF 'solspacelaw.CatalogNames'. -/
def catalogNamesCard : Claim7 := { stood := { row := catalogNamesRow, standIns := [], harness := (true, "007051e77640a9d3ba5263e9e351e4d329ad9383802847ef79fa87de647d244e"), looks := true }, kinds := [], alts := [], laidByText := true, laidKinds := [.data, .pinned], laidTests := true, laidLooks := .later }
def CatalogNamesCardSaid : Prop := Claim7.holds Tryd.pinned (.plain (OpenSpec.ofChange catalogNamesSpec)) catalogNamesCard

/-- THE TIED CARD OF 'solspacelaw.ProofShows'. -/
def proofShowsCard : Claim7 := { stood := { row := proofShowsRow, standIns := [], harness := (true, "007051e77640a9d3ba5263e9e351e4d329ad9383802847ef79fa87de647d244e"), looks := true }, kinds := [], alts := [], laidByText := true, laidKinds := [.handle, .data], laidTests := true, laidLooks := .later }
def ProofShowsCardSaid : Prop := Claim7.holds Tryd.pinned (.plain (OpenSpec.ofChange proofShowsSpec)) proofShowsCard

/-- THE TIED CARD OF 'solspacelaw.ClauseSolves'. -/
def clauseSolvesCard : Claim7 := { stood := { row := clauseSolvesRow, standIns := [], harness := (true, "007051e77640a9d3ba5263e9e351e4d329ad9383802847ef79fa87de647d244e"), looks := true }, kinds := [], alts := [], laidByText := true, laidKinds := [.handle, .data], laidTests := true, laidLooks := .later }
def ClauseSolvesCardSaid : Prop := Claim7.holds Tryd.pinned (.plain (OpenSpec.ofChange clauseSolvesSpec)) clauseSolvesCard

/-- THE TIED CARD OF 'solspacelaw.ProofForms'. -/
def proofFormsCard : Claim7 := { stood := { row := proofFormsRow, standIns := [], harness := (true, "007051e77640a9d3ba5263e9e351e4d329ad9383802847ef79fa87de647d244e"), looks := true }, kinds := [], alts := [], laidByText := true, laidKinds := [.handle], laidTests := true, laidLooks := .later }
def ProofFormsCardSaid : Prop := Claim7.holds Tryd.pinned (.plain (OpenSpec.ofChange proofFormsSpec)) proofFormsCard

/-- THE TIED CARD OF 'solspacelaw.ProofFollows'. -/
def proofFollowsCard : Claim7 := { stood := { row := proofFollowsRow, standIns := [], harness := (true, "007051e77640a9d3ba5263e9e351e4d329ad9383802847ef79fa87de647d244e"), looks := true }, kinds := [], alts := [], laidByText := true, laidKinds := [.handle, .data], laidTests := true, laidLooks := .later }
def ProofFollowsCardSaid : Prop := Claim7.holds Tryd.pinned (.plain (OpenSpec.ofChange proofFollowsSpec)) proofFollowsCard

/-- THE SECOND FORM's CARD OF 'solspacelaw.ClauseHolds'. -/
def clauseHoldsUptoCard : Claim7 := { stood := { row := clauseHoldsUptoRow, standIns := [], harness := (true, "007051e77640a9d3ba5263e9e351e4d329ad9383802847ef79fa87de647d244e"), looks := true }, kinds := [], alts := [], laidByText := true, laidKinds := [.handle, .data], laidTests := true, laidLooks := .later }
def ClauseHoldsUptoCardSaid : Prop := Claim7.holds Tryd.pinned (.plain (OpenSpec.upto clauseHoldsSpec)) clauseHoldsUptoCard

/-- THE SECOND FORM's CARD OF 'solspacelaw.ClauseFollows'. -/
def clauseFollowsUptoCard : Claim7 := { stood := { row := clauseFollowsUptoRow, standIns := [], harness := (true, "007051e77640a9d3ba5263e9e351e4d329ad9383802847ef79fa87de647d244e"), looks := true }, kinds := [], alts := [], laidByText := true, laidKinds := [.handle, .data], laidTests := true, laidLooks := .later }
def ClauseFollowsUptoCardSaid : Prop := Claim7.holds Tryd.pinned (.plain (OpenSpec.upto clauseFollowsSpec)) clauseFollowsUptoCard

/-- THE SECOND FORM's CARD OF 'solspacelaw.CatalogNames'. -/
def catalogNamesUptoCard : Claim7 := { stood := { row := catalogNamesUptoRow, standIns := [], harness := (true, "007051e77640a9d3ba5263e9e351e4d329ad9383802847ef79fa87de647d244e"), looks := true }, kinds := [], alts := [], laidByText := true, laidKinds := [.data, .pinned], laidTests := true, laidLooks := .later }
def CatalogNamesUptoCardSaid : Prop := Claim7.holds Tryd.pinned (.plain (OpenSpec.upto catalogNamesSpec)) catalogNamesUptoCard

/-- THE SECOND FORM's CARD OF 'solspacelaw.ProofShows'. -/
def proofShowsUptoCard : Claim7 := { stood := { row := proofShowsUptoRow, standIns := [], harness := (true, "007051e77640a9d3ba5263e9e351e4d329ad9383802847ef79fa87de647d244e"), looks := true }, kinds := [], alts := [], laidByText := true, laidKinds := [.handle, .data], laidTests := true, laidLooks := .later }
def ProofShowsUptoCardSaid : Prop := Claim7.holds Tryd.pinned (.plain (OpenSpec.upto proofShowsSpec)) proofShowsUptoCard

/-- THE SECOND FORM's CARD OF 'solspacelaw.ClauseSolves'. -/
def clauseSolvesUptoCard : Claim7 := { stood := { row := clauseSolvesUptoRow, standIns := [], harness := (true, "007051e77640a9d3ba5263e9e351e4d329ad9383802847ef79fa87de647d244e"), looks := true }, kinds := [], alts := [], laidByText := true, laidKinds := [.handle, .data], laidTests := true, laidLooks := .later }
def ClauseSolvesUptoCardSaid : Prop := Claim7.holds Tryd.pinned (.plain (OpenSpec.upto clauseSolvesSpec)) clauseSolvesUptoCard

/-- THE SECOND FORM's CARD OF 'solspacelaw.ProofForms'. -/
def proofFormsUptoCard : Claim7 := { stood := { row := proofFormsUptoRow, standIns := [], harness := (true, "007051e77640a9d3ba5263e9e351e4d329ad9383802847ef79fa87de647d244e"), looks := true }, kinds := [], alts := [], laidByText := true, laidKinds := [.handle], laidTests := true, laidLooks := .later }
def ProofFormsUptoCardSaid : Prop := Claim7.holds Tryd.pinned (.plain (OpenSpec.upto proofFormsSpec)) proofFormsUptoCard

/-- THE SECOND FORM's CARD OF 'solspacelaw.ProofFollows'. -/
def proofFollowsUptoCard : Claim7 := { stood := { row := proofFollowsUptoRow, standIns := [], harness := (true, "007051e77640a9d3ba5263e9e351e4d329ad9383802847ef79fa87de647d244e"), looks := true }, kinds := [], alts := [], laidByText := true, laidKinds := [.handle, .data], laidTests := true, laidLooks := .later }
def ProofFollowsUptoCardSaid : Prop := Claim7.holds Tryd.pinned (.plain (OpenSpec.upto proofFollowsSpec)) proofFollowsUptoCard
end Rows
end Go.Proofs.YtkkgdlfjblmbjaaDoor
