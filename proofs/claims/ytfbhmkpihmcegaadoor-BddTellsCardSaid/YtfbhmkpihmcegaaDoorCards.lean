/-
  DERIVED. GIVEN WITH THE SEED: THE CARDS: each row of YtfbhmkpihmcegaaDoorRows.lean that lists a variable, with what it lists TIED to the program's text (the seventh form; the later family's looks); each row that meets fmt, with fmt's text TOLD by the authors' own Lean function (tested against real Go, not proved from fmt's source: count such statements apart). THE CARD IS WHAT COUNTS. Prove the row's statement (the work); the ties are given (YtfbhmkpihmcegaaDoorTie.lean); close each card by the builder's one call (the guide's Derived/Test/ToyasCard.lean, 'card_holds'). Laid BY PROGRAM, IN A SANDBOX (cutbox-door.mjs). By AI agents, Wed Nov 11 2026. No macro, syntax, notation, axiom, sorry.
-/
import Derived.Test.YtfbhmkpihmcegaaDoorRows
import GoSem.ClaimSeven
namespace Go.Proofs.YtfbhmkpihmcegaaDoor
namespace Rows

/-- THE TIED CARD OF 'solspacelaw.ArenaPlays'. -/
def arenaPlaysCard : Claim7 := { stood := { row := arenaPlaysRow, standIns := [], harness := (true, "578279743b0639198aacf842a8cd4a9539d91bfb1c797932b687bac7b8f495bc"), looks := true }, kinds := [], alts := [], laidByText := true, laidKinds := [.handle], laidTests := true, laidLooks := .later }
def ArenaPlaysCardSaid : Prop := Claim7.holds Tryd.pinned (.plain (OpenSpec.ofChange arenaPlaysSpec)) arenaPlaysCard

/-- THE TIED CARD OF 'solspacelaw.BddErrors'. -/
def bddErrorsCard : Claim7 := { stood := { row := bddErrorsRow, standIns := [], harness := (true, "578279743b0639198aacf842a8cd4a9539d91bfb1c797932b687bac7b8f495bc"), looks := true }, kinds := [], alts := [], laidByText := true, laidKinds := [.handle], laidTests := true, laidLooks := .later }
def BddErrorsCardSaid : Prop := Claim7.holds Tryd.pinned (.plain (OpenSpec.ofChange bddErrorsSpec)) bddErrorsCard

/-- THE TIED CARD OF 'solspacelaw.BddKths'. -/
def bddKthsCard : Claim7 := { stood := { row := bddKthsRow, standIns := [], harness := (true, "578279743b0639198aacf842a8cd4a9539d91bfb1c797932b687bac7b8f495bc"), looks := true }, kinds := [], alts := [], laidByText := true, laidKinds := [.handle], laidTests := true, laidLooks := .later }
def BddKthsCardSaid : Prop := Claim7.holds Tryd.pinned (.plain (OpenSpec.ofChange bddKthsSpec)) bddKthsCard

/-- THE TIED CARD OF 'solspacelaw.FamilyErrors'. -/
def familyErrorsCard : Claim7 := { stood := { row := familyErrorsRow, standIns := [], harness := (true, "578279743b0639198aacf842a8cd4a9539d91bfb1c797932b687bac7b8f495bc"), looks := true }, kinds := [], alts := [], laidByText := true, laidKinds := [.handle], laidTests := true, laidLooks := .later }
def FamilyErrorsCardSaid : Prop := Claim7.holds Tryd.pinned (.plain (OpenSpec.ofChange familyErrorsSpec)) familyErrorsCard

/-- THE TIED CARD OF 'solspacelaw.BddTells'. -/
def bddTellsCard : Claim7 := { stood := { row := bddTellsRow, standIns := [], harness := (true, "578279743b0639198aacf842a8cd4a9539d91bfb1c797932b687bac7b8f495bc"), looks := true }, kinds := [], alts := [], laidByText := true, laidKinds := [.data, .data, .data], laidTests := true, laidLooks := .later }
def BddTellsCardSaid : Prop := Claim7.holds Tryd.pinned (.plain (OpenSpec.ofChange bddTellsSpec)) bddTellsCard

/-- THE SECOND FORM's CARD OF 'solspacelaw.ArenaPlays'. -/
def arenaPlaysUptoCard : Claim7 := { stood := { row := arenaPlaysUptoRow, standIns := [], harness := (true, "578279743b0639198aacf842a8cd4a9539d91bfb1c797932b687bac7b8f495bc"), looks := true }, kinds := [], alts := [], laidByText := true, laidKinds := [.handle], laidTests := true, laidLooks := .later }
def ArenaPlaysUptoCardSaid : Prop := Claim7.holds Tryd.pinned (.plain (OpenSpec.upto arenaPlaysSpec)) arenaPlaysUptoCard

/-- THE SECOND FORM's CARD OF 'solspacelaw.BddErrors'. -/
def bddErrorsUptoCard : Claim7 := { stood := { row := bddErrorsUptoRow, standIns := [], harness := (true, "578279743b0639198aacf842a8cd4a9539d91bfb1c797932b687bac7b8f495bc"), looks := true }, kinds := [], alts := [], laidByText := true, laidKinds := [.handle], laidTests := true, laidLooks := .later }
def BddErrorsUptoCardSaid : Prop := Claim7.holds Tryd.pinned (.plain (OpenSpec.upto bddErrorsSpec)) bddErrorsUptoCard

/-- THE SECOND FORM's CARD OF 'solspacelaw.BddKths'. -/
def bddKthsUptoCard : Claim7 := { stood := { row := bddKthsUptoRow, standIns := [], harness := (true, "578279743b0639198aacf842a8cd4a9539d91bfb1c797932b687bac7b8f495bc"), looks := true }, kinds := [], alts := [], laidByText := true, laidKinds := [.handle], laidTests := true, laidLooks := .later }
def BddKthsUptoCardSaid : Prop := Claim7.holds Tryd.pinned (.plain (OpenSpec.upto bddKthsSpec)) bddKthsUptoCard

/-- THE SECOND FORM's CARD OF 'solspacelaw.FamilyErrors'. -/
def familyErrorsUptoCard : Claim7 := { stood := { row := familyErrorsUptoRow, standIns := [], harness := (true, "578279743b0639198aacf842a8cd4a9539d91bfb1c797932b687bac7b8f495bc"), looks := true }, kinds := [], alts := [], laidByText := true, laidKinds := [.handle], laidTests := true, laidLooks := .later }
def FamilyErrorsUptoCardSaid : Prop := Claim7.holds Tryd.pinned (.plain (OpenSpec.upto familyErrorsSpec)) familyErrorsUptoCard

/-- THE SECOND FORM's CARD OF 'solspacelaw.BddTells'. -/
def bddTellsUptoCard : Claim7 := { stood := { row := bddTellsUptoRow, standIns := [], harness := (true, "578279743b0639198aacf842a8cd4a9539d91bfb1c797932b687bac7b8f495bc"), looks := true }, kinds := [], alts := [], laidByText := true, laidKinds := [.data, .data, .data], laidTests := true, laidLooks := .later }
def BddTellsUptoCardSaid : Prop := Claim7.holds Tryd.pinned (.plain (OpenSpec.upto bddTellsSpec)) bddTellsUptoCard
end Rows
end Go.Proofs.YtfbhmkpihmcegaaDoor
