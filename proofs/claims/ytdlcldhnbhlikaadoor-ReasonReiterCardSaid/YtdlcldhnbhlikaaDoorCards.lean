/-
  DERIVED. GIVEN WITH THE SEED: THE CARDS: each row of YtdlcldhnbhlikaaDoorRows.lean that lists a variable, with what it lists TIED to the program's text (the seventh form; the later family's looks); each row that meets fmt, with fmt's text TOLD by the authors' own Lean function (tested against real Go, not proved from fmt's source: count such statements apart). THE CARD IS WHAT COUNTS. Prove the row's statement (the work); the ties are given (YtdlcldhnbhlikaaDoorTie.lean); close each card by the builder's one call (the guide's Derived/Test/ToyasCard.lean, 'card_holds'). Laid BY PROGRAM, IN A SANDBOX (cutbox-door.mjs). By AI agents, Wed Nov 11 2026. No macro, syntax, notation, axiom, sorry.
-/
import Derived.Test.YtdlcldhnbhlikaaDoorRows
import GoSem.ClaimSeven
namespace Go.Proofs.YtdlcldhnbhlikaaDoor
namespace Rows

/-- THE TIED CARD OF 'solspacelaw.FamilyErrors'. -/
def familyErrorsCard : Claim7 := { stood := { row := familyErrorsRow, standIns := [], harness := (true, "10bbaabbd9e657186addf166ec6f4fad1132c4cf10bc75325c8916622567243a"), looks := true }, kinds := [], alts := [], laidByText := true, laidKinds := [.handle], laidTests := true, laidLooks := .later }
def FamilyErrorsCardSaid : Prop := Claim7.holds Tryd.pinned (.plain (OpenSpec.ofChange familyErrorsSpec)) familyErrorsCard

/-- THE TIED CARD OF 'solspacelaw.ReasonReiter'. -/
def reasonReiterCard : Claim7 := { stood := { row := reasonReiterRow, standIns := [], harness := (true, "10bbaabbd9e657186addf166ec6f4fad1132c4cf10bc75325c8916622567243a"), looks := true }, kinds := [], alts := [], laidByText := true, laidKinds := [.handle], laidTests := true, laidLooks := .later }
def ReasonReiterCardSaid : Prop := Claim7.holds Tryd.pinned (.plain (OpenSpec.ofChange reasonReiterSpec)) reasonReiterCard

/-- THE SECOND FORM's CARD OF 'solspacelaw.FamilyErrors'. -/
def familyErrorsUptoCard : Claim7 := { stood := { row := familyErrorsUptoRow, standIns := [], harness := (true, "10bbaabbd9e657186addf166ec6f4fad1132c4cf10bc75325c8916622567243a"), looks := true }, kinds := [], alts := [], laidByText := true, laidKinds := [.handle], laidTests := true, laidLooks := .later }
def FamilyErrorsUptoCardSaid : Prop := Claim7.holds Tryd.pinned (.plain (OpenSpec.upto familyErrorsSpec)) familyErrorsUptoCard

/-- THE SECOND FORM's CARD OF 'solspacelaw.ReasonReiter'. -/
def reasonReiterUptoCard : Claim7 := { stood := { row := reasonReiterUptoRow, standIns := [], harness := (true, "10bbaabbd9e657186addf166ec6f4fad1132c4cf10bc75325c8916622567243a"), looks := true }, kinds := [], alts := [], laidByText := true, laidKinds := [.handle], laidTests := true, laidLooks := .later }
def ReasonReiterUptoCardSaid : Prop := Claim7.holds Tryd.pinned (.plain (OpenSpec.upto reasonReiterSpec)) reasonReiterUptoCard
end Rows
end Go.Proofs.YtdlcldhnbhlikaaDoor
