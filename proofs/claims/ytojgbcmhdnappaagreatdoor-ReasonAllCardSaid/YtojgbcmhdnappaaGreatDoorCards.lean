/-
  DERIVED. GIVEN WITH THE SEED: THE CARDS: each row of YtojgbcmhdnappaaGreatDoorRows.lean that lists a variable, with what it lists TIED to the program's text (the seventh form; the later family's looks); each row that meets fmt, with fmt's text TOLD by the authors' own Lean function (tested against real Go, not proved from fmt's source: count such statements apart). THE CARD IS WHAT COUNTS. Prove the row's statement (the work); the ties are given (YtojgbcmhdnappaaGreatDoorTie.lean); close each card by the builder's one call (the guide's Derived/Test/ToyasCard.lean, 'card_holds'). Laid BY PROGRAM, IN A SANDBOX (cutbox-door.mjs). By AI agents, Wed Nov 11 2026. No macro, syntax, notation, axiom, sorry.
-/
import Derived.Test.YtojgbcmhdnappaaGreatDoorRows
import GoSem.ClaimSeven
namespace Go.Proofs.YtojgbcmhdnappaaGreatDoor
namespace Rows

/-- THE TIED CARD OF 'solspacelaw.ReasonAll'. -/
def reasonAllCard : Claim7 := { stood := { row := reasonAllRow, standIns := [], harness := (true, "544a8a6d76ce365916b443a7f48f1ad871852bd84eafc0f2797e3ccc8791c4c4"), looks := true }, kinds := [], alts := [], laidByText := true, laidKinds := [.data, .data, .data, .data, .handle, .sentinel, .sentinel, .data, .data, .pinned], laidTests := true, laidLooks := .later }
def ReasonAllCardSaid : Prop := Claim7.holds Tryz.pinned (.plain (OpenSpec.ofChange reasonAllSpec)) reasonAllCard

/-- THE TIED CARD OF 'solspacelaw.SpaceInstalls'. -/
def spaceInstallsCard : Claim7 := { stood := { row := spaceInstallsRow, standIns := [], harness := (true, "544a8a6d76ce365916b443a7f48f1ad871852bd84eafc0f2797e3ccc8791c4c4"), looks := true }, kinds := [], alts := [], laidByText := true, laidKinds := [.data, .data, .data, .data, .handle, .sentinel, .sentinel, .data, .data, .pinned], laidTests := true, laidLooks := .later }
def SpaceInstallsCardSaid : Prop := Claim7.holds Tryz.pinned (.plain (OpenSpec.ofChange spaceInstallsSpec)) spaceInstallsCard

/-- THE TIED CARD OF 'solspacelaw.SpaceBest'. -/
def spaceBestCard : Claim7 := { stood := { row := spaceBestRow, standIns := [], harness := (true, "544a8a6d76ce365916b443a7f48f1ad871852bd84eafc0f2797e3ccc8791c4c4"), looks := true }, kinds := [], alts := [], laidByText := true, laidKinds := [.data, .data, .data, .data, .handle, .sentinel, .sentinel, .data, .data, .pinned], laidTests := true, laidLooks := .later }
def SpaceBestCardSaid : Prop := Claim7.holds Tryz.pinned (.plain (OpenSpec.ofChange spaceBestSpec)) spaceBestCard

/-- THE TIED CARD OF 'solspacelaw.ShelfTurns'. -/
def shelfTurnsCard : Claim7 := { stood := { row := shelfTurnsRow, standIns := [], harness := (true, "544a8a6d76ce365916b443a7f48f1ad871852bd84eafc0f2797e3ccc8791c4c4"), looks := true }, kinds := [], alts := [], laidByText := true, laidKinds := [.data, .data, .data, .data, .handle, .sentinel, .sentinel, .data, .data, .pinned], laidTests := true, laidLooks := .later }
def ShelfTurnsCardSaid : Prop := Claim7.holds Tryz.pinned (.plain (OpenSpec.ofChange shelfTurnsSpec)) shelfTurnsCard

/-- THE SECOND FORM's CARD OF 'solspacelaw.ReasonAll'. -/
def reasonAllUptoCard : Claim7 := { stood := { row := reasonAllUptoRow, standIns := [], harness := (true, "544a8a6d76ce365916b443a7f48f1ad871852bd84eafc0f2797e3ccc8791c4c4"), looks := true }, kinds := [], alts := [], laidByText := true, laidKinds := [.data, .data, .data, .data, .handle, .sentinel, .sentinel, .data, .data, .pinned], laidTests := true, laidLooks := .later }
def ReasonAllUptoCardSaid : Prop := Claim7.holds Tryz.pinned (.plain (OpenSpec.upto reasonAllSpec)) reasonAllUptoCard

/-- THE SECOND FORM's CARD OF 'solspacelaw.SpaceInstalls'. -/
def spaceInstallsUptoCard : Claim7 := { stood := { row := spaceInstallsUptoRow, standIns := [], harness := (true, "544a8a6d76ce365916b443a7f48f1ad871852bd84eafc0f2797e3ccc8791c4c4"), looks := true }, kinds := [], alts := [], laidByText := true, laidKinds := [.data, .data, .data, .data, .handle, .sentinel, .sentinel, .data, .data, .pinned], laidTests := true, laidLooks := .later }
def SpaceInstallsUptoCardSaid : Prop := Claim7.holds Tryz.pinned (.plain (OpenSpec.upto spaceInstallsSpec)) spaceInstallsUptoCard

/-- THE SECOND FORM's CARD OF 'solspacelaw.SpaceBest'. -/
def spaceBestUptoCard : Claim7 := { stood := { row := spaceBestUptoRow, standIns := [], harness := (true, "544a8a6d76ce365916b443a7f48f1ad871852bd84eafc0f2797e3ccc8791c4c4"), looks := true }, kinds := [], alts := [], laidByText := true, laidKinds := [.data, .data, .data, .data, .handle, .sentinel, .sentinel, .data, .data, .pinned], laidTests := true, laidLooks := .later }
def SpaceBestUptoCardSaid : Prop := Claim7.holds Tryz.pinned (.plain (OpenSpec.upto spaceBestSpec)) spaceBestUptoCard

/-- THE SECOND FORM's CARD OF 'solspacelaw.ShelfTurns'. -/
def shelfTurnsUptoCard : Claim7 := { stood := { row := shelfTurnsUptoRow, standIns := [], harness := (true, "544a8a6d76ce365916b443a7f48f1ad871852bd84eafc0f2797e3ccc8791c4c4"), looks := true }, kinds := [], alts := [], laidByText := true, laidKinds := [.data, .data, .data, .data, .handle, .sentinel, .sentinel, .data, .data, .pinned], laidTests := true, laidLooks := .later }
def ShelfTurnsUptoCardSaid : Prop := Claim7.holds Tryz.pinned (.plain (OpenSpec.upto shelfTurnsSpec)) shelfTurnsUptoCard
end Rows
end Go.Proofs.YtojgbcmhdnappaaGreatDoor
