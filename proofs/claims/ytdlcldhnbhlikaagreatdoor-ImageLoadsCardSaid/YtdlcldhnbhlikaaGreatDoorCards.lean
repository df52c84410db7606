/-
  DERIVED. GIVEN WITH THE SEED: THE CARDS: each row of YtdlcldhnbhlikaaGreatDoorRows.lean that lists a variable, with what it lists TIED to the program's text (the seventh form; the later family's looks); each row that meets fmt, with fmt's text TOLD by the authors' own Lean function (tested against real Go, not proved from fmt's source: count such statements apart). THE CARD IS WHAT COUNTS. Prove the row's statement (the work); the ties are given (YtdlcldhnbhlikaaGreatDoorTie.lean); close each card by the builder's one call (the guide's Derived/Test/ToyasCard.lean, 'card_holds'). Laid BY PROGRAM, IN A SANDBOX (cutbox-door.mjs). By AI agents, Wed Nov 11 2026. No macro, syntax, notation, axiom, sorry.
-/
import Derived.Test.YtdlcldhnbhlikaaGreatDoorRows
import GoSem.ClaimSeven
namespace Go.Proofs.YtdlcldhnbhlikaaGreatDoor
namespace Rows

/-- THE TIED CARD OF 'solspacelaw.ImageSaves'. -/
def imageSavesCard : Claim7 := { stood := { row := imageSavesRow, standIns := [], harness := (true, "932adefeff789a83418fdd4ef822b85d795c9a3f3ef9d5b2e0ff5819d7770f4c"), looks := true }, kinds := [], alts := [], laidByText := true, laidKinds := [.data, .data, .data, .handle, .sentinel], laidTests := true, laidLooks := .later }
def ImageSavesCardSaid : Prop := Claim7.holds Tryz.pinned (.plain (OpenSpec.ofChange imageSavesSpec)) imageSavesCard

/-- THE TIED CARD OF 'solspacelaw.FamilyMeans'. -/
def familyMeansCard : Claim7 := { stood := { row := familyMeansRow, standIns := [], harness := (true, "932adefeff789a83418fdd4ef822b85d795c9a3f3ef9d5b2e0ff5819d7770f4c"), looks := true }, kinds := [], alts := [], laidByText := true, laidKinds := [.data, .data, .data, .handle], laidTests := true, laidLooks := .later }
def FamilyMeansCardSaid : Prop := Claim7.holds Tryz.pinned (.plain (OpenSpec.ofChange familyMeansSpec)) familyMeansCard

/-- THE TIED CARD OF 'solspacelaw.VersionParses'. -/
def versionParsesCard : Claim7 := { stood := { row := versionParsesRow, standIns := [], harness := (true, "932adefeff789a83418fdd4ef822b85d795c9a3f3ef9d5b2e0ff5819d7770f4c"), looks := true }, kinds := [], alts := [], laidByText := true, laidKinds := [.data, .data, .data, .data, .handle, .sentinel, .sentinel, .pinned], laidTests := true, laidLooks := .later }
def VersionParsesCardSaid : Prop := Claim7.holds Tryz.pinned (.plain (OpenSpec.ofChange versionParsesSpec)) versionParsesCard

/-- THE TIED CARD OF 'solspacelaw.ImageLoads'. -/
def imageLoadsCard : Claim7 := { stood := { row := imageLoadsRow, standIns := [], harness := (true, "932adefeff789a83418fdd4ef822b85d795c9a3f3ef9d5b2e0ff5819d7770f4c"), looks := true }, kinds := [], alts := [], laidByText := true, laidKinds := [.data, .data, .data, .data, .handle, .sentinel, .sentinel, .sentinel, .pinned], laidTests := true, laidLooks := .later }
def ImageLoadsCardSaid : Prop := Claim7.holds Tryz.pinned (.plain (OpenSpec.ofChange imageLoadsSpec)) imageLoadsCard

/-- THE SECOND FORM's CARD OF 'solspacelaw.ImageSaves'. -/
def imageSavesUptoCard : Claim7 := { stood := { row := imageSavesUptoRow, standIns := [], harness := (true, "932adefeff789a83418fdd4ef822b85d795c9a3f3ef9d5b2e0ff5819d7770f4c"), looks := true }, kinds := [], alts := [], laidByText := true, laidKinds := [.data, .data, .data, .handle, .sentinel], laidTests := true, laidLooks := .later }
def ImageSavesUptoCardSaid : Prop := Claim7.holds Tryz.pinned (.plain (OpenSpec.upto imageSavesSpec)) imageSavesUptoCard

/-- THE SECOND FORM's CARD OF 'solspacelaw.FamilyMeans'. -/
def familyMeansUptoCard : Claim7 := { stood := { row := familyMeansUptoRow, standIns := [], harness := (true, "932adefeff789a83418fdd4ef822b85d795c9a3f3ef9d5b2e0ff5819d7770f4c"), looks := true }, kinds := [], alts := [], laidByText := true, laidKinds := [.data, .data, .data, .handle], laidTests := true, laidLooks := .later }
def FamilyMeansUptoCardSaid : Prop := Claim7.holds Tryz.pinned (.plain (OpenSpec.upto familyMeansSpec)) familyMeansUptoCard

/-- THE SECOND FORM's CARD OF 'solspacelaw.VersionParses'. -/
def versionParsesUptoCard : Claim7 := { stood := { row := versionParsesUptoRow, standIns := [], harness := (true, "932adefeff789a83418fdd4ef822b85d795c9a3f3ef9d5b2e0ff5819d7770f4c"), looks := true }, kinds := [], alts := [], laidByText := true, laidKinds := [.data, .data, .data, .data, .handle, .sentinel, .sentinel, .pinned], laidTests := true, laidLooks := .later }
def VersionParsesUptoCardSaid : Prop := Claim7.holds Tryz.pinned (.plain (OpenSpec.upto versionParsesSpec)) versionParsesUptoCard

/-- THE SECOND FORM's CARD OF 'solspacelaw.ImageLoads'. -/
def imageLoadsUptoCard : Claim7 := { stood := { row := imageLoadsUptoRow, standIns := [], harness := (true, "932adefeff789a83418fdd4ef822b85d795c9a3f3ef9d5b2e0ff5819d7770f4c"), looks := true }, kinds := [], alts := [], laidByText := true, laidKinds := [.data, .data, .data, .data, .handle, .sentinel, .sentinel, .sentinel, .pinned], laidTests := true, laidLooks := .later }
def ImageLoadsUptoCardSaid : Prop := Claim7.holds Tryz.pinned (.plain (OpenSpec.upto imageLoadsSpec)) imageLoadsUptoCard
end Rows
end Go.Proofs.YtdlcldhnbhlikaaGreatDoor
