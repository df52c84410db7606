/-
  DERIVED. GIVEN WITH THE SEED: THE CARDS: each row of YtbmmkhehejoidaaGreatDoorRows.lean that lists a variable, with what it lists TIED to the program's text (the seventh form; the later family's looks); each row that meets fmt, with fmt's text TOLD by the authors' own Lean function (tested against real Go, not proved from fmt's source: count such statements apart). THE CARD IS WHAT COUNTS. Prove the row's statement (the work); the ties are given (YtbmmkhehejoidaaGreatDoorTie.lean); close each card by the builder's one call (the guide's Derived/Test/ToyasCard.lean, 'card_holds'). Laid BY PROGRAM, IN A SANDBOX (cutbox-door.mjs). By AI agents, Wed Nov 11 2026. No macro, syntax, notation, axiom, sorry.
-/
import Derived.Test.YtbmmkhehejoidaaGreatDoorRows
import GoSem.ClaimSeven
namespace Go.Proofs.YtbmmkhehejoidaaGreatDoor
namespace Rows

/-- THE TIED CARD OF 'solspacelaw.RangeParses'. -/
def rangeParsesCard : Claim7 := { stood := { row := rangeParsesRow, standIns := [], harness := (true, "2f0b918b5f3ba209b172bb993fd9015c044c0480a075e4bc35d00c309a6b5136"), looks := true }, kinds := [], alts := [], laidByText := true, laidKinds := [.data, .data, .data, .data, .handle, .sentinel, .sentinel, .data, .pinned], laidTests := true, laidLooks := .later }
def RangeParsesCardSaid : Prop := Claim7.holds Tryz.pinned (.plain (OpenSpec.ofChange rangeParsesSpec)) rangeParsesCard

/-- THE TIED CARD OF 'solspacelaw.RangeMixes'. -/
def rangeMixesCard : Claim7 := { stood := { row := rangeMixesRow, standIns := [], harness := (true, "2f0b918b5f3ba209b172bb993fd9015c044c0480a075e4bc35d00c309a6b5136"), looks := true }, kinds := [], alts := [], laidByText := true, laidKinds := [.data, .data, .data, .data, .handle, .sentinel, .sentinel, .data, .pinned], laidTests := true, laidLooks := .later }
def RangeMixesCardSaid : Prop := Claim7.holds Tryz.pinned (.plain (OpenSpec.ofChange rangeMixesSpec)) rangeMixesCard

/-- THE SECOND FORM's CARD OF 'solspacelaw.RangeParses'. -/
def rangeParsesUptoCard : Claim7 := { stood := { row := rangeParsesUptoRow, standIns := [], harness := (true, "2f0b918b5f3ba209b172bb993fd9015c044c0480a075e4bc35d00c309a6b5136"), looks := true }, kinds := [], alts := [], laidByText := true, laidKinds := [.data, .data, .data, .data, .handle, .sentinel, .sentinel, .data, .pinned], laidTests := true, laidLooks := .later }
def RangeParsesUptoCardSaid : Prop := Claim7.holds Tryz.pinned (.plain (OpenSpec.upto rangeParsesSpec)) rangeParsesUptoCard

/-- THE SECOND FORM's CARD OF 'solspacelaw.RangeMixes'. -/
def rangeMixesUptoCard : Claim7 := { stood := { row := rangeMixesUptoRow, standIns := [], harness := (true, "2f0b918b5f3ba209b172bb993fd9015c044c0480a075e4bc35d00c309a6b5136"), looks := true }, kinds := [], alts := [], laidByText := true, laidKinds := [.data, .data, .data, .data, .handle, .sentinel, .sentinel, .data, .pinned], laidTests := true, laidLooks := .later }
def RangeMixesUptoCardSaid : Prop := Claim7.holds Tryz.pinned (.plain (OpenSpec.upto rangeMixesSpec)) rangeMixesUptoCard
end Rows
end Go.Proofs.YtbmmkhehejoidaaGreatDoor
