/-
  DERIVED. GIVEN WITH THE SEED: THE CARDS: each row of YtmncoldaemcnlaaGreatDoorRows.lean that lists a variable, with what it lists TIED to the program's text (the seventh form; the later family's looks); each row that meets fmt, with fmt's text TOLD by the authors' own Lean function (tested against real Go, not proved from fmt's source: count such statements apart). THE CARD IS WHAT COUNTS. Prove the row's statement (the work); the ties are given (YtmncoldaemcnlaaGreatDoorTie.lean); close each card by the builder's one call (the guide's Derived/Test/ToyasCard.lean, 'card_holds'). Laid BY PROGRAM, IN A SANDBOX (cutbox-door.mjs). By AI agents, Wed Nov 11 2026. No macro, syntax, notation, axiom, sorry.
-/
import Derived.Test.YtmncoldaemcnlaaGreatDoorRows
import GoSem.ClaimSeven
namespace Go.Proofs.YtmncoldaemcnlaaGreatDoor
namespace Rows

/-- THE TIED CARD OF 'solspacelaw.CatalogLines'. -/
def catalogLinesCard : Claim7 := { stood := { row := catalogLinesRow, standIns := [], harness := (true, "abf5bcd454a286457fc7059aca67a9e1eba5c7cf445cc5fce93f8ef949aef056"), looks := true }, kinds := [], alts := [], laidByText := true, laidKinds := [.data, .data, .data, .data, .handle, .sentinel, .sentinel, .data, .data, .pinned], laidTests := true, laidLooks := .later }
def CatalogLinesCardSaid : Prop := Claim7.holds Tryz.pinned (.plain (OpenSpec.ofChange catalogLinesSpec)) catalogLinesCard

/-- THE TIED CARD OF 'solspacelaw.PlanFits'. -/
def planFitsCard : Claim7 := { stood := { row := planFitsRow, standIns := [], harness := (true, "abf5bcd454a286457fc7059aca67a9e1eba5c7cf445cc5fce93f8ef949aef056"), looks := true }, kinds := [], alts := [], laidByText := true, laidKinds := [.data, .data, .data, .data, .handle, .sentinel, .sentinel, .data, .data, .pinned], laidTests := true, laidLooks := .later }
def PlanFitsCardSaid : Prop := Claim7.holds Tryz.pinned (.plain (OpenSpec.ofChange planFitsSpec)) planFitsCard

/-- THE TIED CARD OF 'solspacelaw.RulesMake'. -/
def rulesMakeCard : Claim7 := { stood := { row := rulesMakeRow, standIns := [], harness := (true, "abf5bcd454a286457fc7059aca67a9e1eba5c7cf445cc5fce93f8ef949aef056"), looks := true }, kinds := [], alts := [], laidByText := true, laidKinds := [.data, .data, .data, .data, .handle, .sentinel, .sentinel, .data, .data, .pinned], laidTests := true, laidLooks := .later }
def RulesMakeCardSaid : Prop := Claim7.holds Tryz.pinned (.plain (OpenSpec.ofChange rulesMakeSpec)) rulesMakeCard

/-- THE TIED CARD OF 'solspacelaw.CatalogMakes'. -/
def catalogMakesCard : Claim7 := { stood := { row := catalogMakesRow, standIns := [], harness := (true, "abf5bcd454a286457fc7059aca67a9e1eba5c7cf445cc5fce93f8ef949aef056"), looks := true }, kinds := [], alts := [], laidByText := true, laidKinds := [.data, .data, .data, .data, .handle, .sentinel, .sentinel, .data, .data, .pinned], laidTests := true, laidLooks := .later }
def CatalogMakesCardSaid : Prop := Claim7.holds Tryz.pinned (.plain (OpenSpec.ofChange catalogMakesSpec)) catalogMakesCard

/-- THE TIED CARD OF 'solspacelaw.PlanOrders'. -/
def planOrdersCard : Claim7 := { stood := { row := planOrdersRow, standIns := [], harness := (true, "abf5bcd454a286457fc7059aca67a9e1eba5c7cf445cc5fce93f8ef949aef056"), looks := true }, kinds := [], alts := [], laidByText := true, laidKinds := [.data, .data, .data, .data, .handle, .sentinel, .sentinel, .data, .data, .pinned], laidTests := true, laidLooks := .later }
def PlanOrdersCardSaid : Prop := Claim7.holds Tryz.pinned (.plain (OpenSpec.ofChange planOrdersSpec)) planOrdersCard

/-- THE TIED CARD OF 'solspacelaw.CatalogParses'. -/
def catalogParsesCard : Claim7 := { stood := { row := catalogParsesRow, standIns := [], harness := (true, "abf5bcd454a286457fc7059aca67a9e1eba5c7cf445cc5fce93f8ef949aef056"), looks := true }, kinds := [], alts := [], laidByText := true, laidKinds := [.data, .data, .data, .data, .handle, .sentinel, .sentinel, .data, .data, .pinned], laidTests := true, laidLooks := .later }
def CatalogParsesCardSaid : Prop := Claim7.holds Tryz.pinned (.plain (OpenSpec.ofChange catalogParsesSpec)) catalogParsesCard

/-- THE SECOND FORM's CARD OF 'solspacelaw.CatalogLines'. -/
def catalogLinesUptoCard : Claim7 := { stood := { row := catalogLinesUptoRow, standIns := [], harness := (true, "abf5bcd454a286457fc7059aca67a9e1eba5c7cf445cc5fce93f8ef949aef056"), looks := true }, kinds := [], alts := [], laidByText := true, laidKinds := [.data, .data, .data, .data, .handle, .sentinel, .sentinel, .data, .data, .pinned], laidTests := true, laidLooks := .later }
def CatalogLinesUptoCardSaid : Prop := Claim7.holds Tryz.pinned (.plain (OpenSpec.upto catalogLinesSpec)) catalogLinesUptoCard

/-- THE SECOND FORM's CARD OF 'solspacelaw.PlanFits'. -/
def planFitsUptoCard : Claim7 := { stood := { row := planFitsUptoRow, standIns := [], harness := (true, "abf5bcd454a286457fc7059aca67a9e1eba5c7cf445cc5fce93f8ef949aef056"), looks := true }, kinds := [], alts := [], laidByText := true, laidKinds := [.data, .data, .data, .data, .handle, .sentinel, .sentinel, .data, .data, .pinned], laidTests := true, laidLooks := .later }
def PlanFitsUptoCardSaid : Prop := Claim7.holds Tryz.pinned (.plain (OpenSpec.upto planFitsSpec)) planFitsUptoCard

/-- THE SECOND FORM's CARD OF 'solspacelaw.RulesMake'. -/
def rulesMakeUptoCard : Claim7 := { stood := { row := rulesMakeUptoRow, standIns := [], harness := (true, "abf5bcd454a286457fc7059aca67a9e1eba5c7cf445cc5fce93f8ef949aef056"), looks := true }, kinds := [], alts := [], laidByText := true, laidKinds := [.data, .data, .data, .data, .handle, .sentinel, .sentinel, .data, .data, .pinned], laidTests := true, laidLooks := .later }
def RulesMakeUptoCardSaid : Prop := Claim7.holds Tryz.pinned (.plain (OpenSpec.upto rulesMakeSpec)) rulesMakeUptoCard

/-- THE SECOND FORM's CARD OF 'solspacelaw.CatalogMakes'. -/
def catalogMakesUptoCard : Claim7 := { stood := { row := catalogMakesUptoRow, standIns := [], harness := (true, "abf5bcd454a286457fc7059aca67a9e1eba5c7cf445cc5fce93f8ef949aef056"), looks := true }, kinds := [], alts := [], laidByText := true, laidKinds := [.data, .data, .data, .data, .handle, .sentinel, .sentinel, .data, .data, .pinned], laidTests := true, laidLooks := .later }
def CatalogMakesUptoCardSaid : Prop := Claim7.holds Tryz.pinned (.plain (OpenSpec.upto catalogMakesSpec)) catalogMakesUptoCard

/-- THE SECOND FORM's CARD OF 'solspacelaw.PlanOrders'. -/
def planOrdersUptoCard : Claim7 := { stood := { row := planOrdersUptoRow, standIns := [], harness := (true, "abf5bcd454a286457fc7059aca67a9e1eba5c7cf445cc5fce93f8ef949aef056"), looks := true }, kinds := [], alts := [], laidByText := true, laidKinds := [.data, .data, .data, .data, .handle, .sentinel, .sentinel, .data, .data, .pinned], laidTests := true, laidLooks := .later }
def PlanOrdersUptoCardSaid : Prop := Claim7.holds Tryz.pinned (.plain (OpenSpec.upto planOrdersSpec)) planOrdersUptoCard

/-- THE SECOND FORM's CARD OF 'solspacelaw.CatalogParses'. -/
def catalogParsesUptoCard : Claim7 := { stood := { row := catalogParsesUptoRow, standIns := [], harness := (true, "abf5bcd454a286457fc7059aca67a9e1eba5c7cf445cc5fce93f8ef949aef056"), looks := true }, kinds := [], alts := [], laidByText := true, laidKinds := [.data, .data, .data, .data, .handle, .sentinel, .sentinel, .data, .data, .pinned], laidTests := true, laidLooks := .later }
def CatalogParsesUptoCardSaid : Prop := Claim7.holds Tryz.pinned (.plain (OpenSpec.upto catalogParsesSpec)) catalogParsesUptoCard
end Rows
end Go.Proofs.YtmncoldaemcnlaaGreatDoor
