/-
  DERIVED. GIVEN WITH THE SEED: THE CARDS: each row of YtpghgfenafhhbaaDoorRows.lean that lists a variable, with what it lists TIED to the program's text (the seventh form; the later family's looks); each row that meets fmt, with fmt's text TOLD by the authors' own Lean function (tested against real Go, not proved from fmt's source: count such statements apart). THE CARD IS WHAT COUNTS. Prove the row's statement (the work); the ties are given (YtpghgfenafhhbaaDoorTie.lean); close each card by the builder's one call (the guide's Derived/Test/ToyasCard.lean, 'card_holds'). Laid BY PROGRAM, IN A SANDBOX (cutbox-door.mjs). By AI agents, Wed Nov 11 2026. No macro, syntax, notation, axiom, sorry.
-/
import Derived.Test.YtpghgfenafhhbaaDoorRows
import GoSem.ClaimSeven
namespace Go.Proofs.YtpghgfenafhhbaaDoor
namespace Rows

/-- THE TIED CARD OF 'solspacelaw.NatOfs'. -/
def natOfsCard : Claim7 := { stood := { row := natOfsRow, standIns := [], harness := (true, "22d1e60e7e655332a81dfa4a12215fd9effaedb3adc0f93c00da32cb870fdab2"), looks := true }, kinds := [], alts := [], laidByText := true, laidKinds := [.data, .data, .data], laidTests := true, laidLooks := .later }
def NatOfsCardSaid : Prop := Claim7.holds Tryd.pinned (.plain (OpenSpec.ofChange natOfsSpec)) natOfsCard

/-- THE TIED CARD OF 'solspacelaw.NatParses'. -/
def natParsesCard : Claim7 := { stood := { row := natParsesRow, standIns := [], harness := (true, "22d1e60e7e655332a81dfa4a12215fd9effaedb3adc0f93c00da32cb870fdab2"), looks := true }, kinds := [], alts := [], laidByText := true, laidKinds := [.data, .handle, .pinned], laidTests := true, laidLooks := .later }
def NatParsesCardSaid : Prop := Claim7.holds Tryd.pinned (.plain (OpenSpec.ofChange natParsesSpec)) natParsesCard

/-- THE TIED CARD OF 'solspacelaw.NatReckons'. -/
def natReckonsCard : Claim7 := { stood := { row := natReckonsRow, standIns := [], harness := (true, "22d1e60e7e655332a81dfa4a12215fd9effaedb3adc0f93c00da32cb870fdab2"), looks := true }, kinds := [], alts := [], laidByText := true, laidKinds := [.data, .handle, .pinned], laidTests := true, laidLooks := .later }
def NatReckonsCardSaid : Prop := Claim7.holds Tryd.pinned (.plain (OpenSpec.ofChange natReckonsSpec)) natReckonsCard

/-- THE SECOND FORM's CARD OF 'solspacelaw.NatOfs'. -/
def natOfsUptoCard : Claim7 := { stood := { row := natOfsUptoRow, standIns := [], harness := (true, "22d1e60e7e655332a81dfa4a12215fd9effaedb3adc0f93c00da32cb870fdab2"), looks := true }, kinds := [], alts := [], laidByText := true, laidKinds := [.data, .data, .data], laidTests := true, laidLooks := .later }
def NatOfsUptoCardSaid : Prop := Claim7.holds Tryd.pinned (.plain (OpenSpec.upto natOfsSpec)) natOfsUptoCard

/-- THE SECOND FORM's CARD OF 'solspacelaw.NatParses'. -/
def natParsesUptoCard : Claim7 := { stood := { row := natParsesUptoRow, standIns := [], harness := (true, "22d1e60e7e655332a81dfa4a12215fd9effaedb3adc0f93c00da32cb870fdab2"), looks := true }, kinds := [], alts := [], laidByText := true, laidKinds := [.data, .handle, .pinned], laidTests := true, laidLooks := .later }
def NatParsesUptoCardSaid : Prop := Claim7.holds Tryd.pinned (.plain (OpenSpec.upto natParsesSpec)) natParsesUptoCard

/-- THE SECOND FORM's CARD OF 'solspacelaw.NatReckons'. -/
def natReckonsUptoCard : Claim7 := { stood := { row := natReckonsUptoRow, standIns := [], harness := (true, "22d1e60e7e655332a81dfa4a12215fd9effaedb3adc0f93c00da32cb870fdab2"), looks := true }, kinds := [], alts := [], laidByText := true, laidKinds := [.data, .handle, .pinned], laidTests := true, laidLooks := .later }
def NatReckonsUptoCardSaid : Prop := Claim7.holds Tryd.pinned (.plain (OpenSpec.upto natReckonsSpec)) natReckonsUptoCard
end Rows
end Go.Proofs.YtpghgfenafhhbaaDoor
