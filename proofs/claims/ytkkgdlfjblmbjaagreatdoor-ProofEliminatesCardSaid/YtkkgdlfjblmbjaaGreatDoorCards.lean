/-
  DERIVED. GIVEN WITH THE SEED: THE CARDS: each row of YtkkgdlfjblmbjaaGreatDoorRows.lean that lists a variable, with what it lists TIED to the program's text (the seventh form; the later family's looks); each row that meets fmt, with fmt's text TOLD by the authors' own Lean function (tested against real Go, not proved from fmt's source: count such statements apart). THE CARD IS WHAT COUNTS. Prove the row's statement (the work); the ties are given (YtkkgdlfjblmbjaaGreatDoorTie.lean); close each card by the builder's one call (the guide's Derived/Test/ToyasCard.lean, 'card_holds'). Laid BY PROGRAM, IN A SANDBOX (cutbox-door.mjs). By AI agents, Wed Nov 11 2026. No macro, syntax, notation, axiom, sorry.
-/
import Derived.Test.YtkkgdlfjblmbjaaGreatDoorRows
import GoSem.ClaimSeven
namespace Go.Proofs.YtkkgdlfjblmbjaaGreatDoor
namespace Rows

/-- THE TIED CARD OF 'solspacelaw.ProofEliminates'. -/
def proofEliminatesCard : Claim7 := { stood := { row := proofEliminatesRow, standIns := [], harness := (true, "a51e0867dcfa8778974da99b27a4d913624667e879b27c3185acfc7453652d46"), looks := true }, kinds := [], alts := [], laidByText := true, laidKinds := [.data, .data, .data, .handle, .data], laidTests := true, laidLooks := .later }
def ProofEliminatesCardSaid : Prop := Claim7.holds Tryz.pinned (.plain (OpenSpec.ofChange proofEliminatesSpec)) proofEliminatesCard

/-- THE SECOND FORM's CARD OF 'solspacelaw.ProofEliminates'. -/
def proofEliminatesUptoCard : Claim7 := { stood := { row := proofEliminatesUptoRow, standIns := [], harness := (true, "a51e0867dcfa8778974da99b27a4d913624667e879b27c3185acfc7453652d46"), looks := true }, kinds := [], alts := [], laidByText := true, laidKinds := [.data, .data, .data, .handle, .data], laidTests := true, laidLooks := .later }
def ProofEliminatesUptoCardSaid : Prop := Claim7.holds Tryz.pinned (.plain (OpenSpec.upto proofEliminatesSpec)) proofEliminatesUptoCard
end Rows
end Go.Proofs.YtkkgdlfjblmbjaaGreatDoor
