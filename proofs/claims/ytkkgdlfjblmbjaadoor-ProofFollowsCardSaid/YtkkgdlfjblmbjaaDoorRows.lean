/-
  NARROWER THAN 'FOR EVERY INPUT', by the rows' own cells (each row's printed sentence says how): ClauseHolds: laid · ClauseFollows: laid · CatalogNames: laid · ProofShows: laid · ClauseSolves: laid · ProofForms: laid · ProofFollows: laid.
  DERIVED. THE GIVEN ROWS OF THIS SEAT. 7 by the template 'for every input the law returns true; each argument reads behind the call as it read before'; 0 by the template 'total and deterministic' (their statements: YtkkgdlfjblmbjaaDoorTotals.lean).
  GIVEN WITH THE SEED: the statements are not yours to turn. If you find one false, say at which input.
  Laid BY PROGRAM, IN A SANDBOX (cutbox-rows.mjs): the forced cells as the released guide's own fill.sh prints them over the translation 8ab016de87ab2f08… (all of the seat's roots in one cut). By AI agents, Wed Nov 11 2026. No macro, syntax, notation, axiom, sorry.
-/
import Derived.Test.YtkkgdlfjblmbjaaDoorChecked
import GoSem.PinnedTables
import GoSem.Claim
import GoSem.ClaimJoined
import GoSem.ClaimMapViews
import Derived.JoinedTies
import Derived.KernelRfl
namespace Go.Proofs.YtkkgdlfjblmbjaaDoor
/- THE CELL 'sum', in the pinned program and in every row, IS THE sha256 OF THE DUMP (.gsa) THAT YtkkgdlfjblmbjaaDoorProg.lean LOADS. Nothing in Lean hashes anything: it is a label: what it is worth is what the hold of that sum in a sandbox is worth. -/
noncomputable def Tryd.pinned : Pinned := { name := "ytkkgdlfjblmbjaadoor", sum := "8ab016de87ab2f08efcc3d60d79e1a1832dfdceb7772ca16e9eb2bae85b27eed", checked := Tryd.checked }
namespace Rows
def none {H : Type} : Left H := { results := [], args := [] }

/- WHAT THE LISTED PACKAGE-LEVEL VARIABLES READ AS WHEN THE CALL BEGINS. Each datum BY PROGRAM (the guide's laid-datum.mjs) off the statement by which the dump's own 'gosem.cut.vars' lays the variable. In a bare row this is a premise. The card (YtkkgdlfjblmbjaaDoorCards.lean) ties it to the program's text. -/
def laid_errors_errorType {H : Type} : DataW H := .iface "internal/reflectlite.rtype" (.agg [.ptr (.lit (.string [101, 114, 114, 111, 114]))])
def laid_solspace_solspaceref_Fine {H : Type} : DataW H := .agg [.lit (.int .i64 0), .lit (.int .i64 (-1))]
def laid_unicode_utf8_acceptRanges {H : Type} : DataW H := .agg [.agg [.lit (.int .u8 128), .lit (.int .u8 191)], .agg [.lit (.int .u8 160), .lit (.int .u8 191)], .agg [.lit (.int .u8 128), .lit (.int .u8 159)], .agg [.lit (.int .u8 144), .lit (.int .u8 191)], .agg [.lit (.int .u8 128), .lit (.int .u8 143)], .agg [.lit (.int .u8 0), .lit (.int .u8 0)], .agg [.lit (.int .u8 0), .lit (.int .u8 0)], .agg [.lit (.int .u8 0), .lit (.int .u8 0)], .agg [.lit (.int .u8 0), .lit (.int .u8 0)], .agg [.lit (.int .u8 0), .lit (.int .u8 0)], .agg [.lit (.int .u8 0), .lit (.int .u8 0)], .agg [.lit (.int .u8 0), .lit (.int .u8 0)], .agg [.lit (.int .u8 0), .lit (.int .u8 0)], .agg [.lit (.int .u8 0), .lit (.int .u8 0)], .agg [.lit (.int .u8 0), .lit (.int .u8 0)], .agg [.lit (.int .u8 0), .lit (.int .u8 0)]]
/-- One of Go's own tables, pinned by name: the form's constant. -/
def laid_unicode_utf8_first : DataW Unit := Go.Pinned.utf8First

/-- 'solspacelaw.ClauseHolds': WHATEVER THE INPUT: true; the input reads as it did. -/
def clauseHoldsSpec : ChangeSpec := { name := "clauseHolds", fn := fun _ => fun
  | [d1, d2, d3] => { results := [.lit (.bool true)], args := [d1, d2, d3] }
  | _ => none }
def clauseHoldsRow : OpenClaim := { program := "ytkkgdlfjblmbjaadoor", sum := "8ab016de87ab2f08efcc3d60d79e1a1832dfdceb7772ca16e9eb2bae85b27eed", func := "solspace/solspacelaw.ClauseHolds", spec := "clauseHolds", inPlace := ["internal/reflectlite.ValueOf", "(internal/reflectlite.Value).Type", "(internal/reflectlite.Value).IsNil", "internal/reflectlite.TypeOf", "(internal/reflectlite.Value).Elem", "(internal/reflectlite.Value).Set"], unfollowed := true, recurses := true, named := ["solspace/solspaceref.Fine", "errors.errorType"], apart := false, laid := [("errors.errorType", laid_errors_errorType), ("solspace/solspaceref.Fine", laid_solspace_solspaceref_Fine)] }
def ClauseHoldsSaid : Prop := clauseHoldsRow.holds Tryd.pinned (OpenSpec.ofChange clauseHoldsSpec)

/-- ITS FALSE NEIGHBOUR: 'it returns false'. Refute it at one input. -/
def clauseHoldsWrong : ChangeSpec := { name := "clauseHolds", fn := fun _ => fun
  | [d1, d2, d3] => { results := [.lit (.bool false)], args := [d1, d2, d3] }
  | _ => none }
def ClauseHoldsWrongFalsely : Prop := clauseHoldsRow.holds Tryd.pinned (OpenSpec.ofChange clauseHoldsWrong)

/-- 'solspacelaw.ClauseFollows': WHATEVER THE INPUT: true; the input reads as it did. -/
def clauseFollowsSpec : ChangeSpec := { name := "clauseFollows", fn := fun _ => fun
  | [d1, d2, d3] => { results := [.lit (.bool true)], args := [d1, d2, d3] }
  | _ => none }
def clauseFollowsRow : OpenClaim := { program := "ytkkgdlfjblmbjaadoor", sum := "8ab016de87ab2f08efcc3d60d79e1a1832dfdceb7772ca16e9eb2bae85b27eed", func := "solspace/solspacelaw.ClauseFollows", spec := "clauseFollows", inPlace := ["internal/reflectlite.ValueOf", "(internal/reflectlite.Value).Type", "(internal/reflectlite.Value).IsNil", "internal/reflectlite.TypeOf", "(internal/reflectlite.Value).Elem", "(internal/reflectlite.Value).Set"], unfollowed := true, recurses := true, named := ["solspace/solspaceref.Fine", "errors.errorType"], apart := false, laid := [("errors.errorType", laid_errors_errorType), ("solspace/solspaceref.Fine", laid_solspace_solspaceref_Fine)] }
def ClauseFollowsSaid : Prop := clauseFollowsRow.holds Tryd.pinned (OpenSpec.ofChange clauseFollowsSpec)

/-- ITS FALSE NEIGHBOUR: 'it returns false'. Refute it at one input. -/
def clauseFollowsWrong : ChangeSpec := { name := "clauseFollows", fn := fun _ => fun
  | [d1, d2, d3] => { results := [.lit (.bool false)], args := [d1, d2, d3] }
  | _ => none }
def ClauseFollowsWrongFalsely : Prop := clauseFollowsRow.holds Tryd.pinned (OpenSpec.ofChange clauseFollowsWrong)

/-- 'solspacelaw.CatalogNames': WHATEVER THE INPUT: true; the input reads as it did. -/
def catalogNamesSpec : ChangeSpec := { name := "catalogNames", fn := fun _ => fun
  | [d] => { results := [.lit (.bool true)], args := [d] }
  | _ => none }
def catalogNamesRow : OpenClaim := { program := "ytkkgdlfjblmbjaadoor", sum := "8ab016de87ab2f08efcc3d60d79e1a1832dfdceb7772ca16e9eb2bae85b27eed", func := "solspace/solspacelaw.CatalogNames", spec := "catalogNames", inPlace := ["internal/bytealg.IndexByteString", "internal/bytealg.IndexString"], named := ["unicode/utf8.first", "unicode/utf8.acceptRanges", "internal/bytealg.MaxLen"], apart := false, laid := [("unicode/utf8.acceptRanges", laid_unicode_utf8_acceptRanges), ("unicode/utf8.first", laid_unicode_utf8_first)] }
def CatalogNamesSaid : Prop := catalogNamesRow.holds Tryd.pinned (OpenSpec.ofChange catalogNamesSpec)

/-- ITS FALSE NEIGHBOUR: 'it returns false'. Refute it at one input. -/
def catalogNamesWrong : ChangeSpec := { name := "catalogNames", fn := fun _ => fun
  | [d] => { results := [.lit (.bool false)], args := [d] }
  | _ => none }
def CatalogNamesWrongFalsely : Prop := catalogNamesRow.holds Tryd.pinned (OpenSpec.ofChange catalogNamesWrong)

/-- 'solspacelaw.ProofShows': WHATEVER THE INPUT: true; the input reads as it did. -/
def proofShowsSpec : ChangeSpec := { name := "proofShows", fn := fun _ => fun
  | [d1, d2, d3] => { results := [.lit (.bool true)], args := [d1, d2, d3] }
  | _ => none }
def proofShowsRow : OpenClaim := { program := "ytkkgdlfjblmbjaadoor", sum := "8ab016de87ab2f08efcc3d60d79e1a1832dfdceb7772ca16e9eb2bae85b27eed", func := "solspace/solspacelaw.ProofShows", spec := "proofShows", inPlace := ["internal/reflectlite.ValueOf", "(internal/reflectlite.Value).Type", "(internal/reflectlite.Value).IsNil", "internal/reflectlite.TypeOf", "(internal/reflectlite.Value).Elem", "(internal/reflectlite.Value).Set"], unfollowed := true, recurses := true, named := ["solspace/solspaceref.Fine", "errors.errorType"], apart := false, laid := [("errors.errorType", laid_errors_errorType), ("solspace/solspaceref.Fine", laid_solspace_solspaceref_Fine)] }
def ProofShowsSaid : Prop := proofShowsRow.holds Tryd.pinned (OpenSpec.ofChange proofShowsSpec)

/-- ITS FALSE NEIGHBOUR: 'it returns false'. Refute it at one input. -/
def proofShowsWrong : ChangeSpec := { name := "proofShows", fn := fun _ => fun
  | [d1, d2, d3] => { results := [.lit (.bool false)], args := [d1, d2, d3] }
  | _ => none }
def ProofShowsWrongFalsely : Prop := proofShowsRow.holds Tryd.pinned (OpenSpec.ofChange proofShowsWrong)

/-- 'solspacelaw.ClauseSolves': WHATEVER THE INPUT: true; the input reads as it did. -/
def clauseSolvesSpec : ChangeSpec := { name := "clauseSolves", fn := fun _ => fun
  | [d1, d2] => { results := [.lit (.bool true)], args := [d1, d2] }
  | _ => none }
def clauseSolvesRow : OpenClaim := { program := "ytkkgdlfjblmbjaadoor", sum := "8ab016de87ab2f08efcc3d60d79e1a1832dfdceb7772ca16e9eb2bae85b27eed", func := "solspace/solspacelaw.ClauseSolves", spec := "clauseSolves", inPlace := ["internal/reflectlite.ValueOf", "(internal/reflectlite.Value).Type", "(internal/reflectlite.Value).IsNil", "internal/reflectlite.TypeOf", "(internal/reflectlite.Value).Elem", "(internal/reflectlite.Value).Set"], unfollowed := true, recurses := true, named := ["solspace/solspaceref.Fine", "errors.errorType"], apart := false, laid := [("errors.errorType", laid_errors_errorType), ("solspace/solspaceref.Fine", laid_solspace_solspaceref_Fine)] }
def ClauseSolvesSaid : Prop := clauseSolvesRow.holds Tryd.pinned (OpenSpec.ofChange clauseSolvesSpec)

/-- ITS FALSE NEIGHBOUR: 'it returns false'. Refute it at one input. -/
def clauseSolvesWrong : ChangeSpec := { name := "clauseSolves", fn := fun _ => fun
  | [d1, d2] => { results := [.lit (.bool false)], args := [d1, d2] }
  | _ => none }
def ClauseSolvesWrongFalsely : Prop := clauseSolvesRow.holds Tryd.pinned (OpenSpec.ofChange clauseSolvesWrong)

/-- 'solspacelaw.ProofForms': WHATEVER THE INPUT: true; the input reads as it did. -/
def proofFormsSpec : ChangeSpec := { name := "proofForms", fn := fun _ => fun
  | [d1, d2, d3] => { results := [.lit (.bool true)], args := [d1, d2, d3] }
  | _ => none }
def proofFormsRow : OpenClaim := { program := "ytkkgdlfjblmbjaadoor", sum := "8ab016de87ab2f08efcc3d60d79e1a1832dfdceb7772ca16e9eb2bae85b27eed", func := "solspace/solspacelaw.ProofForms", spec := "proofForms", inPlace := ["internal/reflectlite.ValueOf", "(internal/reflectlite.Value).Type", "(internal/reflectlite.Value).IsNil", "internal/reflectlite.TypeOf", "(internal/reflectlite.Value).Elem", "(internal/reflectlite.Value).Set"], unfollowed := true, recurses := true, named := ["errors.errorType"], apart := false, laid := [("errors.errorType", laid_errors_errorType)] }
def ProofFormsSaid : Prop := proofFormsRow.holds Tryd.pinned (OpenSpec.ofChange proofFormsSpec)

/-- ITS FALSE NEIGHBOUR: 'it returns false'. Refute it at one input. -/
def proofFormsWrong : ChangeSpec := { name := "proofForms", fn := fun _ => fun
  | [d1, d2, d3] => { results := [.lit (.bool false)], args := [d1, d2, d3] }
  | _ => none }
def ProofFormsWrongFalsely : Prop := proofFormsRow.holds Tryd.pinned (OpenSpec.ofChange proofFormsWrong)

/-- 'solspacelaw.ProofFollows': WHATEVER THE INPUT: true; the input reads as it did. -/
def proofFollowsSpec : ChangeSpec := { name := "proofFollows", fn := fun _ => fun
  | [d1, d2, d3] => { results := [.lit (.bool true)], args := [d1, d2, d3] }
  | _ => none }
def proofFollowsRow : OpenClaim := { program := "ytkkgdlfjblmbjaadoor", sum := "8ab016de87ab2f08efcc3d60d79e1a1832dfdceb7772ca16e9eb2bae85b27eed", func := "solspace/solspacelaw.ProofFollows", spec := "proofFollows", inPlace := ["internal/reflectlite.ValueOf", "(internal/reflectlite.Value).Type", "(internal/reflectlite.Value).IsNil", "internal/reflectlite.TypeOf", "(internal/reflectlite.Value).Elem", "(internal/reflectlite.Value).Set"], unfollowed := true, recurses := true, named := ["solspace/solspaceref.Fine", "errors.errorType"], apart := false, laid := [("errors.errorType", laid_errors_errorType), ("solspace/solspaceref.Fine", laid_solspace_solspaceref_Fine)] }
def ProofFollowsSaid : Prop := proofFollowsRow.holds Tryd.pinned (OpenSpec.ofChange proofFollowsSpec)

/-- ITS FALSE NEIGHBOUR: 'it returns false'. Refute it at one input. -/
def proofFollowsWrong : ChangeSpec := { name := "proofFollows", fn := fun _ => fun
  | [d1, d2, d3] => { results := [.lit (.bool false)], args := [d1, d2, d3] }
  | _ => none }
def ProofFollowsWrongFalsely : Prop := proofFollowsRow.holds Tryd.pinned (OpenSpec.ofChange proofFollowsWrong)

/- THE SECOND FORM. 'bulk': how many values and letters a reading holds, each counted each time it is reached (what is shared counts as often as it is met; a slice's spare places count too). A statement '..UptoSaid' is the law's where the arguments, and the package variables that the reading takes, are together of bulk at most 1048576: NARROWER than '..Said'. Prove '..Said' where nothing that the law and all that it calls make is longer than what came in: it says more and counts as full. Else prove '..UptoSaid'. A law counts once. -/
mutual
def uptoBulk {H : Type} : DataW H → Nat
  | .lit (.string bytes) => bytes.length + 1
  | .lit _ => 1
  | .nil => 1
  | .ptr d => uptoBulk d + 1
  | .slice elems spare => uptoBulkAll elems + uptoBulkAll spare + 1
  | .agg parts => uptoBulkAll parts + 1
  | .iface _ d => uptoBulk d + 1
  | .map entries => uptoBulkEntries entries + 1
  | .held _ => 1
def uptoBulkAll {H : Type} : List (DataW H) → Nat
  | [] => 0
  | d :: r => uptoBulk d + uptoBulkAll r
def uptoBulkEntries {H : Type} : List (Lit × DataW H) → Nat
  | [] => 0
  | x :: r => uptoBulkEntry x + uptoBulkEntries r
def uptoBulkEntry {H : Type} : Lit × DataW H → Nat
  | (.string bytes, d) => bytes.length + uptoBulk d + 1
  | (_, d) => uptoBulk d + 1
 end
def uptoSmall : (H : Type) → List (DataW H) → Bool := fun _ ds => decide (uptoBulkAll ds ≤ 1048576)
def OpenSpec.upto (s : _root_.Go.ChangeSpec) : _root_.Go.OpenSpec := { _root_.Go.OpenSpec.ofChange s with cond := some uptoSmall }

/-- 'solspacelaw.ClauseHolds', WHERE WHAT IT READS IS OF BULK AT MOST 1048576: true; the input reads as it did. -/
def clauseHoldsUptoRow : OpenClaim := { program := "ytkkgdlfjblmbjaadoor", sum := "8ab016de87ab2f08efcc3d60d79e1a1832dfdceb7772ca16e9eb2bae85b27eed", func := "solspace/solspacelaw.ClauseHolds", spec := "clauseHolds", inPlace := ["internal/reflectlite.ValueOf", "(internal/reflectlite.Value).Type", "(internal/reflectlite.Value).IsNil", "internal/reflectlite.TypeOf", "(internal/reflectlite.Value).Elem", "(internal/reflectlite.Value).Set"], unfollowed := true, recurses := true, named := ["solspace/solspaceref.Fine", "errors.errorType"], apart := false, laid := [("errors.errorType", laid_errors_errorType), ("solspace/solspaceref.Fine", laid_solspace_solspaceref_Fine)], narrowed := true }
def ClauseHoldsUptoSaid : Prop := clauseHoldsUptoRow.holds Tryd.pinned (OpenSpec.upto clauseHoldsSpec)

/-- 'solspacelaw.ClauseFollows', WHERE WHAT IT READS IS OF BULK AT MOST 1048576: true; the input reads as it did. -/
def clauseFollowsUptoRow : OpenClaim := { program := "ytkkgdlfjblmbjaadoor", sum := "8ab016de87ab2f08efcc3d60d79e1a1832dfdceb7772ca16e9eb2bae85b27eed", func := "solspace/solspacelaw.ClauseFollows", spec := "clauseFollows", inPlace := ["internal/reflectlite.ValueOf", "(internal/reflectlite.Value).Type", "(internal/reflectlite.Value).IsNil", "internal/reflectlite.TypeOf", "(internal/reflectlite.Value).Elem", "(internal/reflectlite.Value).Set"], unfollowed := true, recurses := true, named := ["solspace/solspaceref.Fine", "errors.errorType"], apart := false, laid := [("errors.errorType", laid_errors_errorType), ("solspace/solspaceref.Fine", laid_solspace_solspaceref_Fine)], narrowed := true }
def ClauseFollowsUptoSaid : Prop := clauseFollowsUptoRow.holds Tryd.pinned (OpenSpec.upto clauseFollowsSpec)

/-- 'solspacelaw.CatalogNames', WHERE WHAT IT READS IS OF BULK AT MOST 1048576: true; the input reads as it did. -/
def catalogNamesUptoRow : OpenClaim := { program := "ytkkgdlfjblmbjaadoor", sum := "8ab016de87ab2f08efcc3d60d79e1a1832dfdceb7772ca16e9eb2bae85b27eed", func := "solspace/solspacelaw.CatalogNames", spec := "catalogNames", inPlace := ["internal/bytealg.IndexByteString", "internal/bytealg.IndexString"], named := ["unicode/utf8.first", "unicode/utf8.acceptRanges", "internal/bytealg.MaxLen"], apart := false, laid := [("unicode/utf8.acceptRanges", laid_unicode_utf8_acceptRanges), ("unicode/utf8.first", laid_unicode_utf8_first)], narrowed := true }
def CatalogNamesUptoSaid : Prop := catalogNamesUptoRow.holds Tryd.pinned (OpenSpec.upto catalogNamesSpec)

/-- 'solspacelaw.ProofShows', WHERE WHAT IT READS IS OF BULK AT MOST 1048576: true; the input reads as it did. -/
def proofShowsUptoRow : OpenClaim := { program := "ytkkgdlfjblmbjaadoor", sum := "8ab016de87ab2f08efcc3d60d79e1a1832dfdceb7772ca16e9eb2bae85b27eed", func := "solspace/solspacelaw.ProofShows", spec := "proofShows", inPlace := ["internal/reflectlite.ValueOf", "(internal/reflectlite.Value).Type", "(internal/reflectlite.Value).IsNil", "internal/reflectlite.TypeOf", "(internal/reflectlite.Value).Elem", "(internal/reflectlite.Value).Set"], unfollowed := true, recurses := true, named := ["solspace/solspaceref.Fine", "errors.errorType"], apart := false, laid := [("errors.errorType", laid_errors_errorType), ("solspace/solspaceref.Fine", laid_solspace_solspaceref_Fine)], narrowed := true }
def ProofShowsUptoSaid : Prop := proofShowsUptoRow.holds Tryd.pinned (OpenSpec.upto proofShowsSpec)

/-- 'solspacelaw.ClauseSolves', WHERE WHAT IT READS IS OF BULK AT MOST 1048576: true; the input reads as it did. -/
def clauseSolvesUptoRow : OpenClaim := { program := "ytkkgdlfjblmbjaadoor", sum := "8ab016de87ab2f08efcc3d60d79e1a1832dfdceb7772ca16e9eb2bae85b27eed", func := "solspace/solspacelaw.ClauseSolves", spec := "clauseSolves", inPlace := ["internal/reflectlite.ValueOf", "(internal/reflectlite.Value).Type", "(internal/reflectlite.Value).IsNil", "internal/reflectlite.TypeOf", "(internal/reflectlite.Value).Elem", "(internal/reflectlite.Value).Set"], unfollowed := true, recurses := true, named := ["solspace/solspaceref.Fine", "errors.errorType"], apart := false, laid := [("errors.errorType", laid_errors_errorType), ("solspace/solspaceref.Fine", laid_solspace_solspaceref_Fine)], narrowed := true }
def ClauseSolvesUptoSaid : Prop := clauseSolvesUptoRow.holds Tryd.pinned (OpenSpec.upto clauseSolvesSpec)

/-- 'solspacelaw.ProofForms', WHERE WHAT IT READS IS OF BULK AT MOST 1048576: true; the input reads as it did. -/
def proofFormsUptoRow : OpenClaim := { program := "ytkkgdlfjblmbjaadoor", sum := "8ab016de87ab2f08efcc3d60d79e1a1832dfdceb7772ca16e9eb2bae85b27eed", func := "solspace/solspacelaw.ProofForms", spec := "proofForms", inPlace := ["internal/reflectlite.ValueOf", "(internal/reflectlite.Value).Type", "(internal/reflectlite.Value).IsNil", "internal/reflectlite.TypeOf", "(internal/reflectlite.Value).Elem", "(internal/reflectlite.Value).Set"], unfollowed := true, recurses := true, named := ["errors.errorType"], apart := false, laid := [("errors.errorType", laid_errors_errorType)], narrowed := true }
def ProofFormsUptoSaid : Prop := proofFormsUptoRow.holds Tryd.pinned (OpenSpec.upto proofFormsSpec)

/-- 'solspacelaw.ProofFollows', WHERE WHAT IT READS IS OF BULK AT MOST 1048576: true; the input reads as it did. -/
def proofFollowsUptoRow : OpenClaim := { program := "ytkkgdlfjblmbjaadoor", sum := "8ab016de87ab2f08efcc3d60d79e1a1832dfdceb7772ca16e9eb2bae85b27eed", func := "solspace/solspacelaw.ProofFollows", spec := "proofFollows", inPlace := ["internal/reflectlite.ValueOf", "(internal/reflectlite.Value).Type", "(internal/reflectlite.Value).IsNil", "internal/reflectlite.TypeOf", "(internal/reflectlite.Value).Elem", "(internal/reflectlite.Value).Set"], unfollowed := true, recurses := true, named := ["solspace/solspaceref.Fine", "errors.errorType"], apart := false, laid := [("errors.errorType", laid_errors_errorType), ("solspace/solspaceref.Fine", laid_solspace_solspaceref_Fine)], narrowed := true }
def ProofFollowsUptoSaid : Prop := proofFollowsUptoRow.holds Tryd.pinned (OpenSpec.upto proofFollowsSpec)

end Rows
end Go.Proofs.YtkkgdlfjblmbjaaDoor
