/-
  slices.IndexFunc, slices.ContainsFunc over a clause (a slice of ints), at a closure that only reads: whether some element has the property.
-/
import Derived.Test.YtfbhmkpihmcegaaFew
import Derived.Shelf.Abstract
namespace Go.Proofs.Ytfbhmkpihmcegaa
open Go.RowKit

def AtLeast0 (w : World) (e : Ending) (w' : World) : Prop := ∃ r : Int, 0 ≤ r ∧ e = .returned (.int .i64 r) ∧ w = w'

end Go.Proofs.Ytfbhmkpihmcegaa
