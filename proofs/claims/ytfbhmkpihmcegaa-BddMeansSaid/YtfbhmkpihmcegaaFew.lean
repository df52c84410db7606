/-
  The walks of the law's own small functions: few, right, within.
-/
import Derived.Test.YtfbhmkpihmcegaaProg
import Derived.Test.YtfbhmkpihmcegaaSpec
import Derived.WalkKit
import Derived.WalkSpells
import Derived.WalkLawsBesides
import Derived.BigQuiet
import Derived.Lib.Hide
namespace Go.Proofs.Ytfbhmkpihmcegaa
open Go.RowKit

def SomeBool (w : World) (e : Ending) (w' : World) : Prop := ∃ b : Bool, e = .returned (.bool b) ∧ w = w'

def withinB (n lo hi : Int) : Bool := decide (lo ≤ n ∧ n ≤ hi)
end Go.Proofs.Ytfbhmkpihmcegaa
