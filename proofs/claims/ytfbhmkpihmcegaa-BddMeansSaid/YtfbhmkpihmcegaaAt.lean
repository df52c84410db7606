/-
  api.Tell, plain.Place and the law's own 'at': whether an error is a fault.
-/
import Derived.Test.YtfbhmkpihmcegaaAs
namespace Go.Proofs.Ytfbhmkpihmcegaa
open Go.RowKit

def TellPost (w : World) (c : Int) (e : Ending) (w' : World) : Prop := e = .returned (.int .i64 c) ∧ Below w.heap.size w w'

def PlacePost (w : World) (f : Int × Int) (e : Ending) (w' : World) : Prop := e = .returned (.tuple #[.int .i64 f.1, .int .i64 f.2]) ∧ Below w.heap.size w w'
def atB (f g : Int × Int) : Bool := decide (f.1 = g.1 ∧ f.2 = g.2)
def AtPost (w : World) (b : Bool) (e : Ending) (w' : World) : Prop := e = .returned (.bool b) ∧ Below w.heap.size w w'

theorem atB_self (f : Int × Int) : atB f f = true := by simp [atB]
end Go.Proofs.Ytfbhmkpihmcegaa
