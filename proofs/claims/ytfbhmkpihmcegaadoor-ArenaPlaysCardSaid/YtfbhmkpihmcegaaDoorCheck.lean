/-
  clause.Check and the reference's ClauseCheck: both tell 'checkF'.
-/
import Derived.Test.YtfbhmkpihmcegaaDoorFind
namespace Go.Proofs.YtfbhmkpihmcegaaDoor
open Go.RowKit

/-- The error value v is the fault f: (code, place); (0, -1): nil. -/
def IsErr (w : World) (v : Value) (f : Int × Int) : Prop :=
  (f = (0, -1) ∧ v = .nilIface) ∨ (f.2 = -1 ∧ 1 ≤ f.1 ∧ f.1 ≤ 13 ∧ v = .iface 29 (.int .i64 f.1)) ∨
    ∃ b, b < w.heap.size ∧ 1 ≤ f.1 ∧ f.1 ≤ 13 ∧ 0 ≤ f.2 ∧ v = .iface 171 (.pointer (some ⟨b, 0, none⟩)) ∧ Blk w b 173 #[.int .i64 f.1, .int .i64 f.2]
def GivesErr (w : World) (f : Int × Int) (e : Ending) (w' : World) : Prop := ∃ v, e = .returned v ∧ IsErr w' v f ∧ Below w.heap.size w w'

end Go.Proofs.YtfbhmkpihmcegaaDoor
