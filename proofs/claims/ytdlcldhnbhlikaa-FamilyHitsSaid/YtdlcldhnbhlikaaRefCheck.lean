/-
  clause.Check and the reference's ClauseCheck: both tell 'checkF'. The reference's Bare and ClauseCheck: they tell 'checkF'.
-/
import Derived.Test.YtdlcldhnbhlikaaFind
namespace Go.Proofs.Ytdlcldhnbhlikaa
open Go.RowKit

end Go.Proofs.Ytdlcldhnbhlikaa
namespace Go.Proofs.Ytdlcldhnbhlikaa
open Go.RowKit

theorem lt_of_cell {w : World} {a : Addr} {v : Value} (h : w.cell? a = some v) : a.block < w.heap.size := by
  rcases Nat.lt_or_ge a.block w.heap.size with hl | hl
  · exact hl
  · simp [World.cell?, Array.getElem?_eq_none hl] at h
def faultV (f : Int × Int) : Value := .agg #[.int .i64 f.1, .int .i64 f.2]
def GivesFault (w : World) (f : Int × Int) (e : Ending) (w' : World) : Prop := e = .returned (faultV f) ∧ Below w.heap.size w w'

end Go.Proofs.Ytdlcldhnbhlikaa
