/-
  clause.Check and the reference's ClauseCheck: both tell 'checkF'. The reference's Bare and ClauseCheck: they tell 'checkF'.
-/
import Derived.Test.YtdlcldhnbhlikaaGreatDoorFind
namespace Go.Proofs.YtdlcldhnbhlikaaGreatDoor
open Go.RowKit

/-- The error value v is the fault f: (code, place); (0, -1): nil. -/
def IsErr (w : World) (v : Value) (f : Int × Int) : Prop :=
  (f = (0, -1) ∧ v = .nilIface) ∨ (f.2 = -1 ∧ 1 ≤ f.1 ∧ f.1 ≤ 13 ∧ v = .iface 37 (.int .i64 f.1)) ∨
    ∃ b, b < w.heap.size ∧ 1 ≤ f.1 ∧ f.1 ≤ 13 ∧ 0 ≤ f.2 ∧ v = .iface 148 (.pointer (some ⟨b, 0, none⟩)) ∧ Blk w b 150 #[.int .i64 f.1, .int .i64 f.2]
def GivesErr (w : World) (f : Int × Int) (e : Ending) (w' : World) : Prop := ∃ v, e = .returned v ∧ IsErr w' v f ∧ Below w.heap.size w w'

end Go.Proofs.YtdlcldhnbhlikaaGreatDoor
namespace Go.Proofs.YtdlcldhnbhlikaaGreatDoor
open Go.RowKit

theorem lt_of_cell {w : World} {a : Addr} {v : Value} (h : w.cell? a = some v) : a.block < w.heap.size := by
  rcases Nat.lt_or_ge a.block w.heap.size with hl | hl
  · exact hl
  · simp [World.cell?, Array.getElem?_eq_none hl] at h
/-- What errors.As leans on. -/
structure GlobE (w : World) : Prop where
  e0 : w.cell? ⟨0, 0, none⟩ = some (.iface 218 (.agg #[.pointer (some ⟨11, 30, none⟩)]))
theorem GlobE.below {w w' : World} (h : GlobE w) (hb : Below w.heap.size w w') : GlobE w' := ⟨(hb.cell (lt_of_cell h.e0)).trans h.e0⟩
def faultV (f : Int × Int) : Value := .agg #[.int .i64 f.1, .int .i64 f.2]
def GivesFault (w : World) (f : Int × Int) (e : Ending) (w' : World) : Prop := e = .returned (faultV f) ∧ Below w.heap.size w w'

theorem bare_any (c : Int) (w : World) : Calls Tryz.prog 45 #[.int .i64 c] w fun e w' => e = .returned (.agg #[.int .i64 c, .int .i64 (-1)]) ∧ w.alloc (.cells #[.int .i64 c, .int .i64 (-1)] 113) = w' := by
  go_enter Tryz.func45, Tryz.ntmps45
  go_wp2
  exact bodyPost_ret (v := .agg #[.int .i64 c, .int .i64 (-1)]) (by simp [results, Tryz.results45, go_sem]) rfl ⟨rfl, rfl⟩

end Go.Proofs.YtdlcldhnbhlikaaGreatDoor
