/-
  clause.Check and the reference's ClauseCheck: both tell 'checkF'. The reference's Bare and ClauseCheck: they tell 'checkF'.
-/
import Derived.Test.YtmncoldaemcnlaaGreatDoorFind
namespace Go.Proofs.YtmncoldaemcnlaaGreatDoor
open Go.RowKit

/-- The error value v is the fault f: (code, place); (0, -1): nil. -/
def IsErr (w : World) (v : Value) (f : Int × Int) : Prop :=
  (f = (0, -1) ∧ v = .nilIface) ∨ (f.2 = -1 ∧ 1 ≤ f.1 ∧ f.1 ≤ 13 ∧ v = .iface 28 (.int .i64 f.1)) ∨
    ∃ b, b < w.heap.size ∧ 1 ≤ f.1 ∧ f.1 ≤ 13 ∧ 0 ≤ f.2 ∧ v = .iface 138 (.pointer (some ⟨b, 0, none⟩)) ∧ Blk w b 139 #[.int .i64 f.1, .int .i64 f.2]
def GivesErr (w : World) (f : Int × Int) (e : Ending) (w' : World) : Prop := ∃ v, e = .returned v ∧ IsErr w' v f ∧ Below w.heap.size w w'

end Go.Proofs.YtmncoldaemcnlaaGreatDoor
namespace Go.Proofs.YtmncoldaemcnlaaGreatDoor
open Go.RowKit

/-- What the package-level variables hold. -/
structure Glob (w : World) : Prop where
  f0 : w.cell? ⟨1, 0, none⟩ = some (.int .i64 0)
  f1 : w.cell? ⟨1, 1, none⟩ = some (.int .i64 (-1))
  e0 : w.cell? ⟨2, 0, none⟩ = some (.iface 267 (.agg #[.pointer (some ⟨11, 40, none⟩)]))
theorem lt_of_cell {w : World} {a : Addr} {v : Value} (h : w.cell? a = some v) : a.block < w.heap.size := by
  rcases Nat.lt_or_ge a.block w.heap.size with hl | hl
  · exact hl
  · simp [World.cell?, Array.getElem?_eq_none hl] at h
/-- What errors.As leans on. -/
structure GlobE (w : World) : Prop where
  e0 : w.cell? ⟨2, 0, none⟩ = some (.iface 267 (.agg #[.pointer (some ⟨11, 40, none⟩)]))
theorem GlobE.below {w w' : World} (h : GlobE w) (hb : Below w.heap.size w w') : GlobE w' := ⟨(hb.cell (lt_of_cell h.e0)).trans h.e0⟩
theorem Glob.e {w : World} (h : Glob w) : GlobE w := ⟨h.e0⟩
theorem Glob.below {w w' : World} (h : Glob w) (hb : Below w.heap.size w w') : Glob w' :=
  ⟨(hb.cell (lt_of_cell h.f0)).trans h.f0, (hb.cell (lt_of_cell h.f1)).trans h.f1, (hb.cell (lt_of_cell h.e0)).trans h.e0⟩

def faultV (f : Int × Int) : Value := .agg #[.int .i64 f.1, .int .i64 f.2]
def GivesFault (w : World) (f : Int × Int) (e : Ending) (w' : World) : Prop := e = .returned (faultV f) ∧ Below w.heap.size w w'

theorem bare_any (c : Int) (w : World) : Calls Tryz.prog 43 #[.int .i64 c] w fun e w' => e = .returned (.agg #[.int .i64 c, .int .i64 (-1)]) ∧ w.alloc (.cells #[.int .i64 c, .int .i64 (-1)] 30) = w' := by
  go_enter Tryz.func43, Tryz.ntmps43
  go_wp2
  exact bodyPost_ret (v := .agg #[.int .i64 c, .int .i64 (-1)]) (by simp [results, Tryz.results43, go_sem]) rfl ⟨rfl, rfl⟩

end Go.Proofs.YtmncoldaemcnlaaGreatDoor
