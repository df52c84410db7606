/-
  The law RangeParses, walked.
-/
import Derived.Test.YtmncoldaemcnlaaGreatDoorRefParse
import Derived.Test.YtmncoldaemcnlaaGreatDoorRefText
import Derived.Test.YtmncoldaemcnlaaGreatDoorSpParse
namespace Go.Proofs.YtmncoldaemcnlaaGreatDoor
open Go.RowKit
set_option maxRecDepth 100000

/-- What Fine holds. -/
def FineP (w : World) : Prop := w.cell? ⟨1, 0, none⟩ = some (.int .i64 0) ∧ w.cell? ⟨1, 1, none⟩ = some (.int .i64 (-1))
theorem FineP.below {w w' : World} (h : FineP w) (hb : Below w.heap.size w w') : FineP w' := ⟨(hb.cell (lt_of_cell h.1)).trans h.1, (hb.cell (lt_of_cell h.2)).trans h.2⟩
/-- What both parses tell. -/
def BothP (s : ByteArray) (f : Int × Int) : Prop := if 1000 < s.size then f = ((4 : Int), (-1 : Int)) else ∃ q : Int × Nat, rangeR s = .inl q ∧ f = (q.1, (q.2 : Int))
theorem both_one {s : ByteArray} {f g : Int × Int} (h : BothP s f) (k : BothP s g) : f = g := by
  unfold BothP at h k
  split at h
  · rename_i hs
    rw [if_pos hs] at k
    rw [h, k]
  · rename_i hs
    rw [if_neg hs] at k
    obtain ⟨q, h1, rfl⟩ := h
    obtain ⟨p, k1, rfl⟩ := k
    rw [h1] at k1
    injection k1 with k1
    rw [k1]
theorem both_not {s : ByteArray} {f : Int × Int} {l : List (Nat × Nat)} (h : BothP s f) (hs : s.size ≤ 1000) (hr : rangeR s = .inr l) : False := by
  unfold BothP at h
  rw [if_neg (by omega)] at h
  obtain ⟨q, h1, _⟩ := h
  rw [h1] at hr
  cases hr
end Go.Proofs.YtmncoldaemcnlaaGreatDoor
