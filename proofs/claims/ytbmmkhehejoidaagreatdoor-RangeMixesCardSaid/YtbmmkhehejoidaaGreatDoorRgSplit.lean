/-
  strings.Split between any texts, in memory.
-/
import Derived.Test.YtbmmkhehejoidaaGreatDoorRgScan
namespace Go.Proofs.YtbmmkhehejoidaaGreatDoor
open Go.RowKit

/-- A row of texts. -/
structure StrR (w : World) (b : Nat) (ws : List ByteArray) : Prop where
  lt : b < w.heap.size
  at_ : ∀ j, j < ws.length → w.cell? ⟨b, j, none⟩ = some (.string (ws.getD j ⟨#[]⟩))
theorem StrR.below {w w' : World} {b : Nat} {ws : List ByteArray} (h : StrR w b ws) (hb : Below w.heap.size w w') : StrR w' b ws :=
  ⟨Nat.lt_of_lt_of_le h.lt hb.size, fun j hj => (hb.cell (p := ⟨b, j, none⟩) h.lt).trans (h.at_ j hj)⟩
theorem strR_blk {w : World} {b : Nat} {ws : List ByteArray} (h : Blk w b 9 (ws.map Value.string).toArray) : StrR w b ws := by
  refine ⟨h.lt, fun j hj => (h.cell j).trans ?_⟩
  rw [List.getElem?_toArray, List.getElem?_map, List.getD_eq_getElem?_getD, List.getElem?_eq_getElem hj]
  rfl
def SplP (ws : List ByteArray) (w : World) (e : Ending) (w' : World) : Prop := e = .returned (.slice (some ⟨w.heap.size, 0, none⟩) ws.length ws.length) ∧ StrR w' w.heap.size ws ∧ Below w.heap.size w w'
theorem splitAt_any (s sep : ByteArray) (w : World) (hG : GlobV w) (hs : s.size ≤ 2000) (h1 : 1 ≤ sep.size) : Calls Tryz.prog 22 #[.string s, .string sep] w (SplP (Lib.splitB sep 0 (Lib.countB s sep) s) w) := by
  obtain ⟨m, hm⟩ := hG.mx
  refine (Tryz.strings_Split s sep m w (by omega) hm h1).mono ?_
  rintro e w' ⟨rfl, rfl⟩
  have hl : (Lib.splitB sep 0 (Lib.countB s sep) s).length = Lib.countB s sep + 1 := Lib.splitB_all sep h1 0 _ s rfl
  exact ⟨by rw [hl], strR_blk (Blk.new w 9 _), (Below.refl _ _).alloc (Nat.le_refl _) _⟩
theorem bars_any (s : ByteArray) (w : World) (hG : GlobV w) (hs : s.size ≤ 2000) : Calls Tryz.prog 22 #[.string s, .string ⟨#[124, 124]⟩] w (SplP (barL s) w) := splitAt_any s ⟨#[124, 124]⟩ w hG hs (by decide)
theorem blanks_any (s : ByteArray) (w : World) (hG : GlobV w) (hs : s.size ≤ 2000) : Calls Tryz.prog 22 #[.string s, .string ⟨#[32]⟩] w (SplP (pcs 32 s) w) := splitAt_any s ⟨#[32]⟩ w hG hs (by decide)
/-- Pieces are no longer than the text. -/
theorem splitB_le (sep : ByteArray) : ∀ (k : Nat) (s p : ByteArray), p ∈ Lib.splitB sep 0 k s → p.size ≤ s.size := piece_size sep
theorem bar_le {s p : ByteArray} (h : p ∈ barL s) : p.size ≤ s.size := piece_size _ _ s p h
end Go.Proofs.YtbmmkhehejoidaaGreatDoor
