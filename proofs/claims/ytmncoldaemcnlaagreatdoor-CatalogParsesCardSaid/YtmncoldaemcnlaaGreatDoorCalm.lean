/-
  Regions that draw their order, whose operations read and whose callees leave what was there as it was.
-/
import Derived.Test.YtmncoldaemcnlaaGreatDoorFr
import Derived.Deep.QuietTactic
import Derived.BigQuiet
namespace Go.Proofs.YtmncoldaemcnlaaGreatDoor
open Go.RowKit

/-- A world in which all that was there stands as it stood. -/
structure Calm (w : World) where
  val : World
  bel : Below w.heap.size w val
instance calmThere (w : World) : Nonempty (Calm w) := ⟨⟨w, Below.refl _ _⟩⟩
theorem Calm.cell {w : World} (c : Calm w) {g i : Nat} (hg : g < w.heap.size) : c.val.cell? ⟨g, i, none⟩ = w.cell? ⟨g, i, none⟩ := c.bel.cell (p := ⟨g, i, none⟩) hg
theorem Calm.on {w w' : World} (c : Calm w) (hb : Below c.val.heap.size c.val w') : ∃ c' : Calm w, w' = c'.val := ⟨⟨w', c.bel.trans (hb.mono c.bel.size)⟩, rfl⟩
theorem wp_region_calm {P : Program} {id : Nat} {Q : Exit → Act → World → Prop} {a : Act} {w : World} {l : List Oper} (hm : P.follows .mixedOrders = true) (hB : Region.lexB .any l.toArray = true)
    (h : wpQuiet P l.toArray (fun w' => ∃ c : Calm w, w' = c.val) (fun a' => ∀ w', (∃ c : Calm w, w' = c.val) → Q .normal a' w') l a) : (Code.region id l.toArray true).wp P Q a w :=
  wp_region_quiet (C := fun w' => ∃ c : Calm w, w' = c.val) hm hB ⟨⟨w.drew, (Below.refl _ w).drew⟩, rfl⟩ (by simpa using h)
end Go.Proofs.YtmncoldaemcnlaaGreatDoor
