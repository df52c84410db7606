/-
  The law's bare: an error is this one, without a place.
-/
import Derived.Test.YtfbhmkpihmcegaaDoorAt
namespace Go.Proofs.YtfbhmkpihmcegaaDoor
open Go.RowKit

theorem errBelowB {w w' : World} {v : Value} {f : Int × Int} (h : IsErr w v f) (hb : Below w.heap.size w w') : IsErr w' v f := by
  rcases h with h | h | ⟨b, h1, h2, h3, h4, h5, h6⟩
  · exact .inl h
  · exact .inr (.inl h)
  · exact .inr (.inr ⟨b, Nat.lt_of_lt_of_le h1 hb.size, h2, h3, h4, h5, h6.below hb h1⟩)
set_option maxHeartbeats 1000000 in
theorem bareB_any (v : Value) (c : Int) (w : World) (hG : GlobE w) (h : IsErr w v (c, -1)) :
    Calls Tryd.prog 9 #[v, .int .i64 c] w (AtPost w true) := by
  have HB := hide ((Below.refl w.heap.size w).alloc (Nat.le_refl _) (.cells #[.int .i64 c, .int .i64 (-1)] 103))
  have HAT := hide (at_anyE v (c, -1) (c, -1) (w.alloc (.cells #[.int .i64 c, .int .i64 (-1)] 103)) (hG.below HB.out) (errBelowB h HB.out))
  rw [atB_self] at HAT
  unfold faultV at HAT
  clear h hG
  go_enter Tryd.func9, Tryd.ntmps9
  go_wp2_with (go_at_call 60; refine (bare_any c _).mono ?_; rintro e w' ⟨rfl, rfl⟩)
  refine (HAT.out).mono ?_
  rintro e w4 ⟨rfl, hb4⟩
  go_wp2
  go_ret
  exact ⟨ret_bool (by simp), HB.out.trans (hb4.mono HB.out.size)⟩
end Go.Proofs.YtfbhmkpihmcegaaDoor
