/-
  The law's `bare`, of an error as the model has it.
-/
import Derived.Test.YtdlcldhnbhlikaaGreatDoorAt
import Derived.Test.YtdlcldhnbhlikaaGreatDoorBddG
namespace Go.Proofs.YtdlcldhnbhlikaaGreatDoor
open Go.RowKit Go.Maps

theorem bareC_any (v : Value) (c d : Int) (w : World) (hG : GlobE w) (h : IsErr w v (c, -1)) :
    Calls Tryz.prog 10 #[v, .int .i64 d] w (AtPost w (atB (c, -1) (d, -1))) := by
  have HB := hide ((Below.refl w.heap.size w).alloc (Nat.le_refl _) (.cells #[.int .i64 d, .int .i64 (-1)] 113))
  have HAT := hide (at_anyE v (c, -1) (d, -1) (w.alloc (.cells #[.int .i64 d, .int .i64 (-1)] 113)) (hG.below HB.out) (errBelowB h HB.out))
  unfold faultV at HAT
  generalize atB (c, -1) (d, -1) = b at HAT ⊢
  clear h hG
  go_enter Tryz.func10, Tryz.ntmps10
  go_wp2_with (go_at_call 45; refine (bare_any d _).mono ?_; rintro e w' ⟨rfl, rfl⟩)
  refine (HAT.out).mono ?_
  rintro e w4 ⟨rfl, hb4⟩
  go_wp2
  go_ret
  exact ⟨ret_bool (by simp), HB.out.trans (hb4.mono HB.out.size)⟩
theorem errV_isE {w : World} {c : Int} (h : c = 0 ∨ (1 ≤ c ∧ c ≤ 13)) : IsErr w (errV c) (c, -1) := by
  rcases h with e | ⟨h1, h2⟩
  · subst e; exact .inl ⟨rfl, errV_zero⟩
  · exact .inr (.inl ⟨rfl, h1, h2, errV_ne (by omega)⟩)
theorem bareS_any (c : Int) (w : World) (hG : GlobE w) (h : c = 0 ∨ (1 ≤ c ∧ c ≤ 13)) : Calls Tryz.prog 10 #[errV c, .int .i64 c] w (AtPost w true) := by
  have := bareC_any (errV c) c c w hG (errV_isE h)
  rw [atB_self] at this
  exact this
end Go.Proofs.YtdlcldhnbhlikaaGreatDoor
