/-
  A space of functions in memory. A space's node, Lit and at.
-/
import Derived.Test.YtdlcldhnbhlikaaDoorBddLaw
import Derived.Test.YtdlcldhnbhlikaaDoorBddMap
import Derived.Test.YtdlcldhnbhlikaaDoorArenaSweep
import Derived.Test.YtdlcldhnbhlikaaDoorArenaMake2
namespace Go.Proofs.YtdlcldhnbhlikaaDoor
open Go.RowKit Go.Maps

/-- A space's blocks that its steps write. -/
def spB (B gn gu gt gc : Nat) (k : Nat) : Prop := arB B gn gu gt k ∨ k = gc
theorem blk_mapV {kt : TypeId} {α : Type} {lit : α → Lit} {ok : α → Prop} {w : World} {b g m : Nat} {t : TypeId} {cs : Array Value} {f : α → Option Int} (h : Blk w b t cs) (hm : MapV kt lit ok w g f m) : b ≠ g := by
  rintro rfl
  obtain ⟨D, ⟨es, clock, hb, _⟩, _⟩ := hm
  have := h.symm.trans hb
  cases this
section
variable {w w' : World} {S B gn gu gt gc m : Nat} {vars : Int} {A A' : Ar}
theorem fr_mono {P Q : Nat → Prop} (h : Fr P w w') (hPQ : ∀ k, P k → Q k) : Fr Q w w' := h.mono fun k _ hk => hPQ k hk
end
end Go.Proofs.YtdlcldhnbhlikaaDoor
namespace Go.Proofs.YtdlcldhnbhlikaaDoor
open Go.RowKit Go.Maps

section
variable {w w' : World} {S B gn gu gt gc m : Nat} {vars : Int} {A A' : Ar}
theorem StpA.refl (h : SpA A vars) {x : Int} (p : hasA A x = true) {t : Int} (ht : t ≤ topA A x) (c : Nat) {F : (Int → Bool) → Bool} (hF : ∀ v, Go.Proofs.YtdlcldhnbhlikaaDoor.den A x v = F v) : StpA A A vars c t x F :=
  ⟨h, .refl A, Nat.le_add_right _ _, p, ht, hF⟩
theorem i64_small {t : Int} (h0 : 0 ≤ t) (h1 : t ≤ 1000000) : I64 t := by unfold I64; omega
end
section
variable (S B gn gu gt gc m : Nat) (vars : Int) (A : Ar) (w : World)
theorem got_two {A : Ar} {x : Int} (h : x < 2) : gotA A x = none := by
  unfold gotA
  rw [if_neg (by omega)]
theorem den_zero (A : Ar) (v : Int → Bool) : den A 0 v = false := den_none (got_two (by omega))
theorem den_one (A : Ar) (v : Int → Bool) : den A 1 v = true := den_none (got_two (by omega))
def AtP (w : World) (A : Ar) (x t : Int) (e : Ending) (w' : World) : Prop := e = .returned (.tuple #[.int .i64 (atA A x t false), .int .i64 (atA A x t true)]) ∧ Below w.heap.size w w'
end
end Go.Proofs.YtdlcldhnbhlikaaDoor
