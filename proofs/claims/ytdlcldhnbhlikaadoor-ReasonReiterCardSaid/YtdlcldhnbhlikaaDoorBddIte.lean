/-
  A space's ite.
-/
import Derived.Test.YtdlcldhnbhlikaaDoorBddNode
import Derived.Test.YtdlcldhnbhlikaaDoorBddLaw
import Derived.Test.YtdlcldhnbhlikaaDoorCalm
import Derived.Laws.Cover1
import Derived.StillTailTactics
namespace Go.Proofs.YtdlcldhnbhlikaaDoor
open Go.RowKit Go.Maps

section
variable {w w' : World} {S B gn gu gt gc m : Nat} {vars : Int} {A A' : Ar}
theorem hasA_call (B gn gu gt : Nat) (A : Ar) (x : Int) (w : World) (h : ArM w B gn gu gt A) (hx : I64 x) (p : hasA A x = true) :
    Calls Tryd.prog 39 #[.pointer (some ⟨B, 0, none⟩), .int .i64 x] w (fun e w' => e = .returned (.bool true) ∧ w = w') :=
  (arHas_any B gn gu gt A x w h hx).mono (fun e w' ⟨e1, e2⟩ => ⟨by rw [e1, p], e2⟩)
theorem topI_le (A : Ar) (a b c : Int) : topI A a b c ≤ topA A a ∧ topI A a b c ≤ topA A b ∧ topI A a b c ≤ topA A c := min3_le _ _ _
/-- The key under which ite remembers. -/
def iteK (a b c : Int) : Value := .agg #[.int .i64 0, .int .i64 a, .int .i64 b, .int .i64 c]
end
section
variable (S B gn gu gt gc m : Nat) (vars : Int) (A : Ar) (w : World)
theorem lookZ_none {f : Int × Int × Int → Option Int} {k : Int × Int × Int} (h : f k = none) : ((f k).getD 0, (f k).isSome) = (0, false) := by rw [h]; rfl
end
end Go.Proofs.YtdlcldhnbhlikaaDoor
