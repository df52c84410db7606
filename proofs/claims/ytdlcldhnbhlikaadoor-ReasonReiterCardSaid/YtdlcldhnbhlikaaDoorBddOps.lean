/-
  A space's set, and Set. A space's Ite, Not, And, Or, Xor, Some and Each.
-/
import Derived.Test.YtdlcldhnbhlikaaDoorBddIte
import Derived.Laws.EntriesVeiled
namespace Go.Proofs.YtdlcldhnbhlikaaDoor
open Go.RowKit Go.Maps

abbrev DoneM (w : World) (gd : Nat) (f : Int → Option Int) (md : Nat) : Prop := MapV 3 keyL I64 w gd f md
def setB (B gn gu gt gc gd k : Nat) : Prop := spB B gn gu gt gc k ∨ k = gd
section
variable {w w' : World} {S B gn gu gt gc m gd md : Nat} {vars : Int} {A A' : Ar} {x h : Int} {is : Bool}
theorem DoneM.look {f : Int → Option Int} (hd : DoneM w gd f md) {k : Int} (hk : I64 k) :
    (Instr.lookup 85 (.map (some gd)) (.int .i64 k) true).run Tryd.prog w = .ok (.tuple #[.int .i64 ((f k).getD 0), .bool (f k).isSome]) w :=
  MapV.lookRun keyS_int Tryd.underlying85 hd k hk
end
section
variable (S B gn gu gt gc m : Nat) (vars : Int) (A : Ar) (w : World) (gd md : Nat) (x : Int) (is : Bool) (h : Int)
theorem DoneM.node {w w' : World} {B gn gu gt gc gd md : Nat} {vars : Int} {A A' : Ar} {x : Int} {is : Bool} (hd : ∃ f, DoneM w gd f md ∧ DoneOk A x is f) (hf : Fr (spB B gn gu gt gc) w w') (hgs : ¬ spB B gn gu gt gc gd) (h : SpA A vars) (h' : SpA A' vars) (hx : ExtA A A') :
    ∃ f, DoneM w' gd f md ∧ DoneOk A' x is f := by
  obtain ⟨f, h1, h2⟩ := hd
  exact ⟨f, h1.fr hf hgs, h2.ext h h' hx⟩
end
section
variable (S B gn gu gt gc m : Nat) (vars : Int) (A : Ar) (w : World) (x : Int) (is : Bool) (h : Int)
end
end Go.Proofs.YtdlcldhnbhlikaaDoor
namespace Go.Proofs.YtdlcldhnbhlikaaDoor
open Go.RowKit Go.Maps

section
variable {w w' w1 : World} {S B gn gu gt gc m m1 : Nat} {vars : Int} {A A1 A2 : Ar} {F F1 F2 : (Int → Bool) → Bool} {c c1 c2 : Nat}
theorem SpA.top0 (h : SpA A vars) (x : Int) : 0 ≤ topA A x := (h.wf.topR x).1
theorem topI0 (h : SpA A vars) (a b c : Int) : 0 ≤ topI A a b c := by
  have := h.top0 a
  have := h.top0 b
  have := h.top0 c
  unfold topI min3
  omega
end
section
variable (S B gn gu gt gc m : Nat) (vars : Int) (A : Ar) (w : World)
end
end Go.Proofs.YtdlcldhnbhlikaaDoor
