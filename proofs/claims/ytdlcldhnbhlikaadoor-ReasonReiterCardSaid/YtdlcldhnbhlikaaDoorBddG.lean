/-
  A space's Holds. A space in which nothing is yet, of any room: Ite, Not, And, Or, All, Set, Some, Each, Holds, Size there. .. Not, And, Or, All, Set, Some, Each, Holds, Size, Lit of an empty space. .. Some, Each, All, Holds, Size, Lit of an empty space.
-/
import Derived.Test.YtdlcldhnbhlikaaDoorBddFunP
import Derived.Test.YtdlcldhnbhlikaaDoorBddTabM
import Derived.Laws.Bits64b
import Derived.Test.YtdlcldhnbhlikaaDoorFourOwn
namespace Go.Proofs.YtdlcldhnbhlikaaDoor
open Go.RowKit Go.Maps

theorem shr_bit (v x : Nat) (hv : v < 18446744073709551616) : (bits BinOp.and IntKind.u64 ((v : Int) / 2 ^ x) 1 == 1) = v.testBit x := by
  have e : ((v : Int) / 2 ^ x) = ((v >>> x : Nat) : Int) := by rw [Nat.shiftRight_eq_div_pow]; norm_cast
  have hl : v >>> x < 18446744073709551616 := Nat.lt_of_le_of_lt (Nat.shiftRight_le v x) hv
  rw [e, show (1 : Int) = ((1 : Nat) : Int) from rfl, bits_and_u64_nat _ _ hl (by omega), Nat.testBit, Nat.and_comm]
  have h1 : 1 &&& v >>> x = 0 ∨ 1 &&& v >>> x = 1 := by rw [Nat.one_and_eq_mod_two]; omega
  rcases h1 with h1 | h1 <;> rw [h1] <;> rfl
def HoldsP (w : World) (A : Ar) (x : Int) (u : Int → Bool) (e : Ending) (w' : World) : Prop := e = .returned (.tuple #[.bool (den A x u), .nilIface]) ∧ Below w.heap.size w w'
section
variable (S B gn gu gt gc m : Nat) (vars : Int) (A : Ar) (w : World)
/-- Where the way down stands. -/
structure HolI (A : Ar) (w : World) (x : Int) (u : Int → Bool) (y : Int) (wr : World) : Prop where
  bel : Below w.heap.size w wr
  has : hasA A y = true
  den : den A y u = den A x u
end
end Go.Proofs.YtdlcldhnbhlikaaDoor
namespace Go.Proofs.YtdlcldhnbhlikaaDoor
open Go.RowKit Go.Maps

/-- Is it one of the two ends? -/
def endB (x : Int) : Bool := x == 0 || x == 1
theorem hasE (R : Nat) (x : Int) : hasA (emptyA R) x = endB x := by
  unfold hasA endB
  rw [got_empty]
  simp
theorem endB_true {x : Int} (h : endB x = true) : x = 0 ∨ x = 1 := by unfold endB at h; simpa using h
theorem end_zero : endB 0 = true := rfl
theorem end_one : endB 1 = true := rfl
/-- An answer with an error, or without. -/
def AnsP (w : World) (x : Int) (c : Int) (e : Ending) (w' : World) : Prop := e = .returned (.tuple #[.int .i64 x, errV c]) ∧ Below w.heap.size w w'
/-- .. of which only the error matters. -/
def ErrP (w : World) (c : Int) (e : Ending) (w' : World) : Prop := ∃ v, e = .returned (.tuple #[v, errV c]) ∧ Below w.heap.size w w'
theorem AnsP.err {w w' : World} {x c : Int} {e : Ending} (h : AnsP w x c e w') : ErrP w c e w' := ⟨_, h.1, h.2⟩
def missE (x : Int) : Int := if endB x then 0 else 7
section
variable (S B gn gu gt gc : Nat) (vars : Int) (R : Nat) (w : World)
/-- What Ite answers. -/
def iteX (a b c : Int) : Int := if endB a && endB b && endB c then (if a = 1 then b else c) else 0
def iteC (a b c : Int) : Int := if endB a && endB b && endB c then 0 else 7
end
end Go.Proofs.YtdlcldhnbhlikaaDoor
namespace Go.Proofs.YtdlcldhnbhlikaaDoor
open Go.RowKit Go.Maps

theorem i64_zero : I64 0 := by unfold I64; omega
theorem i64_one : I64 1 := by unfold I64; omega
section
variable (S B gn gu gt gc : Nat) (vars : Int) (R : Nat) (w : World)
/-- The error of a step at a variable. -/
def varC (vars h v : Int) : Int := if v < 0 ∨ vars ≤ v then 2 else missE h
def setX (vars h v : Int) : Int := if varC vars h v = 0 then h else 0
end
end Go.Proofs.YtdlcldhnbhlikaaDoor
namespace Go.Proofs.YtdlcldhnbhlikaaDoor
open Go.RowKit Go.Maps

section
variable (S B gn gu gt gc : Nat) (vars : Int) (R : Nat) (w : World)
theorem iteC_ends {a b c : Int} (ha : endB a = true) (hb : endB b = true) (hc : endB c = true) : iteC a b c = 0 := by unfold iteC; rw [ha, hb, hc]; rfl
theorem varC_zero {vars x v : Int} (h : varC vars x v = 0) : endB x = true ∧ setX vars x v = x := by
  have h1 : setX vars x v = x := by unfold setX; rw [if_pos h]
  refine ⟨?_, h1⟩
  unfold varC at h
  split at h
  · cases h
  · unfold missE at h
    cases e : endB x
    · rw [e] at h; cases h
    · rfl
end
end Go.Proofs.YtdlcldhnbhlikaaDoor
