/-
  The borrow of a difference of two limbs, by bits. No program in sight.
-/
import Derived.Test.YtpghgfenafhhbaaDoorCmpPure
import Derived.Laws.BitsAllLaws
namespace Go.Proofs.YtpghgfenafhhbaaDoor

theorem top_bit {m : Nat} (h : m < 4294967296) : m / 2147483648 = (m.testBit 31).toNat := by
  rw [Nat.testBit_eq_decide_div_mod_eq]
  have : (2 : Nat) ^ 31 = 2147483648 := by decide
  rw [this]
  by_cases h2 : m / 2147483648 % 2 = 1
  · rw [decide_eq_true h2]; simp; omega
  · rw [decide_eq_false h2]; simp; omega
theorem top_dec {m : Nat} (h : m < 4294967296) : m.testBit 31 = decide (2147483648 ≤ m) := by
  rw [Nat.testBit_eq_decide_div_mod_eq]
  have : (2 : Nat) ^ 31 = 2147483648 := by decide
  rw [this]
  exact decide_eq_decide.2 (by omega)
theorem top_not {m : Nat} (h : m < 4294967296) : (4294967295 - m).testBit 31 = !m.testBit 31 := by
  rw [top_dec h, top_dec (by omega)]
  by_cases h2 : 2147483648 ≤ m
  · rw [decide_eq_true h2, decide_eq_false (by omega)]; rfl
  · rw [decide_eq_false h2, decide_eq_true (by omega)]; rfl
theorem borrow_law {x y b : Nat} (hx : x < 4294967296) (hy : y < 4294967296) (hb : b ≤ 1) :
    (((4294967295 - x) &&& y) ||| ((4294967295 - (x ^^^ y)) &&& ((x + 4294967296 - y - b) % 4294967296))) / 2147483648 = if x < y + b then 1 else 0 := by
  have hxy : x ^^^ y < 4294967296 := Nat.xor_lt_two_pow (n := 32) (by omega) (by omega)
  have h1 : (4294967295 - x) &&& y < 4294967296 := Nat.lt_of_le_of_lt Nat.and_le_right hy
  have hD : (x + 4294967296 - y - b) % 4294967296 < 4294967296 := Nat.mod_lt _ (by omega)
  have h2 : (4294967295 - (x ^^^ y)) &&& ((x + 4294967296 - y - b) % 4294967296) < 4294967296 := Nat.lt_of_le_of_lt Nat.and_le_right hD
  rw [top_bit (Nat.or_lt_two_pow (n := 32) h1 h2), Nat.testBit_or, Nat.testBit_and, Nat.testBit_and, top_not hx, top_not hxy, Nat.testBit_xor, top_dec hx, top_dec hy, top_dec hD]
  by_cases a1 : 2147483648 ≤ x <;> by_cases a2 : 2147483648 ≤ y <;> by_cases a3 : 2147483648 ≤ (x + 4294967296 - y - b) % 4294967296 <;> simp only [a1, a2, a3, decide_true, decide_false] <;> by_cases a4 : x < y + b <;> simp [a4] <;> omega
theorem xor_ones {x : Nat} (hx : x < 4294967296) : 4294967295 ^^^ x = 4294967295 - x := by
  apply Nat.eq_of_testBit_eq
  intro i
  have e : 4294967295 - x = 2 ^ 32 - (x + 1) := by omega
  rw [Nat.testBit_xor, show (4294967295 : Nat) = 2 ^ 32 - 1 by decide, Nat.testBit_two_pow_sub_one, show 2 ^ 32 - 1 - x = 2 ^ 32 - (x + 1) by omega, Nat.testBit_two_pow_sub_succ (by omega)]
  by_cases hi : i < 32
  · simp [hi]
  · have hz : x.testBit i = false := Nat.testBit_lt_two_pow (Nat.lt_of_lt_of_le hx (show 2 ^ 32 ≤ 2 ^ i from Nat.pow_le_pow_right (by omega) (by omega)))
    simp [hi, hz]
theorem not_u32 {x : Nat} (hx : x < 4294967296) : bits .xor .u32 4294967295 (x : Int) = ((4294967295 - x : Nat) : Int) := by
  have := u32_xor_nat 4294967295 x (by omega) hx
  rw [xor_ones hx] at this
  exact this
theorem sub_step {x y c : Nat} (hx : x < 4294967296) (hy : y < 4294967296) (hc : c ≤ 1) : (x + 4294967296 - y - c) % 4294967296 + y + c = x + (if x < y + c then 1 else 0) * 4294967296 := by
  by_cases h : x < y + c
  · rw [if_pos h]; omega
  · rw [if_neg h]; omega
end Go.Proofs.YtpghgfenafhhbaaDoor
