/-
  A number times a power of two, by limbs. No program in sight.
-/
import Derived.Test.YtpghgfenafhhbaaDoorMulPure
import Derived.Laws.BitsAllLaws
namespace Go.Proofs.YtpghgfenafhhbaaDoor

theorem two_dvd {s : Nat} (hs : s ≤ 31) : 2 ^ s ∣ 4294967296 := by
  have : (2 : Nat) ^ 32 = 4294967296 := by decide
  rw [← this]
  exact Nat.pow_dvd_pow 2 (by omega)
theorem lo_join {x s o : Nat} (hs : s ≤ 31) (ho : o < 2 ^ s) : o ||| (x * 2 ^ s) % 4294967296 = o + (x * 2 ^ s) % 4294967296 := by
  rw [Nat.or_comm, nat_join s _ _ ?_ ho, Nat.add_comm]
  rw [Nat.mod_mod_of_dvd _ (two_dvd hs)]
  exact Nat.mul_mod_left _ _
theorem lo_lt {x s o : Nat} (hs : s ≤ 31) (ho : o < 2 ^ s) : o + (x * 2 ^ s) % 4294967296 < 4294967296 := by
  rw [← lo_join hs ho]
  have h1 : (2 : Nat) ^ 32 = 4294967296 := by decide
  have h2 : 2 ^ s ≤ 4294967296 := Nat.le_of_dvd (by omega) (two_dvd hs)
  rw [← h1]
  exact Nat.or_lt_two_pow (by omega) (by rw [h1]; exact Nat.mod_lt _ (by omega))
theorem hi_lt {x s : Nat} (hx : x < 4294967296) : (x * 2 ^ s) / 4294967296 < 2 ^ s := by
  apply Nat.div_lt_of_lt_mul
  exact Nat.mul_lt_mul_of_pos_right hx (Nat.pow_pos (by omega))
/-- Where the shift stands. -/
structure LeftI (xs : List Nat) (s d i : Nat) (out : List Nat) : Prop where
  len : out.length = xs.length + d + 1
  lt : ∀ y ∈ out, y < 4294967296
  zero : ∀ p, i + d < p → out.getD p 0 = 0
  low : out.getD (i + d) 0 < 2 ^ s
  val : valL out = valL (xs.take i) * 2 ^ s * 4294967296 ^ d
theorem LeftI.start (xs : List Nat) (s d : Nat) : LeftI xs s d 0 (List.replicate (xs.length + d + 1) 0) := by
  have hz : ∀ p, (List.replicate (xs.length + d + 1) 0).getD p 0 = 0 := fun p => by
    rw [List.getD_eq_getElem?_getD, List.getElem?_replicate]
    split <;> rfl
  refine ⟨by simp, fun y hy => by rw [(List.mem_replicate.1 hy).2]; omega, fun p _ => hz p, by rw [hz]; exact Nat.pow_pos (by omega), ?_⟩
  rw [valL_zero _ fun y hy => (List.mem_replicate.1 hy).2]
  simp [valL]
theorem LeftI.next {xs : List Nat} {s d i x : Nat} {out : List Nat} (h : LeftI xs s d i out) (hs : s ≤ 31) (hi : i < xs.length) (hx : x = xs.getD i 0) (hxl : x < 4294967296) :
    LeftI xs s d (i + 1) ((out.set (i + d) (out.getD (i + d) 0 + (x * 2 ^ s) % 4294967296)).set (i + d + 1) ((x * 2 ^ s) / 4294967296)) := by
  have hp : i + d < out.length := by rw [h.len]; omega
  have hp2 : i + d + 1 < (out.set (i + d) (out.getD (i + d) 0 + (x * 2 ^ s) % 4294967296)).length := by rw [List.length_set, h.len]; omega
  have hlo := lo_lt (x := x) hs h.low
  have hhi := hi_lt (s := s) hxl
  have h2 : 2 ^ s ≤ 4294967296 := Nat.le_of_dvd (by omega) (two_dvd hs)
  refine ⟨by rw [List.length_set, List.length_set, h.len], mem_set_lt (mem_set_lt h.lt hlo) (by omega), fun p hpp => ?_, ?_, ?_⟩
  · rw [set_getD hp2, if_neg (by omega), set_getD hp, if_neg (by omega)]
    exact h.zero p (by omega)
  · rw [show i + 1 + d = i + d + 1 by omega, set_getD hp2, if_pos rfl]
    exact hhi
  · have e1 := valL_set _ (i + d + 1) ((x * 2 ^ s) / 4294967296) hp2
    rw [set_getD hp, if_neg (by omega), h.zero (i + d + 1) (by omega), Nat.zero_mul, Nat.add_zero] at e1
    have e2 := valL_set out (i + d) (out.getD (i + d) 0 + (x * 2 ^ s) % 4294967296) hp
    have e3 := Nat.div_add_mod (x * 2 ^ s) 4294967296
    rw [e1, valL_succ hi, ← hx, Nat.add_mul, Nat.add_mul, ← h.val]
    have e4 : x * 4294967296 ^ i * 2 ^ s * 4294967296 ^ d = x * 2 ^ s * 4294967296 ^ (i + d) := by
      rw [Nat.pow_add, Nat.mul_assoc, Nat.mul_assoc, Nat.mul_assoc, ← Nat.mul_assoc (4294967296 ^ i), Nat.mul_comm (4294967296 ^ i) (2 ^ s), Nat.mul_assoc]
    rw [e4]
    rw [Nat.pow_succ]
    generalize x * 2 ^ s = v at e2 e3 ⊢
    generalize 4294967296 ^ (i + d) = P at e2 ⊢
    generalize v / 4294967296 = a at e3 ⊢
    generalize v % 4294967296 = b at e2 e3 ⊢
    rw [← e3, Nat.add_mul]
    rw [Nat.add_mul] at e2
    have e5 : a * (P * 4294967296) = 4294967296 * a * P := by rw [Nat.mul_comm P, ← Nat.mul_assoc, Nat.mul_comm a]
    omega
theorem LeftI.fine {xs out : List Nat} {s d n : Nat} (h : LeftI xs s d xs.length out) (hn : n = 32 * d + s) : valL out = valL xs * 2 ^ n := by
  rw [h.val, List.take_length, hn, Nat.pow_add, Nat.pow_mul, show (2 : Nat) ^ 32 = 4294967296 by decide, Nat.mul_assoc, Nat.mul_comm (2 ^ s)]
end Go.Proofs.YtpghgfenafhhbaaDoor
