/-
  Products and sums by limbs; no program in sight.
-/
import Derived.Test.YtfbhmkpihmcegaaDoorNatPure
namespace Go.Proofs.YtfbhmkpihmcegaaDoor

theorem valL_set : ∀ (l : List Nat) (p y : Nat), p < l.length → valL (l.set p y) + l.getD p 0 * 4294967296 ^ p = valL l + y * 4294967296 ^ p := by
  intro l
  induction l with
  | nil => intro p y h; exact absurd h (Nat.not_lt_zero _)
  | cons x r ih =>
    intro p y h
    cases p with
    | zero => simp [valL]; omega
    | succ p =>
      have h1 := ih p y (by simpa using h)
      rw [List.set_cons_succ, valL, valL, Nat.pow_succ]
      have e : (x :: r).getD (p + 1) 0 = r.getD p 0 := rfl
      rw [e]
      generalize 4294967296 ^ p = P at h1 ⊢
      generalize r.getD p 0 = o at h1 ⊢
      have e1 : o * (P * 4294967296) = 4294967296 * (o * P) := by rw [Nat.mul_comm P, Nat.mul_left_comm]
      have e2 : y * (P * 4294967296) = 4294967296 * (y * P) := by rw [Nat.mul_comm P, Nat.mul_left_comm]
      omega
theorem set_getD {l : List Nat} {p q y : Nat} (h : p < l.length) : (l.set p y).getD q 0 = if p = q then y else l.getD q 0 := by
  rw [List.getD_eq_getElem?_getD, List.getElem?_set]
  split
  · rfl
  · rw [← List.getD_eq_getElem?_getD]
theorem valL_succ {l : List Nat} {k : Nat} (h : k < l.length) : valL (l.take (k + 1)) = valL (l.take k) + l.getD k 0 * 4294967296 ^ k := by
  rw [take_snoc l k 0 h, valL_append, List.length_take, Nat.min_eq_left (by omega)]
  simp [valL, Nat.mul_comm]
theorem limb_prod {x y : Nat} (hx : x < 4294967296) (hy : y < 4294967296) : x * y ≤ 18446744065119617025 :=
  Nat.mul_le_mul (show x ≤ 4294967295 by omega) (show y ≤ 4294967295 by omega)
/-- One limb of a product is put into its place. -/
theorem put_step {l : List Nat} {p z t : Nat} (hp : p < l.length) (ht : t = z + l.getD p 0) : valL (l.set p (t % 4294967296)) + t / 4294967296 * 4294967296 ^ (p + 1) = valL l + z * 4294967296 ^ p := by
  have h1 := valL_set l p (t % 4294967296) hp
  have h2 := Nat.div_add_mod t 4294967296
  rw [Nat.pow_succ]
  generalize 4294967296 ^ p = P at h1 ⊢
  generalize l.getD p 0 = o at h1 ht
  generalize t / 4294967296 = a at h2 ⊢
  generalize t % 4294967296 = b at h1 h2 ⊢
  have h3 : (z + o) * P = (4294967296 * a + b) * P := by rw [← ht, h2]
  rw [Nat.add_mul, Nat.add_mul] at h3
  have e1 : a * (P * 4294967296) = 4294967296 * a * P := by rw [Nat.mul_comm P, ← Nat.mul_assoc, Nat.mul_comm a]
  omega
/-- Where the inner loop stands. -/
structure MulI (b out0 : List Nat) (x i k : Nat) (out : List Nat) (c : Nat) : Prop where
  len : out.length = out0.length
  lt : ∀ y ∈ out, y < 4294967296
  zero : ∀ p, i + b.length ≤ p → out.getD p 0 = 0
  cl : c < 4294967296
  val : valL out + c * 4294967296 ^ (i + k) = valL out0 + x * valL (b.take k) * 4294967296 ^ i
structure MulO (a b : List Nat) (i : Nat) (out : List Nat) : Prop where
  len : out.length = a.length + b.length
  lt : ∀ y ∈ out, y < 4294967296
  zero : ∀ p, i + b.length ≤ p → out.getD p 0 = 0
  val : valL out = valL (a.take i) * valL b
theorem mem_set_lt {l : List Nat} {p v : Nat} (h : ∀ y ∈ l, y < 4294967296) (hv : v < 4294967296) : ∀ y ∈ l.set p v, y < 4294967296 := by
  intro y hy
  rcases List.mem_or_eq_of_mem_set hy with h1 | h1
  · exact h y h1
  · rw [h1]; exact hv
theorem MulO.start (a b : List Nat) : MulO a b 0 (List.replicate (a.length + b.length) 0) := by
  refine ⟨by simp, fun y hy => by rw [(List.mem_replicate.1 hy).2]; omega, fun p _ => ?_, ?_⟩
  · rw [List.getD_eq_getElem?_getD, List.getElem?_replicate]
    split <;> rfl
  · rw [valL_zero _ fun y hy => (List.mem_replicate.1 hy).2]
    simp [valL]
theorem MulO.inner {a b : List Nat} {i : Nat} {out : List Nat} (h : MulO a b i out) (x : Nat) : MulI b out x i 0 out 0 :=
  ⟨rfl, h.lt, h.zero, by omega, by simp [valL]⟩
theorem MulI.next {b out0 : List Nat} {x i k : Nat} {out : List Nat} {c t : Nat} (h : MulI b out0 x i k out c) (hk : k < b.length) (hp : i + k < out.length) (hx : x < 4294967296) (hb : b.getD k 0 < 4294967296) (ht : t = x * b.getD k 0 + c + out.getD (i + k) 0) :
    MulI b out0 x i (k + 1) (out.set (i + k) (t % 4294967296)) (t / 4294967296) := by
  have ho : out.getD (i + k) 0 < 4294967296 := by
    rw [List.getD_eq_getElem?_getD, List.getElem?_eq_getElem hp]
    exact h.lt _ (List.getElem_mem _)
  have hpr := limb_prod hx hb
  have hc := h.cl
  refine ⟨by rw [List.length_set]; exact h.len, mem_set_lt h.lt (Nat.mod_lt _ (by omega)), fun p hp2 => ?_, by omega, ?_⟩
  · rw [set_getD hp, if_neg (by omega)]
    exact h.zero p hp2
  · have h1 := put_step (z := x * b.getD k 0 + c) hp ht
    have h2 := h.val
    rw [← Nat.add_assoc, h1, valL_succ hk, Nat.mul_add, Nat.add_mul, Nat.add_mul]
    have e : x * (b.getD k 0 * 4294967296 ^ k) * 4294967296 ^ i = x * b.getD k 0 * 4294967296 ^ (i + k) := by
      rw [Nat.pow_add, Nat.mul_comm (4294967296 ^ i), ← Nat.mul_assoc, ← Nat.mul_assoc]
    omega
theorem MulI.done {a b out0 : List Nat} {x i : Nat} {out : List Nat} {c : Nat} (h0 : MulO a b i out0) (h : MulI b out0 x i b.length out c) (hi : i < a.length) (hx : x = a.getD i 0) : MulO a b (i + 1) (out.set (i + b.length) c) := by
  have hp : i + b.length < out.length := by rw [h.len, h0.len]; omega
  refine ⟨by rw [List.length_set, h.len, h0.len], mem_set_lt h.lt h.cl, fun p hp2 => ?_, ?_⟩
  · rw [set_getD hp, if_neg (by omega)]
    exact h.zero p (by omega)
  · have h1 := valL_set out (i + b.length) c hp
    rw [h.zero _ (Nat.le_refl _), Nat.zero_mul, Nat.add_zero] at h1
    rw [h1, h.val, List.take_length, h0.val, valL_succ hi, Nat.add_mul, hx]
    have e : a.getD i 0 * valL b * 4294967296 ^ i = a.getD i 0 * 4294967296 ^ i * valL b := by
      rw [Nat.mul_assoc, Nat.mul_comm (valL b), ← Nat.mul_assoc]
    omega
theorem MulO.fine {a b out : List Nat} (h : MulO a b a.length out) : valL out = valL a * valL b := by
  rw [h.val, List.take_length]
theorem valL_succ' (l : List Nat) (k : Nat) : valL (l.take (k + 1)) = valL (l.take k) + l.getD k 0 * 4294967296 ^ k := by
  rcases Nat.lt_or_ge k l.length with h | h
  · exact valL_succ h
  · rw [List.take_of_length_le (by omega), List.take_of_length_le h, List.getD_eq_getElem?_getD, List.getElem?_eq_none h]
    simp
/-- Where a sum stands. -/
structure AddI (a b : List Nat) (i : Nat) (out : List Nat) (c : Nat) : Prop where
  len : out.length = i
  lt : ∀ y ∈ out, y < 4294967296
  cl : c ≤ 1
  val : valL out + c * 4294967296 ^ i = valL (a.take i) + valL (b.take i)
theorem AddI.start (a b : List Nat) : AddI a b 0 [] 0 := ⟨rfl, by simp, by omega, by simp [valL]⟩
theorem AddI.next {a b : List Nat} {i : Nat} {out : List Nat} {c t : Nat} (h : AddI a b i out c) (hx : a.getD i 0 < 4294967296) (hy : b.getD i 0 < 4294967296) (ht : t = a.getD i 0 + b.getD i 0 + c) : AddI a b (i + 1) (out ++ [t % 4294967296]) (t / 4294967296) := by
  have hc := h.cl
  refine ⟨by rw [List.length_append, List.length_singleton, h.len], fun y hy => ?_, by omega, ?_⟩
  · rcases List.mem_append.1 hy with hy | hy
    · exact h.lt y hy
    · rw [List.mem_singleton.1 hy]; exact Nat.mod_lt _ (by omega)
  · have h1 := h.val
    have h2 := Nat.div_add_mod t 4294967296
    rw [valL_append, h.len, valL_succ', valL_succ', Nat.pow_succ]
    simp only [valL, Nat.mul_zero, Nat.add_zero]
    generalize 4294967296 ^ i = P at h1 ⊢
    generalize a.getD i 0 = x at ht ⊢
    generalize b.getD i 0 = y at ht ⊢
    generalize t / 4294967296 = q at h2 ⊢
    generalize t % 4294967296 = r at h2 ⊢
    have h3 : (4294967296 * q + r) * P = (x + y + c) * P := by rw [h2, ht]
    rw [Nat.add_mul, Nat.add_mul, Nat.add_mul] at h3
    have e1 : q * (P * 4294967296) = 4294967296 * q * P := by rw [Nat.mul_comm P, ← Nat.mul_assoc, Nat.mul_comm q]
    have e2 : P * r = r * P := Nat.mul_comm _ _
    omega
theorem AddI.fine {a b out : List Nat} {c : Nat} (h : AddI a b a.length out c) (hl : b.length ≤ a.length) : valL (out ++ [c]) = valL a + valL b := by
  have h1 := h.val
  rw [List.take_length, List.take_of_length_le hl] at h1
  rw [valL_append, h.len, ← h1]
  simp [valL, Nat.mul_comm]
end Go.Proofs.YtfbhmkpihmcegaaDoor
