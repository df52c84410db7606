/-
  Which of two rows of limbs is the greater number; differences by limbs. No program in sight.
-/
import Derived.Test.YtpghgfenafhhbaaDoorMulPure
namespace Go.Proofs.YtpghgfenafhhbaaDoor

def cmpZ (N M : Nat) : Int := if N < M then -1 else if N = M then 0 else 1
theorem cmpZ_lt {N M : Nat} (h : N < M) : cmpZ N M = -1 := by unfold cmpZ; rw [if_pos h]
theorem cmpZ_eq {N M : Nat} (h : N = M) : cmpZ N M = 0 := by unfold cmpZ; rw [if_neg (by omega), if_pos h]
theorem cmpZ_gt {N M : Nat} (h : M < N) : cmpZ N M = 1 := by unfold cmpZ; rw [if_neg (by omega), if_neg (by omega)]
theorem valL_low : ∀ (l : List Nat), (∀ x ∈ l, x < 4294967296) → valL l < 4294967296 ^ l.length := by
  intro l
  induction l with
  | nil => intro _; simp [valL]
  | cons x r ih =>
    intro h
    have h1 := h x (List.mem_cons_self ..)
    have h2 := ih fun y hy => h y (List.mem_cons_of_mem _ hy)
    rw [valL, List.length_cons, Nat.pow_succ]
    omega
theorem valL_top {xs : List Nat} {k : Nat} (h : k < xs.length) : valL xs = valL (xs.take k) + 4294967296 ^ k * (xs.getD k 0 + 4294967296 * valL (xs.drop (k + 1))) := by
  have h1 := valL_append (xs.take k) (xs.drop k)
  rw [List.take_append_drop, List.length_take, Nat.min_eq_left (by omega), valL_drop h] at h1
  exact h1
theorem cmp_at {xs ys : List Nat} {k : Nat} (hx : k < xs.length) (hy : k < ys.length) (hlt : ∀ x ∈ xs, x < 4294967296) (hd : xs.drop (k + 1) = ys.drop (k + 1)) (h : xs.getD k 0 < ys.getD k 0) : valL xs < valL ys := by
  rw [valL_top hx, valL_top hy, hd]
  have h1 := valL_low (xs.take k) fun x hx2 => hlt x (List.mem_of_mem_take hx2)
  rw [List.length_take, Nat.min_eq_left (by omega)] at h1
  have h2 : 4294967296 ^ k * (xs.getD k 0 + 4294967296 * valL (ys.drop (k + 1)) + 1) ≤ 4294967296 ^ k * (ys.getD k 0 + 4294967296 * valL (ys.drop (k + 1))) := Nat.mul_le_mul_left _ (by omega)
  rw [Nat.mul_add, Nat.mul_one] at h2
  omega
theorem drop_same {xs ys : List Nat} {k : Nat} (hx : k < xs.length) (hy : k < ys.length) (hd : xs.drop (k + 1) = ys.drop (k + 1)) (h : xs.getD k 0 = ys.getD k 0) : xs.drop k = ys.drop k := by
  rw [List.getD_eq_getElem?_getD, List.getElem?_eq_getElem hx, List.getD_eq_getElem?_getD, List.getElem?_eq_getElem hy] at h
  rw [List.drop_eq_getElem_cons hx, List.drop_eq_getElem_cons hy, hd]
  simp at h
  rw [h]
theorem valL_ge2 {xs : List Nat} {n : Nat} (hl : xs.length = n + 1) (ht : TrimL xs) : 4294967296 ^ n ≤ valL xs := by
  have h1 := valL_succ (l := xs) (k := n) (by omega)
  rw [List.take_of_length_le (by omega)] at h1
  rcases ht with e | ht
  · rw [e] at hl; simp at hl
  · rw [hl, Nat.add_sub_cancel] at ht
    have := Nat.le_mul_of_pos_left (4294967296 ^ n) (show 0 < xs.getD n 0 by omega)
    omega
theorem cmp_len {xs ys : List Nat} (hlt : ∀ x ∈ xs, x < 4294967296) (ht : TrimL ys) (h : xs.length < ys.length) : valL xs < valL ys := by
  have h1 := valL_low xs hlt
  have h2 := valL_ge2 (xs := ys) (n := ys.length - 1) (by omega) ht
  have h3 : 4294967296 ^ xs.length ≤ 4294967296 ^ (ys.length - 1) := Nat.pow_le_pow_right (by omega) (by omega)
  omega
/-- Where a comparison from above stands. -/
structure CmpI (xs ys : List Nat) (k : Nat) : Prop where
  is : xs.drop k = ys.drop k

/-- Where a difference stands. -/
structure SubI (a b : List Nat) (i : Nat) (out : List Nat) (c : Nat) : Prop where
  len : out.length = i
  lt : ∀ y ∈ out, y < 4294967296
  cl : c ≤ 1
  val : valL out + valL (b.take i) = valL (a.take i) + c * 4294967296 ^ i
theorem sub_start (a b : List Nat) : SubI a b 0 [] 0 := ⟨rfl, by simp, by omega, by simp [valL]⟩
theorem SubI.next {a b : List Nat} {i : Nat} {out : List Nat} {c d r : Nat} (h : SubI a b i out c) (hd : d < 4294967296) (hr : r ≤ 1) (ht : d + b.getD i 0 + c = a.getD i 0 + r * 4294967296) : SubI a b (i + 1) (out ++ [d]) r := by
  refine ⟨by rw [List.length_append, List.length_singleton, h.len], fun y hy => ?_, hr, ?_⟩
  · rcases List.mem_append.1 hy with hy | hy
    · exact h.lt y hy
    · rw [List.mem_singleton.1 hy]; exact hd
  · have h1 := h.val
    rw [valL_append, h.len, valL_succ', valL_succ', Nat.pow_succ]
    simp only [valL, Nat.mul_zero, Nat.add_zero]
    generalize 4294967296 ^ i = P at h1 ⊢
    generalize a.getD i 0 = x at ht ⊢
    generalize b.getD i 0 = y at ht ⊢
    have h3 : (d + y + c) * P = (x + r * 4294967296) * P := by rw [ht]
    rw [Nat.add_mul, Nat.add_mul, Nat.add_mul] at h3
    have e1 : r * (P * 4294967296) = r * 4294967296 * P := by rw [Nat.mul_comm P, ← Nat.mul_assoc]
    have e2 : P * d = d * P := Nat.mul_comm _ _
    omega
theorem SubI.fine {a b out : List Nat} {c : Nat} (h : SubI a b a.length out c) (hl : b.length ≤ a.length) (hge : valL b ≤ valL a) : valL out = valL a - valL b := by
  have h1 := h.val
  rw [List.take_length, List.take_of_length_le hl] at h1
  have h2 := valL_low out h.lt
  rw [h.len] at h2
  have hc := h.cl
  rcases (show c = 0 ∨ c = 1 by omega) with e | e
  · subst e; omega
  · subst e; omega
end Go.Proofs.YtpghgfenafhhbaaDoor
