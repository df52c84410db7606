/-
  Natural numbers by limbs of 32 bits, and by decimal digits; no program in sight. Products and sums by limbs; no program in sight. Which of two rows of limbs is the greater number; differences by limbs. No program in sight. The borrow of a difference of two limbs, by bits. No program in sight. count.made, Of, Zero, Fits: numbers by limbs. count's Zero and Fits. math/bits.Div32, count.short: a number divided by one limb.
-/
import Derived.Lib.ItoaMem
import Derived.Test.YtdlcldhnbhlikaaDoorFind
import Derived.Laws.BitsAllLaws
import Derived.Test.YtdlcldhnbhlikaaDoorRefCheck
import Derived.IntWalk
import Derived.Deep.QuietTactic
import Derived.BigQuiet
namespace Go.Proofs.YtdlcldhnbhlikaaDoor

def valL : List Nat → Nat
  | [] => 0
  | x :: r => x + 4294967296 * valL r
theorem valL_append : ∀ (a b : List Nat), valL (a ++ b) = valL a + 4294967296 ^ a.length * valL b := by
  intro a
  induction a with
  | nil => intro b; simp [valL]
  | cons x r ih =>
    intro b
    rw [List.cons_append, valL, valL, ih, List.length_cons, Nat.pow_succ]
    rw [Nat.mul_add, Nat.mul_comm (4294967296 ^ r.length) 4294967296, Nat.mul_assoc, Nat.add_assoc]
theorem valL_zero : ∀ (l : List Nat), (∀ x ∈ l, x = 0) → valL l = 0 := by
  intro l
  induction l with
  | nil => intro _; rfl
  | cons x r ih =>
    intro h
    rw [valL, h x (List.mem_cons_self ..), ih fun y hy => h y (List.mem_cons_of_mem _ hy)]
theorem valL_take {xs : List Nat} {m : Nat} (h : ∀ i, m ≤ i → i < xs.length → xs.getD i 0 = 0) : valL (xs.take m) = valL xs := by
  have hz : valL (xs.drop m) = 0 := valL_zero _ fun x hx => by
    obtain ⟨i, hi, rfl⟩ := List.getElem_of_mem hx
    rw [List.length_drop] at hi
    have := h (m + i) (by omega) (by omega)
    rw [List.getD_eq_getElem?_getD, List.getElem?_eq_getElem (by omega)] at this
    rw [List.getElem_drop]
    simpa using this
  have := valL_append (xs.take m) (xs.drop m)
  rw [List.take_append_drop, hz] at this
  simpa using this.symm
theorem valL_pos {xs : List Nat} (h : ∃ i, i < xs.length ∧ xs.getD i 0 ≠ 0) : 0 < valL xs := by
  induction xs with
  | nil => obtain ⟨i, hi, _⟩ := h; exact absurd hi (Nat.not_lt_zero _)
  | cons x r ih =>
    obtain ⟨i, hi, hne⟩ := h
    rw [valL]
    cases i with
    | zero => have : x ≠ 0 := by simpa using hne
              omega
    | succ i =>
      have := ih ⟨i, by simpa using hi, by simpa using hne⟩
      omega
/-- No zero on top. -/
def TrimL (xs : List Nat) : Prop := xs = [] ∨ xs.getD (xs.length - 1) 0 ≠ 0
theorem TrimL.pos {xs : List Nat} (h : TrimL xs) (hne : xs ≠ []) : 0 < valL xs := by
  rcases h with h | h
  · exact absurd h hne
  · exact valL_pos ⟨xs.length - 1, by have := List.length_pos_iff.2 hne; omega, h⟩
theorem valL_drop {xs : List Nat} {j : Nat} (h : j < xs.length) : valL (xs.drop j) = xs.getD j 0 + 4294967296 * valL (xs.drop (j + 1)) := by
  rw [List.drop_eq_getElem_cons h, valL, List.getD_eq_getElem?_getD, List.getElem?_eq_getElem h]; rfl
/-- One step of a division by one limb. -/
theorem short_step {d r x q s v w : Nat} (hd : 0 < d) (hr : r < d) (hx : x < 4294967296) (hv : w = v * d + r) (hq : q = (r * 4294967296 + x) / d) (hs : s = (r * 4294967296 + x) % d) :
    x + 4294967296 * w = (q + 4294967296 * v) * d + s ∧ s < d ∧ q < 4294967296 := by
  have h1 := Nat.div_add_mod (r * 4294967296 + x) d
  rw [← hq, ← hs] at h1
  refine ⟨?_, by rw [hs]; exact Nat.mod_lt _ hd, ?_⟩
  · rw [hv, Nat.add_mul, Nat.mul_add, ← Nat.mul_assoc]
    have e1 : q * d = d * q := Nat.mul_comm _ _
    have e2 : 4294967296 * v * d = 4294967296 * (v * d) := Nat.mul_assoc _ _ _
    omega
  · rw [hq]
    exact (Nat.div_lt_iff_lt_mul hd).2 (by
      have : (r + 1) * 4294967296 ≤ d * 4294967296 := Nat.mul_le_mul_right _ hr
      rw [Nat.mul_comm 4294967296 d]
      omega)

def decL : List Nat → Nat
  | [] => 0
  | d :: r => d + 10 * decL r
theorem decL_append : ∀ (a b : List Nat), decL (a ++ b) = decL a + 10 ^ a.length * decL b := by
  intro a
  induction a with
  | nil => intro b; simp [decL]
  | cons x r ih =>
    intro b
    rw [List.cons_append, decL, decL, ih, List.length_cons, Nat.pow_succ]
    rw [Nat.mul_add, Nat.mul_comm (10 ^ r.length) 10, Nat.mul_assoc, Nat.add_assoc]
theorem decL_pos {ds : List Nat} (hne : ds ≠ []) (h : ds.getD (ds.length - 1) 0 ≠ 0) : 0 < decL ds := by
  induction ds with
  | nil => exact absurd rfl hne
  | cons d r ih =>
    rw [decL]
    cases r with
    | nil => have : d ≠ 0 := by simpa using h
             omega
    | cons e r =>
      have := ih (by simp) (by simpa using h)
      omega
theorem digits_text : ∀ (ds : List Nat), (∀ d ∈ ds, d < 10) → ds ≠ [] → ds.getD (ds.length - 1) 0 ≠ 0 → Lib.decDigits (decL ds) = (ds.map fun d => UInt8.ofNat (48 + d)).reverse := by
  intro ds
  induction ds with
  | nil => intro _ h _; exact absurd rfl h
  | cons d r ih =>
    intro hd _ hl
    have hd0 := hd d (List.mem_cons_self ..)
    cases r with
    | nil =>
      rw [Lib.decDigits, decL, decL, dif_pos (by omega)]
      simp
    | cons e r =>
      have hp := decL_pos (ds := e :: r) (by simp) (by simpa using hl)
      have := ih (fun x hx => hd x (List.mem_cons_of_mem _ hx)) (by simp) (by simpa using hl)
      rw [Lib.decDigits, decL, dif_neg (by omega)]
      rw [show (d + 10 * decL (e :: r)) / 10 = decL (e :: r) by omega, show (d + 10 * decL (e :: r)) % 10 = d by omega, this]
      simp
theorem decL_take {ds : List Nat} {m : Nat} (h : ∀ i, m ≤ i → i < ds.length → ds.getD i 0 = 0) : decL (ds.take m) = decL ds := by
  have hz : ∀ l : List Nat, (∀ x ∈ l, x = 0) → decL l = 0 := by
    intro l
    induction l with
    | nil => intro _; rfl
    | cons x r ih =>
      intro h
      rw [decL, h x (List.mem_cons_self ..), ih fun y hy => h y (List.mem_cons_of_mem _ hy)]
  have h0 : decL (ds.drop m) = 0 := hz _ fun x hx => by
    obtain ⟨i, hi, rfl⟩ := List.getElem_of_mem hx
    rw [List.length_drop] at hi
    have := h (m + i) (by omega) (by omega)
    rw [List.getD_eq_getElem?_getD, List.getElem?_eq_getElem (by omega)] at this
    rw [List.getElem_drop]
    simpa using this
  have := decL_append (ds.take m) (ds.drop m)
  rw [List.take_append_drop, h0] at this
  simpa using this.symm
/-- The digits of r, k of them. -/
def digs : Nat → Nat → List Nat
  | 0, _ => []
  | k + 1, r => r % 10 :: digs k (r / 10)
theorem digs_len : ∀ (k r : Nat), (digs k r).length = k := by
  intro k
  induction k with
  | zero => intro _; rfl
  | succ k ih => intro r; rw [digs, List.length_cons, ih]
theorem digs_lt : ∀ (k r : Nat), ∀ d ∈ digs k r, d < 10 := by
  intro k
  induction k with
  | zero => intro r d h; cases h
  | succ k ih =>
    intro r d h
    rw [digs] at h
    rcases List.mem_cons.1 h with e | h
    · omega
    · exact ih _ d h
theorem digs_val : ∀ (k r : Nat), r < 10 ^ k → decL (digs k r) = r := by
  intro k
  induction k with
  | zero => intro r h; simp at h; simp [digs, decL, h]
  | succ k ih =>
    intro r h
    rw [digs, decL, ih (r / 10) (by rw [Nat.pow_succ] at h; omega)]
    omega
theorem digs_snoc : ∀ (k r : Nat), digs (k + 1) r = digs k r ++ [r / 10 ^ k % 10] := by
  intro k
  induction k with
  | zero => intro r; simp [digs]
  | succ k ih =>
    intro r
    rw [digs, ih (r / 10), digs, List.cons_append]
    congr 2
    rw [Nat.div_div_eq_div_mul, Nat.pow_succ, Nat.mul_comm]
end Go.Proofs.YtdlcldhnbhlikaaDoor
namespace Go.Proofs.YtdlcldhnbhlikaaDoor

theorem valL_set : ∀ (l : List Nat) (p y : Nat), p < l.length → valL (l.set p y) + l.getD p 0 * 4294967296 ^ p = valL l + y * 4294967296 ^ p := by
  intro l
  induction l with
  | nil => intro p y h; exact absurd h (Nat.not_lt_zero _)
  | cons x r ih =>
    intro p y h
    cases p with
    | zero => simp [valL]; omega
    | succ p =>
      have h1 := ih p y (by simpa using h)
      rw [List.set_cons_succ, valL, valL, Nat.pow_succ]
      have e : (x :: r).getD (p + 1) 0 = r.getD p 0 := rfl
      rw [e]
      generalize 4294967296 ^ p = P at h1 ⊢
      generalize r.getD p 0 = o at h1 ⊢
      have e1 : o * (P * 4294967296) = 4294967296 * (o * P) := by rw [Nat.mul_comm P, Nat.mul_left_comm]
      have e2 : y * (P * 4294967296) = 4294967296 * (y * P) := by rw [Nat.mul_comm P, Nat.mul_left_comm]
      omega
theorem set_getD {l : List Nat} {p q y : Nat} (h : p < l.length) : (l.set p y).getD q 0 = if p = q then y else l.getD q 0 := by
  rw [List.getD_eq_getElem?_getD, List.getElem?_set]
  split
  · rfl
  · rw [← List.getD_eq_getElem?_getD]
theorem valL_succ {l : List Nat} {k : Nat} (h : k < l.length) : valL (l.take (k + 1)) = valL (l.take k) + l.getD k 0 * 4294967296 ^ k := by
  rw [take_snoc l k 0 h, valL_append, List.length_take, Nat.min_eq_left (by omega)]
  simp [valL, Nat.mul_comm]
theorem limb_prod {x y : Nat} (hx : x < 4294967296) (hy : y < 4294967296) : x * y ≤ 18446744065119617025 :=
  Nat.mul_le_mul (show x ≤ 4294967295 by omega) (show y ≤ 4294967295 by omega)
/-- One limb of a product is put into its place. -/
theorem put_step {l : List Nat} {p z t : Nat} (hp : p < l.length) (ht : t = z + l.getD p 0) : valL (l.set p (t % 4294967296)) + t / 4294967296 * 4294967296 ^ (p + 1) = valL l + z * 4294967296 ^ p := by
  have h1 := valL_set l p (t % 4294967296) hp
  have h2 := Nat.div_add_mod t 4294967296
  rw [Nat.pow_succ]
  generalize 4294967296 ^ p = P at h1 ⊢
  generalize l.getD p 0 = o at h1 ht
  generalize t / 4294967296 = a at h2 ⊢
  generalize t % 4294967296 = b at h1 h2 ⊢
  have h3 : (z + o) * P = (4294967296 * a + b) * P := by rw [← ht, h2]
  rw [Nat.add_mul, Nat.add_mul] at h3
  have e1 : a * (P * 4294967296) = 4294967296 * a * P := by rw [Nat.mul_comm P, ← Nat.mul_assoc, Nat.mul_comm a]
  omega
/-- Where the inner loop stands. -/
structure MulI (b out0 : List Nat) (x i k : Nat) (out : List Nat) (c : Nat) : Prop where
  len : out.length = out0.length
  lt : ∀ y ∈ out, y < 4294967296
  zero : ∀ p, i + b.length ≤ p → out.getD p 0 = 0
  cl : c < 4294967296
  val : valL out + c * 4294967296 ^ (i + k) = valL out0 + x * valL (b.take k) * 4294967296 ^ i
structure MulO (a b : List Nat) (i : Nat) (out : List Nat) : Prop where
  len : out.length = a.length + b.length
  lt : ∀ y ∈ out, y < 4294967296
  zero : ∀ p, i + b.length ≤ p → out.getD p 0 = 0
  val : valL out = valL (a.take i) * valL b
theorem mem_set_lt {l : List Nat} {p v : Nat} (h : ∀ y ∈ l, y < 4294967296) (hv : v < 4294967296) : ∀ y ∈ l.set p v, y < 4294967296 := by
  intro y hy
  rcases List.mem_or_eq_of_mem_set hy with h1 | h1
  · exact h y h1
  · rw [h1]; exact hv
theorem MulO.start (a b : List Nat) : MulO a b 0 (List.replicate (a.length + b.length) 0) := by
  refine ⟨by simp, fun y hy => by rw [(List.mem_replicate.1 hy).2]; omega, fun p _ => ?_, ?_⟩
  · rw [List.getD_eq_getElem?_getD, List.getElem?_replicate]
    split <;> rfl
  · rw [valL_zero _ fun y hy => (List.mem_replicate.1 hy).2]
    simp [valL]
theorem MulO.inner {a b : List Nat} {i : Nat} {out : List Nat} (h : MulO a b i out) (x : Nat) : MulI b out x i 0 out 0 :=
  ⟨rfl, h.lt, h.zero, by omega, by simp [valL]⟩
theorem MulI.next {b out0 : List Nat} {x i k : Nat} {out : List Nat} {c t : Nat} (h : MulI b out0 x i k out c) (hk : k < b.length) (hp : i + k < out.length) (hx : x < 4294967296) (hb : b.getD k 0 < 4294967296) (ht : t = x * b.getD k 0 + c + out.getD (i + k) 0) :
    MulI b out0 x i (k + 1) (out.set (i + k) (t % 4294967296)) (t / 4294967296) := by
  have ho : out.getD (i + k) 0 < 4294967296 := by
    rw [List.getD_eq_getElem?_getD, List.getElem?_eq_getElem hp]
    exact h.lt _ (List.getElem_mem _)
  have hpr := limb_prod hx hb
  have hc := h.cl
  refine ⟨by rw [List.length_set]; exact h.len, mem_set_lt h.lt (Nat.mod_lt _ (by omega)), fun p hp2 => ?_, by omega, ?_⟩
  · rw [set_getD hp, if_neg (by omega)]
    exact h.zero p hp2
  · have h1 := put_step (z := x * b.getD k 0 + c) hp ht
    have h2 := h.val
    rw [← Nat.add_assoc, h1, valL_succ hk, Nat.mul_add, Nat.add_mul, Nat.add_mul]
    have e : x * (b.getD k 0 * 4294967296 ^ k) * 4294967296 ^ i = x * b.getD k 0 * 4294967296 ^ (i + k) := by
      rw [Nat.pow_add, Nat.mul_comm (4294967296 ^ i), ← Nat.mul_assoc, ← Nat.mul_assoc]
    omega
theorem MulI.done {a b out0 : List Nat} {x i : Nat} {out : List Nat} {c : Nat} (h0 : MulO a b i out0) (h : MulI b out0 x i b.length out c) (hi : i < a.length) (hx : x = a.getD i 0) : MulO a b (i + 1) (out.set (i + b.length) c) := by
  have hp : i + b.length < out.length := by rw [h.len, h0.len]; omega
  refine ⟨by rw [List.length_set, h.len, h0.len], mem_set_lt h.lt h.cl, fun p hp2 => ?_, ?_⟩
  · rw [set_getD hp, if_neg (by omega)]
    exact h.zero p (by omega)
  · have h1 := valL_set out (i + b.length) c hp
    rw [h.zero _ (Nat.le_refl _), Nat.zero_mul, Nat.add_zero] at h1
    rw [h1, h.val, List.take_length, h0.val, valL_succ hi, Nat.add_mul, hx]
    have e : a.getD i 0 * valL b * 4294967296 ^ i = a.getD i 0 * 4294967296 ^ i * valL b := by
      rw [Nat.mul_assoc, Nat.mul_comm (valL b), ← Nat.mul_assoc]
    omega
theorem MulO.fine {a b out : List Nat} (h : MulO a b a.length out) : valL out = valL a * valL b := by
  rw [h.val, List.take_length]
theorem valL_succ' (l : List Nat) (k : Nat) : valL (l.take (k + 1)) = valL (l.take k) + l.getD k 0 * 4294967296 ^ k := by
  rcases Nat.lt_or_ge k l.length with h | h
  · exact valL_succ h
  · rw [List.take_of_length_le (by omega), List.take_of_length_le h, List.getD_eq_getElem?_getD, List.getElem?_eq_none h]
    simp
/-- Where a sum stands. -/
structure AddI (a b : List Nat) (i : Nat) (out : List Nat) (c : Nat) : Prop where
  len : out.length = i
  lt : ∀ y ∈ out, y < 4294967296
  cl : c ≤ 1
  val : valL out + c * 4294967296 ^ i = valL (a.take i) + valL (b.take i)
theorem AddI.start (a b : List Nat) : AddI a b 0 [] 0 := ⟨rfl, by simp, by omega, by simp [valL]⟩
theorem AddI.next {a b : List Nat} {i : Nat} {out : List Nat} {c t : Nat} (h : AddI a b i out c) (hx : a.getD i 0 < 4294967296) (hy : b.getD i 0 < 4294967296) (ht : t = a.getD i 0 + b.getD i 0 + c) : AddI a b (i + 1) (out ++ [t % 4294967296]) (t / 4294967296) := by
  have hc := h.cl
  refine ⟨by rw [List.length_append, List.length_singleton, h.len], fun y hy => ?_, by omega, ?_⟩
  · rcases List.mem_append.1 hy with hy | hy
    · exact h.lt y hy
    · rw [List.mem_singleton.1 hy]; exact Nat.mod_lt _ (by omega)
  · have h1 := h.val
    have h2 := Nat.div_add_mod t 4294967296
    rw [valL_append, h.len, valL_succ', valL_succ', Nat.pow_succ]
    simp only [valL, Nat.mul_zero, Nat.add_zero]
    generalize 4294967296 ^ i = P at h1 ⊢
    generalize a.getD i 0 = x at ht ⊢
    generalize b.getD i 0 = y at ht ⊢
    generalize t / 4294967296 = q at h2 ⊢
    generalize t % 4294967296 = r at h2 ⊢
    have h3 : (4294967296 * q + r) * P = (x + y + c) * P := by rw [h2, ht]
    rw [Nat.add_mul, Nat.add_mul, Nat.add_mul] at h3
    have e1 : q * (P * 4294967296) = 4294967296 * q * P := by rw [Nat.mul_comm P, ← Nat.mul_assoc, Nat.mul_comm q]
    have e2 : P * r = r * P := Nat.mul_comm _ _
    omega
theorem AddI.fine {a b out : List Nat} {c : Nat} (h : AddI a b a.length out c) (hl : b.length ≤ a.length) : valL (out ++ [c]) = valL a + valL b := by
  have h1 := h.val
  rw [List.take_length, List.take_of_length_le hl] at h1
  rw [valL_append, h.len, ← h1]
  simp [valL, Nat.mul_comm]
end Go.Proofs.YtdlcldhnbhlikaaDoor
namespace Go.Proofs.YtdlcldhnbhlikaaDoor

def cmpZ (N M : Nat) : Int := if N < M then -1 else if N = M then 0 else 1
theorem cmpZ_lt {N M : Nat} (h : N < M) : cmpZ N M = -1 := by unfold cmpZ; rw [if_pos h]
theorem cmpZ_eq {N M : Nat} (h : N = M) : cmpZ N M = 0 := by unfold cmpZ; rw [if_neg (by omega), if_pos h]
theorem cmpZ_gt {N M : Nat} (h : M < N) : cmpZ N M = 1 := by unfold cmpZ; rw [if_neg (by omega), if_neg (by omega)]
theorem valL_low : ∀ (l : List Nat), (∀ x ∈ l, x < 4294967296) → valL l < 4294967296 ^ l.length := by
  intro l
  induction l with
  | nil => intro _; simp [valL]
  | cons x r ih =>
    intro h
    have h1 := h x (List.mem_cons_self ..)
    have h2 := ih fun y hy => h y (List.mem_cons_of_mem _ hy)
    rw [valL, List.length_cons, Nat.pow_succ]
    omega
theorem valL_top {xs : List Nat} {k : Nat} (h : k < xs.length) : valL xs = valL (xs.take k) + 4294967296 ^ k * (xs.getD k 0 + 4294967296 * valL (xs.drop (k + 1))) := by
  have h1 := valL_append (xs.take k) (xs.drop k)
  rw [List.take_append_drop, List.length_take, Nat.min_eq_left (by omega), valL_drop h] at h1
  exact h1
theorem cmp_at {xs ys : List Nat} {k : Nat} (hx : k < xs.length) (hy : k < ys.length) (hlt : ∀ x ∈ xs, x < 4294967296) (hd : xs.drop (k + 1) = ys.drop (k + 1)) (h : xs.getD k 0 < ys.getD k 0) : valL xs < valL ys := by
  rw [valL_top hx, valL_top hy, hd]
  have h1 := valL_low (xs.take k) fun x hx2 => hlt x (List.mem_of_mem_take hx2)
  rw [List.length_take, Nat.min_eq_left (by omega)] at h1
  have h2 : 4294967296 ^ k * (xs.getD k 0 + 4294967296 * valL (ys.drop (k + 1)) + 1) ≤ 4294967296 ^ k * (ys.getD k 0 + 4294967296 * valL (ys.drop (k + 1))) := Nat.mul_le_mul_left _ (by omega)
  rw [Nat.mul_add, Nat.mul_one] at h2
  omega
theorem drop_same {xs ys : List Nat} {k : Nat} (hx : k < xs.length) (hy : k < ys.length) (hd : xs.drop (k + 1) = ys.drop (k + 1)) (h : xs.getD k 0 = ys.getD k 0) : xs.drop k = ys.drop k := by
  rw [List.getD_eq_getElem?_getD, List.getElem?_eq_getElem hx, List.getD_eq_getElem?_getD, List.getElem?_eq_getElem hy] at h
  rw [List.drop_eq_getElem_cons hx, List.drop_eq_getElem_cons hy, hd]
  simp at h
  rw [h]
theorem valL_ge2 {xs : List Nat} {n : Nat} (hl : xs.length = n + 1) (ht : TrimL xs) : 4294967296 ^ n ≤ valL xs := by
  have h1 := valL_succ (l := xs) (k := n) (by omega)
  rw [List.take_of_length_le (by omega)] at h1
  rcases ht with e | ht
  · rw [e] at hl; simp at hl
  · rw [hl, Nat.add_sub_cancel] at ht
    have := Nat.le_mul_of_pos_left (4294967296 ^ n) (show 0 < xs.getD n 0 by omega)
    omega
theorem cmp_len {xs ys : List Nat} (hlt : ∀ x ∈ xs, x < 4294967296) (ht : TrimL ys) (h : xs.length < ys.length) : valL xs < valL ys := by
  have h1 := valL_low xs hlt
  have h2 := valL_ge2 (xs := ys) (n := ys.length - 1) (by omega) ht
  have h3 : 4294967296 ^ xs.length ≤ 4294967296 ^ (ys.length - 1) := Nat.pow_le_pow_right (by omega) (by omega)
  omega
/-- Where a comparison from above stands. -/
structure CmpI (xs ys : List Nat) (k : Nat) : Prop where
  is : xs.drop k = ys.drop k

/-- Where a difference stands. -/
structure SubI (a b : List Nat) (i : Nat) (out : List Nat) (c : Nat) : Prop where
  len : out.length = i
  lt : ∀ y ∈ out, y < 4294967296
  cl : c ≤ 1
  val : valL out + valL (b.take i) = valL (a.take i) + c * 4294967296 ^ i
theorem sub_start (a b : List Nat) : SubI a b 0 [] 0 := ⟨rfl, by simp, by omega, by simp [valL]⟩
theorem SubI.next {a b : List Nat} {i : Nat} {out : List Nat} {c d r : Nat} (h : SubI a b i out c) (hd : d < 4294967296) (hr : r ≤ 1) (ht : d + b.getD i 0 + c = a.getD i 0 + r * 4294967296) : SubI a b (i + 1) (out ++ [d]) r := by
  refine ⟨by rw [List.length_append, List.length_singleton, h.len], fun y hy => ?_, hr, ?_⟩
  · rcases List.mem_append.1 hy with hy | hy
    · exact h.lt y hy
    · rw [List.mem_singleton.1 hy]; exact hd
  · have h1 := h.val
    rw [valL_append, h.len, valL_succ', valL_succ', Nat.pow_succ]
    simp only [valL, Nat.mul_zero, Nat.add_zero]
    generalize 4294967296 ^ i = P at h1 ⊢
    generalize a.getD i 0 = x at ht ⊢
    generalize b.getD i 0 = y at ht ⊢
    have h3 : (d + y + c) * P = (x + r * 4294967296) * P := by rw [ht]
    rw [Nat.add_mul, Nat.add_mul, Nat.add_mul] at h3
    have e1 : r * (P * 4294967296) = r * 4294967296 * P := by rw [Nat.mul_comm P, ← Nat.mul_assoc]
    have e2 : P * d = d * P := Nat.mul_comm _ _
    omega
theorem SubI.fine {a b out : List Nat} {c : Nat} (h : SubI a b a.length out c) (hl : b.length ≤ a.length) (hge : valL b ≤ valL a) : valL out = valL a - valL b := by
  have h1 := h.val
  rw [List.take_length, List.take_of_length_le hl] at h1
  have h2 := valL_low out h.lt
  rw [h.len] at h2
  have hc := h.cl
  rcases (show c = 0 ∨ c = 1 by omega) with e | e
  · subst e; omega
  · subst e; omega
end Go.Proofs.YtdlcldhnbhlikaaDoor
namespace Go.Proofs.YtdlcldhnbhlikaaDoor

theorem top_bit {m : Nat} (h : m < 4294967296) : m / 2147483648 = (m.testBit 31).toNat := by
  rw [Nat.testBit_eq_decide_div_mod_eq]
  have : (2 : Nat) ^ 31 = 2147483648 := by decide
  rw [this]
  by_cases h2 : m / 2147483648 % 2 = 1
  · rw [decide_eq_true h2]; simp; omega
  · rw [decide_eq_false h2]; simp; omega
theorem top_dec {m : Nat} (h : m < 4294967296) : m.testBit 31 = decide (2147483648 ≤ m) := by
  rw [Nat.testBit_eq_decide_div_mod_eq]
  have : (2 : Nat) ^ 31 = 2147483648 := by decide
  rw [this]
  exact decide_eq_decide.2 (by omega)
theorem top_not {m : Nat} (h : m < 4294967296) : (4294967295 - m).testBit 31 = !m.testBit 31 := by
  rw [top_dec h, top_dec (by omega)]
  by_cases h2 : 2147483648 ≤ m
  · rw [decide_eq_true h2, decide_eq_false (by omega)]; rfl
  · rw [decide_eq_false h2, decide_eq_true (by omega)]; rfl
theorem borrow_law {x y b : Nat} (hx : x < 4294967296) (hy : y < 4294967296) (hb : b ≤ 1) :
    (((4294967295 - x) &&& y) ||| ((4294967295 - (x ^^^ y)) &&& ((x + 4294967296 - y - b) % 4294967296))) / 2147483648 = if x < y + b then 1 else 0 := by
  have hxy : x ^^^ y < 4294967296 := Nat.xor_lt_two_pow (n := 32) (by omega) (by omega)
  have h1 : (4294967295 - x) &&& y < 4294967296 := Nat.lt_of_le_of_lt Nat.and_le_right hy
  have hD : (x + 4294967296 - y - b) % 4294967296 < 4294967296 := Nat.mod_lt _ (by omega)
  have h2 : (4294967295 - (x ^^^ y)) &&& ((x + 4294967296 - y - b) % 4294967296) < 4294967296 := Nat.lt_of_le_of_lt Nat.and_le_right hD
  rw [top_bit (Nat.or_lt_two_pow (n := 32) h1 h2), Nat.testBit_or, Nat.testBit_and, Nat.testBit_and, top_not hx, top_not hxy, Nat.testBit_xor, top_dec hx, top_dec hy, top_dec hD]
  by_cases a1 : 2147483648 ≤ x <;> by_cases a2 : 2147483648 ≤ y <;> by_cases a3 : 2147483648 ≤ (x + 4294967296 - y - b) % 4294967296 <;> simp only [a1, a2, a3, decide_true, decide_false] <;> by_cases a4 : x < y + b <;> simp [a4] <;> omega
theorem xor_ones {x : Nat} (hx : x < 4294967296) : 4294967295 ^^^ x = 4294967295 - x := by
  apply Nat.eq_of_testBit_eq
  intro i
  have e : 4294967295 - x = 2 ^ 32 - (x + 1) := by omega
  rw [Nat.testBit_xor, show (4294967295 : Nat) = 2 ^ 32 - 1 by decide, Nat.testBit_two_pow_sub_one, show 2 ^ 32 - 1 - x = 2 ^ 32 - (x + 1) by omega, Nat.testBit_two_pow_sub_succ (by omega)]
  by_cases hi : i < 32
  · simp [hi]
  · have hz : x.testBit i = false := Nat.testBit_lt_two_pow (Nat.lt_of_lt_of_le hx (show 2 ^ 32 ≤ 2 ^ i from Nat.pow_le_pow_right (by omega) (by omega)))
    simp [hi, hz]
theorem not_u32 {x : Nat} (hx : x < 4294967296) : bits .xor .u32 4294967295 (x : Int) = ((4294967295 - x : Nat) : Int) := by
  have := u32_xor_nat 4294967295 x (by omega) hx
  rw [xor_ones hx] at this
  exact this
theorem sub_step {x y c : Nat} (hx : x < 4294967296) (hy : y < 4294967296) (hc : c ≤ 1) : (x + 4294967296 - y - c) % 4294967296 + y + c = x + (if x < y + c then 1 else 0) * 4294967296 := by
  by_cases h : x < y + c
  · rw [if_pos h]; omega
  · rw [if_neg h]; omega
end Go.Proofs.YtdlcldhnbhlikaaDoor
namespace Go.Proofs.YtdlcldhnbhlikaaDoor
open Go.RowKit

theorem sizeAl (w : World) (o : Obj) : (w.alloc o).heap.size = w.heap.size + 1 := by simp
theorem sizeSet (w : World) (p : Addr) (u : Value) : (w.setCell p u).heap.size = w.heap.size := by simp [World.setCell]
def Lim (w : World) (B : Nat) (A : Option Addr) (n : Nat) (xs : List Nat) : Prop :=
  xs.length = n ∧ n ≤ maxLen ∧ (∀ x ∈ xs, x < 4294967296) ∧ Reads w B 1 A n (xs.map fun x : Nat => Value.int .u32 (x : Int))
section
variable {w w' : World} {B n : Nat} {A : Option Addr} {xs : List Nat}
theorem Lim.below (h : Lim w B A n xs) (hb : Below B w w') : Lim w' B A n xs := ⟨h.1, h.2.1, h.2.2.1, h.2.2.2.below hb⟩
theorem Lim.more (h : Lim w B A n xs) {B' : Nat} (hB : B ≤ B') : Lim w B' A n xs := ⟨h.1, h.2.1, h.2.2.1, h.2.2.2.more hB⟩
theorem Lim.at_ (h : Lim w B A n xs) {k : Nat} (hk : k < n) : ∃ ad, A = some ad ∧ ad.block < B ∧ w.cell? (ad.add k) = some (.int .u32 ((xs.getD k 0 : Nat) : Int)) ∧ xs.getD k 0 < 4294967296 := by
  obtain ⟨ad, u, e, hb, hu, hc⟩ := h.2.2.2.at_ hk
  have hkl : k < xs.length := by rw [h.1]; exact hk
  have he : xs.getD k 0 = xs[k] := by rw [List.getD_eq_getElem?_getD, List.getElem?_eq_getElem hkl]; rfl
  rw [List.getElem?_map, List.getElem?_eq_getElem hkl] at hu
  refine ⟨ad, e, hb, ?_, by rw [he]; exact h.2.2.1 _ (List.getElem_mem hkl)⟩
  rw [he, hc, ← hu]
  rfl
theorem Lim.take (h : Lim w B A n xs) {m : Nat} (hm : m ≤ n) : Lim w B A m (xs.take m) := by
  refine ⟨by rw [List.length_take, h.1, Nat.min_eq_left hm], Nat.le_trans hm h.2.1, fun x hx => h.2.2.1 x (List.mem_of_mem_take hx), by rw [List.length_map, List.length_take, h.1, Nat.min_eq_left hm, Nat.mul_one], fun h0 => ?_⟩
  obtain ⟨ad, e, hb, hc⟩ := h.2.2.2.2 (by omega)
  refine ⟨ad, e, hb, fun j u hu => hc j u ?_⟩
  rw [List.map_take] at hu
  rcases Nat.lt_or_ge j m with hj | hj
  · rw [List.getElem?_take_of_lt hj] at hu; exact hu
  · rw [List.getElem?_eq_none (by rw [List.length_take]; omega)] at hu; cases hu
end

def lenV : Value → Nat
  | .slice _ n _ => n
  | _ => 0
def MadePost (w : World) (A : Option Addr) (c : Nat) (xs : List Nat) (e : Ending) (w' : World) : Prop :=
  ∃ m, m ≤ xs.length ∧ e = .returned (.agg #[.slice A m c]) ∧ TrimL (xs.take m) ∧ valL (xs.take m) = valL xs ∧ Below w.heap.size w w'
structure MadeI (xs : List Nat) (m : Nat) : Prop where
  zero : ∀ i, m ≤ i → i < xs.length → xs.getD i 0 = 0
theorem trim_take {xs : List Nat} {m : Nat} (hm : m ≤ xs.length) (h : m = 0 ∨ xs.getD (m - 1) 0 ≠ 0) : TrimL (xs.take m) := by
  rcases Nat.eq_zero_or_pos m with h0 | h0
  · exact .inl (by rw [h0]; rfl)
  · refine .inr ?_
    rcases h with h | h
    · omega
    · rw [List.length_take, Nat.min_eq_left hm, List.getD_eq_getElem?_getD, List.getElem?_take_of_lt (by omega), ← List.getD_eq_getElem?_getD]
      exact h
set_option maxHeartbeats 1000000 in
theorem made_any (A : Option Addr) (n c : Nat) (xs : List Nat) (w : World) (h : Lim w w.heap.size A n xs) (hc : n ≤ c) :
    Calls Tryd.prog 62 #[.slice A n c] w (MadePost w A c xs) := by
  have HL := Lib.hid h.1
  have hm := h.2.1
  simp only [maxLen] at hm
  have HI := hide h
  have HB := hide ((Below.refl w.heap.size w).alloc (Nat.le_refl _) (.cells #[.slice none 0 0] 35))
  clear h
  go_enter Tryd.func62, Tryd.ntmps62
  go_wp2
  go_loopw [0] (fun v wr => ∃ m : Nat, m ≤ n ∧ v = .slice A m c ∧ wr = w.alloc (.cells #[.slice none 0 0] 35) ∧ Hid (MadeI xs m)) (fun v _ => lenV v)
  case atStart => exact ⟨n, Nat.le_refl _, rfl, rfl, hide ⟨fun i h1 h2 => by have := HL.out; omega⟩⟩
  case round =>
    obtain ⟨m, hmn, rfl, rfl, hM⟩ := hrel
    rcases Nat.eq_zero_or_pos m with h0 | h0
    · subst h0
      go_wp2
      exact bodyPost_ret (v := .agg #[.slice A 0 c]) (by simp [results, Tryd.results62, go_sem]) rfl ⟨0, Nat.zero_le _, rfl, .inl rfl, valL_take hM.out.zero, (Below.refl w.heap.size w).alloc (Nat.le_refl _) _⟩
    · obtain ⟨k, rfl⟩ : ∃ k, m = k + 1 := ⟨m - 1, by omega⟩
      obtain ⟨ad, rfl, hb, hcell, hx⟩ := HI.out.at_ (k := k) (by omega)
      have hc2 := (HB.out.cell (by rw [block_of_add]; exact hb)).trans hcell
      clear hcell
      have HX := hide (show xs.getD k 0 = 0 → ∀ i, k ≤ i → i < xs.length → xs.getD i 0 = 0 from fun h i h1 h2 => by
        rcases Nat.lt_or_ge k i with h3 | h3
        · exact hM.out.zero i h3 h2
        · obtain rfl : i = k := by omega
          exact h)
      have HY := hide (show xs.getD k 0 ≠ 0 → TrimL (xs.take (k + 1)) from fun h => trim_take (by have := HL.out; omega) (.inr (by simpa using h)))
      generalize xs.getD k 0 = x at hc2 hx HX HY
      by_cases hz : x = 0
      · subst hz
        go_wp2
        go_roundw
        case rel => exact ⟨k, by omega, by simp, by first | rfl | trivial, hide ⟨HX.out rfl⟩⟩
        case measure => simp [lenV]
      · have hzb : ((x : Int) == 0) = false := by simp; omega
        go_wp2
        exact bodyPost_ret (v := .agg #[.slice (some ad) (k + 1) c]) (by simp [results, Tryd.results62, go_sem]) rfl ⟨k + 1, by have := HL.out; omega, rfl, HY.out hz, valL_take hM.out.zero, (Below.refl w.heap.size w).alloc (Nat.le_refl _) _⟩

/-- The number in v is N. -/
structure NatV (w : World) (v : Value) (N : Nat) : Prop where
  is : ∃ A n c xs, v = .agg #[.slice A n c] ∧ n ≤ c ∧ Lim w w.heap.size A n xs ∧ TrimL xs ∧ valL xs = N
theorem lim_set {w : World} {B n g : Nat} {ad : Addr} {xs : List Nat} (h : Lim w B (some ad) n xs) (hg : ad.block ≠ g) (u : Value) : Lim (w.setCell ⟨g, 0, none⟩ u) B (some ad) n xs := by
  refine ⟨h.1, h.2.1, h.2.2.1, h.2.2.2.1, fun hn => ?_⟩
  obtain ⟨ad', e, hb, hc⟩ := h.2.2.2.2 hn
  cases e
  exact ⟨ad, rfl, hb, fun j u hu => (World.cell?_setCell_other _ _ _ _ (fun e => hg (by rw [← block_of_add ad j, ← e]))).trans (hc j u hu)⟩
theorem two_lim (w : World) (a b : Nat) (x y : Int) (u : Value) (hx : x = a) (hy : y = b) (ha : a < 4294967296) (hb : b < 4294967296) : Lim ((w.alloc (.cells #[u] 35)).alloc (.cells #[.int .u32 x, .int .u32 y] 100)) ((w.alloc (.cells #[u] 35)).alloc (.cells #[.int .u32 x, .int .u32 y] 100)).heap.size (some ⟨w.heap.size + 1, 0, none⟩) 2 [a, b] := by
  subst hx hy
  refine ⟨rfl, by simp [maxLen], fun x hx => ?_, rfl, fun _ => ⟨_, rfl, by simp, fun j u hu => ?_⟩⟩
  · simp at hx
    omega
  · match j, hu with
    | 0, hu => simp at hu; subst hu; simp [Addr.add]
    | 1, hu => simp at hu; subst hu; simp [Addr.add]
def OfPost (w : World) (N : Nat) (e : Ending) (w' : World) : Prop := ∃ v, e = .returned v ∧ NatV w' v N ∧ Below w.heap.size w w'

set_option maxHeartbeats 1000000 in
theorem of_nat (N : Nat) (w : World) (hN : N < 9223372036854775808) : Calls Tryd.prog 41 #[.int .i64 N] w (OfPost w N) := by
  have HL := hide (two_lim w (N % 4294967296) (N / 4294967296) ((N : Int) % 4294967296) ((N : Int) / 4294967296) (.slice none 0 0) (by omega) (by omega) (by omega) (by omega))
  have HM := hide (made_any (some ⟨w.heap.size + 1, 0, none⟩) 2 2 [(N % 4294967296), (N / 4294967296)] _ HL.out (Nat.le_refl _))
  have HB := hide (((Below.refl w.heap.size w).alloc (Nat.le_refl _) (.cells #[.slice none 0 0] 35)).alloc (by simp) (.cells #[.int .u32 ((N : Int) % 4294967296), .int .u32 ((N : Int) / 4294967296)] 100))
  have hsz : w.heap.size < ((w.alloc (.cells #[.slice none 0 0] 35)).alloc (.cells #[.int .u32 ((N : Int) % 4294967296), .int .u32 ((N : Int) / 4294967296)] 100)).heap.size := by simp; omega
  have HK := hide ((Blk.new w 35 #[.slice none 0 0]).alloc (.cells #[.int .u32 ((N : Int) % 4294967296), .int .u32 ((N : Int) / 4294967296)] 100))
  have HV := Lib.hid (show valL [(N % 4294967296), (N / 4294967296)] = N by simp only [valL]; try omega)
  go_enter Tryd.func41, Tryd.ntmps41
  go_wp2_with fail
  generalize ((w.alloc (.cells #[.slice none 0 0] 35)).alloc (.cells #[.int .u32 ((N : Int) % 4294967296), .int .u32 ((N : Int) / 4294967296)] 100)) = w1 at HL HM HB HK hsz ⊢
  refine (HM.out).mono ?_
  rintro e w2 ⟨m, hm, rfl, htr, hval, hb2⟩
  have HK2 := hide (HK.out.below hb2 HK.out.lt)
  have HB2 := hide (HB.out.trans (hb2.mono HB.out.size))
  have HLX := hide ((HL.out.take hm).below hb2 |>.more hb2.size)
  have c0 := HK2.out.cell 0
  have f0 := HK2.out.frozen 0
  have HP := hide (HK2.out.set_ 0 (.slice (some ⟨w.heap.size + 1, 0, none⟩) m 2))
  have HP0 := HP.out.cell 0
  have hm2 : m ≤ 2 := hm
  have HNV := hide (show NatV (w2.setCell ⟨w.heap.size, 0, none⟩ (.slice (some ⟨w.heap.size + 1, 0, none⟩) m 2)) (.agg #[.slice (some ⟨w.heap.size + 1, 0, none⟩) m 2]) N from ⟨_, m, 2, _, rfl, hm2, by rw [sizeSet]; exact lim_set HLX.out (by simp) _, htr, by rw [hval, HV.out]⟩)
  clear hb2 htr hval
  go_wp2
  exact bodyPost_ret (v := .agg #[.slice (some ⟨w.heap.size + 1, 0, none⟩) m 2]) (by simp [results, Tryd.results41, go_sem, HP0]) rfl ⟨_, rfl, HNV.out, HB2.out.setCell (p := ⟨w.heap.size, 0, none⟩) (Nat.le_refl _) _⟩
set_option maxHeartbeats 1000000 in
theorem of_neg (n : Int) (w : World) (hn : n < 0) : Calls Tryd.prog 41 #[.int .i64 n] w (OfPost w 0) := by
  have HL := hide (two_lim w 0 0 0 0 (.slice none 0 0) (by omega) (by omega) (by omega) (by omega))
  have HM := hide (made_any (some ⟨w.heap.size + 1, 0, none⟩) 2 2 [0, 0] _ HL.out (Nat.le_refl _))
  have HB := hide (((Below.refl w.heap.size w).alloc (Nat.le_refl _) (.cells #[.slice none 0 0] 35)).alloc (by simp) (.cells #[.int .u32 0, .int .u32 0] 100))
  have hsz : w.heap.size < ((w.alloc (.cells #[.slice none 0 0] 35)).alloc (.cells #[.int .u32 0, .int .u32 0] 100)).heap.size := by simp; omega
  have HK := hide ((Blk.new w 35 #[.slice none 0 0]).alloc (.cells #[.int .u32 0, .int .u32 0] 100))
  have HV := Lib.hid (show valL [0, 0] = 0 by simp only [valL]; try omega)
  go_enter Tryd.func41, Tryd.ntmps41
  go_wp2_with fail
  generalize ((w.alloc (.cells #[.slice none 0 0] 35)).alloc (.cells #[.int .u32 0, .int .u32 0] 100)) = w1 at HL HM HB HK hsz ⊢
  refine (HM.out).mono ?_
  rintro e w2 ⟨m, hm, rfl, htr, hval, hb2⟩
  have HK2 := hide (HK.out.below hb2 HK.out.lt)
  have HB2 := hide (HB.out.trans (hb2.mono HB.out.size))
  have HLX := hide ((HL.out.take hm).below hb2 |>.more hb2.size)
  have c0 := HK2.out.cell 0
  have f0 := HK2.out.frozen 0
  have HP := hide (HK2.out.set_ 0 (.slice (some ⟨w.heap.size + 1, 0, none⟩) m 2))
  have HP0 := HP.out.cell 0
  have hm2 : m ≤ 2 := hm
  have HNV := hide (show NatV (w2.setCell ⟨w.heap.size, 0, none⟩ (.slice (some ⟨w.heap.size + 1, 0, none⟩) m 2)) (.agg #[.slice (some ⟨w.heap.size + 1, 0, none⟩) m 2]) 0 from ⟨_, m, 2, _, rfl, hm2, by rw [sizeSet]; exact lim_set HLX.out (by simp) _, htr, by rw [hval, HV.out]⟩)
  clear hb2 htr hval
  go_wp2
  exact bodyPost_ret (v := .agg #[.slice (some ⟨w.heap.size + 1, 0, none⟩) m 2]) (by simp [results, Tryd.results41, go_sem, HP0]) rfl ⟨_, rfl, HNV.out, HB2.out.setCell (p := ⟨w.heap.size, 0, none⟩) (Nat.le_refl _) _⟩
theorem of_any (n : Int) (w : World) (hn : n ≤ 9223372036854775807) : Calls Tryd.prog 41 #[.int .i64 n] w (OfPost w (max 0 n).toNat) := by
  by_cases h0 : n < 0
  · rw [show (max 0 n).toNat = 0 by omega]
    exact of_neg n w h0
  · obtain ⟨N, rfl⟩ : ∃ N : Nat, n = N := ⟨n.toNat, by omega⟩
    rw [show (max 0 (N : Int)).toNat = N by omega]
    exact of_nat N w (by omega)
end Go.Proofs.YtdlcldhnbhlikaaDoor
namespace Go.Proofs.YtdlcldhnbhlikaaDoor
open Go.RowKit

theorem NatV.below {w w' : World} {v : Value} {N : Nat} (h : NatV w v N) (hb : Below w.heap.size w w') : NatV w' v N := by
  obtain ⟨A, n, c, xs, h1, h2, h3, h4, h5⟩ := h.is
  exact ⟨A, n, c, xs, h1, h2, (h3.below hb).more hb.size, h4, h5⟩
theorem trim_zero {xs : List Nat} {n N : Nat} (hl : xs.length = n) (ht : TrimL xs) (hv : valL xs = N) : N = 0 ↔ n = 0 := by
  constructor
  · intro h
    rcases Nat.eq_zero_or_pos n with h0 | h0
    · exact h0
    · have := ht.pos (fun e => by rw [e] at hl; simp at hl; omega)
      omega
  · intro h
    rw [List.eq_nil_of_length_eq_zero (hl.trans h)] at hv
    exact hv.symm
def BoolPost (w : World) (b : Bool) (e : Ending) (w' : World) : Prop := e = .returned (.bool b) ∧ Below w.heap.size w w'
theorem valL_big {xs : List Nat} (ht : TrimL xs) (h : 2 < xs.length) : 18446744073709551616 ≤ valL xs := by
  have e := valL_append (xs.take 2) (xs.drop 2)
  rw [List.take_append_drop, List.length_take, Nat.min_eq_left (by omega)] at e
  have hp : 0 < valL (xs.drop 2) := valL_pos ⟨xs.length - 3, by rw [List.length_drop]; omega, by
    rcases ht with ht | ht
    · rw [ht] at h; simp at h
    · rw [List.getD_eq_getElem?_getD, List.getElem?_drop, show 2 + (xs.length - 3) = xs.length - 1 by omega, ← List.getD_eq_getElem?_getD]; exact ht⟩
  rw [e]
  omega
theorem valL_one {xs : List Nat} (h : 0 < xs.length) : valL (xs.take 1) = xs.getD 0 0 := by
  cases xs with
  | nil => simp at h
  | cons a r => simp [valL]
theorem valL_two {xs : List Nat} (h : 1 < xs.length) : valL (xs.take 2) = xs.getD 0 0 + 4294967296 * xs.getD 1 0 := by
  match xs, h with
  | a :: b :: r, _ => simp [valL]
theorem or_zero (x : Nat) (hx : x < 4294967296) : bits BinOp.or IntKind.u64 0 (x : Int) = (x : Int) := by
  have := u64_or_nat 0 x (by omega) (by omega)
  rw [Nat.zero_or] at this
  exact this
theorem or_high (a x : Nat) (ha : a < 4294967296) (hx : x < 4294967296) : bits BinOp.or IntKind.u64 (a : Int) ((x : Int) * 4294967296) = ((a + 4294967296 * x : Nat) : Int) := by
  have h1 := u64_or_nat a (x * 4294967296) (by omega) (by omega)
  have h2 := Nat.two_pow_add_eq_or_of_lt (i := 32) (b := a) (by omega) x
  have e : ((x : Int) * 4294967296) = ((x * 4294967296 : Nat) : Int) := by simp
  rw [e, h1, Nat.or_comm, Nat.mul_comm x]
  have h3 : (2 : Nat) ^ 32 = 4294967296 := by decide
  rw [h3] at h2
  rw [← h2, Nat.add_comm]
def fitsV (N : Nat) : Value := if N < 9223372036854775808 then .tuple #[.int .i64 (N : Int), .bool true] else .tuple #[.int .i64 0, .bool false]
def FitsPost (w : World) (N : Nat) (e : Ending) (w' : World) : Prop := e = .returned (fitsV N) ∧ Below w.heap.size w w'
set_option maxHeartbeats 2000000 in
theorem fits_any (v : Value) (N : Nat) (w : World) (h : NatV w v N) : Calls Tryd.prog 43 #[v] w (FitsPost w N) := by
  obtain ⟨A, n, c, xs, rfl, _, hl, ht, hv⟩ := h.is
  have hm := hl.2.1
  simp only [maxLen] at hm
  have HI := hide hl
  have HL := Lib.hid hl.1
  have HB := hide ((Below.refl w.heap.size w).alloc (Nat.le_refl _) (.cells #[.slice A n c] 35))
  have HBK := hide (Blk.new w 35 #[.slice A n c])
  have HBIG := hide (fun (h2 : 2 < n) => show 18446744073709551616 ≤ N by rw [← hv]; exact valL_big ht (by rw [hl.1]; exact h2))
  have HV := Lib.hid hv
  clear hl ht hv h
  go_enter Tryd.func43, Tryd.ntmps43
  go_wp2
  generalize (w.alloc (.cells #[.slice A n c] 35)) = w1 at HB HBK ⊢
  go_loopw [4, 10] (fun u i wr => ∃ k : Nat, k ≤ n ∧ i = .int .i64 k ∧ u = .int .u64 ((valL (xs.take (min k 2)) : Nat) : Int) ∧ wr = w1) (fun _ i _ => n - (intOf i).toNat)
  case atStart => exact ⟨0, Nat.zero_le _, rfl, by simp [valL], rfl⟩
  case round =>
    obtain ⟨k, hk, rfl, rfl, e⟩ := hrel
    subst e
    by_cases hlt : k < n
    · obtain ⟨ad, rfl, hb, hcell, hx⟩ := HI.out.at_ hlt
      have hc2 := (HB.out.cell (by rw [block_of_add]; exact hb)).trans hcell
      clear hcell
      by_cases h0 : k = 0
      · subst h0
        generalize hgx : xs.getD 0 0 = x at hc2 hx
        have HX := Lib.hid hgx
        clear hgx
        have hc3 : wr.cell? ad = some (.int .u32 (x : Int)) := by simpa [Addr.add] using hc2
        rw [show valL (xs.take (min 0 2)) = 0 from rfl]
        have HO := Lib.hid (or_zero x hx)
        have HV1 := Lib.hid (show valL (xs.take (min 1 2)) = x by rw [show min 1 2 = 1 from rfl, valL_one (by rw [HL.out]; exact hlt)]; exact HX.out)
        go_wp2
        go_roundw
        case rel => exact ⟨1, hlt, rfl, by rw [HO.out, HV1.out], by first | rfl | trivial⟩
        case measure => simp [intOf]; omega
      · by_cases h1 : k = 1
        · subst h1
          have HX0 := hide (HI.out.2.2.1 (xs.getD 0 0) (by rw [List.getD_eq_getElem?_getD, List.getElem?_eq_getElem (by rw [HL.out]; omega)]; exact List.getElem_mem _))
          have HV1 := Lib.hid (show valL (xs.take (min 1 2)) = xs.getD 0 0 by rw [show min 1 2 = 1 from rfl, valL_one (by rw [HL.out]; omega)])
          have HV2 := Lib.hid (show valL (xs.take (min 2 2)) = xs.getD 0 0 + 4294967296 * xs.getD 1 0 by rw [show min 2 2 = 2 from rfl, valL_two (by rw [HL.out]; exact hlt)])
          have HO := Lib.hid (or_high (xs.getD 0 0) (xs.getD 1 0) HX0.out hx)
          rw [HV1.out]
          generalize xs.getD 0 0 = y at HX0 HV1 HV2 HO ⊢
          generalize xs.getD 1 0 = x at hc2 hx HV2 HO
          have hc3 : wr.cell? ⟨ad.block, ad.off + 1, none⟩ = some (.int .u32 (x : Int)) := by simpa [Addr.add] using hc2
          go_wp2
          go_roundw
          case rel => exact ⟨2, hlt, rfl, by rw [HO.out, HV2.out], by first | rfl | trivial⟩
          case measure => simp [intOf]; omega
        · have hk2 : ¬ k < 2 := by omega
          have HMI := Lib.hid (show min (k + 1) 2 = min k 2 by omega)
          generalize xs.getD k 0 = x at hc2 hx
          go_wp2
          go_roundw
          case rel => exact ⟨k + 1, by omega, by go_num, by rw [HMI.out], by first | rfl | trivial⟩
          case measure => simp [intOf]; omega
    · obtain rfl : k = n := by omega
      have c0 := HBK.out.cell 0
      by_cases h2 : 2 < k
      · have HN := Lib.hid (show fitsV N = .tuple #[.int .i64 0, .bool false] by unfold fitsV; rw [if_neg (by have := HBIG.out h2; omega)])
        go_wp2
        go_ret2
        exact ⟨by rw [HN.out]; rfl, HB.out⟩
      · have HE := Lib.hid (show valL (xs.take (min k 2)) = N by rw [← HV.out, List.take_of_length_le (by rw [HL.out]; omega)])
        rw [HE.out]
        by_cases hf : N < 9223372036854775808
        · have HN := Lib.hid (show fitsV N = .tuple #[.int .i64 (N : Int), .bool true] by unfold fitsV; rw [if_pos hf])
          go_wp2
          go_ret2
          exact ⟨by rw [HN.out]; rfl, HB.out⟩
        · have HN := Lib.hid (show fitsV N = .tuple #[.int .i64 0, .bool false] by unfold fitsV; rw [if_neg hf])
          have hge : (9223372036854775808 : Int) ≤ (N : Int) := by omega
          go_wp2
          go_ret2
          exact ⟨by rw [HN.out]; rfl, HB.out⟩
end Go.Proofs.YtdlcldhnbhlikaaDoor
namespace Go.Proofs.YtdlcldhnbhlikaaDoor
open Go.RowKit

theorem or_low (r x : Nat) (hr : r < 4294967296) (hx : x < 4294967296) : bits BinOp.or IntKind.u64 ((r : Int) * 4294967296) (x : Int) = ((r * 4294967296 + x : Nat) : Int) := by
  have h1 := u64_or_nat (r * 4294967296) x (by omega) (by omega)
  have h2 := Nat.two_pow_add_eq_or_of_lt (i := 32) (b := x) (by omega) r
  have e : ((r : Int) * 4294967296) = ((r * 4294967296 : Nat) : Int) := by simp
  rw [e, h1]
  have h3 : (2 : Nat) ^ 32 = 4294967296 := by decide
  rw [h3] at h2
  rw [Nat.mul_comm r, ← h2]
def DivPost (w : World) (t d : Nat) (e : Ending) (w' : World) : Prop := e = .returned (.tuple #[.int .u32 ((t / d : Nat) : Int), .int .u32 ((t % d : Nat) : Int)]) ∧ Below w.heap.size w w' ∧ w'.heap = w.heap
def limbArr (l : List Nat) : Array Value := (l.map fun x : Nat => Value.int .u32 (x : Int)).toArray
theorem limbInfo : (Tryd.prog.info? 100).map (fun i => (i.zero, i.size, i.bytes)) = some (some (.int .u32 0), 1, 4) := by kernel_rfl
theorem limbArr_at {l : List Nat} {k : Nat} (h : k < l.length) : (limbArr l)[k]? = some (.int .u32 ((l.getD k 0 : Nat) : Int)) := by
  unfold limbArr
  rw [List.getElem?_toArray, List.getElem?_map, List.getElem?_eq_getElem h, List.getD_eq_getElem?_getD, List.getElem?_eq_getElem h]
  rfl
theorem limbArr_zero (n : Nat) : madeCells #[Value.int .u32 0] n = limbArr (List.replicate n 0) := by
  apply Array.toList_inj.1
  rw [toList_madeCells_one]
  simp [limbArr]
theorem limbArr_set (k q : Nat) (qs : List Nat) : (limbArr (List.replicate (k + 1) 0 ++ qs)).setIfInBounds k (.int .u32 (q : Int)) = limbArr (List.replicate k 0 ++ q :: qs) := by
  apply Array.toList_inj.1
  rw [List.replicate_succ']
  simp [limbArr, List.set_append_right]
theorem lim_blk {w : World} {g n : Nat} {l : List Nat} (h : Blk w g 100 (limbArr l)) (hl : l.length = n) (hn : n ≤ maxLen) (hx : ∀ x ∈ l, x < 4294967296) : Lim w w.heap.size (some ⟨g, 0, none⟩) n l := by
  refine ⟨hl, hn, hx, by rw [List.length_map, hl, Nat.mul_one], fun _ => ⟨_, rfl, h.lt, fun j u hu => ?_⟩⟩
  have c := h.cell j
  unfold limbArr at c
  rw [List.getElem?_toArray, hu] at c
  have e : (⟨g, 0, none⟩ : Addr).add j = ⟨g, j, none⟩ := by
    unfold Addr.add
    split
    · rename_i h0; rw [h0]
    · simp
  rw [e]
  exact c
structure ShI (w : World) (a : List Nat) (d n j r : Nat) (qs : List Nat) (wr : World) : Prop where
  bel : Below w.heap.size w wr
  blk : Blk wr w.heap.size 100 (limbArr (List.replicate j 0 ++ qs))
  len : qs.length = n - j
  lt : ∀ x ∈ qs, x < 4294967296
  val : valL (a.drop j) = valL qs * d + r
  rd : r < d
def ShortPost (w : World) (N d n : Nat) (e : Ending) (w' : World) : Prop :=
  ∃ qs, e = .returned (.tuple #[.slice (some ⟨w.heap.size, 0, none⟩) n n, .int .u32 ((N % d : Nat) : Int)]) ∧ Blk w' w.heap.size 100 (limbArr qs) ∧ qs.length = n ∧ (∀ x ∈ qs, x < 4294967296) ∧ valL qs = N / d ∧ Below w.heap.size w w'

end Go.Proofs.YtdlcldhnbhlikaaDoor
