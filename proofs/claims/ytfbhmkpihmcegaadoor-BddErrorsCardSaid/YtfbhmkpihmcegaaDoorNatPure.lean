/-
  Natural numbers by limbs of 32 bits, and by decimal digits; no program in sight.
-/
import Derived.Lib.ItoaMem
import Derived.Test.YtfbhmkpihmcegaaDoorFind
namespace Go.Proofs.YtfbhmkpihmcegaaDoor

def valL : List Nat → Nat
  | [] => 0
  | x :: r => x + 4294967296 * valL r
theorem valL_append : ∀ (a b : List Nat), valL (a ++ b) = valL a + 4294967296 ^ a.length * valL b := by
  intro a
  induction a with
  | nil => intro b; simp [valL]
  | cons x r ih =>
    intro b
    rw [List.cons_append, valL, valL, ih, List.length_cons, Nat.pow_succ]
    rw [Nat.mul_add, Nat.mul_comm (4294967296 ^ r.length) 4294967296, Nat.mul_assoc, Nat.add_assoc]
theorem valL_zero : ∀ (l : List Nat), (∀ x ∈ l, x = 0) → valL l = 0 := by
  intro l
  induction l with
  | nil => intro _; rfl
  | cons x r ih =>
    intro h
    rw [valL, h x (List.mem_cons_self ..), ih fun y hy => h y (List.mem_cons_of_mem _ hy)]
theorem valL_take {xs : List Nat} {m : Nat} (h : ∀ i, m ≤ i → i < xs.length → xs.getD i 0 = 0) : valL (xs.take m) = valL xs := by
  have hz : valL (xs.drop m) = 0 := valL_zero _ fun x hx => by
    obtain ⟨i, hi, rfl⟩ := List.getElem_of_mem hx
    rw [List.length_drop] at hi
    have := h (m + i) (by omega) (by omega)
    rw [List.getD_eq_getElem?_getD, List.getElem?_eq_getElem (by omega)] at this
    rw [List.getElem_drop]
    simpa using this
  have := valL_append (xs.take m) (xs.drop m)
  rw [List.take_append_drop, hz] at this
  simpa using this.symm
theorem valL_pos {xs : List Nat} (h : ∃ i, i < xs.length ∧ xs.getD i 0 ≠ 0) : 0 < valL xs := by
  induction xs with
  | nil => obtain ⟨i, hi, _⟩ := h; exact absurd hi (Nat.not_lt_zero _)
  | cons x r ih =>
    obtain ⟨i, hi, hne⟩ := h
    rw [valL]
    cases i with
    | zero => have : x ≠ 0 := by simpa using hne
              omega
    | succ i =>
      have := ih ⟨i, by simpa using hi, by simpa using hne⟩
      omega
/-- No zero on top. -/
def TrimL (xs : List Nat) : Prop := xs = [] ∨ xs.getD (xs.length - 1) 0 ≠ 0
theorem TrimL.pos {xs : List Nat} (h : TrimL xs) (hne : xs ≠ []) : 0 < valL xs := by
  rcases h with h | h
  · exact absurd h hne
  · exact valL_pos ⟨xs.length - 1, by have := List.length_pos_iff.2 hne; omega, h⟩
theorem valL_drop {xs : List Nat} {j : Nat} (h : j < xs.length) : valL (xs.drop j) = xs.getD j 0 + 4294967296 * valL (xs.drop (j + 1)) := by
  rw [List.drop_eq_getElem_cons h, valL, List.getD_eq_getElem?_getD, List.getElem?_eq_getElem h]; rfl
/-- One step of a division by one limb. -/
theorem short_step {d r x q s v w : Nat} (hd : 0 < d) (hr : r < d) (hx : x < 4294967296) (hv : w = v * d + r) (hq : q = (r * 4294967296 + x) / d) (hs : s = (r * 4294967296 + x) % d) :
    x + 4294967296 * w = (q + 4294967296 * v) * d + s ∧ s < d ∧ q < 4294967296 := by
  have h1 := Nat.div_add_mod (r * 4294967296 + x) d
  rw [← hq, ← hs] at h1
  refine ⟨?_, by rw [hs]; exact Nat.mod_lt _ hd, ?_⟩
  · rw [hv, Nat.add_mul, Nat.mul_add, ← Nat.mul_assoc]
    have e1 : q * d = d * q := Nat.mul_comm _ _
    have e2 : 4294967296 * v * d = 4294967296 * (v * d) := Nat.mul_assoc _ _ _
    omega
  · rw [hq]
    exact (Nat.div_lt_iff_lt_mul hd).2 (by
      have : (r + 1) * 4294967296 ≤ d * 4294967296 := Nat.mul_le_mul_right _ hr
      rw [Nat.mul_comm 4294967296 d]
      omega)

def decL : List Nat → Nat
  | [] => 0
  | d :: r => d + 10 * decL r
theorem decL_append : ∀ (a b : List Nat), decL (a ++ b) = decL a + 10 ^ a.length * decL b := by
  intro a
  induction a with
  | nil => intro b; simp [decL]
  | cons x r ih =>
    intro b
    rw [List.cons_append, decL, decL, ih, List.length_cons, Nat.pow_succ]
    rw [Nat.mul_add, Nat.mul_comm (10 ^ r.length) 10, Nat.mul_assoc, Nat.add_assoc]
theorem decL_pos {ds : List Nat} (hne : ds ≠ []) (h : ds.getD (ds.length - 1) 0 ≠ 0) : 0 < decL ds := by
  induction ds with
  | nil => exact absurd rfl hne
  | cons d r ih =>
    rw [decL]
    cases r with
    | nil => have : d ≠ 0 := by simpa using h
             omega
    | cons e r =>
      have := ih (by simp) (by simpa using h)
      omega
theorem digits_text : ∀ (ds : List Nat), (∀ d ∈ ds, d < 10) → ds ≠ [] → ds.getD (ds.length - 1) 0 ≠ 0 → Lib.decDigits (decL ds) = (ds.map fun d => UInt8.ofNat (48 + d)).reverse := by
  intro ds
  induction ds with
  | nil => intro _ h _; exact absurd rfl h
  | cons d r ih =>
    intro hd _ hl
    have hd0 := hd d (List.mem_cons_self ..)
    cases r with
    | nil =>
      rw [Lib.decDigits, decL, decL, dif_pos (by omega)]
      simp
    | cons e r =>
      have hp := decL_pos (ds := e :: r) (by simp) (by simpa using hl)
      have := ih (fun x hx => hd x (List.mem_cons_of_mem _ hx)) (by simp) (by simpa using hl)
      rw [Lib.decDigits, decL, dif_neg (by omega)]
      rw [show (d + 10 * decL (e :: r)) / 10 = decL (e :: r) by omega, show (d + 10 * decL (e :: r)) % 10 = d by omega, this]
      simp
theorem decL_take {ds : List Nat} {m : Nat} (h : ∀ i, m ≤ i → i < ds.length → ds.getD i 0 = 0) : decL (ds.take m) = decL ds := by
  have hz : ∀ l : List Nat, (∀ x ∈ l, x = 0) → decL l = 0 := by
    intro l
    induction l with
    | nil => intro _; rfl
    | cons x r ih =>
      intro h
      rw [decL, h x (List.mem_cons_self ..), ih fun y hy => h y (List.mem_cons_of_mem _ hy)]
  have h0 : decL (ds.drop m) = 0 := hz _ fun x hx => by
    obtain ⟨i, hi, rfl⟩ := List.getElem_of_mem hx
    rw [List.length_drop] at hi
    have := h (m + i) (by omega) (by omega)
    rw [List.getD_eq_getElem?_getD, List.getElem?_eq_getElem (by omega)] at this
    rw [List.getElem_drop]
    simpa using this
  have := decL_append (ds.take m) (ds.drop m)
  rw [List.take_append_drop, h0] at this
  simpa using this.symm
/-- The digits of r, k of them. -/
def digs : Nat → Nat → List Nat
  | 0, _ => []
  | k + 1, r => r % 10 :: digs k (r / 10)
theorem digs_len : ∀ (k r : Nat), (digs k r).length = k := by
  intro k
  induction k with
  | zero => intro _; rfl
  | succ k ih => intro r; rw [digs, List.length_cons, ih]
theorem digs_lt : ∀ (k r : Nat), ∀ d ∈ digs k r, d < 10 := by
  intro k
  induction k with
  | zero => intro r d h; cases h
  | succ k ih =>
    intro r d h
    rw [digs] at h
    rcases List.mem_cons.1 h with e | h
    · omega
    · exact ih _ d h
theorem digs_val : ∀ (k r : Nat), r < 10 ^ k → decL (digs k r) = r := by
  intro k
  induction k with
  | zero => intro r h; simp at h; simp [digs, decL, h]
  | succ k ih =>
    intro r h
    rw [digs, decL, ih (r / 10) (by rw [Nat.pow_succ] at h; omega)]
    omega
theorem digs_snoc : ∀ (k r : Nat), digs (k + 1) r = digs k r ++ [r / 10 ^ k % 10] := by
  intro k
  induction k with
  | zero => intro r; simp [digs]
  | succ k ih =>
    intro r
    rw [digs, ih (r / 10), digs, List.cons_append]
    congr 2
    rw [Nat.div_div_eq_div_mul, Nat.pow_succ, Nat.mul_comm]
end Go.Proofs.YtfbhmkpihmcegaaDoor
