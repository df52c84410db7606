/-
  How many one bits a number has; the bytes' way to reckon it. No program in sight. bits.OnesCount64, OnesCount; the law's own counting of ones; reason.Smallest.
-/
import Derived.Test.YtdlcldhnbhlikaaDoorProg
import Derived.Test.YtdlcldhnbhlikaaDoorFamEh
namespace Go.Proofs.YtdlcldhnbhlikaaDoor

/-- How many one bits there are. -/
def pop (x : Nat) : Nat := if h : x = 0 then 0 else x % 2 + pop (x / 2)
termination_by x
decreasing_by omega
theorem pop_zero : pop 0 = 0 := by rw [pop]; rfl
theorem pop_step (x : Nat) : pop x = x % 2 + pop (x / 2) := by
  by_cases h : x = 0
  · subst h; rw [show 0 / 2 = 0 from rfl, pop_zero]
  · rw [pop, dif_neg h]
theorem pop_le : ∀ (k x : Nat), x < 2 ^ k → pop x ≤ k := by
  intro k
  induction k with
  | zero =>
    intro x h
    obtain rfl : x = 0 := by simpa using h
    rw [pop_zero]; exact Nat.le_refl _
  | succ k ih =>
    intro x h
    have := ih (x / 2) (by rw [Nat.pow_succ] at h; omega)
    rw [pop_step]
    omega
theorem pop_cat : ∀ (k b y : Nat), b < 2 ^ k → pop (b + 2 ^ k * y) = pop b + pop y := by
  intro k
  induction k with
  | zero =>
    intro b y h
    obtain rfl : b = 0 := by simpa using h
    simp [pop_zero]
  | succ k ih =>
    intro b y h
    rw [Nat.pow_succ] at h ⊢
    have e : 2 ^ k * 2 * y = 2 * (2 ^ k * y) := by rw [Nat.mul_comm (2 ^ k) 2, Nat.mul_assoc]
    rw [e, pop_step (b + _), pop_step b, show (b + 2 * (2 ^ k * y)) / 2 = b / 2 + 2 ^ k * y by omega, ih _ _ (by omega), show (b + 2 * (2 ^ k * y)) % 2 = b % 2 by omega]
    omega
/-- A number of its bytes, the least ahead. -/
def val : List Nat → Nat
  | [] => 0
  | b :: l => b + 256 * val l
def bytes : Nat → Nat → List Nat
  | 0, _ => []
  | k + 1, x => x % 256 :: bytes k (x / 256)
theorem bytes_len (k x : Nat) : (bytes k x).length = k := by
  induction k generalizing x with
  | zero => rfl
  | succ k ih => simp [bytes, ih]
theorem bytes_lt (k x : Nat) : ∀ b ∈ bytes k x, b < 256 := by
  induction k generalizing x with
  | zero => intro b hb; cases hb
  | succ k ih =>
    intro b hb
    rcases List.mem_cons.1 hb with rfl | hb
    · exact Nat.mod_lt _ (by decide)
    · exact ih _ b hb
theorem bytes_val : ∀ (k x : Nat), x < 256 ^ k → val (bytes k x) = x := by
  intro k
  induction k with
  | zero => intro x h; simp at h; subst h; rfl
  | succ k ih =>
    intro x h
    show x % 256 + 256 * val (bytes k (x / 256)) = x
    rw [ih (x / 256) (by rw [Nat.pow_succ] at h; omega)]
    omega
theorem pop_val : ∀ l : List Nat, (∀ b ∈ l, b < 256) → pop (val l) = (l.map pop).sum := by
  intro l
  induction l with
  | nil => intro _; exact pop_zero
  | cons b l ih =>
    intro h
    show pop (b + 2 ^ 8 * val l) = _
    rw [pop_cat 8 b (val l) (h b (List.mem_cons_self ..)), ih fun x hx => h x (List.mem_cons_of_mem _ hx)]
    rfl
theorem and_cat (a b c d : Nat) (ha : a < 256) (hc : c < 256) : (a + 256 * b) &&& (c + 256 * d) = (a &&& c) + 256 * (b &&& d) := by
  have h1 : ((a + 256 * b) &&& (c + 256 * d)) % 2 ^ 8 = a &&& c := by
    rw [Nat.and_mod_two_pow, show (a + 256 * b) % 2 ^ 8 = a by omega, show (c + 256 * d) % 2 ^ 8 = c by omega]
  have h2 : ((a + 256 * b) &&& (c + 256 * d)) / 2 ^ 8 = b &&& d := by
    rw [Nat.and_div_two_pow, show (a + 256 * b) / 2 ^ 8 = b by omega, show (c + 256 * d) / 2 ^ 8 = d by omega]
  omega
def mask (c : Nat) (l : List Nat) : Nat := val (l.map fun _ => c)
def f1 (b : Nat) : Nat := ((b / 2) &&& 85) + (b &&& 85)
def f2 (b : Nat) : Nat := ((b / 4) &&& 51) + (b &&& 51)
def f3 (b : Nat) : Nat := (b + b / 16) % 16
theorem k1 : ∀ (e : Fin 2) (b : Fin 256), (b.val / 2 + 128 * e.val) &&& 85 = (b.val / 2) &&& 85 := by decide +kernel
theorem k2 : ∀ (e : Fin 4) (b : Fin 256), (b.val / 4 + 64 * e.val) &&& 51 = (b.val / 4) &&& 51 := by decide +kernel
theorem k3 : ∀ b : Fin 256, f1 b.val < 256 ∧ f2 (f1 b.val) < 256 ∧ f2 (f1 b.val) % 16 ≤ 4 ∧ f2 (f1 b.val) / 16 ≤ 4 := by decide +kernel
def popF : Nat → Nat → Nat
  | 0, _ => 0
  | k + 1, x => x % 2 + popF k (x / 2)
theorem popF_eq : ∀ (k x : Nat), x < 2 ^ k → popF k x = pop x := by
  intro k
  induction k with
  | zero => intro x h; obtain rfl : x = 0 := by simpa using h
            exact pop_zero.symm
  | succ k ih =>
    intro x h
    show x % 2 + popF k (x / 2) = _
    rw [ih _ (by rw [Nat.pow_succ] at h; omega), ← pop_step]
theorem k4 : ∀ b : Fin 256, f3 (f2 (f1 b.val)) = popF 8 b.val := by decide +kernel
theorem s1 : ∀ l : List Nat, (∀ b ∈ l, b < 256) → ((val l >>> 1) &&& mask 85 l) + (val l &&& mask 85 l) = val (l.map f1) := by
  intro l
  induction l with
  | nil => intro _; rfl
  | cons b l ih =>
    intro h
    have hb := h b (List.mem_cons_self ..)
    have ih := ih fun x hx => h x (List.mem_cons_of_mem _ hx)
    show (((b + 256 * val l) >>> 1) &&& (85 + 256 * mask 85 l)) + ((b + 256 * val l) &&& (85 + 256 * mask 85 l)) = f1 b + 256 * val (l.map f1)
    rw [show (b + 256 * val l) >>> 1 = (b / 2 + 128 * (val l % 2)) + 256 * (val l >>> 1) by simp only [Nat.shiftRight_eq_div_pow]; omega, and_cat _ _ _ _ (by omega) (by omega), and_cat _ _ _ _ hb (by omega), ← ih]
    have := k1 ⟨val l % 2, by omega⟩ ⟨b, hb⟩
    simp only at this
    rw [this]
    unfold f1
    omega
theorem s2 : ∀ l : List Nat, (∀ b ∈ l, b < 256) → ((val l >>> 2) &&& mask 51 l) + (val l &&& mask 51 l) = val (l.map f2) := by
  intro l
  induction l with
  | nil => intro _; rfl
  | cons b l ih =>
    intro h
    have hb := h b (List.mem_cons_self ..)
    have ih := ih fun x hx => h x (List.mem_cons_of_mem _ hx)
    show (((b + 256 * val l) >>> 2) &&& (51 + 256 * mask 51 l)) + ((b + 256 * val l) &&& (51 + 256 * mask 51 l)) = f2 b + 256 * val (l.map f2)
    rw [show (b + 256 * val l) >>> 2 = (b / 4 + 64 * (val l % 4)) + 256 * (val l >>> 2) by simp only [Nat.shiftRight_eq_div_pow]; omega, and_cat _ _ _ _ (by omega) (by omega), and_cat _ _ _ _ hb (by omega), ← ih]
    have := k2 ⟨val l % 4, by omega⟩ ⟨b, hb⟩
    simp only at this
    rw [this]
    unfold f2
    omega
theorem val_mod (l : List Nat) (h : ∀ b ∈ l, b % 16 ≤ 4) : val l % 16 ≤ 4 := by
  cases l with
  | nil => simp [val]
  | cons b l =>
    have := h b (List.mem_cons_self ..)
    show (b + 256 * val l) % 16 ≤ 4
    omega
theorem s3 : ∀ l : List Nat, (∀ b ∈ l, b < 256 ∧ b % 16 ≤ 4 ∧ b / 16 ≤ 4) → ((val l >>> 4) + val l) &&& mask 15 l = val (l.map f3) := by
  intro l
  induction l with
  | nil => intro _; rfl
  | cons b l ih =>
    intro h
    obtain ⟨hb, hb1, hb2⟩ := h b (List.mem_cons_self ..)
    have hm := val_mod l fun x hx => (h x (List.mem_cons_of_mem _ hx)).2.1
    have ih := ih fun x hx => h x (List.mem_cons_of_mem _ hx)
    show (((b + 256 * val l) >>> 4) + (b + 256 * val l)) &&& (15 + 256 * mask 15 l) = f3 b + 256 * val (l.map f3)
    rw [show ((b + 256 * val l) >>> 4) + (b + 256 * val l) = (b + b / 16 + 16 * (val l % 16)) + 256 * ((val l >>> 4) + val l) by simp only [Nat.shiftRight_eq_div_pow]; omega, and_cat _ _ _ _ (by omega) (by omega), ih,
      show (15 : Nat) = 2 ^ 4 - 1 from rfl, Nat.and_two_pow_sub_one_eq_mod]
    unfold f3
    omega
theorem s4 (a b c d e f g h : Nat) (ha : a ≤ 8) (hb : b ≤ 8) (hc : c ≤ 8) (hd : d ≤ 8) (he : e ≤ 8) (hf : f ≤ 8) (hg : g ≤ 8) (hh : h ≤ 8) (x y z t : Nat)
    (hx : x = val [a, b, c, d, e, f, g, h]) (hy : y = x + x / 256) (hz : z = y + y / 65536) (ht : t = z + z / 4294967296) : t % 128 = a + b + c + d + e + f + g + h ∧ t < 9223372036854775808 := by
  have x1 : x / 256 = val [b, c, d, e, f, g, h] := by rw [hx]; simp only [val]; omega
  have y0 : y = val [a + b, b + c, c + d, d + e, e + f, f + g, g + h, h] := by rw [hy, x1, hx]; simp only [val]; omega
  have y1 : y / 65536 = val [c + d, d + e, e + f, f + g, g + h, h] := by rw [y0]; simp only [val]; omega
  have z0 : z = val [a + b + (c + d), b + c + (d + e), c + d + (e + f), d + e + (f + g), e + f + (g + h), f + g + h, g + h, h] := by rw [hz, y1, y0]; simp only [val]; omega
  have z1 : z / 4294967296 = val [e + f + (g + h), f + g + h, g + h, h] := by rw [z0]; simp only [val]; omega
  have t0 : t = val [a + b + (c + d) + (e + f + (g + h)), b + c + (d + e) + (f + g + h), c + d + (e + f) + (g + h), d + e + (f + g) + h, e + f + (g + h), f + g + h, g + h, h] := by rw [ht, z1, z0]; simp only [val]; omega
  rw [t0]
  simp only [val]
  omega
/-- The reckoning by bytes. -/
structure Swar (x x1 x2 x3 x4 x5 x6 : Nat) : Prop where
  h1 : x1 = ((x >>> 1) &&& 6148914691236517205) + (x &&& 6148914691236517205)
  h2 : x2 = ((x1 >>> 2) &&& 3689348814741910323) + (x1 &&& 3689348814741910323)
  h3 : x3 = ((x2 >>> 4) + x2) &&& 1085102592571150095
  h4 : x4 = x3 + x3 / 256
  h5 : x5 = x4 + x4 / 65536
  h6 : x6 = x5 + x5 / 4294967296
theorem val_lt : ∀ l : List Nat, (∀ b ∈ l, b < 256) → val l < 256 ^ l.length := by
  intro l
  induction l with
  | nil => intro _; decide
  | cons b l ih =>
    intro h
    have := ih fun x hx => h x (List.mem_cons_of_mem _ hx)
    have hb := h b (List.mem_cons_self ..)
    show b + 256 * val l < 256 ^ (l.length + 1)
    rw [Nat.pow_succ]
    omega
set_option maxHeartbeats 1000000 in
theorem swar_pop {x x1 x2 x3 x4 x5 x6 : Nat} (h : Swar x x1 x2 x3 x4 x5 x6) (hx : x < 18446744073709551616) : x6 % 128 = pop x ∧ x6 < 9223372036854775808 ∧ x1 < 18446744073709551616 ∧ x2 < 4919131752989213765 := by
  obtain ⟨l, hl⟩ : ∃ l, bytes 8 x = l := ⟨_, rfl⟩
  have hlen : l.length = 8 := by rw [← hl, bytes_len]
  have hlt : ∀ b ∈ l, b < 256 := by rw [← hl]; exact bytes_lt 8 x
  have hv : val l = x := by rw [← hl]; exact bytes_val 8 x hx
  obtain ⟨a, b, c, d, e, f, g, i, rfl⟩ : ∃ a b c d e f g i, l = [a, b, c, d, e, f, g, i] := by
    match l, hlen with
    | [a, b, c, d, e, f, g, i], _ => exact ⟨a, b, c, d, e, f, g, i, rfl⟩
  have e1 : x1 = val ([a, b, c, d, e, f, g, i].map f1) := by 
    have t := s1 _ hlt
    rw [show mask 85 [a, b, c, d, e, f, g, i] = 6148914691236517205 by simp [mask, val]] at t
    rw [h.h1, ← hv]; exact t
  have hlt1 : ∀ y ∈ [a, b, c, d, e, f, g, i].map f1, y < 256 := fun y hy => by
    obtain ⟨z, hz, rfl⟩ := List.mem_map.1 hy
    exact (k3 ⟨z, hlt z hz⟩).1
  have e2 : x2 = val (([a, b, c, d, e, f, g, i].map f1).map f2) := by 
    have t := s2 _ hlt1
    rw [show mask 51 ([a, b, c, d, e, f, g, i].map f1) = 3689348814741910323 by simp [mask, val]] at t
    rw [h.h2, e1]; exact t
  have hlt2 : ∀ y ∈ ([a, b, c, d, e, f, g, i].map f1).map f2, y < 256 ∧ y % 16 ≤ 4 ∧ y / 16 ≤ 4 := fun y hy => by
    obtain ⟨z, hz, rfl⟩ := List.mem_map.1 hy
    obtain ⟨u, hu, rfl⟩ := List.mem_map.1 hz
    exact (k3 ⟨u, hlt u hu⟩).2
  have e3 : x3 = val ((([a, b, c, d, e, f, g, i].map f1).map f2).map f3) := by 
    have t := s3 _ hlt2
    rw [show mask 15 (([a, b, c, d, e, f, g, i].map f1).map f2) = 1085102592571150095 by simp [mask, val]] at t
    rw [h.h3, e2]; exact t
  have q : ∀ z, z < 256 → f3 (f2 (f1 z)) = pop z ∧ pop z ≤ 8 := fun z hz => ⟨(k4 ⟨z, hz⟩).trans (popF_eq 8 z hz), pop_le 8 z hz⟩
  have m : ∀ z, z ∈ [a, b, c, d, e, f, g, i] → f3 (f2 (f1 z)) = pop z ∧ pop z ≤ 8 := fun z hz => q z (hlt z hz)
  have e4 : x3 = val [pop a, pop b, pop c, pop d, pop e, pop f, pop g, pop i] := by
    rw [e3]
    simp only [List.map_cons, List.map_nil]
    rw [(m a (by simp)).1, (m b (by simp)).1, (m c (by simp)).1, (m d (by simp)).1, (m e (by simp)).1, (m f (by simp)).1, (m g (by simp)).1, (m i (by simp)).1]
  have e5 := s4 _ _ _ _ _ _ _ _ (m a (by simp)).2 (m b (by simp)).2 (m c (by simp)).2 (m d (by simp)).2 (m e (by simp)).2 (m f (by simp)).2 (m g (by simp)).2 (m i (by simp)).2 x3 x4 x5 x6 e4 h.h4 h.h5 h.h6
  have hp : pop x = pop a + pop b + pop c + pop d + pop e + pop f + pop g + pop i := by
    rw [← hv, pop_val _ hlt]
    simp [List.sum_cons]
    omega
  refine ⟨by rw [e5.1, hp], e5.2, ?_, ?_⟩
  · have := val_lt _ hlt1
    rw [e1]
    simpa using this
  · have n2 : ∀ y ∈ ([a, b, c, d, e, f, g, i].map f1).map f2, y ≤ 68 := fun y hy => by have := hlt2 y hy; omega
    rw [e2]
    simp only [List.map_cons, List.map_nil, val] at n2 ⊢
    have z : ∀ y, y ∈ [f2 (f1 a), f2 (f1 b), f2 (f1 c), f2 (f1 d), f2 (f1 e), f2 (f1 f), f2 (f1 g), f2 (f1 i)] → y ≤ 68 := n2
    have z1 := z (f2 (f1 a)) (by simp)
    have z2 := z (f2 (f1 b)) (by simp)
    have z3 := z (f2 (f1 c)) (by simp)
    have z4 := z (f2 (f1 d)) (by simp)
    have z5 := z (f2 (f1 e)) (by simp)
    have z6 := z (f2 (f1 f)) (by simp)
    have z7 := z (f2 (f1 g)) (by simp)
    have z8 := z (f2 (f1 i)) (by simp)
    omega
/-- Of numbers one with the fewest ones, of like ones the first. -/
def smal (l : List Nat) : Nat → Nat
  | 0 => 0
  | i + 1 => if i = 0 ∨ pop (l.getD i 0) < pop (smal l i) then l.getD i 0 else smal l i
theorem smal_lt {l : List Nat} (h : ∀ x ∈ l, x < 18446744073709551616) : ∀ i, smal l i < 18446744073709551616 := by
  intro i
  induction i with
  | zero => show 0 < _; omega
  | succ i ih =>
    show (if i = 0 ∨ pop (l.getD i 0) < pop (smal l i) then l.getD i 0 else smal l i) < _
    split
    · rw [List.getD_eq_getElem?_getD]
      rcases Nat.lt_or_ge i l.length with hi | hi
      · rw [List.getElem?_eq_getElem hi]; exact h _ (List.getElem_mem hi)
      · rw [List.getElem?_eq_none hi]; show 0 < _; omega
    · exact ih
end Go.Proofs.YtdlcldhnbhlikaaDoor
namespace Go.Proofs.YtdlcldhnbhlikaaDoor
open Go.RowKit Go.Maps

theorem wrapN {n : Nat} (h : n < 18446744073709551616) : IntKind.u64.wrap (n : Int) = (n : Int) := by rw [IntKind.wrap_u64]; omega
theorem bits_and_i64_nat (a b : Nat) (ha : a < 9223372036854775808) (hb : b < 9223372036854775808) : bits .and .i64 (a : Int) (b : Int) = ((a &&& b : Nat) : Int) := by
  have hx : a &&& b < 2 ^ 63 := Nat.and_lt_two_pow _ (by omega)
  have h1 : (BitVec.ofInt 64 (a : Int)).toNat = a := by
    rw [BitVec.ofInt_natCast, BitVec.toNat_ofNat]; exact Nat.mod_eq_of_lt (by omega)
  have h2 : (BitVec.ofInt 64 (b : Int)).toNat = b := by
    rw [BitVec.ofInt_natCast, BitVec.toNat_ofNat]; exact Nat.mod_eq_of_lt (by omega)
  show IntKind.i64.wrap ((BitVec.ofInt 64 (a : Int) &&& BitVec.ofInt 64 (b : Int)).toNat : Int) = _
  rw [BitVec.toNat_and, h1, h2, IntKind.wrap_i64]
  omega
theorem swar_int {x x1 x2 x3 x4 x5 x6 : Nat} (h : Swar x x1 x2 x3 x4 x5 x6) (hx : x < 18446744073709551616) :
    IntKind.u64.wrap (bits BinOp.and IntKind.u64 ((x : Int) / 2) 6148914691236517205 + bits BinOp.and IntKind.u64 (x : Int) 6148914691236517205) = (x1 : Int) ∧
    IntKind.u64.wrap (bits BinOp.and IntKind.u64 ((x1 : Int) / 4) 3689348814741910323 + bits BinOp.and IntKind.u64 (x1 : Int) 3689348814741910323) = (x2 : Int) ∧
    bits BinOp.and IntKind.u64 (IntKind.u64.wrap ((x2 : Int) / 16 + (x2 : Int))) 1085102592571150095 = (x3 : Int) ∧
    IntKind.u64.wrap ((x3 : Int) + (x3 : Int) / 256) = (x4 : Int) ∧ IntKind.u64.wrap ((x4 : Int) + (x4 : Int) / 65536) = (x5 : Int) ∧ IntKind.u64.wrap ((x5 : Int) + (x5 : Int) / 4294967296) = (x6 : Int) ∧
    wrap64 (x6 : Int) = (x6 : Int) ∧ bits BinOp.and IntKind.i64 (x6 : Int) 127 = (pop x : Int) := by
  obtain ⟨e6, l6, l1, l2⟩ := swar_pop h hx
  have h4 := h.h4
  have h5 := h.h5
  have h6 := h.h6
  refine ⟨?_, ?_, ?_, ?_, ?_, ?_, ?_, ?_⟩
  · have a1 : (x : Int) / (2 : Int) = ((x >>> 1 : Nat) : Int) := by rw [Nat.shiftRight_eq_div_pow]; omega
    have b1 := bits_and_u64_nat (x >>> 1) 6148914691236517205 (by rw [Nat.shiftRight_eq_div_pow]; omega) (by omega)
    have b2 := bits_and_u64_nat x 6148914691236517205 hx (by omega)
    refine Eq.trans (congrArg IntKind.u64.wrap ?_) (wrapN l1)
    rw [a1, h.h1, Int.natCast_add, ← b1, ← b2]
    rfl
  · have a1 : (x1 : Int) / (4 : Int) = ((x1 >>> 2 : Nat) : Int) := by rw [Nat.shiftRight_eq_div_pow]; omega
    have b1 := bits_and_u64_nat (x1 >>> 2) 3689348814741910323 (by rw [Nat.shiftRight_eq_div_pow]; omega) (by omega)
    have b2 := bits_and_u64_nat x1 3689348814741910323 l1 (by omega)
    refine Eq.trans (congrArg IntKind.u64.wrap ?_) (wrapN (n := x2) (by omega))
    rw [a1, h.h2, Int.natCast_add, ← b1, ← b2]
    rfl
  · have hs : x2 >>> 4 + x2 < 18446744073709551616 := by rw [Nat.shiftRight_eq_div_pow]; omega
    have a1 : (x2 : Int) / (16 : Int) + (x2 : Int) = ((x2 >>> 4 + x2 : Nat) : Int) := by rw [Nat.shiftRight_eq_div_pow]; omega
    have b1 := bits_and_u64_nat (x2 >>> 4 + x2) 1085102592571150095 hs (by omega)
    rw [a1, wrapN hs, h.h3, ← b1]
    rfl
  · rw [show (x3 : Int) + (x3 : Int) / 256 = (x4 : Int) by omega, wrapN (by omega)]
  · rw [show (x4 : Int) + (x4 : Int) / 65536 = (x5 : Int) by omega, wrapN (by omega)]
  · rw [show (x5 : Int) + (x5 : Int) / 4294967296 = (x6 : Int) by omega, wrapN (by omega)]
  · unfold wrap64; omega
  · rw [show (127 : Int) = ((127 : Nat) : Int) from rfl, bits_and_i64_nat _ _ l6 (by omega), show (127 : Nat) = 2 ^ 7 - 1 from rfl, Nat.and_two_pow_sub_one_eq_mod, ← e6]
set_option maxRecDepth 100000 in
set_option maxHeartbeats 4000000 in
theorem ones64_any (x : Nat) (w : World) (hx : x < 18446744073709551616) : Calls Tryd.prog 68 #[.int .u64 (x : Int)] w (fun e w' => e = .returned (.int .i64 (pop x : Int)) ∧ w = w') := by
  obtain ⟨x1, x2, x3, x4, x5, x6, hs⟩ : ∃ x1 x2 x3 x4 x5 x6, Swar x x1 x2 x3 x4 x5 x6 := ⟨_, _, _, _, _, _, ⟨rfl, rfl, rfl, rfl, rfl, rfl⟩⟩
  obtain ⟨q1, q2, q3, q4, q5, q6, q7, q8⟩ := swar_int hs hx
  generalize pop x = p at q8 ⊢
  clear hs hx
  go_enter Tryd.func68, Tryd.ntmps68
  go_wp2
  go_ret
  exact ⟨rfl, rfl⟩
set_option maxHeartbeats 1000000 in
theorem onesC_any (x : Nat) (w : World) (hx : x < 18446744073709551616) : Calls Tryd.prog 51 #[.int .u64 (x : Int)] w (fun e w' => e = .returned (.int .i64 (pop x : Int)) ∧ w = w') := by
  have HC := hide (ones64_any x w hx)
  clear hx
  go_enter Tryd.func51, Tryd.ntmps51
  go_wp2_with fail
  refine (HC.out).mono ?_
  rintro e w1 ⟨rfl, rfl⟩
  go_wp2
  go_ret
  exact ⟨rfl, rfl⟩
set_option maxHeartbeats 2000000 in
theorem lawOnes_any (x : Nat) (w : World) (hx : x < 18446744073709551616) : Calls Tryd.prog 19 #[.int .u64 (x : Int)] w (fun e w' => e = .returned (.int .i64 (pop x : Int)) ∧ w = w') := by
  have hp := pop_le 64 x hx
  go_enter Tryd.func19, Tryd.ntmps19
  go_wp2
  go_loopw [0, 3] (fun xv nv wr => ∃ y n : Nat, xv = .int .u64 (y : Int) ∧ nv = .int .i64 (n : Int) ∧ w = wr ∧ n + pop y = pop x ∧ y ≤ x) (fun xv _ _ => (intOf xv).toNat)
  case atStart => exact ⟨x, 0, rfl, rfl, rfl, by omega, Nat.le_refl _⟩
  case round =>
    obtain ⟨y, n, rfl, rfl, rfl, hn, hy⟩ := hrel
    by_cases h0 : y = 0
    · subst h0
      rw [pop_zero] at hn
      obtain rfl : n = pop x := by omega
      have h0I : ¬ (0 : Int) < ((0 : Nat) : Int) := by omega
      go_wp2
      go_ret
      exact ⟨rfl, rfl⟩
    · have h0I : (0 : Int) < (y : Int) := by omega
      have hs := pop_step y
      go_wp2
      go_roundw
      case rel => exact ⟨y / 2, n + y % 2, congrArg (Value.int .u64) (by omega), congrArg (Value.int .i64) (by omega), trivial, by omega, by omega⟩
      case measure => simp [intOf]; omega
/-- A row of uints that is there to be read. -/
structure RowN (w : World) (A : Option Addr) (n : Nat) (zs : List Nat) : Prop where
  len : zs.length = n
  lt : ∀ z ∈ zs, z < 18446744073709551616
  rd : Reads w w.heap.size 1 A n (uintsV zs)
theorem RowN.below {w w' : World} {A : Option Addr} {n : Nat} {zs : List Nat} (h : RowN w A n zs) (hb : Below w.heap.size w w') : RowN w' A n zs := ⟨h.len, h.lt, (h.rd.below hb).more hb.size⟩
theorem RowN.at_ {w : World} {A : Option Addr} {n k : Nat} {zs : List Nat} (h : RowN w A n zs) (hk : k < n) : ∃ a, A = some a ∧ w.cell? (a.add k) = some (.int .u64 ((zs.getD k 0 : Nat) : Int)) ∧ zs.getD k 0 < 18446744073709551616 := by
  obtain ⟨a, ha, _, hc⟩ := h.rd.2 (by omega)
  have hk2 : k < zs.length := by rw [h.len]; exact hk
  refine ⟨a, ha, hc k _ ?_, ?_⟩
  · unfold uintsV
    rw [List.getElem?_map, List.getElem?_eq_getElem hk2, List.getD_eq_getElem?_getD, List.getElem?_eq_getElem hk2]
    rfl
  · rw [List.getD_eq_getElem?_getD, List.getElem?_eq_getElem hk2]
    exact h.lt _ (List.getElem_mem hk2)
set_option maxRecDepth 100000 in
set_option maxHeartbeats 4000000 in
theorem smallest_any (A : Option Addr) (n c : Nat) (l : List Nat) (w : World) (h : RowN w A n l) (hn : n ≤ 1000000) :
    Calls Tryd.prog 24 #[.slice A n c] w (fun e w' => e = .returned (.int .u64 (smal l n : Int)) ∧ w = w') := by
  have H := hide h
  have HL := Lib.hid (smal_lt h.lt)
  clear h
  go_enter Tryd.func24, Tryd.ntmps24
  go_wp2
  go_loopw [3, 8] (fun bv iv wr => ∃ i : Nat, i ≤ n ∧ iv = .int .i64 (i : Int) ∧ bv = .int .u64 (smal l i : Int) ∧ w = wr) (fun _ iv _ => n - (intOf iv).toNat)
  case atStart => exact ⟨0, Nat.zero_le _, rfl, rfl, rfl⟩
  case round =>
    obtain ⟨i, hi, rfl, rfl, rfl⟩ := hrel
    by_cases hlt : i < n
    · have hiI : (i : Int) < (n : Int) := by omega
      obtain ⟨a, rfl, hc, hx⟩ := H.out.at_ hlt
      have HS := Lib.hid (show smal l (i + 1) = if i = 0 ∨ pop (l.getD i 0) < pop (smal l i) then l.getD i 0 else smal l i from rfl)
      have hb := HL.out i
      obtain ⟨x, hxe⟩ : ∃ x, l.getD i 0 = x := ⟨_, rfl⟩
      obtain ⟨b, hbe⟩ : ∃ b, smal l i = b := ⟨_, rfl⟩
      rw [hxe] at hc hx HS
      rw [hbe] at hb HS ⊢
      by_cases h0 : i = 0
      · have h0b : ((i : Int) == 0) = true := beq_iff_eq.2 (by omega)
        have HS2 := Lib.hid (show smal l (i + 1) = x by rw [HS.out, if_pos (.inl h0)])
        clear HS hxe hbe h0
        go_wp2
        go_roundw
        case rel => exact ⟨i + 1, by omega, by go_num, by rw [HS2.out], by first | rfl | trivial⟩
        case measure => simp [intOf]; omega
      · have h0b : ((i : Int) == 0) = false := beq_eq_false_iff_ne.2 (by omega)
        have HC1 := hide (onesC_any x w hx)
        have HC2 := hide (onesC_any b w hb)
        by_cases hp : pop x < pop b
        · have hpI : (pop x : Int) < (pop b : Int) := by omega
          have HS2 := Lib.hid (show smal l (i + 1) = x by rw [HS.out, if_pos (.inr hp)])
          clear HS hxe hbe hp
          go_wp2_with fail
          refine (HC1.out).mono ?_
          rintro e w1 ⟨rfl, rfl⟩
          go_wp2_with fail
          refine (HC2.out).mono ?_
          rintro e w1 ⟨rfl, rfl⟩
          go_wp2
          go_roundw
          case rel => exact ⟨i + 1, by omega, by go_num, by rw [HS2.out], by first | rfl | trivial⟩
          case measure => simp [intOf]; omega
        · have hpI : ¬ (pop x : Int) < (pop b : Int) := by omega
          have HS2 := Lib.hid (show smal l (i + 1) = b by rw [HS.out, if_neg (by omega)])
          clear HS hxe hbe hp
          go_wp2_with fail
          refine (HC1.out).mono ?_
          rintro e w1 ⟨rfl, rfl⟩
          go_wp2_with fail
          refine (HC2.out).mono ?_
          rintro e w1 ⟨rfl, rfl⟩
          go_wp2
          go_roundw
          case rel => exact ⟨i + 1, by omega, by go_num, by rw [HS2.out], by first | rfl | trivial⟩
          case measure => simp [intOf]; omega
    · obtain rfl : i = n := by omega
      go_wp2
      go_ret
      exact ⟨rfl, rfl⟩
end Go.Proofs.YtdlcldhnbhlikaaDoor
