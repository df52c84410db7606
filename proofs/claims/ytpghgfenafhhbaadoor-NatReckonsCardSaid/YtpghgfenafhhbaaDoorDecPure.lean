/-
  Decimal texts and their numbers; no program in sight.
-/
import Derived.Test.YtpghgfenafhhbaaDoorMulPure
namespace Go.Proofs.YtpghgfenafhhbaaDoor

def isDig (c : UInt8) : Bool := decide (48 ≤ c.toNat ∧ c.toNat ≤ 57)
def decV (l : List UInt8) : Nat := decL (l.map fun c => c.toNat - 48).reverse
theorem isDig_is {c : UInt8} (h : isDig c = true) : 48 ≤ c.toNat ∧ c.toNat ≤ 57 := of_decide_eq_true h
theorem decV_nil : decV [] = 0 := rfl
theorem decV_snoc (l : List UInt8) (c : UInt8) : decV (l ++ [c]) = decV l * 10 + (c.toNat - 48) := by
  unfold decV
  rw [List.map_append, List.reverse_append, List.map_singleton, List.reverse_singleton, decL_append]
  simp only [decL, List.length_singleton]
  omega
theorem decL_lt : ∀ (ds : List Nat), (∀ d ∈ ds, d < 10) → decL ds < 10 ^ ds.length := by
  intro ds
  induction ds with
  | nil => intro _; simp [decL]
  | cons d r ih =>
    intro h
    have h1 := h d (List.mem_cons_self ..)
    have h2 := ih fun x hx => h x (List.mem_cons_of_mem _ hx)
    rw [decL, List.length_cons, Nat.pow_succ]
    omega
theorem decV_lt {l : List UInt8} (h : ∀ c ∈ l, isDig c = true) : decV l < 10 ^ l.length := by
  have := decL_lt (l.map fun c => c.toNat - 48).reverse fun d hd => by
    rw [List.mem_reverse, List.mem_map] at hd
    obtain ⟨c, hc, rfl⟩ := hd
    have := isDig_is (h c hc)
    omega
  rw [List.length_reverse, List.length_map] at this
  exact this
theorem dig_back {c : UInt8} (h : isDig c = true) : UInt8.ofNat (48 + (c.toNat - 48)) = c := by
  have h1 := isDig_is h
  rw [show 48 + (c.toNat - 48) = c.toNat by omega]
  simp
theorem map_back : ∀ {l : List UInt8}, (∀ c ∈ l, isDig c = true) → l.map (fun c => UInt8.ofNat (48 + (c.toNat - 48))) = l := by
  intro l
  induction l with
  | nil => intro _; rfl
  | cons c r ih =>
    intro h
    rw [List.map_cons, dig_back (h c (List.mem_cons_self ..)), ih fun x hx => h x (List.mem_cons_of_mem _ hx)]
theorem decV_text {l : List UInt8} (h : ∀ c ∈ l, isDig c = true) (hl : 0 < l.length) (hf : l.getD 0 0 ≠ 48 ∨ l.length = 1) : Lib.decDigits (decV l) = l := by
  by_cases h48 : l.getD 0 0 = 48
  · have h1 := hf.resolve_left (fun e => e h48)
    match l, h1 with
    | [c], _ =>
      have e : c = 48 := by simpa using h48
      subst e
      rw [Lib.decDigits]
      rfl
  · unfold decV
    match l, hl with
    | c :: r, _ =>
      have hc := isDig_is (h c (List.mem_cons_self ..))
      have hne : c.toNat ≠ 48 := fun e => h48 (by
        rw [List.getD_cons_zero]
        exact UInt8.toNat_inj.1 e)
      rw [digits_text]
      · rw [List.map_reverse, List.reverse_reverse, List.map_map]
        exact map_back h
      · intro d hd
        rw [List.mem_reverse, List.mem_map] at hd
        obtain ⟨c, hc, rfl⟩ := hd
        have := isDig_is (h c hc)
        omega
      · simp
      · rw [List.getD_eq_getElem?_getD, List.getElem?_reverse (by simp)]
        simp
        omega

structure NumOk (s : ByteArray) : Prop where
  pos : 0 < s.size
  dig : ∀ c ∈ s.data.toList, isDig c = true
  lead : s.data.toList.getD 0 0 ≠ 48 ∨ s.size = 1
open Classical in
noncomputable def numE (s : ByteArray) : Int := if NumOk s then (if 100 < s.size then 4 else 0) else 3
theorem numE_no {s : ByteArray} (h : ¬ NumOk s) : numE s = 3 := by unfold numE; rw [if_neg h]
theorem numE_long {s : ByteArray} (h : NumOk s) (hl : 100 < s.size) : numE s = 4 := by unfold numE; rw [if_pos h, if_pos hl]
theorem numE_ok {s : ByteArray} (h : NumOk s) (hl : ¬ 100 < s.size) : numE s = 0 := by unfold numE; rw [if_pos h, if_neg hl]
theorem pow_bound {k : Nat} (hk : k ≤ 400) : 10 ^ k < 4294967296 ^ 1000 :=
  Nat.lt_of_le_of_lt (Nat.pow_le_pow_right (by omega) hk) (by decide +kernel)
theorem decV_bound {l : List UInt8} (h : ∀ c ∈ l, isDig c = true) (hl : l.length ≤ 400) : decV l < 4294967296 ^ 1000 :=
  Nat.lt_trans (decV_lt h) (pow_bound hl)
theorem take_dig {l : List UInt8} (h : ∀ c ∈ l, isDig c = true) (k : Nat) : ∀ c ∈ l.take k, isDig c = true := fun c hc => h c (List.mem_of_mem_take hc)
theorem decV_take {l : List UInt8} {k : Nat} {c : UInt8} (hk : l[k]? = some c) : decV (l.take (k + 1)) = decV (l.take k) * 10 + (c.toNat - 48) := by
  rw [List.take_add_one, hk]
  exact decV_snoc _ _
end Go.Proofs.YtpghgfenafhhbaaDoor
