/-
  solspacebig's length, IsInt64, Uint64, Int64, Sign, at numbers that aren't below 0.
-/
import Derived.Test.YtpghgfenafhhbaaDoorBigP
namespace Go.Proofs.YtpghgfenafhhbaaDoor
open Go.RowKit

theorem valL_lt : ∀ (l : List Nat), (∀ x ∈ l, x < 4294967296) → valL l < 4294967296 ^ l.length := by
  intro l
  induction l with
  | nil => intro _; simp [valL]
  | cons x r ih =>
    intro h
    have h1 := h x (List.mem_cons_self ..)
    have h2 := ih fun y hy => h y (List.mem_cons_of_mem _ hy)
    rw [valL, List.length_cons, Nat.pow_succ]
    omega
theorem limb_pow (m : Nat) : 4294967296 ^ m = 2 ^ (32 * m) := by rw [Nat.pow_mul]
theorem bitlen_law {xs : List Nat} {m j : Nat} (hl : xs.length = m + 1) (hx : ∀ x ∈ xs, x < 4294967296) (h1 : xs.getD m 0 < 2 ^ (j + 1)) (h2 : 2 ^ j ≤ xs.getD m 0) (k : Nat) : valL xs < 2 ^ k ↔ 32 * m + (j + 1) ≤ k := by
  have e := valL_succ (l := xs) (k := m) (by omega)
  rw [List.take_of_length_le (by omega)] at e
  have hlt := valL_lt (xs.take m) fun x hx2 => hx x (List.mem_of_mem_take hx2)
  rw [List.length_take, Nat.min_eq_left (by omega)] at hlt
  rw [limb_pow] at e hlt
  generalize xs.getD m 0 = t at h1 h2 e
  have p1 : 2 ^ j * 2 ^ (32 * m) ≤ t * 2 ^ (32 * m) := Nat.mul_le_mul_right _ h2
  have p2 : (t + 1) * 2 ^ (32 * m) ≤ 2 ^ (j + 1) * 2 ^ (32 * m) := Nat.mul_le_mul_right _ h1
  rw [← Nat.pow_add] at p1 p2
  rw [Nat.add_mul, Nat.one_mul] at p2
  constructor
  · intro h
    rcases Nat.lt_or_ge k (32 * m + (j + 1)) with hk | hk
    · have := Nat.pow_le_pow_right (show 0 < 2 by omega) (show k ≤ j + 32 * m by omega)
      omega
    · exact hk
  · intro h
    have := Nat.pow_le_pow_right (show 0 < 2 by omega) (show j + 1 + 32 * m ≤ k by omega)
    omega
def LenPost (w : World) (N : Nat) (e : Ending) (w' : World) : Prop := ∃ L : Nat, e = .returned (.int .i64 (L : Int)) ∧ (∀ k, N < 2 ^ k ↔ L ≤ k) ∧ w = w'
structure LenI (top j t : Nat) : Prop where
  is : t = top / 2 ^ j
  ge : j = 0 ∨ top / 2 ^ (j - 1) ≠ 0
theorem LenI.next {top j t : Nat} (h : LenI top j t) (ht : t ≠ 0) : LenI top (j + 1) (t / 2) :=
  ⟨by rw [h.is, Nat.div_div_eq_div_mul, Nat.pow_succ], .inr (by rw [Nat.add_sub_cancel, ← h.is]; exact ht)⟩
theorem LenI.few {top j t : Nat} (h : LenI top j t) (ht : top < 4294967296) : j ≤ 32 := by
  rcases h.ge with h | h
  · omega
  · rcases Nat.lt_or_ge 32 j with hj | hj
    · exfalso
      apply h
      apply Nat.div_eq_of_lt
      have := Nat.pow_le_pow_right (show 0 < 2 by omega) (show 32 ≤ j - 1 by omega)
      omega
    · exact hj
theorem LenI.end_ {top j : Nat} (h : LenI top j 0) (ht : top ≠ 0) : ∃ i, j = i + 1 ∧ top < 2 ^ (i + 1) ∧ 2 ^ i ≤ top := by
  have hp : 0 < 2 ^ j := Nat.pow_pos (by omega)
  have h1 : top < 2 ^ j := by
    rcases Nat.lt_or_ge top (2 ^ j) with h2 | h2
    · exact h2
    · have := Nat.div_pos h2 hp
      have := h.is
      omega
  rcases h.ge with h2 | h2
  · subst h2
    simp at h1
    exact absurd h1 ht
  · match j, h1, h2 with
    | 0, h1, _ => simp at h1; exact absurd h1 ht
    | i + 1, h1, h2 =>
      refine ⟨i, rfl, h1, ?_⟩
      rw [Nat.add_sub_cancel] at h2
      rcases Nat.lt_or_ge top (2 ^ i) with h3 | h3
      · exact absurd (Nat.div_eq_of_lt h3) h2
      · exact h3
set_option maxHeartbeats 2000000 in
theorem length_any (v : Value) (N : Nat) (w : World) (h : BigV w v N) (hN : N < 4294967296 ^ 1000) :
    Calls Tryd.prog 38 #[v] w (LenPost w N) := by
  obtain ⟨A, n, c, xs, rfl, _, hl, ht, hv, hn⟩ := h.len hN
  have HV := Lib.hid hv
  have HLT := hide hl.2.2.1
  have HXL := Lib.hid hl.1
  have HTR := hide ht
  have HI := hide hl
  clear h ht hv hN hl
  by_cases h0 : n = 0
  · subst h0
    have hz : N = 0 := by rw [← HV.out, List.eq_nil_of_length_eq_zero HXL.out]; rfl
    have HZ := Lib.hid hz
    clear hz
    go_enter Tryd.func38, Tryd.ntmps38
    go_wp2
    go_ret
    exact ⟨0, rfl, fun k => by rw [HZ.out]; have := Nat.pow_pos (n := k) (show 0 < 2 by omega); omega, rfl⟩
  · obtain ⟨m, rfl⟩ : ∃ m, n = m + 1 := ⟨n - 1, by omega⟩
    obtain ⟨ad, rfl, hb, hc2, hx⟩ := HI.out.at_ (k := m) (by omega)
    have HTZ := Lib.hid (show xs.getD m 0 ≠ 0 from by
      rcases HTR.out with e | e
      · have := HXL.out; rw [e] at this; simp at this
      · rw [HXL.out, Nat.add_sub_cancel] at e; exact e)
    have hb0 : (((m : Int) + 1) == 0) = false := beq_eq_false_iff_ne.2 (by omega)
    have hb1 : (((m + 1 : Nat) : Int) == 0) = false := beq_eq_false_iff_ne.2 (by omega)
    have HLW := hide (fun j h1 h2 => bitlen_law HXL.out HLT.out (j := j) h1 h2)
    have hsub : ((m + 1 : Nat) : Int) - 1 = (m : Int) := by omega
    generalize xs.getD m 0 = top at hc2 hx HTZ HLW
    have HST := hide (show LenI top 0 top from ⟨by simp, .inl rfl⟩)
    go_enter Tryd.func38, Tryd.ntmps38
    go_wp2
    go_loopw [3, 4] (fun nv tv wr => ∃ j t : Nat, nv = .int .i64 j ∧ tv = .int .u32 t ∧ wr = w ∧ t < 4294967296 ∧ j ≤ 32 ∧ Hid (LenI top j t)) (fun _ tv _ => (intOf tv).toNat)
    case atStart => exact ⟨0, top, rfl, rfl, rfl, hx, by omega, HST⟩
    case round =>
      obtain ⟨j, t, rfl, rfl, rfl, htl, hj, hI⟩ := hrel
      by_cases hz : t = 0
      · subst hz
        obtain ⟨i, rfl, h1, h2⟩ := hI.out.end_ HTZ.out
        have HFI := hide (HLW.out i h1 h2)
        clear h1 h2
        have HRV := Lib.hid (show ((m : Int) * 32 + ((i : Int) + 1)) = ((32 * m + (i + 1) : Nat) : Int) by omega)
        go_wp2
        exact bodyPost_ret (v := .int .i64 ((m : Int) * 32 + ((i : Int) + 1))) (by simp [results, Tryd.results38, go_sem]) rfl ⟨32 * m + (i + 1), by rw [HRV.out], fun k => by rw [← HV.out]; exact HFI.out k, rfl⟩
      · have HNX := hide (hI.out.next hz)
        have hf := HNX.out.few hx
        have hzb : ((t : Int) == 0) = false := beq_eq_false_iff_ne.2 (by omega)
        go_wp2
        go_roundw
        case rel => exact ⟨j + 1, t / 2, by go_num, by congr 1, by first | rfl | trivial, by omega, hf, HNX⟩
        case measure => simp [intOf]; omega

set_option maxHeartbeats 2000000 in
theorem isInt64_any (b N : Nat) (w : World) (h : IntAt w b N) (hN : N < 4294967296 ^ 1000) :
    Calls Tryd.prog 14 #[.pointer (some ⟨b, 0, none⟩)] w fun e w' => e = .returned (.bool (decide (N < 9223372036854775808))) ∧ w = w' := by
  obtain ⟨v, hb, hv⟩ := h.is
  have HLE := hide (length_any v N w hv hN)
  have c0 := hb.cell 0
  have c1 := hb.cell 1
  clear h hb hv hN
  go_enter Tryd.func14, Tryd.ntmps14
  go_wp2_with fail
  refine (HLE.out).mono ?_
  rintro e w1 ⟨L, rfl, hL, rfl⟩
  have h63 := hL 63
  rw [show (2 : Nat) ^ 63 = 9223372036854775808 by decide] at h63
  have HF := hide h63
  clear hL h63 HLE
  by_cases hs : L < 64
  · have HR := Lib.hid (show true = decide (N < 9223372036854775808) from (decide_eq_true (HF.out.2 (by omega))).symm)
    go_wp2
    go_ret
    exact ⟨ret_bool HR.out, rfl⟩
  · have HR := Lib.hid (show false = decide (N < 9223372036854775808) from (decide_eq_false (fun h => hs (by have := HF.out.1 h; omega))).symm)
    have hd : decide ((L : Int) < 64) = false := decide_eq_false (by omega)
    by_cases h64 : L = 64
    · subst h64
      go_wp2
      go_ret
      exact ⟨ret_bool HR.out, rfl⟩
    · have hb2 : ((L : Int) == 64) = false := beq_eq_false_iff_ne.2 (by omega)
      go_wp2
      go_ret
      exact ⟨ret_bool HR.out, rfl⟩

theorem or_zero2 (x : Nat) (hx : x < 4294967296) : bits BinOp.or IntKind.u64 (x : Int) 0 = (x : Int) := by
  have := u64_or_nat x 0 (by omega) (by omega)
  rw [Nat.or_zero] at this
  exact this
set_option maxHeartbeats 2000000 in
theorem uint64_any (b N : Nat) (w : World) (h : IntAt w b N) (hN : N < 18446744073709551616) :
    Calls Tryd.prog 40 #[.pointer (some ⟨b, 0, none⟩)] w fun e w' => e = .returned (.int .u64 (N : Int)) ∧ w = w' := by
  obtain ⟨v, hb, hv⟩ := h.is
  have c0 := hb.cell 0
  have c1 := hb.cell 1
  obtain ⟨A, n, c, xs, rfl, _, hl, ht, hv, hn⟩ := BigV.len (k := 2) hv hN
  have HI := hide hl
  have HV := Lib.hid hv
  have HXL := Lib.hid hl.1
  clear h hb hv hl ht
  rcases (show n = 0 ∨ n = 1 ∨ n = 2 by omega) with h0 | h0 | h0
  · subst h0
    have hz : N = 0 := by rw [← HV.out, List.eq_nil_of_length_eq_zero HXL.out]; rfl
    subst hz
    go_enter Tryd.func40, Tryd.ntmps40
    go_wp2
    go_ret
    exact ⟨rfl, rfl⟩
  · subst h0
    obtain ⟨ad, rfl, _, hc2, hx⟩ := HI.out.at_ (k := 0) (by omega)
    have hz : N = xs.getD 0 0 := by
      rw [← HV.out, ← valL_one (by rw [HXL.out]; omega), List.take_of_length_le (by rw [HXL.out]; omega)]
    rw [← hz] at hc2 hx
    clear hz
    have hc4 : w.cell? ad = some (.int .u32 (N : Int)) := hc2
    go_enter Tryd.func40, Tryd.ntmps40
    go_wp2
    go_ret
    exact ⟨rfl, rfl⟩
  · subst h0
    obtain ⟨ad, rfl, _, hc2, hx⟩ := HI.out.at_ (k := 0) (by omega)
    obtain ⟨ad', e', _, hc3, hy⟩ := HI.out.at_ (k := 1) (by omega)
    obtain rfl : ad = ad' := by injection e'
    have hz : N = xs.getD 0 0 + 4294967296 * xs.getD 1 0 := by
      rw [← HV.out, ← valL_two (by rw [HXL.out]; omega), List.take_of_length_le (by rw [HXL.out]; omega)]
    have HZ := Lib.hid hz
    clear hz e'
    generalize xs.getD 0 0 = x at hc2 hx HZ
    generalize xs.getD 1 0 = y at hc3 hy HZ
    have hor := or_high x y hx hy
    have hc5 : w.cell? ⟨ad.block, ad.off + 1, none⟩ = some (.int .u32 (y : Int)) := hc3
    have hc4 : w.cell? ad = some (.int .u32 (x : Int)) := hc2
    rw [← HZ.out] at hor
    go_enter Tryd.func40, Tryd.ntmps40
    go_wp2
    go_ret
    exact ⟨rfl, rfl⟩
set_option maxHeartbeats 2000000 in
theorem int64_any (b N : Nat) (w : World) (h : IntAt w b N) (hN : N < 9223372036854775808) :
    Calls Tryd.prog 15 #[.pointer (some ⟨b, 0, none⟩)] w fun e w' => e = .returned (.int .i64 (N : Int)) ∧ w = w' := by
  have HU := hide (uint64_any b N w h (by omega))
  obtain ⟨v, hb, hv⟩ := h.is
  have c0 := hb.cell 0
  clear h hb hv
  go_enter Tryd.func15, Tryd.ntmps15
  go_wp2_with fail
  refine (HU.out).mono ?_
  rintro e w1 ⟨rfl, rfl⟩
  go_wp2
  go_ret
  exact ⟨rfl, rfl⟩
set_option maxHeartbeats 2000000 in
theorem sign_any (b N : Nat) (w : World) (h : IntAt w b N) :
    Calls Tryd.prog 16 #[.pointer (some ⟨b, 0, none⟩)] w fun e w' => e = .returned (.int .i64 (if N = 0 then 0 else 1)) ∧ w = w' := by
  obtain ⟨v, hb, hv⟩ := h.is
  have c0 := hb.cell 0
  have c1 := hb.cell 1
  obtain ⟨A, n, c, xs, e, _, hl, ht, hv2⟩ := NatV.is hv
  obtain rfl := agg_one e
  have HZ := Lib.hid (trim_zero hl.1 ht hv2)
  clear h hb hv hv2 hl ht e
  by_cases h0 : n = 0
  · subst h0
    have hz := HZ.out.2 rfl
    subst hz
    go_enter Tryd.func16, Tryd.ntmps16
    go_wp2
    go_ret
    exact ⟨rfl, rfl⟩
  · have HE := hide (show N ≠ 0 from fun e => h0 (HZ.out.1 e))
    have hb : ((n : Int) == 0) = false := beq_eq_false_iff_ne.2 (by omega)
    have HR := Lib.hid (show (1 : Int) = if N = 0 then 0 else 1 by rw [if_neg HE.out])
    go_enter Tryd.func16, Tryd.ntmps16
    go_wp2
    go_ret
    exact ⟨by first | rfl | rw [← HR.out], rfl⟩
end Go.Proofs.YtpghgfenafhhbaaDoor
