/-
  count's Zero and Fits.
-/
import Derived.Test.YtpghgfenafhhbaaDoorNatA
namespace Go.Proofs.YtpghgfenafhhbaaDoor
open Go.RowKit

theorem NatV.below {w w' : World} {v : Value} {N : Nat} (h : NatV w v N) (hb : Below w.heap.size w w') : NatV w' v N := by
  obtain ⟨A, n, c, xs, h1, h2, h3, h4, h5⟩ := h.is
  exact ⟨A, n, c, xs, h1, h2, (h3.below hb).more hb.size, h4, h5⟩
theorem trim_zero {xs : List Nat} {n N : Nat} (hl : xs.length = n) (ht : TrimL xs) (hv : valL xs = N) : N = 0 ↔ n = 0 := by
  constructor
  · intro h
    rcases Nat.eq_zero_or_pos n with h0 | h0
    · exact h0
    · have := ht.pos (fun e => by rw [e] at hl; simp at hl; omega)
      omega
  · intro h
    rw [List.eq_nil_of_length_eq_zero (hl.trans h)] at hv
    exact hv.symm
def BoolPost (w : World) (b : Bool) (e : Ending) (w' : World) : Prop := e = .returned (.bool b) ∧ Below w.heap.size w w'
theorem zero_any (v : Value) (N : Nat) (w : World) (h : NatV w v N) : Calls Tryd.prog 13 #[v] w (BoolPost w (decide (N = 0))) := by
  obtain ⟨A, n, c, xs, rfl, _, hl, ht, hv⟩ := h.is
  have HZ := Lib.hid (trim_zero hl.1 ht hv)
  have hm := hl.2.1
  simp only [maxLen] at hm
  have HB := hide ((Below.refl w.heap.size w).alloc (Nat.le_refl _) (.cells #[.slice A n c] 25))
  clear hl ht hv h
  by_cases h0 : n = 0
  · subst h0
    have HE := Lib.hid (HZ.out.2 rfl)
    go_enter Tryd.func13, Tryd.ntmps13
    go_wp2
    go_ret
    exact ⟨ret_bool (by rw [decide_eq_true HE.out]), HB.out⟩
  · have HE := hide (show N ≠ 0 from fun e => h0 (HZ.out.1 e))
    have hb : ((n : Int) == 0) = false := by simp; omega
    go_enter Tryd.func13, Tryd.ntmps13
    go_wp2
    go_ret
    exact ⟨ret_bool (by rw [decide_eq_false HE.out]; try simp), HB.out⟩

theorem valL_big {xs : List Nat} (ht : TrimL xs) (h : 2 < xs.length) : 18446744073709551616 ≤ valL xs := by
  have e := valL_append (xs.take 2) (xs.drop 2)
  rw [List.take_append_drop, List.length_take, Nat.min_eq_left (by omega)] at e
  have hp : 0 < valL (xs.drop 2) := valL_pos ⟨xs.length - 3, by rw [List.length_drop]; omega, by
    rcases ht with ht | ht
    · rw [ht] at h; simp at h
    · rw [List.getD_eq_getElem?_getD, List.getElem?_drop, show 2 + (xs.length - 3) = xs.length - 1 by omega, ← List.getD_eq_getElem?_getD]; exact ht⟩
  rw [e]
  omega
theorem valL_one {xs : List Nat} (h : 0 < xs.length) : valL (xs.take 1) = xs.getD 0 0 := by
  cases xs with
  | nil => simp at h
  | cons a r => simp [valL]
theorem valL_two {xs : List Nat} (h : 1 < xs.length) : valL (xs.take 2) = xs.getD 0 0 + 4294967296 * xs.getD 1 0 := by
  match xs, h with
  | a :: b :: r, _ => simp [valL]
theorem or_zero (x : Nat) (hx : x < 4294967296) : bits BinOp.or IntKind.u64 0 (x : Int) = (x : Int) := by
  have := u64_or_nat 0 x (by omega) (by omega)
  rw [Nat.zero_or] at this
  exact this
theorem or_high (a x : Nat) (ha : a < 4294967296) (hx : x < 4294967296) : bits BinOp.or IntKind.u64 (a : Int) ((x : Int) * 4294967296) = ((a + 4294967296 * x : Nat) : Int) := by
  have h1 := u64_or_nat a (x * 4294967296) (by omega) (by omega)
  have h2 := Nat.two_pow_add_eq_or_of_lt (i := 32) (b := a) (by omega) x
  have e : ((x : Int) * 4294967296) = ((x * 4294967296 : Nat) : Int) := by simp
  rw [e, h1, Nat.or_comm, Nat.mul_comm x]
  have h3 : (2 : Nat) ^ 32 = 4294967296 := by decide
  rw [h3] at h2
  rw [← h2, Nat.add_comm]
def fitsV (N : Nat) : Value := if N < 9223372036854775808 then .tuple #[.int .i64 (N : Int), .bool true] else .tuple #[.int .i64 0, .bool false]
def FitsPost (w : World) (N : Nat) (e : Ending) (w' : World) : Prop := e = .returned (fitsV N) ∧ Below w.heap.size w w'
set_option maxHeartbeats 2000000 in
theorem fits_any (v : Value) (N : Nat) (w : World) (h : NatV w v N) : Calls Tryd.prog 7 #[v] w (FitsPost w N) := by
  obtain ⟨A, n, c, xs, rfl, _, hl, ht, hv⟩ := h.is
  have hm := hl.2.1
  simp only [maxLen] at hm
  have HI := hide hl
  have HL := Lib.hid hl.1
  have HB := hide ((Below.refl w.heap.size w).alloc (Nat.le_refl _) (.cells #[.slice A n c] 25))
  have HBK := hide (Blk.new w 25 #[.slice A n c])
  have HBIG := hide (fun (h2 : 2 < n) => show 18446744073709551616 ≤ N by rw [← hv]; exact valL_big ht (by rw [hl.1]; exact h2))
  have HV := Lib.hid hv
  clear hl ht hv h
  go_enter Tryd.func7, Tryd.ntmps7
  go_wp2
  generalize (w.alloc (.cells #[.slice A n c] 25)) = w1 at HB HBK ⊢
  go_loopw [4, 10] (fun u i wr => ∃ k : Nat, k ≤ n ∧ i = .int .i64 k ∧ u = .int .u64 ((valL (xs.take (min k 2)) : Nat) : Int) ∧ wr = w1) (fun _ i _ => n - (intOf i).toNat)
  case atStart => exact ⟨0, Nat.zero_le _, rfl, by simp [valL], rfl⟩
  case round =>
    obtain ⟨k, hk, rfl, rfl, e⟩ := hrel
    subst e
    by_cases hlt : k < n
    · obtain ⟨ad, rfl, hb, hcell, hx⟩ := HI.out.at_ hlt
      have hc2 := (HB.out.cell (by rw [block_of_add]; exact hb)).trans hcell
      clear hcell
      by_cases h0 : k = 0
      · subst h0
        generalize hgx : xs.getD 0 0 = x at hc2 hx
        have HX := Lib.hid hgx
        clear hgx
        have hc3 : wr.cell? ad = some (.int .u32 (x : Int)) := by simpa [Addr.add] using hc2
        rw [show valL (xs.take (min 0 2)) = 0 from rfl]
        have HO := Lib.hid (or_zero x hx)
        have HV1 := Lib.hid (show valL (xs.take (min 1 2)) = x by rw [show min 1 2 = 1 from rfl, valL_one (by rw [HL.out]; exact hlt)]; exact HX.out)
        go_wp2
        go_roundw
        case rel => exact ⟨1, hlt, rfl, by rw [HO.out, HV1.out], by first | rfl | trivial⟩
        case measure => simp [intOf]; omega
      · by_cases h1 : k = 1
        · subst h1
          have HX0 := hide (HI.out.2.2.1 (xs.getD 0 0) (by rw [List.getD_eq_getElem?_getD, List.getElem?_eq_getElem (by rw [HL.out]; omega)]; exact List.getElem_mem _))
          have HV1 := Lib.hid (show valL (xs.take (min 1 2)) = xs.getD 0 0 by rw [show min 1 2 = 1 from rfl, valL_one (by rw [HL.out]; omega)])
          have HV2 := Lib.hid (show valL (xs.take (min 2 2)) = xs.getD 0 0 + 4294967296 * xs.getD 1 0 by rw [show min 2 2 = 2 from rfl, valL_two (by rw [HL.out]; exact hlt)])
          have HO := Lib.hid (or_high (xs.getD 0 0) (xs.getD 1 0) HX0.out hx)
          rw [HV1.out]
          generalize xs.getD 0 0 = y at HX0 HV1 HV2 HO ⊢
          generalize xs.getD 1 0 = x at hc2 hx HV2 HO
          have hc3 : wr.cell? ⟨ad.block, ad.off + 1, none⟩ = some (.int .u32 (x : Int)) := by simpa [Addr.add] using hc2
          go_wp2
          go_roundw
          case rel => exact ⟨2, hlt, rfl, by rw [HO.out, HV2.out], by first | rfl | trivial⟩
          case measure => simp [intOf]; omega
        · have hk2 : ¬ k < 2 := by omega
          have HMI := Lib.hid (show min (k + 1) 2 = min k 2 by omega)
          generalize xs.getD k 0 = x at hc2 hx
          go_wp2
          go_roundw
          case rel => exact ⟨k + 1, by omega, by go_num, by rw [HMI.out], by first | rfl | trivial⟩
          case measure => simp [intOf]; omega
    · obtain rfl : k = n := by omega
      have c0 := HBK.out.cell 0
      by_cases h2 : 2 < k
      · have HN := Lib.hid (show fitsV N = .tuple #[.int .i64 0, .bool false] by unfold fitsV; rw [if_neg (by have := HBIG.out h2; omega)])
        go_wp2
        go_ret2
        exact ⟨by rw [HN.out]; rfl, HB.out⟩
      · have HE := Lib.hid (show valL (xs.take (min k 2)) = N by rw [← HV.out, List.take_of_length_le (by rw [HL.out]; omega)])
        rw [HE.out]
        by_cases hf : N < 9223372036854775808
        · have HN := Lib.hid (show fitsV N = .tuple #[.int .i64 (N : Int), .bool true] by unfold fitsV; rw [if_pos hf])
          go_wp2
          go_ret2
          exact ⟨by rw [HN.out]; rfl, HB.out⟩
        · have HN := Lib.hid (show fitsV N = .tuple #[.int .i64 0, .bool false] by unfold fitsV; rw [if_neg hf])
          have hge : (9223372036854775808 : Int) ≤ (N : Int) := by omega
          go_wp2
          go_ret2
          exact ⟨by rw [HN.out]; rfl, HB.out⟩
end Go.Proofs.YtpghgfenafhhbaaDoor
