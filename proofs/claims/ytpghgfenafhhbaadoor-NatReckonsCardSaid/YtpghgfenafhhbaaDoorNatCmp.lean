/-
  cmp.Compare at ints and at limbs; count's Cmp; solspacebig's cmp.
-/
import Derived.Test.YtpghgfenafhhbaaDoorNatMul
import Derived.Test.YtpghgfenafhhbaaDoorBigA
import Derived.Test.YtpghgfenafhhbaaDoorCmpPure
import Derived.Deep.QuietTactic
import Derived.BigQuiet
namespace Go.Proofs.YtpghgfenafhhbaaDoor
open Go.RowKit

def CmpPost (w : World) (z : Int) (e : Ending) (w' : World) : Prop := e = .returned (.int .i64 z) ∧ w = w'
theorem compInt_any (x y : Nat) (w : World) (_ : x ≤ 9223372036854775807) (hy : y ≤ 9223372036854775807) :
    Calls Tryd.prog 49 #[.int .i64 x, .int .i64 y] w (CmpPost w (cmpZ x y)) := by
  rcases Nat.lt_trichotomy x y with h | h | h
  · rw [cmpZ_lt h]
    go_enter Tryd.func49, Tryd.ntmps49
    go_wp2
    go_ret
    exact ⟨rfl, rfl⟩
  · rw [cmpZ_eq h]
    subst h
    go_enter Tryd.func49, Tryd.ntmps49
    go_wp2
    go_ret
    exact ⟨rfl, rfl⟩
  · rw [cmpZ_gt h]
    have hd : decide ((x : Int) < (y : Int)) = false := decide_eq_false (by omega)
    go_enter Tryd.func49, Tryd.ntmps49
    go_wp2
    go_ret
    exact ⟨rfl, rfl⟩
theorem compLimb_any (x y : Nat) (w : World) (_ : x < 4294967296) (hy : y < 4294967296) :
    Calls Tryd.prog 50 #[.int .u32 x, .int .u32 y] w (CmpPost w (cmpZ x y)) := by
  rcases Nat.lt_trichotomy x y with h | h | h
  · rw [cmpZ_lt h]
    go_enter Tryd.func50, Tryd.ntmps50
    go_wp2
    go_ret
    exact ⟨rfl, rfl⟩
  · rw [cmpZ_eq h]
    subst h
    go_enter Tryd.func50, Tryd.ntmps50
    go_wp2
    go_ret
    exact ⟨rfl, rfl⟩
  · rw [cmpZ_gt h]
    have hd : decide ((x : Int) < (y : Int)) = false := decide_eq_false (by omega)
    go_enter Tryd.func50, Tryd.ntmps50
    go_wp2
    go_ret
    exact ⟨rfl, rfl⟩
theorem cmpN_lt {xs ys : List Nat} {n n2 : Nat} {N M : Nat} (h1 : xs.length = n) (h2 : ys.length = n2) (hlt : ∀ x ∈ xs, x < 4294967296) (ht : TrimL ys) (hv : valL xs = N) (hv2 : valL ys = M) (h : n < n2) : N < M := by
  rw [← hv, ← hv2]
  exact cmp_len hlt ht (by omega)
theorem q3 (w : World) (q a b : Nat) : ∃ m, ((w.drewN q).drewN a).drewN b = w.drewN m := ⟨_, by rw [World.drewN_drewN, World.drewN_drewN]⟩
def QCmp (w : World) (z : Int) (e : Ending) (w' : World) : Prop := e = .returned (.int .i64 z) ∧ ∃ q, w' = w.drewN q

set_option maxRecDepth 100000 in
set_option maxHeartbeats 4000000 in
theorem bigCmp_any (v1 v2 : Value) (N M : Nat) (w : World) (h1 : BigV w v1 N) (h2 : BigV w v2 M) (hN : N < 4294967296 ^ 1000) (hM : M < 4294967296 ^ 1000) :
    Calls Tryd.prog 42 #[v1, v2] w (QCmp w (cmpZ N M)) := by
  obtain ⟨A, n, c, xs, rfl, _, hl, ht, hv, hn⟩ := h1.len hN
  obtain ⟨A2, n2, c2, ys, rfl, _, hl2, ht2, hv2, hn2⟩ := h2.len hM
  have HL1 := hide (fun h => cmpN_lt hl.1 hl2.1 hl.2.2.1 ht2 hv hv2 h)
  have HL2 := hide (fun h => cmpN_lt hl2.1 hl.1 hl2.2.2.1 ht hv2 hv h)
  have HI := hide hl
  have HJ := hide hl2
  have HV := Lib.hid hv
  have HV2 := Lib.hid hv2
  clear h1 h2 hl ht hv hl2 ht2 hv2 hN hM
  rcases Nat.lt_trichotomy n n2 with hlt | hlt | hlt
  · rw [cmpZ_lt (HL1.out hlt)]
    have hb : ((n : Int) == (n2 : Int)) = false := beq_eq_false_iff_ne.2 (by omega)
    go_enter Tryd.func42, Tryd.ntmps42
    go_wp2
    go_ret
    exact ⟨rfl, 0, rfl⟩
  · subst hlt
    go_enter Tryd.func42, Tryd.ntmps42
    go_wp2
    go_loopw [5] (fun iv wr => ∃ k : Nat, k ≤ n ∧ iv = .int .i64 ((k : Int) - 1) ∧ (∃ q, wr = w.drewN q) ∧ Hid (CmpI xs ys k)) (fun iv _ => (intOf iv + 1).toNat)
    case atStart => exact ⟨n, Nat.le_refl _, rfl, ⟨0, rfl⟩, hide ⟨by rw [List.drop_eq_nil_of_le (by rw [HI.out.1]; exact Nat.le_refl _), List.drop_eq_nil_of_le (by rw [HJ.out.1]; exact Nat.le_refl _)]⟩⟩
    case round =>
      obtain ⟨k, hk, rfl, ⟨q, rfl⟩, hR⟩ := hrel
      rcases Nat.eq_zero_or_pos k with h0 | h0
      · subst h0
        have hz := hR.out.is
        rw [List.drop_zero, List.drop_zero] at hz
        have HZ := Lib.hid (cmpZ_eq (N := N) (M := M) (by rw [← HV.out, ← HV2.out, hz]))
        clear hz
        go_wp2
        go_ret
        exact ⟨by rw [HZ.out]; rfl, q, rfl⟩
      · obtain ⟨j, rfl⟩ : ∃ j, k = j + 1 := ⟨k - 1, by omega⟩
        rw [show (((j + 1 : Nat) : Int) - 1) = (j : Int) by omega]
        obtain ⟨ad, rfl, _, hc1, hx⟩ := HI.out.at_ (k := j) (by omega)
        obtain ⟨ad2, rfl, _, hc2, hy⟩ := HJ.out.at_ (k := j) (by omega)
        have HA := hide (fun h => cmp_at (k := j) (by rw [HI.out.1]; omega) (by rw [HJ.out.1]; omega) HI.out.2.2.1 hR.out.is h)
        have HB := hide (fun h => cmp_at (k := j) (by rw [HJ.out.1]; omega) (by rw [HI.out.1]; omega) HJ.out.2.2.1 hR.out.is.symm h)
        have HC := hide (fun h => drop_same (k := j) (by rw [HI.out.1]; omega) (by rw [HJ.out.1]; omega) hR.out.is h)
        have hjn : (j : Int) < (n : Int) := by omega
        have hj0 : (0 : Int) ≤ (j : Int) := by omega
        rw [HV.out, HV2.out] at HA
        rw [HV.out, HV2.out] at HB
        generalize xs.getD j 0 = x at hc1 hx HA HB HC
        generalize ys.getD j 0 = y at hc2 hy HA HB HC
        rcases Nat.lt_trichotomy x y with h | h | h
        · have hb : ((x : Int) == (y : Int)) = false := beq_eq_false_iff_ne.2 (by omega)
          have hd : decide ((x : Int) < (y : Int)) = true := decide_eq_true (by omega)
          have HZ := Lib.hid (cmpZ_lt (HA.out h))
          go_wp2
          go_quiet (fail)
          go_wp2
          go_quiet (fail)
          go_wp2
          go_ret
          exact ⟨by rw [HZ.out]; rfl, q3 ..⟩
        · subst h
          have HC2 := hide (HC.out rfl)
          go_wp2
          go_quiet (fail)
          go_wp2
          go_roundw
          case rel => exact ⟨j, by omega, rfl, by first | exact ⟨_, rfl⟩ | exact ⟨_, World.drewN_drewN ..⟩, hide ⟨HC2.out⟩⟩
          case measure => simp [intOf]
        · have hb : ((x : Int) == (y : Int)) = false := beq_eq_false_iff_ne.2 (by omega)
          have hd : decide ((x : Int) < (y : Int)) = false := decide_eq_false (by omega)
          have HZ := Lib.hid (cmpZ_gt (HB.out h))
          go_wp2
          go_quiet (fail)
          go_wp2
          go_quiet (fail)
          go_wp2
          go_ret
          exact ⟨by rw [HZ.out]; rfl, q3 ..⟩
  · rw [cmpZ_gt (HL2.out hlt)]
    have hb : ((n : Int) == (n2 : Int)) = false := beq_eq_false_iff_ne.2 (by omega)
    have hd : decide ((n : Int) < (n2 : Int)) = false := decide_eq_false (by omega)
    go_enter Tryd.func42, Tryd.ntmps42
    go_wp2
    go_ret
    exact ⟨rfl, 0, rfl⟩

def NCmp (w : World) (z : Int) (e : Ending) (w' : World) : Prop := e = .returned (.int .i64 z) ∧ Below w.heap.size w w'
set_option maxRecDepth 100000 in
set_option maxHeartbeats 4000000 in
theorem natCmp_any (v1 v2 : Value) (N M : Nat) (w : World) (h1 : NatV w v1 N) (h2 : NatV w v2 M) (hN : N < 4294967296 ^ 1000) (hM : M < 4294967296 ^ 1000) :
    Calls Tryd.prog 27 #[v1, v2] w (NCmp w (cmpZ N M)) := by
  obtain ⟨A, n, c, xs, rfl, _, hl, ht, hv, hn⟩ := h1.len hN
  obtain ⟨A2, n2, c2, ys, rfl, _, hl2, ht2, hv2, hn2⟩ := h2.len hM
  have HL1 := hide (fun h => cmpN_lt hl.1 hl2.1 hl.2.2.1 ht2 hv hv2 h)
  have HL2 := hide (fun h => cmpN_lt hl2.1 hl.1 hl2.2.2.1 ht hv2 hv h)
  have HI := hide hl
  have HJ := hide hl2
  have HV := Lib.hid hv
  have HV2 := Lib.hid hv2
  clear h1 h2 hl ht hv hl2 ht2 hv2 hN hM
  have k1 := Blk.new w 25 #[.slice A n c]
  have k2 := Blk.new (w.alloc (.cells #[.slice A n c] 25)) 25 #[.slice A2 n2 c2]
  rw [sizeAl] at k2
  have K1 := hide (k1.alloc (.cells #[.slice A2 n2 c2] 25))
  have K2 := hide k2
  have HBW := hide (((Below.refl w.heap.size w).alloc (Nat.le_refl _) (.cells #[.slice A n c] 25)).alloc (by simp) (.cells #[.slice A2 n2 c2] 25))
  clear k1 k2
  rcases Nat.lt_trichotomy n n2 with hlt | hlt | hlt
  · have HCI := hide (fun w' => compInt_any n n2 w' (by omega) (by omega))
    have HZ := Lib.hid (cmpZ_lt (HL1.out hlt))
    have HZ2 := Lib.hid (cmpZ_lt hlt)
    have hb : ((n : Int) == (n2 : Int)) = false := beq_eq_false_iff_ne.2 (by omega)
    go_enter Tryd.func27, Tryd.ntmps27
    go_wp2_with fail
    refine (HCI.out _).mono ?_
    rintro e w4 ⟨rfl, rfl⟩
    go_wp2
    go_ret
    exact ⟨by rw [HZ.out, ← HZ2.out]; rfl, HBW.out⟩
  · subst hlt
    go_enter Tryd.func27, Tryd.ntmps27
    go_wp2
    obtain ⟨w4, HW4⟩ : ∃ w4, Hid ((w.alloc (.cells #[.slice A n c] 25)).alloc (.cells #[.slice A2 n c2] 25) = w4) := ⟨_, Lib.hid rfl⟩
    rw [HW4.out] at K1 K2 HBW
    rw [HW4.out]
    go_loopw [5] (fun iv wr => ∃ k : Nat, k ≤ n ∧ iv = .int .i64 ((k : Int) - 1) ∧ (∃ q, wr = w4.drewN q) ∧ Hid (CmpI xs ys k)) (fun iv _ => (intOf iv + 1).toNat)
    case atStart => exact ⟨n, Nat.le_refl _, rfl, ⟨0, rfl⟩, hide ⟨by rw [List.drop_eq_nil_of_le (by rw [HI.out.1]; exact Nat.le_refl _), List.drop_eq_nil_of_le (by rw [HJ.out.1]; exact Nat.le_refl _)]⟩⟩
    case round =>
      obtain ⟨k, hk, rfl, ⟨q, rfl⟩, hR⟩ := hrel
      rcases Nat.eq_zero_or_pos k with h0 | h0
      · subst h0
        have hz := hR.out.is
        rw [List.drop_zero, List.drop_zero] at hz
        have HZ := Lib.hid (cmpZ_eq (N := N) (M := M) (by rw [← HV.out, ← HV2.out, hz]))
        clear hz
        go_wp2
        go_ret
        exact ⟨by rw [HZ.out]; rfl, below_drewN HBW.out _⟩
      · obtain ⟨j, rfl⟩ : ∃ j, k = j + 1 := ⟨k - 1, by omega⟩
        rw [show (((j + 1 : Nat) : Int) - 1) = (j : Int) by omega]
        obtain ⟨ad, rfl, ha1, hc1, hx⟩ := HI.out.at_ (k := j) (by omega)
        obtain ⟨ad2, rfl, ha2, hc2, hy⟩ := HJ.out.at_ (k := j) (by omega)
        have hd1 := (HBW.out.cell (p := ad.add j) (by rw [block_of_add]; exact ha1)).trans hc1
        have hd2 := (HBW.out.cell (p := ad2.add j) (by rw [block_of_add]; exact ha2)).trans hc2
        have c1 := K1.out.cell 0
        have c2 := K2.out.cell 0
        have HA := hide (fun h => cmp_at (k := j) (by rw [HI.out.1]; omega) (by rw [HJ.out.1]; omega) HI.out.2.2.1 hR.out.is h)
        have HB := hide (fun h => cmp_at (k := j) (by rw [HJ.out.1]; omega) (by rw [HI.out.1]; omega) HJ.out.2.2.1 hR.out.is.symm h)
        have HC := hide (fun h => drop_same (k := j) (by rw [HI.out.1]; omega) (by rw [HJ.out.1]; omega) hR.out.is h)
        have hjn : (j : Int) < (n : Int) := by omega
        have hj0 : (0 : Int) ≤ (j : Int) := by omega
        rw [HV.out, HV2.out] at HA
        rw [HV.out, HV2.out] at HB
        clear hc1 hc2
        generalize xs.getD j 0 = x at hd1 hx HA HB HC
        generalize ys.getD j 0 = y at hd2 hy HA HB HC
        have HCL := hide (fun w' => compLimb_any x y w' hx hy)
        rcases Nat.lt_trichotomy x y with h | h | h
        · rw [cmpZ_lt h] at HCL
          have HZ := Lib.hid (cmpZ_lt (HA.out h))
          go_wp2
          go_quiet ((go_at_call 50; refine (HCL.out _).mono ?_; rintro e w9 ⟨rfl, rfl⟩; exact ⟨rfl, _, rfl⟩))
          go_wp2
          go_ret
          exact ⟨by rw [HZ.out]; rfl, below_drewN HBW.out _⟩
        · subst h
          rw [cmpZ_eq rfl] at HCL
          have HC2 := hide (HC.out rfl)
          go_wp2
          go_quiet ((go_at_call 50; refine (HCL.out _).mono ?_; rintro e w9 ⟨rfl, rfl⟩; exact ⟨rfl, _, rfl⟩))
          go_wp2
          go_roundw
          case rel => exact ⟨j, by omega, rfl, by first | exact ⟨_, rfl⟩ | exact ⟨_, World.drewN_drewN ..⟩, hide ⟨HC2.out⟩⟩
          case measure => simp [intOf]
        · rw [cmpZ_gt h] at HCL
          have HZ := Lib.hid (cmpZ_gt (HB.out h))
          go_wp2
          go_quiet ((go_at_call 50; refine (HCL.out _).mono ?_; rintro e w9 ⟨rfl, rfl⟩; exact ⟨rfl, _, rfl⟩))
          go_wp2
          go_ret
          exact ⟨by rw [HZ.out]; rfl, below_drewN HBW.out _⟩
  · have HCI := hide (fun w' => compInt_any n n2 w' (by omega) (by omega))
    have HZ := Lib.hid (cmpZ_gt (HL2.out hlt))
    have HZ2 := Lib.hid (cmpZ_gt hlt)
    have hb : ((n : Int) == (n2 : Int)) = false := beq_eq_false_iff_ne.2 (by omega)
    go_enter Tryd.func27, Tryd.ntmps27
    go_wp2_with fail
    refine (HCI.out _).mono ?_
    rintro e w4 ⟨rfl, rfl⟩
    go_wp2
    go_ret
    exact ⟨by rw [HZ.out, ← HZ2.out]; rfl, HBW.out⟩
end Go.Proofs.YtpghgfenafhhbaaDoor
