/-
  solspacebig's mul.
-/
import Derived.Test.YtpghgfenafhhbaaDoorBigA
import Derived.Deep.QuietTactic
import Derived.BigQuiet
namespace Go.Proofs.YtpghgfenafhhbaaDoor
open Go.RowKit

theorem mul_zero_l {xs : List Nat} {n N M : Nat} (hl : xs.length = n) (hv : valL xs = N) (h : n = 0) : N * M = 0 := by
  rw [List.eq_nil_of_length_eq_zero (hl.trans h)] at hv
  rw [← hv, valL, Nat.zero_mul]
theorem mul_zero_r {xs : List Nat} {n N M : Nat} (hl : xs.length = n) (hv : valL xs = M) (h : n = 0) : N * M = 0 := by
  rw [List.eq_nil_of_length_eq_zero (hl.trans h)] at hv
  rw [← hv, valL, Nat.mul_zero]
set_option maxRecDepth 100000 in
set_option maxHeartbeats 4000000 in
theorem bigMul_any (v1 v2 : Value) (N M : Nat) (w : World) (h1 : BigV w v1 N) (h2 : BigV w v2 M) (hN : N < 4294967296 ^ 1000) (hM : M < 4294967296 ^ 1000) :
    Calls Tryd.prog 48 #[v1, v2] w (BigPost w (N * M)) := by
  obtain ⟨A, n, c, xs, rfl, _, hl, _, hv, hn⟩ := h1.len hN
  obtain ⟨A2, n2, c2, ys, rfl, _, hl2, _, hv2, hn2⟩ := h2.len hM
  have HI := hide hl
  have HJ := hide hl2
  have HXL := Lib.hid hl.1
  have HYL := Lib.hid hl2.1
  have HV := Lib.hid (show N * M = valL xs * valL ys by rw [hv, hv2])
  have HZ1 := hide (fun h => mul_zero_l (M := M) hl.1 hv h)
  have HZ2 := hide (fun h => mul_zero_r (N := N) hl2.1 hv2 h)
  by_cases hn0 : n = 0
  · subst hn0
    have hz := HZ1.out rfl
    clear hl hl2 h1 h2 hv hv2 HV
    rw [hz]
    go_enter Tryd.func48, Tryd.ntmps48
    go_wp2
    go_ret
    exact ⟨_, rfl, BigV.nil _, new_nil, Below.refl _ _⟩
  by_cases hm0 : n2 = 0
  · subst hm0
    have hz := HZ2.out rfl
    clear hl hl2 h1 h2 hv hv2 HV
    have hb : ((n : Int) == 0) = false := by simp; omega
    rw [hz]
    go_enter Tryd.func48, Tryd.ntmps48
    go_wp2
    go_ret
    exact ⟨_, rfl, BigV.nil _, new_nil, Below.refl _ _⟩
  have hb1 : ((n : Int) == 0) = false := by simp; omega
  have hb2 : ((n2 : Int) == 0) = false := by simp; omega
  have hmk := run_mk w (n + n2) (by omega) ((n : Int) + (n2 : Int)) (by omega)
  clear hl hl2 hv hv2 h1 h2 hN hM HZ1 HZ2
  have K4 := hide (Blk.new w 57 (limbArr (List.replicate (n + n2) 0)))
  have HBW := hide ((Below.refl w.heap.size w).alloc (Nat.le_refl _) (.cells (limbArr (List.replicate (n + n2) 0)) 57))
  go_enter Tryd.func48, Tryd.ntmps48
  go_wp2
  generalize (w.alloc (.cells (limbArr (List.replicate (n + n2) 0)) 57)) = w4 at K4 HBW ⊢
  clear hmk
  obtain ⟨g, HGG⟩ : ∃ g, Hid (w.heap.size = g) := ⟨_, Lib.hid rfl⟩
  rw [HGG.out] at K4
  simp only [HGG.out]
  have hgs : w.heap.size ≤ g := by rw [← HGG.out]; omega
  have HST := hide (show NmI w4 g (MulO xs ys 0) w4 from ⟨World.grownBy.refl w4 _, _, K4.out, by have := MulO.start xs ys; rw [HXL.out, HYL.out] at this; exact this⟩)
  go_loopw [6] (fun iv wr => ∃ i : Nat, i ≤ n ∧ iv = .int .i64 i ∧ Hid (NmI w4 g (MulO xs ys i) wr)) (fun iv _ => n - (intOf iv).toNat)
  case atStart => exact ⟨0, Nat.zero_le _, rfl, HST⟩
  case round =>
    clear HST
    obtain ⟨i, hi, rfl, hR⟩ := hrel
    obtain ⟨out, hbk, hO⟩ := hR.out.mem
    have HGR := hide hR.out.gr
    have HBK := hide hbk
    have HO := hide hO
    clear hR hbk hO
    have HBR := hide (HBW.out.trans (gr_bel HGR.out (by omega) HBW.out.size))
    by_cases hlt : i < n
    · obtain ⟨ad, rfl, hb, hcell, hx⟩ := HI.out.at_ hlt
      clear hcell
      have HXG := Lib.hid (show xs.getD i 0 = xs.getD i 0 from rfl)
      go_wp2
      go_loopw [7, 8] (fun cv kv wi => ∃ (k cc : Nat), k ≤ n2 ∧ kv = .int .i64 k ∧ cv = .int .u64 (cc : Int) ∧ Hid (NmI w4 g (fun out' => MulI ys out (xs.getD i 0) i k out' cc) wi)) (fun _ kv _ => n2 - (intOf kv).toNat)
      case atStart => exact ⟨0, 0, Nat.zero_le _, rfl, rfl, hide ⟨HGR.out, out, HBK.out, HO.out.inner _⟩⟩
      case round =>
        clear HBR HGR HBK
        obtain ⟨k, cc, hk, rfl, rfl, hR⟩ := hrel
        obtain ⟨out', hbk, hI⟩ := hR.out.mem
        have HGR := hide hR.out.gr
        have HBK := hide hbk
        have HMI := hide hI
        clear hR hbk hI
        have HBR := hide (HBW.out.trans (gr_bel HGR.out (by omega) HBW.out.size))
        have HOL := Lib.hid (show out'.length = n + n2 by rw [HMI.out.len, HO.out.len, HXL.out, HYL.out])
        have hcc := HMI.out.cl
        by_cases hkl : k < n2
        · obtain ⟨ad1, e1, hb1, hcell1, hx1⟩ := HI.out.at_ hlt
          obtain rfl : ad = ad1 := by injection e1
          obtain ⟨ad2, rfl, hb2, hcell2, hy⟩ := HJ.out.at_ hkl
          have hc2 := (HBR.out.cell (by rw [block_of_add]; exact hb1)).trans hcell1
          have hc3 := (HBR.out.cell (by rw [block_of_add]; exact hb2)).trans hcell2
          have ho := getD_lt HMI.out.lt (i + k)
          have o0 := (HBK.out.cell (i + k)).trans (limbArr_at (by rw [HOL.out]; omega))
          have o1 := HBK.out.frozen (i + k)
          have HNX := hide (HMI.out.next (t := xs.getD i 0 * ys.getD k 0 + cc + out'.getD (i + k) 0) (by rw [HYL.out]; exact hkl) (by rw [HOL.out]; omega) hx hy rfl)
          clear hcell1 hcell2 e1 HO HMI
          generalize xs.getD i 0 = x at hc2 hx hx1 HNX ⊢
          generalize ys.getD k 0 = y at hc3 hy HNX
          generalize out'.getD (i + k) 0 = o at ho o0 HNX
          have hpr := limb_prod hx hy
          have hxy0 : (0 : Int) ≤ (x : Int) * (y : Int) := Int.mul_nonneg (by omega) (by omega)
          have hxy1 : (x : Int) * (y : Int) ≤ 18446744065119617025 := by
            have : ((x * y : Nat) : Int) ≤ 18446744065119617025 := by omega
            rwa [Int.natCast_mul] at this
          obtain ⟨t, HT⟩ : ∃ t, Hid (x * y + cc + o = t) := ⟨_, Lib.hid rfl⟩
          rw [HT.out] at HNX
          have et : ((t : Nat) : Int) = (cc : Int) + ((x : Int) * (y : Int) + (o : Int)) := by
            rw [← HT.out, Int.natCast_add, Int.natCast_add, Int.natCast_mul]
            omega
          have HE1 := Lib.hid (show ((cc : Int) + ((x : Int) * (y : Int) + (o : Int))) % 4294967296 = ((t % 4294967296 : Nat) : Int) by rw [← et]; omega)
          have HE2 := Lib.hid (show ((cc : Int) + ((x : Int) * (y : Int) + (o : Int))) / 4294967296 = ((t / 4294967296 : Nat) : Int) by rw [← et]; omega)
          have hik0 : (0 : Int) ≤ (i : Int) + (k : Int) := by omega
          have hik1 : (i : Int) + (k : Int) < (n : Int) + (n2 : Int) := by omega
          clear et
          have q1 := IntWalk.u64_in ((x : Int) * (y : Int)) (by omega)
          have q2 := IntWalk.u64_in ((x : Int) * (y : Int) + (o : Int)) (by omega)
          have q3 := IntWalk.u64_in ((cc : Int) + ((x : Int) * (y : Int) + (o : Int))) (by omega)
          have q4 := IntWalk.i64_in ((i : Int) + (k : Int)) (by omega)
          have q5 : ((i : Int) + (k : Int)).toNat = i + k := by omega
          go_wp2
          go_quiet (fail)
          clear q1 q2 q3 q4 q5
          go_wp2
          go_roundw
          case rel =>
            refine ⟨k + 1, t / 4294967296, by omega, by go_num, by rw [HE2.out], ?_⟩
            rw [HE1.out]
            exact hide ⟨gr_set (only_drewN HGR.out _) _ _, _, by rw [← limbArr_setAt]; exact (HBK.out.drewN _).set_ (i + k) _, HNX.out⟩
          case measure => simp [intOf]; omega
        · obtain rfl : k = n2 := by omega
          have hmi := HMI.out
          rw [← HYL.out] at hmi
          have HDN := hide (hmi.done HO.out (by rw [HXL.out]; exact hlt) rfl)
          rw [HYL.out] at HDN
          clear hmi
          have o0 := (HBK.out.cell (i + k)).trans (limbArr_at (by rw [HOL.out]; omega))
          have o1 := HBK.out.frozen (i + k)
          have hcm : (cc : Int) % 4294967296 = (cc : Int) := by omega
          have hik0 : (0 : Int) ≤ (i : Int) + (k : Int) := by omega
          have hik1 : (i : Int) + (k : Int) < (n : Int) + (k : Int) := by omega
          go_wp2
          go_roundw
          case rel => exact ⟨i + 1, by omega, by go_num, hide ⟨gr_set HGR.out _ _, _, by rw [← limbArr_setAt]; exact HBK.out.set_ (i + k) _, HDN.out⟩⟩
          case measure => simp [intOf]; omega
    · obtain rfl : i = n := by omega
      have HOL := Lib.hid (show out.length = i + n2 by rw [HO.out.len, HXL.out, HYL.out])
      have HFI := Lib.hid (show valL out = N * M by
        have := HO.out
        rw [← HXL.out] at this
        rw [this.fine, HV.out])
      have HLM := hide (lim_blk HBK.out HOL.out (by simp only [maxLen]; omega) HO.out.lt)
      have HMD := hide (cut_any (some ⟨g, 0, none⟩) (i + n2) (i + n2) out wr HLM.out (Nat.le_refl _))
      go_wp2_with fail
      refine (HMD.out).mono ?_
      rintro e w6 ⟨m, hm, rfl, htr, hval, rfl⟩
      have hmo : m ≤ i + n2 := by rw [← HOL.out]; exact hm
      have HNV := hide (show BigV wr (.slice (some ⟨g, 0, none⟩) m (i + n2)) (N * M) from ⟨_, m, i + n2, _, rfl, hmo, HLM.out.take hmo, htr, by rw [hval, HFI.out]⟩)
      clear htr hval
      go_wp2
      exact bodyPost_ret (v := .slice (some ⟨g, 0, none⟩) m (i + n2)) (by simp [results, Tryd.results48, go_sem]) rfl ⟨_, rfl, HNV.out, new_at hgs, HBR.out⟩
end Go.Proofs.YtpghgfenafhhbaaDoor
