/-
  solspacebig's Cmp, left, Lsh of numbers that aren't below 0.
-/
import Derived.Test.YtpghgfenafhhbaaDoorBigE
import Derived.Test.YtpghgfenafhhbaaDoorLeftPure
namespace Go.Proofs.YtpghgfenafhhbaaDoor
open Go.RowKit

theorem q4 (w : World) (q a m : Nat) : ∃ n, (w.drewN (q + a)).drewN m = w.drewN (q + n) := ⟨a + m, by rw [World.drewN_drewN, Nat.add_assoc]⟩
set_option maxRecDepth 100000 in
set_option maxHeartbeats 4000000 in
theorem intCmp_any (x y N M : Nat) (w : World) (h1 : IntAt w x N) (h2 : IntAt w y M) (hN : N < 4294967296 ^ 1000) (hM : M < 4294967296 ^ 1000) :
    Calls Tryd.prog 19 #[.pointer (some ⟨x, 0, none⟩), .pointer (some ⟨y, 0, none⟩)] w (QCmp w (cmpZ N M)) := by
  obtain ⟨v1, k1, hv1⟩ := h1.is
  obtain ⟨v2, k2, hv2⟩ := h2.is
  have c0 := k1.cell 0
  have c1 := k1.cell 1
  have d0 := k2.cell 0
  have d1 := k2.cell 1
  have HC := hide (fun q => bigCmp_any v1 v2 N M (w.drewN q) (hv1.below (below_drewN (Below.refl _ _) _)) (hv2.below (below_drewN (Below.refl _ _) _)) hN hM)
  clear h1 h2 hv1 hv2 hN hM k1 k2
  generalize cmpZ N M = z at HC ⊢
  go_enter Tryd.func19, Tryd.ntmps19
  go_wp2
  go_quiet (fail)
  go_wp2
  go_quiet ((go_at_call 42; refine (HC.out _).mono ?_; rintro e w9 ⟨rfl, m, rfl⟩; exact ⟨rfl, q4 ..⟩))
  go_wp2
  go_ret
  exact ⟨rfl, by first | exact ⟨_, rfl⟩ | exact ⟨_, World.drewN_drewN ..⟩⟩

set_option maxRecDepth 100000 in
set_option maxHeartbeats 4000000 in
theorem left_any (v1 : Value) (N k : Nat) (w : World) (h1 : BigV w v1 N) (hN : N < 4294967296 ^ 1000) (hk : k ≤ 1000) :
    Calls Tryd.prog 46 #[v1, .int .u64 k] w (BigPost w (N * 2 ^ k)) := by
  obtain ⟨A, n, c, xs, rfl, _, hl, ht, hv, hn⟩ := h1.len hN
  have HI := hide hl
  have HV := Lib.hid hv
  have HXL := Lib.hid hl.1
  clear h1 hl ht hv hN
  by_cases hn0 : n = 0
  · subst hn0
    have hz : N = 0 := by rw [← HV.out, List.eq_nil_of_length_eq_zero HXL.out]; rfl
    subst hz
    rw [Nat.zero_mul]
    go_enter Tryd.func46, Tryd.ntmps46
    go_wp2
    go_ret
    exact ⟨_, rfl, BigV.nil _, new_nil, Below.refl _ _⟩
  have hb1 : ((n : Int) == 0) = false := beq_eq_false_iff_ne.2 (by omega)
  obtain ⟨d, HD⟩ : ∃ d, Hid (d = k / 32) := ⟨_, Lib.hid rfl⟩
  have hd : d ≤ 31 := by rw [HD.out]; omega
  have hs : k % 32 ≤ 31 := by omega
  have e1 : (k : Int) / 32 = (d : Int) := by rw [HD.out]; omega
  have HKS := Lib.hid (show k = 32 * d + k % 32 by rw [HD.out]; omega)
  have hmk := run_mk w (n + d + 1) (by omega) ((n : Int) + (d : Int) + 1) (by omega)
  have K4 := hide (Blk.new w 57 (limbArr (List.replicate (n + d + 1) 0)))
  have HBW := hide ((Below.refl w.heap.size w).alloc (Nat.le_refl _) (.cells (limbArr (List.replicate (n + d + 1) 0)) 57))
  go_enter Tryd.func46, Tryd.ntmps46
  go_wp2
  generalize (w.alloc (.cells (limbArr (List.replicate (n + d + 1) 0)) 57)) = w4 at K4 HBW ⊢
  clear hmk e1
  obtain ⟨g, HGG⟩ : ∃ g, Hid (w.heap.size = g) := ⟨_, Lib.hid rfl⟩
  rw [HGG.out] at K4
  simp only [HGG.out]
  have hgs : w.heap.size ≤ g := by rw [← HGG.out]; omega
  have HST := hide (show NmI w4 g (LeftI xs (k % 32) d 0) w4 from ⟨World.grownBy.refl w4 _, _, K4.out, by have := LeftI.start xs (k % 32) d; rw [HXL.out] at this; exact this⟩)
  go_loopw [8] (fun iv wr => ∃ i : Nat, i ≤ n ∧ iv = .int .i64 i ∧ Hid (NmI w4 g (LeftI xs (k % 32) d i) wr)) (fun iv _ => n - (intOf iv).toNat)
  case atStart => exact ⟨0, Nat.zero_le _, rfl, HST⟩
  case round =>
    clear HST
    obtain ⟨i, hi, rfl, hR⟩ := hrel
    obtain ⟨out, hbk, hA⟩ := hR.out.mem
    have HGR := hide hR.out.gr
    have HBK := hide hbk
    have HAI := hide hA
    have HOL := Lib.hid (show out.length = n + d + 1 by rw [hA.len, HXL.out])
    clear hR hbk hA
    have HBR := hide (HBW.out.trans (gr_bel HGR.out (by omega) HBW.out.size))
    by_cases hlt : i < n
    · obtain ⟨ad, rfl, hb, hcell, hx⟩ := HI.out.at_ hlt
      have hc2 := (HBR.out.cell (by rw [block_of_add]; exact hb)).trans hcell
      have o0 := (HBK.out.cell (i + d)).trans (limbArr_at (by rw [HOL.out]; omega))
      have o1 := HBK.out.frozen (i + d)
      have HNX := hide (HAI.out.next hs (by rw [HXL.out]; exact hlt) rfl hx)
      have hol := HAI.out.low
      have hov := getD_lt HAI.out.lt (i + d)
      have HZ1 := Lib.hid (HAI.out.zero (i + d + 1) (by omega))
      clear hcell
      generalize xs.getD i 0 = x at hc2 hx HNX
      have HJN := Lib.hid (lo_join (x := x) hs hol)
      have hlo := lo_lt (x := x) hs hol
      have hhi := hi_lt (s := k % 32) hx
      generalize hoe : out.getD (i + d) 0 = o at o0 hol HNX HJN hlo hov
      have h2s : 2 ^ (k % 32) ≤ 4294967296 := Nat.le_of_dvd (by omega) (two_dvd hs)
      have hvb : x * 2 ^ (k % 32) < 18446744073709551616 := by
        have h3 : x * 2 ^ (k % 32) ≤ x * 4294967296 := Nat.mul_le_mul_left _ h2s
        omega
      obtain ⟨v, HVV⟩ : ∃ v, Hid (v = x * 2 ^ (k % 32)) := ⟨_, Lib.hid rfl⟩
      obtain ⟨lo, HLO⟩ : ∃ lo, Hid (lo = v % 4294967296) := ⟨_, Lib.hid rfl⟩
      obtain ⟨hi2, HHI⟩ : ∃ hi2, Hid (hi2 = v / 4294967296) := ⟨_, Lib.hid rfl⟩
      obtain ⟨r1, HR1⟩ : ∃ r1, Hid (r1 = o + lo) := ⟨_, Lib.hid rfl⟩
      rw [← HVV.out, ← HLO.out] at hlo HJN
      rw [← HVV.out] at hvb hhi
      rw [← HHI.out] at hhi
      rw [← HVV.out, ← HLO.out, ← HHI.out, ← HR1.out] at HNX
      rw [← HR1.out] at hlo HJN
      have hlo2 : lo < 4294967296 := by rw [HLO.out]; exact Nat.mod_lt _ (by omega)
      have q1 : IntKind.u64.wrap ((x : Int) * 2 ^ (k % 32)) = (v : Int) := by
        have e : (x : Int) * 2 ^ (k % 32) = (v : Int) := by rw [HVV.out, Int.natCast_mul, Int.natCast_pow]; rfl
        rw [e, IntKind.wrap_u64]; omega
      have q2 : (v : Int) % 4294967296 = (lo : Int) := by rw [HLO.out]; omega
      have q4 : (v : Int) / 4294967296 = (hi2 : Int) := by rw [HHI.out]; omega
      have q3 : bits BinOp.or IntKind.u32 (o : Int) (lo : Int) = (r1 : Int) := by rw [u32_or_nat o lo hov hlo2, HJN.out]
      have hhi4 : hi2 < 4294967296 := by omega
      have q6 : bits BinOp.or IntKind.u32 0 (hi2 : Int) = (hi2 : Int) := by
        have := u32_or_nat 0 hi2 (by omega) hhi4
        rw [Nat.zero_or] at this
        exact this
      have o2 := (HBK.out.cell (i + d + 1)).trans (limbArr_at (by rw [HOL.out]; omega))
      rw [HZ1.out] at o2
      have o3 := HBK.out.frozen (i + d + 1)
      have HSET := hide (show Blk ((wr.setCell ⟨g, i + d, none⟩ (.int .u32 (r1 : Int))).setCell ⟨g, i + d + 1, none⟩ (.int .u32 (hi2 : Int))) g 57 (limbArr ((out.set (i + d) r1).set (i + d + 1) hi2)) by rw [← limbArr_setAt, ← limbArr_setAt]; exact (HBK.out.set_ (i + d) _).set_ (i + d + 1) _)
      have HGS := hide (gr_set (gr_set HGR.out (i + d) (.int .u32 (r1 : Int))) (i + d + 1) (.int .u32 (hi2 : Int)))
      have i0 : (0 : Int) ≤ (i : Int) + (d : Int) := by omega
      have i1 : (i : Int) + (d : Int) + 1 < (n : Int) + (d : Int) + 1 := by omega
      have i2 : (i : Int) + (d : Int) < (n : Int) + (d : Int) + 1 := by omega
      clear hvb hoe h2s hol HZ1
      go_wp2_with fail
      go_roundw
      case rel => exact ⟨i + 1, by omega, by go_num, hide ⟨HGS.out, _, HSET.out, HNX.out⟩⟩
      case measure => simp [intOf]; omega
    · obtain rfl : i = n := by omega
      have HFI := Lib.hid (show valL out = N * 2 ^ k by
        have := HAI.out
        rw [← HXL.out] at this
        rw [this.fine HKS.out, HV.out])
      have HLM := hide (lim_blk HBK.out HOL.out (by simp only [maxLen]; omega) HAI.out.lt)
      have HMD := hide (cut_any (some ⟨g, 0, none⟩) (i + d + 1) (i + d + 1) out wr HLM.out (Nat.le_refl _))
      go_wp2_with fail
      refine (HMD.out).mono ?_
      rintro e w6 ⟨m, hm, rfl, htr, hval, rfl⟩
      have hmo : m ≤ i + d + 1 := by rw [← HOL.out]; exact hm
      have HNV := hide (show BigV wr (.slice (some ⟨g, 0, none⟩) m (i + d + 1)) (N * 2 ^ k) from ⟨_, m, i + d + 1, _, rfl, hmo, HLM.out.take hmo, htr, by rw [hval, HFI.out]⟩)
      clear htr hval
      go_wp2
      exact bodyPost_ret (v := .slice (some ⟨g, 0, none⟩) m (i + d + 1)) (by simp [results, Tryd.results46, go_sem]) rfl ⟨_, rfl, HNV.out, new_at hgs, HBR.out⟩

theorem keepL {w w' : World} {x : Nat} {p q : Value} (hx : x < w.heap.size) (hb : Below w.heap.size w w') (h : w.cell? ⟨x, 0, none⟩ = some p ∧ w.cell? ⟨x, 1, none⟩ = some q) :
    w'.cell? ⟨x, 0, none⟩ = some p ∧ w'.cell? ⟨x, 1, none⟩ = some q :=
  ⟨(hb.cell (p := ⟨x, 0, none⟩) hx).trans h.1, (hb.cell (p := ⟨x, 1, none⟩) hx).trans h.2⟩
theorem keepM {w : World} {b x i : Nat} {p q u : Value} (hx : b ≠ x) (h : w.cell? ⟨x, 0, none⟩ = some p ∧ w.cell? ⟨x, 1, none⟩ = some q) :
    (w.setCell ⟨b, i, none⟩ u).cell? ⟨x, 0, none⟩ = some p ∧ (w.setCell ⟨b, i, none⟩ u).cell? ⟨x, 1, none⟩ = some q :=
  ⟨(World.cell?_setCell_other _ _ _ _ (fun e => hx (by injection e))).trans h.1, (World.cell?_setCell_other _ _ _ _ (fun e => hx (by injection e))).trans h.2⟩
set_option maxRecDepth 100000 in
set_option maxHeartbeats 4000000 in
theorem intLsh_any (b x N k : Nat) (u0 u1 : Value) (w : World) (hz : Blk w b 49 #[u0, u1]) (h1 : IntAt w x N) (hN : N < 4294967296 ^ 1000) (hk : k ≤ 1000) (hbx : b ≠ x) :
    Calls Tryd.prog 22 #[.pointer (some ⟨b, 0, none⟩), .pointer (some ⟨x, 0, none⟩), .int .u64 k] w (BinPost w b (N * 2 ^ k)) := by
  obtain ⟨v1, k1, hv1⟩ := h1.is
  have c0 := k1.cell 0
  have c1 := k1.cell 1
  have lx := k1.lt
  have HZ := hide hz
  have HS := hide (fun (w' : World) (hb : Below w.heap.size w w') => left_any v1 N k w' (hv1.below hb) hN hk)
  clear h1 hv1 hN k1 hz
  generalize N * 2 ^ k = R at HS ⊢
  go_enter Tryd.func22, Tryd.ntmps22
  go_wp2
  go_region_held3 (fun w' => w'.cell? ⟨x, 0, none⟩ = some (.bool false) ∧ w'.cell? ⟨x, 1, none⟩ = some v1) (first | assumption | exact ⟨c0, c1⟩ | exact keepL lx hb1 ⟨c0, c1⟩ | exact keepL lx (below_out hb1) ⟨c0, c1⟩ | exact keepM hbx (keepM hbx (keepL lx (below_out hb1) ⟨c0, c1⟩)) | exact keepM hbx (keepM hbx (keepL lx hb1 ⟨c0, c1⟩)))
    (first
      | (go_at_call 46; refine (HS.out _ (by first | exact Below.refl _ _ | exact (Below.refl _ _).drew)).mono ?_; rintro e w1 ⟨v, rfl, hv, hn, hb1⟩; obtain ⟨A, n, c, ev⟩ := hv.form; subst ev)
      | (go_at_call 43; refine (give_any b A n c u0 u1 _ (HZ.out.below (below_out hb1) HZ.out.lt)).mono ?_; rintro e w2 ⟨rfl, rfl⟩))
  all_goals
    have HD := hide (big_done HZ.out (below_out hb1) hv hn)
    go_wp2
    go_ret
    exact ⟨rfl, HD.out⟩
end Go.Proofs.YtpghgfenafhhbaaDoor
