/-
  A store's Join, walked: the mix of two families.
-/
import Derived.Test.YtfbhmkpihmcegaaFamFree
namespace Go.Proofs.Ytfbhmkpihmcegaa
open Go.RowKit Go.Maps

/-- What the first ways of three have, taken together. -/
noncomputable def jnF (A : Ar) (a0 a1 b0 b1 : Int) : Nat → Nat → Bool
  | 0, _ => false
  | 1, s => joinG (fam A a1) (fam A b1) s
  | 2, s => joinG (fam A a1) (fam A b1) s || joinG (fam A a1) (fam A b0) s
  | _, s => (joinG (fam A a1) (fam A b1) s || joinG (fam A a1) (fam A b0) s) || joinG (fam A a0) (fam A b1) s
structure JnI (K : Bx) (S B gn gu gt : Nat) (things : Int) (A1 : Ar) (m1 : Nat) (w : World) (t : Int) (M C px j : Nat) (cs : Array Value) (F : Nat → Bool) (hv : Value) (wr : World) : Prop where
  is : ∃ Aj hj mj, hv = .int .i64 hj ∧ WkI opJoin K S B gn gu gt things Aj mj wr ∧ ExtA A1 Aj ∧ low3 Aj ≤ low3 A1 + j * C ∧ hasA Aj hj = true ∧ t < topA Aj hj ∧ (∀ s, fam Aj hj s = F s) ∧ mj ≤ m1 + j * M
  fr : Fr (wkB K B gn gu gt) w wr
  px_ : Blk wr px 106 cs
section
variable (K : Bx) (S B gn gu gt : Nat) (things : Int)
set_option maxRecDepth 100000 in
set_option maxHeartbeats 8000000 in
theorem mixJoin_any (hf : K.fm = 61) (t : Int) (ih : AgC opJoin K S B gn gu gt things t) : MixC opJoin K S B gn gu gt things t := by
  intro a b A m w htop t0 tv he h
  obtain ⟨v, rfl⟩ : ∃ v : Nat, t = v := ⟨t.toNat, by omega⟩
  have h6 := h.wk.fs.t6
  have h24 : v < 24 := by omega
  have hsp := h.wk.fs.sp
  have hl := topZ_le A a b
  rw [htop] at hl
  have ha := hl.1
  have hb := hl.2
  have p0 := atZ_has hsp.wf (v := v) h.pa false
  have p1 := atZ_has hsp.wf (v := v) h.pa true
  have r0 := atZ_has hsp.wf (v := v) h.pb false
  have r1 := atZ_has hsp.wf (v := v) h.pb true
  have u0 := atZ_top hsp.wf h24 ha false
  have u1 := atZ_top hsp.wf h24 ha true
  have z0 := atZ_top hsp.wf h24 hb false
  have z1 := atZ_top hsp.wf h24 hb true
  have q1 := topZ_gt u0 z0
  have hlow : low3 A + c4N (kT v) ≤ 2000 := by have := h.low; rw [htop] at this; exact this
  have hmost := h.most
  rw [htop] at hmost
  obtain ⟨n, hn⟩ : ∃ n, n = kT (v : Int) - 1 := ⟨_, rfl⟩
  have hkn : ∀ t', (v : Int) < t' → kT t' ≤ n := fun t' ht => by unfold kT at *; omega
  have hcn : c4N n + (3 * (c4N n + c2N n) + (if (v : Int) < 3 then 1 else 0)) ≤ c4N (kT (v : Int)) := by
    by_cases h3 : (v : Int) < 3
    · rw [if_pos h3, show kT (v : Int) = n + 1 by unfold kT at *; omega]
      show _ ≤ 4 * c4N n + 3 * c2N n + 1
      omega
    · rw [if_neg h3, show kT (v : Int) = 0 by unfold kT; omega, show n = 0 by rw [hn]; unfold kT; omega]
      exact Nat.le_refl _
  obtain ⟨M, hM⟩ : ∃ M, M = qM (kM ((v : Int) + 1)) := ⟨_, rfl⟩
  have hqM : ∀ t', (v : Int) < t' → qM (kM t') ≤ M := fun t' ht => by rw [hM]; exact qM_mono (by unfold kM; omega)
  have hM1 : 4 * M + 1 ≤ qM (kM (v : Int)) := by rw [hM]; exact qM_kids t0 (by omega) (by omega)
  have e4 := c4N_mono (hkn _ q1)
  have eM := hqM _ q1
  have HR1 := hide (ih (atZ A a v false) (atZ A b v false) A m w q1 ⟨h.wk, p0, r0, (by show low3 A + c4N _ ≤ 2000; omega), by omega⟩)
  have HPA := hide (And.intro h.pa h.pb)
  unfold WkP
  rw [htop]
  clear h htop he
  unfold againV
  rw [hf]
  go_enter Try.func61, Try.ntmps61
  go_wp2_with fail
  refine (HR1.out).mono ?_
  rintro e w1 ⟨A1, lo, m1, rfl, hw1, T1, hm1, hf1⟩
  have hfew1 : low3 A1 ≤ low3 A + c4N (kT (topZ A (atZ A a v false) (atZ A b v false))) := T1.few
  have HT1 := hide T1
  generalize hA0 : atZ A a v false = a0 at *
  generalize hA1 : atZ A a v true = a1 at *
  generalize hB0 : atZ A b v false = b0 at *
  generalize hB1 : atZ A b v true = b1 at *
  have hal := (Below.refl w1.heap.size w1).alloc (Nat.le_refl _) (.cells #[.int .i64 a1, .int .i64 b1, .int .i64 a1, .int .i64 b0, .int .i64 a0, .int .i64 b1] 106)
  have HJ0 := hide (show JnI K S B gn gu gt things A1 m1 w v M (c4N n + c2N n) w1.heap.size 0 #[.int .i64 a1, .int .i64 b1, .int .i64 a1, .int .i64 b0, .int .i64 a0, .int .i64 b1] (jnF A a0 a1 b0 b1 0) (.int .i64 0) (w1.alloc (.cells #[.int .i64 a1, .int .i64 b1, .int .i64 a1, .int .i64 b0, .int .i64 a0, .int .i64 b1] 106)) from
    ⟨⟨A1, 0, m1, rfl, hw1.below hal, .refl _, by omega, has_ends.1, by rw [top_zero]; omega, fun s => fam_zero s, by omega⟩, hf1.trans (.of_below hal (Nat.le_refl _)), Blk.new _ _ _⟩)
  clear hw1 T1 hf1 HR1 hal
  go_wp2
  generalize (w1.alloc (.cells #[.int .i64 a1, .int .i64 b1, .int .i64 a1, .int .i64 b0, .int .i64 a0, .int .i64 b1] 106)) = w2 at HJ0 ⊢
  generalize w1.heap.size = px at HJ0 ⊢
  generalize hcs : (#[.int .i64 a1, .int .i64 b1, .int .i64 a1, .int .i64 b0, .int .i64 a0, .int .i64 b1] : Array Value) = cs at HJ0
  go_loopw [17, 43] (fun hv iv wr => ∃ j : Nat, j ≤ 3 ∧ iv = .int .i64 j ∧ Hid (JnI K S B gn gu gt things A1 m1 w v M (c4N n + c2N n) px j cs (jnF A a0 a1 b0 b1 j) hv wr)) (fun _ iv _ => 3 - (intOf iv).toNat)
  case atStart => exact ⟨0, by omega, rfl, HJ0⟩
  case round =>
    clear HJ0
    obtain ⟨j, hj, rfl, hJ⟩ := hrel
    by_cases hj3 : j < 3
    · obtain ⟨p, q, k0, k1, pp, pq, tp, tq, hF⟩ : ∃ p q : Int, wr.cell? ⟨px, j * 2, none⟩ = some (.int .i64 p) ∧ wr.cell? ⟨px, j * 2 + 1, none⟩ = some (.int .i64 q) ∧ hasA A p = true ∧ hasA A q = true ∧ (v : Int) < topA A p ∧ (v : Int) < topA A q ∧
          ∀ s, jnF A a0 a1 b0 b1 (j + 1) s = (jnF A a0 a1 b0 b1 j s || joinG (fam A p) (fam A q) s) := by
        have hk := hJ.out.px_
        rw [← hcs] at hk
        rcases (show j = 0 ∨ j = 1 ∨ j = 2 by omega) with rfl | rfl | rfl
        · exact ⟨a1, b1, hk.cell 0, hk.cell 1, p1, r1, u1, z1, fun s => rfl⟩
        · exact ⟨a1, b0, hk.cell 2, hk.cell 3, p1, r0, u1, z0, fun s => rfl⟩
        · exact ⟨a0, b1, hk.cell 4, hk.cell 5, p0, r1, u0, z1, fun s => rfl⟩
      have hjI : (j : Int) < 3 := by omega
      obtain ⟨Aj, hh, mj, rfl, hwk, hx, hl3, phh, thh, hfh, hmj⟩ := hJ.out.is
      have hal := (Below.refl wr.heap.size wr).alloc (Nat.le_refl _) (.cells #[.int .i64 p, .int .i64 q] 106)
      have hxA := HT1.out.ext.trans hx
      have hsj := hwk.fs.sp
      have hzz := topZ_ext hxA pp pq
      have hgt := topZ_gt tp tq
      have hc4 := c4N_mono (hkn _ hgt)
      have hqq := hqM _ hgt
      have hjc : j * (c4N n + c2N n) ≤ 2 * (c4N n + c2N n) := Nat.mul_le_mul_right _ (by omega)
      have hjm : j * M ≤ 2 * M := Nat.mul_le_mul_right _ (by omega)
      have HR := hide (ih p q Aj mj _ (by rw [hzz]; exact hgt) ⟨hwk.below hal, hxA.has pp, hxA.has pq, (by show low3 Aj + c4N _ ≤ 2000; rw [hzz]; omega), by rw [hzz]; omega⟩)
      have HWK := hide (hwk.below hal)
      have HPX := hide (hJ.out.px_.below hal hJ.out.px_.lt)
      have HFR := hide (hJ.out.fr.trans (.of_below hal (Nat.le_refl _)))
      have HAJ := Lib.hid (And.intro hx (And.intro hl3 (And.intro phh (And.intro thh (And.intro hfh hmj)))))
      clear hwk hx hl3 phh thh hfh hmj hJ hal
      go_wp2_with fail
      refine (HR.out).mono ?_
      rintro e w3 ⟨A', x, m', rfl, hw3, T, hm3, hf3⟩
      rw [hzz] at hm3
      have hT3 : low3 A' ≤ low3 Aj + c4N (kT (topZ Aj p q)) := T.few
      rw [hzz] at hT3
      have htx := T.top
      rw [hzz] at htx
      obtain ⟨hx, hl3, phh, thh, hfh, hmj⟩ := HAJ.out
      have hz2 : (v : Int) < topZ A' hh x := topZ_gt (by rw [T.ext.top phh]; exact thh) (by omega)
      have hc2 := c2N_mono (hkn _ hz2)
      have HO := hide (fzOr_in S B gn gu gt things A' w3 hh x hw3.fs (T.ext.has phh) T.has (by omega))
      have HW3 := hide hw3
      have HT3 := hide T
      have HPX3 := hide (HWK.out.box hf3 HPX.out (by decide) (by decide) (by decide) (by decide))
      have HFR3 := hide (HFR.out.trans hf3)
      have c6 := hw3.k2.cell 0
      clear hw3 T hf3 HR HWK HPX HFR k0 k1
      go_wp2_with fail
      refine (HO.out).mono ?_
      rintro e w4 ⟨A'', y, rfl, hs4, T4, hf4⟩
      have hT4 : low3 A'' ≤ low3 A' + c2N (kT (topZ A' hh x)) := T4.few
      have hf4' : Fr (wkB K B gn gu gt) w3 w4 := hf4.mono fun k _ hk => .inl hk
      have HN := hide (show JnI K S B gn gu gt things A1 m1 w v M (c4N n + c2N n) px (j + 1) cs (jnF A a0 a1 b0 b1 (j + 1)) (.int .i64 y) w4 from by
        refine ⟨⟨A'', y, m', rfl, HW3.out.arena hs4 T4.ext hf4, (hx.trans HT3.out.ext).trans T4.ext, ?_, T4.has, ?_, fun s => ?_, ?_⟩, HFR3.out.trans hf4', HW3.out.box hf4' HPX3.out (by decide) (by decide) (by decide) (by decide)⟩
        · rw [Nat.succ_mul]; omega
        · have := T4.top; omega
        · rw [T4.fam, hF s]
          show (fam A' hh s || fam A' x s) = _
          rw [hsj.same HT3.out.sp HT3.out.ext phh, hfh, HT3.out.fam]
          show (_ || joinG (fam Aj p) (fam Aj q) s) = _
          rw [hsp.fun_ hsj hxA pp, hsp.fun_ hsj hxA pq]
        · rw [Nat.succ_mul]; omega)
      clear hs4 T4 hf4 hf4' HO HW3 HT3 HPX3 HFR3 HAJ c6
      go_wp2
      go_roundw
      case rel => exact ⟨j + 1, by omega, by go_num, HN⟩
      case measure => simp [intOf]; omega
    · obtain rfl : j = 3 := by omega
      obtain ⟨Aj, hh, mj, rfl, hwk, hx, hl3, phh, thh, hfh, hmj⟩ := hJ.out.is
      have hlo : hasA Aj lo = true := hx.has HT1.out.has
      have HN := hide (fzNode_any S B gn gu gt things Aj wr lo hh (v : Int) hwk.fs t0 tv hlo (by rw [hx.top HT1.out.has]; have := HT1.out.top; omega) phh thh (by omega))
      have HWK := hide hwk
      have HFR := hide hJ.out.fr
      have c6 := hwk.k2.cell 0
      have HAJ := Lib.hid (And.intro hx (And.intro hl3 (And.intro hfh hmj)))
      clear hwk hx hl3 phh thh hfh hmj hJ
      go_wp2_with fail
      refine (HN.out).mono ?_
      rintro e w4 ⟨A4, x, rfl, hs4, T4, hf4⟩
      have HS4 := hide hs4
      have HT4 := hide T4
      have HF4 := hide hf4
      clear hs4 T4 hf4 HN c6
      go_wp2
      go_ret2
      obtain ⟨hx, hl3, hfh, hmj⟩ := HAJ.out
      subst hA0 hA1 hB0 hB1
      have HX := joins_join (F := jnF A (atZ A a v false) (atZ A a v true) (atZ A b v false) (atZ A b v true) 3) hsp h24 ha hb HT1.out HWK.out.fs.sp hx hl3 hfh (fun s => rfl) HT4.out
      refine ⟨A4, x, mj, rfl, HWK.out.arena HS4.out HT4.out.ext HF4.out, StpZ.mono HX ?_ (Int.le_refl _) (fun _ => rfl), by omega, HFR.out.trans (HF4.out.mono fun k _ hk => .inl hk)⟩
      show c4N (kT (topZ A (atZ A a v false) (atZ A b v false))) + 3 * (c4N n + c2N n) + _ ≤ c4N (kT v)
      omega
end
end Go.Proofs.Ytfbhmkpihmcegaa
