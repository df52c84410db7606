/-
  A store's free and Join, walked.
-/
import Derived.Test.YtfbhmkpihmcegaaFamJoin
namespace Go.Proofs.Ytfbhmkpihmcegaa
open Go.RowKit Go.Maps

theorem topZ_gt {A : Ar} {t a b : Int} (h1 : t < topA A a) (h2 : t < topA A b) : t < topZ A a b := by unfold topZ min2; split <;> assumption
theorem c3_kids {t t1 t2 t3 : Int} (h0 : 0 ≤ t) (h1 : t < t1) (h2 : t < t2) (h3 : t < t3) : c3N (kT t1) + c3N (kT t2) + c3N (kT t3) + (if t < 3 then 1 else 0) ≤ c3N (kT t) := by
  by_cases h : t < 3
  · rw [if_pos h]
    obtain ⟨j, hj⟩ : ∃ j, kT t = j + 1 := ⟨kT t - 1, by unfold kT; omega⟩
    have e1 := c3N_mono (show kT t1 ≤ j by unfold kT at *; omega)
    have e2 := c3N_mono (show kT t2 ≤ j by unfold kT at *; omega)
    have e3 := c3N_mono (show kT t3 ≤ j by unfold kT at *; omega)
    rw [hj]
    show _ ≤ 3 * c3N j + 1
    omega
  · rw [if_neg h, show kT t = 0 by unfold kT; omega, show kT t1 = 0 by unfold kT; omega, show kT t2 = 0 by unfold kT; omega, show kT t3 = 0 by unfold kT; omega]
    exact Nat.le_refl _
section
variable (K : Bx) (S B gn gu gt : Nat) (things : Int)
set_option maxRecDepth 100000 in
set_option maxHeartbeats 8000000 in
theorem mixFree_any (hf : K.fm = 80) (t : Int) (ih : AgC opFree K S B gn gu gt things t) : MixC opFree K S B gn gu gt things t := by
  intro a b A m w htop t0 tv he h
  obtain ⟨v, rfl⟩ : ∃ v : Nat, t = v := ⟨t.toNat, by omega⟩
  have h6 := h.wk.fs.t6
  have h24 : v < 24 := by omega
  have hsp := h.wk.fs.sp
  have hl := topZ_le A a b
  rw [htop] at hl
  have ha := hl.1
  have hb := hl.2
  have p0 := atZ_has hsp.wf (v := v) h.pa false
  have p1 := atZ_has hsp.wf (v := v) h.pa true
  have r0 := atZ_has hsp.wf (v := v) h.pb false
  have r1 := atZ_has hsp.wf (v := v) h.pb true
  have u0 := atZ_top hsp.wf h24 ha false
  have u1 := atZ_top hsp.wf h24 ha true
  have z0 := atZ_top hsp.wf h24 hb false
  have z1 := atZ_top hsp.wf h24 hb true
  have q1 := topZ_gt u0 z0
  have q2 := topZ_gt u1 z0
  have hlow : low3 A + c3N (kT v) ≤ 2000 := by have := h.low; rw [htop] at this; exact this
  have hmost := h.most
  rw [htop] at hmost
  have HJ := Lib.hid (fun A1 A2 A3 A4 lo hi x y c1 c2 c3 c4 t1 t2 t3 T1 T2 T3 T4 => @free_join A A1 A2 A3 A4 things a b lo hi x y c1 c2 c3 c4 t1 t2 t3 v hsp h24 ha hb h.pa h.pb T1 T2 T3 T4)
  have hq1 := qM_kids t0 (by omega) q1
  have hq2 := qM_kids t0 (by omega) q2
  have HC := Lib.hid (fun t3 (h3 : (v : Int) < t3) => c3_kids t0 q1 q2 h3)
  have hC0 := HC.out _ q1
  have HR1 := hide (ih (atZ A a v false) (atZ A b v false) A m w q1 ⟨h.wk, p0, r0, (by show low3 A + c3N _ ≤ 2000; omega), by omega⟩)
  unfold WkP
  rw [htop]
  clear h htop he
  unfold againV
  rw [hf]
  go_enter Try.func80, Try.ntmps80
  go_wp2_with fail
  refine (HR1.out).mono ?_
  rintro e w1 ⟨A1, lo, m1, rfl, hw1, T1, hm1, hf1⟩
  have x1 := topZ_ext T1.ext p1 r0
  have hfew1 : low3 A1 ≤ low3 A + c3N (kT (topZ A (atZ A a v false) (atZ A b v false))) := T1.few
  have HT1 := hide T1
  have HF1 := hide hf1
  have HR2 := hide (ih (atZ A a v true) (atZ A b v false) A1 m1 w1 (by rw [x1]; exact q2) ⟨hw1, T1.ext.has p1, T1.ext.has r0, (by show low3 A1 + c3N _ ≤ 2000; rw [x1]; omega), by rw [x1]; omega⟩)
  clear hw1 T1 hf1 HR1
  go_wp2_with fail
  refine (HR2.out).mono ?_
  rintro e w2 ⟨A2, y, m2, rfl, hw2, T2, hm2, hf2⟩
  rw [x1] at hm2
  have hfew2 : low3 A2 ≤ low3 A1 + c3N (kT (topZ A1 (atZ A a v true) (atZ A b v false))) := T2.few
  rw [x1] at hfew2
  have htop2 := T2.top
  rw [x1] at htop2
  have e12 := HT1.out.ext.trans T2.ext
  have q3 : (v : Int) < topZ A2 y (atZ A b v true) := topZ_gt (by omega) (by rw [e12.top r1]; exact z1)
  have hq3 := qM_kids t0 (by omega) q3
  have hc := HC.out _ q3
  have HT2 := hide T2
  have HF2 := hide (HF1.out.trans hf2)
  have HR3 := hide (ih y (atZ A b v true) A2 m2 w2 q3 ⟨hw2, T2.has, e12.has r1, (by show low3 A2 + c3N _ ≤ 2000; omega), by omega⟩)
  clear hw2 T2 hf2 HR2 HF1
  go_wp2_with fail
  refine (HR3.out).mono ?_
  rintro e w3 ⟨A3, hi, m3, rfl, hw3, T3, hm3, hf3⟩
  have hfew3 : low3 A3 ≤ low3 A2 + c3N (kT (topZ A2 y (atZ A b v true))) := T3.few
  have htop3 := T3.top
  have hlo : hasA A2 lo = true := HT2.out.ext.has HT1.out.has
  have HN := hide (fzNode_any S B gn gu gt things A3 w3 lo hi (v : Int) hw3.fs t0 tv (T3.ext.has hlo) (by rw [T3.ext.top hlo, HT2.out.ext.top HT1.out.has]; have := HT1.out.top; omega) T3.has (by omega) (by omega))
  have HW3 := hide hw3
  have HT3 := hide T3
  have HF3 := hide (HF2.out.trans hf3)
  have c6 := hw3.k2.cell 0
  clear hw3 T3 hf3 HR3 HF2
  go_wp2_with fail
  refine (HN.out).mono ?_
  rintro e w4 ⟨A4, x, rfl, hs4, T4, hf4⟩
  have HS4 := hide hs4
  have HT4 := hide T4
  have HF4 := hide hf4
  clear hs4 T4 hf4 HN c6
  go_wp2
  go_ret2
  have HX := HJ.out A1 A2 A3 A4 lo hi x y _ _ _ _ _ _ _ HT1.out HT2.out HT3.out HT4.out
  refine ⟨A4, x, m3, rfl, HW3.out.arena HS4.out HT4.out.ext HF4.out, StpZ.mono HX ?_ (Int.le_refl _) (fun _ => rfl), by omega, HF3.out.trans (HF4.out.mono fun k _ hk => .inl hk)⟩
  show c3N (kT (topZ A (atZ A a v false) (atZ A b v false))) + c3N (kT (topZ A1 (atZ A a v true) (atZ A b v false))) + c3N (kT (topZ A2 y (atZ A b v true))) + _ ≤ c3N (kT v)
  rw [x1]
  exact hc
end
end Go.Proofs.Ytfbhmkpihmcegaa
