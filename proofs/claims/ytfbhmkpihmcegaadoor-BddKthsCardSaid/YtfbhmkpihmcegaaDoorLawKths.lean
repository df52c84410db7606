/-
  The law BddKths, walked.
-/
import Derived.Test.YtfbhmkpihmcegaaDoorLawSame
import Derived.Test.YtfbhmkpihmcegaaDoorBddKth
namespace Go.Proofs.YtfbhmkpihmcegaaDoor
open Go.RowKit Go.Maps

section
variable {w w1 : World} {vn n sz : Nat} {q : Nat → Four} {S B gn gu gt gc L g g' : Nat} {A : Ar} {hs : List Int} {gs : List Nat}
theorem RowsI.ctn (h : RowsI w vn n sz q S B gn gu gt gc L g g' A hs gs w1) : CtN A (vn : Int) := ⟨h.sp.sp.wf, h.sp.sp.var, by omega, by have := h.sp.v6; omega⟩
theorem RowsI.tot (h : RowsI w vn n sz q S B gn gu gt gc L g g' A hs gs w1) {k : Nat} (hk : k < L) : (allL (funN vn q n k) vn sz).length = cA A vn (hs.getD k 0) * 2 ^ (min (topA A (hs.getD k 0)) (vn : Int)).toNat := by
  rw [← h.pw]
  exact all_len h.sp.sp.wf h.sp.sp.var (by have := h.sp.v6; omega) (h.denk hk)
end
set_option maxRecDepth 100000 in
set_option maxHeartbeats 8000000 in
theorem lawKths_walk (vars : Int) (Al : Option Addr) (n c : Nat) (q : Nat → Four) (w : World) (hG : GlobE w) (hq : FourP w Al n q) :
    Calls Tryd.prog 5 #[.int .i64 vars, .slice Al n c] w (AtPost w true) := by
  have HM := hide (madeF_any vars Al n c q w hq)
  have HG := hide hG
  clear hq hG
  go_enter Tryd.func5, Tryd.ntmps5
  go_wp2_with fail
  refine (HM.out).mono ?_
  rintro e w1 (⟨_, rfl, rfl⟩ | ⟨hn, vn, rfl, h1, h6, S, B, gn, gu, gt, gc, vh, vt, rfl, hm⟩)
  · go_wp2
    go_ret
    exact ⟨rfl, Below.refl _ _⟩
  · obtain ⟨sz, L, g, g', c1, c2, A, hs, gs, rfl, rfl, hr⟩ := hm.rows
    obtain ⟨M, rfl⟩ : ∃ M, L = M + 1 := ⟨L - 1, by have := hr.len; omega⟩
    have hL : M ≤ 27 := by have := hr.len; omega
    have HR := hide hr
    have ct := hr.t M (by omega)
    have ch := hr.h M (by omega)
    have hgl := hr.lt.1
    have hAL := refAll_any sz vn _ _ w1 (hr.tabk (k := M) (by omega)) hr.pw h1 h6
    have HTO := Lib.hid (hr.tot (k := M) (by omega))
    have HDE := Lib.hid (hr.denk (k := M) (by omega))
    have HHA := Lib.hid (hr.hask (k := M) (by omega))
    generalize gs.getD M 0 = p at ct hAL
    generalize hs.getD M 0 = x at ch HTO HDE HHA
    generalize funN vn q n M = F at hAL HTO HDE
    unfold tabV at ct
    have HAL := hide hAL
    unfold tabV at HAL
    clear hm hr HM hAL
    go_wp2_with fail
    refine (HAL.out).mono ?_
    rintro e w2 ⟨va, rfl, hva⟩
    obtain ⟨Aa, ca, rfl⟩ := hva.own.len
    have hle := allL_le F vn sz
    have hs64 := (pow_wrap h6 HR.out.pw).2.1
    obtain ⟨LL, HLL⟩ : ∃ LL, Hid (allL F vn sz = LL) := ⟨_, Lib.hid rfl⟩
    have hown := hva.own
    have hb12 := hva.bel
    rw [HLL.out] at hown hle HTO ⊢
    have HR2 := hide (HR.out.below hb12)
    have HOW := hide hown
    have ch2 := (hb12.cell (p := ⟨g, M, none⟩) hgl).trans ch
    clear hva hown hb12 HAL ch ct HR
    obtain ⟨T, HTL⟩ : ∃ T, Hid (LL.length = T) := ⟨_, Lib.hid rfl⟩
    rw [HTL.out] at hle HTO ⊢
    have HKY := hide (fun (k : Nat) (hk : k < T) (v : Value) (w3 : World) (hb : Below w2.heap.size w2 w3) (hv : NatV w3 v k) => bdKth_any S B gn gu gt gc vn A F x k v w3 (HR2.out.below hb).sp.toB HR2.out.ctn h6 HHA.out HDE.out hv (by rw [← HTO.out]; exact hk))
    have HKN := hide (fun (k : Nat) (hk : T ≤ k) (hk2 : Lim32 k) (v : Value) (w3 : World) (hb : Below w2.heap.size w2 w3) (hv : NatV w3 v k) => bdKth_none S B gn gu gt gc vn A x k v w3 (HR2.out.below hb).sp.toB HR2.out.ctn HHA.out hv hk2 (Nat.le_trans (Nat.le_of_eq HTO.out.symm) hk))
    rw [HR2.out.pw, HLL.out] at HKY
    go_wp2
    go_loopw [11] (fun iv wr => ∃ k : Nat, k ≤ T ∧ iv = .int .i64 k ∧ Hid (Below w2.heap.size w2 wr)) (fun iv _ => T - (intOf iv).toNat)
    case atStart => exact ⟨0, Nat.zero_le _, rfl, hide (Below.refl _ _)⟩
    case round =>
      obtain ⟨k, hk, rfl, HB⟩ := hrel
      by_cases hlt : k < T
      · have hkI : (k : Int) < (T : Int) := by omega
        have HOF := hide (of_nat k wr (by omega))
        go_wp2_with fail
        refine (HOF.out).mono ?_
        rintro e w3 ⟨vk, rfl, hvk, hb3⟩
        have HB3 := hide (HB.out.trans (hb3.mono HB.out.size))
        have HKK := hide (HKY.out k hlt vk w3 HB3.out hvk)
        clear hvk hb3 HOF
        go_wp2_with fail
        refine (HKK.out).mono ?_
        rintro e w4 ⟨rfl, hb4⟩
        have HB4 := hide (HB3.out.trans (hb4.mono HB3.out.size))
        obtain ⟨ga, cc, ee, hcl, _⟩ := (HOW.out.below HB4.out).at_ (k := k) (by rw [HTL.out]; exact hlt)
        rw [HTL.out] at ee
        cases ee
        generalize LL.getD k 0 = N at hcl ⊢
        clear hb4 HKK HB3
        go_wp2
        go_roundw
        case rel => exact ⟨k + 1, by omega, by go_num, HB4⟩
        case measure => simp [intOf]; omega
      · obtain rfl : k = T := by omega
        have HOF := hide (of_nat k wr (by omega))
        go_wp2_with fail
        refine (HOF.out).mono ?_
        rintro e w3 ⟨vk, rfl, hvk, hb3⟩
        have HB3 := hide (HB.out.trans (hb3.mono HB.out.size))
        have HKK := hide (HKN.out k (Nat.le_refl _) (lim32_small (by omega)) vk w3 HB3.out hvk)
        clear hvk hb3 HOF
        go_wp2_with fail
        refine (HKK.out).mono ?_
        rintro e w4 ⟨rfl, hb4⟩
        have HB4 := hide (HB3.out.trans (hb4.mono HB3.out.size))
        have HO1 := hide (of_nat 1 w4 (by omega))
        clear hb4 HKK HB3
        go_wp2_with fail
        refine (HO1.out).mono ?_
        rintro e w5 ⟨v1, rfl, hv1, hb5⟩
        have HB5 := hide (HB4.out.trans (hb5.mono HB4.out.size))
        have HDB := hide (double_any v1 1 200 200 w5 hv1 (by decide) (Lib.hid (lim32_pow 200 1000 (by omega))) ⟨by omega, by omega⟩)
        obtain ⟨W, HW⟩ : ∃ W, Hid (1 * 2 ^ 200 = W) := ⟨_, Lib.hid rfl⟩
        rw [HW.out] at HDB
        clear hv1 hb5 HO1 HB4
        go_wp2_with fail
        refine (HDB.out).mono ?_
        rintro e w6 ⟨v2, rfl, hv2, hb6⟩
        have HB6 := hide (HB5.out.trans (hb6.mono HB5.out.size))
        have HKM := hide (HKN.out W (by rw [← HW.out, Nat.one_mul]; exact Nat.le_trans (show k ≤ 2 ^ 6 by omega) (Nat.pow_le_pow_right (by omega) (by omega))) (show Lim32 W from HW.out ▸ lim32_pow 200 1000 (by omega)) v2 w6 HB6.out hv2)
        clear hv2 hb6 HDB HB5
        go_wp2_with fail
        refine (HKM.out).mono ?_
        rintro e w7 ⟨rfl, hb7⟩
        have HB7 := hide (HR2.out.bel.trans ((HB6.out.trans (hb7.mono HB6.out.size)).mono HR2.out.bel.size))
        have HBR := hide (fun (wx : World) (hb : Below w.heap.size w wx) => bareB_any (errV 8) 8 wx (HG.out.below hb) (.inr (.inl ⟨rfl, by omega, by omega, errV_ne (by omega)⟩)))
        clear hb7 HKM HB6
        go_wp2_with fail
        refine (HBR.out w7 HB7.out).mono ?_
        rintro e w8 ⟨rfl, hb8⟩
        have HB8 := hide (HB7.out.trans (hb8.mono HB7.out.size))
        clear hb8
        go_wp2_with fail
        refine (HBR.out w8 HB8.out).mono ?_
        rintro e w9 ⟨rfl, hb9⟩
        have HB9 := hide (HB8.out.trans (hb9.mono HB8.out.size))
        clear hb9
        go_wp2
        go_ret
        exact ⟨rfl, HB9.out⟩
end Go.Proofs.YtfbhmkpihmcegaaDoor
