/-
  The law NatParses, walked.
-/
import Derived.Test.YtpghgfenafhhbaaDoorNatQ
import Derived.Test.YtpghgfenafhhbaaDoorNatD
import Derived.Test.YtpghgfenafhhbaaDoorAt
namespace Go.Proofs.YtpghgfenafhhbaaDoor
open Go.RowKit

theorem errBelowN {w w' : World} {v : Value} {f : Int × Int} (h : IsErr w v f) (hb : Below w.heap.size w w') : IsErr w' v f := by
  rcases h with h | h | ⟨b, h1, h2, h3, h4, h5, h6⟩
  · exact .inl h
  · exact .inr (.inl h)
  · exact .inr (.inr ⟨b, Nat.lt_of_lt_of_le h1 hb.size, h2, h3, h4, h5, h6.below hb h1⟩)
set_option maxHeartbeats 1000000 in
theorem bareN_any (v : Value) (c : Int) (w : World) (hG : GlobE w) (h : IsErr w v (c, -1)) :
    Calls Tryd.prog 12 #[v, .int .i64 c] w (AtPost w true) := by
  have HB := hide ((Below.refl w.heap.size w).alloc (Nat.le_refl _) (.cells #[.int .i64 c, .int .i64 (-1)] 72))
  have HAT := hide (at_anyE v (c, -1) (c, -1) (w.alloc (.cells #[.int .i64 c, .int .i64 (-1)] 72)) (hG.below HB.out) (errBelowN h HB.out))
  rw [atB_self] at HAT
  unfold faultV at HAT
  clear h hG
  go_enter Tryd.func12, Tryd.ntmps12
  go_wp2_with (go_at_call 37; refine (bare_any c _).mono ?_; rintro e w' ⟨rfl, rfl⟩)
  refine (HAT.out).mono ?_
  rintro e w4 ⟨rfl, hb4⟩
  go_wp2
  go_ret
  exact ⟨ret_bool (by simp), HB.out.trans (hb4.mono HB.out.size)⟩
theorem numE_range (s : ByteArray) : numE s = 0 ∨ (1 ≤ numE s ∧ numE s ≤ 13) := by
  by_cases h : NumOk s
  · by_cases hl : 100 < s.size
    · rw [numE_long h hl]; omega
    · rw [numE_ok h hl]; omega
  · rw [numE_no h]; omega
theorem numE_zero {s : ByteArray} (h : numE s = 0) : NumOk s ∧ s.size ≤ 100 := by
  by_cases hk : NumOk s
  · by_cases hl : 100 < s.size
    · rw [numE_long hk hl] at h; omega
    · exact ⟨hk, by omega⟩
  · rw [numE_no hk] at h; omega
theorem text_back {s : ByteArray} (h : NumOk s) : (⟨(Lib.decDigits (decV s.data.toList)).toArray⟩ : ByteArray) = s := by
  rw [decV_text h.dig (by rw [size_len]; exact h.pos) h.lead]
theorem NatV.few {w : World} {v : Value} {N k : Nat} (h : NatV w v N) (hN : N < 4294967296 ^ k) : ∀ A n c, v = .agg #[.slice A n c] → n ≤ k := by
  obtain ⟨A', n', c', xs, rfl, _, hl, ht, hv, hn⟩ := h.len hN
  intro A n c e
  have e2 : n' = n := by
    injection e with e
    have := congrArg (fun a => a[0]?) e
    simp at this
    exact this.2.1
  rw [← e2]
  exact hn
theorem dec_pow {s : ByteArray} (h : NumOk s) (hs : s.size ≤ 100) : decV s.data.toList < 10 ^ (9 * 12) := by
  refine Nat.lt_of_lt_of_le (decV_lt h.dig) (Nat.pow_le_pow_right (by omega) ?_)
  rw [size_len]
  omega

set_option maxRecDepth 100000 in
set_option maxHeartbeats 4000000 in
theorem lawParses_walk (s : ByteArray) (w : World) (hG : GlobE w) (_h0 : s.size ≤ 9223372036854775807) :
    Calls Tryd.prog 4 #[.string s] w (AtPost w true) := by
  by_cases hs : 300 < s.size
  · go_enter Tryd.func4, Tryd.ntmps4
    go_wp2
    go_ret
    exact ⟨rfl, Below.refl _ _⟩
  have HG := hide hG
  clear hG
  have HRP := hide (fun (w' : World) => refParse_any s w' (by omega))
  have HPP := hide (fun (w' : World) => parse_any s w' (by omega))
  have hle : decide ((300 : Int) < (s.size : Int)) = false := decide_eq_false (by omega)
  rcases numE_range s with hz | ⟨hz1, hz2⟩
  · have HZ := Lib.hid hz
    obtain ⟨hok, hle2⟩ := numE_zero hz
    have HTX := Lib.hid (text_back hok)
    have HPW := Lib.hid (dec_pow hok hle2)
    have HBN := Lib.hid (decV_bound hok.dig (by rw [size_len]; omega))
    have HNN := Lib.hid (show numN s = decV s.data.toList by unfold numN; rw [if_pos hz])
    clear hok hz
    go_enter Tryd.func4, Tryd.ntmps4
    go_wp2_with fail
    refine (HRP.out _).mono ?_
    rintro e w1 ⟨p, rfl, hp, hb1⟩
    rw [HZ.out]
    rcases hp with ⟨_, rfl, hi1⟩ | ⟨hne, _⟩
    case inr => exact absurd HZ.out hne
    have HI1 := hide hi1
    have HB1 := hide hb1
    clear hi1 hb1
    go_wp2_with fail
    refine (HPP.out _).mono ?_
    rintro e w2 ⟨v2, rfl, hv2, hb2⟩
    have HB2 := hide (HB1.out.trans (hb2.mono HB1.out.size))
    have HI2 := hide (HI1.out.below hb2)
    rw [HNN.out] at hv2
    unfold errI
    rw [if_pos HZ.out]
    obtain ⟨A2, n2, c2, e2⟩ := hv2.form
    subst e2
    generalize decV s.data.toList = N at HI2 hv2 HTX HPW HBN
    have HV2 := hide hv2
    clear hb2 hv2 HI1 HNN
    have HB3 := hide (HB2.out.alloc HB2.out.size (.cells #[.slice A2 n2 c2] 25))
    have hal := (Below.refl w2.heap.size w2).alloc (Nat.le_refl _) (.cells #[.slice A2 n2 c2] 25)
    have HV3 := hide (HV2.out.below hal)
    have HI3 := hide (HI2.out.below hal)
    have HK3 := hide (Blk.new w2 25 #[.slice A2 n2 c2])
    clear hal
    go_wp2_with fail
    generalize hg3 : w2.heap.size = g3 at HK3 ⊢
    generalize (w2.alloc (.cells #[.slice A2 n2 c2] 25)) = w3 at HB3 HV3 HI3 HK3 ⊢
    clear hg3 HB2 HI2 HV2
    refine (fits_any _ N _ HV3.out).mono ?_
    rintro e w4 ⟨rfl, hb4⟩
    have HB4 := hide (HB3.out.trans (hb4.mono HB3.out.size))
    have HV4 := hide (HV3.out.below hb4)
    have HI4 := hide (HI3.out.below hb4)
    have HK4 := hide (HK3.out.below hb4 HK3.out.lt)
    clear hb4
    have HTT := hide (text_any _ N 12 1000 w4 HV4.out HPW.out (by omega) (HV4.out.few HBN.out) (by omega))
    have HIS := hide (isInt64_any _ N w4 HI4.out HBN.out)
    have c4 := HK4.out.cell 0
    have HTL := hide (fun (w5 : World) (hb5 : Below w4.heap.size w4 w5) => show w5.cell? ⟨g3, 0, none⟩ = some (.slice A2 n2 c2) ∧ Calls Tryd.prog 13 #[.agg #[.slice A2 n2 c2]] w5 (BoolPost w5 (decide (N = 0))) from
      ⟨(hb5.cell (p := ⟨g3, 0, none⟩) HK4.out.lt).trans (HK4.out.cell 0), zero_any _ N w5 (HV4.out.below hb5)⟩)
    have HSG := hide (fun (w5 : World) (hb5 : Below w4.heap.size w4 w5) => sign_any _ N w5 (HI4.out.below hb5))
    unfold TextPost at HTT
    rw [HTX.out] at HTT
    by_cases hsm : N < 9223372036854775808
    · have HI64 := hide (int64_any _ N w4 HI4.out hsm)
      rw [show fitsV N = .tuple #[.int .i64 (N : Int), .bool true] by unfold fitsV; rw [if_pos hsm]]
      rw [decide_eq_true hsm] at HIS
      go_wp2_with fail
      refine (HIS.out).mono ?_
      rintro e w5 ⟨rfl, rfl⟩
      go_wp2_with fail
      refine (HI64.out).mono ?_
      rintro e w5 ⟨rfl, rfl⟩
      go_wp2_with fail
      refine (HTT.out).mono ?_
      rintro e w5 ⟨rfl, hb5⟩
      obtain ⟨c5, hzr⟩ := HTL.out w5 hb5
      have HZR := hide hzr
      have HB5 := hide hb5
      clear hzr hb5
      go_wp2_with fail
      refine (HZR.out).mono ?_
      rintro e w6 ⟨rfl, hb6⟩
      have HB6 := hide (HB5.out.trans (hb6.mono HB5.out.size))
      clear hb6
      have HSI := hide (HSG.out w6 HB6.out)
      go_wp2_with fail
      refine (HSI.out).mono ?_
      rintro e w7 ⟨rfl, rfl⟩
      go_wp2
      all_goals
        go_ret
        exact ⟨by first | rfl | exact ret_bool (by simp) | exact ret_bool (by by_cases h : N = 0 <;> simp [h]), HB4.out.trans (HB6.out.mono HB4.out.size)⟩
    · rw [show fitsV N = .tuple #[.int .i64 0, .bool false] by unfold fitsV; rw [if_neg hsm]]
      rw [decide_eq_false hsm] at HIS
      go_wp2_with fail
      refine (HIS.out).mono ?_
      rintro e w5 ⟨rfl, rfl⟩
      go_wp2_with fail
      refine (HTT.out).mono ?_
      rintro e w5 ⟨rfl, hb5⟩
      obtain ⟨c5, hzr⟩ := HTL.out w5 hb5
      have HZR := hide hzr
      have HB5 := hide hb5
      clear hzr hb5
      go_wp2_with fail
      refine (HZR.out).mono ?_
      rintro e w6 ⟨rfl, hb6⟩
      have HB6 := hide (HB5.out.trans (hb6.mono HB5.out.size))
      clear hb6
      have HSI := hide (HSG.out w6 HB6.out)
      go_wp2_with fail
      refine (HSI.out).mono ?_
      rintro e w7 ⟨rfl, rfl⟩
      go_wp2
      all_goals
        go_ret
        exact ⟨by first | rfl | exact ret_bool (by simp) | exact ret_bool (by by_cases h : N = 0 <;> simp [h]), HB4.out.trans (HB6.out.mono HB4.out.size)⟩
  · have hne : numE s ≠ 0 := by omega
    have HEI := Lib.hid (show errI (numE s) = .iface 32 (.int .i64 (numE s)) by unfold errI; rw [if_neg hne])
    have HNN := Lib.hid (show numN s = 0 by unfold numN; rw [if_neg hne])
    have hneb : ((numE s : Int) == 0) = false := beq_eq_false_iff_ne.2 hne
    go_enter Tryd.func4, Tryd.ntmps4
    go_wp2_with fail
    refine (HRP.out _).mono ?_
    rintro e w1 ⟨p, rfl, hp, hb1⟩
    rcases hp with ⟨h, _⟩ | ⟨_, rfl⟩
    case inl => exact absurd h hne
    have HB1 := hide hb1
    clear hb1
    go_wp2_with fail
    refine (HPP.out _).mono ?_
    rintro e w2 ⟨v2, rfl, hv2, hb2⟩
    have HB2 := hide (HB1.out.trans (hb2.mono HB1.out.size))
    rw [HNN.out] at hv2
    rw [HEI.out]
    obtain ⟨A2, n2, c2, e2⟩ := hv2.form
    subst e2
    have HB3 := hide (HB2.out.alloc HB2.out.size (.cells #[.slice A2 n2 c2] 25))
    have HV3 := hide (hv2.below ((Below.refl w2.heap.size w2).alloc (Nat.le_refl _) (.cells #[.slice A2 n2 c2] 25)))
    have HK3 := hide (Blk.new w2 25 #[.slice A2 n2 c2])
    clear hb2 hv2
    go_wp2_with fail
    generalize hg3 : w2.heap.size = g3 at HK3 ⊢
    generalize (w2.alloc (.cells #[.slice A2 n2 c2] 25)) = w3 at HB3 HV3 HK3 ⊢
    clear hg3 HB2
    refine (bareN_any _ (numE s) w3 (HG.out.below HB3.out) (.inr (.inl ⟨rfl, hz1, hz2, rfl⟩))).mono ?_
    rintro e w4 ⟨rfl, hb4⟩
    have HB4 := hide (HB3.out.trans (hb4.mono HB3.out.size))
    have HZR := hide (zero_any _ 0 w4 (HV3.out.below hb4))
    have HK4 := hide (HK3.out.below hb4 HK3.out.lt)
    have c4 := HK4.out.cell 0
    clear hb4
    go_wp2_with fail
    refine (HZR.out).mono ?_
    rintro e w5 ⟨rfl, hb5⟩
    go_wp2
    go_ret
    exact ⟨ret_bool (by simp), HB4.out.trans (hb5.mono HB4.out.size)⟩
end Go.Proofs.YtpghgfenafhhbaaDoor
