/-
  The law ImageLoads, walked.
-/
import Derived.Test.YtdlcldhnbhlikaaGreatDoorLdLoad
import Derived.Test.YtdlcldhnbhlikaaGreatDoorBareC
namespace Go.Proofs.YtdlcldhnbhlikaaGreatDoor
open Go.RowKit Go.Maps

theorem arLenB_any (B gn gu gt : Nat) (A : Ar) (w : World) (h : ArM w B gn gu gt A) :
    Calls Tryz.prog 29 #[.pointer (some ⟨B, 0, none⟩)] w (fun e w' => e = .returned (.int .i64 (cntA A : Int)) ∧ w = w') := by
  obtain ⟨ns, us, tab, hT, kB, kn, ku, kt⟩ := h.is
  have b3 := kB.cell 3
  go_enter Tryz.func29, Tryz.ntmps29
  go_wp2
  go_ret
  exact ⟨rfl, rfl⟩
set_option maxRecDepth 100000 in
set_option maxHeartbeats 2000000 in
theorem load_big (Ad : Option Addr) (n c : Nat) (room : Int) (w : World) (hn : 20000 < n) (hn2 : n ≤ 25000) :
    Calls Tryz.prog 25 #[.slice Ad n c, .int .i64 room] w (fun e w' => e = .returned (.tuple #[.pointer none, .int .i64 0, errV 4]) ∧ w = w') := by
  have d1 : decide ((20000 : Int) < (n : Int)) = true := decide_eq_true (by omega)
  have f1 : decide (20000 < n) = true := decide_eq_true hn
  rw [errV_ne (by decide)]
  go_enter Tryz.func25, Tryz.ntmps25
  go_wp2
  go_ret3
  exact ⟨rfl, rfl⟩
set_option maxRecDepth 100000 in
set_option maxHeartbeats 8000000 in
theorem lawLoad_walk (Ad : Option Addr) (n c : Nat) (s : ByteArray) (room : Int) (w : World) (hs : s.size = n) (hc : ∀ w', Below w.heap.size w w' → (convert 28 9 (.slice Ad n c)).run Tryz.prog w' = .ok (.string s) w') (hr : I64 room) (hG : GlobV w) :
    Calls Tryz.prog 6 #[.slice Ad n c, .int .i64 room] w (AtPost w true) := by
  have HG := hide hG
  by_cases h1 : 1000 < n
  · have d1 : decide ((1000 : Int) < (n : Int)) = true := decide_eq_true (by omega)
    have f1 : decide (1000 < n) = true := decide_eq_true h1
    by_cases h2 : n ≤ 20000
    · have d2 : decide ((n : Int) ≤ (20000 : Int)) = true := decide_eq_true (by omega)
      have f2 : decide (n ≤ 20000) = true := decide_eq_true h2
      clear hc hG hs
      go_enter Tryz.func6, Tryz.ntmps6
      go_wp2
      go_ret
      exact ⟨rfl, Below.refl _ _⟩
    have d2 : decide ((n : Int) ≤ (20000 : Int)) = false := decide_eq_false (by omega)
    have f2 : decide (n ≤ 20000) = false := decide_eq_false h2
    by_cases h3 : 25000 < n
    · have d3 : decide ((25000 : Int) < (n : Int)) = true := decide_eq_true (by omega)
      have f3 : decide (25000 < n) = true := decide_eq_true h3
      clear hc hG hs
      go_enter Tryz.func6, Tryz.ntmps6
      go_wp2
      go_ret
      exact ⟨rfl, Below.refl _ _⟩
    have d3 : decide ((25000 : Int) < (n : Int)) = false := decide_eq_false (by omega)
    have f3 : decide (25000 < n) = false := decide_eq_false h3
    have d4 : decide ((20000 : Int) < (n : Int)) = true := decide_eq_true (by omega)
    have f4 : decide (20000 < n) = true := decide_eq_true (by omega)
    have HL := hide (load_big Ad n c room w (by omega) (by omega))
    have HB := hide (bareS_any 4 w hG.e (.inr ⟨by omega, by omega⟩))
    unfold AtPost at HB
    generalize errV 4 = ev at HL HB
    clear hc hG hs
    go_enter Tryz.func6, Tryz.ntmps6
    go_wp2_with fail
    refine (HL.out).mono ?_
    rintro e w1 ⟨rfl, rfl⟩
    go_wp2_with fail
    refine (HB.out).mono ?_
    rintro e w2 ⟨rfl, hb⟩
    go_wp2
    go_ret
    exact ⟨rfl, hb⟩
  have d1 : decide ((1000 : Int) < (n : Int)) = false := decide_eq_false (by omega)
  have f1 : decide (1000 < n) = false := decide_eq_false h1
  have d2 : decide ((n : Int) ≤ (20000 : Int)) = true := decide_eq_true (by omega)
  have f2 : decide (n ≤ 20000) = true := decide_eq_true (by omega)
  have d3 : decide ((25000 : Int) < (n : Int)) = false := decide_eq_false (by omega)
  have f3 : decide (25000 < n) = false := decide_eq_false (by omega)
  have d4 : decide ((20000 : Int) < (n : Int)) = false := decide_eq_false (by omega)
  have f4 : decide (20000 < n) = false := decide_eq_false (by omega)
  have HC := Lib.hid hc
  have HL := hide (load_any Ad n c s room w hs (by omega) hc hr hG)
  clear hc hG hs
  go_enter Tryz.func6, Tryz.ntmps6
  go_wp2_with fail
  refine (HL.out).mono ?_
  rintro e w1 (⟨cc, rfl, hcc, hb1⟩ | ⟨hr0, hr4, S, B, gn, gu, gt, gc, vars, A, x, rfl, hsp, hx, hv, himg, hcnt, hb1⟩)
  · have HB1 := hide hb1
    have hc0 : cc ≠ 0 := by rcases hcc with e | ⟨e, _⟩ | ⟨e, _⟩ <;> omega
    have HT := hide (tell_errno cc w1 (HG.out.below hb1).e)
    unfold TellPost at HT
    have HP := hide (fun (w' : World) (hb : Below w1.heap.size w1 w') => place_errno cc w' ((HG.out.below hb1).below hb).e)
    unfold PlacePost at HP
    rw [errV_ne hc0]
    clear hb1 hc0 HL
    go_wp2_with fail
    refine (HT.out).mono ?_
    rintro e w2 ⟨rfl, hb2⟩
    have HB2 := hide hb2
    have HP2 := hide (HP.out w2 hb2)
    clear hb2 HT HP
    go_wp2_with fail
    refine (HP2.out).mono ?_
    rintro e w3 ⟨rfl, hb3⟩
    have HEND := hide (show AtPost w true (.returned (.bool true)) w3 from ⟨rfl, HB1.out.trans ((HB2.out.trans (hb3.mono HB2.out.size)).mono HB1.out.size)⟩)
    clear hb3 HP2
    rcases hcc with rfl | ⟨rfl, h⟩ | ⟨rfl, h⟩
    · go_wp2
      go_ret
      exact HEND.out
    · have e1 : decide (room < 300) = true := decide_eq_true h
      clear h
      go_wp2
      go_ret
      exact HEND.out
    · by_cases h0 : room < 0
      · have e1 : decide (room < 0) = true := decide_eq_true h0
        clear h h0
        go_wp2
        go_ret
        exact HEND.out
      · have e1 : decide (room < 0) = false := decide_eq_false h0
        have e2 : decide (4000 < room) = true := decide_eq_true (by omega)
        clear h h0
        go_wp2
        go_ret
        exact HEND.out
  · have e1 : decide (room < 0) = false := decide_eq_false (by omega)
    have e2 : decide (4000 < room) = false := decide_eq_false (by omega)
    have HB1 := hide hb1
    have HSP := hide hsp
    have HSZ := hide (bdSize_any S B gn gu gt gc vars A w1 x hsp (hsp.i64_ hx) hx)
    unfold SizeP at HSZ
    have HSV := hide (fun (w' : World) (hb : Below w1.heap.size w1 w') => save_any x w' (hsp.below hb) hv hx ((HG.out.below hb1).below hb).t)
    unfold SaveP at HSV
    rw [himg] at HSV
    rw [hcnt] at HSZ
    have hk0 := hsp.kS
    clear hb1 hsp HL himg hcnt
    go_wp2_with fail
    refine (HSZ.out).mono ?_
    rintro e w2 ⟨rfl, hb2⟩
    have HB2 := hide hb2
    have HSV2 := hide (HSV.out w2 hb2)
    clear hb2 HSV HSZ
    go_wp2_with fail
    refine (HSV2.out).mono ?_
    rintro e w3 ⟨v3, rfl, ho3, hb3⟩
    obtain ⟨g3, c3, e3, _⟩ := ho3.reads
    subst e3
    have hb13 := HB2.out.trans (hb3.mono HB2.out.size)
    have HB3 := hide (HB1.out.trans (hb13.mono HB1.out.size))
    have k3 := ho3.text (P := Tryz.prog) 28 9 Tryz.underlying28 Tryz.underlying5 Tryz.underlying9
    rw [strs_back _ s rfl, show s.data.toList.length = s.size from rfl] at k3
    have k4 := HC.out w3 HB3.out
    have xS := (hk0.below hb13 hk0.lt).cell 0
    have HLN := hide (arLenB_any B gn gu gt A w3 (HSP.out.below hb13).ar)
    have hss : (s.toList == s.toList) = true := by simp
    clear ho3 hb3 hb13 HSV2 hk0 HB1 HB2
    go_wp2_with fail
    refine (HLN.out).mono ?_
    rintro e w4 ⟨rfl, rfl⟩
    go_wp2
    go_ret
    exact ⟨rfl, HB3.out⟩
end Go.Proofs.YtdlcldhnbhlikaaGreatDoor
