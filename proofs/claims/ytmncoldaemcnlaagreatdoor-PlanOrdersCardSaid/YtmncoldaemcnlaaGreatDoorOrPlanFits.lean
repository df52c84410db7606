/-
  A part of the proof: PlanFits. Conditions: none.
-/
import Derived.Test.YtmncoldaemcnlaaGreatDoorOrRefItems
import Derived.Test.YtmncoldaemcnlaaGreatDoorOrPlanAny
namespace Go.Proofs.YtmncoldaemcnlaaGreatDoor
open Go.RowKit
open Classical
set_option maxRecDepth 100000
def FitP (p : Bool × Int) (w : World) (e : Ending) (w' : World) : Prop := e = .returned (.tuple #[.bool p.1, .int .i64 p.2]) ∧ Below w.heap.size w w'
theorem refIn_any (set i b : Nat) (w : World) (hs : set < 18446744073709551616) (hi : i ≤ 64) (hk : w.cell? ⟨b, 0, none⟩ = some (.int .u64 (set : Int))) : Calls Tryz.prog 53 #[.int .i64 (i : Int), .pointer (some ⟨b, 0, none⟩)] w (HasP (set.testBit i) w) := by
 have hm : min i 64 = i := Nat.min_eq_left hi
 have hb := shr_bitP set i hs
 go_enter Tryz.func53, Tryz.ntmps53
 go_wp2_with fail
 exact bodyPost_ret (v := .bool (set.testBit i)) (by simp [results, Tryz.results53, go_sem]) rfl ⟨rfl, rfl⟩
theorem chkL_kind {x : LnR} (h : chkL x = 0) : x.k = 1 ∨ x.k = 2 ∨ x.k = 3 ∨ x.k = 4 := by
 unfold chkL at h
 split at h
 ·cases h
 ·omega
set_option maxHeartbeats 16000000 in
theorem refFits_any (v : Value) (qs : List LnQ) (its0 : List ItR) (set : Nat) (w : World) (h : LnsR w 0 v qs) (hc : catR (qs.map (·.1)) = .inr its0) (hs : set < 18446744073709551616) :
  Calls Tryz.prog 15 #[v, .int .u64 (set : Int)] w (FitP (fitsF (itemsF (qs.map (·.1))) (qs.map (·.1)) set) w) := by
 have hq100 : qs.length ≤ 100 := by have := (catR_ok hc).2.2.2.1; simpa using this
 have HCK := Lib.hid (catR_ok hc).2.2.2.2
 have HIN := Lib.hid (catR_in hc)
 obtain ⟨h24, _⟩ := catR_few hc
 have hal := (Below.refl w.heap.size w).alloc (Nat.le_refl _) (.cells #[.int .u64 (set : Int)] 47)
 have HIT := hide (refItems_any v qs (w.alloc (.cells #[.int .u64 (set : Int)] 47)) (h.below hal) (by omega))
 have HL := hide (h.below hal)
 have HKS := hide (Blk.new w 47 #[.int .u64 (set : Int)])
 have HB := hide hal
 obtain ⟨A, c, rfl, _⟩ := h.1.len
 unfold ItsP at HIT
 generalize hits : itemsF (qs.map (·.1)) = its at HIT HIN h24 ⊢
 clear h hal hc hits
 go_enter Tryz.func15, Tryz.ntmps15
 go_wp2_with fail
 generalize w.alloc (.cells #[.int .u64 (set : Int)] 47) = w0 at HIT HL HKS HB ⊢
 generalize hb0 : w.heap.size = b0 at HKS ⊢
 refine HIT.out.mono ?_
 rintro e w1 ⟨v6, rfl, ho, hb1⟩
 have HO := hide (ho.mono (Nat.zero_le _))
 have HK1 := hide (HKS.out.below hb1 HKS.out.lt)
 have HL1 := hide (HL.out.below hb1)
 have HB1 := hide (HB.out.trans (hb1.mono HB.out.size))
 have k0 := HK1.out.cell 0
 obtain ⟨A6, c6, rfl, _⟩ := HO.out.len
 clear ho hb1 HIT HL HKS HB hb0
 have hmin : min its.length 64 = its.length := Nat.min_eq_left (by omega)
 by_cases h0 : set >>> its.length = 0
 ·have hz := (shr_pos set its.length).2 h0
  have HNF := Lib.hid (fun (h : ¬ Twin its set) => fits_lines (ls := qs.map (·.1)) h0 h)
  have HTW := Lib.hid (fun i k (h : TwA its set i k) => fits_twin (ls := qs.map (·.1)) h)
  clear h0
  go_wp2_with fail
  go_loopw [28] (fun iv wr => ∃ i : Nat, i ≤ its.length ∧ iv = .int .i64 i ∧ Hid (Below w1.heap.size w1 wr) ∧ Hid (∀ i' k', i' < i → ¬ TwA its set i' k')) (fun iv _ => its.length - (intOf iv).toNat)
  case atStart => exact ⟨0, Nat.zero_le _, rfl, hide (Below.refl _ _), Lib.hid fun i' k' h => absurd h (Nat.not_lt_zero _)⟩
  case round =>
   obtain ⟨i, hi, rfl, HW, HN⟩ := hrel
   clear hz k0
   by_cases hlt : i < its.length
   ·have hltz : (i : Int) < (its.length : Int) := by omega
    go_wp2_with fail
    go_loopw [33] (fun kv wr => ∃ k : Nat, k ≤ its.length ∧ kv = .int .i64 k ∧ Hid (Below w1.heap.size w1 wr) ∧ Hid (∀ k', k' < k → ¬ TwA its set i k')) (fun kv _ => its.length - (intOf kv).toNat)
    case atStart => exact ⟨0, Nat.zero_le _, rfl, HW, Lib.hid fun k' h => absurd h (Nat.not_lt_zero _)⟩
    case round =>
     obtain ⟨k, hk, rfl, HW2, HN2⟩ := hrel
     clear HW
     by_cases hkl : k < its.length
     ·have hklz : (k : Int) < (its.length : Int) := by omega
      have hltz : (i : Int) < (its.length : Int) := by omega
      have HNX := Lib.hid (fun (h : ¬ TwA its set i k) => show ∀ k', k' < k + 1 → ¬ TwA its set i k' from fun k' h2 => by
       rcases Nat.lt_or_ge k' k with h3 | h3
       ·exact HN2.out k' h3
       ·obtain rfl : k' = k := by omega
        exact h)
      have HI1 := hide (fun n => refIn_any set i b0 (wr.drewN n) hs (by omega) (((HK1.out.below HW2.out HK1.out.lt).drewN n).cell 0))
      have HI2 := hide (fun n => refIn_any set k b0 (wr.drewN n) hs (by omega) (((HK1.out.below HW2.out HK1.out.lt).drewN n).cell 0))
      unfold HasP at HI1 HI2
      by_cases hik : i = k
      ·subst hik
       have hnb : (!((i : Int) == (i : Int))) = false := by simp
       have HNN := Lib.hid (HNX.out (fun h => h.1 rfl))
       clear HNX HI1 HI2
       go_wp2_with fail
       go_quiet (fail)
       go_wp2_with fail
       go_round
       case rel => exact ⟨i + 1, by omega, by go_num, hide (below_drewN HW2.out _), HNN⟩
       case measure => simp [intOf]; omega
      ·have hik2 : ((i : Int) == (k : Int)) = false := beq_eq_false_iff_ne.2 (by omega)
       have hnb : ((i : Int) != (k : Int)) = true := by unfold bne; rw [hik2]; rfl
       have hnc : (i != k) = true := by simpa using hik
       have hnd : (i == k) = false := by simpa using hik
       cases hbi : set.testBit i with
       | false =>
        rw [hbi] at HI1
        have HNN := Lib.hid (HNX.out (fun h => by have := h.2.2.2.1; rw [hbi] at this; cases this))
        clear HNX HI2
        go_wp2_with fail
        go_quiet ((go_at_call 53; refine (HI1.out _).mono ?_; rintro e w9 ⟨rfl, rfl⟩; exact ⟨rfl, _, rfl⟩))
        go_wp2_with fail
        go_round
        case rel => exact ⟨k + 1, by omega, by go_num, hide (below_drewN HW2.out _), HNN⟩
        case measure => simp [intOf]; omega
       | true =>
        rw [hbi] at HI1
        cases hbk : set.testBit k with
        | false =>
         rw [hbk] at HI2
         have HNN := Lib.hid (HNX.out (fun h => by have := h.2.2.2.2.1; rw [hbk] at this; cases this))
         clear HNX
         go_wp2_with fail
         go_quiet ((first | (go_at_call 53; refine (HI1.out _).mono ?_; rintro e w9 ⟨rfl, rfl⟩; exact ⟨rfl, _, rfl⟩) | (go_at_call 53; refine (HI2.out _).mono ?_; rintro e w9 ⟨rfl, rfl⟩; exact ⟨rfl, _, rfl⟩)))
         go_wp2_with fail
         go_round
         case rel => exact ⟨k + 1, by omega, by go_num, hide (below_drewN HW2.out _), HNN⟩
         case measure => simp [intOf]; omega
        | true =>
         rw [hbk] at HI2
         obtain ⟨gi, hA, hrow⟩ := (HO.out.below HW2.out).rowAt hlt
         subst hA
         have yi := (row4 rfl rfl hrow hlt).1
         have yk := (row4 rfl rfl hrow hkl).1
         have ei := nmA_at hlt
         have ek := nmA_at hkl
         rw [← ei] at yi
         rw [← ek] at yk
         clear hrow ei ek
         by_cases hn : nmA its i = nmA its k
         ·have HV := Lib.hid (HTW.out i k ⟨hik, hlt, hkl, hbi, hbk, hn⟩)
          rw [hn] at yi
          generalize nmA its k = nm at yi yk
          have hne : (nm.toList == nm.toList) = true := beq_self_eq_true _
          clear HNX hn
          go_wp2_with fail
          go_quiet ((first | (go_at_call 53; refine (HI1.out _).mono ?_; rintro e w9 ⟨rfl, rfl⟩; exact ⟨rfl, _, rfl⟩) | (go_at_call 53; refine (HI2.out _).mono ?_; rintro e w9 ⟨rfl, rfl⟩; exact ⟨rfl, _, rfl⟩)))
          go_wp2_with fail
          exact bodyPost_ret (v := .tuple #[.bool false, .int .i64 (-2)]) (by simp [results, Tryz.results15, go_sem]) rfl ⟨by rw [HV.out], HB1.out.trans ((below_drewN HW2.out _).mono HB1.out.size)⟩
         ·have HNN := Lib.hid (HNX.out (fun h => hn h.2.2.2.2.2))
          generalize nmA its i = ni at yi hn
          generalize nmA its k = nk at yk hn
          have hne : (ni.toList == nk.toList) = false := beq_eq_false_iff_ne.2 fun e => hn (by
           rw [ByteArray.toList_eq, ByteArray.toList_eq] at e
           exact ByteArray.ext (Array.ext' e))
          clear HNX hn
          go_wp2_with fail
          go_quiet ((first | (go_at_call 53; refine (HI1.out _).mono ?_; rintro e w9 ⟨rfl, rfl⟩; exact ⟨rfl, _, rfl⟩) | (go_at_call 53; refine (HI2.out _).mono ?_; rintro e w9 ⟨rfl, rfl⟩; exact ⟨rfl, _, rfl⟩)))
          go_wp2_with fail
          go_round
          case rel => exact ⟨k + 1, by omega, by go_num, hide (below_drewN HW2.out _), HNN⟩
          case measure => simp [intOf]; omega
     ·have hklz : ¬ (k : Int) < (its.length : Int) := by omega
      have HNN := Lib.hid (show ∀ i' k', i' < i + 1 → ¬ TwA its set i' k' from fun i' k' h2 ht => by
       rcases Nat.lt_or_ge i' i with h3 | h3
       ·exact HN.out i' k' h3 ht
       ·obtain rfl : i' = i := by omega
        exact HN2.out k' (by have := ht.2.2.1; omega) ht)
      clear HN HN2
      go_wp2_with fail
      go_round
      case rel => exact ⟨i + 1, by omega, by go_num, HW2, HNN⟩
      case measure => simp [intOf]; omega
   ·have hltz : ¬ (i : Int) < (its.length : Int) := by omega
    have HFT := Lib.hid (HNF.out (fun ⟨i9, k9, h9⟩ => HN.out i9 k9 (by have := h9.2.1; omega) h9))
    clear HN HNF HTW
    go_wp2_with fail
    go_loopw [66] (fun nv wr => ∃ n : Nat, n ≤ qs.length ∧ nv = .int .i64 n ∧ Hid (Below w1.heap.size w1 wr) ∧ Hid (fitL its set ((qs.map (·.1)).drop n) n = fitL its set (qs.map (·.1)) 0)) (fun nv _ => qs.length - (intOf nv).toNat)
    case atStart => exact ⟨0, Nat.zero_le _, rfl, HW, Lib.hid rfl⟩
    case round =>
     obtain ⟨n, hn, rfl, HW2, HP⟩ := hrel
     clear HW hltz hi
     by_cases hnl : n < qs.length
     ·have hnlz : (n : Int) < (qs.length : Int) := by omega
      obtain ⟨gq, hA, hrow⟩ := (HL1.out.1.below HW2.out).rowAt hnl
      subst hA
      obtain ⟨y0, y1, y2, y3, y4, y5, y6⟩ := row7 rfl rfl hrow hnl
      have hst := fitL_step (its := its) (set := set) (ls := qs.map (·.1)) (i := n) (by simpa using hnl) HP.out
      rw [List.getElem_map] at hst
      have hmem : qs[n].1 ∈ qs.map (·.1) := List.mem_map.2 ⟨_, List.getElem_mem hnl, rfl⟩
      have hkd := chkL_kind (HCK.out _ hmem)
      have hin := HIN.out _ hmem
      obtain ⟨hrv, hok⟩ := HL1.out.2 _ (List.getElem_mem hnl)
      have hrv2 := hrv.below HW2.out
      have hcan := hok.can
      clear hrow hmem hrv hok
      generalize qs[n] = q at y0 y1 y2 y3 y4 y5 y6 hst hkd hin hrv2 hcan
      obtain ⟨x, Aq, nq, cq⟩ := q
      simp only [slQ] at y0 y1 y2 y3 y4 y5 y6 hst hkd hin hrv2 hcan
      have hal := (Below.refl wr.heap.size wr).alloc (Nat.le_refl _) (.cells #[.int .i64 x.k, .string x.name, .int .i64 (x.ver 0), .int .i64 (x.ver 1), .int .i64 (x.ver 2), .string x.other, .slice Aq nq cq] 27)
      have HKX := hide (Blk.new wr 27 #[.int .i64 x.k, .string x.name, .int .i64 (x.ver 0), .int .i64 (x.ver 1), .int .i64 (x.ver 2), .string x.other, .slice Aq nq cq])
      have HBA := hide (HW2.out.trans (hal.mono HW2.out.size))
      have HAMG := hide (fun nm => refAm_any (.slice A6 its.length c6) its nm (.slice Aq nq cq) x.rg (wr.alloc (.cells #[.int .i64 x.k, .string x.name, .int .i64 (x.ver 0), .int .i64 (x.ver 1), .int .i64 (x.ver 2), .string x.other, .slice Aq nq cq] 27)) (HO.out.below HBA.out) (hrv2.below hal) hcan (by omega))
      have HRN := Lib.hid (fun nm z (hz : z ∈ amF nm x.rg its 0) => amF_range nm x.rg its 0 z hz)
      have HBAD := Lib.hid hst.1
      have HOKL := Lib.hid hst.2
      have HIN1 := Lib.hid hin
      clear hal hrv2 hcan hst hin HP
      by_cases hk4 : x.k = 4
      ·have q4 : (x.k == 4) = true := by rw [hk4]; rfl
       have q2 : (x.k == 2) = false := by rw [hk4]; rfl
       have q3 : (x.k == 3) = false := by rw [hk4]; rfl
       have HK4 := Lib.hid hk4
       clear hk4
       have HAM := hide (HAMG.out x.name)
       have HRZ := Lib.hid (HRN.out x.name)
       have hzl := amF_len x.name x.rg its 0
       clear HAMG HRN
       unfold AmP at HAM
       obtain ⟨zs, HZS⟩ : ∃ zs, Hid (amF x.name x.rg its 0 = zs) := ⟨_, Lib.hid rfl⟩
       rw [HZS.out] at HAM HRZ hzl
       go_wp2_with fail
       generalize World.alloc _ (.cells #[.int .i64 x.k, .string x.name, .int .i64 (x.ver 0), .int .i64 (x.ver 1), .int .i64 (x.ver 2), .string x.other, .slice Aq nq cq] 27) = wA at HKX HBA HAM ⊢
       generalize wr.heap.size = bx at HKX ⊢
       clear HW2 y0 y1 y2 y3 y4 y5 y6
       refine HAM.out.mono ?_
       rintro e w3 ⟨vz, rfl, hoz, hb3⟩
       have HOZ := hide (hoz.mono (Nat.zero_le _))
       have HKX3 := hide (HKX.out.below hb3 HKX.out.lt)
       have HB3 := hide (HBA.out.trans (hb3.mono HBA.out.size))
       obtain ⟨Az, cz, rfl⟩ := HOZ.out.len
       clear hoz hb3 HAM HKX HBA
       go_wp2_with fail
       go_loopw [13, 84] (fun s13 jv wr => ∃ j : Nat, j ≤ zs.length ∧ jv = .int .i64 j ∧ s13 = .bool (anyB set (zs.take j)) ∧ Hid (Below w3.heap.size w3 wr)) (fun _ jv _ => zs.length - (intOf jv).toNat)
       case atStart => exact ⟨0, Nat.zero_le _, rfl, rfl, hide (Below.refl _ _)⟩
       case round =>
        obtain ⟨j, hj, rfl, rfl, HW4⟩ := hrel
        by_cases hjl : j < zs.length
        ·have hjlz : (j : Int) < (zs.length : Int) := by omega
         obtain ⟨gz, capz, cur, e9, _, hkz, _, hcz⟩ := (HOZ.out.below HW4.out).form (by omega)
         injection e9 with e1 e2 e3
         subst e1
         have u0 := (hkz.cell j).trans (hcz j hjl)
         rw [List.getD_eq_getElem?_getD, List.getElem?_eq_getElem hjl, Option.getD_some] at u0
         have hsn := anyB_snoc set zs hjl
         have hr := HRZ.out _ (List.getElem_mem hjl)
         obtain ⟨k, hkk⟩ : ∃ k : Nat, zs[j] = (k : Int) := ⟨zs[j].toNat, by omega⟩
         rw [hkk] at u0 hsn hr
         rw [show ((k : Int)).toNat = k from rfl] at hsn
         have HIK := hide (refIn_any set k b0 wr hs (by omega) ((HK1.out.below (HB3.out.trans (HW4.out.mono HB3.out.size)) HK1.out.lt).cell 0))
         clear hkz hcz hkk e2 e3
         cases hsb : anyB set (zs.take j) with
         | true =>
          rw [hsb, Bool.true_or] at hsn
          have HSN := Lib.hid hsn
          clear hsn HIK
          go_wp2_with fail
          go_round
          case rel => exact ⟨j + 1, by omega, by go_num, by rw [HSN.out], HW4⟩
          case measure => simp [intOf]; omega
         | false =>
          rw [hsb, Bool.false_or] at hsn
          have HSN := Lib.hid hsn
          clear hsn
          go_wp2_with fail
          refine HIK.out.mono ?_
          rintro e w5 ⟨rfl, rfl⟩
          go_wp2_with fail
          go_round
          case rel => exact ⟨j + 1, by omega, by go_num, by rw [HSN.out], HW4⟩
          case measure => simp [intOf]; omega
        ·have hjlz : ¬ (j : Int) < (zs.length : Int) := by omega
         rw [List.take_of_length_le (show zs.length ≤ j by omega)]
         have HBW := hide (HB3.out.trans (HW4.out.mono HB3.out.size))
         have HKX4 := hide (HKX3.out.below HW4.out HKX3.out.lt)
         have HNM := hide (refNum_at (.slice A6 its.length c6) its (itL x) wr (HO.out.below HBW.out) (by omega))
         unfold itA itL PosP at HNM
         simp only [] at HNM
         have x0 := HKX4.out.cell 0
         have x1 := HKX4.out.cell 1
         have x2 := HKX4.out.cell 2
         have x3 := HKX4.out.cell 3
         have x4 := HKX4.out.cell 4
         have x5 := HKX4.out.cell 5
         obtain ⟨ow, HOW⟩ : ∃ ow, Hid (posN its (x.name, x.ver 0, x.ver 1, x.ver 2) = ow) := ⟨_, Lib.hid rfl⟩
         rw [HOW.out] at HNM
         go_wp2_with fail
         refine HNM.out.mono ?_
         rintro e w5 ⟨rfl, hb5⟩
         have HB5 := hide (HBW.out.trans (hb5.mono HBW.out.size))
         have HKX5 := hide (HKX4.out.below hb5 HKX4.out.lt)
         have z0 := HKX5.out.cell 0
         clear HNM x0 x1 x2 x3 x4 x5 hb5 HBW HW4
         have HRE := hide (HB1.out.trans (HB5.out.mono HB1.out.size))
         cases hsb : anyB set zs with
         | false =>
          have HV := Lib.hid (HBAD.out ((bad_root HK4.out).2 (by rw [HZS.out]; exact hsb)))
          go_wp2_with fail
          exact bodyPost_ret (v := .tuple #[.bool false, .int .i64 (n : Int)]) (by simp [results, Tryz.results15, go_sem]) rfl ⟨by rw [HFT.out, HV.out], HRE.out⟩
         | true =>
          have HNN := Lib.hid (HOKL.out (fun h => by have := (bad_root HK4.out).1 h; rw [HZS.out, hsb] at this; cases this))
          go_wp2_with fail
          go_round
          case rel => exact ⟨n + 1, by omega, by go_num, HB5, HNN⟩
          case measure => simp [intOf]; omega
      ·have q4 : (x.k == 4) = false := beq_eq_false_iff_ne.2 hk4
       have HKD := Lib.hid (show x.k = 1 ∨ x.k = 2 ∨ x.k = 3 by omega)
       clear hk4 hkd
       have HAM := hide (HAMG.out x.other)
       have HRZ := Lib.hid (HRN.out x.other)
       have hzl := amF_len x.other x.rg its 0
       clear HAMG HRN
       unfold AmP at HAM
       obtain ⟨zs, HZS⟩ : ∃ zs, Hid (amF x.other x.rg its 0 = zs) := ⟨_, Lib.hid rfl⟩
       rw [HZS.out] at HAM HRZ hzl
       go_wp2_with fail
       generalize World.alloc _ (.cells #[.int .i64 x.k, .string x.name, .int .i64 (x.ver 0), .int .i64 (x.ver 1), .int .i64 (x.ver 2), .string x.other, .slice Aq nq cq] 27) = wA at HKX HBA HAM ⊢
       generalize wr.heap.size = bx at HKX ⊢
       clear HW2 y0 y1 y2 y3 y4 y5 y6
       refine HAM.out.mono ?_
       rintro e w3 ⟨vz, rfl, hoz, hb3⟩
       have HOZ := hide (hoz.mono (Nat.zero_le _))
       have HKX3 := hide (HKX.out.below hb3 HKX.out.lt)
       have HB3 := hide (HBA.out.trans (hb3.mono HBA.out.size))
       obtain ⟨Az, cz, rfl⟩ := HOZ.out.len
       clear hoz hb3 HAM HKX HBA
       go_wp2_with fail
       go_loopw [13, 84] (fun s13 jv wr => ∃ j : Nat, j ≤ zs.length ∧ jv = .int .i64 j ∧ s13 = .bool (anyB set (zs.take j)) ∧ Hid (Below w3.heap.size w3 wr)) (fun _ jv _ => zs.length - (intOf jv).toNat)
       case atStart => exact ⟨0, Nat.zero_le _, rfl, rfl, hide (Below.refl _ _)⟩
       case round =>
        obtain ⟨j, hj, rfl, rfl, HW4⟩ := hrel
        by_cases hjl : j < zs.length
        ·have hjlz : (j : Int) < (zs.length : Int) := by omega
         obtain ⟨gz, capz, cur, e9, _, hkz, _, hcz⟩ := (HOZ.out.below HW4.out).form (by omega)
         injection e9 with e1 e2 e3
         subst e1
         have u0 := (hkz.cell j).trans (hcz j hjl)
         rw [List.getD_eq_getElem?_getD, List.getElem?_eq_getElem hjl, Option.getD_some] at u0
         have hsn := anyB_snoc set zs hjl
         have hr := HRZ.out _ (List.getElem_mem hjl)
         obtain ⟨k, hkk⟩ : ∃ k : Nat, zs[j] = (k : Int) := ⟨zs[j].toNat, by omega⟩
         rw [hkk] at u0 hsn hr
         rw [show ((k : Int)).toNat = k from rfl] at hsn
         have HIK := hide (refIn_any set k b0 wr hs (by omega) ((HK1.out.below (HB3.out.trans (HW4.out.mono HB3.out.size)) HK1.out.lt).cell 0))
         clear hkz hcz hkk e2 e3
         cases hsb : anyB set (zs.take j) with
         | true =>
          rw [hsb, Bool.true_or] at hsn
          have HSN := Lib.hid hsn
          clear hsn HIK
          go_wp2_with fail
          go_round
          case rel => exact ⟨j + 1, by omega, by go_num, by rw [HSN.out], HW4⟩
          case measure => simp [intOf]; omega
         | false =>
          rw [hsb, Bool.false_or] at hsn
          have HSN := Lib.hid hsn
          clear hsn
          go_wp2_with fail
          refine HIK.out.mono ?_
          rintro e w5 ⟨rfl, rfl⟩
          go_wp2_with fail
          go_round
          case rel => exact ⟨j + 1, by omega, by go_num, by rw [HSN.out], HW4⟩
          case measure => simp [intOf]; omega
        ·have hjlz : ¬ (j : Int) < (zs.length : Int) := by omega
         rw [List.take_of_length_le (show zs.length ≤ j by omega)]
         have HBW := hide (HB3.out.trans (HW4.out.mono HB3.out.size))
         have HKX4 := hide (HKX3.out.below HW4.out HKX3.out.lt)
         have HNM := hide (refNum_at (.slice A6 its.length c6) its (itL x) wr (HO.out.below HBW.out) (by omega))
         unfold itA itL PosP at HNM
         simp only [] at HNM
         have x0 := HKX4.out.cell 0
         have x1 := HKX4.out.cell 1
         have x2 := HKX4.out.cell 2
         have x3 := HKX4.out.cell 3
         have x4 := HKX4.out.cell 4
         have x5 := HKX4.out.cell 5
         obtain ⟨ow, HOW⟩ : ∃ ow, Hid (posN its (x.name, x.ver 0, x.ver 1, x.ver 2) = ow) := ⟨_, Lib.hid rfl⟩
         rw [HOW.out] at HNM
         go_wp2_with fail
         refine HNM.out.mono ?_
         rintro e w5 ⟨rfl, hb5⟩
         have HB5 := hide (HBW.out.trans (hb5.mono HBW.out.size))
         have HKX5 := hide (HKX4.out.below hb5 HKX4.out.lt)
         have z0 := HKX5.out.cell 0
         clear HNM x0 x1 x2 x3 x4 x5 hb5 HBW HW4
         have HRE := hide (HB1.out.trans (HB5.out.mono HB1.out.size))
         rcases HKD.out with h1 | h2 | h3
         ·have q2 : (x.k == 2) = false := by rw [h1]; rfl
          have q3 : (x.k == 3) = false := by rw [h1]; rfl
          have HNN := Lib.hid (HOKL.out (bad_one (by omega) (by omega) (by omega)))
          go_wp2_with fail
          go_round
          case rel => exact ⟨n + 1, by omega, by go_num, HB5, HNN⟩
          case measure => simp [intOf]; omega
         ·have q2 : (x.k == 2) = true := by rw [h2]; rfl
          have q3 : (x.k == 3) = false := by rw [h2]; rfl
          have hpos := posN_in (HIN1.out (by omega))
          rw [show itL x = (x.name, x.ver 0, x.ver 1, x.ver 2) from rfl, HOW.out] at hpos
          obtain ⟨k, rfl⟩ : ∃ k : Nat, ow = (k : Int) := ⟨ow.toNat, by omega⟩
          have HIB := Lib.hid (show inB set (posN its (itL x)) = set.testBit k by unfold inB; rw [show itL x = (x.name, x.ver 0, x.ver 1, x.ver 2) from rfl, HOW.out]; rfl)
          have HIK := hide (refIn_any set k b0 w5 hs (by omega) ((HK1.out.below HB5.out HK1.out.lt).cell 0))
          clear hpos
          cases hbo : set.testBit k with
          | false =>
           rw [hbo] at HIK
           have HNN := Lib.hid (HOKL.out (fun h => by have := ((bad_needs h2).1 h).1; rw [HIB.out, hbo] at this; cases this))
           go_wp2_with fail
           refine HIK.out.mono ?_
           rintro e w6 ⟨rfl, rfl⟩
           go_wp2_with fail
           go_round
           case rel => exact ⟨n + 1, by omega, by go_num, HB5, HNN⟩
           case measure => simp [intOf]; omega
          | true =>
           rw [hbo] at HIK
           cases hsb : anyB set zs with
           | false =>
            have HV := Lib.hid (HBAD.out ((bad_needs h2).2 ⟨by rw [HIB.out]; exact hbo, by rw [HZS.out]; exact hsb⟩))
            go_wp2_with fail
            refine HIK.out.mono ?_
            rintro e w6 ⟨rfl, rfl⟩
            go_wp2_with fail
            exact bodyPost_ret (v := .tuple #[.bool false, .int .i64 (n : Int)]) (by simp [results, Tryz.results15, go_sem]) rfl ⟨by rw [HFT.out, HV.out], HRE.out⟩
           | true =>
            have HNN := Lib.hid (HOKL.out (fun h => by have := ((bad_needs h2).1 h).2; rw [HZS.out, hsb] at this; cases this))
            go_wp2_with fail
            refine HIK.out.mono ?_
            rintro e w6 ⟨rfl, rfl⟩
            go_wp2_with fail
            go_round
            case rel => exact ⟨n + 1, by omega, by go_num, HB5, HNN⟩
            case measure => simp [intOf]; omega
         ·have q2 : (x.k == 2) = false := by rw [h3]; rfl
          have q3 : (x.k == 3) = true := by rw [h3]; rfl
          have hpos := posN_in (HIN1.out (by omega))
          rw [show itL x = (x.name, x.ver 0, x.ver 1, x.ver 2) from rfl, HOW.out] at hpos
          obtain ⟨k, rfl⟩ : ∃ k : Nat, ow = (k : Int) := ⟨ow.toNat, by omega⟩
          have HIB := Lib.hid (show inB set (posN its (itL x)) = set.testBit k by unfold inB; rw [show itL x = (x.name, x.ver 0, x.ver 1, x.ver 2) from rfl, HOW.out]; rfl)
          have HIK := hide (refIn_any set k b0 w5 hs (by omega) ((HK1.out.below HB5.out HK1.out.lt).cell 0))
          clear hpos
          cases hbo : set.testBit k with
          | false =>
           rw [hbo] at HIK
           have HNN := Lib.hid (HOKL.out (fun h => by have := ((bad_clash h3).1 h).1; rw [HIB.out, hbo] at this; cases this))
           go_wp2_with fail
           refine HIK.out.mono ?_
           rintro e w6 ⟨rfl, rfl⟩
           go_wp2_with fail
           go_round
           case rel => exact ⟨n + 1, by omega, by go_num, HB5, HNN⟩
           case measure => simp [intOf]; omega
          | true =>
           rw [hbo] at HIK
           cases hsb : anyB set zs with
           | false =>
            have HNN := Lib.hid (HOKL.out (fun h => by have := ((bad_clash h3).1 h).2; rw [HZS.out, hsb] at this; cases this))
            go_wp2_with fail
            refine HIK.out.mono ?_
            rintro e w6 ⟨rfl, rfl⟩
            go_wp2_with fail
            go_round
            case rel => exact ⟨n + 1, by omega, by go_num, HB5, HNN⟩
            case measure => simp [intOf]; omega
           | true =>
            have HV := Lib.hid (HBAD.out ((bad_clash h3).2 ⟨by rw [HIB.out]; exact hbo, by rw [HZS.out]; exact hsb⟩))
            go_wp2_with fail
            refine HIK.out.mono ?_
            rintro e w6 ⟨rfl, rfl⟩
            go_wp2_with fail
            exact bodyPost_ret (v := .tuple #[.bool false, .int .i64 (n : Int)]) (by simp [results, Tryz.results15, go_sem]) rfl ⟨by rw [HFT.out, HV.out], HRE.out⟩
     ·have hnlz : ¬ (n : Int) < (qs.length : Int) := by omega
      have hfin := HP.out
      rw [List.drop_eq_nil_of_le (by simp; omega), fitL] at hfin
      have HV := Lib.hid (HFT.out.trans hfin.symm)
      clear hfin
      go_wp2_with fail
      exact bodyPost_ret (v := .tuple #[.bool true, .int .i64 (-1)]) (by simp [results, Tryz.results15, go_sem]) rfl ⟨by rw [HV.out], HB1.out.trans (HW2.out.mono HB1.out.size)⟩
 ·have hz := (shr_pos set its.length).1 h0
  have HV := Lib.hid (fits_far (ls := qs.map (·.1)) h0)
  clear h0
  go_wp2_with fail
  exact bodyPost_ret (v := .tuple #[.bool false, .int .i64 (-2)]) (by simp [results, Tryz.results15, go_sem]) rfl ⟨by rw [HV.out], HB1.out⟩
end Go.Proofs.YtmncoldaemcnlaaGreatDoor
namespace Go.Proofs.YtmncoldaemcnlaaGreatDoor
open Go.RowKit
open Classical
set_option maxRecDepth 100000
theorem catNum_at (g base : Nat) (qs : List LnQ) (x : ItR) (w : World) (h : CatO w base g qs) (hl : (itemsF (qs.map (·.1))).length ≤ 1000000) : Calls Tryz.prog 32 #[.pointer (some ⟨g, 0, none⟩), .string x.1, .agg #[.int .i64 x.2.1, .int .i64 x.2.2.1, .int .i64 x.2.2.2]] w (PosP (itemsF (qs.map (·.1))) x w) := by
 obtain ⟨vl, vi, h1, h2, h3⟩ := h.is
 exact catNum_any g vl vi _ x w ⟨h1, h3.mono (Nat.zero_le _)⟩ hl
theorem shr_ne (set n : Nat) : (set >>> n ≠ 0 → (!((set : Int) / 2 ^ n == 0)) = true) ∧ (set >>> n = 0 → (!((set : Int) / 2 ^ n == 0)) = false) := by
 refine ⟨fun h => ?_, fun h => ?_⟩
 ·have := (shr_pos set n).1 h
  rw [show ((set : Int) / 2 ^ n == 0) = false from beq_eq_false_iff_ne.2 (by omega)]
  rfl
 ·rw [(shr_pos set n).2 h]
  rfl
set_option maxHeartbeats 16000000 in
theorem planFits_any (g base : Nat) (qs : List LnQ) (its0 : List ItR) (set : Nat) (w : World) (h : CatO w base g qs) (hc : catR (qs.map (·.1)) = .inr its0) (hs : set < 18446744073709551616) :
  Calls Tryz.prog 16 #[.pointer (some ⟨g, 0, none⟩), .int .u64 (set : Int)] w (FitP (fitsF (itemsF (qs.map (·.1))) (qs.map (·.1)) set) w) := by
 have hq100 : qs.length ≤ 100 := by have := (catR_ok hc).2.2.2.1; simpa using this
 have HCK := Lib.hid (catR_ok hc).2.2.2.2
 have HIN := Lib.hid (catR_in hc)
 obtain ⟨h24, _⟩ := catR_few hc
 have hal := (Below.refl w.heap.size w).alloc (Nat.le_refl _) (.cells #[.int .u64 (set : Int)] 47)
 have HCI := hide (fun W (h : CatO W base g qs) => catItems_any g base qs W h (by omega))
 have HCL := hide (fun W (h : CatO W base g qs) => catLines_any g base qs W h (by omega))
 have HCA := hide (fun W nm rv rg (h : CatO W base g qs) (hr : OwnP W 0 rv rg) (hrl : rg.length ≤ 1000000000) => catAm_any g base qs nm rv rg W h hr hrl (by omega))
 have HCN := hide (fun W x (h : CatO W base g qs) => catNum_at g base qs x W h (by omega))
 unfold CloneK at HCI
 unfold CatLinesP at HCL
 unfold AmP at HCA
 unfold PosP at HCN
 have HC0 := hide h
 have HKS := hide (Blk.new w 47 #[.int .u64 (set : Int)])
 have HB := hide hal
 generalize hits : itemsF (qs.map (·.1)) = its at HCI HCA HCN HIN h24 ⊢
 clear h hal hc hits
 go_enter Tryz.func16, Tryz.ntmps16
 go_wp2_with fail
 generalize w.alloc (.cells #[.int .u64 (set : Int)] 47) = w0 at HKS HB ⊢
 refine (HCI.out w0 (HC0.out.below HB.out)).mono ?_
 generalize hb0 : w.heap.size = b0 at HKS ⊢
 rintro e w1 ⟨v6, rfl, ho, hb1⟩
 have HO := hide (ho.mono (Nat.zero_le _))
 have HK1 := hide (HKS.out.below hb1 HKS.out.lt)
 have HB1 := hide (HB.out.trans (hb1.mono HB.out.size))
 have HC1 := hide (HC0.out.below HB1.out)
 have k0 := HK1.out.cell 0
 obtain ⟨A6, c6, rfl, _⟩ := HO.out.len
 clear ho hb1 HCI HKS HB HC0 hb0
 have hmin : min its.length 64 = its.length := Nat.min_eq_left (by omega)
 by_cases h0 : set >>> its.length = 0
 ·have hz := (shr_ne set its.length).2 h0
  have hz2 := (shr_pos set its.length).2 h0
  have HNF := Lib.hid (fun (h : ¬ Twin its set) => fits_lines (ls := qs.map (·.1)) h0 h)
  have HTW := Lib.hid (fun i k (h : TwA its set i k) => fits_twin (ls := qs.map (·.1)) h)
  clear h0
  go_wp2_with fail
  go_loopw [23] (fun iv wr => ∃ i : Nat, i ≤ its.length ∧ iv = .int .i64 i ∧ Hid (Below w1.heap.size w1 wr) ∧ Hid (∀ i' k', i' < i → k' < i' → ¬ TwA its set i' k')) (fun iv _ => its.length - (intOf iv).toNat)
  case atStart => exact ⟨0, Nat.zero_le _, rfl, hide (Below.refl _ _), Lib.hid fun i' k' h => absurd h (Nat.not_lt_zero _)⟩
  case round =>
   obtain ⟨i, hi, rfl, HW, HN⟩ := hrel
   clear hz hz2 k0
   by_cases hlt : i < its.length
   ·have hltz : (i : Int) < (its.length : Int) := by omega
    obtain ⟨g6, hA, hrow⟩ := (HO.out.below HW.out).rowAt hlt
    subst hA
    obtain ⟨y0, y1, y2, y3⟩ := row4 rfl rfl hrow hlt
    have hnm := nmA_at hlt
    obtain ⟨an, aa, ab, ac, hia⟩ : ∃ an aa ab ac, its[i] = (an, aa, ab, ac) := ⟨_, _, _, _, rfl⟩
    rw [hia] at y0 y1 y2 y3 hnm
    simp only [] at y0 y1 y2 y3 hnm
    have hal := (Below.refl wr.heap.size wr).alloc (Nat.le_refl _) (.cells #[.string an, .int .i64 aa, .int .i64 ab, .int .i64 ac] 86)
    have HKA := hide (Blk.new wr 86 #[.string an, .int .i64 aa, .int .i64 ab, .int .i64 ac])
    have HWA := hide (HW.out.trans (hal.mono HW.out.size))
    have HNM := Lib.hid hnm
    clear hal hrow hia hnm
    go_wp2_with fail
    generalize World.alloc _ (.cells #[.string an, .int .i64 aa, .int .i64 ab, .int .i64 ac] 86) = wa at HKA HWA ⊢
    generalize wr.heap.size = ba at HKA ⊢
    clear y0 y1 y2 y3 HW
    go_loopw [29] (fun kv wr => ∃ k : Nat, k ≤ i ∧ kv = .int .i64 k ∧ Hid (Below wa.heap.size wa wr) ∧ Hid (∀ k', k' < k → ¬ TwA its set i k')) (fun kv _ => i - (intOf kv).toNat)
    case atStart => exact ⟨0, Nat.zero_le _, rfl, hide (Below.refl _ _), Lib.hid fun k' h => absurd h (Nat.not_lt_zero _)⟩
    case round =>
     obtain ⟨k, hk, rfl, HW2, HN2⟩ := hrel
     by_cases hkl : k < i
     ·have hklz : (k : Int) < (i : Int) := by omega
      have hkn : k < its.length := by omega
      have hknz : (k : Int) < (its.length : Int) := by omega
      have HWX := hide (HWA.out.trans (HW2.out.mono HWA.out.size))
      have HNX := Lib.hid (fun (h : ¬ TwA its set i k) => show ∀ k', k' < k + 1 → ¬ TwA its set i k' from fun k' h2 => by
       rcases Nat.lt_or_ge k' k with h3 | h3
       ·exact HN2.out k' h3
       ·obtain rfl : k' = k := by omega
        exact h)
      have HI1 := hide (fun n => planHas_any set i (wr.drewN n) hs (by omega))
      have HI2 := hide (fun n => planHas_any set k (wr.drewN n) hs (by omega))
      unfold HasP at HI1 HI2
      have ks := (HK1.out.below HWX.out HK1.out.lt).cell 0
      have ka := (HKA.out.below HW2.out HKA.out.lt).cell 0
      cases hbi : set.testBit i with
      | false =>
       rw [hbi] at HI1
       have HNN := Lib.hid (HNX.out (fun h => by have := h.2.2.2.1; rw [hbi] at this; cases this))
       clear HNX HI2
       go_wp2_with fail
       go_quiet ((go_at_call 54; refine (HI1.out _).mono ?_; rintro e w9 ⟨rfl, rfl⟩; exact ⟨rfl, _, rfl⟩))
       go_wp2_with fail
       go_round
       case rel => exact ⟨k + 1, by omega, by go_num, hide (below_drewN HW2.out _), HNN⟩
       case measure => simp [intOf]; omega
      | true =>
       rw [hbi] at HI1
       cases hbk : set.testBit k with
       | false =>
        rw [hbk] at HI2
        have HNN := Lib.hid (HNX.out (fun h => by have := h.2.2.2.2.1; rw [hbk] at this; cases this))
        clear HNX
        go_wp2_with fail
        go_quiet ((first | (go_at_call 54; refine (HI1.out _).mono ?_; rintro e w9 ⟨rfl, rfl⟩; exact ⟨rfl, _, rfl⟩) | (go_at_call 54; refine (HI2.out _).mono ?_; rintro e w9 ⟨rfl, rfl⟩; exact ⟨rfl, _, rfl⟩)))
        go_wp2_with fail
        go_round
        case rel => exact ⟨k + 1, by omega, by go_num, hide (below_drewN HW2.out _), HNN⟩
        case measure => simp [intOf]; omega
       | true =>
        rw [hbk] at HI2
        obtain ⟨g7, hA, hrow⟩ := (HO.out.below HWX.out).rowAt hkn
        injection hA with hA
        injection hA with hA
        subst hA
        have yk := (row4 rfl rfl hrow hkn).1
        have ek := nmA_at hkn
        rw [← ek] at yk
        clear hrow ek
        by_cases hn : nmA its k = nmA its i
        ·have HV := Lib.hid (HTW.out i k ⟨by omega, hlt, hkn, hbi, hbk, hn.symm⟩)
         rw [hn, HNM.out] at yk
         have hne : (an.toList == an.toList) = true := beq_self_eq_true _
         clear HNX hn
         go_wp2_with fail
         go_quiet ((first | (go_at_call 54; refine (HI1.out _).mono ?_; rintro e w9 ⟨rfl, rfl⟩; exact ⟨rfl, _, rfl⟩) | (go_at_call 54; refine (HI2.out _).mono ?_; rintro e w9 ⟨rfl, rfl⟩; exact ⟨rfl, _, rfl⟩)))
         go_wp2_with fail
         exact bodyPost_ret (v := .tuple #[.bool false, .int .i64 (-2)]) (by simp [results, Tryz.results16, go_sem]) rfl ⟨by rw [HV.out], HB1.out.trans ((below_drewN HWX.out _).mono HB1.out.size)⟩
        ·have HNN := Lib.hid (HNX.out (fun h => hn h.2.2.2.2.2.symm))
         rw [HNM.out] at hn
         generalize nmA its k = nk at yk hn
         have hne : (nk.toList == an.toList) = false := beq_eq_false_iff_ne.2 fun e => hn (by
          rw [ByteArray.toList_eq, ByteArray.toList_eq] at e
          exact ByteArray.ext (Array.ext' e))
         clear HNX hn
         go_wp2_with fail
         go_quiet ((first | (go_at_call 54; refine (HI1.out _).mono ?_; rintro e w9 ⟨rfl, rfl⟩; exact ⟨rfl, _, rfl⟩) | (go_at_call 54; refine (HI2.out _).mono ?_; rintro e w9 ⟨rfl, rfl⟩; exact ⟨rfl, _, rfl⟩)))
         go_wp2_with fail
         go_round
         case rel => exact ⟨k + 1, by omega, by go_num, hide (below_drewN HW2.out _), HNN⟩
         case measure => simp [intOf]; omega
     ·have hklz : ¬ (k : Int) < (i : Int) := by omega
      have HNN := Lib.hid (show ∀ i' k', i' < i + 1 → k' < i' → ¬ TwA its set i' k' from fun i' k' h2 h4 ht => by
       rcases Nat.lt_or_ge i' i with h3 | h3
       ·exact HN.out i' k' h3 h4 ht
       ·obtain rfl : i' = i := by omega
        exact HN2.out k' (by omega) ht)
      have HWX := hide (HWA.out.trans (HW2.out.mono HWA.out.size))
      clear HN HN2
      go_wp2_with fail
      go_round
      case rel => exact ⟨i + 1, by omega, by go_num, HWX, HNN⟩
      case measure => simp [intOf]; omega
   ·have hltz : ¬ (i : Int) < (its.length : Int) := by omega
    have HFT := Lib.hid (HNF.out (no_twin fun i9 k9 h8 h9 => HN.out i9 k9 (by omega) h8))
    have HC2 := hide (HC1.out.below HW.out)
    clear HN HNF HTW
    go_wp2_with fail
    refine (HCL.out _ HC2.out).mono ?_
    rintro e w2 ⟨vl, rfl, hln, hb2⟩
    have HL2 := hide hln
    have HB2 := hide (HW.out.trans (hb2.mono HW.out.size))
    clear hln hb2 HW HC2 HCL
    obtain ⟨Al, cl, rfl, _⟩ := HL2.out.1.len
    go_wp2_with fail
    go_loopw [55] (fun nv wr => ∃ n : Nat, n ≤ qs.length ∧ nv = .int .i64 n ∧ Hid (Below w2.heap.size w2 wr) ∧ Hid (fitL its set ((qs.map (·.1)).drop n) n = fitL its set (qs.map (·.1)) 0)) (fun nv _ => qs.length - (intOf nv).toNat)
    case atStart => exact ⟨0, Nat.zero_le _, rfl, hide (Below.refl _ _), Lib.hid rfl⟩
    case round =>
     obtain ⟨n, hn, rfl, HW3, HP⟩ := hrel
     clear hltz hi
     by_cases hnl : n < qs.length
     ·have hnlz : (n : Int) < (qs.length : Int) := by omega
      obtain ⟨gq, hA, hrow⟩ := (HL2.out.1.below HW3.out).rowAt hnl
      subst hA
      obtain ⟨y0, y1, y2, y3, y4, y5, y6⟩ := row7 rfl rfl hrow hnl
      have hst := fitL_step (its := its) (set := set) (ls := qs.map (·.1)) (i := n) (by simpa using hnl) HP.out
      rw [List.getElem_map] at hst
      have hmem : qs[n].1 ∈ qs.map (·.1) := List.mem_map.2 ⟨_, List.getElem_mem hnl, rfl⟩
      have hkd := chkL_kind (HCK.out _ hmem)
      have hin := HIN.out _ hmem
      obtain ⟨hrv, hok⟩ := HL2.out.2 _ (List.getElem_mem hnl)
      have hrv2 := hrv.below HW3.out
      have hrl := hok.len
      clear hrow hmem hrv hok
      generalize qs[n] = q at y0 y1 y2 y3 y4 y5 y6 hst hkd hin hrv2 hrl
      obtain ⟨x, Aq, nq, cq⟩ := q
      simp only [slQ] at y0 y1 y2 y3 y4 y5 y6 hst hkd hin hrv2 hrl
      have hal := (Below.refl wr.heap.size wr).alloc (Nat.le_refl _) (.cells #[.int .i64 x.k, .string x.name, .int .i64 (x.ver 0), .int .i64 (x.ver 1), .int .i64 (x.ver 2), .string x.other, .slice Aq nq cq] 38)
      have HKX := hide (Blk.new wr 38 #[.int .i64 x.k, .string x.name, .int .i64 (x.ver 0), .int .i64 (x.ver 1), .int .i64 (x.ver 2), .string x.other, .slice Aq nq cq])
      have HB3 := hide (HB2.out.trans ((HW3.out.trans (hal.mono HW3.out.size)).mono HB2.out.size))
      have HW3X := hide (HW3.out.trans (hal.mono HW3.out.size))
      have HRV := hide (hrv2.below hal)
      have HRL := Lib.hid hrl
      have HBAD := Lib.hid hst.1
      have HOKL := Lib.hid hst.2
      have HIN1 := Lib.hid hin
      have HKD := Lib.hid hkd
      clear hal hrv2 hrl hst hin HP hkd
      have HAM := hide (HCA.out (wr.alloc (.cells #[.int .i64 x.k, .string x.name, .int .i64 (x.ver 0), .int .i64 (x.ver 1), .int .i64 (x.ver 2), .string x.other, .slice Aq nq cq] 38)) x.other (.slice Aq nq cq) x.rg (HC1.out.below HB3.out) HRV.out HRL.out)
      have hrz := amF_range x.other x.rg its 0
      have hzl := amF_len x.other x.rg its 0
      obtain ⟨zs, HZS⟩ : ∃ zs, Hid (amF x.other x.rg its 0 = zs) := ⟨_, Lib.hid rfl⟩
      rw [HZS.out] at HAM hrz hzl
      have HRZ := Lib.hid (show ∀ z ∈ zs, 0 ≤ z ∧ z ≤ 64 from fun z hz => by have := hrz z hz; omega)
      clear hrz
      go_wp2_with fail
      generalize World.alloc _ (.cells #[.int .i64 x.k, .string x.name, .int .i64 (x.ver 0), .int .i64 (x.ver 1), .int .i64 (x.ver 2), .string x.other, .slice Aq nq cq] 38) = wA at HKX HB3 HW3X HRV HAM ⊢
      generalize wr.heap.size = bx at HKX ⊢
      clear y0 y1 y2 y3 y4 y5 y6 HW3
      refine HAM.out.mono ?_
      rintro e w4 ⟨vz, rfl, hoz, hb4⟩
      have HKX4 := hide (HKX.out.below hb4 HKX.out.lt)
      have HB4 := hide (HB3.out.trans (hb4.mono HB3.out.size))
      have HW4X := hide (HW3X.out.trans (hb4.mono HW3X.out.size))
      have HRV4 := hide (HRV.out.below hb4)
      have HHB := hide (hasB1_any vz zs set b0 w4 (hoz.mono (Nat.zero_le _)) HRZ.out (by omega) hs ((HK1.out.below HB4.out HK1.out.lt).cell 0))
      clear hoz hb4 HAM HKX HB3 HW3X HRV
      unfold HasP at HHB
      rw [show (zs.any fun z => set.testBit z.toNat) = anyB set zs from rfl] at HHB
      go_wp2_with fail
      refine HHB.out.mono ?_
      rintro e w5 ⟨rfl, rfl⟩
      have x0 := HKX4.out.cell 0
      have x1 := HKX4.out.cell 1
      have x2 := HKX4.out.cell 2
      have x3 := HKX4.out.cell 3
      have x4 := HKX4.out.cell 4
      have x5 := HKX4.out.cell 5
      have HNM2 := hide (HCN.out w5 (x.name, x.ver 0, x.ver 1, x.ver 2) (HC1.out.below HB4.out))
      obtain ⟨ow, HOW⟩ : ∃ ow, Hid (posN its (x.name, x.ver 0, x.ver 1, x.ver 2) = ow) := ⟨_, Lib.hid rfl⟩
      rw [HOW.out] at HNM2
      simp only [] at HNM2
      clear HHB
      go_wp2_with fail
      refine HNM2.out.mono ?_
      rintro e w6 ⟨rfl, hb6⟩
      have HB6 := hide (HB4.out.trans (hb6.mono HB4.out.size))
      have HW6X := hide (HW4X.out.trans (hb6.mono HW4X.out.size))
      have HKX6 := hide (HKX4.out.below hb6 HKX4.out.lt)
      have HRV6 := hide (HRV4.out.below hb6)
      have k6 := (HK1.out.below HB6.out HK1.out.lt).cell 0
      clear HNM2 x0 x1 x2 x3 x4 x5 hb6 HB4 HW4X HRV4 HKX4
      have x0 := HKX6.out.cell 0
      have x1 := HKX6.out.cell 1
      have x6 := HKX6.out.cell 6
      have HRE := hide (HB1.out.trans (HB6.out.mono HB1.out.size))
      rcases HKD.out with h1 | h2 | h3 | h4
      ·have q2 : (x.k == 2) = false := by rw [h1]; rfl
       have q3 : (x.k == 3) = false := by rw [h1]; rfl
       have q4 : (x.k == 4) = false := by rw [h1]; rfl
       have HNN := Lib.hid (HOKL.out (bad_one (by omega) (by omega) (by omega)))
       go_wp2_with fail
       go_round
       case rel => exact ⟨n + 1, by omega, by go_num, HW6X, HNN⟩
       case measure => simp [intOf]; omega
      ·have q2 : (x.k == 2) = true := by rw [h2]; rfl
       have q3 : (x.k == 3) = false := by rw [h2]; rfl
       have q4 : (x.k == 4) = false := by rw [h2]; rfl
       have hpos := posN_in (HIN1.out (by omega))
       rw [show itL x = (x.name, x.ver 0, x.ver 1, x.ver 2) from rfl, HOW.out] at hpos
       obtain ⟨k, rfl⟩ : ∃ k : Nat, ow = (k : Int) := ⟨ow.toNat, by omega⟩
       have HIB := Lib.hid (show inB set (posN its (itL x)) = set.testBit k by unfold inB; rw [show itL x = (x.name, x.ver 0, x.ver 1, x.ver 2) from rfl, HOW.out]; rfl)
       have HIK := hide (planHas_any set k w6 hs (by omega))
       clear hpos x1 x6
       cases hbo : set.testBit k with
       | false =>
        rw [hbo] at HIK
        have HNN := Lib.hid (HOKL.out (fun h => by have := ((bad_needs h2).1 h).1; rw [HIB.out, hbo] at this; cases this))
        go_wp2_with fail
        refine HIK.out.mono ?_
        rintro e w7 ⟨rfl, rfl⟩
        go_wp2_with fail
        go_round
        case rel => exact ⟨n + 1, by omega, by go_num, HW6X, HNN⟩
        case measure => simp [intOf]; omega
       | true =>
        rw [hbo] at HIK
        cases hsb : anyB set zs with
        | false =>
         have HV := Lib.hid (HBAD.out ((bad_needs h2).2 ⟨by rw [HIB.out]; exact hbo, by rw [HZS.out]; exact hsb⟩))
         go_wp2_with fail
         refine HIK.out.mono ?_
         rintro e w7 ⟨rfl, rfl⟩
         go_wp2_with fail
         exact bodyPost_ret (v := .tuple #[.bool false, .int .i64 (n : Int)]) (by simp [results, Tryz.results16, go_sem]) rfl ⟨by rw [HFT.out, HV.out], HRE.out⟩
        | true =>
         have HNN := Lib.hid (HOKL.out (fun h => by have := ((bad_needs h2).1 h).2; rw [HZS.out, hsb] at this; cases this))
         go_wp2_with fail
         refine HIK.out.mono ?_
         rintro e w7 ⟨rfl, rfl⟩
         go_wp2_with fail
         go_round
         case rel => exact ⟨n + 1, by omega, by go_num, HW6X, HNN⟩
         case measure => simp [intOf]; omega
      ·have q2 : (x.k == 2) = false := by rw [h3]; rfl
       have q3 : (x.k == 3) = true := by rw [h3]; rfl
       have q4 : (x.k == 4) = false := by rw [h3]; rfl
       have hpos := posN_in (HIN1.out (by omega))
       rw [show itL x = (x.name, x.ver 0, x.ver 1, x.ver 2) from rfl, HOW.out] at hpos
       obtain ⟨k, rfl⟩ : ∃ k : Nat, ow = (k : Int) := ⟨ow.toNat, by omega⟩
       have HIB := Lib.hid (show inB set (posN its (itL x)) = set.testBit k by unfold inB; rw [show itL x = (x.name, x.ver 0, x.ver 1, x.ver 2) from rfl, HOW.out]; rfl)
       have HIK := hide (planHas_any set k w6 hs (by omega))
       clear hpos x1 x6
       cases hbo : set.testBit k with
       | false =>
        rw [hbo] at HIK
        have HNN := Lib.hid (HOKL.out (fun h => by have := ((bad_clash h3).1 h).1; rw [HIB.out, hbo] at this; cases this))
        go_wp2_with fail
        refine HIK.out.mono ?_
        rintro e w7 ⟨rfl, rfl⟩
        go_wp2_with fail
        go_round
        case rel => exact ⟨n + 1, by omega, by go_num, HW6X, HNN⟩
        case measure => simp [intOf]; omega
       | true =>
        rw [hbo] at HIK
        cases hsb : anyB set zs with
        | false =>
         have HNN := Lib.hid (HOKL.out (fun h => by have := ((bad_clash h3).1 h).2; rw [HZS.out, hsb] at this; cases this))
         go_wp2_with fail
         refine HIK.out.mono ?_
         rintro e w7 ⟨rfl, rfl⟩
         go_wp2_with fail
         go_round
         case rel => exact ⟨n + 1, by omega, by go_num, HW6X, HNN⟩
         case measure => simp [intOf]; omega
        | true =>
         have HV := Lib.hid (HBAD.out ((bad_clash h3).2 ⟨by rw [HIB.out]; exact hbo, by rw [HZS.out]; exact hsb⟩))
         go_wp2_with fail
         refine HIK.out.mono ?_
         rintro e w7 ⟨rfl, rfl⟩
         go_wp2_with fail
         exact bodyPost_ret (v := .tuple #[.bool false, .int .i64 (n : Int)]) (by simp [results, Tryz.results16, go_sem]) rfl ⟨by rw [HFT.out, HV.out], HRE.out⟩
      ·have q2 : (x.k == 2) = false := by rw [h4]; rfl
       have q3 : (x.k == 3) = false := by rw [h4]; rfl
       have q4 : (x.k == 4) = true := by rw [h4]; rfl
       have HAM := hide (HCA.out w6 x.name (.slice Aq nq cq) x.rg (HC1.out.below HB6.out) HRV6.out HRL.out)
       have hrz := amF_range x.name x.rg its 0
       have hzl2 := amF_len x.name x.rg its 0
       obtain ⟨ys, HYS⟩ : ∃ ys, Hid (amF x.name x.rg its 0 = ys) := ⟨_, Lib.hid rfl⟩
       rw [HYS.out] at HAM hrz hzl2
       have HRY := Lib.hid (show ∀ z ∈ ys, 0 ≤ z ∧ z ≤ 64 from fun z hz => by have := hrz z hz; omega)
       clear hrz k6
       go_wp2_with fail
       refine HAM.out.mono ?_
       rintro e w7 ⟨vz2, rfl, hoz, hb7⟩
       have HB7 := hide (HB6.out.trans (hb7.mono HB6.out.size))
       have HW7X := hide (HW6X.out.trans (hb7.mono HW6X.out.size))
       have HRE7 := hide (HB1.out.trans (HB7.out.mono HB1.out.size))
       have HHB := hide (hasB2_any vz2 ys set b0 w7 (hoz.mono (Nat.zero_le _)) HRY.out (by omega) hs ((HK1.out.below HB7.out HK1.out.lt).cell 0))
       clear hoz hb7 HAM x0 x1 x6
       unfold HasP at HHB
       rw [show (ys.any fun z => set.testBit z.toNat) = anyB set ys from rfl] at HHB
       cases hsb : anyB set ys with
       | false =>
        rw [hsb] at HHB
        have HV := Lib.hid (HBAD.out ((bad_root h4).2 (by rw [HYS.out]; exact hsb)))
        go_wp2_with fail
        refine HHB.out.mono ?_
        rintro e w8 ⟨rfl, rfl⟩
        go_wp2_with fail
        exact bodyPost_ret (v := .tuple #[.bool false, .int .i64 (n : Int)]) (by simp [results, Tryz.results16, go_sem]) rfl ⟨by rw [HFT.out, HV.out], HRE7.out⟩
       | true =>
        rw [hsb] at HHB
        have HNN := Lib.hid (HOKL.out (fun h => by have := (bad_root h4).1 h; rw [HYS.out, hsb] at this; cases this))
        go_wp2_with fail
        refine HHB.out.mono ?_
        rintro e w8 ⟨rfl, rfl⟩
        go_wp2_with fail
        go_round
        case rel => exact ⟨n + 1, by omega, by go_num, HW7X, HNN⟩
        case measure => simp [intOf]; omega
     ·have hnlz : ¬ (n : Int) < (qs.length : Int) := by omega
      have hfin := HP.out
      rw [List.drop_eq_nil_of_le (by simp; omega), fitL] at hfin
      have HV := Lib.hid (HFT.out.trans hfin.symm)
      have HRE := hide (HB1.out.trans ((HB2.out.trans (HW3.out.mono HB2.out.size)).mono HB1.out.size))
      clear hfin
      go_wp2_with fail
      exact bodyPost_ret (v := .tuple #[.bool true, .int .i64 (-1)]) (by simp [results, Tryz.results16, go_sem]) rfl ⟨by rw [HV.out], HRE.out⟩
 ·have hz := (shr_ne set its.length).1 h0
  have HV := Lib.hid (fits_far (ls := qs.map (·.1)) h0)
  have hz3 := (shr_pos set its.length).1 h0
  have hz2 : ((set : Int) / 2 ^ its.length == 0) = false := beq_eq_false_iff_ne.2 (by omega)
  clear h0 hz3
  go_wp2_with fail
  exact bodyPost_ret (v := .tuple #[.bool false, .int .i64 (-2)]) (by simp [results, Tryz.results16, go_sem]) rfl ⟨by rw [HV.out], HB1.out⟩
end Go.Proofs.YtmncoldaemcnlaaGreatDoor
