/-
  A part of the proof: RefOrd. Conditions: none.
-/
import Derived.Test.YtmncoldaemcnlaaGreatDoorOrOrdPure
import Derived.Test.YtmncoldaemcnlaaGreatDoorOrPlanOrd
namespace Go.Proofs.YtmncoldaemcnlaaGreatDoor
open Go.RowKit
open Classical
set_option maxRecDepth 100000
theorem refIs_any (v : Value) (zs : List Int) (x : Int) (w : World) (h : OwnI w 0 v zs) (hl : zs.length ≤ 1000000) : Calls Tryz.prog 79 #[v, .int .i64 x] w (HasP (decide (x ∈ zs)) w) := by
 obtain ⟨A, c, rfl⟩ := h.len
 have HO := hide h
 clear h
 go_enter Tryz.func79, Tryz.ntmps79
 go_wp2_with fail
 go_loopw [9] (fun iv wr => ∃ i : Nat, i ≤ zs.length ∧ iv = .int .i64 i ∧ wr = w ∧ Hid (x ∉ zs.take i)) (fun iv _ => zs.length - (intOf iv).toNat)
 case atStart => exact ⟨0, Nat.zero_le _, rfl, rfl, Lib.hid (by simp)⟩
 case round =>
  obtain ⟨i, hi, rfl, hw, HN⟩ := hrel
  subst hw
  by_cases hlt : i < zs.length
  ·have hltz : (i : Int) < (zs.length : Int) := by omega
   obtain ⟨g, cap, cur, e9, _, hk9, _, hc9⟩ := HO.out.form (by omega)
   injection e9 with e1 e2 e3
   subst e1
   have y0 := (hk9.cell i).trans (hc9 i hlt)
   rw [List.getD_eq_getElem?_getD, List.getElem?_eq_getElem hlt, Option.getD_some] at y0
   have HM := Lib.hid (List.getElem_mem hlt)
   have HTK := Lib.hid (List.take_succ_eq_append_getElem hlt)
   generalize zs[i] = y at y0 HM HTK
   clear hk9 hc9 e2 e3
   by_cases e : x = y
   ·have he : (x == y) = true := beq_iff_eq.2 e
    have HR := Lib.hid (show decide (x ∈ zs) = true by rw [decide_eq_true_eq, e]; exact HM.out)
    clear e
    go_wp2_with fail
    exact bodyPost_ret (v := .bool true) (by simp [results, Tryz.results79, go_sem]) rfl ⟨by rw [HR.out], rfl⟩
   ·have he : (x == y) = false := beq_eq_false_iff_ne.2 e
    have HNN := Lib.hid (show x ∉ zs.take (i + 1) by rw [HTK.out]; simp; exact ⟨HN.out, e⟩)
    clear e
    go_wp2_with fail
    go_round
    case rel => exact ⟨i + 1, by omega, by go_num, by trivial, HNN⟩
    case measure => simp [intOf]; omega
  ·have hltz : ¬ (i : Int) < (zs.length : Int) := by omega
   have hn := HN.out
   rw [List.take_of_length_le (by omega)] at hn
   have HR := Lib.hid (show decide (x ∈ zs) = false from decide_eq_false hn)
   clear hn
   go_wp2_with fail
   exact bodyPost_ret (v := .bool false) (by simp [results, Tryz.results79, go_sem]) rfl ⟨by rw [HR.out], rfl⟩
theorem ordIn_any (set i b : Nat) (w : World) (hs : set < 18446744073709551616) (hi : i ≤ 64) (hk : w.cell? ⟨b, 0, none⟩ = some (.int .u64 (set : Int))) : Calls Tryz.prog 77 #[.int .i64 (i : Int), .pointer (some ⟨b, 0, none⟩)] w (HasP (set.testBit i) w) := by
 have hm : min i 64 = i := Nat.min_eq_left hi
 have hb := shr_bitP set i hs
 go_enter Tryz.func77, Tryz.ntmps77
 go_wp2_with fail
 exact bodyPost_ret (v := .bool (set.testBit i)) (by simp [results, Tryz.results77, go_sem]) rfl ⟨rfl, rfl⟩
def NdP (b : Bool) (w : World) (e : Ending) (w' : World) : Prop := e = .returned (.bool b) ∧ Below w.heap.size w w'
set_option maxHeartbeats 8000000 in
theorem needs_any (v vi : Value) (bl bi i k : Nat) (qs : List LnQ) (its : List ItR) (w : World) (h : LnsR w 0 v qs) (hi : OwnK elI w 0 vi its) (kl : Blk w bl 49 #[v]) (ki : Blk w bi 65 #[vi])
  (hin : ∀ x ∈ qs.map (·.1), x.k = 2 ∨ x.k = 3 → itL x ∈ its) (h24 : its.length ≤ 24) (hq : qs.length ≤ 100) :
  Calls Tryz.prog 78 #[.int .i64 (i : Int), .int .i64 (k : Int), .pointer (some ⟨bl, 0, none⟩), .pointer (some ⟨bi, 0, none⟩)] w (NdP (decide (NeedP its (qs.map (·.1)) i k)) w) := by
 obtain ⟨A, c, rfl, _⟩ := h.1.len
 obtain ⟨A6, c6, rfl, _⟩ := hi.len
 have HL := hide h
 have HO := hide hi
 have HKL := hide kl
 have HKI := hide ki
 have k0 := kl.cell 0
 obtain ⟨ls, HLS⟩ : ∃ ls, Hid (qs.map (·.1) = ls) := ⟨_, Lib.hid rfl⟩
 rw [HLS.out] at hin ⊢
 have HIN := Lib.hid hin
 clear h hi kl ki hin
 go_enter Tryz.func78, Tryz.ntmps78
 go_wp2_with fail
 go_loopw [11] (fun nv wr => ∃ n : Nat, n ≤ qs.length ∧ nv = .int .i64 n ∧ Hid (Below w.heap.size w wr) ∧ Hid (∀ x ∈ ls.take n, ¬ NeedL its i k x)) (fun nv _ => qs.length - (intOf nv).toNat)
 case atStart => exact ⟨0, Nat.zero_le _, rfl, hide (Below.refl _ _), Lib.hid fun x hx => by simp at hx⟩
 case round =>
  obtain ⟨n, hn, rfl, HW, HNO⟩ := hrel
  clear k0
  by_cases hnl : n < qs.length
  ·have hnlz : (n : Int) < (qs.length : Int) := by omega
   obtain ⟨gq, hA, hrow⟩ := (HL.out.1.below HW.out).rowAt hnl
   subst hA
   obtain ⟨y0, y1, y2, y3, y4, y5, y6⟩ := row7 rfl rfl hrow hnl
   have hll : n < ls.length := by rw [← HLS.out]; simpa using hnl
   have hlsi : ls[n] = qs[n].1 := by
    obtain rfl := HLS.out
    exact List.getElem_map ..
   have hmem := List.getElem_mem hll
   have htk := List.take_succ_eq_append_getElem hll
   have hin := HIN.out _ hmem
   rw [hlsi] at hmem htk hin
   obtain ⟨hrv, hok⟩ := HL.out.2 _ (List.getElem_mem hnl)
   have hrv2 := hrv.below HW.out
   have hcan := hok.can
   clear hrow hrv hok hlsi
   generalize qs[n] = q at y0 y1 y2 y3 y4 y5 y6 hmem htk hin hrv2 hcan
   obtain ⟨x, Aq, nq, cq⟩ := q
   simp only [slQ] at y0 y1 y2 y3 y4 y5 y6 hmem htk hin hrv2 hcan
   have hal := (Below.refl wr.heap.size wr).alloc (Nat.le_refl _) (.cells #[.int .i64 x.k, .string x.name, .int .i64 (x.ver 0), .int .i64 (x.ver 1), .int .i64 (x.ver 2), .string x.other, .slice Aq nq cq] 27)
   have HKX := hide (Blk.new wr 27 #[.int .i64 x.k, .string x.name, .int .i64 (x.ver 0), .int .i64 (x.ver 1), .int .i64 (x.ver 2), .string x.other, .slice Aq nq cq])
   have HBA := hide (HW.out.trans (hal.mono HW.out.size))
   have HAM := hide (fun (W : World) (hb : Below wr.heap.size wr W) => refAm_any (.slice A6 its.length c6) its x.other (.slice Aq nq cq) x.rg W (HO.out.below (HW.out.trans (hb.mono HW.out.size))) (hrv2.below hb) hcan (by omega))
   have HRV := hide (hrv2.below hal)
   have HNM := hide (refNum_at (.slice A6 its.length c6) its (itL x) (wr.alloc (.cells #[.int .i64 x.k, .string x.name, .int .i64 (x.ver 0), .int .i64 (x.ver 1), .int .i64 (x.ver 2), .string x.other, .slice Aq nq cq] 27)) (HO.out.below HBA.out) (by omega))
   unfold itA itL PosP at HNM
   simp only [] at HNM
   have HIN1 := Lib.hid hin
   have HMEM := Lib.hid hmem
   have HNX := Lib.hid (show (¬ NeedL its i k x) → ∀ x9 ∈ ls.take (n + 1), ¬ NeedL its i k x9 from fun h9 x9 hx9 => by
    rw [htk] at hx9
    rcases List.mem_append.1 hx9 with h8 | h8
    ·exact HNO.out x9 h8
    ·rw [List.mem_singleton.1 h8]; exact h9)
   have HHIT := Lib.hid (show NeedL its i k x → decide (NeedP its ls i k) = true from fun h9 => decide_eq_true ⟨x, HMEM.out, h9⟩)
   obtain ⟨ow, HOW⟩ : ∃ ow, Hid (posN its (x.name, x.ver 0, x.ver 1, x.ver 2) = ow) := ⟨_, Lib.hid rfl⟩
   rw [HOW.out] at HNM
   clear hal hrv2 hcan hin hmem htk HNO
   have ki0 := (HKI.out.below HBA.out HKI.out.lt).cell 0
   go_upto_region 4 with fail
   generalize hwA : World.alloc _ (.cells #[.int .i64 x.k, .string x.name, .int .i64 (x.ver 0), .int .i64 (x.ver 1), .int .i64 (x.ver 2), .string x.other, .slice Aq nq cq] 27) = wA at HKX HBA HRV HNM ki0 ⊢
   have HAA := Lib.hid (show Below wr.heap.size wr wA by rw [← hwA]; exact (Below.refl wr.heap.size wr).alloc (Nat.le_refl _) _)
   clear hwA
   generalize wr.heap.size = bx at HKX ⊢
   clear y0 y1 y2 y3 y4 y5 y6 HW
   have x0 := HKX.out.cell 0
   have x1 := HKX.out.cell 1
   have x2 := HKX.out.cell 2
   have x3 := HKX.out.cell 3
   have x4 := HKX.out.cell 4
   have x5 := HKX.out.cell 5
   have x6 := HKX.out.cell 6
   by_cases hk2 : x.k = 2
   ·have q2 : (x.k == 2) = true := by rw [hk2]; rfl
    by_cases hik : i = k
    ·subst hik
     have n1 : ((i : Int) == (i : Int)) = true := beq_self_eq_true _
     have n2 : ((i : Int) != (i : Int)) = false := by unfold bne; rw [n1]; rfl
     have n3 : (i != i) = false := by simp
     have HNN := Lib.hid (HNX.out fun h9 => h9.2.1 rfl)
     go_wp2_with fail
     go_round
     case rel => exact ⟨n + 1, by omega, by go_num, HBA, HNN⟩
     case measure => simp [intOf]; omega
    ·have n1 : ((i : Int) == (k : Int)) = false := beq_eq_false_iff_ne.2 (by omega)
     have n2 : ((i : Int) != (k : Int)) = true := by unfold bne; rw [n1]; rfl
     have n3 : (i != k) = true := by simpa using hik
     have HK2 := Lib.hid hk2
     have HIK := Lib.hid hik
     clear hk2 hik
     go_wp2_with fail
     refine HNM.out.mono ?_
     rintro e w4 ⟨rfl, hb4⟩
     have HB4 := hide (HBA.out.trans (hb4.mono HBA.out.size))
     have HKX4 := hide (HKX.out.below hb4 HKX.out.lt)
     have HA4 := Lib.hid (HAA.out.trans (hb4.mono HAA.out.size))
     clear HNM hb4 x0 x1 x2 x3 x4 x5 x6 ki0
     by_cases hoi : ow = (i : Int)
     ·have o1 : (ow == (i : Int)) = true := beq_iff_eq.2 hoi
      have HOI := Lib.hid hoi
      clear hoi
      have x5 := HKX4.out.cell 5
      have x6 := HKX4.out.cell 6
      have ki0 := (HKI.out.below HB4.out HKI.out.lt).cell 0
      have HA9 := hide (HAM.out w4 HA4.out)
      have hzl := amF_len x.other x.rg its 0
      obtain ⟨zs, HZS⟩ : ∃ zs, Hid (amF x.other x.rg its 0 = zs) := ⟨_, Lib.hid rfl⟩
      unfold AmP at HA9
      rw [HZS.out] at HA9 hzl
      go_wp2_with fail
      refine HA9.out.mono ?_
      rintro e w5 ⟨vz, rfl, hoz, hb5⟩
      have HB5 := hide (HB4.out.trans (hb5.mono HB4.out.size))
      have HHS := hide (refIs_any vz zs (k : Int) w5 (hoz.mono (Nat.zero_le _)) (by omega))
      obtain ⟨Az, cz, rfl⟩ := hoz.len
      unfold HasP at HHS
      clear hoz hb5 HA9 x5 x6 ki0
      by_cases hkz : (k : Int) ∈ zs
      ·have HR := Lib.hid (HHIT.out ⟨HK2.out, HIK.out, by rw [show itL x = (x.name, x.ver 0, x.ver 1, x.ver 2) from rfl, HOW.out]; exact HOI.out, by rw [HZS.out]; exact hkz⟩)
       rw [decide_eq_true hkz] at HHS
       clear hkz
       go_wp2_with fail
       refine HHS.out.mono ?_
       rintro e w6 ⟨rfl, rfl⟩
       go_wp2_with fail
       exact bodyPost_ret (v := .bool true) (by simp [results, Tryz.results78, go_sem]) rfl ⟨by rw [HR.out], HB5.out⟩
      ·have HNN := Lib.hid (HNX.out fun h9 => hkz (by rw [← HZS.out]; exact h9.2.2.2))
       rw [decide_eq_false hkz] at HHS
       clear hkz
       go_wp2_with fail
       refine HHS.out.mono ?_
       rintro e w6 ⟨rfl, rfl⟩
       go_wp2_with fail
       go_round
       case rel => exact ⟨n + 1, by omega, by go_num, HB5, HNN⟩
       case measure => simp [intOf]; omega
     ·have o1 : (ow == (i : Int)) = false := beq_eq_false_iff_ne.2 hoi
      have HNN := Lib.hid (HNX.out fun h9 => hoi (by rw [← HOW.out]; exact h9.2.2.1))
      clear hoi
      go_wp2_with fail
      go_round
      case rel => exact ⟨n + 1, by omega, by go_num, HB4, HNN⟩
      case measure => simp [intOf]; omega
   ·have q2 : (x.k == 2) = false := beq_eq_false_iff_ne.2 hk2
    have HNN := Lib.hid (HNX.out fun h9 => hk2 h9.1)
    clear hk2
    go_wp2_with fail
    go_round
    case rel => exact ⟨n + 1, by omega, by go_num, HBA, HNN⟩
    case measure => simp [intOf]; omega
  ·have hnlz : ¬ (n : Int) < (qs.length : Int) := by omega
   have HR := Lib.hid (show decide (NeedP its ls i k) = false from decide_eq_false fun ⟨x9, h8, h9⟩ => HNO.out x9 (by rw [List.take_of_length_le (by rw [← HLS.out, List.length_map]; omega)]; exact h8) h9)
   go_wp2_with fail
   exact bodyPost_ret (v := .bool false) (by simp [results, Tryz.results78, go_sem]) rfl ⟨by rw [HR.out], HW.out⟩
theorem natI_mem (out : List Nat) (k : Nat) : decide ((k : Int) ∈ natI out) = decide (k ∈ out) := by
 have e : (k : Int) ∈ natI out ↔ k ∈ out := by
  unfold natI
  rw [List.mem_map]
  exact ⟨fun ⟨a, h1, h2⟩ => by rw [show k = a by omega]; exact h1, fun h => ⟨k, h, rfl⟩⟩
 by_cases h : k ∈ out
 ·rw [decide_eq_true h, decide_eq_true (e.2 h)]
 ·rw [decide_eq_false h, decide_eq_false (fun h9 => h (e.1 h9))]
theorem anF_next {p : Nat → Bool} {n m : Nat} (h : m < n) : anF p m (n - m) = (p m || anF p (m + 1) (n - (m + 1))) := by
 rw [show n - m = (n - (m + 1)) + 1 by omega, anF]
def ROrdP (p : List Nat × Int) (w : World) (e : Ending) (w' : World) : Prop := ∃ v, e = .returned (.tuple #[v, .int .i64 p.2]) ∧ OwnI w' w.heap.size v (natI p.1) ∧ Below w.heap.size w w'
set_option maxHeartbeats 16000000 in
theorem refOrder_any (v : Value) (qs : List LnQ) (its0 : List ItR) (set : Nat) (w : World) (h : LnsR w 0 v qs) (hc : catR (qs.map (·.1)) = .inr its0) (hs : set < 18446744073709551616) :
  Calls Tryz.prog 36 #[v, .int .u64 (set : Int)] w (ROrdP (orderF (itemsF (qs.map (·.1))) (qs.map (·.1)) set) w) := by
 obtain ⟨h24, _⟩ := catR_few hc
 have hq100 : qs.length ≤ 100 := by have := (catR_ok hc).2.2.2.1; simpa using this
 have HIN := Lib.hid (catR_in hc)
 have hal := ((Below.refl w.heap.size w).alloc (Nat.le_refl _) (.cells #[v] 49)).alloc (by simp) (.cells #[.int .u64 (set : Int)] 47)
 have HFT := hide (refFits_any v qs its0 set ((w.alloc (.cells #[v] 49)).alloc (.cells #[.int .u64 (set : Int)] 47)) (h.below hal) hc hs)
 have HIT := hide (fun W (h : LnsR W 0 v qs) => refItems_any v qs W h (by omega))
 have HND := hide (fun vi bl bi i k W (h : LnsR W 0 v qs) (hi : OwnK elI W 0 vi (itemsF (qs.map (·.1)))) kl ki => needs_any v vi bl bi i k qs (itemsF (qs.map (·.1))) W h hi kl ki HIN.out h24 hq100)
 have HL := hide (h.below hal)
 have HKL := hide ((Blk.new w 49 #[v]).alloc (.cells #[.int .u64 (set : Int)] 47))
 have hks := Blk.new (w.alloc (.cells #[v] 49)) 47 #[.int .u64 (set : Int)]
 rw [World.size_alloc] at hks
 have HKS := hide hks
 have HB := hide hal
 obtain ⟨A, c, rfl, _⟩ := h.1.len
 unfold FitP at HFT
 unfold ItsP at HIT
 unfold NdP at HND
 have hl100 : (qs.map (·.1)).length ≤ 100 := by rw [List.length_map]; exact hq100
 generalize itemsF (qs.map (·.1)) = its at HFT HIT HND h24 ⊢
 generalize qs.map (·.1) = ls at HFT HND hl100 ⊢
 obtain ⟨⟨b, kf⟩, HP⟩ : ∃ p, Hid (fitsF its ls set = p) := ⟨_, Lib.hid rfl⟩
 rw [HP.out] at HFT
 simp only [] at HFT
 clear h hc hal hks HIN
 cases b with
 | false =>
  have HV := Lib.hid (show orderF its ls set = ([], 13) by unfold orderF; rw [HP.out]; rfl)
  rw [HV.out]
  have k0 := HKL.out.cell 0
  have k1 := HKS.out.cell 0
  go_enter Tryz.func36, Tryz.ntmps36
  go_wp2_with fail
  refine HFT.out.mono ?_
  rintro e w1 ⟨rfl, hb1⟩
  have HB1 := hide (HB.out.trans (hb1.mono HB.out.size))
  clear hb1
  go_wp2_with fail
  exact bodyPost_ret (v := .tuple #[.slice none 0 0, .int .i64 13]) (by simp [results, Tryz.results36, go_sem]) rfl ⟨_, rfl, ownI_nil _ _, HB1.out⟩
 | true =>
  have HV := Lib.hid (show orderF its ls set = ordF its ls set its.length [] by unfold orderF; rw [HP.out]; rfl)
  rw [HV.out]
  have k0 := HKL.out.cell 0
  have k1 := HKS.out.cell 0
  go_enter Tryz.func36, Tryz.ntmps36
  go_wp2_with fail
  generalize (w.alloc (.cells #[.slice A qs.length c] 49)).alloc (.cells #[.int .u64 (set : Int)] 47) = w0 at HFT HL HKL HKS HB k0 k1 ⊢
  refine HFT.out.mono ?_
  rintro e w1 ⟨rfl, hb1⟩
  have HB1 := hide (HB.out.trans (hb1.mono HB.out.size))
  have HL1 := hide (HL.out.below hb1)
  have HKL1 := hide (HKL.out.below hb1 HKL.out.lt)
  have HKS1 := hide (HKS.out.below hb1 HKS.out.lt)
  have HI1 := hide (HIT.out w1 HL1.out)
  clear hb1 HB HL HKL HKS HFT HIT k0 k1
  have k0 := HKL1.out.cell 0
  go_wp2_with fail
  refine HI1.out.mono ?_
  rintro e w2 ⟨vi, rfl, hoi, hb2⟩
  obtain ⟨Ai, ci, rfl, _⟩ := hoi.len
  have hal := (Below.refl w2.heap.size w2).alloc (Nat.le_refl _) (.cells #[.slice Ai its.length ci] 65)
  have hb3 := hb2.trans (hal.mono hb2.size)
  have HB3 := hide (HB1.out.trans (hb3.mono HB1.out.size))
  have HL3 := hide (HL1.out.below hb3)
  have HKL3 := hide (HKL1.out.below hb3 HKL1.out.lt)
  have HKS3 := hide (HKS1.out.below hb3 HKS1.out.lt)
  have HO3 := hide (OwnK.mono (OwnK.below hoi hal) (Nat.zero_le _))
  have HKI3 := hide (Blk.new w2 65 #[.slice Ai its.length ci])
  clear hoi hb2 hal hb3 HI1 HB1 HL1 HKL1 HKS1 k0
  go_wp2_with fail
  generalize w2.alloc (.cells #[.slice Ai its.length ci] 65) = ws at HB3 HL3 HKL3 HKS3 HO3 HKI3 ⊢
  generalize w2.heap.size = bi at HKI3 ⊢
  go_loopw [11] (fun v11 wr => ∃ out : List Nat, Hid (OwnI wr ws.heap.size v11 (natI out)) ∧ Hid (OrdI its.length set out) ∧ Hid (Below ws.heap.size ws wr) ∧ Hid (ordF its ls set (its.length - out.length) out = ordF its ls set its.length [])) (fun v11 _ => its.length - lenV v11)
  case atStart => exact ⟨[], hide (ownI_nil _ _), Lib.hid (ordI_nil _ _), hide (Below.refl _ _), Lib.hid rfl⟩
  case round =>
   obtain ⟨out, HO, HOI, HBW, HV2⟩ := hrel
   have ki := (HKI3.out.below HBW.out HKI3.out.lt).cell 0
   go_wp2_with fail
   obtain ⟨wa, rfl⟩ : ∃ wa, wa = wr := ⟨_, rfl⟩
   clear ki
   go_loopw [12, 13, 14] (fun a12 l13 i14 wr => ∃ i : Nat, i ≤ its.length ∧ i14 = .int .i64 ((i : Int) - 1) ∧ a12 = .int .i64 (frF (rdB its ls set out) i (its.length - i)) ∧ l13 = .bool (anF (toC set out) i (its.length - i)) ∧ Hid (Below wa.heap.size wa wr)) (fun _ _ i14 _ => (intOf i14 + 1).toNat)
   case atStart => exact ⟨its.length, Nat.le_refl _, rfl, by rw [Nat.sub_self]; rfl, by rw [Nat.sub_self]; rfl, hide (Below.refl _ _)⟩
   case round =>
    obtain ⟨i, hi, h14, h12, h13, HBX⟩ := hrel
    have HBY := hide (HBW.out.trans (HBX.out.mono HBW.out.size))
    have HOX := hide (HO.out.below HBX.out)
    cases i with
    | zero =>
     have h14 : u14 = .int .i64 (-1) := h14
     have h12 : u12 = .int .i64 (frF (rdB its ls set out) 0 its.length) := h12
     have h13 : u13 = .bool (anF (toC set out) 0 its.length) := h13
     subst h14 h12 h13
     have HBE := hide (HB3.out.trans (HBY.out.mono HB3.out.size))
     cases hlf : anF (toC set out) 0 its.length with
     | false =>
      have HE := Lib.hid (show ordF its ls set its.length [] = (out, 0) by rw [← HV2.out]; exact ordF_done hlf)
      have HO9 := hide (HOX.out.mono HB3.out.size)
      clear hlf
      generalize frF (rdB its ls set out) 0 its.length = z
      go_wp2_with fail
      exact bodyPost_ret (v := .tuple #[u11, .int .i64 0]) (by simp [results, Tryz.results36, go_sem]) rfl ⟨u11, by rw [HE.out], by rw [HE.out]; exact HO9.out, HBE.out⟩
     | true =>
      obtain ⟨j0, _, h8, h9⟩ := (anF_spec _ _ _).1 hlf
      unfold toC at h9
      rw [Bool.and_eq_true, Bool.not_eq_true', decide_eq_false_iff_not] at h9
      have hmore := HOI.out.more (by omega) h9.1 h9.2
      have HLF := Lib.hid hlf
      clear h8 h9 hlf
      by_cases hneg : frF (rdB its ls set out) 0 its.length < 0
      ·have HCY := Lib.hid (show ordF its ls set its.length [] = ([], 11) by
        rw [← HV2.out, show its.length - out.length = (its.length - out.length - 1) + 1 by omega]
        exact ordF_cycle HLF.out hneg)
       generalize frF (rdB its ls set out) 0 its.length = z at hneg ⊢
       go_wp2_with fail
       exact bodyPost_ret (v := .tuple #[.slice none 0 0, .int .i64 11]) (by simp [results, Tryz.results36, go_sem]) rfl ⟨_, by rw [HCY.out], by rw [HCY.out]; exact ownI_nil _ _, HBE.out⟩
      ·obtain ⟨j, hj, hj1, hj2, hj3⟩ := nx_toC hneg
       have HNX := Lib.hid (show ordF its ls set (its.length - (out ++ [j]).length) (out ++ [j]) = ordF its ls set its.length [] by
        rw [← HV2.out, show its.length - out.length = (its.length - (out ++ [j]).length) + 1 by rw [List.length_append, List.length_singleton]; omega]
        exact (ordF_next HLF.out hj).symm)
       have HOJ := Lib.hid (HOI.out.snoc hj1 hj2 hj3)
       rw [hj]
       have hjz : ¬ (j : Int) < 0 := by omega
       have hal := (Below.refl wr.heap.size wr).alloc (Nat.le_refl _) (.cells #[.int .i64 (j : Int)] 3)
       have HOA := hide (HOX.out.below hal)
       have HBA := hide (HBY.out.trans (hal.mono HBY.out.size))
       have HRA := hide (blk_reads (zs := [(j : Int)]) (Blk.new wr 3 #[.int .i64 (j : Int)]))
       have HLN := Lib.hid (show (natI out).length + 1 ≤ 10000000000 by rw [natI_len]; have := HOI.out.len; omega)
       clear hj hneg hj2 hj3 hal
       go_wp2_with (at_builtin; refine appI _ rfl _ _ _ rfl ws.heap.size Tryz.underlying24 _ (natI out) rfl HOA.out (wr.heap.size + 1) (some ⟨wr.heap.size, 0, none⟩) 1 1 [(j : Int)] rfl HRA.out rfl HLN.out HBA.out.size ?_; intro v9 w9 ho9 hg9 _; have HO9 := hide ho9; have HB9 := hide (HBA.out.grown hg9 HBA.out.size (fun k hk => (World.ownsRow.lt HOA.out k hk).1)); clear ho9 hg9)
       go_round
       case rel => exact ⟨out ++ [j], by rw [natI_snoc]; exact HO9, HOJ, HB9, HNX⟩
       case measure => rw [lenV_own HO.out, lenV_own HO9.out, List.length_append, natI_len, List.length_singleton]; omega
    | succ m =>
     rw [show (((m + 1 : Nat) : Int) - 1) = (m : Int) by omega] at h14
     subst h14 h12 h13
     have hm : m < its.length := by omega
     have hm0 : (m : Int) ≥ 0 := by omega
     have HI1 := hide (ordIn_any set m (w.heap.size + 1) wr hs (by omega) ((HKS3.out.below HBY.out HKS3.out.lt).cell 0))
     have HI2 := hide (refIs_any u11 (natI out) (m : Int) wr (HOX.out.mono (Nat.zero_le _)) (by rw [natI_len]; have := HOI.out.len; omega))
     rw [natI_mem] at HI2
     unfold HasP at HI1 HI2
     have HZ1 := Lib.hid (frF_miss (p := rdB its ls set out) (n := its.length) (m := m) hm)
     have HZ2 := Lib.hid (frF_hit (p := rdB its ls set out) (n := its.length) (m := m) hm)
     have HZ3 := Lib.hid (anF_next (p := toC set out) (n := its.length) (m := m) hm)
     generalize frF (rdB its ls set out) (m + 1) (its.length - (m + 1)) = z12 at HZ1 ⊢
     generalize anF (toC set out) (m + 1) (its.length - (m + 1)) = z13 at HZ3 ⊢
     cases hb : set.testBit m with
     | false =>
      rw [hb] at HI1
      have HR := Lib.hid (HZ1.out (by unfold rdB toC; rw [hb]; rfl))
      have HR3 := Lib.hid (show anF (toC set out) m (its.length - m) = z13 by rw [HZ3.out]; unfold toC; rw [hb]; rfl)
      clear HI2
      go_wp2_with fail
      refine HI1.out.mono ?_
      rintro e w9 ⟨rfl, rfl⟩
      go_wp2_with fail
      go_round
      case rel => exact ⟨m, by omega, by trivial, by rw [HR.out], by rw [HR3.out], HBX⟩
      case measure => simp [intOf]
     | true =>
      rw [hb] at HI1
      by_cases hmo : m ∈ out
      ·rw [decide_eq_true hmo] at HI2
       have HR := Lib.hid (HZ1.out (by unfold rdB toC; rw [decide_eq_true hmo]; simp))
       have HR3 := Lib.hid (show anF (toC set out) m (its.length - m) = z13 by rw [HZ3.out]; unfold toC; rw [decide_eq_true hmo]; simp)
       clear hmo
       go_wp2_with fail
       refine HI1.out.mono ?_
       rintro e w9 ⟨rfl, rfl⟩
       go_wp2_with fail
       refine HI2.out.mono ?_
       rintro e w8 ⟨rfl, rfl⟩
       go_wp2_with fail
       go_round
       case rel => exact ⟨m, by omega, by trivial, by rw [HR.out], by rw [HR3.out], HBX⟩
       case measure => simp [intOf]
      ·rw [decide_eq_false hmo] at HI2
       have HTC := Lib.hid (show toC set out m = true by unfold toC; rw [hb, decide_eq_false hmo]; rfl)
       have HR3 := Lib.hid (show anF (toC set out) m (its.length - m) = true by rw [HZ3.out, HTC.out]; rfl)
       have HRB := Lib.hid (show rdB its ls set out m = rdK its ls set out m its.length by unfold rdB; rw [HTC.out]; rfl)
       have ki := (HKI3.out.below HBY.out HKI3.out.lt).cell 0
       clear hmo HZ3
       go_wp2_with fail
       refine HI1.out.mono ?_
       rintro e w9 ⟨rfl, rfl⟩
       go_wp2_with fail
       refine HI2.out.mono ?_
       rintro e w8 ⟨rfl, rfl⟩
       go_wp2_with fail
       clear ki HI1 HI2
       obtain ⟨wb, rfl⟩ : ∃ wb, wb = w8 := ⟨_, rfl⟩
       go_loopw [15, 47] (fun r15 k47 wr => ∃ k : Nat, k ≤ its.length ∧ k47 = .int .i64 k ∧ r15 = .bool (rdK its ls set out m k) ∧ Hid (Below wb.heap.size wb wr)) (fun _ k47 _ => its.length - (intOf k47).toNat)
       case atStart => exact ⟨0, Nat.zero_le _, rfl, rfl, hide (Below.refl _ _)⟩
       case round =>
        obtain ⟨k, hk, rfl, rfl, HBZ⟩ := hrel
        have HBV := hide (HBY.out.trans (HBZ.out.mono HBY.out.size))
        have HOV := hide (HOX.out.below HBZ.out)
        have HBXZ := hide (HBX.out.trans (HBZ.out.mono HBX.out.size))
        by_cases hkl : k < its.length
        ·have hklz : (k : Int) < (its.length : Int) := by omega
         have HJ1 := hide (ordIn_any set k (w.heap.size + 1) wr hs (by omega) ((HKS3.out.below HBV.out HKS3.out.lt).cell 0))
         have HJ2 := hide (refIs_any u11 (natI out) (k : Int) wr (HOV.out.mono (Nat.zero_le _)) (by rw [natI_len]; have := HOI.out.len; omega))
         rw [natI_mem] at HJ2
         unfold HasP at HJ1 HJ2
         have HSC := Lib.hid (show rdK its ls set out m (k + 1) = (rdK its ls set out m k && (!set.testBit k || decide (k ∈ out) || !decide (NeedP its ls m k))) from rfl)
         cases hr : rdK its ls set out m k with
         | false =>
          rw [hr] at HSC
          have HR := Lib.hid (show rdK its ls set out m (k + 1) = false from HSC.out)
          clear HJ1 HJ2 hr
          go_wp2_with fail
          go_round
          case rel => exact ⟨k + 1, by omega, by go_num, by rw [HR.out], HBZ⟩
          case measure => simp [intOf]; omega
         | true =>
          rw [hr, Bool.true_and] at HSC
          clear hr
          cases hbk : set.testBit k with
          | false =>
           rw [hbk] at HJ1 HSC
           have HR := Lib.hid (show rdK its ls set out m (k + 1) = true from HSC.out)
           clear HJ2 hbk
           go_wp2_with fail
           refine HJ1.out.mono ?_
           rintro e w9 ⟨rfl, rfl⟩
           go_wp2_with fail
           go_round
           case rel => exact ⟨k + 1, by omega, by go_num, by rw [HR.out], HBZ⟩
           case measure => simp [intOf]; omega
          | true =>
           rw [hbk] at HJ1 HSC
           clear hbk
           by_cases hko : k ∈ out
           ·rw [decide_eq_true hko] at HJ2 HSC
            have HR := Lib.hid (show rdK its ls set out m (k + 1) = true from HSC.out)
            clear hko
            go_wp2_with fail
            refine HJ1.out.mono ?_
            rintro e w9 ⟨rfl, rfl⟩
            go_wp2_with fail
            refine HJ2.out.mono ?_
            rintro e w8 ⟨rfl, rfl⟩
            go_wp2_with fail
            go_round
            case rel => exact ⟨k + 1, by omega, by go_num, by rw [HR.out], HBZ⟩
            case measure => simp [intOf]; omega
           ·rw [decide_eq_false hko] at HJ2 HSC
            have HJ3 := hide (HND.out (.slice Ai its.length ci) w.heap.size bi m k wr (HL3.out.below HBV.out) (HO3.out.below HBV.out) (HKL3.out.below HBV.out HKL3.out.lt) (HKI3.out.below HBV.out HKI3.out.lt))
            have HR := Lib.hid (show rdK its ls set out m (k + 1) = !decide (NeedP its ls m k) from HSC.out)
            generalize decide (NeedP its ls m k) = d at HJ3 HR
            clear hko HSC
            cases d <;>
            ·go_wp2_with fail
             refine HJ1.out.mono ?_
             rintro e w9 ⟨rfl, rfl⟩
             go_wp2_with fail
             refine HJ2.out.mono ?_
             rintro e w8 ⟨rfl, rfl⟩
             go_wp2_with fail
             refine HJ3.out.mono ?_
             rintro e w7 ⟨rfl, hb7⟩
             have HB7 := hide (HBZ.out.trans (hb7.mono HBZ.out.size))
             clear hb7
             go_wp2_with fail
             go_round
             case rel => exact ⟨k + 1, by omega, by go_num, by rw [HR.out]; rfl, HB7⟩
             case measure => simp [intOf]; omega
        ·have hklz : ¬ (k : Int) < (its.length : Int) := by omega
         rw [show rdK its ls set out m k = rdK its ls set out m its.length by rw [show k = its.length by omega]]
         cases hr : rdK its ls set out m its.length with
         | true =>
          rw [hr] at HRB
          have HR := Lib.hid (HZ2.out HRB.out)
          clear hr
          go_wp2_with fail
          go_round
          case rel => exact ⟨m, by omega, by trivial, by rw [HR.out], by rw [HR3.out], HBXZ⟩
          case measure => simp [intOf]
         | false =>
          rw [hr] at HRB
          have HR := Lib.hid (HZ1.out HRB.out)
          clear hr
          go_wp2_with fail
          go_round
          case rel => exact ⟨m, by omega, by trivial, by rw [HR.out], by rw [HR3.out], HBXZ⟩
          case measure => simp [intOf]
end Go.Proofs.YtmncoldaemcnlaaGreatDoor
