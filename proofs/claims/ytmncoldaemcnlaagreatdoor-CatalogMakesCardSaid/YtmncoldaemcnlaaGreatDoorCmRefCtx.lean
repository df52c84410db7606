/-
  A part of the proof: RefCtx. Conditions: none.
-/
import Derived.Test.YtmncoldaemcnlaaGreatDoorCmCatTx
import Derived.BigQuiet
namespace Go.Proofs.YtmncoldaemcnlaaGreatDoor
open Go.RowKit
open Classical
def CatTxP (ls : List LnR) (w : World) (e : Ending) (w' : World) : Prop := e = .returned (.string (catTx ls)) ∧ Below w.heap.size w w'
theorem kw_cell {w : World} (h : KindsP w) : ∃ b off c, w.cell? ⟨0, 0, none⟩ = some (.slice (some ⟨b, off, none⟩) 5 c) ∧ ∀ k : Int, 1 ≤ k → k ≤ 4 → w.cell? ⟨b, off + k.toNat, none⟩ = some (.string (kwB k)) := by
 obtain ⟨b, off, c, h1, h2⟩ := h.is
 refine ⟨b, off, c, h1, fun k h3 h4 => ?_⟩
 rw [h2 k.toNat (by omega)]
 rcases (show k = 1 ∨ k = 2 ∨ k = 3 ∨ k = 4 by omega) with rfl | rfl | rfl | rfl <;> rfl
set_option maxRecDepth 100000
set_option maxHeartbeats 4000000 in
theorem refCatText_any (v : Value) (qs : List LnQ) (w : World) (hG : GlobV w) (hK : KindsP w) (h : LnsR w 0 v qs) (hn : qs.length ≤ 100) (hk : ∀ q ∈ qs, 1 ≤ q.1.k ∧ q.1.k ≤ 4) :
  Calls Tryz.prog 31 #[v] w (CatTxP (qs.map (·.1)) w) := by
 have HG := hide hG
 have HK := hide hK
 have HL := hide h
 have HKK := Lib.hid hk
 have HSZ := Lib.hid (fun i (hi : i ≤ qs.length) => txA_size (ls := qs.map (·.1)) (fun x hx => by obtain ⟨q, hq, rfl⟩ := List.mem_map.1 hx; exact (h.2 q hq).2) i (by simpa using hi))
 have HNX := Lib.hid (fun i (hi : i < qs.length) => show txA (qs.map (·.1)) (i + 1) = txA (qs.map (·.1)) i ++ lnTx qs[i].1 ++ nlB1 from by rw [txA_next (by simpa using hi), List.getElem_map])
 have HEN := Lib.hid (show catTx (qs.map (·.1)) = txA (qs.map (·.1)) qs.length from by unfold catTx; rw [List.length_map])
 have HL0 := Lib.hid (show txA (qs.map (·.1)) 0 = ⟨#[]⟩ from rfl)
 obtain ⟨A, c, rfl, _⟩ := h.1.len
 clear hG hK h hk
 unfold CatTxP
 rw [HEN.out]
 clear HEN
 generalize txA (qs.map (·.1)) = tx at HSZ HNX HL0 ⊢
 go_enter Tryz.func31, Tryz.ntmps31
 go_wp2_with fail
 go_loopw [3, 8] (fun av iv wr => ∃ i : Nat, i ≤ qs.length ∧ iv = .int .i64 i ∧ av = .string (tx i) ∧ Hid (Below w.heap.size w wr)) (fun _ iv _ => qs.length - (intOf iv).toNat)
 case atStart => exact ⟨0, Nat.zero_le _, rfl, by rw [HL0.out], hide (Below.refl _ _)⟩
 case round =>
  obtain ⟨i, hi, rfl, rfl, HW⟩ := hrel
  clear HL0
  by_cases hlt : i < qs.length
  ·have hltz : (i : Int) < (qs.length : Int) := by omega
   obtain ⟨gq, hA, hrow⟩ := (HL.out.1.below HW.out).rowAt hlt
   subst hA
   obtain ⟨y0, y1, y2, y3, y4, y5, y6⟩ := row7 rfl rfl hrow hlt
   have hnx := HNX.out i hlt
   have hz0 := HSZ.out i hi
   have hkk := HKK.out _ (List.getElem_mem hlt)
   obtain ⟨hrv, hok⟩ := HL.out.2 _ (List.getElem_mem hlt)
   have hrv2 := hrv.below HW.out
   clear hrow hrv
   generalize qs[i] = q at y0 y1 y2 y3 y4 y5 y6 hnx hkk hrv2 hok
   obtain ⟨x, Aq, nq1, cq⟩ := q
   simp only [slQ] at y0 y1 y2 y3 y4 y5 y6 hnx hkk hrv2 hok
   have hal := (Below.refl wr.heap.size wr).alloc (Nat.le_refl _) (.cells #[.int .i64 x.k, .string x.name, .int .i64 (x.ver 0), .int .i64 (x.ver 1), .int .i64 (x.ver 2), .string x.other, .slice Aq nq1 cq] 27)
   have HKX := hide (Blk.new wr 27 #[.int .i64 x.k, .string x.name, .int .i64 (x.ver 0), .int .i64 (x.ver 1), .int .i64 (x.ver 2), .string x.other, .slice Aq nq1 cq])
   have HWX := hide (HW.out.trans (hal.mono HW.out.size))
   have HRV := hide (hrv2.below hal)
   have hz1 := hok.nm
   have hz2 := hok.ot
   have hz3 := rgT_size hok.can
   have hz4 := verS_size hok.v
   have hz5 := kwB_size x.k
   have HOK := Lib.hid hok
   have HNI := Lib.hid hnx
   have HIV : (tx i).size ≤ 14000000000000 := by omega
   clear hal hrv2 hok hnx hz0 hz5
   obtain ⟨kb, ko, kc, hkg, hkc⟩ := kw_cell (HK.out.below HWX.out)
   have hkx := hkc x.k hkk.1 hkk.2
   clear hkc
   go_upto_region 5 with fail
   generalize World.alloc _ (.cells #[.int .i64 x.k, .string x.name, .int .i64 (x.ver 0), .int .i64 (x.ver 1), .int .i64 (x.ver 2), .string x.other, .slice Aq nq1 cq] 27) = wA at HKX HWX HRV hkg hkx ⊢
   generalize wr.heap.size = bx at HKX ⊢
   clear y0 y1 y2 y3 y4 y5 y6
   obtain ⟨⟨c0, c1, c2, c3, c4, c5, c6⟩, _⟩ := blk7 HKX.out
   have adds : ∀ (a b : ByteArray), a.size + b.size ≤ 9223372036854775807 → ∀ w : World, (Op.stringOp .add a b).run Tryz.prog w = .ok (.string (a ++ b)) w := fun a b h w => run_string_add_sum (P := Tryz.prog) w a b h
   have hz5 := kwB_size x.k
   have q1 : ∀ w : World, (Op.stringOp .add (kwB x.k) ⟨#[32]⟩).run Tryz.prog w = .ok (.string (kwB x.k ++ ⟨#[32]⟩)) w := adds _ _ (by rw [show (⟨#[32]⟩ : ByteArray).size = 1 from rfl]; omega)
   have hp1 : (kwB x.k ++ ⟨#[32]⟩).size ≤ 8 := by rw [ByteArray.size_append, show (⟨#[32]⟩ : ByteArray).size = 1 from rfl]; omega
   generalize hpe1 : kwB x.k ++ ⟨#[32]⟩ = p1 at q1 hp1
   have q2 : ∀ w : World, (Op.stringOp .add p1 x.name).run Tryz.prog w = .ok (.string (p1 ++ x.name)) w := adds _ _ (by omega)
   have hp2 : (p1 ++ x.name).size ≤ 21008 := by rw [ByteArray.size_append]; omega
   generalize hpe2 : p1 ++ x.name = p2 at q2 hp2
   have q3 : ∀ w : World, (Op.stringOp .add (tx i) p2).run Tryz.prog w = .ok (.string (tx i ++ p2)) w := adds _ _ (by omega)
   have hp3 : (tx i ++ p2).size ≤ 14000000030000 := by rw [ByteArray.size_append]; omega
   generalize hpe3 : tx i ++ p2 = p3 at q3 hp3
   have HPE := Lib.hid (show p3 = tx i ++ (kwB x.k ++ spB1 ++ x.name) from by rw [← hpe3, ← hpe2, ← hpe1]; rfl)
   clear hpe1 hpe2 hpe3 hz5 HIV
   obtain ⟨k1, k4⟩ := hkk
   have k0 : 0 ≤ x.k := by omega
   have k5 : x.k < 5 := by omega
   go_quiet (fail)
   have HKX2 := hide (HKX.out.drewN nq)
   have HW0 := hide (below_drewN HWX.out nq)
   have HRV0 := hide (HRV.out.below (below_drewN (Below.refl _ wA) nq))
   clear c0 c1 c2 c3 c4 c5 c6 q1 q2 q3 hp1 hp2 k0 k5 hkg hkx HKX HWX HRV
   generalize wA.drewN nq = wB at HKX2 HW0 HRV0 ⊢
   have HVT0 := Lib.hid (fun W (hg : GlobV W) => show Calls Tryz.prog 73 #[.agg #[.int .i64 (x.ver 0), .int .i64 (x.ver 1), .int .i64 (x.ver 2)]] W (VerTxP x.ver W) from refVerText_any x.ver W hg HOK.out.v)
   have HRT0 := Lib.hid (fun W (hg : GlobV W) (ho : OwnI W 0 (.slice Aq nq1 cq) (flatI x.rg)) => refRangeText_any (.slice Aq nq1 cq) x.rg W hg ho HOK.out.can)
   unfold VerTxP at HVT0
   unfold RgTxP at HRT0
   generalize hvs : verS x.ver = vs at hz4 HVT0
   generalize hrs : baL (rangeT x.rg) = rs at hz3 HRT0
   have HLT := Lib.hid (show tx (i + 1) = tx i ++ (if x.k = 4 then kwB 4 ++ spB1 ++ x.name ++ spB1 ++ rs else if x.k = 1 then kwB 1 ++ spB1 ++ x.name ++ spB1 ++ vs else kwB x.k ++ spB1 ++ x.name ++ spB1 ++ vs ++ spB1 ++ x.other ++ spB1 ++ rs) ++ nlB1 from by rw [HNI.out, ← hvs, ← hrs]; rfl)
   clear hvs hrs HNI
   have s1 : (⟨#[32]⟩ : ByteArray).size = 1 := rfl
   have s2 : (⟨#[10]⟩ : ByteArray).size = 1 := rfl
   obtain ⟨⟨c0, c1, c2, c3, c4, c5, c6⟩, _⟩ := blk7 HKX2.out
   rcases (show x.k = 1 ∨ x.k = 4 ∨ x.k = 2 ∨ x.k = 3 by omega) with hxk | hxk | hxk | hxk
   ·have d1 : (x.k == (1 : Int)) = true := by rw [beq_iff_eq]; omega
    have m1 : (x.k != (1 : Int)) = false := by unfold bne; rw [d1]; rfl
    have d2 : (x.k == (2 : Int)) = false := by rw [beq_eq_false_iff_ne]; omega
    have d3 : (x.k == (3 : Int)) = false := by rw [beq_eq_false_iff_ne]; omega
    have d4 : (x.k == (4 : Int)) = false := by rw [beq_eq_false_iff_ne]; omega
    have m4 : (x.k != (4 : Int)) = true := by unfold bne; rw [d4]; rfl
    clear hxk
    have hs10 : ((⟨#[32]⟩ : ByteArray) ++ vs).size ≤ 67 := by rw [ByteArray.size_append]; omega
    have q10 : ∀ w : World, (Op.stringOp .add (⟨#[32]⟩ : ByteArray) vs).run Tryz.prog w = .ok (.string ((⟨#[32]⟩ : ByteArray) ++ vs)) w := adds _ _ (by omega)
    generalize he10 : (⟨#[32]⟩ : ByteArray) ++ vs = r10 at q10 hs10
    have hs11 : (p3 ++ r10).size ≤ 14000000030067 := by rw [ByteArray.size_append]; omega
    have q11 : ∀ w : World, (Op.stringOp .add p3 r10).run Tryz.prog w = .ok (.string (p3 ++ r10)) w := adds _ _ (by omega)
    generalize he11 : p3 ++ r10 = r11 at q11 hs11
    have hs12 : (r11 ++ (⟨#[10]⟩ : ByteArray)).size ≤ 14000000030068 := by rw [ByteArray.size_append]; omega
    have q12 : ∀ w : World, (Op.stringOp .add r11 (⟨#[10]⟩ : ByteArray)).run Tryz.prog w = .ok (.string (r11 ++ (⟨#[10]⟩ : ByteArray))) w := adds _ _ (by omega)
    generalize he12 : r11 ++ (⟨#[10]⟩ : ByteArray) = r12 at q12 hs12
    have HFI := Lib.hid (show r12 = tx (i + 1) from by
     rw [HLT.out]
     rw [if_neg (show ¬ x.k = 4 by simpa using d4), if_pos (show x.k = 1 by simpa using d1)]
     have hpe := HPE.out
     have hk9 : x.k = 1 := by simpa using d1
     rw [hk9] at hpe
     rw [← he12, ← he11, ← he10, hpe]
     simp only [spB1, nlB1, ByteArray.append_assoc])
    clear he10 he11 he12 HPE HLT
    have HV1 := hide (HVT0.out wB (HG.out.below HW0.out))
    go_wp2_with fail
    refine HV1.out.mono ?_
    rintro e wC ⟨rfl, hb0⟩
    have HW1 := hide (HW0.out.trans (hb0.mono HW0.out.size))
    have HK3 := hide (HKX2.out.below hb0 HKX2.out.lt)
    have HRV1 := hide (HRV0.out.below hb0)
    clear hb0 HV1 c0 c1 c2 c3 c4 c5 c6 HW0 HKX2 HRV0
    obtain ⟨⟨c0, c1, c2, c3, c4, c5, c6⟩, _⟩ := blk7 HK3.out
    go_wp2_with fail
    go_round
    case rel => exact ⟨i + 1, by omega, by go_num, by rw [HFI.out], HW1⟩
    case measure => simp [intOf]; omega
   ·have d1 : (x.k == (1 : Int)) = false := by rw [beq_eq_false_iff_ne]; omega
    have m1 : (x.k != (1 : Int)) = true := by unfold bne; rw [d1]; rfl
    have d2 : (x.k == (2 : Int)) = false := by rw [beq_eq_false_iff_ne]; omega
    have d3 : (x.k == (3 : Int)) = false := by rw [beq_eq_false_iff_ne]; omega
    have d4 : (x.k == (4 : Int)) = true := by rw [beq_iff_eq]; omega
    have m4 : (x.k != (4 : Int)) = false := by unfold bne; rw [d4]; rfl
    clear hxk
    have hs10 : ((⟨#[32]⟩ : ByteArray) ++ rs).size ≤ 138000000005 := by rw [ByteArray.size_append]; omega
    have q10 : ∀ w : World, (Op.stringOp .add (⟨#[32]⟩ : ByteArray) rs).run Tryz.prog w = .ok (.string ((⟨#[32]⟩ : ByteArray) ++ rs)) w := adds _ _ (by omega)
    generalize he10 : (⟨#[32]⟩ : ByteArray) ++ rs = r10 at q10 hs10
    have hs11 : (p3 ++ r10).size ≤ 14138000030005 := by rw [ByteArray.size_append]; omega
    have q11 : ∀ w : World, (Op.stringOp .add p3 r10).run Tryz.prog w = .ok (.string (p3 ++ r10)) w := adds _ _ (by omega)
    generalize he11 : p3 ++ r10 = r11 at q11 hs11
    have hs12 : (r11 ++ (⟨#[10]⟩ : ByteArray)).size ≤ 14138000030006 := by rw [ByteArray.size_append]; omega
    have q12 : ∀ w : World, (Op.stringOp .add r11 (⟨#[10]⟩ : ByteArray)).run Tryz.prog w = .ok (.string (r11 ++ (⟨#[10]⟩ : ByteArray))) w := adds _ _ (by omega)
    generalize he12 : r11 ++ (⟨#[10]⟩ : ByteArray) = r12 at q12 hs12
    have HFI := Lib.hid (show r12 = tx (i + 1) from by
     rw [HLT.out]
     rw [if_pos (show x.k = 4 by simpa using d4)]
     have hpe := HPE.out
     have hk9 : x.k = 4 := by simpa using d4
     rw [hk9] at hpe
     rw [← he12, ← he11, ← he10, hpe]
     simp only [spB1, nlB1, ByteArray.append_assoc])
    clear he10 he11 he12 HPE HLT
    have HV1 := hide (HRT0.out wB (HG.out.below HW0.out) HRV0.out)
    go_wp2_with fail
    refine HV1.out.mono ?_
    rintro e wC ⟨rfl, hb0⟩
    have HW1 := hide (HW0.out.trans (hb0.mono HW0.out.size))
    have HK3 := hide (HKX2.out.below hb0 HKX2.out.lt)
    have HRV1 := hide (HRV0.out.below hb0)
    clear hb0 HV1 c0 c1 c2 c3 c4 c5 c6 HW0 HKX2 HRV0
    obtain ⟨⟨c0, c1, c2, c3, c4, c5, c6⟩, _⟩ := blk7 HK3.out
    go_wp2_with fail
    go_round
    case rel => exact ⟨i + 1, by omega, by go_num, by rw [HFI.out], HW1⟩
    case measure => simp [intOf]; omega
   ·have d1 : (x.k == (1 : Int)) = false := by rw [beq_eq_false_iff_ne]; omega
    have m1 : (x.k != (1 : Int)) = true := by unfold bne; rw [d1]; rfl
    have d2 : (x.k == (2 : Int)) = true := by rw [beq_iff_eq]; omega
    have d3 : (x.k == (3 : Int)) = false := by rw [beq_eq_false_iff_ne]; omega
    have d4 : (x.k == (4 : Int)) = false := by rw [beq_eq_false_iff_ne]; omega
    have m4 : (x.k != (4 : Int)) = true := by unfold bne; rw [d4]; rfl
    clear hxk
    have hs10 : ((⟨#[32]⟩ : ByteArray) ++ vs).size ≤ 67 := by rw [ByteArray.size_append]; omega
    have q10 : ∀ w : World, (Op.stringOp .add (⟨#[32]⟩ : ByteArray) vs).run Tryz.prog w = .ok (.string ((⟨#[32]⟩ : ByteArray) ++ vs)) w := adds _ _ (by omega)
    generalize he10 : (⟨#[32]⟩ : ByteArray) ++ vs = r10 at q10 hs10
    have hs11 : (p3 ++ r10).size ≤ 14000000030067 := by rw [ByteArray.size_append]; omega
    have q11 : ∀ w : World, (Op.stringOp .add p3 r10).run Tryz.prog w = .ok (.string (p3 ++ r10)) w := adds _ _ (by omega)
    generalize he11 : p3 ++ r10 = r11 at q11 hs11
    have hs12 : ((⟨#[32]⟩ : ByteArray) ++ x.other).size ≤ 21001 := by rw [ByteArray.size_append]; omega
    have q12 : ∀ w : World, (Op.stringOp .add (⟨#[32]⟩ : ByteArray) x.other).run Tryz.prog w = .ok (.string ((⟨#[32]⟩ : ByteArray) ++ x.other)) w := adds _ _ (by omega)
    generalize he12 : (⟨#[32]⟩ : ByteArray) ++ x.other = r12 at q12 hs12
    have hs13 : (r11 ++ r12).size ≤ 14000000051068 := by rw [ByteArray.size_append]; omega
    have q13 : ∀ w : World, (Op.stringOp .add r11 r12).run Tryz.prog w = .ok (.string (r11 ++ r12)) w := adds _ _ (by omega)
    generalize he13 : r11 ++ r12 = r13 at q13 hs13
    have hs14 : ((⟨#[32]⟩ : ByteArray) ++ rs).size ≤ 138000000005 := by rw [ByteArray.size_append]; omega
    have q14 : ∀ w : World, (Op.stringOp .add (⟨#[32]⟩ : ByteArray) rs).run Tryz.prog w = .ok (.string ((⟨#[32]⟩ : ByteArray) ++ rs)) w := adds _ _ (by omega)
    generalize he14 : (⟨#[32]⟩ : ByteArray) ++ rs = r14 at q14 hs14
    have hs15 : (r13 ++ r14).size ≤ 14138000051073 := by rw [ByteArray.size_append]; omega
    have q15 : ∀ w : World, (Op.stringOp .add r13 r14).run Tryz.prog w = .ok (.string (r13 ++ r14)) w := adds _ _ (by omega)
    generalize he15 : r13 ++ r14 = r15 at q15 hs15
    have hs16 : (r15 ++ (⟨#[10]⟩ : ByteArray)).size ≤ 14138000051074 := by rw [ByteArray.size_append]; omega
    have q16 : ∀ w : World, (Op.stringOp .add r15 (⟨#[10]⟩ : ByteArray)).run Tryz.prog w = .ok (.string (r15 ++ (⟨#[10]⟩ : ByteArray))) w := adds _ _ (by omega)
    generalize he16 : r15 ++ (⟨#[10]⟩ : ByteArray) = r16 at q16 hs16
    have HFI := Lib.hid (show r16 = tx (i + 1) from by
     rw [HLT.out]
     rw [if_neg (show ¬ x.k = 4 by simpa using d4), if_neg (show ¬ x.k = 1 by simpa using d1)]
     rw [← he16, ← he15, ← he14, ← he13, ← he12, ← he11, ← he10, HPE.out]
     simp only [spB1, nlB1, ByteArray.append_assoc])
    clear he10 he11 he12 he13 he14 he15 he16 HPE HLT
    have HV1 := hide (HVT0.out wB (HG.out.below HW0.out))
    go_wp2_with fail
    refine HV1.out.mono ?_
    rintro e wC ⟨rfl, hb0⟩
    have HW1 := hide (HW0.out.trans (hb0.mono HW0.out.size))
    have HK3 := hide (HKX2.out.below hb0 HKX2.out.lt)
    have HRV1 := hide (HRV0.out.below hb0)
    clear hb0 HV1 c0 c1 c2 c3 c4 c5 c6 HW0 HKX2 HRV0
    obtain ⟨⟨c0, c1, c2, c3, c4, c5, c6⟩, _⟩ := blk7 HK3.out
    have HV1 := hide (HRT0.out wC (HG.out.below HW1.out) HRV1.out)
    go_wp2_with fail
    refine HV1.out.mono ?_
    rintro e wD ⟨rfl, hb1⟩
    have HW2 := hide (HW1.out.trans (hb1.mono HW1.out.size))
    have HK4 := hide (HK3.out.below hb1 HK3.out.lt)
    have HRV2 := hide (HRV1.out.below hb1)
    clear hb1 HV1 c0 c1 c2 c3 c4 c5 c6 HW1 HK3 HRV1
    obtain ⟨⟨c0, c1, c2, c3, c4, c5, c6⟩, _⟩ := blk7 HK4.out
    go_wp2_with fail
    go_round
    case rel => exact ⟨i + 1, by omega, by go_num, by rw [HFI.out], HW2⟩
    case measure => simp [intOf]; omega
   ·have d1 : (x.k == (1 : Int)) = false := by rw [beq_eq_false_iff_ne]; omega
    have m1 : (x.k != (1 : Int)) = true := by unfold bne; rw [d1]; rfl
    have d2 : (x.k == (2 : Int)) = false := by rw [beq_eq_false_iff_ne]; omega
    have d3 : (x.k == (3 : Int)) = true := by rw [beq_iff_eq]; omega
    have d4 : (x.k == (4 : Int)) = false := by rw [beq_eq_false_iff_ne]; omega
    have m4 : (x.k != (4 : Int)) = true := by unfold bne; rw [d4]; rfl
    clear hxk
    have hs10 : ((⟨#[32]⟩ : ByteArray) ++ vs).size ≤ 67 := by rw [ByteArray.size_append]; omega
    have q10 : ∀ w : World, (Op.stringOp .add (⟨#[32]⟩ : ByteArray) vs).run Tryz.prog w = .ok (.string ((⟨#[32]⟩ : ByteArray) ++ vs)) w := adds _ _ (by omega)
    generalize he10 : (⟨#[32]⟩ : ByteArray) ++ vs = r10 at q10 hs10
    have hs11 : (p3 ++ r10).size ≤ 14000000030067 := by rw [ByteArray.size_append]; omega
    have q11 : ∀ w : World, (Op.stringOp .add p3 r10).run Tryz.prog w = .ok (.string (p3 ++ r10)) w := adds _ _ (by omega)
    generalize he11 : p3 ++ r10 = r11 at q11 hs11
    have hs12 : ((⟨#[32]⟩ : ByteArray) ++ x.other).size ≤ 21001 := by rw [ByteArray.size_append]; omega
    have q12 : ∀ w : World, (Op.stringOp .add (⟨#[32]⟩ : ByteArray) x.other).run Tryz.prog w = .ok (.string ((⟨#[32]⟩ : ByteArray) ++ x.other)) w := adds _ _ (by omega)
    generalize he12 : (⟨#[32]⟩ : ByteArray) ++ x.other = r12 at q12 hs12
    have hs13 : (r11 ++ r12).size ≤ 14000000051068 := by rw [ByteArray.size_append]; omega
    have q13 : ∀ w : World, (Op.stringOp .add r11 r12).run Tryz.prog w = .ok (.string (r11 ++ r12)) w := adds _ _ (by omega)
    generalize he13 : r11 ++ r12 = r13 at q13 hs13
    have hs14 : ((⟨#[32]⟩ : ByteArray) ++ rs).size ≤ 138000000005 := by rw [ByteArray.size_append]; omega
    have q14 : ∀ w : World, (Op.stringOp .add (⟨#[32]⟩ : ByteArray) rs).run Tryz.prog w = .ok (.string ((⟨#[32]⟩ : ByteArray) ++ rs)) w := adds _ _ (by omega)
    generalize he14 : (⟨#[32]⟩ : ByteArray) ++ rs = r14 at q14 hs14
    have hs15 : (r13 ++ r14).size ≤ 14138000051073 := by rw [ByteArray.size_append]; omega
    have q15 : ∀ w : World, (Op.stringOp .add r13 r14).run Tryz.prog w = .ok (.string (r13 ++ r14)) w := adds _ _ (by omega)
    generalize he15 : r13 ++ r14 = r15 at q15 hs15
    have hs16 : (r15 ++ (⟨#[10]⟩ : ByteArray)).size ≤ 14138000051074 := by rw [ByteArray.size_append]; omega
    have q16 : ∀ w : World, (Op.stringOp .add r15 (⟨#[10]⟩ : ByteArray)).run Tryz.prog w = .ok (.string (r15 ++ (⟨#[10]⟩ : ByteArray))) w := adds _ _ (by omega)
    generalize he16 : r15 ++ (⟨#[10]⟩ : ByteArray) = r16 at q16 hs16
    have HFI := Lib.hid (show r16 = tx (i + 1) from by
     rw [HLT.out]
     rw [if_neg (show ¬ x.k = 4 by simpa using d4), if_neg (show ¬ x.k = 1 by simpa using d1)]
     rw [← he16, ← he15, ← he14, ← he13, ← he12, ← he11, ← he10, HPE.out]
     simp only [spB1, nlB1, ByteArray.append_assoc])
    clear he10 he11 he12 he13 he14 he15 he16 HPE HLT
    have HV1 := hide (HVT0.out wB (HG.out.below HW0.out))
    go_wp2_with fail
    refine HV1.out.mono ?_
    rintro e wC ⟨rfl, hb0⟩
    have HW1 := hide (HW0.out.trans (hb0.mono HW0.out.size))
    have HK3 := hide (HKX2.out.below hb0 HKX2.out.lt)
    have HRV1 := hide (HRV0.out.below hb0)
    clear hb0 HV1 c0 c1 c2 c3 c4 c5 c6 HW0 HKX2 HRV0
    obtain ⟨⟨c0, c1, c2, c3, c4, c5, c6⟩, _⟩ := blk7 HK3.out
    have HV1 := hide (HRT0.out wC (HG.out.below HW1.out) HRV1.out)
    go_wp2_with fail
    refine HV1.out.mono ?_
    rintro e wD ⟨rfl, hb1⟩
    have HW2 := hide (HW1.out.trans (hb1.mono HW1.out.size))
    have HK4 := hide (HK3.out.below hb1 HK3.out.lt)
    have HRV2 := hide (HRV1.out.below hb1)
    clear hb1 HV1 c0 c1 c2 c3 c4 c5 c6 HW1 HK3 HRV1
    obtain ⟨⟨c0, c1, c2, c3, c4, c5, c6⟩, _⟩ := blk7 HK4.out
    go_wp2_with fail
    go_round
    case rel => exact ⟨i + 1, by omega, by go_num, by rw [HFI.out], HW2⟩
    case measure => simp [intOf]; omega
  ·have hltz : ¬ (i : Int) < (qs.length : Int) := by omega
   obtain rfl : i = qs.length := by omega
   go_wp2_with fail
   go_ret
   exact ⟨rfl, HW.out⟩
end Go.Proofs.YtmncoldaemcnlaaGreatDoor
