/-
  The law FamilyMeans, walked.
-/
import Derived.Test.YtdlcldhnbhlikaaGreatDoorLawFamSame
import Derived.Test.YtdlcldhnbhlikaaGreatDoorFamLs
import Derived.Test.YtdlcldhnbhlikaaGreatDoorFamOne
import Derived.Test.YtdlcldhnbhlikaaGreatDoorLawOfs
import Derived.Deep.RegionHeld3
namespace Go.Proofs.YtdlcldhnbhlikaaGreatDoor
open Go.RowKit Go.Maps

theorem told_oneF (wx : World) (N : Nat) (hG : GlobT (wx.alloc (.cells #[.int .i64 (N : Int)] 3))) (hN : N ≤ 64) :
    Calls Tryz.prog 17 #[.slice (some ⟨wx.heap.size, 0, none⟩) 1 1] (wx.alloc (.cells #[.int .i64 (N : Int)] 3)) (ToldPost (wx.alloc (.cells #[.int .i64 (N : Int)] 3)) [(N : Int)]) :=
  textW_any (some ⟨wx.heap.size, 0, none⟩) 1 1 [(N : Int)] _ hG (one_int wx N (by unfold I64; omega)) (by omega)
set_option maxRecDepth 100000 in
set_option maxHeartbeats 8000000 in
theorem lawFamMeans_walk (vars : Int) (Al : Option Addr) (n c : Nat) (q : Nat → Four) (w : World) (hT : GlobT w) (hE : GlobE w) (hq : FourP w Al n q) :
    Calls Tryz.prog 4 #[.int .i64 vars, .slice Al n c] w (AtPost w true) := by
  have HM := hide (setsF_any vars Al n c q w hq)
  have HT := hide hT
  have HE := hide hE
  clear hq hT hE
  go_enter Tryz.func4, Tryz.ntmps4
  go_wp2_with fail
  refine (HM.out).mono ?_
  rintro e w1 (⟨_, rfl, rfl⟩ | ⟨hn, vn, rfl, h6, S, B, gn, gu, gt, vh, vt, rfl, hm⟩)
  · go_wp2
    go_ret
    exact ⟨rfl, Below.refl _ _⟩
  · obtain ⟨L, g, g', c1, c2, A, hs, gs, rfl, rfl, hr⟩ := hm.rows
    have HR := hide hr
    have hL : L ≤ 22 := by have := hr.len; omega
    have hbw := hr.bel
    have HGT := hide (fun (wx : World) (hb : Below w1.heap.size w1 wx) => HT.out.below (hbw.trans (hb.mono hbw.size)))
    have HGE := hide (fun (wx : World) (hb : Below w1.heap.size w1 wx) => HE.out.below (hbw.trans (hb.mono hbw.size)))
    clear hm hr HM hbw
    go_wp2
    go_loopw [9] (fun iv wr => ∃ k : Nat, k ≤ L ∧ iv = .int .i64 k ∧ Hid (Below w1.heap.size w1 wr)) (fun iv _ => L - (intOf iv).toNat)
    case atStart => exact ⟨0, Nat.zero_le _, rfl, hide (Below.refl _ _)⟩
    case round =>
      obtain ⟨k, hk, rfl, HB⟩ := hrel
      by_cases hlt : k < L
      · have hkI : (k : Int) < (L : Int) := by omega
        have hr := HR.out.below HB.out
        have hgl := hr.lt
        have HCT := Lib.hid (fun (wx : World) (hb : Below wr.heap.size wr wx) => (hb.cell (p := ⟨g', k, none⟩) hgl.2).trans (hr.t k hlt))
        have HCH := Lib.hid (fun (wx : World) (hb : Below wr.heap.size wr wx) => (hb.cell (p := ⟨g, k, none⟩) hgl.1).trans (hr.h k hlt))
        have HSP := hide hr.sp
        have HMP := hide (hr.map hlt)
        have hp := hr.hask hlt
        have hfe : fam A (hs.getD k 0) = famF vn q n k := funext fun s => hr.famk hlt s
        obtain ⟨F, HXF⟩ : ∃ F, Hid (famF vn q n k = F) := ⟨_, Lib.hid rfl⟩
        obtain ⟨p, HXP⟩ : ∃ p, Hid (gs.getD k 0 = p) := ⟨_, Lib.hid rfl⟩
        obtain ⟨x, HXX⟩ : ∃ x, Hid (hs.getD k 0 = x) := ⟨_, Lib.hid rfl⟩
        rw [HXF.out] at HMP hfe
        rw [HXP.out] at HCT HMP
        rw [HXX.out] at hp hfe HCH
        have HP := Lib.hid hp
        have HFE := Lib.hid hfe
        have ct := HCT.out wr (Below.refl _ _)
        have HSE := hide (refSets_any p F wr HMP.out)
        unfold mapV at ct
        clear hr hp hfe
        go_wp2_with fail
        refine (HSE.out).mono ?_
        rintro e w2 ⟨vw, rfl, hvw, hb2⟩
        obtain ⟨Aw, cw, rfl⟩ := hvw.len
        have HVW := hide hvw
        have HB2 := hide hb2
        have ch := HCH.out w2 hb2
        have hlen := sets_len F
        have HLS := hide (fun (wx : World) (hb : Below w2.heap.size w2 wx) (most : Int) => fzList_any S B gn gu gt (vn : Int) A wx x most (HSP.out.below (hb2.trans (hb.mono hb2.size))) HP.out)
        rw [HFE.out] at HLS
        clear hvw hb2 HSE ct
        obtain ⟨N, HN⟩ : ∃ N, Hid ((setsL F).length = N) := ⟨_, Lib.hid rfl⟩
        have HNS := Lib.hid (show numS F = N from HN.out)
        rw [HN.out] at HVW hlen ⊢
        have HL1 := hide (HLS.out w2 (Below.refl _ _) (N : Int))
        have HL2 := hide (fun (wx : World) (hb : Below w2.heap.size w2 wx) => (HLS.out wx hb ((N : Int) - 1)).mono fun e w' hp => show e = .returned (.tuple #[.slice none 0 0, .iface 37 (.int .i64 4)]) ∧ Below wx.heap.size wx w' from by
          obtain ⟨⟨hle, _⟩ | ⟨_, he⟩, hb2⟩ := hp
          · rw [HNS.out] at hle
            omega
          · exact ⟨he, hb2⟩)
        clear HLS
        go_wp2_with fail
        refine (HL1.out).mono ?_
        rintro e w3 ⟨⟨_, v1, rfl, hv1⟩ | ⟨hbad, _⟩, hb3⟩
        case inr => rw [HNS.out] at hbad; omega
        obtain ⟨A1, c1', rfl⟩ := hv1.len
        rw [HN.out] at hv1 ⊢
        have HV1 := hide hv1
        have HB3 := hide hb3
        have ch3 := HCH.out w3 (HB2.out.trans (hb3.mono HB2.out.size))
        have HCN := hide (fzCount_any S B gn gu gt (vn : Int) A w3 x (HSP.out.below (HB2.out.trans (hb3.mono HB2.out.size))) HP.out)
        rw [HFE.out, HNS.out] at HCN
        clear hv1 hb3 HL1 ch
        go_wp2_with fail
        refine (HCN.out).mono ?_
        rintro e w4 ⟨v4, rfl, hv4, hb4⟩
        obtain ⟨Ad, nd, cd, rfl⟩ := hv4.form
        have hbx := (Below.refl w4.heap.size w4).alloc (Nat.le_refl _) (.cells #[.slice Ad nd cd] 51)
        have HV4 := hide (hv4.below hbx)
        have HK4 := hide (Blk.new w4 51 #[.slice Ad nd cd])
        have HB4 := hide (HB3.out.trans ((hb4.trans (hbx.mono hb4.size)).mono HB3.out.size))
        have ch4 := HCH.out _ (HB2.out.trans (HB4.out.mono HB2.out.size))
        have HL24 := hide (HL2.out _ HB4.out)
        have HV14 := hide (HV1.out.below (hb4.trans (hbx.mono hb4.size)))
        clear hbx hv4 hb4 ch3 HCN HL2
        go_wp2_with fail
        refine (HL24.out).mono ?_
        rintro e w5 ⟨rfl, hb5⟩
        have HB5 := hide (HB4.out.trans (hb5.mono HB4.out.size))
        have HV5 := hide (HV4.out.below hb5)
        have HK5 := hide (HK4.out.below hb5 HK4.out.lt)
        generalize w4.heap.size = bx at HK5 ⊢
        have c5 := HK5.out.cell 0
        have HVW5 := hide (HVW.out.below HB5.out)
        have HV15 := hide (HV14.out.below hb5)
        have HBA := hide (HB.out.trans ((HB2.out.trans (HB5.out.mono HB2.out.size)).mono HB.out.size))
        have HBR := hide (bareB_any (.iface 37 (.int .i64 4)) 4 w5 (HGE.out _ HBA.out) (.inr (.inl ⟨rfl, by omega, by omega, rfl⟩)))
        unfold AtPost at HBR
        clear hb5 HL24 ch4 HV4 HK4 HB4 HVW HV1 HV14
        go_wp2_with fail
        refine (HBR.out).mono ?_
        rintro e w6 ⟨rfl, hb6⟩
        have HB6 := hide hb6
        have HSM := hide ((sameSets_any _ _ _ _ (setsL F) (setsL F) w6 (HV15.out.below hb6) (HVW5.out.below hb6) (by rw [HN.out]; omega)).mono fun e w' hp => show e = .returned (.bool true) ∧ Below w6.heap.size w6 w' from ⟨by rw [hp.1, decide_eq_true rfl], by obtain ⟨q, hq⟩ := hp.2; rw [hq]; exact below_drewN (Below.refl _ _) q⟩)
        have c6 := (hb6.cell (p := ⟨bx, 0, none⟩) HK5.out.lt).trans c5
        clear hb6 HBR c5 HV15 HVW5
        go_wp2_with fail
        refine (HSM.out).mono ?_
        rintro e w7 ⟨rfl, hb7⟩
        have HB7 := hide (HB6.out.trans (hb7.mono HB6.out.size))
        have c7 := (hb7.cell (p := ⟨bx, 0, none⟩) (Nat.lt_of_lt_of_le HK5.out.lt HB6.out.size)).trans c6
        have hT3 : N < 10 ^ (9 * 3) := Nat.lt_of_le_of_lt hlen (by decide)
        have hT4 : N < 18446744073709551616 := by omega
        have HTX := hide (text_any _ N 3 2 w7 (HV5.out.below HB7.out) hT3 (by omega) ((HV5.out.below HB7.out).two hT4) (by omega))
        obtain ⟨tx, HTT⟩ : ∃ tx : ByteArray, Hid ((⟨(Lib.decDigits N).toArray⟩ : ByteArray) = tx) := ⟨_, Lib.hid rfl⟩
        unfold TextPost at HTX
        rw [HTT.out] at HTX
        clear hb7 HSM c6 hT3 hT4 HB6
        go_wp2_with fail
        refine (HTX.out).mono ?_
        rintro e w8 ⟨rfl, hb8⟩
        have HB8 := hide (HB7.out.trans (hb8.mono HB7.out.size))
        have hba := (Below.refl w8.heap.size w8).alloc (Nat.le_refl _) (.cells #[.int .i64 (N : Int)] 3)
        have HTD := hide (told_oneF w8 N (HGT.out _ (HBA.out.trans ((HB8.out.trans (hba.mono HB8.out.size)).mono HBA.out.size))) (by omega))
        unfold ToldPost at HTD
        rw [text_one, HTT.out] at HTD
        have HB9 := hide (HBA.out.trans ((HB8.out.trans (hba.mono HB8.out.size)).mono HBA.out.size))
        clear hb8 hba HTX c7
        go_wp2_with fail
        refine (HTD.out).mono ?_
        rintro e wz ⟨rfl, hbz⟩
        have HBZ := hide (HB9.out.trans (hbz.mono HB9.out.size))
        clear hbz HTD HB9 HB8 HB7
        have hss : (tx.toList == tx.toList) = true := by simp
        have hsn : (!(tx.toList == tx.toList)) = false := by simp
        have HSPz := hide (fun (wx : World) (hb : Below w1.heap.size w1 wx) => (HR.out.below hb).sp)
        have HMPz := hide (fun (wx : World) (hb : Below w1.heap.size w1 wx) => (HR.out.below hb).map hlt)
        have HCz := Lib.hid (fun (wx : World) (hb : Below w1.heap.size w1 wx) => And.intro ((HR.out.below hb).h k hlt) ((HR.out.below hb).t k hlt))
        rw [HXF.out] at HMPz
        rw [HXP.out] at HMPz HCz
        rw [HXX.out] at HCz
        have hmin : min vn 64 = vn := by omega
        obtain ⟨hp1, _⟩ := pow_u6 vn (by omega)
        have hp64 : 2 ^ vn ≤ 64 := Nat.pow_le_pow_right (show 0 < 2 by omega) (show vn ≤ 6 by omega)
        obtain ⟨pv, hpv⟩ : ∃ pv, 2 ^ vn = pv := ⟨_, rfl⟩
        rw [hpv] at hp1 hp64
        have HPV := Lib.hid hpv
        clear hpv
        go_wp2
        go_loopw [17] (fun iv wx => ∃ y : Nat, y ≤ pv ∧ iv = .int .u64 (y : Int) ∧ Hid (Below w1.heap.size w1 wx)) (fun iv _ => pv - (intOf iv).toNat)
        case atStart => exact ⟨0, Nat.zero_le _, rfl, HBZ⟩
        case round =>
          clear HBZ
          obtain ⟨y, hy, rfl, HBY⟩ := hrel
          by_cases hlty : y < pv
          · have hyI : (y : Int) < (pv : Int) := by omega
            obtain ⟨ch, ct⟩ := HCz.out wr HBY.out
            have HIN := hide (fzIn_any S B gn gu gt A wr vn y x (HSPz.out wr HBY.out) HP.out (by rw [HPV.out]; exact hlty))
            unfold InP at HIN
            rw [HFE.out] at HIN
            unfold mapV at ct
            obtain ⟨b, hb⟩ : ∃ b, F y = b := ⟨_, rfl⟩
            have HLK := Lib.hid (fun (wx : World) (hbx : Below w1.heap.size w1 wx) => MapU.lookRun Tryz.underlying45 (HMPz.out wx hbx) y (by omega))
            rw [hb] at HIN HLK
            clear hb ct
            cases b
            all_goals
              go_wp2_with fail
              refine (HIN.out).mono ?_
              rintro e wb ⟨rfl, hbb⟩
              have HBB := hide (HBY.out.trans (hbb.mono HBY.out.size))
              have ct := (HCz.out wb HBB.out).2
              have hlk := HLK.out wb HBB.out
              unfold mapV at ct
              clear hbb HIN HLK ch
              go_wp2
              go_roundw
              case rel => exact ⟨y + 1, by omega, by go_num, HBB⟩
              case measure => simp [intOf]; omega
          · obtain rfl : y = pv := by omega
            go_wp2
            go_roundw
            case rel => exact ⟨k + 1, by omega, by go_num, HBY⟩
            case measure => simp [intOf]; omega
      · obtain rfl : k = L := by omega
        have HBE := hide (HR.out.bel.trans (HB.out.mono HR.out.bel.size))
        go_wp2
        go_ret
        exact ⟨rfl, HBE.out⟩
end Go.Proofs.YtdlcldhnbhlikaaGreatDoor
