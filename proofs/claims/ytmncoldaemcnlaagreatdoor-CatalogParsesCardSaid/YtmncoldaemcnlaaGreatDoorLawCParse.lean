/-
  The law CatalogParses, walked.
-/
import Derived.Test.YtmncoldaemcnlaaGreatDoorCatText
import Derived.Test.YtmncoldaemcnlaaGreatDoorBoth
namespace Go.Proofs.YtmncoldaemcnlaaGreatDoor
open Go.RowKit
open Classical
set_option maxRecDepth 100000

theorem chkL_kindC {x : LnR} (h : chkL x = 0) : 1 ≤ x.k ∧ x.k ≤ 4 := by
  unfold chkL at h
  split at h
  · cases h
  · omega
theorem kinds_of {qs : List LnQ} {its : List ItR} (h : catR (qs.map (·.1)) = .inr its) : qs.length ≤ 100 ∧ ∀ q ∈ qs, 1 ≤ q.1.k ∧ q.1.k ≤ 4 := by
  obtain ⟨_, _, _, h4, h5⟩ := catR_ok h
  exact ⟨by simpa using h4, fun q hq => chkL_kindC (h5 _ (List.mem_map.2 ⟨q, hq, rfl⟩))⟩
theorem hl2_of {w w' : World} {base : Nat} {v : Value} {qs : List LnQ} (h : LnsR w base v qs) (hb : Below w.heap.size w w') : LnsR w' 0 v qs := (h.below hb).mono (Nat.zero_le _)
set_option maxHeartbeats 4000000 in
theorem lawCParse_walk (t : ByteArray) (w : World) (hG : GlobV w) (hF : FineP w) (hK : KindsP w) (hs : t.size ≤ 9223372036854775807) : Calls Tryz.prog 8 #[.string t] w (AtPost w true) := by
  have HG := hide hG
  have HK := hide hK
  have HRT := hide (refTxt_any t w hG hF hK hs)
  clear hG hF hK
  by_cases h1 : (3000 < t.size ∧ t.size ≤ 20000) ∨ 30000 < t.size
  · by_cases h3 : 3000 < t.size
    · have g1 : (3000 : Int) < (t.size : Int) := by omega
      by_cases h2 : t.size ≤ 20000
      · have g2 : (t.size : Int) ≤ 20000 := by omega
        clear h1
        go_enter Tryz.func8, Tryz.ntmps8
        go_wp2_with fail
        go_ret
        exact ⟨rfl, Below.refl _ _⟩
      · have g2 : ¬ (t.size : Int) ≤ 20000 := by omega
        have g3 : (30000 : Int) < (t.size : Int) := by omega
        clear h1
        go_enter Tryz.func8, Tryz.ntmps8
        go_wp2_with fail
        go_ret
        exact ⟨rfl, Below.refl _ _⟩
    · omega
  · have g0 : ((3000 : Int) < (t.size : Int) ∧ ¬ (t.size : Int) ≤ 20000 ∧ ¬ (30000 : Int) < (t.size : Int)) ∨ (¬ (3000 : Int) < (t.size : Int) ∧ (0 : Int) ≤ (t.size : Int) ∧ ¬ (30000 : Int) < (t.size : Int)) := by omega
    clear h1
    rcases g0 with ⟨g1, g2, g3⟩ | ⟨g1, g2, g3⟩
    all_goals
      go_enter Tryz.func8, Tryz.ntmps8
      go_wp2_with fail
      refine HRT.out.mono ?_
      rintro e w1 (⟨f, htx, hf0, rfl, hb1⟩ | ⟨v, qs, its, htx, hcr, rfl, hl, hb1⟩)
      · have hne2 : (f.1 == 0) = false := by simpa using hf0
        have hne : (f.1 != 0) = true := by unfold bne; rw [hne2]; rfl
        have HB := hide (hb1.alloc hb1.size (.cells #[.int .i64 f.1, .int .i64 f.2] 30))
        have HKF := hide (Blk.new w1 30 #[.int .i64 f.1, .int .i64 f.2])
        have HCP := hide (catParse_any t (w1.alloc (.cells #[.int .i64 f.1, .int .i64 f.2] 30)) (HG.out.below HB.out) hs)
        have HTX := Lib.hid htx
        clear htx hb1 hf0 HRT
        go_wp2_with fail
        refine HCP.out.mono ?_
        rintro e w2 (⟨u, f', htx, _, rfl, her, hb2⟩ | ⟨g, qs', htx, _⟩)
        · have hff := Sum.inl.inj (HTX.out.symm.trans htx)
          rw [← hff] at her
          have HB2 := hide (HB.out.trans (hb2.mono HB.out.size))
          have HK2 := hide (HKF.out.below hb2 HKF.out.lt)
          have HAT := hide (at_anyE u f f w2 (HG.out.below HB2.out).e her)
          rw [atB_self] at HAT
          unfold faultV at HAT
          have c0 := HK2.out.cell 0
          have c1 := HK2.out.cell 1
          clear htx hff her hb2 HCP HB HKF
          go_wp2_with fail
          refine HAT.out.mono ?_
          rintro e w3 ⟨rfl, hb3⟩
          have HB3 := hide (HB2.out.trans (hb3.mono HB2.out.size))
          clear hb3 HAT c0 c1
          go_wp2_with fail
          go_ret
          exact ⟨rfl, HB3.out⟩
        · rw [HTX.out] at htx; cases htx
      · have HB := hide (hb1.alloc hb1.size (.cells #[.int .i64 0, .int .i64 (-1)] 30))
        have hal := (Below.refl w1.heap.size w1).alloc (Nat.le_refl _) (.cells #[.int .i64 0, .int .i64 (-1)] 30)
        have HL := hide (hl.below hal)
        have HKF := hide (Blk.new w1 30 #[.int .i64 0, .int .i64 (-1)])
        have HCP := hide (catParse_any t (w1.alloc (.cells #[.int .i64 0, .int .i64 (-1)] 30)) (HG.out.below HB.out) hs)
        have HTX := Lib.hid htx
        have HCR := Lib.hid hcr
        clear htx hcr hl hb1 hal HRT
        obtain ⟨A, c, rfl, _⟩ := HL.out.1.len
        go_wp2_with fail
        refine HCP.out.mono ?_
        rintro e w2 (⟨u, f, htx, _⟩ | ⟨g, qs', htx, rfl, hco, hb2⟩)
        · rw [HTX.out] at htx; cases htx
        · have hq := (Sum.inr.inj (HTX.out.symm.trans htx)).symm
          have hcr' := HCR.out
          rw [← hq] at hcr'
          have hk1 := kinds_of HCR.out
          have hk2 := kinds_of hcr'
          have HL2 := hide (hl2_of HL.out hb2)
          have HB2 := hide (HB.out.trans (hb2.mono HB.out.size))
          have HCT := hide (catText_any g _ qs' w2 (HG.out.below HB2.out) hco hk2.1 hk2.2)
          have HRC := hide (fun W (hb : Below w.heap.size w W) (h : LnsR W 0 (.slice A qs.length c) qs) => refCatText_any (.slice A qs.length c) qs W (HG.out.below hb) (HK.out.below hb) h hk1.1 hk1.2)
          rw [hq] at HCT
          unfold CatTxP at HCT HRC
          generalize catTx (qs.map (·.1)) = s at HCT HRC
          have hss : (s.toList == s.toList) = true := beq_self_eq_true _
          have c0 := (HKF.out.below hb2 HKF.out.lt).cell 0
          clear htx hco hb2 HCP hq hcr' hk1 hk2 HL HB HKF HCR HTX
          go_wp2_with fail
          refine HCT.out.mono ?_
          rintro e w3 ⟨rfl, hb3⟩
          have HB3 := hide (HB2.out.trans (hb3.mono HB2.out.size))
          have HR3 := hide (HRC.out w3 HB3.out (HL2.out.below hb3))
          clear hb3 HCT HRC HB2 HL2 c0
          go_wp2_with fail
          refine HR3.out.mono ?_
          rintro e w4 ⟨rfl, hb4⟩
          have HB4 := hide (HB3.out.trans (hb4.mono HB3.out.size))
          clear hb4 HR3 HB3
          go_wp2_with fail
          go_ret
          exact ⟨rfl, HB4.out⟩
end Go.Proofs.YtmncoldaemcnlaaGreatDoor
