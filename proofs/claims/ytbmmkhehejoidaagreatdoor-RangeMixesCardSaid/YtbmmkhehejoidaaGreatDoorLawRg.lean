/-
  The law RangeParses, walked.
-/
import Derived.Test.YtbmmkhehejoidaaGreatDoorRefParse
import Derived.Test.YtbmmkhehejoidaaGreatDoorRefText
import Derived.Test.YtbmmkhehejoidaaGreatDoorSpParse
namespace Go.Proofs.YtbmmkhehejoidaaGreatDoor
open Go.RowKit
set_option maxRecDepth 100000

/-- What Fine holds. -/
def FineP (w : World) : Prop := w.cell? ⟨0, 0, none⟩ = some (.int .i64 0) ∧ w.cell? ⟨0, 1, none⟩ = some (.int .i64 (-1))
theorem FineP.below {w w' : World} (h : FineP w) (hb : Below w.heap.size w w') : FineP w' := ⟨(hb.cell (lt_of_cell h.1)).trans h.1, (hb.cell (lt_of_cell h.2)).trans h.2⟩
/-- What both parses tell. -/
def BothP (s : ByteArray) (f : Int × Int) : Prop := if 1000 < s.size then f = ((4 : Int), (-1 : Int)) else ∃ q : Int × Nat, rangeR s = .inl q ∧ f = (q.1, (q.2 : Int))
theorem both_one {s : ByteArray} {f g : Int × Int} (h : BothP s f) (k : BothP s g) : f = g := by
  unfold BothP at h k
  split at h
  · rename_i hs
    rw [if_pos hs] at k
    rw [h, k]
  · rename_i hs
    rw [if_neg hs] at k
    obtain ⟨q, h1, rfl⟩ := h
    obtain ⟨p, k1, rfl⟩ := k
    rw [h1] at k1
    injection k1 with k1
    rw [k1]
theorem both_not {s : ByteArray} {f : Int × Int} {l : List (Nat × Nat)} (h : BothP s f) (hs : s.size ≤ 1000) (hr : rangeR s = .inr l) : False := by
  unfold BothP at h
  rw [if_neg (by omega)] at h
  obtain ⟨q, h1, _⟩ := h
  rw [h1] at hr
  cases hr
set_option maxHeartbeats 4000000 in
theorem lawRg_walk (s : ByteArray) (w : World) (hG : GlobV w) (hF : FineP w) (hs : s.size ≤ 9223372036854775807) : Calls Tryz.prog 3 #[.string s] w (AtPost w true) := by
  have HG := hide hG
  have HF := hide hF
  clear hG hF
  by_cases hl : 1100 < s.size
  · have hz : (1100 : Int) < (s.size : Int) := by omega
    go_enter Tryz.func3, Tryz.ntmps3
    go_wp2_with fail
    go_ret
    exact ⟨rfl, Below.refl _ _⟩
  · have hz : ¬ (1100 : Int) < (s.size : Int) := by omega
    have HR := hide (refParse_any s w HG.out HF.out (by omega))
    go_enter Tryz.func3, Tryz.ntmps3
    go_wp2_with fail
    refine HR.out.mono ?_
    rintro e w1 (⟨v3, ⟨f1, f2⟩, hf, hf0, rfl, hb1⟩ | ⟨v3, l, hsl, hr, hc, rfl, ho1, hb1⟩)
    · have HBF := Lib.hid (show BothP s (f1, f2) from hf)
      have HB := hide (hb1.alloc hb1.size (.cells #[.int .i64 f1, .int .i64 f2] 26))
      have HK := hide (Blk.new w1 26 #[.int .i64 f1, .int .i64 f2])
      have HP := hide (spParse_any s _ (HG.out.below HB.out) (by omega))
      have hf0' : ¬ f1 = 0 := hf0
      clear hf hb1 HR hf0
      go_wp2_with fail
      generalize (w1.alloc (.cells #[.int .i64 f1, .int .i64 f2] 26)) = w2 at HB HK HP ⊢
      generalize w1.heap.size = g at HK ⊢
      refine HP.out.mono ?_
      rintro e w3 (⟨u, f', hf', _, rfl, hE, hb3⟩ | ⟨v, l, hsl, hr, _, _, _, _⟩)
      · have e9 := both_one HBF.out hf'
        subst e9
        have HB3 := hide ((HB.out.trans (hb3.mono HB.out.size)).alloc (HB.out.trans (hb3.mono HB.out.size)).size (.cells #[.slice none 0 0] 31))
        have hal := (Below.refl w3.heap.size w3).alloc (Nat.le_refl _) (.cells #[.slice none 0 0] 31)
        have HK3 := hide ((HK.out.below hb3 HK.out.lt).below hal (HK.out.below hb3 HK.out.lt).lt)
        have HKR := hide (Blk.new w3 31 #[.slice none 0 0])
        have HAT := hide (at_anyE u (f1, f2) (f1, f2) _ (HG.out.below HB3.out).e (hE.below hal))
        have n0 := HK3.out.cell 0
        have n1 := HK3.out.cell 1
        rw [atB_self] at HAT
        unfold faultV at HAT
        clear hf' hE hb3 hal HK HP HBF
        go_wp2_with fail
        generalize (w3.alloc (.cells #[.slice none 0 0] 31)) = w4 at HB3 HK3 HKR HAT n0 n1 ⊢
        generalize w3.heap.size = g2 at HKR ⊢
        refine HAT.out.mono ?_
        rintro e w5 ⟨rfl, hb5⟩
        have HE := hide (empty_any (.slice none 0 0) [] w5 (ownP_nil _ _))
        unfold EmptyP at HE
        rw [show decide (([] : List (Nat × Nat)) = []) = true from rfl] at HE
        have m0 := (HK3.out.below hb5 HK3.out.lt).cell 0
        have mr := (HKR.out.below hb5 HKR.out.lt).cell 0
        have HB5 := hide (HB3.out.trans (hb5.mono HB3.out.size))
        have hne : (f1 == 0) = false := beq_eq_false_iff_ne.2 hf0'
        clear hb5 HAT n0 n1 hf0'
        go_wp2_with fail
        refine HE.out.mono ?_
        rintro e w6 ⟨rfl, hb6⟩
        have HB6 := hide (HB5.out.trans (hb6.mono HB5.out.size))
        clear hb6
        go_wp2
        go_ret
        exact ⟨rfl, HB6.out⟩
      · exact (both_not HBF.out hsl hr).elim
    · have HB := hide (hb1.alloc hb1.size (.cells #[.int .i64 0, .int .i64 (-1)] 26))
      have HK := hide (Blk.new w1 26 #[.int .i64 0, .int .i64 (-1)])
      have HP := hide (spParse_any s _ (HG.out.below HB.out) (by omega))
      have HO1 := hide (ho1.below ((Below.refl w1.heap.size w1).alloc (Nat.le_refl _) (.cells #[.int .i64 0, .int .i64 (-1)] 26)))
      have HC := Lib.hid hc
      have HRR := Lib.hid hr
      obtain ⟨A3, c3, rfl⟩ := ho1.len
      clear hb1 HR hc hr ho1
      go_wp2_with fail
      generalize (w1.alloc (.cells #[.int .i64 0, .int .i64 (-1)] 26)) = w2 at HB HK HP HO1 ⊢
      generalize w1.heap.size = g at HK ⊢
      refine HP.out.mono ?_
      rintro e w3 (⟨u, f', hf', _, rfl, hE, hb3⟩ | ⟨v, l', _, hr', _, rfl, ho3, hb3⟩)
      · exact (both_not (show BothP s f' from hf') hsl HRR.out).elim
      · have e9 : l' = l := by
          have h9 := HRR.out
          rw [hr'] at h9
          injection h9
        subst e9
        obtain ⟨A5, c5, rfl⟩ := ho3.len
        have HB3 := hide ((HB.out.trans (hb3.mono HB.out.size)).alloc (HB.out.trans (hb3.mono HB.out.size)).size (.cells #[.slice A5 l'.length c5] 31))
        have hal := (Below.refl w3.heap.size w3).alloc (Nat.le_refl _) (.cells #[.slice A5 l'.length c5] 31)
        have HK3 := hide ((HK.out.below hb3 HK.out.lt).below hal (HK.out.below hb3 HK.out.lt).lt)
        have HKR := hide (Blk.new w3 31 #[.slice A5 l'.length c5])
        have HO3 := hide (ho3.below hal)
        have HO13 := hide ((HO1.out.below hb3).below hal)
        have HAT := hide (at_anyE .nilIface (0, -1) (0, -1) (w3.alloc (.cells #[.slice A5 l'.length c5] 31)) (HG.out.below HB3.out).e (.inl ⟨rfl, rfl⟩))
        have n0 := HK3.out.cell 0
        have n1 := HK3.out.cell 1
        rw [atB_self] at HAT
        unfold faultV at HAT
        clear hr' hb3 hal HK HP HRR HO1 ho3
        go_wp2_with fail
        generalize (w3.alloc (.cells #[.slice A5 l'.length c5] 31)) = w4 at HB3 HK3 HKR HAT HO3 HO13 n0 n1 ⊢
        generalize w3.heap.size = g2 at HKR HO3 ⊢
        refine HAT.out.mono ?_
        rintro e w5 ⟨rfl, hb5⟩
        have HO5 := hide ((HO3.out.below hb5).mono (Nat.zero_le _))
        have HO15 := hide ((HO13.out.below hb5).mono (Nat.zero_le _))
        have HB5 := hide (HB3.out.trans (hb5.mono HB3.out.size))
        have HKR5 := hide (HKR.out.below hb5 HKR.out.lt)
        have HTX := hide (rangeText_any _ l' w5 (HG.out.below HB5.out) HO5.out HC.out)
        have m0 := (HK3.out.below hb5 HK3.out.lt).cell 0
        have mr := HKR5.out.cell 0
        unfold RgTxP at HTX
        clear hb5 HAT n0 n1 HKR HO3 HO13
        go_wp2_with fail
        refine HTX.out.mono ?_
        rintro e w6 ⟨rfl, hb6⟩
        have HB6 := hide (HB5.out.trans (hb6.mono HB5.out.size))
        have HKR6 := hide (HKR5.out.below hb6 HKR5.out.lt)
        have HO6 := hide (HO5.out.below hb6)
        have HRX := hide (refRangeText_any _ l' w6 (HG.out.below HB6.out) (HO15.out.below hb6) HC.out)
        unfold RgTxP at HRX
        have hlen : ((flatI l').length == 0) = decide (l' = []) := by
          rw [flatI_len, flat_len]
          cases l' with
          | nil => rfl
          | cons a r => simp
        generalize baL (rangeT l') = tx at HRX ⊢
        clear hb6 HTX m0 mr HO5 HO15
        go_wp2_with fail
        refine HRX.out.mono ?_
        rintro e w7 ⟨rfl, hb7⟩
        have HB7 := hide (HB6.out.trans (hb7.mono HB6.out.size))
        have mr := (HKR6.out.below hb7 HKR6.out.lt).cell 0
        have HE := hide (empty_any _ l' w7 (HO6.out.below hb7))
        unfold EmptyP at HE
        clear hb7 HRX
        by_cases hl0 : l' = []
        · rw [decide_eq_true hl0] at HE hlen
          have hn : (flatI l').length = 0 := by simpa using hlen
          have hnz : (((flatI l').length : Int) == 0) = true := by rw [hn]; rfl
          clear hlen hn hl0
          go_wp2_with fail
          refine HE.out.mono ?_
          rintro e w8 ⟨rfl, hb8⟩
          have HB8 := hide (HB7.out.trans (hb8.mono HB7.out.size))
          clear hb8
          go_wp2
          go_ret
          exact ⟨ret_bool (by simp), HB8.out⟩
        · rw [decide_eq_false hl0] at HE hlen
          have hn : (flatI l').length ≠ 0 := by simpa using hlen
          have hnz : (((flatI l').length : Int) == 0) = false := beq_eq_false_iff_ne.2 (by omega)
          clear hlen hn hl0
          go_wp2_with fail
          refine HE.out.mono ?_
          rintro e w8 ⟨rfl, hb8⟩
          have HB8 := hide (HB7.out.trans (hb8.mono HB7.out.size))
          clear hb8
          go_wp2
          go_ret
          exact ⟨ret_bool (by simp), HB8.out⟩
end Go.Proofs.YtbmmkhehejoidaaGreatDoor
