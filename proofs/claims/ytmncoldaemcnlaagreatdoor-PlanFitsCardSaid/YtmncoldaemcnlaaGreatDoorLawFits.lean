/-
  The law PlanFits, walked.
-/
import Derived.Test.YtmncoldaemcnlaaGreatDoorPlanFits
import Derived.Test.YtmncoldaemcnlaaGreatDoorBoth
namespace Go.Proofs.YtmncoldaemcnlaaGreatDoor
open Go.RowKit
open Classical
set_option maxRecDepth 100000
set_option maxHeartbeats 4000000 in
theorem lawFits_walk (t : ByteArray) (x : Int) (w : World) (hG : GlobV w) (hF : FineP w) (hK : KindsP w) (hs : t.size ≤ 9223372036854775807) (h0 : 0 ≤ x) (h1 : x < 18446744073709551616) : Calls Tryz.prog 4 #[.string t, .int .u64 x] w (AtPost w true) := by
  obtain ⟨set, rfl⟩ : ∃ set : Nat, x = (set : Int) := ⟨x.toNat, by omega⟩
  have hset : set < 18446744073709551616 := by omega
  have HBT := hide (both_any t w hG hF hK hs)
  clear hG hF hK h0 h1
  go_enter Tryz.func4, Tryz.ntmps4
  go_wp2_with fail
  refine HBT.out.mono ?_
  rintro e w1 (⟨_, rfl, hb1⟩ | ⟨v, g, qs, qs', its, _, _, hqq, hcr, rfl, hl, hco, hb1⟩)
  · have HB := hide hb1
    clear hb1 HBT
    go_wp2_with fail
    go_ret
    exact ⟨rfl, HB.out⟩
  · have HB := hide hb1
    have HRF := hide (refFits_any v qs its set w1 (hl.mono (Nat.zero_le _)) hcr hset)
    have HCO := hide hco
    have HPF := hide (fun W (h : CatO W w.heap.size g qs') => planFits_any g w.heap.size qs' its set W h (by rw [hqq]; exact hcr) hset)
    rw [hqq] at HPF
    obtain ⟨A, c, rfl, _⟩ := hl.1.len
    unfold FitP at HRF HPF
    generalize fitsF (itemsF (qs.map (·.1))) (qs.map (·.1)) set = p at HRF HPF
    obtain ⟨b, k⟩ := p
    have hkk : (k == k) = true := beq_self_eq_true _
    clear hl hco hb1 HBT hqq hcr
    go_wp2_with fail
    refine HRF.out.mono ?_
    rintro e w2 ⟨rfl, hb2⟩
    have HB2 := hide (HB.out.trans (hb2.mono HB.out.size))
    have HP := hide (HPF.out w2 (HCO.out.below hb2))
    clear hb2 HRF HPF HCO HB
    go_wp2_with fail
    refine HP.out.mono ?_
    rintro e w3 ⟨rfl, hb3⟩
    have HB3 := hide (HB2.out.trans (hb3.mono HB2.out.size))
    clear hb3 HP HB2
    cases b <;>
    · go_wp2_with fail
      go_ret
      exact ⟨rfl, HB3.out⟩
end Go.Proofs.YtmncoldaemcnlaaGreatDoor
