/-
  A range's text, as the document writes it.
-/
import Derived.Test.YtmncoldaemcnlaaGreatDoorSpText
import Derived.Test.YtmncoldaemcnlaaGreatDoorRefOps
import Derived.IntWalk
namespace Go.Proofs.YtmncoldaemcnlaaGreatDoor
open Go.RowKit
set_option maxRecDepth 100000

theorem add_succ (ad : Addr) (j : Nat) : ad.add (j + 1) = ⟨ad.block, ad.off + (j + 1), none⟩ := by
  unfold Addr.add
  split
  · rename_i h
    omega
  · rfl
theorem flat_two : ∀ (l : List (Nat × Nat)) (k : Nat), k < l.length → (flat l)[2 * k]? = some (l.getD k (0, 0)).1 ∧ (flat l)[2 * k + 1]? = some (l.getD k (0, 0)).2
  | [], k, h => absurd h (Nat.not_lt_zero _)
  | s :: l, 0, _ => ⟨rfl, rfl⟩
  | s :: l, k + 1, h => by
    have ih := flat_two l k (by simpa using h)
    rw [flat_cons, show 2 * (k + 1) = 2 * k + 1 + 1 by omega]
    simpa using ih
theorem flatI_two (l : List (Nat × Nat)) {k : Nat} (h : k < l.length) : (intsV (flatI l))[2 * k]? = some (.int .i64 ((l.getD k (0, 0)).1 : Int)) ∧ (intsV (flatI l))[2 * k + 1]? = some (.int .i64 ((l.getD k (0, 0)).2 : Int)) := by
  obtain ⟨h1, h2⟩ := flat_two l k h
  unfold intsV flatI
  rw [List.map_map, List.getElem?_map, List.getElem?_map, h1, h2]
  exact ⟨rfl, rfl⟩
theorem refRangeText_none (v : Value) (w : World) (h : OwnI w 0 v (flatI [])) : Calls Tryz.prog 13 #[v] w (RgTxP [] w) := by
  obtain ⟨A, c, rfl⟩ := h.len
  clear h
  go_enter Tryz.func13, Tryz.ntmps13
  rw [show (flatI []).length = 0 from rfl]
  go_wp2_with fail
  go_ret
  exact ⟨rfl, Below.refl _ _⟩
set_option maxHeartbeats 8000000 in
theorem refRangeText_any (v : Value) (l : List (Nat × Nat)) (w : World) (hG : GlobV w) (h : OwnI w 0 v (flatI l)) (hc : CanF 0 l) : Calls Tryz.prog 13 #[v] w (RgTxP l w) := by
  by_cases hl : l = []
  · subst hl
    exact refRangeText_none v w h
  · have HLEN := Lib.hid (can_len hc)
    have HJL := Lib.hid (range_len hc)
    have HJN := Lib.hid (rangeT_join hl)
    have HNE := Lib.hid hl
    have HCF := Lib.hid hc.all
    have hflen : (flatI l).length = 2 * l.length := by rw [flatI_len, flat_len]
    have hl0 : 0 < l.length := List.length_pos_iff.2 hl
    clear hl hc
    obtain ⟨A, c, rfl⟩ := h.len
    have hrow := h.row
    rw [hflen] at hrow ⊢
    obtain ⟨N, hN⟩ : ∃ N, N = 2 * l.length := ⟨_, rfl⟩
    rw [← hN] at hrow ⊢
    have hN0 : 0 < N := by omega
    have hNz : ¬ (N : Int) = 0 := by omega
    have hNb : ((N : Int) == 0) = false := beq_eq_false_iff_ne.2 hNz
    have HN := Lib.hid hN
    obtain ⟨ad, _, rfl, _, _, _⟩ := hrow.2.at_ hN0
    have HR := hide hrow
    have HST := hide (show SpTI w l 0 (.slice none 0 0) w from ⟨Below.refl _ _, World.ownsRow_nil _ _ _ _⟩)
    clear h hrow hflen hl0 hN hNz
    go_enter Tryz.func13, Tryz.ntmps13
    go_wp2_with fail
    go_loopw [3, 4] (fun v3 v4 wr => ∃ k j : Nat, j ≤ N ∧ v4 = .int .i64 j ∧ Hid (j = 2 * k) ∧ Hid (SpTI w l k v3 wr)) (fun _ v4 _ => N - (intOf v4).toNat)
    case atStart => exact ⟨0, 0, Nat.zero_le _, rfl, Lib.hid rfl, HST⟩
    case round =>
      clear HST
      obtain ⟨k, j, hj0, rfl, HJK, HM⟩ := hrel
      by_cases hjl : j < N
      · have hkz : (j : Int) < (N : Int) := by omega
        have hk : k < l.length := by have := HJK.out; have := HN.out; omega
        have hj1 : j + 1 < N := by have := HJK.out; have := HN.out; omega
        have hj1z : (j : Int) + 1 < (N : Int) := by omega
        obtain ⟨_, u, e9, hbl, d1, d2⟩ := HR.out.2.at_ hjl
        obtain ⟨_, u', e9', hbl', d1', d2'⟩ := HR.out.2.at_ hj1
        injection e9 with e9
        injection e9' with e9'
        subst e9 e9'
        obtain ⟨f1, f2⟩ := flatI_two l hk
        rw [← HJK.out] at f1 f2
        rw [f1] at d1
        rw [f2] at d1'
        injection d1 with d1
        injection d1' with d1'
        subst d1 d1'
        have c0 := (HM.out.bel.cell (by rw [block_of_add]; exact hbl)).trans d2
        have c1 := (HM.out.bel.cell (by rw [block_of_add]; exact hbl')).trans d2'
        have hNmax : (N : Int) ≤ 2000000000 := by have := HN.out; have := HLEN.out; unfold endR at this; omega
        obtain ⟨_, h12, h2e⟩ := HCF.out _ (getD_mem l hk)
        have HLK := Lib.hid (show ((l.map spB).take k).length ≤ 4000000000 by rw [List.length_take, List.length_map]; have := HLEN.out; unfold endR at this; omega)
        obtain ⟨a, b, hab⟩ : ∃ a b : Nat, l.getD k (0, 0) = (a, b) := ⟨_, _, rfl⟩
        have HAB := Lib.hid hab
        rw [hab] at c0 c1 h12 h2e
        simp only at c0 c1 h12 h2e
        clear f1 f2 d2 d2' hab hbl hbl'
        have HBW := hide HM.out.bel
        have HVa := hide (fun W (hb : Below w.heap.size w W) => show Calls Tryz.prog 52 #[.int .i64 (a : Int)] W (StrP (verB a) W) from vers_any a (by omega) W (hG.below hb))
        have HVb := hide (fun W (hb : Below w.heap.size w W) => show Calls Tryz.prog 52 #[.int .i64 (b : Int)] W (StrP (verB b) W) from vers_any b (by omega) W (hG.below hb))
        have HVo := hide (fun W (hb : Below w.heap.size w W) => show Calls Tryz.prog 52 #[.int .i64 0] W (StrP (verB 0) W) from vers_any 0 (by omega) W (hG.below hb))
        have hsa := verB_size a (by omega)
        have hsb := verB_size b (by omega)
        have hso := verB_size 0 (by unfold endR; omega)
        have HDa := Lib.hid (verB_data a)
        have HDb := Lib.hid (verB_data b)
        generalize verB a = sa at HVa hsa HDa
        generalize verB b = sb at HVb hsb HDb
        generalize verB 0 = so at HVo hso
        unfold StrP at HVa HVb HVo
        rw [add_succ] at c1
        generalize hza : (a : Int) = za at c0 HVa
        generalize hzb : (b : Int) = zb at c1 HVb
        have haz : 0 ≤ za := by omega
        have haz2 : za ≤ 1000000000 := by unfold endR at h2e; omega
        have hbz0 : 0 ≤ zb := by omega
        have hbz : zb ≤ 1000000000 := by unfold endR at h2e; omega
        have hgr : Hid (∀ n, Below wr.heap.size wr (wr.drewN n)) := Lib.hid (fun n => below_drewN (Below.refl _ _) n)
        have adds : ∀ (a b : ByteArray), a.size + b.size ≤ 1000 → ∀ w : World, (Op.stringOp .add a b).run Tryz.prog w = .ok (.string (a ++ b)) w := fun a b h w => run_string_add_sum (P := Tryz.prog) w a b (by omega)
        by_cases he : b = endR
        · have hE : (zb == 1000000000) = true := beq_iff_eq.2 (by unfold endR at he; omega)
          have hE2 : zb % 1000000000 = 0 := by unfold endR at he; omega
          by_cases hf : a = 0
          · have hF : (za == 0) = true := beq_iff_eq.2 (by omega)
            by_cases ho : b = a + 1
            · have hO : (zb == za + 1) = true := beq_iff_eq.2 (by omega)
              exfalso
              unfold endR at he
              omega
            · have hO : (zb == za + 1) = false := beq_eq_false_iff_ne.2 (by omega)
              have q1 := adds ⟨#[62, 61]⟩ sa (by show 2 + sa.size ≤ 1000; omega)
              have q2 := adds (⟨#[62, 61]⟩ ++ sa) ⟨#[32, 60]⟩ (by rw [ByteArray.size_append]; show 2 + sa.size + 2 ≤ 1000; omega)
              have q3 := adds (⟨#[62, 61]⟩ ++ sa ++ ⟨#[32, 60]⟩) so (by rw [ByteArray.size_append, ByteArray.size_append]; show 2 + sa.size + 2 + so.size ≤ 1000; omega)
              have q4 := adds ⟨#[60]⟩ so (by show 1 + so.size ≤ 1000; omega)
              clear adds
              have HHE := Lib.hid he
              have HHF := Lib.hid hf
              have HHO := Lib.hid ho
              have HH1 := Lib.hid h12
              have HH2 := Lib.hid h2e
              clear he hf ho h12 h2e
              have HZA := Lib.hid hza
              have HZB := Lib.hid hzb
              clear hza hzb
              have y1 : IntKind.i64.wrap ((j : Int) + 1) = (j : Int) + 1 := IntWalk.i64_in _ (by omega)
              have y2 : (0 : Int) ≤ (j : Int) + 1 := by omega
              have y3 : ((j : Int) + 1).toNat = j + 1 := by omega
              have y4 : (0 : Int) ≤ (j : Int) := by omega
              go_wp2_with fail
              go_quiet (fail)
              clear y1 y2 y3 y4
              rename_i nq
              have HQ := hide (hgr.out nq)
              clear hgr c0 c1
              generalize wr.drewN nq = wq at HQ ⊢
              go_wp2_with fail
              refine (HVa.out _ (HBW.out.trans (HQ.out.mono HBW.out.size))).mono ?_
              rintro e wb ⟨rfl, hbb⟩
              have HQ2 := hide (HQ.out.trans (hbb.mono HQ.out.size))
              clear hbb HQ
              have HQ := HQ2
              clear HQ2
              go_wp2_with fail
              refine (HVo.out _ (HBW.out.trans (HQ.out.mono HBW.out.size))).mono ?_
              rintro e wb ⟨rfl, hbb⟩
              have HQ2 := hide (HQ.out.trans (hbb.mono HQ.out.size))
              clear hbb HQ
              have HQ := HQ2
              clear HQ2
              go_wp2_with fail
              refine (HVa.out _ (HBW.out.trans (HQ.out.mono HBW.out.size))).mono ?_
              rintro e wb ⟨rfl, hbb⟩
              have HQ2 := hide (HQ.out.trans (hbb.mono HQ.out.size))
              clear hbb HQ
              have HQ := HQ2
              clear HQ2
              go_wp2_with fail
              refine (HVo.out _ (HBW.out.trans (HQ.out.mono HBW.out.size))).mono ?_
              rintro e wb ⟨rfl, hbb⟩
              have HQ2 := hide (HQ.out.trans (hbb.mono HQ.out.size))
              clear hbb HQ
              have HQ := HQ2
              clear HQ2
              have HOA := hide ((HM.out.own.below HQ.out).below ((Below.refl wb.heap.size wb).alloc (Nat.le_refl _) (.cells #[.string ⟨#[97, 110, 121]⟩] 9)))
              have HCA := blkS wb ⟨#[97, 110, 121]⟩
              have HB3 := hide (HQ.out.trans (((Below.refl wb.heap.size wb).alloc (Nat.le_refl _) (.cells #[.string ⟨#[97, 110, 121]⟩] 9)).mono HQ.out.size))
              have HSZ := Lib.hid (Nat.le_trans HM.out.bel.size HB3.out.size)
              have HX := Lib.hid (show ⟨#[97, 110, 121]⟩ = spB (l.getD k (0, 0)) from bytesT (by have he := HHE.out; have hf := HHF.out; have ho := HHO.out; have h12 := HH1.out; have h2e := HH2.out; rw [HAB.out]; unfold spanT; rw [if_neg (show ¬ b = a + 1 by omega), if_neg (show ¬ 0 < a by omega), if_neg (show ¬ b < endR by omega)]; rfl))
              go_wp2_with (at_builtin; refine appStr _ rfl _ _ _ rfl w.heap.size Tryz.underlying108 _ ((l.map spB).take k) rfl HOA.out wb.heap.size 1 rfl ⟨#[97, 110, 121]⟩ HCA HLK.out HSZ.out ?_; intro v9 w9 ho9 hg9 hor9; have HNX := hide (HM.out.next HB3.out hk HX.out ho9 hg9); clear ho9 hg9 hor9)
              go_round
              case rel => exact ⟨k + 1, j + 2, by omega, by go_num, Lib.hid (by have := HJK.out; omega), HNX⟩
              case measure => simp [intOf]; omega
          · have hF : (za == 0) = false := beq_eq_false_iff_ne.2 (by omega)
            by_cases ho : b = a + 1
            · have hO : (zb == za + 1) = true := beq_iff_eq.2 (by omega)
              have q1 := adds ⟨#[62, 61]⟩ sa (by show 2 + sa.size ≤ 1000; omega)
              have q2 := adds (⟨#[62, 61]⟩ ++ sa) ⟨#[32, 60]⟩ (by rw [ByteArray.size_append]; show 2 + sa.size + 2 ≤ 1000; omega)
              have q3 := adds (⟨#[62, 61]⟩ ++ sa ++ ⟨#[32, 60]⟩) so (by rw [ByteArray.size_append, ByteArray.size_append]; show 2 + sa.size + 2 + so.size ≤ 1000; omega)
              have q4 := adds ⟨#[60]⟩ so (by show 1 + so.size ≤ 1000; omega)
              clear adds
              have HHE := Lib.hid he
              have HHF := Lib.hid hf
              have HHO := Lib.hid ho
              have HH1 := Lib.hid h12
              have HH2 := Lib.hid h2e
              clear he hf ho h12 h2e
              have HZA := Lib.hid hza
              have HZB := Lib.hid hzb
              clear hza hzb
              have y1 : IntKind.i64.wrap ((j : Int) + 1) = (j : Int) + 1 := IntWalk.i64_in _ (by omega)
              have y2 : (0 : Int) ≤ (j : Int) + 1 := by omega
              have y3 : ((j : Int) + 1).toNat = j + 1 := by omega
              have y4 : (0 : Int) ≤ (j : Int) := by omega
              go_wp2_with fail
              go_quiet (fail)
              clear y1 y2 y3 y4
              rename_i nq
              have HQ := hide (hgr.out nq)
              clear hgr c0 c1
              generalize wr.drewN nq = wq at HQ ⊢
              go_wp2_with fail
              refine (HVa.out _ (HBW.out.trans (HQ.out.mono HBW.out.size))).mono ?_
              rintro e wb ⟨rfl, hbb⟩
              have HQ2 := hide (HQ.out.trans (hbb.mono HQ.out.size))
              clear hbb HQ
              have HQ := HQ2
              clear HQ2
              go_wp2_with fail
              refine (HVo.out _ (HBW.out.trans (HQ.out.mono HBW.out.size))).mono ?_
              rintro e wb ⟨rfl, hbb⟩
              have HQ2 := hide (HQ.out.trans (hbb.mono HQ.out.size))
              clear hbb HQ
              have HQ := HQ2
              clear HQ2
              go_wp2_with fail
              refine (HVa.out _ (HBW.out.trans (HQ.out.mono HBW.out.size))).mono ?_
              rintro e wb ⟨rfl, hbb⟩
              have HQ2 := hide (HQ.out.trans (hbb.mono HQ.out.size))
              clear hbb HQ
              have HQ := HQ2
              clear HQ2
              go_wp2_with fail
              refine (HVa.out _ (HBW.out.trans (HQ.out.mono HBW.out.size))).mono ?_
              rintro e wb ⟨rfl, hbb⟩
              have HQ2 := hide (HQ.out.trans (hbb.mono HQ.out.size))
              clear hbb HQ
              have HQ := HQ2
              clear HQ2
              have HOA := hide ((HM.out.own.below HQ.out).below ((Below.refl wb.heap.size wb).alloc (Nat.le_refl _) (.cells #[.string sa] 9)))
              have HCA := blkS wb sa
              have HB3 := hide (HQ.out.trans (((Below.refl wb.heap.size wb).alloc (Nat.le_refl _) (.cells #[.string sa] 9)).mono HQ.out.size))
              have HSZ := Lib.hid (Nat.le_trans HM.out.bel.size HB3.out.size)
              have HX := Lib.hid (show sa = spB (l.getD k (0, 0)) from bytesT (by have he := HHE.out; have hf := HHF.out; have ho := HHO.out; have h12 := HH1.out; have h2e := HH2.out; rw [HAB.out]; unfold spanT; rw [if_pos (show b = a + 1 by omega), HDa.out]))
              go_wp2_with (at_builtin; refine appStr _ rfl _ _ _ rfl w.heap.size Tryz.underlying108 _ ((l.map spB).take k) rfl HOA.out wb.heap.size 1 rfl sa HCA HLK.out HSZ.out ?_; intro v9 w9 ho9 hg9 hor9; have HNX := hide (HM.out.next HB3.out hk HX.out ho9 hg9); clear ho9 hg9 hor9)
              go_round
              case rel => exact ⟨k + 1, j + 2, by omega, by go_num, Lib.hid (by have := HJK.out; omega), HNX⟩
              case measure => simp [intOf]; omega
            · have hO : (zb == za + 1) = false := beq_eq_false_iff_ne.2 (by omega)
              have q1 := adds ⟨#[62, 61]⟩ sa (by show 2 + sa.size ≤ 1000; omega)
              have q2 := adds (⟨#[62, 61]⟩ ++ sa) ⟨#[32, 60]⟩ (by rw [ByteArray.size_append]; show 2 + sa.size + 2 ≤ 1000; omega)
              have q3 := adds (⟨#[62, 61]⟩ ++ sa ++ ⟨#[32, 60]⟩) so (by rw [ByteArray.size_append, ByteArray.size_append]; show 2 + sa.size + 2 + so.size ≤ 1000; omega)
              have q4 := adds ⟨#[60]⟩ so (by show 1 + so.size ≤ 1000; omega)
              clear adds
              have HHE := Lib.hid he
              have HHF := Lib.hid hf
              have HHO := Lib.hid ho
              have HH1 := Lib.hid h12
              have HH2 := Lib.hid h2e
              clear he hf ho h12 h2e
              have HZA := Lib.hid hza
              have HZB := Lib.hid hzb
              clear hza hzb
              have y1 : IntKind.i64.wrap ((j : Int) + 1) = (j : Int) + 1 := IntWalk.i64_in _ (by omega)
              have y2 : (0 : Int) ≤ (j : Int) + 1 := by omega
              have y3 : ((j : Int) + 1).toNat = j + 1 := by omega
              have y4 : (0 : Int) ≤ (j : Int) := by omega
              go_wp2_with fail
              go_quiet (fail)
              clear y1 y2 y3 y4
              rename_i nq
              have HQ := hide (hgr.out nq)
              clear hgr c0 c1
              generalize wr.drewN nq = wq at HQ ⊢
              go_wp2_with fail
              refine (HVa.out _ (HBW.out.trans (HQ.out.mono HBW.out.size))).mono ?_
              rintro e wb ⟨rfl, hbb⟩
              have HQ2 := hide (HQ.out.trans (hbb.mono HQ.out.size))
              clear hbb HQ
              have HQ := HQ2
              clear HQ2
              go_wp2_with fail
              refine (HVo.out _ (HBW.out.trans (HQ.out.mono HBW.out.size))).mono ?_
              rintro e wb ⟨rfl, hbb⟩
              have HQ2 := hide (HQ.out.trans (hbb.mono HQ.out.size))
              clear hbb HQ
              have HQ := HQ2
              clear HQ2
              go_wp2_with fail
              refine (HVa.out _ (HBW.out.trans (HQ.out.mono HBW.out.size))).mono ?_
              rintro e wb ⟨rfl, hbb⟩
              have HQ2 := hide (HQ.out.trans (hbb.mono HQ.out.size))
              clear hbb HQ
              have HQ := HQ2
              clear HQ2
              have HOA := hide ((HM.out.own.below HQ.out).below ((Below.refl wb.heap.size wb).alloc (Nat.le_refl _) (.cells #[.string (⟨#[62, 61]⟩ ++ sa)] 9)))
              have HCA := blkS wb (⟨#[62, 61]⟩ ++ sa)
              have HB3 := hide (HQ.out.trans (((Below.refl wb.heap.size wb).alloc (Nat.le_refl _) (.cells #[.string (⟨#[62, 61]⟩ ++ sa)] 9)).mono HQ.out.size))
              have HSZ := Lib.hid (Nat.le_trans HM.out.bel.size HB3.out.size)
              have HX := Lib.hid (show (⟨#[62, 61]⟩ ++ sa) = spB (l.getD k (0, 0)) from bytesT (by have he := HHE.out; have hf := HHF.out; have ho := HHO.out; have h12 := HH1.out; have h2e := HH2.out; rw [HAB.out]; unfold spanT; rw [if_neg (show ¬ b = a + 1 by omega), if_pos (show 0 < a by omega), if_neg (show ¬ b < endR by omega), data_add, HDa.out]))
              go_wp2_with (at_builtin; refine appStr _ rfl _ _ _ rfl w.heap.size Tryz.underlying108 _ ((l.map spB).take k) rfl HOA.out wb.heap.size 1 rfl (⟨#[62, 61]⟩ ++ sa) HCA HLK.out HSZ.out ?_; intro v9 w9 ho9 hg9 hor9; have HNX := hide (HM.out.next HB3.out hk HX.out ho9 hg9); clear ho9 hg9 hor9)
              go_round
              case rel => exact ⟨k + 1, j + 2, by omega, by go_num, Lib.hid (by have := HJK.out; omega), HNX⟩
              case measure => simp [intOf]; omega
        · have hE : (zb == 1000000000) = false := beq_eq_false_iff_ne.2 (by unfold endR at he; omega)
          have hE2 : zb % 1000000000 = zb := by unfold endR at he h2e; omega
          by_cases hf : a = 0
          · have hF : (za == 0) = true := beq_iff_eq.2 (by omega)
            by_cases ho : b = a + 1
            · have hO : (zb == za + 1) = true := beq_iff_eq.2 (by omega)
              have q1 := adds ⟨#[62, 61]⟩ sa (by show 2 + sa.size ≤ 1000; omega)
              have q2 := adds (⟨#[62, 61]⟩ ++ sa) ⟨#[32, 60]⟩ (by rw [ByteArray.size_append]; show 2 + sa.size + 2 ≤ 1000; omega)
              have q3 := adds (⟨#[62, 61]⟩ ++ sa ++ ⟨#[32, 60]⟩) sb (by rw [ByteArray.size_append, ByteArray.size_append]; show 2 + sa.size + 2 + sb.size ≤ 1000; omega)
              have q4 := adds ⟨#[60]⟩ sb (by show 1 + sb.size ≤ 1000; omega)
              clear adds
              have HHE := Lib.hid he
              have HHF := Lib.hid hf
              have HHO := Lib.hid ho
              have HH1 := Lib.hid h12
              have HH2 := Lib.hid h2e
              clear he hf ho h12 h2e
              have HZA := Lib.hid hza
              have HZB := Lib.hid hzb
              clear hza hzb
              have y1 : IntKind.i64.wrap ((j : Int) + 1) = (j : Int) + 1 := IntWalk.i64_in _ (by omega)
              have y2 : (0 : Int) ≤ (j : Int) + 1 := by omega
              have y3 : ((j : Int) + 1).toNat = j + 1 := by omega
              have y4 : (0 : Int) ≤ (j : Int) := by omega
              go_wp2_with fail
              go_quiet (fail)
              clear y1 y2 y3 y4
              rename_i nq
              have HQ := hide (hgr.out nq)
              clear hgr c0 c1
              generalize wr.drewN nq = wq at HQ ⊢
              go_wp2_with fail
              refine (HVa.out _ (HBW.out.trans (HQ.out.mono HBW.out.size))).mono ?_
              rintro e wb ⟨rfl, hbb⟩
              have HQ2 := hide (HQ.out.trans (hbb.mono HQ.out.size))
              clear hbb HQ
              have HQ := HQ2
              clear HQ2
              go_wp2_with fail
              refine (HVb.out _ (HBW.out.trans (HQ.out.mono HBW.out.size))).mono ?_
              rintro e wb ⟨rfl, hbb⟩
              have HQ2 := hide (HQ.out.trans (hbb.mono HQ.out.size))
              clear hbb HQ
              have HQ := HQ2
              clear HQ2
              go_wp2_with fail
              refine (HVb.out _ (HBW.out.trans (HQ.out.mono HBW.out.size))).mono ?_
              rintro e wb ⟨rfl, hbb⟩
              have HQ2 := hide (HQ.out.trans (hbb.mono HQ.out.size))
              clear hbb HQ
              have HQ := HQ2
              clear HQ2
              go_wp2_with fail
              refine (HVa.out _ (HBW.out.trans (HQ.out.mono HBW.out.size))).mono ?_
              rintro e wb ⟨rfl, hbb⟩
              have HQ2 := hide (HQ.out.trans (hbb.mono HQ.out.size))
              clear hbb HQ
              have HQ := HQ2
              clear HQ2
              have HOA := hide ((HM.out.own.below HQ.out).below ((Below.refl wb.heap.size wb).alloc (Nat.le_refl _) (.cells #[.string sa] 9)))
              have HCA := blkS wb sa
              have HB3 := hide (HQ.out.trans (((Below.refl wb.heap.size wb).alloc (Nat.le_refl _) (.cells #[.string sa] 9)).mono HQ.out.size))
              have HSZ := Lib.hid (Nat.le_trans HM.out.bel.size HB3.out.size)
              have HX := Lib.hid (show sa = spB (l.getD k (0, 0)) from bytesT (by have he := HHE.out; have hf := HHF.out; have ho := HHO.out; have h12 := HH1.out; have h2e := HH2.out; rw [HAB.out]; unfold spanT; rw [if_pos (show b = a + 1 by omega), HDa.out]))
              go_wp2_with (at_builtin; refine appStr _ rfl _ _ _ rfl w.heap.size Tryz.underlying108 _ ((l.map spB).take k) rfl HOA.out wb.heap.size 1 rfl sa HCA HLK.out HSZ.out ?_; intro v9 w9 ho9 hg9 hor9; have HNX := hide (HM.out.next HB3.out hk HX.out ho9 hg9); clear ho9 hg9 hor9)
              go_round
              case rel => exact ⟨k + 1, j + 2, by omega, by go_num, Lib.hid (by have := HJK.out; omega), HNX⟩
              case measure => simp [intOf]; omega
            · have hO : (zb == za + 1) = false := beq_eq_false_iff_ne.2 (by omega)
              have q1 := adds ⟨#[62, 61]⟩ sa (by show 2 + sa.size ≤ 1000; omega)
              have q2 := adds (⟨#[62, 61]⟩ ++ sa) ⟨#[32, 60]⟩ (by rw [ByteArray.size_append]; show 2 + sa.size + 2 ≤ 1000; omega)
              have q3 := adds (⟨#[62, 61]⟩ ++ sa ++ ⟨#[32, 60]⟩) sb (by rw [ByteArray.size_append, ByteArray.size_append]; show 2 + sa.size + 2 + sb.size ≤ 1000; omega)
              have q4 := adds ⟨#[60]⟩ sb (by show 1 + sb.size ≤ 1000; omega)
              clear adds
              have HHE := Lib.hid he
              have HHF := Lib.hid hf
              have HHO := Lib.hid ho
              have HH1 := Lib.hid h12
              have HH2 := Lib.hid h2e
              clear he hf ho h12 h2e
              have HZA := Lib.hid hza
              have HZB := Lib.hid hzb
              clear hza hzb
              have y1 : IntKind.i64.wrap ((j : Int) + 1) = (j : Int) + 1 := IntWalk.i64_in _ (by omega)
              have y2 : (0 : Int) ≤ (j : Int) + 1 := by omega
              have y3 : ((j : Int) + 1).toNat = j + 1 := by omega
              have y4 : (0 : Int) ≤ (j : Int) := by omega
              go_wp2_with fail
              go_quiet (fail)
              clear y1 y2 y3 y4
              rename_i nq
              have HQ := hide (hgr.out nq)
              clear hgr c0 c1
              generalize wr.drewN nq = wq at HQ ⊢
              go_wp2_with fail
              refine (HVa.out _ (HBW.out.trans (HQ.out.mono HBW.out.size))).mono ?_
              rintro e wb ⟨rfl, hbb⟩
              have HQ2 := hide (HQ.out.trans (hbb.mono HQ.out.size))
              clear hbb HQ
              have HQ := HQ2
              clear HQ2
              go_wp2_with fail
              refine (HVb.out _ (HBW.out.trans (HQ.out.mono HBW.out.size))).mono ?_
              rintro e wb ⟨rfl, hbb⟩
              have HQ2 := hide (HQ.out.trans (hbb.mono HQ.out.size))
              clear hbb HQ
              have HQ := HQ2
              clear HQ2
              go_wp2_with fail
              refine (HVb.out _ (HBW.out.trans (HQ.out.mono HBW.out.size))).mono ?_
              rintro e wb ⟨rfl, hbb⟩
              have HQ2 := hide (HQ.out.trans (hbb.mono HQ.out.size))
              clear hbb HQ
              have HQ := HQ2
              clear HQ2
              have HOA := hide ((HM.out.own.below HQ.out).below ((Below.refl wb.heap.size wb).alloc (Nat.le_refl _) (.cells #[.string (⟨#[60]⟩ ++ sb)] 9)))
              have HCA := blkS wb (⟨#[60]⟩ ++ sb)
              have HB3 := hide (HQ.out.trans (((Below.refl wb.heap.size wb).alloc (Nat.le_refl _) (.cells #[.string (⟨#[60]⟩ ++ sb)] 9)).mono HQ.out.size))
              have HSZ := Lib.hid (Nat.le_trans HM.out.bel.size HB3.out.size)
              have HX := Lib.hid (show (⟨#[60]⟩ ++ sb) = spB (l.getD k (0, 0)) from bytesT (by have he := HHE.out; have hf := HHF.out; have ho := HHO.out; have h12 := HH1.out; have h2e := HH2.out; rw [HAB.out]; unfold spanT; rw [if_neg (show ¬ b = a + 1 by omega), if_neg (show ¬ 0 < a by omega), if_pos (show b < endR by omega), data_add, HDb.out]))
              go_wp2_with (at_builtin; refine appStr _ rfl _ _ _ rfl w.heap.size Tryz.underlying108 _ ((l.map spB).take k) rfl HOA.out wb.heap.size 1 rfl (⟨#[60]⟩ ++ sb) HCA HLK.out HSZ.out ?_; intro v9 w9 ho9 hg9 hor9; have HNX := hide (HM.out.next HB3.out hk HX.out ho9 hg9); clear ho9 hg9 hor9)
              go_round
              case rel => exact ⟨k + 1, j + 2, by omega, by go_num, Lib.hid (by have := HJK.out; omega), HNX⟩
              case measure => simp [intOf]; omega
          · have hF : (za == 0) = false := beq_eq_false_iff_ne.2 (by omega)
            by_cases ho : b = a + 1
            · have hO : (zb == za + 1) = true := beq_iff_eq.2 (by omega)
              have q1 := adds ⟨#[62, 61]⟩ sa (by show 2 + sa.size ≤ 1000; omega)
              have q2 := adds (⟨#[62, 61]⟩ ++ sa) ⟨#[32, 60]⟩ (by rw [ByteArray.size_append]; show 2 + sa.size + 2 ≤ 1000; omega)
              have q3 := adds (⟨#[62, 61]⟩ ++ sa ++ ⟨#[32, 60]⟩) sb (by rw [ByteArray.size_append, ByteArray.size_append]; show 2 + sa.size + 2 + sb.size ≤ 1000; omega)
              have q4 := adds ⟨#[60]⟩ sb (by show 1 + sb.size ≤ 1000; omega)
              clear adds
              have HHE := Lib.hid he
              have HHF := Lib.hid hf
              have HHO := Lib.hid ho
              have HH1 := Lib.hid h12
              have HH2 := Lib.hid h2e
              clear he hf ho h12 h2e
              have HZA := Lib.hid hza
              have HZB := Lib.hid hzb
              clear hza hzb
              have y1 : IntKind.i64.wrap ((j : Int) + 1) = (j : Int) + 1 := IntWalk.i64_in _ (by omega)
              have y2 : (0 : Int) ≤ (j : Int) + 1 := by omega
              have y3 : ((j : Int) + 1).toNat = j + 1 := by omega
              have y4 : (0 : Int) ≤ (j : Int) := by omega
              go_wp2_with fail
              go_quiet (fail)
              clear y1 y2 y3 y4
              rename_i nq
              have HQ := hide (hgr.out nq)
              clear hgr c0 c1
              generalize wr.drewN nq = wq at HQ ⊢
              go_wp2_with fail
              refine (HVa.out _ (HBW.out.trans (HQ.out.mono HBW.out.size))).mono ?_
              rintro e wb ⟨rfl, hbb⟩
              have HQ2 := hide (HQ.out.trans (hbb.mono HQ.out.size))
              clear hbb HQ
              have HQ := HQ2
              clear HQ2
              go_wp2_with fail
              refine (HVb.out _ (HBW.out.trans (HQ.out.mono HBW.out.size))).mono ?_
              rintro e wb ⟨rfl, hbb⟩
              have HQ2 := hide (HQ.out.trans (hbb.mono HQ.out.size))
              clear hbb HQ
              have HQ := HQ2
              clear HQ2
              go_wp2_with fail
              refine (HVa.out _ (HBW.out.trans (HQ.out.mono HBW.out.size))).mono ?_
              rintro e wb ⟨rfl, hbb⟩
              have HQ2 := hide (HQ.out.trans (hbb.mono HQ.out.size))
              clear hbb HQ
              have HQ := HQ2
              clear HQ2
              have HOA := hide ((HM.out.own.below HQ.out).below ((Below.refl wb.heap.size wb).alloc (Nat.le_refl _) (.cells #[.string sa] 9)))
              have HCA := blkS wb sa
              have HB3 := hide (HQ.out.trans (((Below.refl wb.heap.size wb).alloc (Nat.le_refl _) (.cells #[.string sa] 9)).mono HQ.out.size))
              have HSZ := Lib.hid (Nat.le_trans HM.out.bel.size HB3.out.size)
              have HX := Lib.hid (show sa = spB (l.getD k (0, 0)) from bytesT (by have he := HHE.out; have hf := HHF.out; have ho := HHO.out; have h12 := HH1.out; have h2e := HH2.out; rw [HAB.out]; unfold spanT; rw [if_pos (show b = a + 1 by omega), HDa.out]))
              go_wp2_with (at_builtin; refine appStr _ rfl _ _ _ rfl w.heap.size Tryz.underlying108 _ ((l.map spB).take k) rfl HOA.out wb.heap.size 1 rfl sa HCA HLK.out HSZ.out ?_; intro v9 w9 ho9 hg9 hor9; have HNX := hide (HM.out.next HB3.out hk HX.out ho9 hg9); clear ho9 hg9 hor9)
              go_round
              case rel => exact ⟨k + 1, j + 2, by omega, by go_num, Lib.hid (by have := HJK.out; omega), HNX⟩
              case measure => simp [intOf]; omega
            · have hO : (zb == za + 1) = false := beq_eq_false_iff_ne.2 (by omega)
              have q1 := adds ⟨#[62, 61]⟩ sa (by show 2 + sa.size ≤ 1000; omega)
              have q2 := adds (⟨#[62, 61]⟩ ++ sa) ⟨#[32, 60]⟩ (by rw [ByteArray.size_append]; show 2 + sa.size + 2 ≤ 1000; omega)
              have q3 := adds (⟨#[62, 61]⟩ ++ sa ++ ⟨#[32, 60]⟩) sb (by rw [ByteArray.size_append, ByteArray.size_append]; show 2 + sa.size + 2 + sb.size ≤ 1000; omega)
              have q4 := adds ⟨#[60]⟩ sb (by show 1 + sb.size ≤ 1000; omega)
              clear adds
              have HHE := Lib.hid he
              have HHF := Lib.hid hf
              have HHO := Lib.hid ho
              have HH1 := Lib.hid h12
              have HH2 := Lib.hid h2e
              clear he hf ho h12 h2e
              have HZA := Lib.hid hza
              have HZB := Lib.hid hzb
              clear hza hzb
              have y1 : IntKind.i64.wrap ((j : Int) + 1) = (j : Int) + 1 := IntWalk.i64_in _ (by omega)
              have y2 : (0 : Int) ≤ (j : Int) + 1 := by omega
              have y3 : ((j : Int) + 1).toNat = j + 1 := by omega
              have y4 : (0 : Int) ≤ (j : Int) := by omega
              go_wp2_with fail
              go_quiet (fail)
              clear y1 y2 y3 y4
              rename_i nq
              have HQ := hide (hgr.out nq)
              clear hgr c0 c1
              generalize wr.drewN nq = wq at HQ ⊢
              go_wp2_with fail
              refine (HVa.out _ (HBW.out.trans (HQ.out.mono HBW.out.size))).mono ?_
              rintro e wb ⟨rfl, hbb⟩
              have HQ2 := hide (HQ.out.trans (hbb.mono HQ.out.size))
              clear hbb HQ
              have HQ := HQ2
              clear HQ2
              go_wp2_with fail
              refine (HVb.out _ (HBW.out.trans (HQ.out.mono HBW.out.size))).mono ?_
              rintro e wb ⟨rfl, hbb⟩
              have HQ2 := hide (HQ.out.trans (hbb.mono HQ.out.size))
              clear hbb HQ
              have HQ := HQ2
              clear HQ2
              have HOA := hide ((HM.out.own.below HQ.out).below ((Below.refl wb.heap.size wb).alloc (Nat.le_refl _) (.cells #[.string (⟨#[62, 61]⟩ ++ sa ++ ⟨#[32, 60]⟩ ++ sb)] 9)))
              have HCA := blkS wb (⟨#[62, 61]⟩ ++ sa ++ ⟨#[32, 60]⟩ ++ sb)
              have HB3 := hide (HQ.out.trans (((Below.refl wb.heap.size wb).alloc (Nat.le_refl _) (.cells #[.string (⟨#[62, 61]⟩ ++ sa ++ ⟨#[32, 60]⟩ ++ sb)] 9)).mono HQ.out.size))
              have HSZ := Lib.hid (Nat.le_trans HM.out.bel.size HB3.out.size)
              have HX := Lib.hid (show (⟨#[62, 61]⟩ ++ sa ++ ⟨#[32, 60]⟩ ++ sb) = spB (l.getD k (0, 0)) from bytesT (by have he := HHE.out; have hf := HHF.out; have ho := HHO.out; have h12 := HH1.out; have h2e := HH2.out; rw [HAB.out]; unfold spanT; rw [if_neg (show ¬ b = a + 1 by omega), if_pos (show 0 < a by omega), if_pos (show b < endR by omega), data_add, data_add, data_add, HDa.out, HDb.out]))
              go_wp2_with (at_builtin; refine appStr _ rfl _ _ _ rfl w.heap.size Tryz.underlying108 _ ((l.map spB).take k) rfl HOA.out wb.heap.size 1 rfl (⟨#[62, 61]⟩ ++ sa ++ ⟨#[32, 60]⟩ ++ sb) HCA HLK.out HSZ.out ?_; intro v9 w9 ho9 hg9 hor9; have HNX := hide (HM.out.next HB3.out hk HX.out ho9 hg9); clear ho9 hg9 hor9)
              go_round
              case rel => exact ⟨k + 1, j + 2, by omega, by go_num, Lib.hid (by have := HJK.out; omega), HNX⟩
              case measure => simp [intOf]; omega
      · obtain rfl : j = N := by omega
        have hkz : ¬ (j : Int) < (j : Int) := by omega
        obtain rfl : k = l.length := by have := HJK.out; have := HN.out; omega
        have hown := HM.out.own
        rw [List.take_of_length_le (by simp)] at hown
        have HBX := hide HM.out.bel
        rcases hown.2 with ⟨rfl, h0⟩ | ⟨g2, cap2, cur2, rfl, hg2, hgc2, hle2, hcm2, _⟩
        · rw [List.length_map] at h0
          exact absurd (List.eq_nil_of_length_eq_zero h0) HNE.out
        · have hcl := hown.cells (g := g2) rfl
          have hbk := (hown.lt g2 rfl).2
          have hLL := HLEN.out
          unfold endR at hLL
          have HJ := hide (Tryz.strings_Join g2 0 cap2 (l.map spB) ⟨#[32, 124, 124, 32]⟩ wr (fun j x hx => by
            have := hcl j (.string x) (by rw [List.getElem?_map, hx]; rfl)
            rw [add0 g2 j] at this
            exact this) hbk (by rw [List.length_map]; omega) hle2 (by
            have := HJL.out
            rw [show (ByteArray.data ⟨#[32, 124, 124, 32]⟩).toList = [32, 124, 124, 32] from rfl]
            omega))
          rw [show (ByteArray.data ⟨#[32, 124, 124, 32]⟩).toList = [32, 124, 124, 32] from rfl, ← HJN.out, List.length_map] at HJ
          rw [List.length_map]
          clear hown hcl hgc2 hle2 hcm2 hbk
          go_wp2_with fail
          refine HJ.out.mono ?_
          rintro e w3 ⟨rfl, hb3⟩
          have HB3 := hide (HBX.out.trans (hb3.mono HBX.out.size))
          clear hb3
          go_wp2
          go_ret
          exact ⟨rfl, HB3.out⟩
end Go.Proofs.YtmncoldaemcnlaaGreatDoor
