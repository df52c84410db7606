/-
  The empty store of any room: Hits there.
-/
import Derived.Test.YtdlcldhnbhlikaaDoorFamEo
import Derived.Test.YtdlcldhnbhlikaaDoorFamHits
namespace Go.Proofs.YtdlcldhnbhlikaaDoor
open Go.RowKit Go.Maps

theorem sweep_empty (R : Nat) (l : List Int) : sweepA (emptyA R) l = emptyA R := by
  unfold sweepA emptyA
  apply List.ext_getElem?
  intro i
  rw [List.getElem?_mapIdx, List.getElem?_replicate]
  by_cases hi : i < R <;> simp [hi]
theorem sets_end {x : Int} (R : Nat) (p : endB x = true) : (setsL (fam (emptyA R) x)).length ≤ 1 ∧ ∀ s ∈ setsL (fam (emptyA R) x), s = 0 := by
  refine ⟨num_end R p, fun s hs => ?_⟩
  have h := (setsL_in.1 hs).2
  rw [fam_none (got_empty R x)] at h
  simp at h
  exact h.2
/-- Where Hits stands. -/
structure HitE (w1 : World) (S B gn gu gt vn : Nat) (ov : Value) (wr : World) : Prop where
  is : ∃ o, ov = .int .i64 o ∧ endB o = true
  t : FsE wr S B gn gu gt (vn : Int) 4000
  bel : Below w1.heap.size w1 wr
section
variable (S B gn gu gt : Nat) (R : Nat) (w : World)
set_option maxHeartbeats 2000000 in
theorem copy_end (S' gd m : Nat) (f : Int → Option Int) (x k : Int) (h : MapV 3 keyL I64 w gd f m) (hi : I64 x) (hf : f x = some k) :
    Calls Tryd.prog 47 #[.pointer (some ⟨S, 0, none⟩), .pointer (some ⟨S', 0, none⟩), .int .i64 x, .map (some gd)] w (fun e w' => e = .returned (.tuple #[.int .i64 k, .nilIface]) ∧ w = w') := by
  have hlk := MapV.lookRun keyS_int Tryd.underlying85 h x hi
  rw [hf] at hlk
  clear h hf
  go_enter Tryd.func47, Tryd.ntmps47
  go_wp2
  go_ret2
  exact ⟨rfl, rfl⟩
set_option maxHeartbeats 2000000 in
theorem fHits_no (vn : Nat) (x : Int) (h : FsE w S B gn gu gt (vn : Int) R) (hx : I64 x) (p : endB x = false) :
    Calls Tryd.prog 15 #[.pointer (some ⟨S, 0, none⟩), .int .i64 x] w (ErrP w 7) := by
  have HLS := hide (fList_no S B gn gu gt (vn : Int) R w x 65536 h hx p)
  clear h p
  rw [show ErrP w 7 = fun e w' => ∃ v, e = .returned (.tuple #[v, .iface 29 (.int .i64 7)]) ∧ Below w.heap.size w w' from funext fun e => funext fun w' => by unfold ErrP; rw [errV_ne (by decide)]] at HLS
  go_enter Tryd.func15, Tryd.ntmps15
  go_wp2_with fail
  refine (HLS.out).mono ?_
  rintro e w1 ⟨v, rfl, hb⟩
  have HB := hide hb
  clear hb HLS
  go_wp2
  go_ret2
  exact ⟨_, by rw [errV_ne (by decide)]; rfl, HB.out⟩
set_option maxRecDepth 100000 in
set_option maxHeartbeats 8000000 in
theorem fHits_ok (vn : Nat) (hv : vn ≤ 24) (x : Int) (h : FsE w S B gn gu gt (vn : Int) R) (p : endB x = true) :
    Calls Tryd.prog 15 #[.pointer (some ⟨S, 0, none⟩), .int .i64 x] w (ErrP w 0) := by
  have hmm := @run_makeMap Tryd.prog
  have HLS := hide (fzList_v S B gn gu gt (vn : Int) (emptyA R) w x 65536 h ((hasE R x).trans p))
  have HW := hide h
  obtain ⟨hlen, hall⟩ := sets_end R p
  have HAL := Lib.hid hall
  obtain ⟨F, HFE⟩ : ∃ F, Hid (fam (emptyA R) x = F) := ⟨_, Lib.hid rfl⟩
  rw [HFE.out] at HLS HAL hlen
  clear h p hall
  go_enter Tryd.func15, Tryd.ntmps15
  go_wp2_with fail
  refine (HLS.out).mono ?_
  rintro e w1 ⟨⟨_, vl, rfl, hvl⟩ | ⟨hbad, _⟩, hb1⟩
  case inr => unfold numS at hbad; omega
  obtain ⟨Al, cl, rfl⟩ := hvl.len
  have HVL := hide hvl
  have HB1 := hide hb1
  have HW1 := hide (HW.out.below hb1)
  have s1 := HW1.out.kS.cell 1
  have HNW := hide (fNewE_any (vn : Int) 4000 w1 (by unfold I64; omega))
  clear hvl hb1 HLS HW
  go_wp2_with fail
  refine (HNW.out).mono ?_
  rintro e w2 (⟨hno, _⟩ | ⟨vn2, R2, hvn2, _, hR2, _, S', B', gn', gu', gt', rfl, hN, hown, hb2⟩)
  · omega
  obtain rfl : vn2 = vn := by omega
  obtain rfl : R2 = 4000 := by omega
  have HOW := Lib.hid hown
  have HST := hide (show HitE w1 S' B' gn' gu' gt' vn2 (.int .i64 1) w2 from ⟨⟨1, rfl, end_one⟩, hN, hb2⟩)
  clear hN HNW s1 hown hb2 hvn2 hR2
  obtain ⟨L, HL⟩ : ∃ L, Hid (setsL F = L) := ⟨_, Lib.hid rfl⟩
  rw [HL.out] at HVL hlen HAL ⊢
  go_wp2
  go_loopw [9, 38] (fun ov iv wr => ∃ i : Nat, i ≤ L.length ∧ iv = .int .i64 (i : Int) ∧ Hid (HitE w1 S' B' gn' gu' gt' vn2 ov wr)) (fun _ iv _ => L.length - (intOf iv).toNat)
  case atStart => exact ⟨0, Nat.zero_le _, rfl, HST⟩
  case round =>
    clear HST
    obtain ⟨i, hi, rfl, hI⟩ := hrel
    obtain ⟨o, rfl, ho⟩ := hI.out.is
    by_cases hlt : i < L.length
    · have hiI : (i : Int) < (L.length : Int) := by omega
      obtain ⟨gl, cl', el, hcl, hgl⟩ := (HVL.out.below hI.out.bel).at_ hlt
      cases el
      have hmem : L.getD i 0 ∈ L := by
        rw [List.getD_eq_getElem?_getD, List.getElem?_eq_getElem hlt]
        exact List.getElem_mem hlt
      have hs0 := HAL.out _ hmem
      have HS0 := Lib.hid hs0
      generalize L.getD i 0 = s at hcl HS0
      clear hmem hs0
      have st1 := (HW1.out.below hI.out.bel).kS.cell 1
      have HI := hide hI.out
      have HO := Lib.hid ho
      obtain ⟨w3, rfl⟩ : ∃ w3, w3 = wr := ⟨_, rfl⟩
      clear hI ho
      go_wp2
      go_loopw [12, 46] (fun ov iv wr => ∃ k : Nat, k ≤ vn2 ∧ iv = .int .i64 (k : Int) ∧ ov = .int .i64 0 ∧ w3 = wr) (fun _ iv _ => vn2 - (intOf iv).toNat)
      case atStart => exact ⟨0, Nat.zero_le _, rfl, rfl, rfl⟩
      case round =>
        obtain ⟨k, hk, rfl, rfl, rfl⟩ := hrel
        by_cases hkl : k < vn2
        · have hkI : (k : Int) < (vn2 : Int) := by omega
          have hbit := shr_bit0 s k (by rw [HS0.out]; omega)
          have hmin : min k 64 = k := by omega
          rw [show s.testBit k = false by rw [HS0.out]; simp] at hbit
          go_wp2
          go_roundw
          case rel => exact ⟨k + 1, by omega, by go_num, by first | rfl | trivial, by first | rfl | trivial⟩
          case measure => simp [intOf]; omega
        · obtain rfl : k = vn2 := by omega
          have HJN := hide (fJoin_ok S' B' gn' gu' gt' (k : Int) 4000 w3 o 0 0 HI.out.t HO.out end_zero (by rcases endB_true HO.out with rfl | rfl <;> decide))
          go_wp2_with fail
          refine (HJN.out).mono ?_
          rintro e w5 ⟨rfl, hb5⟩
          have HT5 := hide (HI.out.t.below hb5)
          have HB5 := hide (HI.out.bel.trans (hb5.mono HI.out.bel.size))
          have HLT := hide (fLeast_ok S' B' gn' gu' gt' (k : Int) 4000 w5 0 HT5.out end_zero)
          clear hb5 HJN
          rw [errV_zero]
          go_wp2_with fail
          refine (HLT.out).mono ?_
          rintro e w6 ⟨rfl, hb6⟩
          have hT6 := HT5.out.below hb6
          have hba := (Below.refl w6.heap.size w6).alloc (Nat.le_refl _) (.cells #[.int .i64 0] 3)
          have hs3 := hT6.below hba
          have HSW := hide (arSweep_any B' gn' gu' gt' (emptyA 4000) (some ⟨w6.heap.size, 0, none⟩) 1 1 [0] _ hs3.ar (hit_row 0) (by intro z hz; rw [List.mem_singleton.1 hz]; exact i64_zero) (by omega) (fun e => by cases e))
          have t0 := hT6.kS.cell 0
          have hb6' := HB5.out.trans (hb6.mono HB5.out.size)
          have HB6 := hide (hb6'.alloc hb6'.size (.cells #[.int .i64 0] 3))
          have HS3 := hide hs3
          clear hb6 hT6 hba hs3 HLT hb6' HT5 HB5
          rw [errV_zero]
          go_wp2_with fail
          refine (HSW.out).mono ?_
          rintro e w7 ⟨rfl, ha, hf7⟩
          rw [sweep_empty] at ha
          have HN := hide (show HitE w1 S' B' gn' gu' gt' k (.int .i64 0) w7 from ⟨⟨0, rfl, end_zero⟩, fsE_of (HS3.out.kS.fr hf7 (notAr HS3.out.ar HS3.out.kS (by decide) (by decide) (by decide) (by decide))) ha, HB6.out.trans (hf7.to_below HB6.out.size fun j hj hk2 => by have := HOW.out j hk2; omega)⟩)
          clear ha hf7 HSW t0
          go_wp2
          go_roundw
          case rel => exact ⟨i + 1, by omega, by go_num, HN⟩
          case measure => simp [intOf]; omega
    · obtain rfl : i = L.length := by omega
      have HM1 := hide (mapV_made (kt := 3) (lit := keyL) (ok := I64) wr)
      have HBR := hide (HB1.out.trans (hI.out.bel.mono HB1.out.size))
      have HBA := hide ((Below.refl wr.heap.size wr).alloc (Nat.le_refl _) (.map #[] 0))
      have HO := Lib.hid ho
      clear hI ho
      go_wp2_with (first
        | (refine insertI rfl _ _ _ 85 rfl Tryd.underlying85 rfl HM1.out 0 0 rfl rfl (by unfold I64; omega) (by unfold I64; omega) (by omega) ?_; intro wi hmi hgi; have HM2 := hide hmi; have HG2 := hide hgi; clear hmi hgi; refine insertI rfl _ _ _ 85 rfl Tryd.underlying85 rfl HM2.out 1 1 rfl rfl (by unfold I64; omega) (by unfold I64; omega) (by omega) ?_; intro wj hmj hgj; have HM3 := hide hmj; have HG3 := hide hgj; clear hmj hgj)
        | fail)
      have hb2 := (HBA.out.grown HG2.out HBA.out.size (fun j hj => by cases hj; exact Nat.le_refl _)).grown HG3.out (Nat.le_trans HBA.out.size HG2.out.size) (fun j hj => by cases hj; exact Nat.le_refl _)
      have HBJ := hide (HBR.out.trans (hb2.mono HBR.out.size))
      have HCP := hide (copy_end S wj S' wr.heap.size (0 + 1 + 1) _ o o HM3.out (end_i64 HO.out) (by rcases endB_true HO.out with rfl | rfl <;> rfl))
      clear hb2 HM1 HM2 HM3 HG2 HG3 HBA
      generalize wr.heap.size = gd at HCP ⊢
      go_wp2_with fail
      refine (HCP.out).mono ?_
      rintro e w9 ⟨rfl, rfl⟩
      go_wp2
      go_ret2
      exact ⟨_, by rw [errV_zero]; rfl, HBJ.out⟩
theorem fHits_x (vn : Nat) (hv : vn ≤ 24) (x : Int) (h : FsE w S B gn gu gt (vn : Int) R) (hx : I64 x) :
    Calls Tryd.prog 15 #[.pointer (some ⟨S, 0, none⟩), .int .i64 x] w (ErrP w (missE x)) := by
  unfold missE
  cases p : endB x with
  | false => exact fHits_no S B gn gu gt R w vn x h hx p
  | true => exact fHits_ok S B gn gu gt R w vn hv x h p
end
end Go.Proofs.YtdlcldhnbhlikaaDoor
