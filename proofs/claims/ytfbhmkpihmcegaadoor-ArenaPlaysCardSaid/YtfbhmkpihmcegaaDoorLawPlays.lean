/-
  The law ArenaPlays, walked.
-/
import Derived.Test.YtfbhmkpihmcegaaDoorPlaysB
import Derived.Deep.RegionHeld3
namespace Go.Proofs.YtfbhmkpihmcegaaDoor
open Go.RowKit Go.Maps

structure Do4 where
  what : Int
  var : Int
  low : Int
  high : Int
def do0 : Do4 := ⟨0, 0, 0, 0⟩
structure DoOk (d : Do4) : Prop where
  what : I64 d.what
  var : I64 d.var
  low : I64 d.low
  high : I64 d.high
/-- A row of four ints each, that is there to be read. -/
def DoP (w : World) (A : Option Addr) (n : Nat) (ds : List Do4) : Prop :=
  ds.length = n ∧ (∀ d ∈ ds, DoOk d) ∧ (0 < n → ∃ ad, A = some ad ∧ ad.block < w.heap.size ∧ ∀ k, k < n → w.cell? (ad.add (k * 4)) = some (.int .i64 (ds.getD k do0).what) ∧
    w.cell? ⟨(ad.add (k * 4)).block, (ad.add (k * 4)).off + 1, none⟩ = some (.int .i64 (ds.getD k do0).var) ∧ w.cell? ⟨(ad.add (k * 4)).block, (ad.add (k * 4)).off + 2, none⟩ = some (.int .i64 (ds.getD k do0).low) ∧
    w.cell? ⟨(ad.add (k * 4)).block, (ad.add (k * 4)).off + 3, none⟩ = some (.int .i64 (ds.getD k do0).high))
theorem DoP.at_ {w wr : World} {A : Option Addr} {n k : Nat} {ds : List Do4} (h : DoP w A n ds) (hb : Below w.heap.size w wr) (hk : k < n) : ∃ ad, A = some ad ∧ DoOk (ds.getD k do0) ∧ wr.cell? (ad.add (k * 4)) = some (.int .i64 (ds.getD k do0).what) ∧
    wr.cell? ⟨(ad.add (k * 4)).block, (ad.add (k * 4)).off + 1, none⟩ = some (.int .i64 (ds.getD k do0).var) ∧ wr.cell? ⟨(ad.add (k * 4)).block, (ad.add (k * 4)).off + 2, none⟩ = some (.int .i64 (ds.getD k do0).low) ∧
    wr.cell? ⟨(ad.add (k * 4)).block, (ad.add (k * 4)).off + 3, none⟩ = some (.int .i64 (ds.getD k do0).high) := by
  obtain ⟨ad, e, hlt, hc⟩ := h.2.2 (by omega)
  obtain ⟨c0, c1, c2, c3⟩ := hc k hk
  have hbk : (ad.add (k * 4)).block < w.heap.size := by rw [block_of_add]; exact hlt
  exact ⟨ad, e, h.2.1 _ (List.mem_of_getElem? (getD_of (by rw [h.1]; exact hk))), (hb.cell hbk).trans c0, (hb.cell (p := ⟨(ad.add (k * 4)).block, (ad.add (k * 4)).off + 1, none⟩) hbk).trans c1, (hb.cell (p := ⟨(ad.add (k * 4)).block, (ad.add (k * 4)).off + 2, none⟩) hbk).trans c2, (hb.cell (p := ⟨(ad.add (k * 4)).block, (ad.add (k * 4)).off + 3, none⟩) hbk).trans c3⟩
theorem errV_is {w : World} {c : Int} (h : c = 0 ∨ (1 ≤ c ∧ c ≤ 13)) : IsErr w (errV c) (c, -1) := by
  rcases h with e | ⟨h1, h2⟩
  · subst e; exact .inl ⟨rfl, errV_zero⟩
  · exact .inr (.inl ⟨rfl, h1, h2, errV_ne (by omega)⟩)
theorem makeE_range (A : Ar) (n : Nd) : makeE A n = 0 ∨ (1 ≤ makeE A n ∧ makeE A n ≤ 13) := by
  unfold makeE
  split
  · omega
  · split
    · omega
    · split
      · omega
      · split
        · omega
        · split <;> omega

set_option maxRecDepth 100000 in
set_option maxHeartbeats 8000000 in
theorem lawPlays_walk (z : Int) (Ad : Option Addr) (nd cd : Nat) (ds : List Do4) (w : World) (hG : GlobE w) (hz : I64 z) (hd : DoP w Ad nd ds) :
    Calls Tryd.prog 3 #[.int .i64 z, .slice Ad nd cd] w (AtPost w true) := by
  by_cases h80 : 80 < nd
  · go_enter Tryd.func3, Tryd.ntmps3
    go_wp2
    go_ret
    exact ⟨rfl, Below.refl _ _⟩
  have h80b : decide ((80 : Int) < (nd : Int)) = false := decide_eq_false (by omega)
  have hmm := @run_makeMap Tryd.prog
  have HG := hide hG
  have HD := hide hd
  have HNW := hide (arNew_any z w hz)
  clear hG hd
  go_enter Tryd.func3, Tryd.ntmps3
  go_wp2_with fail
  refine (HNW.out).mono ?_
  rintro e w1 (⟨hno, rfl, hb1⟩ | ⟨hyes, B, gn, gu, gt, rfl, har, hlow, hb1⟩)
  · have HBR := hide (bareB_any (errV 2) 2 w1 (HG.out.below hb1) (errV_is (.inr ⟨by omega, by omega⟩)))
    have HB1 := hide hb1
    rw [errV_ne (by omega)] at HBR ⊢
    clear hb1 hmm
    rcases (show z < 0 ∨ (¬ z < 0 ∧ 4000 < z) by omega) with h1 | ⟨h1, h2⟩
    case' inr => have h1b : decide (z < 0) = false := decide_eq_false h1
    all_goals
      go_wp2_with fail
      refine (HBR.out).mono ?_
      rintro e w2 ⟨rfl, hb2⟩
      go_wp2
      go_ret
      exact ⟨ret_bool (by simp), HB1.out.trans (hb2.mono HB1.out.size)⟩
  · obtain ⟨L, rfl⟩ : ∃ L : Nat, z = (L : Int) := ⟨z.toNat, by omega⟩
    have h1b : decide ((L : Int) < 0) = false := decide_eq_false (by omega)
    have h2b : decide ((4000 : Int) < (L : Int)) = false := decide_eq_false (by omega)
    rw [Int.toNat_natCast] at har
    have hel : (emptyA L).length = L := List.length_replicate ..
    have hba := ((Below.refl w1.heap.size w1).alloc (Nat.le_refl _) (.map #[] 0)).alloc (by simp) (.cells #[.int .i64 (L : Int), .map (some w1.heap.size)] 33)
    have HPL := hide (show PlayI w B gn gu gt w1.heap.size (w1.heap.size + 1) w1.heap.size (emptyA L) (emptyA L) ((w1.alloc (.map #[] 0)).alloc (.cells #[.int .i64 (L : Int), .map (some w1.heap.size)] 33)) from by
      refine ⟨hb1.trans (hba.mono hb1.size), har.below hba (fun k hk => har.lt hk), ⟨?_, ?_, by rw [hel]; omega, wf_empty L⟩, fun k hk => ⟨hlow k hk, har.lt hk⟩, by omega, Nat.le_refl _⟩
      · rw [hel]
        have := Blk.new (w1.alloc (.map #[] 0)) 33 #[.int .i64 (L : Int), .map (some w1.heap.size)]
        simpa using this
      · rw [cnt_empty, show gotA (emptyA L) = fun _ => none by funext y; exact got_empty L y]
        exact (mapN_made w1).same (Below.heap_alloc _ _ _ (mapN_made w1).lt))
    clear har hlow hb1 hba HNW
    go_wp2
    generalize ((w1.alloc (.map #[] 0)).alloc (.cells #[.int .i64 (L : Int), .map (some w1.heap.size)] 33)) = w2 at HPL ⊢
    clear hmm
    generalize hR0 : w1.heap.size + 1 = R at HPL ⊢
    generalize w1.heap.size = bR at HPL hR0 ⊢
    clear hR0
    go_loopw [8] (fun iv wr => ∃ i : Nat, i ≤ nd ∧ iv = .int .i64 i ∧ ∃ gm A, Hid (PlayI w B gn gu gt bR R gm A A wr)) (fun iv _ => nd - (intOf iv).toNat)
    case atStart => exact ⟨0, Nat.zero_le _, rfl, _, _, HPL⟩
    case round =>
      clear HPL
      obtain ⟨i, hi, rfl, gm, A, hP⟩ := hrel
      by_cases hlt : i < nd
      · obtain ⟨ad, rfl, hok, c0, c1, c2, c3⟩ := HD.out.at_ hP.out.bel hlt
        generalize ds.getD i do0 = d at hok c0 c1 c2 c3
        obtain ⟨dw, dv, dl, dh⟩ := d
        have hW := hok.what
        have hV := hok.var
        have hLo := hok.low
        have hHi := hok.high
        simp only at hW hV hLo hHi c0 c1 c2 c3
        have hba := (Below.refl wr.heap.size wr).alloc (Nat.le_refl _) (.cells #[.int .i64 dw, .int .i64 dv, .int .i64 dl, .int .i64 dh] 35)
        have HP1 := hide (hP.out.below hba)
        have HL1 := hide (Blk.new wr 35 #[.int .i64 dw, .int .i64 dv, .int .i64 dl, .int .i64 dh])
        have hlb : ∀ k, arB B gn gu gt k → k ≠ wr.heap.size := fun k hk e => by have := hP.out.ar.lt hk; omega
        have hlg : gm ≠ wr.heap.size := Nat.ne_of_lt hP.out.rf.map.lt
        have hiI : (i : Int) < (nd : Int) := by omega
        clear hok hba hP
        by_cases w0 : dw = 0
        · subst w0
          have HMK := hide (arMake_any B gn gu gt A ⟨dv, dl, dh⟩ _ HP1.out.ar ⟨hV, hLo, hHi⟩)
          go_wp2_with fail
          generalize wr.heap.size = lb at HL1 hlb hlg ⊢
          generalize (wr.alloc (.cells #[.int .i64 0, .int .i64 dv, .int .i64 dl, .int .i64 dh] 35)) = wa at HP1 HL1 HMK ⊢
          refine (HMK.out).mono ?_
          rintro e w3 ⟨rfl, ha3, hf3⟩
          have HP3 := hide (HP1.out.prog ha3 hf3)
          have HL3 := hide (HL1.out.fr hf3 (fun hk => hlb lb hk rfl))
          clear ha3 hf3 HMK c0 c1 c2 c3
          have l1 := HL3.out.cell 1
          have l2 := HL3.out.cell 2
          have l3 := HL3.out.cell 3
          have HRM := hide (rfMake_any R gm A ⟨dv, dl, dh⟩ w3 HP3.out.rf ⟨hV, hLo, hHi⟩)
          go_wp2_with fail
          refine (HRM.out).mono ?_
          rintro e w4 ⟨rfl, hr4, hf4⟩
          have HP4 := hide (HP3.out.refF hr4 hf4)
          clear hr4 hf4 HRM l1 l2 l3
          have HBR := hide (bareB_any (errV (makeE A ⟨dv, dl, dh⟩)) (makeE A ⟨dv, dl, dh⟩) w4 (HG.out.below HP4.out.bel) (errV_is (makeE_range _ _)))
          generalize errV (makeE A ⟨dv, dl, dh⟩) = ev at HBR ⊢
          generalize makeE A ⟨dv, dl, dh⟩ = ec at HBR ⊢
          generalize makeH A ⟨dv, dl, dh⟩ = eh at HBR ⊢
          generalize makeA A ⟨dv, dl, dh⟩ = A9 at HP3 HP4 ⊢
          go_wp2_with fail
          refine (HBR.out).mono ?_
          rintro e w5 ⟨rfl, hb5⟩
          have HP9 := hide (HP4.out.below hb5)
          clear hb5 HBR HP3 HP4 HP1 HL1 HL3
          have HLN := hide (fun q : Nat => arLen_any B gn gu gt A9 (w5.drewN q) (HP9.out.ar.keep (fun _ _ => rfl)))
          have hlenM := HP9.out.rf.map.len
          have r1 := HP9.out.rf.kR.cell 1
          go_wp2
          go_quiet ((go_at_call 22; refine (HLN.out _).mono ?_; rintro e w9 ⟨rfl, rfl⟩; exact ⟨rfl, _, rfl⟩))
          go_wp2
          go_roundw
          case rel => exact ⟨i + 1, by omega, by go_num, _, _, hide (HP9.out.below (below_drewN (Below.refl _ _) _))⟩
          case measure => simp [intOf]; omega
        by_cases w1 : dw = 1
        · subst w1
          go_wp2_with fail
          have hlbs : wr.heap.size < (wr.alloc (.cells #[.int .i64 1, .int .i64 dv, .int .i64 dl, .int .i64 dh] 35)).heap.size := by simp
          generalize wr.heap.size = lb at HL1 hlb hlg hlbs ⊢
          generalize (wr.alloc (.cells #[.int .i64 1, .int .i64 dv, .int .i64 dl, .int .i64 dh] 35)) = wa at HP1 HL1 hlbs ⊢
          have l2 := HL1.out.cell 2
          have l3 := HL1.out.cell 3
          have HC1 := hide (fun (W : World) (g : Nat) (hP : PlayI w B gn gu gt bR R gm A A W) (hb : Blk W g 3 #[.int .i64 dl, .int .i64 dh]) => playReach dl dh g W hP hLo hHi hb)
          have HC2 := hide (fun (W : World) (g : Nat) (hP : PlayI w B gn gu gt bR R gm A A W) (hb : Blk W g 3 #[.int .i64 dl, .int .i64 dh]) => playReachR dl dh g W hP hLo hHi hb)
          have HC3 := hide (fun (W : World) (A3 A4 : Option Addr) (c3 c4 : Nat) (h3 : RowI W A3 (reachL A [dl, dh]).length (reachL A [dl, dh])) (h4 : RowI W A4 (reachL A [dl, dh]).length (reachL A [dl, dh])) => sameInts_any A3 A4 _ c3 c4 _ W h3 h4 (by have := reachL_le A [dl, dh]; have := HP1.out.ar.room; omega))
          have HLS := hide hlbs
          clear hlbs
          go_region_held3 (fun w' => w'.cell? ⟨lb, 2, none⟩ = some (.int .i64 dl) ∧ w'.cell? ⟨lb, 3, none⟩ = some (.int .i64 dh) ∧ wa.heap.size ≤ w'.heap.size ∧ PlayI w B gn gu gt bR R gm A A w')
            (first | with_reducible assumption | exact two_drewP HLS.out l2 l3 HP1.out | exact two_allocP HLS.out (by assumption) _ | exact two_belowP HLS.out (by assumption) (same_below (by assumption)) | exact two_belowP HLS.out (by assumption) (by assumption))
            (first
              | (go_at_call 13; refine (HC1.out _ _ (And.right (And.right (And.right (by assumption)))) (by repeat (first | (with_reducible refine blk_is ?_; first | with_reducible rfl | (simp; done)) | with_reducible refine blk_alloc _ ?_ | with_reducible refine blk_drew ?_ | with_reducible refine blk_below ?_ (by with_reducible assumption)))).mono ?_; rintro e w3 ⟨A3, k3, rfl, hr3, hb3⟩)
              | (go_at_call 14; refine (HC2.out _ _ (And.right (And.right (And.right (by assumption)))) (by repeat (first | (with_reducible refine blk_is ?_; first | with_reducible rfl | (simp; done)) | with_reducible refine blk_alloc _ ?_ | with_reducible refine blk_drew ?_ | with_reducible refine blk_below ?_ (by with_reducible assumption)))).mono ?_; rintro e w4 ⟨A4, k4, rfl, hr4, hb4⟩)
              | (go_at_call 12; refine (HC3.out _ _ _ _ _ (by repeat (first | with_reducible assumption | with_reducible refine rowI_alloc ?_ _ | with_reducible refine rowI_drew ?_ | with_reducible refine RowI.below ?_ (by with_reducible assumption))) (by repeat (first | with_reducible assumption | with_reducible refine rowI_alloc ?_ _ | with_reducible refine rowI_drew ?_ | with_reducible refine RowI.below ?_ (by with_reducible assumption)))).mono ?_; rintro e w5 ⟨rfl, hq5⟩))
          all_goals
            rename_i hH
            have HP9 := hide hH.2.2.2
            have HLN := hide (HP9.out.lenN)
            have hlenM := HP9.out.rf.map.len
            have r1 := HP9.out.rf.kR.cell 1
            clear hH hr3 hr4 hb3 hb4 hq5 HC1 HC2 HC3 l2 l3 HL1 HP1 c0 c1 c2 c3
            go_wp2
            go_quiet ((go_at_call 22; refine (HLN.out _).mono ?_; rintro e w9 ⟨rfl, rfl⟩; exact ⟨rfl, _, rfl⟩))
            go_wp2
            go_roundw
            case rel => exact ⟨i + 1, by omega, by go_num, _, _, hide (HP9.out.below (below_drewN (Below.refl _ _) _))⟩
            case measure => simp [intOf]; omega
        by_cases w2 : dw = 2
        · subst w2
          go_wp2_with fail
          have hlbs : wr.heap.size < (wr.alloc (.cells #[.int .i64 2, .int .i64 dv, .int .i64 dl, .int .i64 dh] 35)).heap.size := by simp
          generalize wr.heap.size = lb at HL1 hlb hlg hlbs ⊢
          generalize (wr.alloc (.cells #[.int .i64 2, .int .i64 dv, .int .i64 dl, .int .i64 dh] 35)) = wa at HP1 HL1 hlbs ⊢
          have l2 := HL1.out.cell 2
          have l3 := HL1.out.cell 3
          have HC1 := hide (fun (W : World) (g gm' : Nat) (A2 : Ar) (hP : PlayI w B gn gu gt bR R gm' A A2 W) (hb : Blk W g 3 #[.int .i64 dl, .int .i64 dh]) => playSweep dl dh g W hP hLo hHi hb)
          have HC2 := hide (fun (W : World) (g gm' : Nat) (A1 : Ar) (hP : PlayI w B gn gu gt bR R gm' A1 A W) (hb : Blk W g 3 #[.int .i64 dl, .int .i64 dh]) => playSweepR dl dh g W hP hLo hHi hb)
          have HLS := hide hlbs
          have HNA := hide (show ¬ arB B gn gu gt lb from fun hk => hlb lb hk rfl)
          have HNR := hide (show ¬ (fun k => k = R) lb from fun e => by have e' : lb = R := e; have := HP1.out.rf.kR; have h9 := HL1.out; rw [e'] at h9; exact absurd rfl (h9.ne_ this (by decide)))
          have HAL := hide (show ∀ k, arB B gn gu gt k → k < wa.heap.size from fun k hk => HP1.out.ar.lt hk)
          have HRL := hide (show ∀ k, (fun k => k = R) k → k < wa.heap.size from fun k e => by have e' : k = R := e; rw [e']; exact HP1.out.rf.kR.lt)
          clear hlbs
          go_region_held3 (fun w' => w'.cell? ⟨lb, 2, none⟩ = some (.int .i64 dl) ∧ w'.cell? ⟨lb, 3, none⟩ = some (.int .i64 dh) ∧ wa.heap.size ≤ w'.heap.size)
            (first | with_reducible assumption | exact two_below l2 l3 (Nat.le_refl _) HLS.out (Below.refl _ _).drew | (with_reducible refine two_alD HLS.out ?_; with_reducible assumption) | (with_reducible refine two_allocS ?_ HLS.out _; with_reducible assumption) | (refine two_frS hf4 ?_ HLS.out HNR.out; with_reducible assumption) | (refine two_frS hf3 ?_ HLS.out HNA.out; with_reducible assumption))
            (first
              | (go_at_call 15; refine (HC1.out _ _ gm A ?_ ?_).mono ?_; (focus ((repeat (first | with_reducible exact HP1.out | with_reducible refine PlayI.alloc ?_ _ | with_reducible refine PlayI.drew ?_)); done)); (focus ((repeat (first | (with_reducible refine blk_is ?_; first | with_reducible rfl | (simp; done)) | with_reducible refine blk_alloc _ ?_ | with_reducible refine blk_drew ?_ | with_reducible refine blk_fr0 HAL.out ?_ hf3 | with_reducible refine blk_fr1 HAL.out ?_ hf3 | with_reducible refine blk_fr0 HRL.out ?_ hf4 | with_reducible refine blk_fr1 HRL.out ?_ hf4)); done)); rintro e w3 ⟨rfl, hP3, hf3⟩)
              | (go_at_call 15; refine (HC1.out _ _ gm4 (sweepA A [dl, dh]) ?_ ?_).mono ?_; (focus ((repeat (first | with_reducible exact hP4 | with_reducible refine PlayI.alloc ?_ _ | with_reducible refine PlayI.drew ?_)); done)); (focus ((repeat (first | (with_reducible refine blk_is ?_; first | with_reducible rfl | (simp; done)) | with_reducible refine blk_alloc _ ?_ | with_reducible refine blk_drew ?_ | with_reducible refine blk_fr0 HAL.out ?_ hf3 | with_reducible refine blk_fr1 HAL.out ?_ hf3 | with_reducible refine blk_fr0 HRL.out ?_ hf4 | with_reducible refine blk_fr1 HRL.out ?_ hf4)); done)); rintro e w3 ⟨rfl, hP3, hf3⟩)
              | (go_at_call 16; refine (HC2.out _ _ gm A ?_ ?_).mono ?_; (focus ((repeat (first | with_reducible exact HP1.out | with_reducible refine PlayI.alloc ?_ _ | with_reducible refine PlayI.drew ?_)); done)); (focus ((repeat (first | (with_reducible refine blk_is ?_; first | with_reducible rfl | (simp; done)) | with_reducible refine blk_alloc _ ?_ | with_reducible refine blk_drew ?_ | with_reducible refine blk_fr0 HAL.out ?_ hf3 | with_reducible refine blk_fr1 HAL.out ?_ hf3 | with_reducible refine blk_fr0 HRL.out ?_ hf4 | with_reducible refine blk_fr1 HRL.out ?_ hf4)); done)); rintro e w4 ⟨rfl, gm4, hP4, hf4⟩)
              | (go_at_call 16; refine (HC2.out _ _ gm (sweepA A [dl, dh]) ?_ ?_).mono ?_; (focus ((repeat (first | with_reducible exact hP3 | with_reducible refine PlayI.alloc ?_ _ | with_reducible refine PlayI.drew ?_)); done)); (focus ((repeat (first | (with_reducible refine blk_is ?_; first | with_reducible rfl | (simp; done)) | with_reducible refine blk_alloc _ ?_ | with_reducible refine blk_drew ?_ | with_reducible refine blk_fr0 HAL.out ?_ hf3 | with_reducible refine blk_fr1 HAL.out ?_ hf3 | with_reducible refine blk_fr0 HRL.out ?_ hf4 | with_reducible refine blk_fr1 HRL.out ?_ hf4)); done)); rintro e w4 ⟨rfl, gm4, hP4, hf4⟩))
          all_goals
            rename_i hH
            have HP9 := hide (show PlayI w B gn gu gt bR R _ (sweepA A [dl, dh]) (sweepA A [dl, dh]) _ from by first | exact hP4 | exact hP3)
            have HLN := hide (HP9.out.lenN)
            have hlenM := HP9.out.rf.map.len
            have r1 := HP9.out.rf.kR.cell 1
            clear hH hP3 hP4 hf3 hf4 HC1 HC2 l2 l3 HL1 HP1 c0 c1 c2 c3
            go_wp2
            go_quiet ((go_at_call 22; refine (HLN.out _).mono ?_; rintro e w9 ⟨rfl, rfl⟩; exact ⟨rfl, _, rfl⟩))
            go_wp2
            go_roundw
            case rel => exact ⟨i + 1, by omega, by go_num, _, _, hide (HP9.out.below (below_drewN (Below.refl _ _) _))⟩
            case measure => simp [intOf]; omega
        · have d0 : decide (dw = 0) = false := decide_eq_false w0
          have d1 : decide (dw = 1) = false := decide_eq_false w1
          have d2 : decide (dw = 2) = false := decide_eq_false w2
          have f0 : (dw == 0) = false := beq_eq_false_iff_ne.2 w0
          have f1 : (dw == 1) = false := beq_eq_false_iff_ne.2 w1
          have f2 : (dw == 2) = false := beq_eq_false_iff_ne.2 w2
          have HGE := hide (getNd B gn gu gt A dl _ HP1.out.ar hLo)
          go_wp2_with fail
          generalize wr.heap.size = lb at HL1 hlb hlg ⊢
          generalize (wr.alloc (.cells #[.int .i64 dw, .int .i64 dv, .int .i64 dl, .int .i64 dh] 35)) = wa at HP1 HL1 HGE ⊢
          refine (HGE.out).mono ?_
          rintro e w3 ⟨rfl, hb3⟩
          have HP3 := hide ((HP1.out.below hb3).alloc (.cells #[.int .i64 ((gotA A dl).getD nd0).var, .int .i64 ((gotA A dl).getD nd0).low, .int .i64 ((gotA A dl).getD nd0).high] 39))
          have HL3 := hide ((HL1.out.below hb3 HL1.out.lt).alloc (.cells #[.int .i64 ((gotA A dl).getD nd0).var, .int .i64 ((gotA A dl).getD nd0).low, .int .i64 ((gotA A dl).getD nd0).high] 39))
          have HN3 := hide (Blk.new w3 39 #[.int .i64 ((gotA A dl).getD nd0).var, .int .i64 ((gotA A dl).getD nd0).low, .int .i64 ((gotA A dl).getD nd0).high])
          have hlk := fun (W : World) (hW : PlayI w B gn gu gt bR R gm A A W) => hW.look dl hLo
          generalize ((gotA A dl).getD nd0) = nn at HP3 HL3 HN3 hlk ⊢
          generalize (gotA A dl).isSome = bb at hlk ⊢
          clear HP1 HL1 hb3 HGE c0 c1 c2 c3 d0 d1 d2 f0 f1 f2
          go_wp2
          generalize (w3.alloc (.cells #[.int .i64 nn.var, .int .i64 nn.low, .int .i64 nn.high] 39)) = w4 at HP3 HL3 HN3 ⊢
          generalize w3.heap.size = nb at HN3 ⊢
          have hlk0 := hlk w4.drew HP3.out.drew
          have hlk1 := fun o => hlk (w4.alloc o).drew (HP3.out.alloc o).drew
          have hlk2 := fun o => hlk (w4.drew.alloc o) (HP3.out.drew.alloc o)
          have r1 := HP3.out.rf.kR.cell 1
          have l2 := HL3.out.cell 2
          have hlL := HL3.out.lt
          have hlR := HP3.out.rf.kR.lt
          go_region
          all_goals
            have HP5 := hide ((HP3.out.alloc (.cells #[.int .i64 nn.var, .int .i64 nn.low, .int .i64 nn.high] 42)).drew)
            have HL5 := hide ((HL3.out.alloc (.cells #[.int .i64 nn.var, .int .i64 nn.low, .int .i64 nn.high] 42)).drew)
            have HN5 := hide ((HN3.out.alloc (.cells #[.int .i64 nn.var, .int .i64 nn.low, .int .i64 nn.high] 42)).drew)
            have HM5 := hide (Blk.new w4 42 #[.int .i64 nn.var, .int .i64 nn.low, .int .i64 nn.high]).drew
            clear hlk0 hlk1 hlk2 r1 l2 hlL hlR HP3 HL3 HN3 hlk
            generalize (w4.alloc (.cells #[.int .i64 nn.var, .int .i64 nn.low, .int .i64 nn.high] 42)).drew = w5 at HP5 HL5 HN5 HM5 ⊢
            generalize w4.heap.size = mb at HM5 ⊢
            have HTA := hide (fun c : Calm w5 => arTop_any B gn gu gt A dl c.val (HP5.out.below c.bel).ar hLo)
            have HTR := hide (fun c : Calm w5 => rfTop_any R gm A dl c.val (HP5.out.below c.bel).rf hLo)
            have HHA := hide (fun c : Calm w5 => arHas_any B gn gu gt A dl c.val (HP5.out.below c.bel).ar hLo)
            have HHR := hide (fun c : Calm w5 => rfHas_any R gm A dl c.val (HP5.out.below c.bel).rf hLo)
            have y2 := fun c : Calm w5 => (c.cell (i := 2) HL5.out.lt).trans (HL5.out.cell 2)
            have n0 := fun c : Calm w5 => (c.cell (i := 0) HN5.out.lt).trans (HN5.out.cell 0)
            have n1 := fun c : Calm w5 => (c.cell (i := 1) HN5.out.lt).trans (HN5.out.cell 1)
            have n2 := fun c : Calm w5 => (c.cell (i := 2) HN5.out.lt).trans (HN5.out.cell 2)
            have m0 := fun c : Calm w5 => (c.cell (i := 0) HM5.out.lt).trans (HM5.out.cell 0)
            have m1 := fun c : Calm w5 => (c.cell (i := 1) HM5.out.lt).trans (HM5.out.cell 1)
            have m2 := fun c : Calm w5 => (c.cell (i := 2) HM5.out.lt).trans (HM5.out.cell 2)
            go_wp2
            refine wp_region_calm (by kernel_rfl) (by kernel_rfl) ?_
            repeat (go_big_quiet_step (fail))
            go_big_quiet_want
            go_big_quiet_op
            go_big_quiet_call ((go_at_call 18; refine (HTA.out _).mono ?_; rintro e w2 ⟨rfl, hb0⟩; exact ⟨rfl, Calm.on _ hb0⟩))
            repeat (go_big_quiet_step (fail))
            go_big_quiet_want
            go_big_quiet_op
            go_big_quiet_call ((go_at_call 19; refine (HTR.out _).mono ?_; rintro e w2 ⟨rfl, hb0⟩; exact ⟨rfl, Calm.on _ hb0⟩))
            repeat (go_big_quiet_step (fail))
            go_big_quiet_want
            go_big_quiet_op
            go_big_quiet_call ((go_at_call 20; refine (HHA.out _).mono ?_; rintro e w2 ⟨rfl, rfl⟩; exact ⟨rfl, Calm.on _ (Below.refl _ _)⟩))
            repeat (go_big_quiet_step (fail))
            go_big_quiet_want
            go_big_quiet_op
            go_big_quiet_call ((go_at_call 21; refine (HHR.out _).mono ?_; rintro e w2 ⟨rfl, hb0⟩; exact ⟨rfl, Calm.on _ hb0⟩))
            repeat (go_big_quiet_step (fail))
            refine wpQuiet_nil ?_
            rintro _ ⟨cw, rfl⟩
            have HP9 := hide (HP5.out.below cw.bel)
            clear HTA HTR HHA HHR y2 n0 n1 n2 m0 m1 m2 HP5 HL5 HN5 HM5
            generalize cw.val = w9 at HP9 ⊢
            have HLN := hide (HP9.out.lenN)
            have hlenM := HP9.out.rf.map.len
            have r1 := HP9.out.rf.kR.cell 1
            go_wp2
            go_quiet ((go_at_call 22; refine (HLN.out _).mono ?_; rintro e w9 ⟨rfl, rfl⟩; exact ⟨rfl, _, rfl⟩))
            go_wp2
            go_roundw
            case rel => exact ⟨i + 1, by omega, by go_num, _, _, hide (HP9.out.below (below_drewN (Below.refl _ _) _))⟩
            case measure => simp [intOf]; omega
      · obtain rfl : i = nd := by omega
        have HBE := hide hP.out.bel
        clear hP
        go_wp2
        go_ret
        exact ⟨rfl, HBE.out⟩
end Go.Proofs.YtfbhmkpihmcegaaDoor
