/-
  The law FamilyErrors, walked (gen_famerr.py prints it).
-/
import Derived.Test.YtdlcldhnbhlikaaDoorFamEh
import Derived.Test.YtdlcldhnbhlikaaDoorBareC
import Derived.Deep.Cut
namespace Go.Proofs.YtdlcldhnbhlikaaDoor
open Go.RowKit Go.Maps

set_option maxHeartbeats 2000000 in
theorem fisS_any (c : Int) (p : Value) (w : World) (hG : GlobE w) (h : c = 0 ∨ (1 ≤ c ∧ c ≤ 13)) : Calls Tryd.prog 16 #[errV c, .int .i64 c, p] w (AtPost w true) := by
  have HB := hide (bareS_any c w hG h)
  generalize errV c = ev at HB ⊢
  clear hG h
  go_enter Tryd.func16, Tryd.ntmps16
  go_wp2_with fail
  refine (HB.out).mono ?_
  rintro e w4 ⟨rfl, hb4⟩
  go_wp2
  go_ret
  exact ⟨rfl, hb4⟩
set_option maxHeartbeats 2000000 in
theorem fisF_any (g : Nat) (w : World) (hG : GlobE w) (hc : w.cell? ⟨g, 0, none⟩ = some (.bool false)) : Calls Tryd.prog 16 #[errV 12, .int .i64 0, .pointer (some ⟨g, 0, none⟩)] w (AtPost w true) := by
  have HB := bareC_any (errV 12) 12 0 w hG (errV_isE (.inr ⟨by omega, by omega⟩))
  rw [show atB (12, -1) (0, -1) = false by simp [atB]] at HB
  have HB := hide HB
  have HB2 := hide (fun w' (hb : Below w.heap.size w w') => bareS_any 12 w' (hG.below hb) (.inr ⟨by omega, by omega⟩))
  have hlt := World.block_lt_of_cell? w _ hc
  generalize errV 12 = ev at HB HB2 ⊢
  clear hG
  go_enter Tryd.func16, Tryd.ntmps16
  go_wp2_with fail
  refine (HB.out).mono ?_
  rintro e w4 ⟨rfl, hb4⟩
  have hc4 := (hb4.cell (p := ⟨g, 0, none⟩) hlt).trans hc
  have HB4 := hide hb4
  have HB3 := hide (HB2.out w4 hb4)
  clear hb4
  go_wp2_with fail
  refine (HB3.out).mono ?_
  rintro e w5 ⟨rfl, hb5⟩
  go_wp2
  go_ret
  exact ⟨rfl, HB4.out.trans (hb5.mono HB4.out.size)⟩
/-- What stands behind the first calls. -/
structure EfI (w : World) (S B gn gu gt vn R : Nat) (wx : World) : Prop where
  sp : FsE wx S B gn gu gt (vn : Int) R
  bel : Below w.heap.size w wx
theorem EfI.below {w wx wy : World} {S B gn gu gt vn R : Nat} (h : EfI w S B gn gu gt vn R wx) (hb : Below wx.heap.size wx wy) : EfI w S B gn gu gt vn R wy :=
  ⟨h.sp.below hb, h.bel.trans (hb.mono h.bel.size)⟩
theorem EfI.alloc {w wx : World} {S B gn gu gt vn R : Nat} (h : EfI w S B gn gu gt vn R wx) (o : Obj) : EfI w S B gn gu gt vn R (wx.alloc o) :=
  h.below ((Below.refl _ _).alloc (Nat.le_refl _) o)
/-- .. and the closure's variable. -/
structure RfI (w : World) (S B gn gu gt vn R g : Nat) (rb : Bool) (wx : World) : Prop where
  er : EfI w S B gn gu gt vn R wx
  cell : wx.cell? ⟨g, 0, none⟩ = some (.bool rb)
  is : rb = decide (R = 4000 ∧ vn ≤ 6)
  far : ¬ arB B gn gu gt g
theorem RfI.below {w wx wy : World} {S B gn gu gt vn R g : Nat} {rb : Bool} (h : RfI w S B gn gu gt vn R g rb wx) (hb : Below wx.heap.size wx wy) : RfI w S B gn gu gt vn R g rb wy :=
  ⟨h.er.below hb, (hb.cell (p := ⟨g, 0, none⟩) (World.block_lt_of_cell? _ _ h.cell)).trans h.cell, h.is, h.far⟩
/-- .. behind One. -/
structure LfI (w : World) (g : Nat) (rb : Bool) (wx : World) : Prop where
  bel : Below w.heap.size w wx
  cell : wx.cell? ⟨g, 0, none⟩ = some (.bool rb)
theorem LfI.below {w wx wy : World} {g : Nat} {rb : Bool} (h : LfI w g rb wx) (hb : Below wx.heap.size wx wy) : LfI w g rb wy :=
  ⟨h.bel.trans (hb.mono h.bel.size), (hb.cell (p := ⟨g, 0, none⟩) (World.block_lt_of_cell? _ _ h.cell)).trans h.cell⟩
theorem RfI.last {w wx wy : World} {S B gn gu gt vn R g : Nat} {rb : Bool} (h : RfI w S B gn gu gt vn R g rb wx) (hl : ∀ k, arB B gn gu gt k → w.heap.size ≤ k) (hf : Fr (arB B gn gu gt) wx wy) : LfI w g rb wy :=
  ⟨h.er.bel.trans (hf.to_below h.er.bel.size fun k hk hS => by have := hl k hS; omega), (hf.cell (p := ⟨g, 0, none⟩) (World.block_lt_of_cell? _ _ h.cell) h.far).trans h.cell⟩
theorem rf_new {w wx : World} {S B gn gu gt vn R : Nat} {rb : Bool} (h : EfI w S B gn gu gt vn R wx) (hr : rb = decide (R = 4000 ∧ vn ≤ 6)) : RfI w S B gn gu gt vn R wx.heap.size rb (wx.alloc (.cells #[.bool rb] 4)) :=
  ⟨h.alloc _, (Blk.new wx 4 #[.bool rb]).cell 0, hr, fun hk => by have := h.sp.ar.lt hk; omega⟩
set_option maxRecDepth 100000 in
set_option maxHeartbeats 16000000 in
theorem lawFamErr_walk (things room h : Int) (set : Nat) (w : World) (hG : GlobE w) (i2 : I64 room) (i3 : I64 h) (hs64 : set < 18446744073709551616) :
    Calls Tryd.prog 3 #[.int .i64 things, .int .i64 room, .int .i64 h, .int .u64 (set : Int)] w (AtPost w true) := by
  have HG := hide hG
  have HNW := hide (fNewE_any things room w i2)
  clear hG
  go_enter Tryd.func3, Tryd.ntmps3
  go_wp2_with fail
  refine (HNW.out).mono ?_
  rintro e w1 (⟨hno, rfl, hb1⟩ | ⟨vn, R, rfl, v1, rfl, hR, S, B, gn, gu, gt, rfl, hsp, hlow, hb1⟩)
  · have HBR := hide (bareS_any 2 w1 (HG.out.below hb1) (.inr ⟨by omega, by omega⟩))
    have HB1 := hide hb1
    rw [errV_ne (by omega)] at HBR ⊢
    clear hb1
    rcases (show things < 0 ∨ (¬ things < 0 ∧ 24 < things) ∨ (¬ things < 0 ∧ ¬ 24 < things ∧ room < 0) ∨ (¬ things < 0 ∧ ¬ 24 < things ∧ ¬ room < 0 ∧ 4000 < room) by omega) with h1 | ⟨h1, h2⟩ | ⟨h1, h2, h3⟩ | ⟨h1, h2, h3, h4⟩
    case' inr.inl => have h1b : decide (things < 0) = false := decide_eq_false h1
    case' inr.inr.inl =>
      have h1b : decide (things < 0) = false := decide_eq_false h1
      have h2b : decide (24 < things) = false := decide_eq_false h2
    case' inr.inr.inr =>
      have h1b : decide (things < 0) = false := decide_eq_false h1
      have h2b : decide (24 < things) = false := decide_eq_false h2
      have h3b : decide (room < 0) = false := decide_eq_false h3
    all_goals
      go_wp2_with fail
      refine (HBR.out).mono ?_
      rintro e w2 ⟨rfl, hb2⟩
      go_wp2
      go_ret
      exact ⟨ret_bool (by simp), HB1.out.trans (hb2.mono HB1.out.size)⟩
  · have h1b : decide ((vn : Int) < 0) = false := decide_eq_false (by omega)
    have h2b : decide (24 < (vn : Int)) = false := decide_eq_false (by omega)
    have h3b : decide ((R : Int) < 0) = false := decide_eq_false (by omega)
    have h4b : decide (4000 < (R : Int)) = false := decide_eq_false (by omega)
    have HS1 := hide hsp
    have HB1 := hide hb1
    have HLW := Lib.hid hlow
    obtain ⟨E, HE⟩ : ∃ E, Hid (missE h = E) := ⟨_, Lib.hid rfl⟩
    have hE : E = 0 ∨ (1 ≤ E ∧ E ≤ 13) := by rw [← HE.out]; unfold missE; split <;> omega
    clear hsp hb1 hlow HNW
    go_upto_region 7 with fail
    clear h1b h2b h3b h4b
    go_cut [75] from 38 (fun s75 wc => s75 = .bool (endB h) ∧ wc = w1)
    case first => as_aux_lemma =>
      by_cases h0 : h = 0
      · subst h0
        go_wp2
        go_meet
        case rel => exact ⟨rfl, rfl⟩
      · have h0b : (h == 0) = false := beq_eq_false_iff_ne.2 h0
        by_cases h1 : h = 1
        · subst h1
          go_wp2
          go_meet
          case rel => exact ⟨rfl, rfl⟩
        · have h1b : (h == 1) = false := beq_eq_false_iff_ne.2 h1
          have HEB := Lib.hid (show endB h = false by unfold endB; rw [h0b, h1b]; rfl)
          go_wp2
          go_meet
          case rel => exact ⟨by rw [HEB.out], rfl⟩
    case rest => as_aux_lemma =>
      obtain ⟨rfl, rfl⟩ := hcut
      go_upto_if 75 with fail
      go_cut [11] from 38 (fun s11 wc2 => s11 = .int .i64 E ∧ wc2 = wc)
      case first => as_aux_lemma =>
        have HE2 := Lib.hid (show (if endB h then 0 else 7) = E from HE.out)
        clear hE
        cases hb : endB h with
        | true =>
          rw [hb] at HE2
          go_wp2
          go_meet
          case rel => exact ⟨by rw [← HE2.out]; rfl, rfl⟩
        | false =>
          rw [hb] at HE2
          go_wp2
          go_meet
          case rel => exact ⟨by rw [← HE2.out]; rfl, rfl⟩
      case rest => as_aux_lemma =>
        obtain ⟨rfl, rfl⟩ := hcut
        have HOr := hide (fun wx (hs : FsE wx S B gn gu gt (vn : Int) R) => fOr_x S B gn gu gt (vn : Int) R wx h hs i3)
        have HAnd := hide (fun wx (hs : FsE wx S B gn gu gt (vn : Int) R) => fAnd_x S B gn gu gt (vn : Int) R wx h hs i3)
        have HLess := hide (fun wx (hs : FsE wx S B gn gu gt (vn : Int) R) => fLess_x S B gn gu gt (vn : Int) R wx h hs i3)
        have HJoin := hide (fun wx (hs : FsE wx S B gn gu gt (vn : Int) R) => fJoin_x S B gn gu gt (vn : Int) R wx h hs i3)
        have HWithout := hide (fun wx (hs : FsE wx S B gn gu gt (vn : Int) R) => fWithout_x S B gn gu gt (vn : Int) R wx h hs i3)
        have HLeast := hide (fun wx (hs : FsE wx S B gn gu gt (vn : Int) R) => fLeast_x S B gn gu gt (vn : Int) R wx h hs i3)
        have HCount := hide (fun wx (hs : FsE wx S B gn gu gt (vn : Int) R) => fCount_x S B gn gu gt (vn : Int) R wx h hs i3)
        have HList := hide (fun wx (hs : FsE wx S B gn gu gt (vn : Int) R) => fList_x S B gn gu gt (vn : Int) R wx h 5 hs i3 (by omega))
        have HHits := hide (fun wx (hs : FsE wx S B gn gu gt (vn : Int) R) => fHits_x S B gn gu gt R wx vn v1 h hs i3)
        rw [HE.out] at HOr HAnd HLess HJoin HWithout HLeast HCount HList HHits
        have HX0 := hide (show EfI w S B gn gu gt vn R wc from ⟨HS1.out, HB1.out⟩)
        clear HS1 HB1
        go_wp2_with fail
        refine (HOr.out _ HX0.out.sp).mono ?_
        rintro e w1 ⟨x1, rfl, hb⟩
        have HX1 := hide (HX0.out.below hb)
        clear hb HX0 HOr
        go_wp2_with fail
        refine (HAnd.out _ HX1.out.sp).mono ?_
        rintro e w2 ⟨x2, rfl, hb⟩
        have HX2 := hide (HX1.out.below hb)
        clear hb HX1 HAnd
        go_wp2_with fail
        refine (HLess.out _ HX2.out.sp).mono ?_
        rintro e w3 ⟨x3, rfl, hb⟩
        have HX3 := hide (HX2.out.below hb)
        clear hb HX2 HLess
        go_wp2_with fail
        refine (HJoin.out _ HX3.out.sp).mono ?_
        rintro e w4 ⟨x4, rfl, hb⟩
        have HX4 := hide (HX3.out.below hb)
        clear hb HX3 HJoin
        go_wp2_with fail
        refine (HWithout.out _ HX4.out.sp).mono ?_
        rintro e w5 ⟨x5, rfl, hb⟩
        have HX5 := hide (HX4.out.below hb)
        clear hb HX4 HWithout
        go_wp2_with fail
        refine (HLeast.out _ HX5.out.sp).mono ?_
        rintro e w6 ⟨x6, rfl, hb⟩
        have HX6 := hide (HX5.out.below hb)
        clear hb HX5 HLeast
        go_wp2_with fail
        refine (HCount.out _ HX6.out.sp).mono ?_
        rintro e w7 ⟨Av, nv, cv, rfl, hb⟩
        have HX7 := hide ((HX6.out.below hb).alloc (.cells #[.slice Av nv cv] 35))
        clear hb HX6 HCount
        go_wp2_with fail
        refine (HList.out _ HX7.out.sp).mono ?_
        rintro e w8 ⟨x8, rfl, hb⟩
        have HX8 := hide (HX7.out.below hb)
        clear hb HX7 HList
        go_wp2_with fail
        refine (HHits.out _ HX8.out.sp).mono ?_
        rintro e w9 ⟨x9, rfl, hb⟩
        have HX9 := hide (HX8.out.below hb)
        clear hb HX8 HHits
        go_upto_region 18 with fail
        go_cut [30] from 38 (fun s30 wc2 => ∃ g rb, s30 = .pointer (some ⟨g, 0, none⟩) ∧ Hid (RfI w S B gn gu gt vn R g rb wc2))
        case first => as_aux_lemma =>
          by_cases hq : R = 4000
          · have hqb : ((R : Int) == 4000) = true := beq_iff_eq.2 (by omega)
            have hr : decide ((vn : Int) ≤ 6) = decide (R = 4000 ∧ vn ≤ 6) := by
              by_cases h6 : vn ≤ 6
              · rw [decide_eq_true (show (vn : Int) ≤ 6 by omega), decide_eq_true ⟨hq, h6⟩]
              · rw [decide_eq_false (show ¬ (vn : Int) ≤ 6 by omega), decide_eq_false (fun e => h6 e.2)]
            have HRM := hide (rf_new HX9.out hr)
            clear hq hr
            go_wp2
            go_meet
            case rel => exact ⟨_, _, rfl, HRM⟩
          · have hqb : ((R : Int) == 4000) = false := beq_eq_false_iff_ne.2 (by omega)
            have HRM := hide (rf_new (rb := false) HX9.out (decide_eq_false (fun e => hq e.1)).symm)
            clear hq
            go_wp2
            go_meet
            case rel => exact ⟨_, _, rfl, HRM⟩
        case rest => as_aux_lemma =>
          obtain ⟨g, rb, rfl, HR0⟩ := hcut
          clear HX9
          have hmf : ∀ (fn : Fn) (first cap : Array Value) (w : World), (Instr.makeFunc fn first cap).run Tryd.prog w = .ok (.func fn first cap) w := by intros; rfl
          have HIS := hide (fun wx (hr : RfI w S B gn gu gt vn R g rb wx) => fisS_any E (.pointer (some ⟨g, 0, none⟩)) wx (HG.out.below hr.er.bel) hE)
          have HBS := hide (fun wx (hr : RfI w S B gn gu gt vn R g rb wx) => bareS_any E wx (HG.out.below hr.er.bel) hE)
          go_wp2_with fail
          refine (HIS.out _ HR0.out).mono ?_
          rintro e y1 ⟨rfl, hb⟩
          have HR1 := hide (HR0.out.below hb)
          clear hb HR0
          go_wp2_with fail
          refine (HIS.out _ HR1.out).mono ?_
          rintro e y2 ⟨rfl, hb⟩
          have HR2 := hide (HR1.out.below hb)
          clear hb HR1
          go_wp2_with fail
          refine (HIS.out _ HR2.out).mono ?_
          rintro e y3 ⟨rfl, hb⟩
          have HR3 := hide (HR2.out.below hb)
          clear hb HR2
          go_wp2_with fail
          refine (HIS.out _ HR3.out).mono ?_
          rintro e y4 ⟨rfl, hb⟩
          have HR4 := hide (HR3.out.below hb)
          clear hb HR3
          go_wp2_with fail
          refine (HIS.out _ HR4.out).mono ?_
          rintro e y5 ⟨rfl, hb⟩
          have HR5 := hide (HR4.out.below hb)
          clear hb HR4
          go_wp2_with fail
          refine (HIS.out _ HR5.out).mono ?_
          rintro e y6 ⟨rfl, hb⟩
          have HR6 := hide (HR5.out.below hb)
          clear hb HR5
          go_wp2_with fail
          refine (HBS.out _ HR6.out).mono ?_
          rintro e y7 ⟨rfl, hb⟩
          have HR7 := hide (HR6.out.below hb)
          clear hb HR6
          go_wp2_with fail
          refine (HBS.out _ HR7.out).mono ?_
          rintro e y8 ⟨rfl, hb⟩
          have HR8 := hide (HR7.out.below hb)
          clear hb HR7
          go_wp2_with fail
          refine (HIS.out _ HR8.out).mono ?_
          rintro e y9 ⟨rfl, hb⟩
          have HR9 := hide (HR8.out.below hb)
          clear hb HR8
          clear HIS HBS
          obtain ⟨C, HC⟩ : ∃ C, Hid (inC vn set h = C) := ⟨_, Lib.hid rfl⟩
          obtain ⟨Q, HQ⟩ : ∃ Q, Hid (oneC vn set = Q) := ⟨_, Lib.hid rfl⟩
          have hCC : C = 0 ∨ (1 ≤ C ∧ C ≤ 13) := by rw [← HC.out]; unfold inC; split <;> first | omega | (split <;> omega)
          have hQQ : Q = 0 ∨ (1 ≤ Q ∧ Q ≤ 13) := by rw [← HQ.out]; unfold oneC; split <;> omega
          have hmin : min vn 64 = vn := by omega
          have hEE : E = 0 ∨ E = 7 := by rw [← HE.out]; unfold missE; split <;> omega
          obtain ⟨o, HO⟩ : ∃ o, Hid (decide (set >>> vn ≠ 0) = o) := ⟨_, Lib.hid rfl⟩
          have HCE := Lib.hid (show C = if o then (if E = 0 then 2 else E) else E from by
            rw [← HC.out, ← HO.out, ← HE.out]
            unfold inC missE
            by_cases hz : set >>> vn = 0
            · rw [decide_eq_false (by omega)]; cases endB h <;> simp [hz]
            · rw [decide_eq_true (by omega)]; cases endB h <;> simp [hz])
          have HQE := Lib.hid (show Q = if o then 2 else 0 from by
            rw [← HQ.out, ← HO.out]
            unfold oneC
            by_cases hz : set >>> vn = 0
            · rw [decide_eq_false (by omega), if_pos hz]; rfl
            · rw [decide_eq_true (by omega), if_neg hz]; rfl)
          go_upto_region 23 with fail
          go_cut [202] from 38 (fun s202 wd => s202 = .bool o ∧ Hid (RfI w S B gn gu gt vn R g rb wd))
          case first => as_aux_lemma =>
            by_cases hz : set >>> vn = 0
            · have hzb := shr_zero set vn hz
              have HO2 := Lib.hid (show o = false by rw [← HO.out]; exact decide_eq_false (by omega))
              clear hz
              go_wp2
              go_meet
              case rel => exact ⟨by rw [HO2.out], HR9⟩
            · have HZB := Lib.hid (shr_some set vn hz)
              have HO2 := Lib.hid (show o = true by rw [← HO.out]; exact decide_eq_true hz)
              clear hz
              go_wp2
              go_meet
              case rel => exact ⟨by rw [HO2.out]; show Value.bool (!((set : Int) / 2 ^ vn == 0)) = _; rw [HZB.out]; rfl, HR9⟩
          case rest => as_aux_lemma =>
            obtain ⟨rfl, HT0⟩ := hcut
            clear HR9
            go_upto_if 202 with fail
            go_cut [32, 33] from 38 (fun s32 s33 wd2 => s32 = .int .i64 C ∧ s33 = .int .i64 Q ∧ Hid (RfI w S B gn gu gt vn R g rb wd2))
            case first => as_aux_lemma =>
              rcases hEE with hE0 | hE7
              · subst hE0
                cases o with
                | true =>
                  have hC2 : C = 2 := HCE.out
                  have hQ2 : Q = 2 := HQE.out
                  subst hC2 hQ2
                  go_wp2
                  go_meet
                  case rel => exact ⟨rfl, rfl, HT0⟩
                | false =>
                  have hC2 : C = 0 := HCE.out
                  have hQ2 : Q = 0 := HQE.out
                  subst hC2 hQ2
                  go_wp2
                  go_meet
                  case rel => exact ⟨rfl, rfl, HT0⟩
              · subst hE7
                cases o with
                | true =>
                  have hC2 : C = 7 := HCE.out
                  have hQ2 : Q = 2 := HQE.out
                  subst hC2 hQ2
                  go_wp2
                  go_meet
                  case rel => exact ⟨rfl, rfl, HT0⟩
                | false =>
                  have hC2 : C = 7 := HCE.out
                  have hQ2 : Q = 0 := HQE.out
                  subst hC2 hQ2
                  go_wp2
                  go_meet
                  case rel => exact ⟨rfl, rfl, HT0⟩
            case rest => as_aux_lemma =>
              obtain ⟨rfl, rfl, HR9⟩ := hcut
              clear HT0
              have HIN := hide (fun wx (hs : FsE wx S B gn gu gt (vn : Int) R) => fIn_x S B gn gu gt R wx vn set h hs i3 v1 hs64)
              have HON := hide (fun wx (hs : FsE wx S B gn gu gt (vn : Int) R) => fOne_x S B gn gu gt R wx vn set hs v1 hs64)
              unfold OneQ at HON
              rw [HC.out] at HIN
              rw [HQ.out] at HON
              go_wp2_with fail
              refine (HIN.out _ HR9.out.er.sp).mono ?_
              rintro e z1 ⟨f1, rfl, hb⟩
              have HT1 := hide (HR9.out.below hb)
              clear hb HR9 HIN
              go_wp2_with fail
              refine (HON.out _ HT1.out.er.sp).mono ?_
              rintro e z2 ⟨f2, c2, rfl, hc2, hf⟩
              have HL1 := hide (HT1.out.last (fun k hk => HLW.out k hk) hf)
              have HBC := hide (fun wx (hr : LfI w g rb wx) => bareS_any C wx (HG.out.below hr.bel) hCC)
              have HJL : Hid (∀ wx, LfI w g rb wx → Calls Tryd.prog 16 #[errV c2, .int .i64 Q, .pointer (some ⟨g, 0, none⟩)] wx (AtPost wx true)) := by
                refine hide fun wx hr => ?_
                rcases hc2 with hc | ⟨hq, hc, hroom⟩
                · rw [hc]
                  exact fisS_any Q _ wx (HG.out.below hr.bel) hQQ
                · rw [hc, hq]
                  have hrb : rb = false := by rw [HT1.out.is]; exact decide_eq_false hroom
                  have hc2 := hr.cell
                  rw [hrb] at hc2
                  exact fisF_any g wx (HG.out.below hr.bel) hc2
              clear hc2 hf HON HT1
              go_wp2_with fail
              refine (HBC.out _ HL1.out).mono ?_
              rintro e y1 ⟨rfl, hb⟩
              have HL2 := hide (HL1.out.below hb)
              clear hb HL1
              go_wp2_with fail
              refine (HJL.out _ HL2.out).mono ?_
              rintro e y2 ⟨rfl, hb⟩
              have HL3 := hide (HL2.out.below hb)
              clear hb HL2
              go_wp2
              go_ret
              exact ⟨rfl, HL3.out.bel⟩
end Go.Proofs.YtdlcldhnbhlikaaDoor
