/-
  The law BddErrors, walked.
-/
import Derived.Test.YtfbhmkpihmcegaaDoorLawErrs
namespace Go.Proofs.YtfbhmkpihmcegaaDoor
open Go.RowKit Go.Maps

theorem eVars_any (S B gn gu gt gc : Nat) (vars : Int) (R : Nat) (w : World) (h : SpE w S B gn gu gt gc vars R) :
    Calls Tryd.prog 24 #[.pointer (some ⟨S, 0, none⟩)] w (fun e w' => e = .returned (.int .i64 vars) ∧ w = w') := by
  have s1 := h.kS.cell 1
  clear h
  go_enter Tryd.func24, Tryd.ntmps24
  go_wp2
  go_ret
  exact ⟨rfl, rfl⟩
/-- What stands behind the first calls. -/
structure ErI (w : World) (S B gn gu gt gc : Nat) (vars : Int) (R : Nat) (wx : World) : Prop where
  sp : SpE wx S B gn gu gt gc vars R
  bel : Below w.heap.size w wx
theorem ErI.below {w wx wy : World} {S B gn gu gt gc : Nat} {vars : Int} {R : Nat} (h : ErI w S B gn gu gt gc vars R wx) (hb : Below wx.heap.size wx wy) : ErI w S B gn gu gt gc vars R wy :=
  ⟨h.sp.below hb, h.bel.trans (hb.mono h.bel.size)⟩
theorem ErI.alloc {w wx : World} {S B gn gu gt gc : Nat} {vars : Int} {R : Nat} (h : ErI w S B gn gu gt gc vars R wx) (o : Obj) : ErI w S B gn gu gt gc vars R (wx.alloc o) :=
  h.below ((Below.refl _ _).alloc (Nat.le_refl _) o)
/-- .. and the closure's variable. -/
structure RmI (w : World) (S B gn gu gt gc : Nat) (vars : Int) (R g : Nat) (rb : Bool) (wx : World) : Prop where
  er : ErI w S B gn gu gt gc vars R wx
  cell : wx.cell? ⟨g, 0, none⟩ = some (.bool rb)
  is : rb = true → R = 4000
  far : ¬ arB B gn gu gt g
theorem RmI.below {w wx wy : World} {S B gn gu gt gc : Nat} {vars : Int} {R g : Nat} {rb : Bool} (h : RmI w S B gn gu gt gc vars R g rb wx) (hb : Below wx.heap.size wx wy) : RmI w S B gn gu gt gc vars R g rb wy :=
  ⟨h.er.below hb, (hb.cell (p := ⟨g, 0, none⟩) (World.block_lt_of_cell? _ _ h.cell)).trans h.cell, h.is, h.far⟩
/-- .. behind Lit. -/
structure LaI (w : World) (g : Nat) (rb : Bool) (wx : World) : Prop where
  bel : Below w.heap.size w wx
  cell : wx.cell? ⟨g, 0, none⟩ = some (.bool rb)
theorem LaI.below {w wx wy : World} {g : Nat} {rb : Bool} (h : LaI w g rb wx) (hb : Below wx.heap.size wx wy) : LaI w g rb wy :=
  ⟨h.bel.trans (hb.mono h.bel.size), (hb.cell (p := ⟨g, 0, none⟩) (World.block_lt_of_cell? _ _ h.cell)).trans h.cell⟩
theorem RmI.last {w wx wy : World} {S B gn gu gt gc : Nat} {vars : Int} {R g : Nat} {rb : Bool} (h : RmI w S B gn gu gt gc vars R g rb wx) (hl : ∀ k, arB B gn gu gt k → w.heap.size ≤ k) (hf : Fr (arB B gn gu gt) wx wy) : LaI w g rb wy :=
  ⟨h.er.bel.trans (hf.to_below h.er.bel.size fun k hk hS => by have := hl k hS; omega), (hf.cell (p := ⟨g, 0, none⟩) (World.block_lt_of_cell? _ _ h.cell) h.far).trans h.cell⟩
theorem iteC_one (h : Int) : iteC h 1 1 = missE h := by unfold iteC missE; cases endB h <;> rfl
theorem iteC_two (h : Int) : iteC h 0 1 = missE h := by unfold iteC missE; cases endB h <;> rfl
theorem rm_new {w wx : World} {S B gn gu gt gc : Nat} {vars : Int} {R : Nat} {rb : Bool} (h : ErI w S B gn gu gt gc vars R wx) (hr : rb = true → R = 4000) : RmI w S B gn gu gt gc vars R wx.heap.size rb (wx.alloc (.cells #[.bool rb] 4)) :=
  ⟨h.alloc _, (Blk.new wx 4 #[.bool rb]).cell 0, hr, fun hk => by have := h.sp.ar.lt hk; omega⟩
set_option maxRecDepth 100000 in
set_option maxHeartbeats 16000000 in
theorem lawErrs_walk (vars room h v : Int) (w : World) (hG : GlobE w) (i2 : I64 room) (i3 : I64 h) :
    Calls Tryd.prog 4 #[.int .i64 vars, .int .i64 room, .int .i64 h, .int .i64 v] w (AtPost w true) := by
  have HG := hide hG
  have HNW := hide (bdNewE_any vars room w i2)
  clear hG
  go_enter Tryd.func4, Tryd.ntmps4
  go_wp2_with fail
  refine (HNW.out).mono ?_
  rintro e w1 (⟨hno, rfl, hb1⟩ | ⟨⟨v0, v1⟩, R, rfl, hR, S, B, gn, gu, gt, gc, rfl, hsp, hlow, hb1⟩)
  · have HBR := hide (bareS_any 2 w1 (HG.out.below hb1) (.inr ⟨by omega, by omega⟩))
    have HB1 := hide hb1
    rw [errV_ne (by omega)] at HBR ⊢
    clear hb1
    rcases (show vars < 0 ∨ (¬ vars < 0 ∧ 24 < vars) ∨ (¬ vars < 0 ∧ ¬ 24 < vars ∧ room < 0) ∨ (¬ vars < 0 ∧ ¬ 24 < vars ∧ ¬ room < 0 ∧ 4000 < room) by omega) with h1 | ⟨h1, h2⟩ | ⟨h1, h2, h3⟩ | ⟨h1, h2, h3, h4⟩
    case' inr.inl => have h1b : decide (vars < 0) = false := decide_eq_false h1
    case' inr.inr.inl =>
      have h1b : decide (vars < 0) = false := decide_eq_false h1
      have h2b : decide (24 < vars) = false := decide_eq_false h2
    case' inr.inr.inr =>
      have h1b : decide (vars < 0) = false := decide_eq_false h1
      have h2b : decide (24 < vars) = false := decide_eq_false h2
      have h3b : decide (room < 0) = false := decide_eq_false h3
    all_goals
      go_wp2_with fail
      refine (HBR.out).mono ?_
      rintro e w2 ⟨rfl, hb2⟩
      go_wp2
      go_ret
      exact ⟨ret_bool (by simp), HB1.out.trans (hb2.mono HB1.out.size)⟩
  · have h1b : decide (vars < 0) = false := decide_eq_false (by omega)
    have h2b : decide (24 < vars) = false := decide_eq_false (by omega)
    have h3b : decide ((R : Int) < 0) = false := decide_eq_false (by omega)
    have h4b : decide (4000 < (R : Int)) = false := decide_eq_false (by omega)
    have HS1 := hide hsp
    have HB1 := hide hb1
    have HLW := Lib.hid hlow
    have HVR := hide (eVars_any S B gn gu gt gc vars R w1 hsp)
    obtain ⟨E, HE⟩ : ∃ E, Hid (missE h = E) := ⟨_, Lib.hid rfl⟩
    have hE : E = 0 ∨ (1 ≤ E ∧ E ≤ 13) := by rw [← HE.out]; unfold missE; split <;> omega
    clear hsp hb1 hlow HNW
    go_wp2_with fail
    refine (HVR.out).mono ?_
    rintro e w2 ⟨rfl, rfl⟩
    clear HVR h1b h2b h3b h4b
    go_upto_region 7 with fail
    go_cut [81] from 38 (fun s81 wc => s81 = .bool (endB h) ∧ wc = w1)
    case first => as_aux_lemma =>
      by_cases h0 : h = 0
      · subst h0
        go_wp2
        go_meet
        case rel => exact ⟨rfl, rfl⟩
      · have h0b : (h == 0) = false := beq_eq_false_iff_ne.2 h0
        by_cases h1 : h = 1
        · subst h1
          go_wp2
          go_meet
          case rel => exact ⟨rfl, rfl⟩
        · have h1b : (h == 1) = false := beq_eq_false_iff_ne.2 h1
          have HEB := Lib.hid (show endB h = false by unfold endB; rw [h0b, h1b]; rfl)
          go_wp2
          go_meet
          case rel => exact ⟨by rw [HEB.out], rfl⟩
    case rest => as_aux_lemma =>
      obtain ⟨rfl, rfl⟩ := hcut
      go_upto_if 81 with fail
      go_cut [11] from 38 (fun s11 wc2 => s11 = .int .i64 E ∧ wc2 = wc)
      case first => as_aux_lemma =>
        have HE2 := Lib.hid (show (if endB h then 0 else 7) = E from HE.out)
        clear hE
        cases hb : endB h with
        | true =>
          rw [hb] at HE2
          go_wp2
          go_meet
          case rel => exact ⟨by rw [← HE2.out]; rfl, rfl⟩
        | false =>
          rw [hb] at HE2
          go_wp2
          go_meet
          case rel => exact ⟨by rw [← HE2.out]; rfl, rfl⟩
      case rest => as_aux_lemma =>
        obtain ⟨rfl, rfl⟩ := hcut
        have HI := hide (fun wx (hs : SpE wx S B gn gu gt gc vars R) => (eIte_any S B gn gu gt gc vars R wx h 1 1 hs i3 i64_one i64_one).mono fun e w' hp => show ErrP wx E e w' by rw [← HE.out, ← iteC_one]; exact hp.err)
        have HN := hide (fun wx (hs : SpE wx S B gn gu gt gc vars R) => (eNot_any S B gn gu gt gc vars R wx h hs i3).mono fun e w' hp => show ErrP wx E e w' by rw [← HE.out, ← iteC_two]; exact hp.err)
        have HH := hide (fun wx (hs : SpE wx S B gn gu gt gc vars R) => eHolds_any S B gn gu gt gc vars R wx h hs i3)
        have HC := hide (fun wx (hs : SpE wx S B gn gu gt gc vars R) => eCount_any S B gn gu gt gc vars wx R h hs i3 ⟨v0, v1⟩)
        have HD := hide (fun wx (hs : SpE wx S B gn gu gt gc vars R) => eNeeds_any S B gn gu gt gc vars R wx h hs i3)
        have HZ := hide (fun wx (hs : SpE wx S B gn gu gt gc vars R) => eSize_any S B gn gu gt gc vars R wx h hs i3)
        have HAL := hide (fun wx (hs : SpE wx S B gn gu gt gc vars R) => eAll_any S B gn gu gt gc vars R (wx.alloc (.cells #[.int .i64 1, .int .i64 h] 3)) h wx.heap.size (hs.below ((Below.refl _ _).alloc (Nat.le_refl _) _)) i3 ((Blk.new wx 3 #[.int .i64 1, .int .i64 h]).cell 0) ((Blk.new wx 3 #[.int .i64 1, .int .i64 h]).cell 1))
        rw [HE.out] at HH HC HD HZ HAL
        have HX0 := hide (show ErI w S B gn gu gt gc vars R wc from ⟨HS1.out, HB1.out⟩)
        clear HS1 HB1
        go_wp2_with fail
        refine (HI.out _ HX0.out.sp).mono ?_
        rintro e w1 ⟨x1, rfl, hb⟩
        have HX1 := hide (HX0.out.below hb)
        clear hb HX0
        go_wp2_with fail
        refine (HN.out _ HX1.out.sp).mono ?_
        rintro e w2 ⟨x2, rfl, hb⟩
        have HX2 := hide (HX1.out.below hb)
        clear hb HX1
        go_wp2_with fail
        refine (HH.out _ HX2.out.sp).mono ?_
        rintro e w3 ⟨x3, rfl, hb⟩
        have HX3 := hide (HX2.out.below hb)
        clear hb HX2
        go_wp2_with fail
        refine (HC.out _ HX3.out.sp).mono ?_
        rintro e w4 ⟨Av, nv, cv, rfl, hb⟩
        have HX4 := hide ((HX3.out.below hb).alloc (.cells #[.slice Av nv cv] 66))
        clear hb HX3
        go_wp2_with fail
        refine (HD.out _ HX4.out.sp).mono ?_
        rintro e w5 ⟨x5, rfl, hb⟩
        have HX5 := hide (HX4.out.below hb)
        clear hb HX4
        go_wp2_with fail
        refine (HZ.out _ HX5.out.sp).mono ?_
        rintro e w6 ⟨x6, rfl, hb⟩
        have HX6 := hide (HX5.out.below hb)
        clear hb HX5
        go_wp2_with fail
        refine (HAL.out _ HX6.out.sp).mono ?_
        rintro e w7 ⟨x7, rfl, hb⟩
        have HX7 := hide ((HX6.out.alloc _).below hb)
        clear hb HX6 HI HN HH HC HD HZ HAL
        go_upto_region 16 with fail
        go_cut [26] from 38 (fun s26 wc2 => ∃ g rb, s26 = .pointer (some ⟨g, 0, none⟩) ∧ Hid (RmI w S B gn gu gt gc vars R g rb wc2))
        case first => as_aux_lemma =>
          by_cases hq : R = 4000
          · have hqb : ((R : Int) == 4000) = true := beq_iff_eq.2 (by omega)
            have HRM := hide (rm_new (rb := decide (vars ≤ 6)) HX7.out (fun _ => hq))
            clear hq
            go_wp2
            go_meet
            case rel => exact ⟨_, _, rfl, HRM⟩
          · have hqb : ((R : Int) == 4000) = false := beq_eq_false_iff_ne.2 (by omega)
            have HRM := hide (rm_new (rb := false) HX7.out (fun h => by cases h))
            clear hq
            go_wp2
            go_meet
            case rel => exact ⟨_, _, rfl, HRM⟩
        case rest => as_aux_lemma =>
          obtain ⟨g, rb, rfl, HR1⟩ := hcut
          clear HX7
          have hmf : ∀ (fn : Fn) (first cap : Array Value) (w : World), (Instr.makeFunc fn first cap).run Tryd.prog w = .ok (.func fn first cap) w := by intros; rfl
          have HIS := hide (fun wx (hr : RmI w S B gn gu gt gc vars R g rb wx) => isS_any E (.pointer (some ⟨g, 0, none⟩)) wx (HG.out.below hr.er.bel) hE)
          have HBS := hide (fun wx (hr : RmI w S B gn gu gt gc vars R g rb wx) => bareS_any E wx (HG.out.below hr.er.bel) hE)
          go_wp2_with fail
          refine (HIS.out _ HR1.out).mono ?_
          rintro e y1 ⟨rfl, hb⟩
          have HR2 := hide (HR1.out.below hb)
          clear hb HR1
          go_wp2_with fail
          refine (HIS.out _ HR2.out).mono ?_
          rintro e y2 ⟨rfl, hb⟩
          have HR3 := hide (HR2.out.below hb)
          clear hb HR2
          go_wp2_with fail
          refine (HBS.out _ HR3.out).mono ?_
          rintro e y3 ⟨rfl, hb⟩
          have HR4 := hide (HR3.out.below hb)
          clear hb HR3
          go_wp2_with fail
          refine (HBS.out _ HR4.out).mono ?_
          rintro e y4 ⟨rfl, hb⟩
          have HR5 := hide (HR4.out.below hb)
          clear hb HR4
          go_wp2_with fail
          refine (HBS.out _ HR5.out).mono ?_
          rintro e y5 ⟨rfl, hb⟩
          have HR6 := hide (HR5.out.below hb)
          clear hb HR5
          go_wp2_with fail
          refine (HBS.out _ HR6.out).mono ?_
          rintro e y6 ⟨rfl, hb⟩
          have HR7 := hide (HR6.out.below hb)
          clear hb HR6
          go_wp2_with fail
          refine (HIS.out _ HR7.out).mono ?_
          rintro e y7 ⟨rfl, hb⟩
          have HR8 := hide (HR7.out.below hb)
          clear hb HR7
          obtain ⟨C, HC⟩ : ∃ C, Hid (varC vars h v = C) := ⟨_, Lib.hid rfl⟩
          obtain ⟨o, HO⟩ : ∃ o, Hid (decide (v < 0 ∨ vars ≤ v) = o) := ⟨_, Lib.hid rfl⟩
          have HCE := Lib.hid (show C = if o then 2 else E from by
            rw [← HC.out, ← HO.out, ← HE.out]
            unfold varC
            by_cases hq : v < 0 ∨ vars ≤ v
            · rw [if_pos hq, decide_eq_true hq]; rfl
            · rw [if_neg hq, decide_eq_false hq]; rfl)
          clear HIS HBS
          go_upto_region 21 with fail
          go_cut [182] from 38 (fun s182 wd => s182 = .bool o ∧ Hid (RmI w S B gn gu gt gc vars R g rb wd))
          case first => as_aux_lemma =>
            by_cases q1 : v < 0
            · have HO2 := Lib.hid (show o = true by rw [← HO.out]; exact decide_eq_true (.inl q1))
              go_wp2
              go_meet
              case rel => exact ⟨by rw [HO2.out], HR8⟩
            · have q1b : decide (v < 0) = false := decide_eq_false q1
              have HO2 := Lib.hid (show o = decide (vars ≤ v) by rw [← HO.out]; simp [q1])
              clear q1
              go_wp2
              go_meet
              case rel => exact ⟨by rw [HO2.out], HR8⟩
          case rest => as_aux_lemma =>
            obtain ⟨rfl, HT⟩ := hcut
            clear HR8
            go_upto_if 182 with fail
            go_cut [28] from 38 (fun s28 wd => s28 = .int .i64 C ∧ Hid (RmI w S B gn gu gt gc vars R g rb wd))
            case first => as_aux_lemma =>
              cases o with
              | true =>
                have HC2 := Lib.hid (show C = 2 from HCE.out)
                go_wp2
                go_meet
                case rel => exact ⟨by rw [HC2.out], HT⟩
              | false =>
                have HC2 := Lib.hid (show C = E from HCE.out)
                go_wp2
                go_meet
                case rel => exact ⟨by rw [HC2.out], HT⟩
            case rest => as_aux_lemma =>
              obtain ⟨rfl, HT1⟩ := hcut
              clear HT
              have HS := hide (fun wx (hs : SpE wx S B gn gu gt gc vars R) => (eSet_any S B gn gu gt gc vars R wx h v true hs i3).mono fun e w' hp => show ErrP wx C e w' by rw [← HC.out]; exact hp.err)
              have HM := hide (fun wx (hs : SpE wx S B gn gu gt gc vars R) => eSome_any S B gn gu gt gc vars R wx h v hs i3)
              have HA := hide (fun wx (hs : SpE wx S B gn gu gt gc vars R) => eEach_any S B gn gu gt gc vars R wx h v hs i3)
              rw [HC.out] at HM HA
              go_wp2_with fail
              refine (HS.out _ HT1.out.er.sp).mono ?_
              rintro e z1 ⟨f1, rfl, hb⟩
              have HT2 := hide (HT1.out.below hb)
              clear hb HT1
              go_wp2_with fail
              refine (HM.out _ HT2.out.er.sp).mono ?_
              rintro e z2 ⟨f2, rfl, hb⟩
              have HT3 := hide (HT2.out.below hb)
              clear hb HT2
              go_wp2_with fail
              refine (HA.out _ HT3.out.er.sp).mono ?_
              rintro e z3 ⟨f3, rfl, hb⟩
              have HT4 := hide (HT3.out.below hb)
              clear hb HT3 HS HM HA
              go_upto_if 205 with fail
              go_cut [35] from 38 (fun s35 wd => s35 = .int .i64 (if o then 2 else 0) ∧ wd = z3)
              case first => as_aux_lemma =>
                have hE2 : (E == 2) = false := beq_eq_false_iff_ne.2 (by rw [← HE.out]; unfold missE; split <;> omega)
                cases o with
                | true =>
                  have HC2 : C = 2 := HCE.out
                  subst HC2
                  go_wp2
                  go_meet
                  case rel => exact ⟨rfl, rfl⟩
                | false =>
                  have HC2 : C = E := HCE.out
                  subst HC2
                  go_wp2
                  go_meet
                  case rel => exact ⟨rfl, rfl⟩
              case rest => as_aux_lemma =>
                obtain ⟨rfl, rfl⟩ := hcut
                obtain ⟨Lc, HLc⟩ : ∃ Lc : Int, Hid ((if o then 2 else 0) = Lc) := ⟨_, Lib.hid rfl⟩
                have hLc : Lc = 0 ∨ (1 ≤ Lc ∧ Lc ≤ 13) := by rw [← HLc.out]; split <;> omega
                rw [HLc.out]
                have HLI := hide (eLit_any S B gn gu gt gc vars R wc v HT4.out.er.sp ⟨v0, v1⟩)
                have hCC : C = 0 ∨ (1 ≤ C ∧ C ≤ 13) := by rw [HCE.out]; split <;> omega
                have HJS := hide (fun wx (hr : LaI w g rb wx) => isS_any C (.pointer (some ⟨g, 0, none⟩)) wx (HG.out.below hr.bel) hCC)
                go_wp2_with fail
                refine (HLI.out).mono ?_
                rintro e z4 ⟨x8, c8, rfl, hc8, hf⟩
                have HL1 := hide (HT4.out.last HLW.out hf)
                have HJL : Hid (∀ wx, LaI w g rb wx → Calls Tryd.prog 32 #[errV c8, .int .i64 Lc, .pointer (some ⟨g, 0, none⟩)] wx (AtPost wx true)) := by
                  refine hide fun wx hr => ?_
                  have hL : (if v < 0 ∨ vars ≤ v then (2 : Int) else 0) = Lc := by
                    rw [← HLc.out, ← HO.out]
                    by_cases hq : v < 0 ∨ vars ≤ v
                    · rw [if_pos hq, decide_eq_true hq]; rfl
                    · rw [if_neg hq, decide_eq_false hq]; rfl
                  rcases hc8 with hc | ⟨hq, hc, hR0⟩
                  · rw [hc, hL]
                    exact isS_any Lc _ wx (HG.out.below hr.bel) hLc
                  · rw [if_neg hq] at hL
                    rw [hc, ← hL]
                    have hrb : rb = false := by
                      cases rb with
                      | false => rfl
                      | true => have := HT4.out.is rfl; omega
                    have hc2 := hr.cell
                    rw [hrb] at hc2
                    exact isF_any g wx (HG.out.below hr.bel) hc2
                clear hc8 hf HLI HT4
                go_wp2_with fail
                refine (HJS.out _ HL1.out).mono ?_
                rintro e y1 ⟨rfl, hb⟩
                have HL2 := hide (HL1.out.below hb)
                clear hb HL1
                go_wp2_with fail
                refine (HJS.out _ HL2.out).mono ?_
                rintro e y2 ⟨rfl, hb⟩
                have HL3 := hide (HL2.out.below hb)
                clear hb HL2
                go_wp2_with fail
                refine (HJS.out _ HL3.out).mono ?_
                rintro e y3 ⟨rfl, hb⟩
                have HL4 := hide (HL3.out.below hb)
                clear hb HL3
                go_wp2_with fail
                refine (HJL.out _ HL4.out).mono ?_
                rintro e y4 ⟨rfl, hb⟩
                have HL5 := hide (HL4.out.below hb)
                clear hb HL4
                go_wp2
                go_ret
                exact ⟨rfl, HL5.out.bel⟩
end Go.Proofs.YtfbhmkpihmcegaaDoor
