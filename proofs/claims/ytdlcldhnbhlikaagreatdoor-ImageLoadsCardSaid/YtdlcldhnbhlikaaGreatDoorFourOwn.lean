/-
  plain's Functions. Rows of plain steps (four ints each) of the call's own; bdd.New. The law's copy of plain steps as the document's: an append of one step, and what the loop holds.
-/
import Derived.Test.YtdlcldhnbhlikaaGreatDoorBddFunP
import Derived.Deep.RegionHeld3
import Derived.Test.YtdlcldhnbhlikaaGreatDoorBddTabM
namespace Go.Proofs.YtdlcldhnbhlikaaGreatDoor
open Go.RowKit Go.Maps

theorem ownI_two (w : World) (base : Nat) (hb : base ≤ w.heap.size) : OwnI (w.alloc (.cells #[.int .i64 0, .int .i64 1] 3)) base (.slice (some ⟨w.heap.size, 0, none⟩) 2 2) [0, 1] :=
  ⟨rfl, .inr ⟨w.heap.size, 2, #[.int .i64 0, .int .i64 1], rfl, hb, Blk.new w _ _, Nat.le_refl _, by simp [maxLen], rfl, rfl⟩⟩
/-- Where Functions stands. -/
structure FunI (w : World) (S B gn gu gt gc vn : Nat) (q : Nat → Four) (i : Nat) (vo : Value) (wr : World) : Prop where
  is : ∃ A hs, SpM wr S B gn gu gt gc (vn : Int) A 0 ∧ HsOk A hs (funsN vn q i) ∧ OwnI wr w.heap.size vo hs ∧ low3 A ≤ 21 * i
  fr : Fr (spB B gn gu gt gc) w wr
theorem OpI.few {w : World} {S B gn gu gt gc m : Nat} {vars : Int} {A : Ar} {c c' : Nat} (h : OpI w S B gn gu gt gc m vars A c) (hc : c' ≤ c) : OpI w S B gn gu gt gc m vars A c' :=
  ⟨h.sp, by have := h.low; omega, by have := h.most; omega⟩
theorem OpP.three {w w' : World} {S B gn gu gt gc m : Nat} {vars : Int} {A : Ar} {c : Nat} {F : FnB} {e : Ending} (h : OpP w S B gn gu gt gc m vars A c F e w') (hc : c ≤ 3) : OpP w S B gn gu gt gc m vars A 3 F e w' :=
  StpP.mono h (by omega) (by omega) (Int.le_refl _) (fun _ => rfl)
def FunsP (w : World) (S B gn gu gt gc vn : Nat) (q : Nat → Four) (n : Nat) (e : Ending) (w' : World) : Prop := ∃ v, e = .returned v ∧ FunI w S B gn gu gt gc vn q n v w'
set_option maxRecDepth 100000 in
set_option maxHeartbeats 4000000 in
theorem funs_any (S B gn gu gt gc vn : Nat) (Al : Option Addr) (n c : Nat) (q : Nat → Four) (A0 : Ar) (w0 w : World) (h : SpM w S B gn gu gt gc (vn : Int) A0 0) (h1 : 1 ≤ vn) (hlow : low3 A0 = 0) (hn : n ≤ 25)
    (hq : FourP w0 Al n q) (hb0 : Below w0.heap.size w0 w) (hs0 : ∀ k, spB B gn gu gt gc k → w0.heap.size ≤ k) :
    Calls Tryz.prog 31 #[.pointer (some ⟨S, 0, none⟩), .slice Al n c] w (FunsP w S B gn gu gt gc vn q n) := by
  have HQ := hide hq
  have HB0 := hide hb0
  have HS0 := Lib.hid hs0
  have hSw := Lib.hid (fun k (hk : spB B gn gu gt gc k) => h.lt hk)
  have hb := (Below.refl w.heap.size w).alloc (Nat.le_refl _) (.cells #[.int .i64 0, .int .i64 1] 3)
  have HKS := Lib.hid h.kS.lt
  have HST := hide (show FunI w S B gn gu gt gc vn q 0 (.slice (some ⟨w.heap.size, 0, none⟩) 2 2) (w.alloc (.cells #[.int .i64 0, .int .i64 1] 3)) from
    ⟨⟨A0, [0, 1], h.below hb, .start A0, ownI_two w _ (Nat.le_refl _), by omega⟩, .of_below hb (Nat.le_refl _)⟩)
  clear h hq hb0 hs0 hb
  go_enter Tryz.func31, Tryz.ntmps31
  go_wp2
  generalize (w.alloc (.cells #[.int .i64 0, .int .i64 1] 3)) = wS at HST ⊢
  generalize hvS : Value.slice (some ⟨w.heap.size, 0, none⟩) 2 2 = vS at HST ⊢
  clear hvS
  go_loopw [5, 18] (fun vo iv wr => ∃ i : Nat, i ≤ n ∧ iv = .int .i64 i ∧ Hid (FunI w S B gn gu gt gc vn q i vo wr)) (fun _ iv _ => n - (intOf iv).toNat)
  case atStart => exact ⟨0, Nat.zero_le _, rfl, HST⟩
  case round =>
    clear HST
    obtain ⟨i, hi, rfl, hF⟩ := hrel
    by_cases hlt : i < n
    · obtain ⟨A, hs, hsp, hok, hown, hlo⟩ := hF.out.is
      obtain ⟨ad, rfl, hfo, c0, c1, c2, c3⟩ := HQ.out.at_ (HB0.out.trans (hF.out.fr.to_below HB0.out.size (fun k hk hk2 => by have := HS0.out k hk2; omega))) hlt
      have HFR := hide hF.out.fr
      have hnext : funsN vn q (i + 1) = funsN vn q i ++ [stepF vn (q i) (funsN vn q i)] := rfl
      have hlen : hs.length = i + 2 := hok.len.trans (funs_len vn q i)
      have HNX := hide hnext
      clear hnext hF
      generalize funsN vn q i = fs at hok HNX
      generalize q i = d at hfo c0 c1 c2 c3 HNX
      obtain ⟨dw, da, db, dc⟩ := d
      simp only at c0 c1 c2 c3
      have hiI : (i : Int) < (n : Int) := by omega
      obtain ⟨g, cap, cur, rfl, hbg, hkg, hcap, hcur⟩ := hown.form (by omega)
      obtain ⟨ia, pa, fa⟩ := hok.arg (by omega) da
      obtain ⟨ib, pb, fb⟩ := hok.arg (by omega) db
      obtain ⟨ic, pc, fc⟩ := hok.arg (by omega) dc
      have hba := (Below.refl wr.heap.size wr).alloc (Nat.le_refl _) (.cells #[.int .i64 dw, .int .i64 da, .int .i64 db, .int .i64 dc] 88)
      have HS := hide (hsp.below hba)
      have HX := hide (Blk.new wr 88 #[.int .i64 dw, .int .i64 da, .int .i64 db, .int .i64 dc])
      have HG := hide (hkg.alloc (.cells #[.int .i64 dw, .int .i64 da, .int .i64 db, .int .i64 dc] 88))
      have HOW := hide (hown.below hba)
      have HF1 := hide (HFR.out.alloc (.cells #[.int .i64 dw, .int .i64 da, .int .i64 db, .int .i64 dc] 88))
      have HOK := hide hok
      have hxS : ∀ k, spB B gn gu gt gc k → k ≠ wr.heap.size := fun k hk e => by have := hsp.lt hk; omega
      have la : ((atN da hs.length : Nat) : Int) < (hs.length : Int) := by omega
      have lb : ((atN db hs.length : Nat) : Int) < (hs.length : Int) := by omega
      have lc : ((atN dc hs.length : Nat) : Int) < (hs.length : Int) := by omega
      have HCU := Lib.hid hcur
      have HLE := Lib.hid hlen
      have hL0 : 0 < hs.length := by omega
      have hL1 : hs.length ≤ 1000 := by omega
      clear hsp hok hown hkg hba HFR hcur hlen
      go_wp2
      generalize wr.heap.size = xb at HX hxS ⊢
      generalize (wr.alloc (.cells #[.int .i64 dw, .int .i64 da, .int .i64 db, .int .i64 dc] 88)) = wx at HS HX HG HOW HF1 ⊢
      have y1 := HX.out.cell 1
      have y2 := HX.out.cell 2
      have y3 := HX.out.cell 3
      have ga := (HG.out.cell (atN da hs.length)).trans (HCU.out _ ia)
      have gb := (HG.out.cell (atN db hs.length)).trans (HCU.out _ ib)
      have gc' := (HG.out.cell (atN dc hs.length)).trans (HCU.out _ ic)
      have HAT := hide (fun (q : Nat) (z : Int) => plainAt_any z hs.length (wx.drewN q) hL0 (by omega))
      generalize hs.getD (atN da hs.length) 0 = ha at pa fa ga
      generalize hs.getD (atN db hs.length) 0 = hb at pb fb gb
      generalize hs.getD (atN dc hs.length) 0 = hc at pc fc gc'
      go_quiet ((go_at_call 72; refine (HAT.out _ _).mono ?_; rintro e w9 ⟨rfl, rfl⟩; exact ⟨rfl, _, rfl⟩))
      have HS2 := hide (HS.out.below (below_drewN (Below.refl _ _) nq))
      have HX2 := hide (HX.out.drewN nq)
      have HOW2 := hide (HOW.out.below (below_drewN (Below.refl _ _) nq))
      have HF2 := hide (HF1.out.trans (.of_below (below_drewN (Below.refl wx.heap.size wx) nq) (Nat.le_refl _)))
      clear y1 y2 y3 ga gb gc' HAT HS HX HOW HF1 HG
      generalize wx.drewN nq = wy at HS2 HX2 HOW2 HF2 ⊢
      have y2 := HX2.out.cell 2
      have HVR := hide (fun q : Nat => bdVars_any S B gn gu gt gc 0 (vn : Int) A (wy.drewN q) (HS2.out.below (below_drewN (Below.refl _ _) q)))
      have HAT := hide (fun (q : Nat) (z : Int) => plainAt_any z vn (wy.drewN q) (by omega) (by have := HS2.out.v6; omega))
      go_wp2
      go_quiet ((first | (go_at_call 38; refine (HVR.out _).mono ?_; rintro e w9 ⟨rfl, rfl⟩; exact ⟨rfl, _, rfl⟩) | (go_at_call 72; refine (HAT.out _ _).mono ?_; rintro e w9 ⟨rfl, rfl⟩; exact ⟨rfl, _, rfl⟩)))
      have HS3 := hide (HS2.out.below (below_drewN (Below.refl _ _) nq))
      have HX3 := hide (HX2.out.drewN nq)
      have HOW3 := hide (HOW2.out.below (below_drewN (Below.refl _ _) nq))
      have HF3 := hide (HF2.out.trans (.of_below (below_drewN (Below.refl wy.heap.size wy) nq) (Nat.le_refl _)))
      clear y2 HAT HVR HS2 HX2 HOW2 HF2
      generalize wy.drewN nq = wz at HS3 HX3 HOW3 HF3 ⊢
      have y0 := HX3.out.cell 0
      have hvN := atN_lt db (show 0 < vn by omega)
      have HN9 := hide (plainAt_any dw 9 wz (by omega) (by omega))
      have HO := hide (show OpI wz S B gn gu gt gc 0 (vn : Int) A 3 from ⟨HS3.out, by omega, by omega⟩)
      have y3 := HX3.out.cell 3
      unfold AtQ at HN9
      rcases atN_nine dw with e9 | e9 | e9 | e9 | e9 | e9 | e9 | e9 | e9
      all_goals rw [e9] at HN9
      case' inl =>
        have y1 := HX3.out.cell 1
        have y2 := HX3.out.cell 2
        have hvA := atN_lt da (show 0 < vn by omega)
        have hSD := HS3.out.below (Below.refl _ _).drew
        have HVR := hide (bdVars_any S B gn gu gt gc 0 (vn : Int) A wz.drew hSD)
        have HAV := hide (plainAt_any da vn wz.drew (by omega) (by have := HS3.out.v6; omega))
        have HLI := hide ((bdLit_any S B gn gu gt gc 0 (vn : Int) A wz.drew (atN da vn : Int) (oddB db) hSD (by omega) (by omega) (by have := HO.out.low; split <;> omega)).mono fun e w' hp =>
          show OpP wz.drew S B gn gu gt gc 0 (vn : Int) A 3 (stepF vn ⟨dw, da, db, dc⟩ fs) e w' from StpP.mono hp (by split <;> omega) (by omega) (by omega) (stepF_0 (d := ⟨dw, da, db, dc⟩) e9))
        go_wp2_with fail
        refine (HN9.out).mono ?_
        rintro e w9 ⟨rfl, rfl⟩
        clear hSD
        go_wp2_with fail
        go_region_held3 (fun w' => w'.cell? ⟨xb, 1, none⟩ = some (.int .i64 da) ∧ w'.cell? ⟨xb, 2, none⟩ = some (.int .i64 db))
          (first | exact ⟨y1, y2⟩ | exact ⟨(hf1.cell (p := ⟨xb, 1, none⟩) HX3.out.lt (fun hk => hxS _ hk rfl)).trans y1, (hf1.cell (p := ⟨xb, 2, none⟩) HX3.out.lt (fun hk => hxS _ hk rfl)).trans y2⟩)
          (first
            | (go_at_call 38; refine (HVR.out).mono ?_; rintro e w9 ⟨rfl, rfl⟩)
            | (go_at_call 72; refine (HAV.out).mono ?_; rintro e w9 ⟨rfl, rfl⟩)
            | (go_at_call 73; refine (HLI.out).mono ?_; rintro e w1 hp; obtain ⟨A1, x, m1, rfl, hs1, T1, hm1, hf1⟩ := hp))
        all_goals
          have hf1 := (Fr.refl (spB B gn gu gt gc) wz).drew.trans hf1
          have hp := True.intro
          have HC := True.intro
      case' inr.inl =>
        have HC := hide (bdNot_any S B gn gu gt gc 0 (vn : Int) A wz ha (stepF vn ⟨dw, da, db, dc⟩ fs) (OpI.few HO.out (by omega)) pa (fun u => by rw [fa u]; exact stepF_1 (d := ⟨dw, da, db, dc⟩) e9 u))
        go_wp2_with fail
        refine (HN9.out).mono ?_
        rintro e w9 ⟨rfl, rfl⟩
        go_wp2_with fail
        refine (HC.out).mono ?_
        rintro e w1 hp
        obtain ⟨A1, x, m1, rfl, hs1, T1, hm1, hf1⟩ := OpP.three hp (by omega)
      case' inr.inr.inl =>
        have HC := hide (bdAnd_any S B gn gu gt gc 0 (vn : Int) A wz ha hb (stepF vn ⟨dw, da, db, dc⟩ fs) (OpI.few HO.out (by omega)) pa pb (fun u => by rw [fa u, fb u]; exact stepF_2 (d := ⟨dw, da, db, dc⟩) e9 u))
        go_wp2_with fail
        refine (HN9.out).mono ?_
        rintro e w9 ⟨rfl, rfl⟩
        go_wp2_with fail
        refine (HC.out).mono ?_
        rintro e w1 hp
        obtain ⟨A1, x, m1, rfl, hs1, T1, hm1, hf1⟩ := OpP.three hp (by omega)
      case' inr.inr.inr.inl =>
        have HC := hide (bdOr_any S B gn gu gt gc 0 (vn : Int) A wz ha hb (stepF vn ⟨dw, da, db, dc⟩ fs) (OpI.few HO.out (by omega)) pa pb (fun u => by rw [fa u, fb u]; exact stepF_3 (d := ⟨dw, da, db, dc⟩) e9 u))
        go_wp2_with fail
        refine (HN9.out).mono ?_
        rintro e w9 ⟨rfl, rfl⟩
        go_wp2_with fail
        refine (HC.out).mono ?_
        rintro e w1 hp
        obtain ⟨A1, x, m1, rfl, hs1, T1, hm1, hf1⟩ := OpP.three hp (by omega)
      case' inr.inr.inr.inr.inl =>
        have HC := hide (bdXor_any S B gn gu gt gc 0 (vn : Int) A wz ha hb (stepF vn ⟨dw, da, db, dc⟩ fs) (OpI.few HO.out (by omega)) pa pb (fun u => by rw [fa u, fb u]; exact stepF_4 (d := ⟨dw, da, db, dc⟩) e9 u))
        go_wp2_with fail
        refine (HN9.out).mono ?_
        rintro e w9 ⟨rfl, rfl⟩
        go_wp2_with fail
        refine (HC.out).mono ?_
        rintro e w1 hp
        obtain ⟨A1, x, m1, rfl, hs1, T1, hm1, hf1⟩ := OpP.three hp (by omega)
      case' inr.inr.inr.inr.inr.inl =>
        have HC := hide (bdIte_any S B gn gu gt gc 0 (vn : Int) A wz ha hb hc (stepF vn ⟨dw, da, db, dc⟩ fs) (OpI.few HO.out (by omega)) pa pb pc (fun u => by unfold iteF; rw [fa u, fb u, fc u]; exact stepF_5 (d := ⟨dw, da, db, dc⟩) e9 u))
        go_wp2_with fail
        refine (HN9.out).mono ?_
        rintro e w9 ⟨rfl, rfl⟩
        go_wp2_with fail
        refine (HC.out).mono ?_
        rintro e w1 hp
        obtain ⟨A1, x, m1, rfl, hs1, T1, hm1, hf1⟩ := OpP.three hp (by omega)
      case' inr.inr.inr.inr.inr.inr.inl =>
        have HC := hide (bdSetO_any S B gn gu gt gc 0 (vn : Int) A wz ha (atN db vn : Int) (oddB dc) (stepF vn ⟨dw, da, db, dc⟩ fs) (OpI.few HO.out (by omega)) pa (by omega) (by omega) (fun u => by unfold setF; rw [fa]; exact stepF_6 (d := ⟨dw, da, db, dc⟩) e9 u))
        go_wp2_with fail
        refine (HN9.out).mono ?_
        rintro e w9 ⟨rfl, rfl⟩
        go_wp2_with fail
        refine (HC.out).mono ?_
        rintro e w1 hp
        obtain ⟨A1, x, m1, rfl, hs1, T1, hm1, hf1⟩ := OpP.three hp (by omega)
      case' inr.inr.inr.inr.inr.inr.inr.inl =>
        have HC := hide (bdSome_any S B gn gu gt gc 0 (vn : Int) A wz ha (atN db vn : Int) (stepF vn ⟨dw, da, db, dc⟩ fs) HO.out pa (by omega) (by omega) (fun u => by unfold setF; rw [fa, fa]; exact stepF_7 (d := ⟨dw, da, db, dc⟩) e9 u))
        go_wp2_with fail
        refine (HN9.out).mono ?_
        rintro e w9 ⟨rfl, rfl⟩
        go_wp2_with fail
        refine (HC.out).mono ?_
        rintro e w1 hp
        obtain ⟨A1, x, m1, rfl, hs1, T1, hm1, hf1⟩ := OpP.three hp (by omega)
      case' inr.inr.inr.inr.inr.inr.inr.inr =>
        have HC := hide (bdEach_any S B gn gu gt gc 0 (vn : Int) A wz ha (atN db vn : Int) (stepF vn ⟨dw, da, db, dc⟩ fs) HO.out pa (by omega) (by omega) (fun u => by unfold setF; rw [fa, fa]; exact stepF_8 (d := ⟨dw, da, db, dc⟩) e9 u))
        go_wp2_with fail
        refine (HN9.out).mono ?_
        rintro e w9 ⟨rfl, rfl⟩
        go_wp2_with fail
        refine (HC.out).mono ?_
        rintro e w1 hp
        obtain ⟨A1, x, m1, rfl, hs1, T1, hm1, hf1⟩ := OpP.three hp (by omega)
      all_goals
        have HS5 := hide hs1
        have HOK5 := hide ((HOK.out.ext HS3.out.sp T1.sp T1.ext).push T1.has T1.den)
        rw [← HNX.out] at HOK5
        have HOW5 := hide (HOW3.out.fr hf1 (fun k hk1 hk2 hk3 => by have := hSw.out k hk3; omega))
        have HF5 := hide (HF3.out.trans hf1)
        have HLO := Lib.hid (show low3 A1 ≤ 21 * (i + 1) from by have := T1.few; omega)
        have hal := (Below.refl w1.heap.size w1).alloc (Nat.le_refl _) (.cells #[.int .i64 x] 3)
        have HSA := hide (HS5.out.below hal)
        have HOA := hide (HOW5.out.below hal)
        have HFA := hide (HF5.out.alloc (.cells #[.int .i64 x] 3))
        have HRA := hide (blk_reads (zs := [x]) (Blk.new w1 3 #[.int .i64 x]))
        have HSZ := Lib.hid (show w.heap.size ≤ (w1.alloc (.cells #[.int .i64 x] 3)).heap.size from HFA.out.size)
        have HLT := hide (World.ownsRow.lt HOA.out)
        have HLE2 := Lib.hid (show (hs ++ [x]).length = i + 3 from by rw [List.length_append, List.length_singleton, HLE.out])
        have HM2 := Lib.hid (fun y (hy : y ∈ hs ++ [x]) => HS5.out.sp.i64 (HOK5.out.mem hy))
        clear hs1 T1 hm1 hf1 hp hal HC HO HN9 HX3 y0 y3 fa fb fc pa pb pc HOK
        go_wp2_with (first
          | (at_builtin; refine appI _ rfl _ _ _ rfl w.heap.size Tryz.underlying24 _ hs rfl HOA.out (w1.heap.size + 1) (some ⟨w1.heap.size, 0, none⟩) 1 1 [x] rfl HRA.out rfl (by omega) HSZ.out ?_; intro v9 w9 ho9 hg9 hor9; clear hor9; obtain ⟨g9, cap9, cur9, rfl, hbg9, hkg9, hcap9, hcur9⟩ := ho9.form (by rw [HLE2.out]; omega); have HO9 := hide ho9; have HG9 := hide hg9; clear ho9 hg9 hkg9 hcur9; generalize hs ++ [x] = hs2 at HO9 HOK5 HLE2 HM2 hcap9 ⊢)
          | fail)
        have HS9 := hide (HSA.out.keep (w' := w9) fun k hk => HG9.out.block k (hk.elim (fun h => HSA.out.lt h) (fun e => by rw [e]; exact HSA.out.kS.lt)) (fun e => by
          have h9 := (HLT.out k e.symm).1
          rcases hk with hk | hk
          · have := hSw.out k hk; omega
          · have := HKS.out; omega))
        have HF9 := hide (HFA.out.and_ (Fr.grown (Fr.refl (fun k => w.heap.size ≤ k) _) HG9.out (fun k e => (HLT.out k e).1)) (fun k h1 h2 => absurd h2 (by omega)))
        have HFE := hide (bdFree_any S B gn gu gt gc m1 (vn : Int) A1 w9 (some ⟨g9, 0, none⟩) hs2.length cap9 hs2 HS9.out HO9.out.row HM2.out (by rw [HLE2.out]; omega) (fun e => by cases e))
        go_wp2_with fail
        refine (HFE.out).mono ?_
        rintro e w10 ⟨⟨z, rfl⟩, hs10, hf10⟩
        have HS10 := hide hs10
        have HF10 := hide (HF9.out.trans hf10)
        have HO10 := hide (HO9.out.fr hf10 (fun k hk1 hk2 hk3 => by have := hSw.out k hk3; omega))
        clear hs10 hf10
        go_wp2
        go_roundw
        case rel => exact ⟨i + 1, by omega, by go_num, hide ⟨⟨sweepA A1 hs2, hs2, HS10.out, HOK5.out.sweep HS5.out.sp, HO10.out, Nat.le_trans (sweep_low3 A1 hs2) HLO.out⟩, HF10.out⟩⟩
        case measure => simp [intOf]; omega
    · obtain rfl : i = n := by omega
      go_wp2
      go_ret
      exact ⟨_, rfl, hF.out⟩
end Go.Proofs.YtdlcldhnbhlikaaGreatDoor
namespace Go.Proofs.YtdlcldhnbhlikaaGreatDoor
open Go.RowKit Go.Maps

def fourV (q : Four) : List Value := [.int .i64 q.what, .int .i64 q.a, .int .i64 q.b, .int .i64 q.c]
def foursV (qs : List Four) : List Value := qs.flatMap fourV
theorem foursV_len : ∀ qs : List Four, (foursV qs).length = qs.length * 4
  | [] => rfl
  | q :: qs => by
    show (fourV q ++ foursV qs).length = _
    rw [List.length_append, foursV_len qs, List.length_cons]
    show 4 + _ = _
    omega
theorem foursV_at : ∀ (qs : List Four) (k j : Nat), k < qs.length → j < 4 → (foursV qs)[k * 4 + j]? = (fourV (qs.getD k default))[j]?
  | [], k, j, h, _ => absurd h (Nat.not_lt_zero k)
  | q :: qs, 0, j, _, hj => by
    show (fourV q ++ foursV qs)[0 * 4 + j]? = _
    rw [List.getElem?_append_left (by show 0 * 4 + j < 4; omega), Nat.zero_mul, Nat.zero_add]
    rfl
  | q :: qs, k + 1, j, h, hj => by
    show (fourV q ++ foursV qs)[(k + 1) * 4 + j]? = _
    rw [List.getElem?_append_right (by show 4 ≤ (k + 1) * 4 + j; omega), show (k + 1) * 4 + j - (fourV q).length = k * 4 + j by show (k + 1) * 4 + j - 4 = _; omega, foursV_at qs k j (by simp at h; omega) hj]
    rfl
def OwnF (w : World) (base : Nat) (v : Value) (qs : List Four) : Prop := w.ownsRow base 89 4 v qs.length (foursV qs)
section
variable {w w' : World} {base : Nat} {v : Value} {qs : List Four}
theorem OwnF.below (h : OwnF w base v qs) (hb : Below w.heap.size w w') : OwnF w' base v qs :=
  World.ownsRow.kept h (row := none) ⟨hb.os, hb.tape, hb.output, hb.size, fun i hi _ => hb.block i hi⟩ (by cases v.ownBlock <;> simp)
theorem OwnF.kept {r : Option Nat} (h : OwnF w base v qs) (hg : w.grownBy w' r) (hr : v.ownBlock = none ∨ v.ownBlock ≠ r) : OwnF w' base v qs := World.ownsRow.kept h hg hr
theorem ownF_nil (w : World) (base : Nat) : OwnF w base (.slice none 0 0) [] := World.ownsRow_nil _ _ _ _
theorem OwnF.form (h : OwnF w base v qs) (hq : ∀ q ∈ qs, FourOk q) : ∃ A c, v = .slice A qs.length c ∧ FourP w A qs.length (fun k => qs.getD k default) := by
  have hok : ∀ k, k < qs.length → FourOk (qs.getD k default) := fun k hk => by
    rw [List.getD_eq_getElem?_getD, List.getElem?_eq_getElem hk]
    exact hq _ (List.getElem_mem hk)
  rcases h.2 with ⟨rfl, h0⟩ | ⟨g, cap, cur, rfl, hg, hgc, hle, hcm, hcs, hct⟩
  · exact ⟨none, 0, by rw [h0], hok, fun hn => by omega⟩
  · have hgc' : Blk w g 89 cur := hgc
    have each : ∀ k j, k < qs.length → j < 4 → w.cell? ⟨g, k * 4 + j, none⟩ = (fourV (qs.getD k default))[j]? := fun k j hk hj => by
      rw [hgc'.cell, ← foursV_at qs k j hk hj, ← hct, List.getElem?_take_of_lt (by omega)]
      simp
    have ead : ∀ k, (⟨g, 0, none⟩ : Addr).add (k * 4) = ⟨g, k * 4, none⟩ := fun k => by
      unfold Addr.add
      split
      · rename_i h0; rw [h0]
      · simp
    refine ⟨_, cap, rfl, hok, fun hn => ⟨_, rfl, hgc'.lt, fun k hk => ?_⟩⟩
    rw [ead]
    exact ⟨each k 0 hk (by omega), each k 1 hk (by omega), each k 2 hk (by omega), each k 3 hk (by omega)⟩
end
theorem stepInfo : (Tryz.prog.info? 89).map (fun i => (i.zero, i.size, i.bytes)) = some (some (.agg #[.int .i64 0, .int .i64 0, .int .i64 0, .int .i64 0]), 4, 32) := by kernel_rfl
theorem four_reads {w : World} {g : Nat} {q : Four} (h : Blk w g 89 #[.int .i64 q.what, .int .i64 q.a, .int .i64 q.b, .int .i64 q.c]) : Reads w (g + 1) 4 (some ⟨g, 0, none⟩) 1 (fourV q) := by
  refine ⟨rfl, fun _ => ⟨_, rfl, Nat.lt_succ_self _, fun j x hx => ?_⟩⟩
  have c := h.cell j
  have e : (⟨g, 0, none⟩ : Addr).add j = ⟨g, j, none⟩ := by
    unfold Addr.add
    split
    · rename_i h0; rw [h0]
    · simp
  rw [e, c]
  match j, hx with
  | 0, hx => exact hx
  | 1, hx => exact hx
  | 2, hx => exact hx
  | 3, hx => exact hx
  | j + 4, hx => cases hx
/-- append of one step. -/
theorem appF (w : World) {ops : Array Oper} {rest : List Oper} {o : Oper} {a : Act} {Q : Exit → Act → World → Prop} (hgd : o.guard = none) (s x : Operand) (t : TypeId)
    (ho : o.op = .call { callee := .builtin .append, args := #[s, x], argTypes := #[t, t] }) (base : Nat) (ht : Tryz.prog.underlying t = some (.slice 89))
    (v : Value) (qs : List Four) (hs : a.eval s = v) (hown : OwnF w base v qs) (b c : Nat) (q : Four) (hx : a.eval x = .slice (some ⟨b, 0, none⟩) 1 c) (hk : Blk w b 89 #[.int .i64 q.what, .int .i64 q.a, .int .i64 q.b, .int .i64 q.c])
    (hl : qs.length ≤ 1000000) (hbase : base ≤ w.heap.size)
    (h : ∀ v' w', OwnF w' base v' (qs ++ [q]) → w.grownBy w' v.ownBlock → wpList Tryz.prog ops Q rest (a.put o.dst v') w') : wpList Tryz.prog ops Q (o :: rest) a w := by
  obtain ⟨i0, hi, hz0, hz1, hz2⟩ := info_parts stepInfo
  refine wpList_append_any w hgd s x t ho base 89 i0 (.agg #[.int .i64 0, .int .i64 0, .int .i64 0, .int .i64 0]) 4 32 ht hi hz0 hz1 hz2 rfl (by decide) v qs.length _ hs hown (b + 1) _ 1 c (fourV q) hx (four_reads hk) (fun u hu => by
    simp only [fourV, List.mem_cons, List.not_mem_nil, or_false] at hu
    rcases hu with rfl | rfl | rfl | rfl <;> rfl) (by simp only [maxLen]; omega) (by omega) hbase ?_
  intro v' w' ho' hg' hor
  refine h v' w' ?_ hg'
  unfold OwnF
  rw [List.length_append, show foursV (qs ++ [q]) = foursV qs ++ fourV q by unfold foursV; rw [List.flatMap_append]; simp]
  exact ho'
/-- An empty arena of 4000. -/
theorem spA_empty (vars : Int) : SpA (emptyA 4000) vars := by
  refine ⟨wf_empty 4000, ?_, ?_, List.length_replicate ..⟩
  · intro k n e
    rw [got_empty] at e
    cases e
  · intro k n e
    rw [got_empty] at e
    cases e
theorem low3_empty : low3 (emptyA 4000) = 0 := by
  unfold low3 numV
  refine List.length_eq_zero_iff.2 (List.eq_nil_iff_forall_not_mem.2 fun x hx => ?_)
  obtain ⟨m, e, _⟩ := mem_atV.1 hx
  have hn : (emptyA 4000).getD x none = none := by
    unfold emptyA
    rw [List.getD_eq_getElem?_getD, List.getElem?_replicate]
    split <;> rfl
  rw [hn] at e
  cases e
/-- What bdd.New answers. -/
structure SpNew (w : World) (vn : Nat) (S B gn gu gt gc : Nat) (w' : World) : Prop where
  sp : SpM w' S B gn gu gt gc (vn : Int) (emptyA 4000) 0
  own : ∀ k, spB B gn gu gt gc k ∨ k = S → w.heap.size ≤ k
  bel : Below w.heap.size w w'
def SpNewP (w : World) (vn : Nat) (e : Ending) (w' : World) : Prop := ∃ S B gn gu gt gc, e = .returned (.tuple #[.pointer (some ⟨S, 0, none⟩), .nilIface]) ∧ SpNew w vn S B gn gu gt gc w'
theorem sp_new {w w1 : World} {vn B gn gu gt : Nat} (h6 : vn ≤ 6) (ha : ArM w1 B gn gu gt (emptyA 4000)) (hlow : ∀ k, arB B gn gu gt k → w.heap.size ≤ k) (hb : Below w.heap.size w w1) :
    SpNew w vn (w1.heap.size + 1) B gn gu gt w1.heap.size ((w1.alloc (.map #[] 0)).alloc (.cells #[.pointer (some ⟨B, 0, none⟩), .int .i64 (vn : Int), .map (some w1.heap.size)] 82)) := by
  have h1 : Below w1.heap.size w1 ((w1.alloc (.map #[] 0)).alloc (.cells #[.pointer (some ⟨B, 0, none⟩), .int .i64 (vn : Int), .map (some w1.heap.size)] 82)) := ((Below.refl w1.heap.size w1).alloc (Nat.le_refl _) _).alloc (by simp) _
  refine ⟨⟨?_, ha.below h1 (fun k hk => ha.lt hk), ⟨fun _ => none, ?_, fun a b c z e => (by cases e)⟩, spA_empty _, by omega⟩, fun k hk => ?_, hb.trans (h1.mono hb.size)⟩
  · have := Blk.new (w1.alloc (.map #[] 0)) 82 #[.pointer (some ⟨B, 0, none⟩), .int .i64 (vn : Int), .map (some w1.heap.size)]
    simpa using this
  · exact (mapV_made w1).same (Below.heap_alloc _ _ _ (mapV_made (kt := 229) (lit := keyCL) (ok := okC) w1).lt)
  · rcases hk with (hk | hk) | hk
    · exact hlow k hk
    · rw [hk]; exact hb.size
    · rw [hk]; have := hb.size; omega
set_option maxRecDepth 100000 in
set_option maxHeartbeats 4000000 in
theorem bdNew_any (vn : Nat) (h6 : vn ≤ 6) (w : World) : Calls Tryz.prog 30 #[.int .i64 (vn : Int), .int .i64 4000] w (SpNewP w vn) := by
  have hmm := @run_makeMap Tryz.prog
  have HNW := hide (arNew_any 4000 w (by unfold I64; omega))
  have h1b : decide ((vn : Int) < 0) = false := decide_eq_false (by omega)
  have h2b : decide ((24 : Int) < (vn : Int)) = false := decide_eq_false (by omega)
  go_enter Tryz.func30, Tryz.ntmps30
  go_wp2_with fail
  refine (HNW.out).mono ?_
  rintro e w1 (⟨hno, rfl, hb1⟩ | ⟨hyes, B, gn, gu, gt, rfl, har, hlow, hb1⟩)
  · omega
  · have HR := hide (sp_new (vn := vn) h6 har hlow hb1)
    clear har hlow hb1 HNW
    go_wp2
    go_ret2
    exact ⟨_, _, _, _, _, _, rfl, HR.out⟩
end Go.Proofs.YtdlcldhnbhlikaaGreatDoor
namespace Go.Proofs.YtdlcldhnbhlikaaGreatDoor
open Go.RowKit Go.Maps

theorem results_tmp4 {fn : Func} {t u v x : Tmp} (h : fn.results = #[.tmp t, .tmp u, .tmp v, .tmp x]) (tmps : Array Value) (P : Program) (w : World) :
    (results fn tmps).run P w = .ok (.tuple #[tmps.getD t undef, tmps.getD u undef, tmps.getD v undef, tmps.getD x undef]) w := by
  simp [results, h]
/-- Where the copying loop stands. -/
structure CopI (w w1 : World) (q : Nat → Four) (i : Nat) (vo : Value) (wr : World) : Prop where
  bel : Below w1.heap.size w1 wr
  own : OwnF wr w1.heap.size vo ((List.range i).map q)
theorem fours_get {q : Nat → Four} {n k : Nat} (hk : k < n) : ((List.range n).map q).getD k default = q k := by
  rw [List.getD_eq_getElem?_getD, List.getElem?_map, List.getElem?_range hk]
  rfl
theorem FourP.swap {w : World} {A : Option Addr} {n : Nat} {q q' : Nat → Four} (h : FourP w A n q) (he : ∀ k, k < n → q k = q' k) : FourP w A n q' := by
  refine ⟨fun k hk => by rw [← he k hk]; exact h.1 k hk, fun hn => ?_⟩
  obtain ⟨ad, e, hlt, hc⟩ := h.2 hn
  exact ⟨ad, e, hlt, fun k hk => by rw [← he k hk]; exact hc k hk⟩
theorem FourP.fr {S : Nat → Prop} {w w' : World} {A : Option Addr} {n : Nat} {q : Nat → Four} (h : FourP w A n q) (hf : Fr S w w') (hn : ∀ ad, A = some ad → ¬ S ad.block) : FourP w' A n q := by
  refine ⟨h.1, fun h0 => ?_⟩
  obtain ⟨ad, e, hlt, hc⟩ := h.2 h0
  have hS := hn ad e
  have each : ∀ p : Addr, p.block = ad.block → w'.cell? p = w.cell? p := fun p hp => hf.cell (by rw [hp]; exact hlt) (by rw [hp]; exact hS)
  refine ⟨ad, e, Nat.lt_of_lt_of_le hlt hf.size, fun k hk => ?_⟩
  obtain ⟨c0, c1, c2, c3⟩ := hc k hk
  refine ⟨?_, ?_, ?_, ?_⟩
  · rw [each _ (block_of_add ad (k * 4))]; exact c0
  · rw [each ⟨(ad.add (k * 4)).block, (ad.add (k * 4)).off + 1, none⟩ (block_of_add ad (k * 4))]; exact c1
  · rw [each ⟨(ad.add (k * 4)).block, (ad.add (k * 4)).off + 2, none⟩ (block_of_add ad (k * 4))]; exact c2
  · rw [each ⟨(ad.add (k * 4)).block, (ad.add (k * 4)).off + 3, none⟩ (block_of_add ad (k * 4))]; exact c3
theorem CopI.form {w w1 wr : World} {q : Nat → Four} {n : Nat} {vo : Value} (h : CopI w w1 q n vo wr) (hq : ∀ k, k < n → FourOk (q k)) : ∃ A c, vo = .slice A n c ∧ FourP wr A n q ∧ ∀ ad, A = some ad → w1.heap.size ≤ ad.block := by
  have hl : ((List.range n).map q).length = n := by simp
  obtain ⟨A, c, e, hF⟩ := h.own.form (fun x hx => by
    obtain ⟨k, hk, rfl⟩ := List.mem_map.1 hx
    exact hq k (List.mem_range.1 hk))
  rw [hl] at e hF
  subst e
  refine ⟨A, c, rfl, hF.swap fun k hk => fours_get hk, fun ad e => ?_⟩
  subst e
  exact (World.ownsRow.lt h.own ad.block rfl).1
theorem keep4 {w w' : World} {a : Addr} {x0 x1 x2 x3 : Value} (h : w.cell? a = some x0 ∧ w.cell? ⟨a.block, a.off + 1, none⟩ = some x1 ∧ w.cell? ⟨a.block, a.off + 2, none⟩ = some x2 ∧ w.cell? ⟨a.block, a.off + 3, none⟩ = some x3) (hb : Below w.heap.size w w') :
    w'.cell? a = some x0 ∧ w'.cell? ⟨a.block, a.off + 1, none⟩ = some x1 ∧ w'.cell? ⟨a.block, a.off + 2, none⟩ = some x2 ∧ w'.cell? ⟨a.block, a.off + 3, none⟩ = some x3 := by
  have hl := World.block_lt_of_cell? w _ h.1
  exact ⟨(hb.cell hl).trans h.1, (hb.cell (p := ⟨a.block, a.off + 1, none⟩) hl).trans h.2.1, (hb.cell (p := ⟨a.block, a.off + 2, none⟩) hl).trans h.2.2.1, (hb.cell (p := ⟨a.block, a.off + 3, none⟩) hl).trans h.2.2.2⟩
/-- append of one step in a region that draws its order. -/
theorem stepF4 (w : World) {ops : Array Oper} {o : Oper} {a : Act} {K : Act → World → Prop} {Q : Exit → Act → World → Prop} {E : Prop} (hgd : o.guard = none) (s x : Operand) (t : TypeId)
    (ho : o.op = .call { callee := .builtin .append, args := #[s, x], argTypes := #[t, t] }) (base : Nat) (ht : Tryz.prog.underlying t = some (.slice 89))
    (v : Value) (qs : List Four) (hs : a.eval s = v) (hown : OwnF w base v qs) (b c : Nat) (q : Four) (hx : a.eval x = .slice (some ⟨b, 0, none⟩) 1 c) (hk : Blk w b 89 #[.int .i64 q.what, .int .i64 q.a, .int .i64 q.b, .int .i64 q.c])
    (hl : qs.length ≤ 1000000) (hbase : base ≤ w.heap.size)
    (h : ∀ v' w', OwnF w' base v' (qs ++ [q]) → w.grownBy w' v.ownBlock → K (a.put o.dst v') w') :
    if Region.wanted o (yielded ops a.tmps) = true then Oper.wp Tryz.prog o a w K Q else E := by
  obtain ⟨i0, hi, hz0, hz1, hz2⟩ := info_parts stepInfo
  refine step_append_any w hgd s x t ho base 89 i0 (.agg #[.int .i64 0, .int .i64 0, .int .i64 0, .int .i64 0]) 4 32 ht hi hz0 hz1 hz2 rfl (by decide) v qs.length _ hs hown (b + 1) _ 1 c (fourV q) hx (four_reads hk) (fun u hu => by
    simp only [fourV, List.mem_cons, List.not_mem_nil, or_false] at hu
    rcases hu with rfl | rfl | rfl | rfl <;> rfl) (by simp only [maxLen]; omega) (by omega) hbase ?_
  intro v' w' ho' hg' hor
  refine h v' w' ?_ hg'
  unfold OwnF
  rw [List.length_append, show foursV (qs ++ [q]) = foursV qs ++ fourV q by unfold foursV; rw [List.flatMap_append]; simp]
  exact ho'
end Go.Proofs.YtdlcldhnbhlikaaGreatDoor
