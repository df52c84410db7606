/-
  The document's Families, walked. (Printed by wip/gen_fams.py.)
-/
import Derived.Test.YtdlcldhnbhlikaaFamRow
import Derived.Deep.Cut
namespace Go.Proofs.Ytdlcldhnbhlikaa
open Go.RowKit Go.Maps

theorem refAtZ_any (n : Int) (k : Nat) (w : World) (hk : 0 < k) (hk2 : k ≤ 1000000) :
    Calls Try.prog 32 #[.int .i64 n, .int .i64 (k : Int)] w (AtQ w n k) := by
  go_enter Try.func32, Try.ntmps32
  go_wp2
  go_ret
  exact ⟨by rw [← at_val n hk hk2]; rfl, rfl⟩
/-- Where Families stands. -/
structure FlsI (w : World) (vn : Nat) (q : Nat → Four) (i : Nat) (vo : Value) (wr : World) : Prop where
  bel : Below w.heap.size w wr
  is : ∃ gs, OwnM wr w.heap.size vo gs ∧ Fams wr w.heap.size gs (famsN vn q i)
def FlsP (w : World) (vn : Nat) (q : Nat → Four) (n : Nat) (e : Ending) (w' : World) : Prop := ∃ v, e = .returned v ∧ FlsI w vn q n v w'
theorem mapU_row {w : World} {base : Nat} {v : Value} {gs : List Nat} {g : Nat} {f : Nat → Bool} (h : OwnM w base v gs) (hm : MapU w g f) : v.ownBlock ≠ some g := by
  obtain ⟨D, ⟨es, clock, hb, _⟩, _⟩ := hm
  rcases h.2 with ⟨rfl, _⟩ | ⟨g', cap, cur, rfl, _, hh, _⟩
  · simp [Value.ownBlock]
  · intro he
    have e : g' = g := by simpa [Value.ownBlock] using he
    subst e
    cases hh.symm.trans hb
theorem fls_next {w wr w9 : World} {vn i gf : Nat} {q : Nat → Four} {v v9 : Value} {gs : List Nat} {fs : List FamB} {F : FamB} {o : Obj} (hb : Below w.heap.size w wr) (ho : OwnM wr w.heap.size v gs) (ht : Fams wr w.heap.size gs fs)
    (hn : famsN vn q (i + 1) = fs ++ [F]) (hm : MapU wr gf F) (hge : w.heap.size ≤ gf) (ho9 : OwnM w9 w.heap.size v9 (gs ++ [gf])) (hg : (wr.alloc o).grownBy w9 v.ownBlock) : FlsI w vn q (i + 1) v9 w9 := by
  have hba := (Below.refl wr.heap.size wr).alloc (Nat.le_refl _) o
  have hlt := World.ownsRow.lt ho
  have k9 : ∀ {g : Nat} {f : Nat → Bool}, MapU wr g f → MapU w9 g f := fun h => (h.below hba h.lt).kept hg (fun e => mapU_row ho h e.symm)
  refine ⟨(hb.trans (hba.mono hb.size)).grown hg (Nat.le_trans hb.size hba.size) (fun j hj => (hlt j hj).1), gs ++ [gf], ho9, ?_⟩
  rw [hn]
  exact Fams.push ⟨ht.len, fun k hk => ⟨(ht.is k hk).1, k9 (ht.is k hk).2⟩⟩ hge (k9 hm)
/-- What stands while a step's family is made in block gf. -/
structure BaseI (w wz : World) (gf : Nat) (v : Value) (gs : List Nat) (fs : List FamB) : Prop where
  own : OwnM wz w.heap.size v gs
  tab : Fams wz w.heap.size gs fs
  bel : Below w.heap.size w wz
  lr : v.ownBlock ≠ some gf
  lg : ∀ k, k < gs.length → gs.getD k 0 ≠ gf
  ge : w.heap.size ≤ gf
theorem BaseI.fr {w wz wr : World} {gf : Nat} {v : Value} {gs : List Nat} {fs : List FamB} (h : BaseI w wz gf v gs fs) (hf : Fr (fun k => k = gf) wz wr) : OwnM wr w.heap.size v gs ∧ Fams wr w.heap.size gs fs ∧ Below w.heap.size w wr :=
  ⟨h.own.kept hf.grow1 (.inr h.lr), h.tab.fr hf h.lg, h.bel.trans (hf.to_below h.bel.size (fun k hk e => by have := h.ge; omega))⟩
section
variable {F H left left2 : Nat → Bool} {s y : Nat}
theorem left_put (hF : F s = true) : (if y = s then true else (F y && !left y)) = (F y && !(left y && !(y == s))) := by
  by_cases e : y = s
  · subst e; simp [hF]
  · rw [if_neg e, beq_eq_false_iff_ne.2 e, Bool.not_false, Bool.and_true]
theorem left_put2 (hH : H s = true) : (if y = s then true else (F y || (H y && !left y))) = (F y || (H y && !(left y && !(y == s)))) := by
  by_cases e : y = s
  · subst e; simp [hH]
  · rw [if_neg e, beq_eq_false_iff_ne.2 e, Bool.not_false, Bool.and_true]
theorem left_put3 {c : Nat → Bool} (hF : F s = true) (hc : c s = true) : (if y = s then true else ((F y && !left y) && c y)) = ((F y && !(left y && !(y == s))) && c y) := by
  by_cases e : y = s
  · subst e; simp [hF, hc]
  · rw [if_neg e, beq_eq_false_iff_ne.2 e, Bool.not_false, Bool.and_true]
theorem left_skip {c : Nat → Bool} (hc : c s = false) : ((F y && !left y) && c y) = ((F y && !(left y && !(y == s))) && c y) := by
  by_cases e : y = s
  · subst e; simp [hc]
  · rw [beq_eq_false_iff_ne.2 e, Bool.not_false, Bool.and_true]
theorem left_skip5 (hF : F s = false) : (F y && !left y) = (F y && !(left y && !(y == s))) := by
  by_cases e : y = s
  · subst e; simp [hF]
  · rw [beq_eq_false_iff_ne.2 e, Bool.not_false, Bool.and_true]
theorem left_none (hd : ∀ z, F z = true → z < 64) (hl : ∀ z, z < 64 → left z = false) (y : Nat) : (F y && !left y) = F y := by
  cases h : F y with
  | false => rfl
  | true => rw [hl y (hd y h)]; rfl
end
/-- Two walks, one inside the other. -/
structure Gen2 (wz : World) (gX r gf : Nat) (FX left G : Nat → Bool) (gY r' : Nat) (FY left' : Nat → Bool) (c : Nat) (wr : World) : Prop where
  gen : GenI wz gX r gf FX left G wr
  rng : RngU wr gY r' FY left'
  left_ : wr.rangeLeft gY r' = c
  hr' : wz.heap.size ≤ r'
  hne : r' ≠ r
  hy : gY < wz.heap.size ∧ gY ≠ gf
section
variable {wz wr w1 w2 wS : World} {gX r gf gY r' c : Nat} {FX left left2 G G' FY left' : Nat → Bool}
theorem gen2_start (h : GenI wz gY r' gf FY left' G w2) (hx : gX < wz.heap.size ∧ gX ≠ gf) (hr1 : RngU wS gX w2.heap.size FX FX) (hg1 : w2.grownBy wS none) (e : ∀ s, G s = G' s) :
    Gen2 wz gX w2.heap.size gf FX FX G' gY r' FY left' (w2.rangeLeft gY r') wS :=
  ⟨(gen_start h.out h.fr h.hg hx hr1 hg1).congr e, h.rng.kept hg1 (by simp) (by simp), h.rng.left_kept hg1 (by simp) (by simp), h.hr, by have := h.rng.ltr; omega, h.hx⟩
theorem Gen2.next (h : Gen2 wz gX r gf FX left G gY r' FY left' c wr) (hr1 : RngU w1 gX r FX left2) (hg1 : wr.grownBy w1 (some r)) : Gen2 wz gX r gf FX left2 G gY r' FY left' c w1 :=
  have h1 : some gY ≠ some r := by have := h.hy; have := h.gen.hr; simp; omega
  have h2 : some r' ≠ some r := by have := h.hne; simpa using this
  ⟨h.gen.next hr1 hg1, h.rng.kept hg1 h1 h2, (h.rng.left_kept hg1 h1 h2).trans h.left_, h.hr', h.hne, h.hy⟩
theorem Gen2.put (h : Gen2 wz gX r gf FX left G gY r' FY left' c wr) (ho : MapU w1 gf G') (hg1 : wr.grownBy w1 (some gf)) : Gen2 wz gX r gf FX left G' gY r' FY left' c w1 :=
  have h1 : some gY ≠ some gf := by have := h.hy.2; simpa using this
  have h2 : some r' ≠ some gf := by have := h.hr'; have := h.gen.hg; simp; omega
  ⟨h.gen.put ho hg1, h.rng.kept hg1 h1 h2, (h.rng.left_kept hg1 h1 h2).trans h.left_, h.hr', h.hne, h.hy⟩
theorem Gen2.congr (h : Gen2 wz gX r gf FX left G gY r' FY left' c wr) (e : ∀ s, G s = G' s) : Gen2 wz gX r gf FX left G' gY r' FY left' c wr := by rw [← show G = G' from funext e]; exact h
theorem Gen2.back (h : Gen2 wz gX r gf FX left G gY r' FY left' c wr) : GenI wz gY r' gf FY left' G wr := ⟨h.rng, h.gen.out, h.gen.fr, h.hr', h.gen.hg, h.hy⟩
end
theorem ownM_two (w : World) (base g1 g2 : Nat) (hb : base ≤ w.heap.size) : OwnM (w.alloc (.cells #[.map (some g1), .map (some g2)] 37)) base (.slice (some ⟨w.heap.size, 0, none⟩) 2 2) [g1, g2] :=
  ⟨rfl, .inr ⟨w.heap.size, 2, #[.map (some g1), .map (some g2)], rfl, hb, Blk.new w _ _, Nat.le_refl _, by simp [maxLen], rfl, rfl⟩⟩
set_option maxRecDepth 100000 in
set_option maxHeartbeats 16000000 in
theorem refFams_any (vn : Nat) (Al : Option Addr) (n c : Nat) (q : Nat → Four) (w : World) (h6 : vn ≤ 6) (hn : n ≤ 20) (hq : FourP w Al n q) :
    Calls Try.prog 12 #[.int .i64 (vn : Int), .slice Al n c] w (FlsP w vn q n) := by
  have hmm := @run_makeMap Try.prog
  have HQ := hide hq
  have a1 := (Below.refl w.heap.size w).alloc (Nat.le_refl _) (.map #[] 0)
  have a2 := a1.alloc a1.size (.map #[] 0)
  have m0 := mapU_made w
  have m1 := mapU_made (w.alloc (.map #[] 0))
  have e1 : (w.alloc (.map #[] 0)).heap.size = w.heap.size + 1 := by simp
  have e2 : ((w.alloc (.map #[] 0)).alloc (.map #[] 0)).heap.size = w.heap.size + 1 + 1 := by simp
  rw [e1] at m1
  have m0' := m0.below ((Below.refl _ (w.alloc (.map #[] 0))).alloc (Nat.le_refl _) (.map #[] 0)) m0.lt
  have HM0 := hide m0'
  have HM1 := hide m1
  have HA2 := hide a2
  clear hq a1 a2 m0 m1 m0' e1
  go_enter Try.func12, Try.ntmps12
  go_wp2_with (first
    | (refine insertU rfl _ _ _ 37 rfl Try.underlying37 rfl HM1.out 0 rfl rfl (by decide) ?_; intro wI hoI hgI; have HMI := hide hoI; have HGI := hide hgI; clear hoI hgI)
    | fail)
  have hIs : w.heap.size + 1 + 1 ≤ wI.heap.size := by have := HGI.out.size; rw [e2] at this; exact this
  have HST := hide (show FlsI w vn q 0 (.slice (some ⟨wI.heap.size, 0, none⟩) 2 2) (wI.alloc (.cells #[.map (some w.heap.size), .map (some (w.heap.size + 1))] 37)) from by
    have hal := (Below.refl wI.heap.size wI).alloc (Nat.le_refl _) (.cells #[.map (some w.heap.size), .map (some (w.heap.size + 1))] 37)
    have hb : Below w.heap.size w wI := HA2.out.grown HGI.out HA2.out.size (fun j hj => by cases hj; omega)
    refine ⟨hb.trans (hal.mono hb.size), _, ownM_two wI _ _ _ hb.size, rfl, fun k hk => ?_⟩
    rcases (show k = 0 ∨ k = 1 by simp at hk; omega) with rfl | rfl
    · have h0 := HM0.out.kept HGI.out (by simp)
      exact ⟨Nat.le_refl _, h0.below hal h0.lt⟩
    · exact ⟨Nat.le_succ _, (HMI.out.congr (f' := fm1) (fun s => by unfold fm1; by_cases e : s = 0 <;> simp [e])).below hal HMI.out.lt⟩)
  clear HM0 HM1 HMI HGI HA2 e2 hIs
  generalize (wI.alloc (.cells #[.map (some w.heap.size), .map (some (w.heap.size + 1))] 37)) = wS at HST ⊢
  generalize hvS : Value.slice (some ⟨wI.heap.size, 0, none⟩) 2 2 = vS at HST ⊢
  clear hvS
  go_loopw [5, 27] (fun vo iv wr => ∃ i : Nat, i ≤ n ∧ iv = .int .i64 i ∧ Hid (FlsI w vn q i vo wr)) (fun _ iv _ => n - (intOf iv).toNat)
  case atStart => exact ⟨0, Nat.zero_le _, rfl, HST⟩
  case round =>
    clear HST
    obtain ⟨i, hi, rfl, hF⟩ := hrel
    by_cases hlt : i < n
    · obtain ⟨gs, hown, htab⟩ := hF.out.is
      obtain ⟨ad, rfl, hfo, c0, c1, c2, c3⟩ := HQ.out.at_ hF.out.bel hlt
      have HBL := hide hF.out.bel
      have hnext : famsN vn q (i + 1) = famsN vn q i ++ [stepZ vn (q i) (famsN vn q i)] := rfl
      have hlen : gs.length = i + 2 := htab.len.trans (fams_len vn q i)
      have HNX := hide hnext
      clear hnext hF
      generalize famsN vn q i = fs at htab HNX
      generalize q i = d at hfo c0 c1 c2 c3 HNX
      obtain ⟨dw, da, db, dc⟩ := d
      simp only at c0 c1 c2 c3
      have hiI : (i : Int) < (n : Int) := by omega
      obtain ⟨g, cap, cur, rfl, hbg, hkg, hcap, hcur⟩ := hown.form (by omega)
      obtain ⟨ia, pa1, pa2⟩ := htab.arg (by omega) da
      obtain ⟨ib, pb1, pb2⟩ := htab.arg (by omega) db
      have hba := (Below.refl wr.heap.size wr).alloc (Nat.le_refl _) (.cells #[.int .i64 dw, .int .i64 da, .int .i64 db, .int .i64 dc] 46)
      have HX := hide (Blk.new wr 46 #[.int .i64 dw, .int .i64 da, .int .i64 db, .int .i64 dc])
      have HG := hide (hkg.alloc (.cells #[.int .i64 dw, .int .i64 da, .int .i64 db, .int .i64 dc] 46))
      have HOW := hide (hown.below hba)
      have HTB := hide (htab.below hba)
      have HB1 := hide (HBL.out.trans (hba.mono HBL.out.size))
      have la : ((atN da gs.length : Nat) : Int) < (gs.length : Int) := by omega
      have lb : ((atN db gs.length : Nat) : Int) < (gs.length : Int) := by omega
      have HCU := Lib.hid hcur
      have hL0 : 0 < gs.length := by omega
      have hL1 : gs.length ≤ 1000 := by omega
      have HPA := hide (pa2.below hba pa2.lt)
      have HPB := hide (pb2.below hba pb2.lt)
      clear hown hkg hba hcur hlen htab HBL pa2 pb2
      go_wp2
      generalize wr.heap.size = xb at HX ⊢
      generalize (wr.alloc (.cells #[.int .i64 dw, .int .i64 da, .int .i64 db, .int .i64 dc] 46)) = wx at HX HG HOW HTB HB1 HPA HPB ⊢
      have y1 := HX.out.cell 1
      have y2 := HX.out.cell 2
      have y3 := HX.out.cell 3
      have g1 := (HG.out.cell (atN da gs.length)).trans (HCU.out _ ia)
      have g2 := (HG.out.cell (atN db gs.length)).trans (HCU.out _ ib)
      unfold mapV at g1 g2
      have HAT := hide (fun (q : Nat) (z : Int) => refAtZ_any z gs.length (wx.drewN q) hL0 (by omega))
      have HLA := Lib.hid (And.intro ia ib)
      generalize hga : gs.getD (atN da gs.length) 0 = ga at pa1 HPA g1
      generalize hgb : gs.getD (atN db gs.length) 0 = gb at pb1 HPB g2
      have HGAB := Lib.hid (And.intro hga hgb)
      clear hga hgb
      go_quiet ((go_at_call 32; refine (HAT.out _ _).mono ?_; rintro e w9 ⟨rfl, rfl⟩; exact ⟨rfl, _, rfl⟩))
      have hbd := below_drewN (Below.refl wx.heap.size wx) nq
      have HX2 := hide (HX.out.drewN nq)
      have HOW2 := hide (HOW.out.below hbd)
      have HTB2 := hide (HTB.out.below hbd)
      have HB2 := hide (below_drewN HB1.out nq)
      have HPA2 := hide (HPA.out.below hbd HPA.out.lt)
      have HPB2 := hide (HPB.out.below hbd HPB.out.lt)
      clear y1 y2 y3 g1 g2 HAT HX HOW HTB HB1 HG HPA HPB hbd
      generalize wx.drewN nq = wy at HX2 HOW2 HTB2 HB2 HPA2 HPB2 ⊢
      have hal := (Below.refl wy.heap.size wy).alloc (Nat.le_refl _) (.map #[] 0)
      have HXz := hide (HX2.out.below hal HX2.out.lt)
      have HPA := hide (HPA2.out.below hal HPA2.out.lt)
      have HPB := hide (HPB2.out.below hal HPB2.out.lt)
      have HMF := hide (mapU_made wy)
      have HBA := hide (show BaseI w (wy.alloc (.map #[] 0)) wy.heap.size (.slice (some ⟨g, 0, none⟩) gs.length cap) gs fs from
        ⟨HOW2.out.below hal, HTB2.out.below hal, HB2.out.trans (hal.mono HB2.out.size), fun e => by have := (World.ownsRow.lt HOW2.out _ e).2; omega, fun k hk e => by have := (HTB2.out.is k hk).2.lt; omega, HB2.out.size⟩)
      have hgane : ga < (wy.alloc (.map #[] 0)).heap.size ∧ ga ≠ wy.heap.size := by have := HPA2.out.lt; have := HPA.out.lt; omega
      have hgbne : gb < (wy.alloc (.map #[] 0)).heap.size ∧ gb ≠ wy.heap.size := by have := HPB2.out.lt; have := HPB.out.lt; omega
      have hgfz : wy.heap.size < (wy.alloc (.map #[] 0)).heap.size := HMF.out.lt
      have hgfw := HB2.out.size
      have HF0 := hide (Fr.refl (fun k => k = wy.heap.size) (wy.alloc (.map #[] 0)))
      have HDA := Lib.hid (fun z (e : argZ fs da z = true) => HPA.out.dom e)
      have HDB := Lib.hid (fun z (e : argZ fs db z = true) => HPB.out.dom e)
      have HN9 := hide (refAtZ_any dw 7 (wy.alloc (.map #[] 0)) (by omega) (by omega))
      have y0 := HXz.out.cell 0
      obtain ⟨FA, hFA⟩ : ∃ FA, FA = argZ fs da := ⟨_, rfl⟩
      obtain ⟨FB, hFB⟩ : ∃ FB, FB = argZ fs db := ⟨_, rfl⟩
      rw [← hFA] at HPA HDA
      rw [← hFB] at HPB HDB
      have HEA := Lib.hid hFA
      have HEB := Lib.hid hFB
      clear hFA hFB
      clear hal HX2 HOW2 HTB2 HB2 HPA2 HPB2 HLA HGAB
      go_wp2_with fail
      generalize (wy.alloc (.map #[] 0)) = wz at HXz HPA HPB HMF HBA hgane hgbne hgfz HF0 HN9 y0 ⊢
      generalize wy.heap.size = gf at HMF HBA hgane hgbne hgfz hgfw HF0 ⊢
      unfold AtQ at HN9
      rcases atN_seven dw with e9 | e9 | e9 | e9 | e9 | e9 | e9
      all_goals rw [e9] at HN9
      case' inl => as_aux_lemma =>
        have y1 := HXz.out.cell 1
        have hmin : min vn 64 = vn := by omega
        obtain ⟨hp1, hp2⟩ := pow_u6 vn (by omega)
        have hp3 := one_bits vn (by omega) da
        have hset : oneN vn da < 64 := Nat.lt_of_lt_of_le (oneN_lt vn da) (Nat.le_trans (Nat.pow_le_pow_right (by omega) (show vn ≤ 6 by omega)) (by decide))
        have HSTP := Lib.hid (show stepZ vn ⟨dw, da, db, dc⟩ fs = fun s => s == oneN vn da from stepZ_0 (d := ⟨dw, da, db, dc⟩) e9)
        generalize oneN vn da = set at hp3 hset HSTP
        generalize (2 ^ vn : Nat) = pv at hp1 hp2 hp3
        refine (HN9.out).mono ?_
        rintro e w9 ⟨rfl, rfl⟩
        go_wp2
        go_still_tail 8, (by kernel_rfl)
        change wpList _ _ _ _ _ wz.drew
        have HMD := hide (show MapU wz.drew gf (fun _ => false) from HMF.out.same rfl)
        go_upto_region 52 with (first
          | (at_mapUpdate; refine storeU rfl _ _ _ 37 rfl Try.underlying37 rfl HMD.out set rfl rfl hset ?_; intro w9 ho9 hg9; have HOUT := hide (show MapU w9 gf (stepZ vn ⟨dw, da, db, dc⟩ fs) from ho9.congr (fun y => by rw [HSTP.out]; by_cases e : y = set <;> simp [e])); have HFR := hide ((Fr.refl (fun k => k = gf) wz).drew.trans (grown_fr hg9)); clear ho9 hg9)
          | fail)
        obtain ⟨q1, q2, q3⟩ := HBA.out.fr HFR.out
        have hal := (Below.refl w9.heap.size w9).alloc (Nat.le_refl _) (.cells #[.map (some gf)] 37)
        have HOA := hide (q1.below hal)
        have HCE := Lib.hid (show (w9.alloc (.cells #[.map (some gf)] 37)).cell? ⟨w9.heap.size, 0, none⟩ = some (mapV gf) from (Blk.new w9 _ _).cell 0)
        have HSA := Lib.hid (Nat.le_trans q3.size hal.size)
        have HQ3 := hide (And.intro q1 (And.intro q2 q3))
        clear hal q1 q2 q3
        go_wp2_with (first
          | (at_builtin; refine appM _ rfl _ _ _ rfl w.heap.size Try.underlying25 _ gs rfl HOA.out w9.heap.size 1 gf rfl HCE.out (by omega) HSA.out ?_; intro v9 w9 ho9 hg9; have HNF := hide (fls_next HQ3.out.2.2 HQ3.out.1 HQ3.out.2.1 HNX.out HOUT.out hgfw ho9 hg9); clear ho9 hg9)
          | fail)
        go_roundw
        case rel => exact ⟨i + 1, by omega, by go_num, HNF⟩
        case measure => simp [intOf]; omega
      case' inr.inl => as_aux_lemma =>
        refine (HN9.out).mono ?_
        rintro e w9 ⟨rfl, rfl⟩
        go_wp2_with (first
          | (at_range; refine rangeU rfl _ 37 rfl Try.underlying37 rfl HPA.out ?_; intro wSa hrS hgS hsS)
          | fail)
        go_frame
        have HGa := hide ((gen_start HMF.out HF0.out hgfz hgane hrS hgS).congr (G' := (fun y => FA y && !FA y)) (fun y => by cases FA y <;> rfl))
        clear hrS hgS hsS
        generalize wz.heap.size = ra at HGa ⊢
        go_loopw [12] (fun _ wra => ∃ left : Nat → Bool, Hid (GenI wz ga ra gf FA left (fun y => FA y && !left y) wra)) (fun _ wra => wra.rangeLeft ga ra)
        case atStart => exact ⟨_, HGa⟩
        case round =>
          clear HGa
          obtain ⟨left, hI⟩ := hrel
          obtain ⟨wla, rfl⟩ : ∃ wl, wl = wr := ⟨_, rfl⟩
          have HRG := hide hI.out.rng
          go_wp2_with (first
            | (at_next; refine nextU rfl _ rfl rfl HRG.out ?_ ?_)
            | fail)
          · intro hl0
            have HOA1 := hide (show MapU wla gf FA from hI.out.out.congr fun y => left_none HDA.out hl0 y)
            have HFA1 := hide hI.out.fr
            have HPB1 := hide (HPB.out.fr HFA1.out hgbne.2)
            clear hI HRG hl0
            go_wp2_with (first
              | (at_range; refine rangeU rfl _ 37 rfl Try.underlying37 rfl HPB1.out ?_; intro wSb hrS hgS hsS)
              | fail)
            go_frame
            have HGb := hide ((gen_start HOA1.out HFA1.out hgfz hgbne hrS hgS).congr (G' := (fun y => FA y || (FB y && !FB y))) (fun y => by cases FA y <;> cases FB y <;> rfl))
            clear hrS hgS hsS
            generalize wla.heap.size = rb at HGb ⊢
            go_loopw [13] (fun _ wrb => ∃ left : Nat → Bool, Hid (GenI wz gb rb gf FB left (fun y => FA y || (FB y && !left y)) wrb)) (fun _ wrb => wrb.rangeLeft gb rb)
            case atStart => exact ⟨_, HGb⟩
            case round =>
              clear HGb
              obtain ⟨left, hI⟩ := hrel
              obtain ⟨wlb, rfl⟩ : ∃ wl, wl = wr := ⟨_, rfl⟩
              have HRG := hide hI.out.rng
              go_wp2_with (first
                | (at_next; refine nextU rfl _ rfl rfl HRG.out ?_ ?_)
                | fail)
              · intro hl0
                have HOUT := hide (show MapU wlb gf (stepZ vn ⟨dw, da, db, dc⟩ fs) from hI.out.out.congr (fun y => by rw [stepZ_1 (d := ⟨dw, da, db, dc⟩) e9]; show (FA y || (FB y && !left y)) = _; rw [left_none HDB.out hl0 y, ← HEA.out, ← HEB.out]))
                have HFR := hide hI.out.fr
                clear hI HRG hl0
                obtain ⟨q1, q2, q3⟩ := HBA.out.fr HFR.out
                have hal := (Below.refl wlb.heap.size wlb).alloc (Nat.le_refl _) (.cells #[.map (some gf)] 37)
                have HOA := hide (q1.below hal)
                have HCE := Lib.hid (show (wlb.alloc (.cells #[.map (some gf)] 37)).cell? ⟨wlb.heap.size, 0, none⟩ = some (mapV gf) from (Blk.new wlb _ _).cell 0)
                have HSA := Lib.hid (Nat.le_trans q3.size hal.size)
                have HQ3 := hide (And.intro q1 (And.intro q2 q3))
                clear hal q1 q2 q3
                go_wp2_with (first
                  | (at_builtin; refine appM _ rfl _ _ _ rfl w.heap.size Try.underlying25 _ gs rfl HOA.out wlb.heap.size 1 gf rfl HCE.out (by omega) HSA.out ?_; intro v9 w9 ho9 hg9; have HNF := hide (fls_next HQ3.out.2.2 HQ3.out.1 HQ3.out.2.1 HNX.out HOUT.out hgfw ho9 hg9); clear ho9 hg9)
                  | fail)
                go_roundw
                case rel => exact ⟨i + 1, by omega, by go_num, HNF⟩
                case measure => simp [intOf]; omega
              · intro s w2 hs64 hls hFs hr2 hg2 hsz2 hlt2 hen
                have HN := hide (hI.out.next hr2 hg2)
                clear hI HRG hr2 hg2 hsz2
                go_wp2_with (first
                  | (at_mapUpdate; refine storeU rfl _ _ _ 37 rfl Try.underlying37 rfl HN.out.out s rfl rfl hs64 ?_; intro w9 ho9 hg9; have HN9 := hide ((HN.out.put ho9 hg9).congr (G' := (fun y => FA y || (FB y && !(fun u => left u && !(u == s)) y))) (fun y => left_put2 hFs)); have HLE := Lib.hid (HN.out.put_left hg9); clear ho9 hg9; go_frame)
                  | fail)
                go_roundw
                case rel => exact ⟨_, HN9⟩
                case measure => rw [HLE.out]; exact hlt2
          · intro s w2 hs64 hls hFs hr2 hg2 hsz2 hlt2 hen
            have HN := hide (hI.out.next hr2 hg2)
            clear hI HRG hr2 hg2 hsz2
            go_wp2_with (first
              | (at_mapUpdate; refine storeU rfl _ _ _ 37 rfl Try.underlying37 rfl HN.out.out s rfl rfl hs64 ?_; intro w9 ho9 hg9; have HN9 := hide ((HN.out.put ho9 hg9).congr (G' := (fun y => FA y && !(fun u => left u && !(u == s)) y)) (fun y => left_put hFs)); have HLE := Lib.hid (HN.out.put_left hg9); clear ho9 hg9; go_frame)
              | fail)
            go_roundw
            case rel => exact ⟨_, HN9⟩
            case measure => rw [HLE.out]; exact hlt2
      case' inr.inr.inl => as_aux_lemma =>
        refine (HN9.out).mono ?_
        rintro e w9 ⟨rfl, rfl⟩
        go_wp2_with (first
          | (at_range; refine rangeU rfl _ 37 rfl Try.underlying37 rfl HPA.out ?_; intro wSa hrS hgS hsS)
          | fail)
        go_frame
        have HGa := hide ((gen_start HMF.out HF0.out hgfz hgane hrS hgS).congr (G' := (fun y => (FA y && !FA y) && FB y)) (fun y => by cases FA y <;> rfl))
        clear hrS hgS hsS
        generalize wz.heap.size = ra at HGa ⊢
        go_loopw [14] (fun _ wra => ∃ left : Nat → Bool, Hid (GenI wz ga ra gf FA left (fun y => (FA y && !left y) && FB y) wra)) (fun _ wra => wra.rangeLeft ga ra)
        case atStart => exact ⟨_, HGa⟩
        case round =>
          clear HGa
          obtain ⟨left, hI⟩ := hrel
          obtain ⟨wla, rfl⟩ : ∃ wl, wl = wr := ⟨_, rfl⟩
          have HRG := hide hI.out.rng
          go_wp2_with (first
            | (at_next; refine nextU rfl _ rfl rfl HRG.out ?_ ?_)
            | fail)
          · intro hl0
            have HOUT := hide (show MapU wla gf (stepZ vn ⟨dw, da, db, dc⟩ fs) from hI.out.out.congr (fun y => by rw [stepZ_2 (d := ⟨dw, da, db, dc⟩) e9]; show ((FA y && !left y) && FB y) = _; rw [left_none HDA.out hl0 y, ← HEA.out, ← HEB.out]))
            have HFR := hide hI.out.fr
            clear hI HRG hl0
            obtain ⟨q1, q2, q3⟩ := HBA.out.fr HFR.out
            have hal := (Below.refl wla.heap.size wla).alloc (Nat.le_refl _) (.cells #[.map (some gf)] 37)
            have HOA := hide (q1.below hal)
            have HCE := Lib.hid (show (wla.alloc (.cells #[.map (some gf)] 37)).cell? ⟨wla.heap.size, 0, none⟩ = some (mapV gf) from (Blk.new wla _ _).cell 0)
            have HSA := Lib.hid (Nat.le_trans q3.size hal.size)
            have HQ3 := hide (And.intro q1 (And.intro q2 q3))
            clear hal q1 q2 q3
            go_wp2_with (first
              | (at_builtin; refine appM _ rfl _ _ _ rfl w.heap.size Try.underlying25 _ gs rfl HOA.out wla.heap.size 1 gf rfl HCE.out (by omega) HSA.out ?_; intro v9 w9 ho9 hg9; have HNF := hide (fls_next HQ3.out.2.2 HQ3.out.1 HQ3.out.2.1 HNX.out HOUT.out hgfw ho9 hg9); clear ho9 hg9)
              | fail)
            go_roundw
            case rel => exact ⟨i + 1, by omega, by go_num, HNF⟩
            case measure => simp [intOf]; omega
          · intro s w2 hs64 hls hFs hr2 hg2 hsz2 hlt2 hen
            have HN := hide (hI.out.next hr2 hg2)
            clear hI HRG hr2 hg2 hsz2
            have HPB2 := hide (HPB.out.fr HN.out.fr hgbne.2)
            have hlk := HPB2.out.lookRun Try.underlying37 s hs64
            cases hb : FB s
            all_goals rw [hb] at hlk
            · have HN9 := hide (HN.out.congr (G' := (fun y => (FA y && !(fun u => left u && !(u == s)) y) && FB y)) (fun y => left_skip (c := FB) hb))
              go_wp2
              go_roundw
              case rel => exact ⟨_, HN9⟩
              case measure => exact hlt2
            · go_wp2_with (first
                | (at_mapUpdate; refine storeU rfl _ _ _ 37 rfl Try.underlying37 rfl HN.out.out s rfl rfl hs64 ?_; intro w9 ho9 hg9; have HN9 := hide ((HN.out.put ho9 hg9).congr (G' := (fun y => (FA y && !(fun u => left u && !(u == s)) y) && FB y)) (fun y => left_put3 (c := FB) hFs hb)); have HLE := Lib.hid (HN.out.put_left hg9); clear ho9 hg9; go_frame)
                | fail)
              go_roundw
              case rel => exact ⟨_, HN9⟩
              case measure => rw [HLE.out]; exact hlt2
      case' inr.inr.inr.inl => as_aux_lemma =>
        refine (HN9.out).mono ?_
        rintro e w9 ⟨rfl, rfl⟩
        go_wp2_with (first
          | (at_range; refine rangeU rfl _ 37 rfl Try.underlying37 rfl HPA.out ?_; intro wSa hrS hgS hsS)
          | fail)
        go_frame
        have HGa := hide ((gen_start HMF.out HF0.out hgfz hgane hrS hgS).congr (G' := (fun y => (FA y && !FA y) && !FB y)) (fun y => by cases FA y <;> rfl))
        clear hrS hgS hsS
        generalize wz.heap.size = ra at HGa ⊢
        go_loopw [15] (fun _ wra => ∃ left : Nat → Bool, Hid (GenI wz ga ra gf FA left (fun y => (FA y && !left y) && !FB y) wra)) (fun _ wra => wra.rangeLeft ga ra)
        case atStart => exact ⟨_, HGa⟩
        case round =>
          clear HGa
          obtain ⟨left, hI⟩ := hrel
          obtain ⟨wla, rfl⟩ : ∃ wl, wl = wr := ⟨_, rfl⟩
          have HRG := hide hI.out.rng
          go_wp2_with (first
            | (at_next; refine nextU rfl _ rfl rfl HRG.out ?_ ?_)
            | fail)
          · intro hl0
            have HOUT := hide (show MapU wla gf (stepZ vn ⟨dw, da, db, dc⟩ fs) from hI.out.out.congr (fun y => by rw [stepZ_3 (d := ⟨dw, da, db, dc⟩) e9]; show ((FA y && !left y) && !FB y) = _; rw [left_none HDA.out hl0 y, ← HEA.out, ← HEB.out]))
            have HFR := hide hI.out.fr
            clear hI HRG hl0
            obtain ⟨q1, q2, q3⟩ := HBA.out.fr HFR.out
            have hal := (Below.refl wla.heap.size wla).alloc (Nat.le_refl _) (.cells #[.map (some gf)] 37)
            have HOA := hide (q1.below hal)
            have HCE := Lib.hid (show (wla.alloc (.cells #[.map (some gf)] 37)).cell? ⟨wla.heap.size, 0, none⟩ = some (mapV gf) from (Blk.new wla _ _).cell 0)
            have HSA := Lib.hid (Nat.le_trans q3.size hal.size)
            have HQ3 := hide (And.intro q1 (And.intro q2 q3))
            clear hal q1 q2 q3
            go_wp2_with (first
              | (at_builtin; refine appM _ rfl _ _ _ rfl w.heap.size Try.underlying25 _ gs rfl HOA.out wla.heap.size 1 gf rfl HCE.out (by omega) HSA.out ?_; intro v9 w9 ho9 hg9; have HNF := hide (fls_next HQ3.out.2.2 HQ3.out.1 HQ3.out.2.1 HNX.out HOUT.out hgfw ho9 hg9); clear ho9 hg9)
              | fail)
            go_roundw
            case rel => exact ⟨i + 1, by omega, by go_num, HNF⟩
            case measure => simp [intOf]; omega
          · intro s w2 hs64 hls hFs hr2 hg2 hsz2 hlt2 hen
            have HN := hide (hI.out.next hr2 hg2)
            clear hI HRG hr2 hg2 hsz2
            have HPB2 := hide (HPB.out.fr HN.out.fr hgbne.2)
            have hlk := HPB2.out.lookRun Try.underlying37 s hs64
            cases hb : FB s
            all_goals rw [hb] at hlk
            · go_wp2_with (first
                | (at_mapUpdate; refine storeU rfl _ _ _ 37 rfl Try.underlying37 rfl HN.out.out s rfl rfl hs64 ?_; intro w9 ho9 hg9; have HN9 := hide ((HN.out.put ho9 hg9).congr (G' := (fun y => (FA y && !(fun u => left u && !(u == s)) y) && !FB y)) (fun y => left_put3 (c := fun z => !FB z) hFs (by simp [hb]))); have HLE := Lib.hid (HN.out.put_left hg9); clear ho9 hg9; go_frame)
                | fail)
              go_roundw
              case rel => exact ⟨_, HN9⟩
              case measure => rw [HLE.out]; exact hlt2
            · have HN9 := hide (HN.out.congr (G' := (fun y => (FA y && !(fun u => left u && !(u == s)) y) && !FB y)) (fun y => left_skip (c := fun z => !FB z) (by simp [hb])))
              go_wp2
              go_roundw
              case rel => exact ⟨_, HN9⟩
              case measure => exact hlt2
      case' inr.inr.inr.inr.inl => as_aux_lemma =>
        refine (HN9.out).mono ?_
        rintro e w9 ⟨rfl, rfl⟩
        go_wp2_with (first
          | (at_range; refine rangeU rfl _ 37 rfl Try.underlying37 rfl HPA.out ?_; intro wSa hrS hgS hsS)
          | fail)
        go_frame
        have HGa := hide ((gen_start HMF.out HF0.out hgfz hgane hrS hgS).congr (G' := (jnB FA FB FA)) (fun y => (jnB_start FA FB y).symm))
        clear hrS hgS hsS
        generalize wz.heap.size = ra at HGa ⊢
        go_loopw [16] (fun _ wra => ∃ left : Nat → Bool, Hid (GenI wz ga ra gf FA left (jnB FA FB left) wra)) (fun _ wra => wra.rangeLeft ga ra)
        case atStart => exact ⟨_, HGa⟩
        case round =>
          clear HGa
          obtain ⟨left, hI⟩ := hrel
          obtain ⟨wla, rfl⟩ : ∃ wl, wl = wr := ⟨_, rfl⟩
          have HRG := hide hI.out.rng
          go_wp2_with (first
            | (at_next; refine nextU rfl _ rfl rfl HRG.out ?_ ?_)
            | fail)
          · intro hl0
            have HOUT := hide (show MapU wla gf (stepZ vn ⟨dw, da, db, dc⟩ fs) from hI.out.out.congr (fun y => by rw [stepZ_4 (d := ⟨dw, da, db, dc⟩) e9, jnB_end HDA.out hl0, HEA.out, HEB.out]))
            have HFR := hide hI.out.fr
            clear hI HRG hl0
            obtain ⟨q1, q2, q3⟩ := HBA.out.fr HFR.out
            have hal := (Below.refl wla.heap.size wla).alloc (Nat.le_refl _) (.cells #[.map (some gf)] 37)
            have HOA := hide (q1.below hal)
            have HCE := Lib.hid (show (wla.alloc (.cells #[.map (some gf)] 37)).cell? ⟨wla.heap.size, 0, none⟩ = some (mapV gf) from (Blk.new wla _ _).cell 0)
            have HSA := Lib.hid (Nat.le_trans q3.size hal.size)
            have HQ3 := hide (And.intro q1 (And.intro q2 q3))
            clear hal q1 q2 q3
            go_wp2_with (first
              | (at_builtin; refine appM _ rfl _ _ _ rfl w.heap.size Try.underlying25 _ gs rfl HOA.out wla.heap.size 1 gf rfl HCE.out (by omega) HSA.out ?_; intro v9 w9 ho9 hg9; have HNF := hide (fls_next HQ3.out.2.2 HQ3.out.1 HQ3.out.2.1 HNX.out HOUT.out hgfw ho9 hg9); clear ho9 hg9)
              | fail)
            go_roundw
            case rel => exact ⟨i + 1, by omega, by go_num, HNF⟩
            case measure => simp [intOf]; omega
          · intro s w2 hs64 hls hFs hr2 hg2 hsz2 hlt2 hen
            have HN := hide (hI.out.next hr2 hg2)
            clear hI HRG hr2 hg2 hsz2
            have HPB2 := hide (HPB.out.fr HN.out.fr hgbne.2)
            go_wp2_with (first
              | (at_range; refine rangeU rfl _ 37 rfl Try.underlying37 rfl HPB2.out ?_; intro wSc hrS hgS hsS)
              | fail)
            go_frame
            have HG2 := hide (show Gen2 wz gb w2.heap.size gf FB FB (fun y => jnB FA FB left y || jnC FB FB s y) ga ra FA (fun u => left u && !(u == s)) (w2.rangeLeft ga ra) wSc from gen2_start HN.out hgbne hrS hgS (fun y => by rw [jnC_start, Bool.or_false]))
            clear hrS hgS hsS
            generalize w2.heap.size = rc at HG2 ⊢
            generalize hcl : w2.rangeLeft ga ra = cl at HG2 hlt2
            clear hcl hen
            go_loopw [17] (fun _ wrc => ∃ left2 : Nat → Bool, Hid (Gen2 wz gb rc gf FB left2 (fun y => jnB FA FB left y || jnC FB left2 s y) ga ra FA (fun u => left u && !(u == s)) cl wrc)) (fun _ wrc => wrc.rangeLeft gb rc)
            case atStart => exact ⟨_, HG2⟩
            case round =>
              clear HG2 HN
              obtain ⟨left2, hJ⟩ := hrel
              obtain ⟨wlc, rfl⟩ : ∃ wl, wl = wr := ⟨_, rfl⟩
              have HRG2 := hide hJ.out.gen.rng
              go_wp2_with (first
                | (at_next; refine nextU rfl _ rfl rfl HRG2.out ?_ ?_)
                | fail)
              · intro hl2
                have HN9 := hide (hJ.out.back.congr (G' := (jnB FA FB (fun u => left u && !(u == s)))) (fun y => jnB_step hFs HDB.out hl2 y))
                have HLE := Lib.hid hJ.out.left_
                clear hJ HRG2
                go_wp2
                go_roundw
                case rel => exact ⟨_, HN9⟩
                case measure => rw [HLE.out]; exact hlt2
              · intro u w3 hu64 hlu hFu hr3 hg3 hsz3 hlt3 hen3
                have HM := hide (hJ.out.next hr3 hg3)
                clear hJ HRG2 hr3 hg3 hsz3
                have hor := bits_or_u64_nat s u (by omega) (by omega)
                have hsu : s ||| u < 64 := Nat.or_lt_two_pow (n := 6) hs64 hu64
                generalize hx : s ||| u = x at hor hsu
                have HX := Lib.hid hx
                clear hx
                go_wp2_with (first
                  | (at_mapUpdate; refine storeU rfl _ _ _ 37 rfl Try.underlying37 rfl HM.out.gen.out x rfl rfl hsu ?_; intro w9 ho9 hg9; have HM9 := hide (((HM.out.put ho9 hg9).congr (G' := fun y => jnB FA FB left y || jnC FB (fun z => left2 z && !(z == u)) s y) (fun y => by rw [← HX.out]; show _ = (_ || jnC FB (fun z => left2 z && !(z == u)) s y); rw [jnC_step hFu]; split <;> simp))); have HLE := Lib.hid (HM.out.gen.put_left hg9); clear ho9 hg9; go_frame)
                  | fail)
                go_roundw
                case rel => exact ⟨_, HM9⟩
                case measure => rw [HLE.out]; exact hlt3
      case' inr.inr.inr.inr.inr.inl => as_aux_lemma =>
        refine (HN9.out).mono ?_
        rintro e w9 ⟨rfl, rfl⟩
        go_wp2_with (first
          | (at_range; refine rangeU rfl _ 37 rfl Try.underlying37 rfl HPA.out ?_; intro wSa hrS hgS hsS)
          | fail)
        go_frame
        have HGa := hide ((gen_start HMF.out HF0.out hgfz hgane hrS hgS).congr (G' := (fun y => freeG FA FB y && !FA y)) (fun y => by cases hy : FA y with | false => rw [show freeG FA FB y = false from Bool.eq_false_iff.2 fun e => by rw [(freeG_iff.1 e).1] at hy; cases hy]; rfl | true => simp))
        clear hrS hgS hsS
        generalize wz.heap.size = ra at HGa ⊢
        go_loopw [18] (fun _ wra => ∃ left : Nat → Bool, Hid (GenI wz ga ra gf FA left (fun y => freeG FA FB y && !left y) wra)) (fun _ wra => wra.rangeLeft ga ra)
        case atStart => exact ⟨_, HGa⟩
        case round =>
          clear HGa
          obtain ⟨left, hI⟩ := hrel
          obtain ⟨wla, rfl⟩ : ∃ wl, wl = wr := ⟨_, rfl⟩
          have HRG := hide hI.out.rng
          go_wp2_with (first
            | (at_next; refine nextU rfl _ rfl rfl HRG.out ?_ ?_)
            | fail)
          · intro hl0
            have HOUT := hide (show MapU wla gf (stepZ vn ⟨dw, da, db, dc⟩ fs) from hI.out.out.congr (fun y => by rw [stepZ_5 (d := ⟨dw, da, db, dc⟩) e9]; show (freeG FA FB y && !left y) = _; rw [left_none (fun z hz => HDA.out z (freeG_iff.1 hz).1) hl0 y, HEA.out, HEB.out]))
            have HFR := hide hI.out.fr
            clear hI HRG hl0
            obtain ⟨q1, q2, q3⟩ := HBA.out.fr HFR.out
            have hal := (Below.refl wla.heap.size wla).alloc (Nat.le_refl _) (.cells #[.map (some gf)] 37)
            have HOA := hide (q1.below hal)
            have HCE := Lib.hid (show (wla.alloc (.cells #[.map (some gf)] 37)).cell? ⟨wla.heap.size, 0, none⟩ = some (mapV gf) from (Blk.new wla _ _).cell 0)
            have HSA := Lib.hid (Nat.le_trans q3.size hal.size)
            have HQ3 := hide (And.intro q1 (And.intro q2 q3))
            clear hal q1 q2 q3
            go_wp2_with (first
              | (at_builtin; refine appM _ rfl _ _ _ rfl w.heap.size Try.underlying25 _ gs rfl HOA.out wla.heap.size 1 gf rfl HCE.out (by omega) HSA.out ?_; intro v9 w9 ho9 hg9; have HNF := hide (fls_next HQ3.out.2.2 HQ3.out.1 HQ3.out.2.1 HNX.out HOUT.out hgfw ho9 hg9); clear ho9 hg9)
              | fail)
            go_roundw
            case rel => exact ⟨i + 1, by omega, by go_num, HNF⟩
            case measure => simp [intOf]; omega
          · intro s w2 hs64 hls hFs hr2 hg2 hsz2 hlt2 hen
            have HN := hide (hI.out.next hr2 hg2)
            clear hI HRG hr2 hg2 hsz2
            have HPB2 := hide (HPB.out.fr HN.out.fr hgbne.2)
            go_wp2_with (first
              | (at_range; refine rangeU rfl _ 37 rfl Try.underlying37 rfl HPB2.out ?_; intro wSc hrS hgS hsS)
              | fail)
            go_frame
            have HG2 := hide (show Gen2 wz gb w2.heap.size gf FB FB (fun y => freeG FA FB y && !left y) ga ra FA (fun u => left u && !(u == s)) (w2.rangeLeft ga ra) wSc from gen2_start HN.out hgbne hrS hgS (fun y => rfl))
            clear hrS hgS hsS
            generalize w2.heap.size = rc at HG2 ⊢
            generalize hcl : w2.rangeLeft ga ra = cl at HG2 hlt2
            clear hcl hen
            go_loopw [19, 20] (fun ov _ wrc => ∃ left2 : Nat → Bool, ov = .bool (okC' FB left2 s) ∧ Hid (Gen2 wz gb rc gf FB left2 (fun y => freeG FA FB y && !left y) ga ra FA (fun u => left u && !(u == s)) cl wrc)) (fun _ _ wrc => wrc.rangeLeft gb rc)
            case atStart => exact ⟨FB, by rw [okC'_start], HG2⟩
            case round =>
              clear HG2 HN
              obtain ⟨left2, rfl, hJ⟩ := hrel
              obtain ⟨wlc, rfl⟩ : ∃ wl, wl = wr := ⟨_, rfl⟩
              have HRG2 := hide hJ.out.gen.rng
              go_wp2_with (first
                | (at_next; refine nextU rfl _ rfl rfl HRG2.out ?_ ?_)
                | fail)
              · intro hl2
                rw [okC'_end hFs HDB.out hl2]
                have HN := hide hJ.out.back
                have HLB := Lib.hid hJ.out.left_
                clear hJ HRG2 hl2
                cases hfr : freeG FA FB s
                · have HN9 := hide (HN.out.congr (G' := (fun y => freeG FA FB y && !(fun u => left u && !(u == s)) y)) (fun y => left_skip5 hfr))
                  go_wp2
                  go_roundw
                  case rel => exact ⟨_, HN9⟩
                  case measure => rw [HLB.out]; exact hlt2
                · go_wp2_with (first
                    | (at_mapUpdate; refine storeU rfl _ _ _ 37 rfl Try.underlying37 rfl HN.out.out s rfl rfl hs64 ?_; intro w9 ho9 hg9; have HN9 := hide ((HN.out.put ho9 hg9).congr (G' := (fun y => freeG FA FB y && !(fun u => left u && !(u == s)) y)) (fun y => left_put hfr)); have HLE := Lib.hid (HN.out.put_left hg9); clear ho9 hg9; go_frame)
                    | fail)
                  go_roundw
                  case rel => exact ⟨_, HN9⟩
                  case measure => rw [HLE.out, HLB.out]; exact hlt2
              · intro u w3 hu64 hlu hFu hr3 hg3 hsz3 hlt3 hen3
                have HM := hide (hJ.out.next hr3 hg3)
                have hst := okC'_step (H := FB) (left2 := left2) (s := s) hFu
                clear hJ HRG2 hr3 hg3 hsz3
                cases hok : okC' FB left2 s
                · have HV := Lib.hid (show okC' FB (fun y => left2 y && !(y == u)) s = false by rw [hst, hok]; rfl)
                  clear hst
                  go_wp2
                  go_roundw
                  case rel => exact ⟨_, by rw [HV.out], HM⟩
                  case measure => exact hlt3
                · have HV := Lib.hid (show okC' FB (fun y => left2 y && !(y == u)) s = !subN u s by rw [hst, hok]; rfl)
                  have HPT := hide (part_any u s w3 hu64 hs64)
                  clear hst
                  go_wp2_with fail
                  refine (HPT.out).mono ?_
                  rintro e' w4 ⟨rfl, rfl⟩
                  cases hsub : subN u s
                  all_goals
                    rw [hsub] at HV
                    go_wp2
                    go_roundw
                    case rel => exact ⟨_, by rw [HV.out]; rfl, HM⟩
                    case measure => exact hlt3
      case' inr.inr.inr.inr.inr.inr => as_aux_lemma =>
        have HLS := hide (refLeast_any ga FA wz HPA.out)
        refine (HN9.out).mono ?_
        rintro e w9 ⟨rfl, rfl⟩
        go_wp2_with fail
        refine (HLS.out).mono ?_
        rintro e w5 ⟨gL, rfl, hmL, hbL, hgL⟩
        have HOUT := hide (show MapU w5 gL (stepZ vn ⟨dw, da, db, dc⟩ fs) from by rw [stepZ_6 (d := ⟨dw, da, db, dc⟩) e9, ← HEA.out]; exact hmL)
        have HFR := hide (Fr.of_below (S := fun k => k = gf) hbL (Nat.le_refl _))
        have hgLw : w.heap.size ≤ gL := by have := HBA.out.bel.size; omega
        clear hmL hbL HLS
        obtain ⟨q1, q2, q3⟩ := HBA.out.fr HFR.out
        have hal := (Below.refl w5.heap.size w5).alloc (Nat.le_refl _) (.cells #[.map (some gL)] 37)
        have HOA := hide (q1.below hal)
        have HCE := Lib.hid (show (w5.alloc (.cells #[.map (some gL)] 37)).cell? ⟨w5.heap.size, 0, none⟩ = some (mapV gL) from (Blk.new w5 _ _).cell 0)
        have HSA := Lib.hid (Nat.le_trans q3.size hal.size)
        have HQ3 := hide (And.intro q1 (And.intro q2 q3))
        clear hal q1 q2 q3
        go_wp2_with (first
          | (at_builtin; refine appM _ rfl _ _ _ rfl w.heap.size Try.underlying25 _ gs rfl HOA.out w5.heap.size 1 gL rfl HCE.out (by omega) HSA.out ?_; intro v9 w9 ho9 hg9; have HNF := hide (fls_next HQ3.out.2.2 HQ3.out.1 HQ3.out.2.1 HNX.out HOUT.out hgLw ho9 hg9); clear ho9 hg9)
          | fail)
        go_roundw
        case rel => exact ⟨i + 1, by omega, by go_num, HNF⟩
        case measure => simp [intOf]; omega
    · obtain rfl : i = n := by omega
      go_wp2
      go_ret
      exact ⟨_, rfl, hF.out⟩
end Go.Proofs.Ytdlcldhnbhlikaa
