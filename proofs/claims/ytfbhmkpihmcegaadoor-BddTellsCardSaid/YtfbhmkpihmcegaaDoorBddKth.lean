/-
  A space's Kth.
-/
import Derived.Test.YtfbhmkpihmcegaaDoorBddCts
import Derived.Test.YtfbhmkpihmcegaaDoorRefAll
import Derived.Test.YtfbhmkpihmcegaaDoorNatSub
import Derived.Deep.CutRange
namespace Go.Proofs.YtfbhmkpihmcegaaDoor
open Go.RowKit Go.Maps

theorem ctI_made {w : World} {S B gn gu gt gc : Nat} {vars : Int} {A : Ar} (h : SpB w S B gn gu gt gc vars A) : CtI (w.alloc (.map #[] 0)) S B gn gu gt gc vars A w.heap.size (fun _ => none) 0 :=
  ⟨h.below ((Below.refl _ _).alloc (Nat.le_refl _) _), mapH_made w, fun _ _ e => by cases e⟩
theorem bdCount_any (S B gn gu gt gc : Nat) (vars : Int) (A : Ar) (w : World) (x : Int) (h : SpB w S B gn gu gt gc vars A) (hN : CtN A vars) (hx : hasA A x = true) :
    Calls Tryd.prog 28 #[.pointer (some ⟨S, 0, none⟩), .int .i64 x] w (CountP w (cA A vars x * 2 ^ (min (topA A x) vars).toNat)) := by
  have hal := (Below.refl w.heap.size w).alloc (Nat.le_refl _) (.cells #[.slice none 0 0] 66)
  have hc := ctI_made (h.below hal)
  rw [show (w.alloc (.cells #[.slice none 0 0] 66)).heap.size = w.heap.size + 1 by simp] at hc
  have hi := has_i64 h.ar hx
  have hd : dep A x ≤ 24 := by unfold dep; have := (hN.wf.topR x).1; omega
  have hp : 2 ^ dep A x ≤ 2 ^ 24 := Nat.pow_le_pow_right (by omega) hd
  have hct := (counts_all S B gn gu gt gc (w.heap.size + 1) vars A hN _ x 0 _ _ (Nat.le_refl _) hx hi hc (by omega)).mono fun e w' hq => show CtsP _ _ (cA A vars x) e w' from by
    obtain ⟨v, _, _, h1, h2, _, _, h5⟩ := hq
    exact ⟨v, h1, h2, h5⟩
  have ht := hN.wf.topR x
  have h0 := hN.v0
  have h1 := hN.v1
  refine bdCount_of S B gn gu gt gc vars A w x (cA A vars x) (min (topA A x) vars).toNat h hi hx (by omega) (by omega) (Lib.hid (Nat.lt_of_le_of_lt ?_ (limb_bound pow_big))) (hide hct)
  exact Nat.le_trans (cA_le hN.wf hN.var hN.v0 _ x (Nat.le_refl _)) (Nat.pow_le_pow_right (by omega) (by omega))
section
variable (S B gn gu gt gc : Nat) (vars : Int) (A : Ar) (w : World)
set_option maxHeartbeats 1000000 in
theorem bdAtB_any (x t : Int) (h : SpB w S B gn gu gt gc vars A) (hx : I64 x) :
    Calls Tryd.prog 76 #[.pointer (some ⟨S, 0, none⟩), .int .i64 x, .int .i64 t] w (AtP w A x t) := by
  have s0 := h.kS.cell 0
  cases hg : gotA A x with
  | none =>
    have HGT := hide (arGet_none B gn gu gt A x w h.ar hx hg)
    have HA := Lib.hid (fun b => atA_none (t := t) hg b)
    clear h hx hg
    go_enter Tryd.func76, Tryd.ntmps76
    go_wp2_with fail
    refine (HGT.out).mono ?_
    rintro e w1 ⟨rfl, hb⟩
    go_wp2
    go_ret2
    exact ⟨by rw [HA.out, HA.out]; rfl, hb.alloc hb.size _⟩
  | some n =>
    have HGT := hide (arGet_some B gn gu gt A x n w h.ar hx hg)
    by_cases hv : n.var = t
    · have HA := Lib.hid (fun b => atA_is hg hv b)
      have hvb : (n.var == t) = true := beq_iff_eq.2 hv
      clear h hx hg
      go_enter Tryd.func76, Tryd.ntmps76
      go_wp2_with fail
      refine (HGT.out).mono ?_
      rintro e w1 ⟨rfl, hb⟩
      go_wp2
      go_quiet (fail)
      go_wp2
      go_ret2
      exact ⟨by rw [HA.out, HA.out]; rfl, below_drewN (hb.alloc hb.size _) _⟩
    · have HA := Lib.hid (fun b => atA_not hg hv b)
      have hvb : (n.var == t) = false := beq_eq_false_iff_ne.2 hv
      clear h hx hg
      go_enter Tryd.func76, Tryd.ntmps76
      go_wp2_with fail
      refine (HGT.out).mono ?_
      rintro e w1 ⟨rfl, hb⟩
      go_wp2
      go_ret2
      exact ⟨by rw [HA.out, HA.out]; rfl, hb.alloc hb.size _⟩
end
theorem ctI_set2 {wd : World} {S B gn gu gt gc gd m1 : Nat} {vars : Int} {A : Ar} {f1 : Int → Option Value} {g : Nat} {u : Value} {A0 : Option Addr} {n0 c0 : Nat} (hd : CtI wd S B gn gu gt gc vars A gd f1 m1) (hx : Blk wd g 66 #[.slice A0 n0 c0]) : CtI (wd.setCell ⟨g, 0, none⟩ u) S B gn gu gt gc vars A gd f1 m1 := by
  obtain ⟨ns, us, tab, _, h2, h3, h4, h5⟩ := hd.sp.ar.is
  have hn : ∀ j, arB B gn gu gt j → j ≠ g := fun j hj => by
    rcases hj with rfl | rfl | rfl | rfl
    · exact h2.ne_ hx (by decide)
    · exact h3.ne_ hx (by decide)
    · exact h4.ne_ hx (by decide)
    · exact h5.ne_ hx (by decide)
  have hgm : gd ≠ g := fun e => by
    obtain ⟨es, cc, hm⟩ := hd.map.isM
    subst e
    cases hm.symm.trans hx
  exact ⟨⟨hd.sp.kS.far (hd.sp.kS.ne_ hx (by decide)) _, hd.sp.ar.keep fun j hj => Below.heap_setCell _ _ _ _ (hn j hj), hd.sp.wf⟩, hd.map.same (Below.heap_setCell _ _ _ _ hgm), fun y v e => natV_set (hd.vals y v e) (hx.cell 0) (fun i e => by cases e)⟩
/-- Where Kth stands. -/
structure KtI (w : World) (S B gn gu gt gc vn : Nat) (A : Ar) (g5 gd t K : Nat) (wr : World) : Prop where
  bel : Below w.heap.size w wr
  ct : ∃ f m, CtI wr S B gn gu gt gc (vn : Int) A gd f m ∧ m ≤ t * 2 ^ 24
  box : ∃ A1 n1 c1, Blk wr g5 66 #[.slice A1 n1 c1] ∧ NatV wr (.agg #[.slice A1 n1 c1]) K
def KthP (w : World) (r : Nat) (e : Ending) (w' : World) : Prop := e = .returned (.tuple #[.int .u64 (r : Int), .nilIface]) ∧ Below w.heap.size w w'
set_option maxRecDepth 100000 in
set_option maxHeartbeats 8000000 in
theorem bdKth_any (S B gn gu gt gc vn : Nat) (A : Ar) (F : FnB) (x : Int) (K : Nat) (v : Value) (w : World) (h : SpB w S B gn gu gt gc (vn : Int) A) (hN : CtN A (vn : Int)) (h6 : vn ≤ 6) (hx : hasA A x = true) (hF : ∀ u, den A x u = F u) (hv : NatV w v K) (hK : K < cA A vn x * 2 ^ (min (topA A x) (vn : Int)).toNat) :
    Calls Tryd.prog 39 #[.pointer (some ⟨S, 0, none⟩), .int .i64 x, v] w (KthP w ((allL F vn (2 ^ vn)).getD K 0)) := by
  obtain ⟨Av, nv, cv, rfl⟩ := hv.form
  have hT : cA A vn x * 2 ^ (min (topA A x) (vn : Int)).toNat ≤ 2 ^ 24 := Nat.le_trans (cA_le hN.wf hN.var hN.v0 _ x (Nat.le_refl _)) (Nat.pow_le_pow_right (by omega) (by omega))
  have HKI := Lib.hid (KI.start hN.wf hN.var (by omega) hx hF hK)
  obtain ⟨T, HT⟩ : ∃ T, Hid (cA A vn x * 2 ^ (min (topA A x) (vn : Int)).toNat = T) := ⟨_, Lib.hid rfl⟩
  have hal := (Below.refl w.heap.size w).alloc (Nat.le_refl _) (.cells #[.slice Av nv cv] 66)
  have HC1 := bdCount_any S B gn gu gt gc (vn : Int) A _ x (h.below hal) hN hx
  rw [HT.out] at HC1 hK hT
  have HC1 := hide HC1
  have HB1 := hide hal
  have HS1 := hide (h.below hal)
  have HV1 := hide (hv.below hal)
  have HK1 := hide (Blk.new w 66 #[.slice Av nv cv])
  have hmm := @run_makeMap Tryd.prog
  clear hal h hv
  go_enter Tryd.func39, Tryd.ntmps39
  go_wp2_with fail
  obtain ⟨g5, HG5⟩ : ∃ g5, Hid (w.heap.size = g5) := ⟨_, Lib.hid rfl⟩
  rw [HG5.out] at HK1 ⊢
  generalize w.alloc (.cells #[.slice Av nv cv] 66) = w1 at HC1 HB1 HS1 HV1 HK1 ⊢
  refine (HC1.out).mono ?_
  rintro e w2 ⟨vt, rfl, hvt, hb2⟩
  obtain ⟨At, nt, ct, rfl⟩ := hvt.form
  have hal := below_al hb2 (.cells #[.slice At nt ct] 66)
  have hal2 := (Below.refl w2.heap.size w2).alloc (Nat.le_refl _) (.cells #[.slice At nt ct] 66)
  have HB3 := hide (HB1.out.trans (hal.mono HB1.out.size))
  have HS3 := hide (HS1.out.below hal)
  have HV3 := hide (HV1.out.below hal)
  have HK3 := hide (HK1.out.below hal HK1.out.lt)
  have hk8 := Blk.new w2 66 #[.slice At nt ct]
  have hCM := natCmp_any _ _ K T _ (HV1.out.below hal) (hvt.below hal2) (Nat.lt_of_lt_of_le (Nat.lt_of_lt_of_le hK hT) (Nat.le_of_lt (limb_bound pow_big))) (Nat.lt_of_le_of_lt hT (limb_bound pow_big))
  rw [cmpZ_lt hK] at hCM
  have HCM := hide hCM
  have q5 := HK3.out.cell 0
  have q8 := hk8.cell 0
  clear hal hal2 hvt hb2 hCM HC1 HB1 HS1 HV1 HK1 hk8
  go_wp2_with fail
  generalize w2.alloc (.cells #[.slice At nt ct] 66) = w3 at HB3 HS3 HV3 HK3 HCM q5 q8 ⊢
  refine (HCM.out).mono ?_
  rintro e w4 ⟨rfl, hb4⟩
  have hal := below_al hb4 (.map #[] 0)
  have HB5 := hide (HB3.out.trans (hal.mono HB3.out.size))
  have HKT := hide (show KtI w S B gn gu gt gc vn A g5 w4.heap.size 0 K (w4.alloc (.map #[] 0)) from ⟨HB5.out, ⟨_, 0, ctI_made (HS3.out.below hb4), Nat.zero_le _⟩, Av, nv, cv, HK3.out.below hal HK3.out.lt, HV3.out.below hal⟩)
  have s1 := (HS3.out.below hal).kS.cell 1
  have HBW4 := Lib.hid (show w.heap.size ≤ w4.heap.size from Nat.le_trans HB3.out.size hb4.size)
  clear hal hb4 q5 q8 HCM HB3 HS3 HV3 HK3 HB5
  go_wp2
  generalize hgd : w4.heap.size = gd at HKT ⊢
  have hgdw : ∀ k, k < w.heap.size → ¬ k = gd := fun k hk e => by have := HBW4.out; omega
  generalize w4.alloc (.map #[] 0) = w5 at HKT s1 ⊢
  clear hgd
  go_loopw [1, 11, 35] (fun hv ov iv wr => ∃ t : Nat, t ≤ vn ∧ iv = .int .i64 t ∧ ∃ p K' y, hv = .int .i64 y ∧ ov = .int .u64 ((revP t p t : Nat) : Int) ∧ Hid (KI A vn F K t p K' y) ∧ Hid (KtI w S B gn gu gt gc vn A g5 gd t K' wr)) (fun _ _ iv _ => vn - (intOf iv).toNat)
  case atStart => exact ⟨0, Nat.zero_le _, rfl, 0, K, x, rfl, rfl, HKI, HKT⟩
  case round =>
    clear HKI HKT s1
    obtain ⟨t, ht, rfl, p, K', y, rfl, rfl, hI, hT'⟩ := hrel
    by_cases hlt : t < vn
    · have hiI : (t : Int) < (vn : Int) := by omega
      obtain ⟨f0, m0, hct0, hm0⟩ := hT'.out.ct
      have HAT := hide (bdAtB_any S B gn gu gt gc (vn : Int) A wr y (t : Int) hct0.sp (has_i64 hct0.sp.ar hI.out.has))
      unfold AtP at HAT
      rw [show atA A y (t : Int) false = sideA A y t false from rfl, show atA A y (t : Int) true = sideA A y t true from rfl] at HAT
      have hlo : hasA A (sideA A y t false) = true := side_has hN.wf hI.out.has _
      have hlo2 : (t : Int) < topA A (sideA A y t false) := by have := side_top (h := y) (t := t) hN.wf (by omega) hI.out.top false; omega
      have HSN := Lib.hid (show sideN A vn y t = cA A (vn : Int) (sideA A y t false) * 2 ^ kidE A (vn : Int) (sideA A y t false) (t : Int) from rfl)
      have HLOW := Lib.hid (fun h => hI.out.low hN.wf hN.var (by omega) hlt h)
      have HHIGH := Lib.hid (fun h => hI.out.high hN.wf hN.var (by omega) hlt h)
      generalize sideA A y t false = lo at HAT hlo hlo2 HSN HLOW
      generalize sideA A y t true = hi at HAT HHIGH
      go_wp2_with fail
      refine (HAT.out).mono ?_
      rintro e wB ⟨rfl, hbB⟩
      have HBB := hide (hT'.out.bel.trans (hbB.mono hT'.out.bel.size))
      obtain ⟨fB, mB, hIB, hmB⟩ : ∃ f m, CtI wB S B gn gu gt gc (vn : Int) A gd f m ∧ m ≤ t * 2 ^ 24 := ⟨f0, m0, hct0.below hbB, hm0⟩
      obtain ⟨A1, n1, c1, hk5, hv5⟩ := hT'.out.box
      have HIB := hide hIB
      have HK5 := hide (hk5.below hbB hk5.lt)
      have HV5 := hide (hv5.below hbB)
      have ht0 : 0 ≤ (t : Int) := by omega
      have htv := hiI
      clear hk5 hv5 hIB hct0 hbB hT' HAT
      go_upto_region 12 with fail
      go_cut [15] from 36 to 80 (fun s15 wc => ∃ g15, s15 = .pointer (some ⟨g15, 0, none⟩) ∧ Hid (HalfI wB wc S B gn gu gt gc (vn : Int) A gd mB g15 lo (cA A (vn : Int) lo * 2 ^ kidE A (vn : Int) lo (t : Int))))
      case first =>
        have hI64 : ∀ y, hasA A y = true → I64 y := fun y hy => has_i64 HIB.out.sp.ar hy
        have hv0 := hN.v0
        have hv1 := hN.v1
        have lS := HIB.out.sp.kS.lt
        have hmp := HIB.out.map.isM
        have nS : S ≠ gd := fun e => by
          obtain ⟨es, cc, hmm⟩ := hmp
          have := HIB.out.sp.kS
          subst e
          cases this.symm.trans hmm
        have HKP := Lib.hid (fun (w' : World) (hf : Fr (fun k => k = gd) wB w') => show w'.cell? ⟨S, 0, none⟩ = some (.pointer (some ⟨B, 0, none⟩)) ∧ w'.cell? ⟨S, 1, none⟩ = some (.int .i64 (vn : Int)) from
          ⟨(HIB.out.sp.kS.fr hf nS).cell 0, (HIB.out.sp.kS.fr hf nS).cell 1⟩)
        have hil : I64 lo := hI64 lo hlo
        have HTP := hide (fun (w' : World) (hf : Fr (fun k => k = gd) wB w') => arTop_any B gn gu gt A lo w' (spB_fr S B gn gu gt gc (vn : Int) A HIB.out.sp hf hmp).ar hil)
        have hgd := HIB.out.map.lt
        have hnq : ∀ q, wB.heap.size ≤ q → ¬ q = gd := fun q hq e => by omega
        have HCT := hide (fun (w' : World) (hb : Below wB.heap.size wB w') => (counts_all S B gn gu gt gc gd (vn : Int) A hN _ lo mB fB w' (Nat.le_refl _) hlo hil (HIB.out.below hb) (by have h9 : 2 ^ dep A lo ≤ 2 ^ 24 := Nat.pow_le_pow_right (by omega) (by unfold dep; omega); omega)).mono fun e w1 hp =>
          show ∃ v f' m', e = .returned v ∧ NatV w1 v (cA A (vn : Int) lo) ∧ CtI w1 S B gn gu gt gc (vn : Int) A gd f' m' ∧ m' + 1 ≤ mB + 2 ^ dep A lo ∧ Fr (fun k => k = gd) wB w1 ∧ Fr (fun k => k = gd) w' w1 from by
            obtain ⟨v, f', m', h1, h2, h3, h4, h5⟩ := hp
            exact ⟨v, f', m', h1, h2, h3, h4, (Fr.of_below hb (Nat.le_refl _)).trans h5, h5⟩)
        have hK : ∀ z, z = min (topA A lo) (vn : Int) - (t : Int) - 1 → kidE A (vn : Int) lo (t : Int) = (max 0 (min z 1000)).toNat := fun z hz => by unfold kidE; omega
        have HDB := Lib.hid (fun (w' : World) (v : Value) (z : Int) (hv : NatV w' v (cA A (vn : Int) lo)) (hz : z = min (topA A lo) (vn : Int) - (t : Int) - 1) => double_any v (cA A (vn : Int) lo) (kidE A (vn : Int) lo (t : Int)) z w' hv (hK z hz) (Lib.hid (Nat.lt_of_le_of_lt (cA_kid hN ht0 hlo2 htv) (limb_bound pow_big))) ⟨by omega, by omega⟩)
        obtain ⟨T, HT⟩ : ∃ T, Hid (topA A lo = T) := ⟨_, Lib.hid rfl⟩
        have hT := hN.wf.topR lo
        unfold TopPost at HTP
        rw [HT.out] at HTP hT
        obtain ⟨s0, s1⟩ := HKP.out wB (.refl _ _)
        clear hK
        go_region_held3 (fun w' => w'.cell? ⟨S, 0, none⟩ = some (.pointer (some ⟨B, 0, none⟩)) ∧ w'.cell? ⟨S, 1, none⟩ = some (.int .i64 (vn : Int)))
          (first | assumption | exact ⟨s0, s1⟩ | (refine HKP.out _ ?_; (repeat (first | exact Fr.refl _ _ | exact (Fr.refl _ _).drew | exact hf9 | exact hfT | exact hf1 | refine Fr.alloc ?_ _ | refine Fr.drew ?_ | refine Fr.setNew ?_ hfT.size | refine Fr.setNew ?_ hf1.size | refine Fr.setNew ?_ (Nat.le_refl _))); done))
          (first
            | (go_at_call 67; refine (HCT.out _ ?_).mono ?_; (focus ((repeat (first | exact Below.refl _ _ | exact (Below.refl _ _).drew | exact hbrT | refine below_al ?_ _ | refine below_dr ?_)); done)); rintro e w1 ⟨v1, f1, m1, rfl, hv1, hct1, hle1, hf1, hf0⟩; (first | have hx := Blk.fr (Blk.new _ 66 #[.slice none 0 0]) hf0 (hnq _ (Nat.le_refl _)) | have hx := Blk.fr (Blk.drew (Blk.new _ 66 #[.slice none 0 0])) hf0 (hnq _ (Nat.le_refl _)) | have hx := Blk.fr (Blk.new _ 66 #[.slice none 0 0]) hf0 (hnq _ hbrT.size) | have hx := Blk.fr hx hf0 (hnq _ (Nat.le_refl _)) | skip))
            | (go_at_call 18; refine (HTP.out _ ?_).mono ?_; (focus ((repeat (first | exact Fr.refl _ _ | exact (Fr.refl _ _).drew | exact hf9 | exact hfT | exact hf1 | refine Fr.alloc ?_ _ | refine Fr.drew ?_ | refine Fr.setNew ?_ hfT.size | refine Fr.setNew ?_ hf1.size | refine Fr.setNew ?_ (Nat.le_refl _))); done)); rintro e wt ⟨rfl, hbT⟩; (refine (fun (hfT : Fr (fun k => k = gd) wB wt) => ?_) ?_; rotate_left; (focus (refine Fr.trans ?_ (Fr.of_below hbT (Nat.le_refl _)); (repeat (first | exact Fr.refl _ _ | exact (Fr.refl _ _).drew | exact hf9 | exact hfT | exact hf1 | refine Fr.alloc ?_ _ | refine Fr.drew ?_ | refine Fr.setNew ?_ hfT.size | refine Fr.setNew ?_ hf1.size | refine Fr.setNew ?_ (Nat.le_refl _))); done))); (first | (refine (fun (hbrT : Below wB.heap.size wB wt) => ?_) ?_; rotate_left; (focus (refine below_then ?_ hbT; (repeat (first | exact Below.refl _ _ | exact (Below.refl _ _).drew | exact hbrT | refine below_al ?_ _ | refine below_dr ?_)); done))) | skip); (first | (refine (fun (hb1T : Below w1.heap.size w1 wt) => ?_) ?_; rotate_left; (focus (refine below_then ?_ hbT; (repeat (first | exact Below.refl _ _ | exact hb1T | refine below_al ?_ _ | refine below_dr ?_)); done))) | skip); (first | have hx := Blk.below (Blk.new _ 66 #[.slice none 0 0]) hbT (Blk.lt (Blk.new _ _ _)) | have hx := Blk.below (Blk.drew (Blk.new _ 66 #[.slice none 0 0])) hbT (Blk.lt (Blk.drew (Blk.new _ _ _))) | have hx := Blk.below hx hbT (Blk.lt hx) | skip))
            | (go_at_call 41; refine (HDB.out _ _ _ ?_ ?_).mono ?_; (focus (refine hv1.below ?_; (repeat (first | exact Below.refl _ _ | exact hb1T | refine below_al ?_ _ | refine below_dr ?_)); done)); (focus (rw [HT.out, IntKind.wrap_i64, IntKind.wrap_i64]; omega)); rintro e wd ⟨vd, rfl, hvd, hbd⟩; obtain ⟨Ad, nd, cd, ed⟩ := hvd.form; subst ed; (refine (fun (hf9 : Fr (fun k => k = gd) wB wd) => ?_) ?_; rotate_left; (focus (refine Fr.trans ?_ (Fr.of_below hbd (Nat.le_refl _)); (repeat (first | exact Fr.refl _ _ | exact (Fr.refl _ _).drew | exact hf9 | exact hfT | exact hf1 | refine Fr.alloc ?_ _ | refine Fr.drew ?_ | refine Fr.setNew ?_ hfT.size | refine Fr.setNew ?_ hf1.size | refine Fr.setNew ?_ (Nat.le_refl _))); done))); (refine (fun (hb1d : Below w1.heap.size w1 wd) => ?_) ?_; rotate_left; (focus (refine below_then ?_ hbd; (repeat (first | exact Below.refl _ _ | exact hb1T | refine below_al ?_ _ | refine below_dr ?_)); done))); (first | have hx := Blk.below (Blk.new _ 66 #[.slice none 0 0]) hbd (Blk.lt (Blk.new _ _ _)) | have hx := Blk.below hx hbd (Blk.lt hx) | skip); (first | have cx := Blk.cell hx 0 | skip); (first | have fx := Blk.frozen hx 0 | skip)))
        all_goals
          first
            | (have HH := hide (half_set hct1 hle1 hb1d hf9 hvd hx (by first | exact hfT.size | exact hf1.size | exact Nat.le_refl _)); clear hct1 hf1 hf9 hvd hbd hbT hb1d HKP HTP HCT HDB hx; go_wp2; go_meet; case rel => exact ⟨_, rfl, HH⟩)
            | (have HH := hide (half_new hct1 hle1 hb1d hf9 hvd); clear hct1 hf1 hf9 hvd hbd hbT hb1d HKP HTP HCT HDB; go_wp2; go_meet; case rel => exact ⟨_, rfl, HH⟩)
      case rest =>
        obtain ⟨g15, rfl, HH⟩ := hcut
        obtain ⟨f1, m1, hct1, hle1⟩ := HH.out.ct
        obtain ⟨A2, n2, c2, hk15, hv15⟩ := HH.out.box
        have hNb := cA_kid hN ht0 hlo2 htv
        rw [← HSN.out] at hv15 hNb
        have hk5 := HK5.out.fr HH.out.fr (map_ne HIB.out HK5.out)
        have hv5 := natV_fr HV5.out HH.out.fr HIB.out.map.isM
        have hKK : K' ≤ K := by have := hI.out.sum; omega
        have hdl : 2 ^ dep A lo ≤ 2 ^ 24 := Nat.pow_le_pow_right (by omega) (by unfold dep; omega)
        have hm1 : m1 ≤ (t + 1) * 2 ^ 24 := by rw [Nat.add_mul]; omega
        generalize sideN A vn y t = N0 at hv15 hNb HLOW HHIGH
        have hCM := natCmp_any _ _ K' N0 wc hv5 hv15 (Nat.lt_of_le_of_lt (Nat.le_trans hKK (Nat.le_trans (Nat.le_of_lt hK) hT)) (limb_bound pow_big)) (Nat.lt_of_le_of_lt hNb (limb_bound pow_big))
        have HBc := hide (HBB.out.trans (HH.out.fr.to_below HBB.out.size (fun k hk e => hgdw k hk e)))
        have q5 := hk5.cell 0
        have q15 := hk15.cell 0
        by_cases hlt2 : K' < N0
        · rw [cmpZ_lt hlt2] at hCM
          have HCM := hide hCM
          have HNX := hide (fun (wC : World) (hb : Below wc.heap.size wc wC) => show KtI w S B gn gu gt gc vn A g5 gd (t + 1) K' wC from ⟨HBc.out.trans (hb.mono HBc.out.size), ⟨f1, m1, hct1.below hb, hm1⟩, A1, n1, c1, hk5.below hb hk5.lt, hv5.below hb⟩)
          have HL2 := hide (HLOW.out hlt2)
          have HRL := Lib.hid (rev_low t p)
          clear hCM hk5 hv5 hk15 hv15 hct1 HH HLOW HHIGH HSN HIB HK5 HV5 hI
          go_wp2_with fail
          refine (HCM.out).mono ?_
          rintro e wC ⟨rfl, hbC⟩
          have HN9 := hide (HNX.out wC hbC)
          clear hbC HNX HCM q5 q15
          go_wp2
          go_roundw
          case rel => exact ⟨t + 1, by omega, by go_num, 2 * p, K', lo, rfl, by rw [HRL.out], HL2, HN9⟩
          case measure => simp [intOf]; omega
        · have hz : decide (cmpZ K' N0 < 0) = false := decide_eq_false (by unfold cmpZ; rw [if_neg hlt2]; split <;> omega)
          generalize cmpZ K' N0 = z at hCM hz
          have HCM := hide hCM
          have HSU := hide (fun (wC : World) (hb : Below wc.heap.size wc wC) => natSub_any _ _ K' N0 wC (hv5.below hb) (hv15.below hb) (Nat.lt_of_le_of_lt (Nat.le_trans hKK (Nat.le_trans (Nat.le_of_lt hK) hT)) (limb_bound pow_big)) (Nat.lt_of_le_of_lt hNb (limb_bound pow_big)))
          unfold SubPost at HSU
          rw [if_neg hlt2] at HSU
          have HKC := hide (fun (wC : World) (hb : Below wc.heap.size wc wC) => hk5.below hb hk5.lt)
          have HK15 := hide (fun (wC : World) (hb : Below wc.heap.size wc wC) => hk15.below hb hk15.lt)
          have HCT := hide hct1
          have HL2 := hide (HHIGH.out (by omega))
          have HRL := Lib.hid (rev_high t p)
          have hrl := rev_lt t p t
          have hp5 : 2 ^ t ≤ 2 ^ 5 := Nat.pow_le_pow_right (by omega) (by omega)
          have hor := orB (revP t p t) t (by omega) (by omega)
          have he : ((2 ^ t : Nat) : Int) = (2 : Int) ^ t := by norm_cast
          rw [he] at hor
          have hpu := pow_u t (by omega)
          rw [he] at hpu
          have hmin : min t 64 = t := by omega
          clear he hCM hk5 hv5 hk15 hv15 hct1 HH HLOW HHIGH HSN HIB HK5 HV5 hI hlt2
          go_wp2_with fail
          refine (HCM.out).mono ?_
          rintro e wC ⟨rfl, hbC⟩
          have q5C := (HKC.out wC hbC).cell 0
          have q15C := (HK15.out wC hbC).cell 0
          have HSC := hide (HSU.out wC hbC)
          have HBC := hide hbC
          clear hbC HCM HSU q5 q15
          go_wp2_with fail
          refine (HSC.out).mono ?_
          rintro e wS ⟨v9, rfl, hv9, hbS⟩
          obtain ⟨A9, n9, c9, rfl⟩ := hv9.form
          have hbcS := below_then HBC.out hbS
          have hkS := HKC.out wS hbcS
          have fS := hkS.frozen 0
          have cS := hkS.cell 0
          have HN9 := hide (show KtI w S B gn gu gt gc vn A g5 gd (t + 1) (K' - N0) (wS.setCell ⟨g5, 0, none⟩ (.slice A9 n9 c9)) from
            ⟨(HBc.out.trans (hbcS.mono HBc.out.size)).setCell (p := ⟨g5, 0, none⟩) (by rw [HG5.out]; exact Nat.le_refl _) _, ⟨f1, m1, ctI_set2 (HCT.out.below hbcS) hkS, hm1⟩, A9, n9, c9, hkS.set_ 0 _, natV_set hv9 (hkS.cell 0) (fun i e => by cases e)⟩)
          clear hv9 hbS hbcS hkS HBC HSC HKC HK15 HCT
          go_wp2
          go_roundw
          case rel => exact ⟨t + 1, by omega, by go_num, 2 * p + 1, K' - N0, hi, rfl, by rw [HRL.out], HL2, HN9⟩
          case measure => simp [intOf]; omega
    · obtain rfl : t = vn := by omega
      have HD := Lib.hid hI.out.done
      have HBF := hide hT'.out.bel
      clear hI hT'
      go_wp2
      go_ret2
      exact ⟨by rw [HD.out]; rfl, HBF.out⟩
/-- Below what the walks of numbers can bear. -/
def Lim32 (K : Nat) : Prop := K < 4294967296 ^ 1000
theorem lim32_small {K : Nat} (h : K < 4294967296) : Lim32 K := limb_bound h
theorem lim32_pow (a k : Nat) (h : a < 32 * k) : 1 * 2 ^ a < 4294967296 ^ k := by
  rw [Nat.one_mul, show (4294967296 : Nat) = 2 ^ 32 from rfl, ← Nat.pow_mul]
  exact Nat.pow_lt_pow_right (by omega) h
set_option maxRecDepth 100000 in
set_option maxHeartbeats 8000000 in
theorem bdKth_none (S B gn gu gt gc vn : Nat) (A : Ar) (x : Int) (K : Nat) (v : Value) (w : World) (h : SpB w S B gn gu gt gc (vn : Int) A) (hN : CtN A (vn : Int)) (hx : hasA A x = true) (hv : NatV w v K) (hb : Lim32 K) (hK : cA A vn x * 2 ^ (min (topA A x) (vn : Int)).toNat ≤ K) :
    Calls Tryd.prog 39 #[.pointer (some ⟨S, 0, none⟩), .int .i64 x, v] w (fun e w' => e = .returned (.tuple #[.int .u64 0, errV 8]) ∧ Below w.heap.size w w') := by
  obtain ⟨Av, nv, cv, rfl⟩ := hv.form
  have hT : cA A vn x * 2 ^ (min (topA A x) (vn : Int)).toNat ≤ 2 ^ 24 := Nat.le_trans (cA_le hN.wf hN.var hN.v0 _ x (Nat.le_refl _)) (Nat.pow_le_pow_right (by omega) (by have := hN.v1; omega))
  obtain ⟨T, HT⟩ : ∃ T, Hid (cA A vn x * 2 ^ (min (topA A x) (vn : Int)).toNat = T) := ⟨_, Lib.hid rfl⟩
  have hal := (Below.refl w.heap.size w).alloc (Nat.le_refl _) (.cells #[.slice Av nv cv] 66)
  have HC1 := bdCount_any S B gn gu gt gc (vn : Int) A _ x (h.below hal) hN hx
  rw [HT.out] at HC1 hK hT
  have HC1 := hide HC1
  have HB1 := hide hal
  have HV1 := hide (hv.below hal)
  have HK1 := hide (Blk.new w 66 #[.slice Av nv cv])
  clear hal h hv
  go_enter Tryd.func39, Tryd.ntmps39
  go_wp2_with fail
  obtain ⟨g5, HG5⟩ : ∃ g5, Hid (w.heap.size = g5) := ⟨_, Lib.hid rfl⟩
  rw [HG5.out] at HK1 ⊢
  generalize w.alloc (.cells #[.slice Av nv cv] 66) = w1 at HC1 HB1 HV1 HK1 ⊢
  refine (HC1.out).mono ?_
  rintro e w2 ⟨vt, rfl, hvt, hb2⟩
  obtain ⟨At, nt, ct, rfl⟩ := hvt.form
  have hal := below_al hb2 (.cells #[.slice At nt ct] 66)
  have hal2 := (Below.refl w2.heap.size w2).alloc (Nat.le_refl _) (.cells #[.slice At nt ct] 66)
  have HB3 := hide (HB1.out.trans (hal.mono HB1.out.size))
  have HK3 := hide (HK1.out.below hal HK1.out.lt)
  have hk8 := Blk.new w2 66 #[.slice At nt ct]
  have hCM := natCmp_any _ _ K T _ (HV1.out.below hal) (hvt.below hal2) hb (Nat.lt_of_le_of_lt hT (limb_bound pow_big))
  have hz : decide ((0 : Int) ≤ cmpZ K T) = true := decide_eq_true (by unfold cmpZ; rw [if_neg (by omega)]; split <;> omega)
  generalize cmpZ K T = z at hCM hz
  have HCM := hide hCM
  have q5 := HK3.out.cell 0
  have q8 := hk8.cell 0
  clear hal hal2 hvt hb2 hCM HC1 HB1 HV1 HK1 hk8
  go_wp2_with fail
  generalize w2.alloc (.cells #[.slice At nt ct] 66) = w3 at HB3 HK3 HCM q5 q8 ⊢
  refine (HCM.out).mono ?_
  rintro e w4 ⟨rfl, hb4⟩
  have HB5 := hide (HB3.out.trans (hb4.mono HB3.out.size))
  clear hb4 q5 q8 HCM HB3 HK3
  go_wp2
  go_ret2
  exact ⟨by rw [errV_ne (by decide)]; rfl, HB5.out⟩
end Go.Proofs.YtfbhmkpihmcegaaDoor
