/-
  The law FamilyHits, walked.
-/
import Derived.Test.YtdlcldhnbhlikaaLawFamSame
import Derived.Test.YtdlcldhnbhlikaaFamHits
import Derived.Test.YtdlcldhnbhlikaaRefHits
namespace Go.Proofs.Ytdlcldhnbhlikaa
open Go.RowKit Go.Maps

/-- The families' row is a block of its own. -/
theorem SsI.rowsB {w w1 : World} {vn n : Nat} {q : Nat → Four} {S B gn gu gt : Nat} {vh vf : Value} (h : SsI w vn n q S B gn gu gt vh vf w1) :
    ∃ L g g' c c' A hs gs cur, vh = .slice (some ⟨g, 0, none⟩) L c ∧ vf = .slice (some ⟨g', 0, none⟩) L c' ∧ SetR w vn n q S B gn gu gt L g g' A hs gs w1 ∧ Blk w1 g' 37 cur := by
  obtain ⟨A, hs, h1, h2, h3, h0⟩ := h.is
  obtain ⟨gs, h4, h5⟩ := h.fam
  have e1 : hs.length = n + 2 := h2.len.trans (fams_len vn q n)
  have e2 : gs.length = n + 2 := h5.len.trans (fams_len vn q n)
  obtain ⟨g, c, cur, rfl, _, k1, _, f1⟩ := h3.form (by omega)
  obtain ⟨g', c', cur', rfl, _, k2, _, f2⟩ := h4.form (by omega)
  refine ⟨n + 2, g, g', c, c', A, hs, gs, cur', by rw [e1], by rw [e2], ⟨h1, h2, e1, e2, rfl, fun k hk => (k1.cell k).trans (f1 k (by omega)), fun k hk => (k2.cell k).trans (f2 k (by omega)), h5, h0, h.own, ⟨k1.lt, k2.lt⟩, h.bel⟩, k2⟩
theorem arM_ne {w : World} {B gn gu gt g : Nat} {A : Ar} {cs : Array Value} (h : ArM w B gn gu gt A) (hk : Blk w g 37 cs) : ¬ arB B gn gu gt g := by
  obtain ⟨ns, us, tab, _, h2, h3, h4, h5⟩ := h.is
  rintro (e | e | e | e)
  · exact hk.ne_ h2 (by decide) e
  · exact hk.ne_ h3 (by decide) e
  · exact hk.ne_ h4 (by decide) e
  · exact hk.ne_ h5 (by decide) e
theorem arM_neU {w : World} {B gn gu gt g : Nat} {A : Ar} {F : Nat → Bool} (h : ArM w B gn gu gt A) (hm : MapU w g F) : ¬ arB B gn gu gt g := by
  obtain ⟨ns, us, tab, _, h2, h3, h4, h5⟩ := h.is
  rintro (e | e | e | e)
  · exact mapU_blk hm h2 e.symm
  · exact mapU_blk hm h3 e.symm
  · exact mapU_blk hm h4 e.symm
  · exact mapU_blk hm h5 e.symm
set_option maxRecDepth 100000 in
set_option maxHeartbeats 8000000 in
theorem lawFamHits_walk (vars : Int) (Al : Option Addr) (n c : Nat) (q : Nat → Four) (w : World) (hq : FourP w Al n q) :
    Calls Try.prog 3 #[.int .i64 vars, .slice Al n c] w (LawP w true) := by
  have HM := hide (setsF_any vars Al n c q w hq)
  clear hq
  go_enter Try.func3, Try.ntmps3
  go_wp2_with fail
  refine (HM.out).mono ?_
  rintro e w1 (⟨_, rfl, rfl⟩ | ⟨hn, vn, rfl, h6, S, B, gn, gu, gt, vh, vt, rfl, hm⟩)
  · go_wp2
    go_ret
    exact ⟨rfl, Below.refl _ _⟩
  · obtain ⟨L, g, g', c1, c2, A, hs, gs, cur, rfl, rfl, hr, hkb⟩ := hm.rowsB
    obtain ⟨K, hK⟩ : ∃ K, L = K + 1 := ⟨L - 1, by have := hr.len; omega⟩
    have hL : L ≤ 22 := by have := hr.len; omega
    have hKL : K < L := by omega
    have hKI : (K : Int) < (L : Int) := by omega
    have hsub : (L : Int) - 1 = (K : Int) := by omega
    have ch := hr.h K hKL
    have ct := hr.t K hKL
    have hsp := hr.sp
    have hp := hr.hask hKL
    have hmp := hr.map hKL
    have hfe : fam A (hs.getD K 0) = famF vn q n K := funext fun s => hr.famk hKL s
    have hlow := hr.low
    obtain ⟨F, HXF⟩ : ∃ F, Hid (famF vn q n K = F) := ⟨_, Lib.hid rfl⟩
    obtain ⟨p, HXP⟩ : ∃ p, Hid (gs.getD K 0 = p) := ⟨_, Lib.hid rfl⟩
    obtain ⟨x, HXX⟩ : ∃ x, Hid (hs.getD K 0 = x) := ⟨_, Lib.hid rfl⟩
    rw [HXF.out] at hmp hfe
    rw [HXP.out] at ct hmp
    rw [HXX.out] at ch hp hfe
    have HHT := hide (fzHits_any S B gn gu gt vn A w1 x hsp hp (by omega))
    rw [hfe] at HHT
    have HCT := Lib.hid (fun (wx : World) (hf : Fr (arB B gn gu gt) w1 wx) => show wx.cell? ⟨g', K, none⟩ = some (mapV p) from (hf.cell (p := ⟨g', K, none⟩) hkb.lt (arM_ne hsp.ar hkb)).trans ct)
    have HMP := Lib.hid (fun (wx : World) (hf : Fr (arB B gn gu gt) w1 wx) => show MapU wx p F from hmp.same (hf.block _ hmp.lt (arM_neU hsp.ar hmp)))
    have HBW := hide hr.bel
    have HOWN := Lib.hid (fun k (hk : arB B gn gu gt k) => hr.own k (.inl hk))
    clear hm hr HM hkb hsp hp hmp hfe hlow hK ct
    go_wp2_with fail
    refine (HHT.out).mono ?_
    rintro e w2 ⟨A', k, rfl, hs2, hx2, hp2, hf2, hl2, hfr2⟩
    have HFR := hide hfr2
    have HLS := hide (fzList_any S B gn gu gt (vn : Int) A' w2 k 100 hs2 hp2)
    rw [show fam A' k = leastG (transG vn F) from funext hf2] at HLS
    clear hs2 hx2 hp2 hf2 hl2 hfr2 HHT ch
    go_wp2_with fail
    refine (HLS.out).mono ?_
    rintro e w3 ⟨⟨_, v1, rfl, hv1⟩ | ⟨hbad, _⟩, hb3⟩
    case inr => have := sets_len (leastG (transG vn F)); unfold numS at hbad; omega
    obtain ⟨A1, c1', rfl⟩ := hv1.len
    have HF3 := hide (HFR.out.trans (.of_below hb3 (Nat.le_refl _)))
    have HV1 := hide hv1
    have ct3 := HCT.out w3 HF3.out
    have HRH := hide (refHits_any p vn F w3 (HMP.out w3 HF3.out) h6)
    have hlen := sets_len (leastG (transG vn F))
    unfold mapV at ct3
    clear hv1 hb3 HLS HFR
    go_wp2_with fail
    refine (HRH.out).mono ?_
    rintro e w4 ⟨pg, rfl, hm4, hb4, _⟩
    have HB4 := hide hb4
    have HSE := hide (refSets_any pg _ w4 hm4)
    clear hm4 hb4 HRH
    go_wp2_with fail
    refine (HSE.out).mono ?_
    rintro e w5 ⟨v5, rfl, hv5, hb5⟩
    obtain ⟨A5, c5, rfl⟩ := hv5.len
    have HB5 := hide (HB4.out.trans (hb5.mono HB4.out.size))
    have HSM := hide ((sameSets_any _ _ _ _ _ _ w5 (HV1.out.below (HB4.out.trans (hb5.mono HB4.out.size))) hv5 (by omega)).mono fun e w' hp => show e = .returned (.bool true) ∧ Below w5.heap.size w5 w' from ⟨by rw [hp.1, decide_eq_true rfl], by obtain ⟨q, hq⟩ := hp.2; rw [hq]; exact below_drewN (Below.refl _ _) q⟩)
    clear hv5 hb5 HSE
    go_wp2_with fail
    refine (HSM.out).mono ?_
    rintro e w6 ⟨rfl, hb6⟩
    have HBE := hide ((HBW.out.trans ((HF3.out.to_below HBW.out.size (fun k hk hk2 => by have := HOWN.out k hk2; omega)))).trans ((HB5.out.trans (hb6.mono HB5.out.size)).mono (Nat.le_trans HBW.out.size HF3.out.size)))
    clear hb6 HSM
    go_wp2
    go_ret
    exact ⟨ret_bool (by simp), HBE.out⟩
end Go.Proofs.Ytdlcldhnbhlikaa
