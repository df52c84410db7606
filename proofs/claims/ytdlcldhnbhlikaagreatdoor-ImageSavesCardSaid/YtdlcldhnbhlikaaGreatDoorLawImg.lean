/-
  The law ImageSaves, walked.
-/
import Derived.Test.YtdlcldhnbhlikaaGreatDoorLawSame
import Derived.Test.YtdlcldhnbhlikaaGreatDoorBareC
import Derived.Test.YtdlcldhnbhlikaaGreatDoorImgW
import Derived.Test.YtdlcldhnbhlikaaGreatDoorRefImg
import Derived.Deep.RegionHeld3
namespace Go.Proofs.YtdlcldhnbhlikaaGreatDoor
open Go.RowKit Go.Maps

theorem has_neg (A : Ar) : hasA A (-1) = false := by
  cases e : hasA A (-1) with
  | false => rfl
  | true =>
    cases e2 : gotA A (-1) with
    | none => rcases has_none e e2 with h | h <;> omega
    | some d =>
      obtain ⟨k, h, _⟩ := gotA_is e2
      omega
section
variable {w w1 : World} {vn n sz : Nat} {q : Nat → Four} {S B gn gu gt gc L g g' : Nat} {A : Ar} {hs : List Int} {gs : List Nat}
theorem RowsI.tabH_ (h : RowsI w vn n sz q S B gn gu gt gc L g g' A hs gs w1) {k : Nat} (hk : k < L) : Blk w1 (gs.getD k 0) 4 (boolArr (tabH A vn (hs.getD k 0))) := by
  have h1 := h.tabk hk
  have e : tabH A vn (hs.getD k 0) = tabF sz (funN vn q n k) := by
    unfold tabH
    rw [h.pw]
    congr 1
    funext u
    exact h.denk hk u
  rw [e]
  exact h1
end
set_option maxRecDepth 100000 in
set_option maxHeartbeats 8000000 in
theorem lawImg_walk (vars : Int) (Al : Option Addr) (n c : Nat) (q : Nat → Four) (w : World) (hG : GlobT w) (hE : GlobE w) (hq : FourP w Al n q) :
    Calls Tryz.prog 3 #[.int .i64 vars, .slice Al n c] w (AtPost w true) := by
  have HM := hide (madeF_any vars Al n c q w hq)
  have HG := hide hG
  have HE := hide hE
  clear hq hG hE
  go_enter Tryz.func3, Tryz.ntmps3
  go_wp2_with fail
  refine (HM.out).mono ?_
  rintro e w1 (⟨_, rfl, rfl⟩ | ⟨hn, vn, rfl, h1, h6, S, B, gn, gu, gt, gc, vh, vt, rfl, hm⟩)
  · go_wp2
    go_ret
    exact ⟨rfl, Below.refl _ _⟩
  · obtain ⟨sz, L, g, g', c1, c2, A, hs, gs, rfl, rfl, hr⟩ := hm.rows
    obtain ⟨kk, rfl⟩ : ∃ kk, L = kk + 1 := ⟨L - 1, by have := hr.len; omega⟩
    have hkk : kk < 100 := by have := hr.len; omega
    have hpw := hr.pw
    have hx := hr.hask (show kk < kk + 1 by omega)
    have hb := hr.tabH_ (show kk < kk + 1 by omega)
    have ch := hr.h kk (by omega)
    have ct := hr.t kk (by omega)
    have HSP := Lib.hid hr.sp.sp
    have HSB := hide hr.sp.toB
    have HBE := hide hr.bel
    have HG1 := hide (HG.out.below hr.bel)
    have HE1 := hide (HE.out.below hr.bel)
    have hlt := hr.lt
    have hiv : I64 (vn : Int) := by unfold I64; omega
    clear hm hr HM HG HE
    generalize hs.getD kk 0 = x at hx hb ch
    generalize gs.getD kk 0 = p at hb ct
    unfold tabV at ct
    have HX := Lib.hid hx
    have HT := hide hb
    have HSV := hide (save_any x w1 HSB.out hiv hx HG1.out)
    clear hx hb
    go_wp2_with fail
    refine (HSV.out).mono ?_
    rintro e w2 ⟨v2, rfl, ho2, hb2⟩
    obtain ⟨gv, cv, e2, _⟩ := ho2.reads
    subst e2
    have HO2 := hide ho2
    have HB2 := hide hb2
    have HSN := hide (save_no (-1) w2 (HSB.out.below hb2) (by unfold I64; omega) (has_neg A))
    unfold ErrP at HSN
    clear ho2 hb2 HSV
    obtain ⟨ev, HEV⟩ : ∃ ev, Hid (errV 7 = ev) := ⟨_, Lib.hid rfl⟩
    rw [HEV.out] at HSN
    go_wp2_with fail
    refine (HSN.out).mono ?_
    rintro e w3 ⟨v3, rfl, hb3⟩
    have HB3 := hide (HB2.out.trans (hb3.mono HB2.out.size))
    have HO3 := hide (HO2.out.below hb3)
    have HSZ := save_nil 0 w3
    unfold ErrP at HSZ
    rw [HEV.out] at HSZ
    have HSZ := hide HSZ
    clear hb3 HSN HO2 HB2
    go_wp2_with fail
    refine (HSZ.out).mono ?_
    rintro e w4 ⟨v4, rfl, hb4⟩
    have HB4 := hide (HB3.out.trans (hb4.mono HB3.out.size))
    have HO4 := hide (HO3.out.below hb4)
    clear hb4 HSZ HO3 HB3
    obtain ⟨fz, HFZ⟩ : ∃ fz, Hid (imgT A (vn : Int) x = fz) := ⟨_, Lib.hid rfl⟩
    rw [HFZ.out] at HO4
    have HKP := Lib.hid (fun (w' : World) (hb : Below w4.heap.size w4 w') => show w'.cell? ⟨g', kk, none⟩ = some (.slice (some ⟨p, 0, none⟩) sz sz) ∧ (convert 28 9 (.slice (some ⟨gv, 0, none⟩) fz.length cv)).run Tryz.prog w' = .ok (.string ⟨fz.toArray⟩) w' from
      ⟨((HB4.out.trans (hb.mono HB4.out.size)).cell (p := ⟨g', kk, none⟩) hlt.2).trans ct, (HO4.out.below hb).text 28 9 Tryz.underlying28 Tryz.underlying5 Tryz.underlying9⟩)
    have HRI := hide (fun (w' : World) (hb : Below w4.heap.size w4 w') => refImage_any x p w' HSP.out HX.out h6 hpw (HT.out.below (HB4.out.trans (hb.mono HB4.out.size)) HT.out.lt) (HG1.out.below (HB4.out.trans (hb.mono HB4.out.size))))
    have HBA := hide (fun (w' : World) (hb : Below w4.heap.size w4 w') => bareS_any 7 w' (HE1.out.below (HB4.out.trans (hb.mono HB4.out.size))) (.inr ⟨by omega, by omega⟩))
    unfold AtPost at HBA
    unfold tabV at HRI
    rw [HFZ.out] at HRI
    rw [HEV.out] at HBA
    rw [HFZ.out]
    have HB5 := hide (HBE.out.trans (HB4.out.mono HBE.out.size))
    have hw4 : w.heap.size ≤ w4.heap.size := HB5.out.size
    generalize (⟨fz.toArray⟩ : ByteArray) = fb at HKP HRI
    obtain ⟨c0, l0⟩ := HKP.out w4 (Below.refl _ _)
    have hkI : (kk : Int) < (kk : Int) + 1 := by omega
    clear HSB HBE HG1 HE1 HSP HT HX HO4 HEV ch ct hiv hpw HFZ HB4
    go_wp2_with fail
    go_region_held3 (fun w' => w'.cell? ⟨g', kk, none⟩ = some (.slice (some ⟨p, 0, none⟩) sz sz) ∧ (convert 28 9 (.slice (some ⟨gv, 0, none⟩) fz.length cv)).run Tryz.prog w' = .ok (.string fb) w')
      ((refine HKP.out _ ?_; (repeat (first | exact Below.refl _ _ | exact (Below.refl _ _).drew | exact hbq | refine riDr ?_)); done))
      (first
        | (go_at_call 9; refine (HRI.out _ ?_).mono ?_; (focus ((repeat (first | exact Below.refl _ _ | exact (Below.refl _ _).drew | exact hbq | refine riDr ?_)); done)); rintro e wa ⟨rfl, hq⟩; (refine (fun (hbq : Below w4.heap.size w4 wa) => ?_) ?_; rotate_left; (focus (refine riThen ?_ hq; (repeat (first | exact Below.refl _ _ | exact (Below.refl _ _).drew | exact hbq | refine riDr ?_)); done))); clear hq)
        | (go_at_call 10; refine (HBA.out _ ?_).mono ?_; (focus ((repeat (first | exact Below.refl _ _ | exact (Below.refl _ _).drew | exact hbq | refine riDr ?_)); done)); rintro e wa ⟨rfl, hq⟩; (refine (fun (hbq : Below w4.heap.size w4 wa) => ?_) ?_; rotate_left; (focus (refine riThen ?_ hq; (repeat (first | exact Below.refl _ _ | exact (Below.refl _ _).drew | exact hbq | refine riDr ?_)); done))); clear hq))
    all_goals
      have HB9 := hide hbq
      clear hbq
      go_wp2
      go_ret
      exact ⟨rfl, HB5.out.trans (HB9.out.mono hw4)⟩
end Go.Proofs.YtdlcldhnbhlikaaGreatDoor
