/-
  The law FamilySame, walked.
-/
import Derived.Test.YtfbhmkpihmcegaaFamSets
import Derived.Test.YtfbhmkpihmcegaaSameSets
import Derived.Test.YtfbhmkpihmcegaaRefSets
namespace Go.Proofs.Ytfbhmkpihmcegaa
open Go.RowKit Go.Maps

def LawP (w : World) (b : Bool) (e : Ending) (w' : World) : Prop := e = .returned (.bool b) ∧ Below w.heap.size w w'
theorem bel_dr {u w : World} (h : Below u.heap.size u w) : Below u.heap.size u w.drew := h.drew
theorem bel_then {u X Y : World} (h : Below u.heap.size u X) (k : Below X.heap.size X Y) : Below u.heap.size u Y := h.trans (k.mono h.size)
/-- What sets handed back, as rows: handles and families. -/
structure SetR (w : World) (vn n : Nat) (q : Nat → Four) (S B gn gu gt L g g' : Nat) (A : Ar) (hs : List Int) (gs : List Nat) (w1 : World) : Prop where
  sp : FsM w1 S B gn gu gt (vn : Int) A
  ok : HsZ A hs (famsN vn q n)
  hl : hs.length = L
  gl : gs.length = L
  len : L = n + 2
  h : ∀ k, k < L → w1.cell? ⟨g, k, none⟩ = some (.int .i64 (hs.getD k 0))
  t : ∀ k, k < L → w1.cell? ⟨g', k, none⟩ = some (mapV (gs.getD k 0))
  fam : Fams w1 w.heap.size gs (famsN vn q n)
  low : low3 A ≤ 42 * n
  own : ∀ k, arB B gn gu gt k ∨ k = S → w.heap.size ≤ k
  lt : g < w1.heap.size ∧ g' < w1.heap.size
  bel : Below w.heap.size w w1
theorem SsI.rows {w w1 : World} {vn n : Nat} {q : Nat → Four} {S B gn gu gt : Nat} {vh vf : Value} (h : SsI w vn n q S B gn gu gt vh vf w1) :
    ∃ L g g' c c' A hs gs, vh = .slice (some ⟨g, 0, none⟩) L c ∧ vf = .slice (some ⟨g', 0, none⟩) L c' ∧ SetR w vn n q S B gn gu gt L g g' A hs gs w1 := by
  obtain ⟨A, hs, h1, h2, h3, h0⟩ := h.is
  obtain ⟨gs, h4, h5⟩ := h.fam
  have e1 : hs.length = n + 2 := h2.len.trans (fams_len vn q n)
  have e2 : gs.length = n + 2 := h5.len.trans (fams_len vn q n)
  obtain ⟨g, c, cur, rfl, _, k1, _, f1⟩ := h3.form (by omega)
  obtain ⟨g', c', cur', rfl, _, k2, _, f2⟩ := h4.form (by omega)
  refine ⟨n + 2, g, g', c, c', A, hs, gs, by rw [e1], by rw [e2], ⟨h1, h2, e1, e2, rfl, fun k hk => (k1.cell k).trans (f1 k (by omega)), fun k hk => (k2.cell k).trans (f2 k (by omega)), h5, h0, h.own, ⟨k1.lt, k2.lt⟩, h.bel⟩⟩
/-- A family of the list. -/
noncomputable def famF (vn : Nat) (q : Nat → Four) (n k : Nat) : FamB := (famsN vn q n).getD k fm0
section
variable {w w1 : World} {vn n : Nat} {q : Nat → Four} {S B gn gu gt L g g' : Nat} {A : Ar} {hs : List Int} {gs : List Nat}
theorem SetR.below {w2 : World} (h : SetR w vn n q S B gn gu gt L g g' A hs gs w1) (hb : Below w1.heap.size w1 w2) : SetR w vn n q S B gn gu gt L g g' A hs gs w2 :=
  ⟨h.sp.below hb, h.ok, h.hl, h.gl, h.len, fun k hk => (hb.cell (p := ⟨g, k, none⟩) h.lt.1).trans (h.h k hk), fun k hk => (hb.cell (p := ⟨g', k, none⟩) h.lt.2).trans (h.t k hk), h.fam.below hb, h.low, h.own,
    ⟨Nat.lt_of_lt_of_le h.lt.1 hb.size, Nat.lt_of_lt_of_le h.lt.2 hb.size⟩, h.bel.trans (hb.mono h.bel.size)⟩
theorem SetR.map (h : SetR w vn n q S B gn gu gt L g g' A hs gs w1) {k : Nat} (hk : k < L) : MapU w1 (gs.getD k 0) (famF vn q n k) := (h.fam.is k (by rw [h.gl]; exact hk)).2
theorem SetR.hask (h : SetR w vn n q S B gn gu gt L g g' A hs gs w1) {k : Nat} (hk : k < L) : hasA A (hs.getD k 0) = true := h.ok.has k (by rw [h.hl]; exact hk)
theorem SetR.famk (h : SetR w vn n q S B gn gu gt L g g' A hs gs w1) {k : Nat} (hk : k < L) (s : Nat) : Go.Proofs.Ytfbhmkpihmcegaa.fam A (hs.getD k 0) s = famF vn q n k s := h.ok.fam k (by rw [h.hl]; exact hk) s
/-- MINATO: the handles are the same just if the families are. -/
theorem SetR.same (h : SetR w vn n q S B gn gu gt L g g' A hs gs w1) {i k : Nat} (hi : i < L) (hk : k < L) : (hs.getD i 0 == hs.getD k 0) = decide (setsL (famF vn q n i) = setsL (famF vn q n k)) := by
  have hj := sets_inj (fun s e => (h.map hi).dom e) (fun s e => (h.map hk).dom e)
  by_cases h2 : famF vn q n i = famF vn q n k
  · have e : hs.getD i 0 = hs.getD k 0 := fam_inj h.sp.sp.wf h.sp.sp.red (dep A (hs.getD i 0) + dep A (hs.getD k 0)) _ _ (by omega) (by omega) (h.hask hi) (h.hask hk) fun s => by rw [h.famk hi, h.famk hk, h2]
    rw [decide_eq_true (hj.2 h2), e]; simp
  · rw [decide_eq_false fun e => h2 (hj.1 e)]
    have : hs.getD i 0 ≠ hs.getD k 0 := fun e => h2 (funext fun s => by rw [← h.famk hi, ← h.famk hk, e])
    simpa using this
end
set_option maxRecDepth 100000 in
set_option maxHeartbeats 8000000 in
theorem lawFamSame_walk (vars : Int) (Al : Option Addr) (n c : Nat) (q : Nat → Four) (w : World) (hq : FourP w Al n q) :
    Calls Try.prog 5 #[.int .i64 vars, .slice Al n c] w (LawP w true) := by
  have HM := hide (setsF_any vars Al n c q w hq)
  clear hq
  go_enter Try.func5, Try.ntmps5
  go_wp2_with fail
  refine (HM.out).mono ?_
  rintro e w1 (⟨_, rfl, rfl⟩ | ⟨hn, vn, rfl, h6, S, B, gn, gu, gt, vh, vt, rfl, hm⟩)
  · go_wp2
    go_ret
    exact ⟨rfl, Below.refl _ _⟩
  · obtain ⟨L, g, g', c1, c2, A, hs, gs, rfl, rfl, hr⟩ := hm.rows
    have HR := hide hr
    have hL : L ≤ 22 := by have := hr.len; omega
    clear hm hr HM
    go_wp2
    go_loopw [9] (fun iv wr => ∃ i : Nat, i ≤ L ∧ iv = .int .i64 i ∧ Hid (Below w1.heap.size w1 wr)) (fun iv _ => L - (intOf iv).toNat)
    case atStart => exact ⟨0, Nat.zero_le _, rfl, hide (Below.refl _ _)⟩
    case round =>
      obtain ⟨i, hi, rfl, HW⟩ := hrel
      by_cases hlt : i < L
      · have hiI : (i : Int) < (L : Int) := by omega
        go_wp2
        go_loopw [10] (fun iv wr => ∃ k : Nat, k ≤ L ∧ iv = .int .i64 k ∧ Hid (Below w1.heap.size w1 wr)) (fun iv _ => L - (intOf iv).toNat)
        case atStart => exact ⟨0, Nat.zero_le _, rfl, HW⟩
        case round =>
          obtain ⟨k, hk, rfl, HW2⟩ := hrel
          by_cases hkl : k < L
          · have hkI : (k : Int) < (L : Int) := by omega
            have hr2 := HR.out.below HW2.out
            have ch1 := hr2.h i hlt
            have ch2 := hr2.h k hkl
            have ct1 := hr2.t i hlt
            have ct2 := hr2.t k hkl
            have hlg := hr2.lt
            have hsame := hr2.same hlt hkl
            have hm1 := hr2.map hlt
            have hm2 := hr2.map hkl
            have HS1 := hide (fun (wx : World) (hb : Below wr.heap.size wr wx) => (refSets_any _ _ wx (hm1.below hb hm1.lt)).mono fun e w' hq =>
              show ∃ v, e = .returned v ∧ (∀ wy, Below w'.heap.size w' wy → OwnU wy wx.heap.size v (setsL (famF vn q n i))) ∧ Below wx.heap.size wx w' by
                obtain ⟨v, e1, e2, e3⟩ := hq
                exact ⟨v, e1, fun wy hy => e2.below hy, e3⟩)
            have HS2 := hide (fun (wx : World) (hb : Below wr.heap.size wr wx) => (refSets_any _ _ wx (hm2.below hb hm2.lt)).mono fun e w' hq =>
              show ∃ v, e = .returned v ∧ (∀ wy, Below w'.heap.size w' wy → OwnU wy wx.heap.size v (setsL (famF vn q n k))) ∧ Below wx.heap.size wx w' by
                obtain ⟨v, e1, e2, e3⟩ := hq
                exact ⟨v, e1, fun wy hy => e2.below hy, e3⟩)
            have hl1 := sets_len (famF vn q n i)
            generalize setsL (famF vn q n i) = l1 at hsame HS1 hl1
            generalize setsL (famF vn q n k) = l2 at hsame HS2
            have HSS := hide (fun (wx : World) (b1 b2 : Nat) (v1 v2 : Value) (h1 : OwnU wx b1 v1 l1) (h2 : OwnU wx b2 v2 l2) => (sameSets_any b1 b2 v1 v2 l1 l2 wx h1 h2 (by omega)).mono fun e w' h =>
              show e = .returned (.bool (decide (l1 = l2))) ∧ Below wx.heap.size wx w' from ⟨h.1, by obtain ⟨q, e⟩ := h.2; rw [e]; exact below_drewN (Below.refl _ _) q⟩)
            generalize gs.getD i 0 = p1 at ct1 HS1 hm1
            generalize gs.getD k 0 = p2 at ct2 HS2 hm2
            generalize hs.getD i 0 = x1 at ch1 hsame
            generalize hs.getD k 0 = x2 at ch2 hsame
            generalize decide (l1 = l2) = b at hsame HSS
            have HCT := Lib.hid (fun (wx : World) (hb : Below wr.heap.size wr wx) => show wx.cell? ⟨g, i, none⟩ = some (.int .i64 x1) ∧ wx.cell? ⟨g, k, none⟩ = some (.int .i64 x2) ∧ wx.cell? ⟨g', i, none⟩ = some (.map (some p1)) ∧ wx.cell? ⟨g', k, none⟩ = some (.map (some p2)) from
              ⟨(hb.cell (p := ⟨g, i, none⟩) hlg.1).trans ch1, (hb.cell (p := ⟨g, k, none⟩) hlg.1).trans ch2, (hb.cell (p := ⟨g', i, none⟩) hlg.2).trans ct1, (hb.cell (p := ⟨g', k, none⟩) hlg.2).trans ct2⟩)
            unfold mapV at ct1 ct2
            clear hr2 hm1 hm2 hlg hl1
            cases b
            all_goals
              go_wp2_with fail
              go_region_held3 (fun w' => w'.cell? ⟨g, i, none⟩ = some (.int .i64 x1) ∧ w'.cell? ⟨g, k, none⟩ = some (.int .i64 x2) ∧ w'.cell? ⟨g', i, none⟩ = some (.map (some p1)) ∧ w'.cell? ⟨g', k, none⟩ = some (.map (some p2)))
                (first | assumption | exact ⟨ch1, ch2, ct1, ct2⟩ | (refine HCT.out _ ?_; (repeat (first | exact Below.refl _ _ | exact (Below.refl _ _).drew | exact hba | exact hbb | exact hbs | refine bel_dr ?_)); done))
                (first
                  | (go_at_call 13; have hvq := hva; clear hvq; refine (HS2.out _ ?_).mono ?_; (focus ((repeat (first | exact Below.refl _ _ | exact (Below.refl _ _).drew | exact hba | exact hbb | refine bel_dr ?_)); done)); rintro e wb ⟨vb, rfl, hvb, hq⟩; (refine (fun (hbb : Below wr.heap.size wr wb) => ?_) ?_; rotate_left; (focus (refine bel_then ?_ hq; (repeat (first | exact Below.refl _ _ | exact (Below.refl _ _).drew | exact hba | exact hbb | refine bel_dr ?_)); done))); (refine (fun (hab : Below wa.heap.size wa wb) => ?_) ?_; rotate_left; (focus (refine bel_then ?_ hq; (repeat (first | exact Below.refl _ _ | exact (Below.refl _ _).drew | refine bel_dr ?_)); done))); clear hq)
                  | (go_at_call 13; refine (HS1.out _ ?_).mono ?_; (focus ((repeat (first | exact Below.refl _ _ | exact (Below.refl _ _).drew | exact hba | exact hbb | refine bel_dr ?_)); done)); rintro e wa ⟨va, rfl, hva, hq⟩; (refine (fun (hba : Below wr.heap.size wr wa) => ?_) ?_; rotate_left; (focus (refine bel_then ?_ hq; (repeat (first | exact Below.refl _ _ | exact (Below.refl _ _).drew | exact hba | exact hbb | refine bel_dr ?_)); done))); clear hq)
                  | (go_at_call 12; refine (HSS.out _ _ _ _ _ (hva _ ?_) (hvb _ ?_)).mono ?_; (focus ((repeat (first | exact hab | refine bel_dr ?_)); done)); (focus ((repeat (first | exact Below.refl _ _ | exact (Below.refl _ _).drew | refine bel_dr ?_)); done)); rintro e ws ⟨rfl, hq⟩; (refine (fun (hbs : Below wr.heap.size wr ws) => ?_) ?_; rotate_left; (focus (refine bel_then ?_ hq; (repeat (first | exact Below.refl _ _ | exact (Below.refl _ _).drew | exact hbb | refine bel_dr ?_)); done))); clear hq))
              have HB9 := hide (HW2.out.trans (hbs.mono HW2.out.size))
              clear hva hvb hab hba hbb hbs HS1 HS2 HSS HCT
              go_wp2
              go_roundw
              case rel => exact ⟨k + 1, by omega, by go_num, HB9⟩
              case measure => simp [intOf]; omega
          · obtain rfl : k = L := by omega
            go_wp2
            go_roundw
            case rel => exact ⟨i + 1, by omega, by go_num, HW2⟩
            case measure => simp [intOf]; omega
      · obtain rfl : i = L := by omega
        have HBE := hide (HR.out.bel.trans (HW.out.mono HR.out.bel.size))
        go_wp2
        go_ret
        exact ⟨rfl, HBE.out⟩
end Go.Proofs.Ytfbhmkpihmcegaa
