/-
  The law BddTells, walked.
-/
import Derived.Test.YtfbhmkpihmcegaaDoorLawSame
import Derived.Test.YtfbhmkpihmcegaaDoorBddKth
import Derived.Test.YtfbhmkpihmcegaaDoorRefSize
import Derived.Test.YtfbhmkpihmcegaaDoorRefNeeds
import Derived.Test.YtfbhmkpihmcegaaDoorLawOfs
import Derived.Test.YtfbhmkpihmcegaaDoorSameInts
import Derived.Deep.RegionHeld3
namespace Go.Proofs.YtfbhmkpihmcegaaDoor
open Go.RowKit Go.Maps

/-- What is told of a handle and of its table: the same. -/
structure TellC (wr : World) (S sz p vn N Z : Nat) (x : Int) (zs : List Int) : Prop where
  count : ∀ wx, Below wr.heap.size wr wx → Calls Tryd.prog 28 #[.pointer (some ⟨S, 0, none⟩), .int .i64 x] wx (CountP wx N)
  needs : ∀ wx, Below wr.heap.size wr wx → Calls Tryd.prog 29 #[.pointer (some ⟨S, 0, none⟩), .int .i64 x] wx (fun e w' => ∃ Av cv, e = .returned (.tuple #[.slice Av zs.length cv, .nilIface]) ∧ RowI w' Av zs.length zs ∧ Below wx.heap.size wx w')
  size : ∀ wx, Below wr.heap.size wr wx → Calls Tryd.prog 30 #[.pointer (some ⟨S, 0, none⟩), .int .i64 x] wx (fun e w' => e = .returned (.tuple #[.int .i64 (Z : Int), .nilIface]) ∧ Below wx.heap.size wx w')
  all : ∀ wx, Below wr.heap.size wr wx → Calls Tryd.prog 38 #[tabV sz p, .int .i64 (vn : Int)] wx (fun e w' => ∃ Aa ca, e = .returned (.slice Aa N ca) ∧ Below wx.heap.size wx w')
  rneeds : ∀ wx, Below wr.heap.size wr wx → Calls Tryd.prog 57 #[tabV sz p, .int .i64 (vn : Int)] wx (fun e w' => ∃ Av cv, e = .returned (.slice Av zs.length cv) ∧ RowI w' Av zs.length zs ∧ Below wx.heap.size wx w')
  rsize : ∀ wx, Below wr.heap.size wr wx → Calls Tryd.prog 58 #[tabV sz p, .int .i64 (vn : Int)] wx (fun e w' => e = .returned (.int .i64 (Z : Int)) ∧ Below wx.heap.size wx w')
  le : N ≤ 64
  lz : zs.length ≤ 1000000
theorem docN_len (t : List Bool) : ∀ n, (docNeeds t n).length ≤ n
  | 0 => Nat.le_refl _
  | n + 1 => by
    rw [docN_succ, List.length_append]
    have := docN_len t n
    split
    · rw [List.length_singleton]; omega
    · rw [List.length_nil]; omega
section
variable {w w1 : World} {vn n sz : Nat} {q : Nat → Four} {S B gn gu gt gc L g g' : Nat} {A : Ar} {hs : List Int} {gs : List Nat}
theorem RowsI.tells (h : RowsI w vn n sz q S B gn gu gt gc L g g' A hs gs w1) (h1 : 1 ≤ vn) (h6 : vn ≤ 6) {k : Nat} (hk : k < L) : ∃ N Z zs, TellC w1 S sz (gs.getD k 0) vn N Z (hs.getD k 0) zs := by
  have hxa := h.hask hk
  have hden := h.denk hk
  have htot : (allL (funN vn q n k) vn sz).length = cA A vn (hs.getD k 0) * 2 ^ (min (topA A (hs.getD k 0)) (vn : Int)).toNat := by
    rw [← h.pw]
    exact all_len h.sp.sp.wf h.sp.sp.var (by omega) hden
  have hctn : CtN A (vn : Int) := ⟨h.sp.sp.wf, h.sp.sp.var, by omega, by omega⟩
  have hi := has_i64 h.sp.toB.ar hxa
  have hnd := needL_doc h.sp.sp hden 24
  rw [show min 24 vn = vn by omega, h.pw] at hnd
  have hsz := size_reach h.sp.sp (by omega) hxa hden
  have hle := allL_le (funN vn q n k) vn sz
  have hs64 := (pow_wrap h6 h.pw).2.1
  have hdl := docN_len (tabF sz (funN vn q n k)) vn
  refine ⟨cA A vn (hs.getD k 0) * 2 ^ (min (topA A (hs.getD k 0)) (vn : Int)).toNat, (reachL A [hs.getD k 0]).length, needL A (hs.getD k 0) 24, ⟨fun wx hb => bdCount_any S B gn gu gt gc vn A wx _ (h.below hb).sp.toB hctn hxa, fun wx hb => (bdNeeds_any S B gn gu gt gc vn A wx _ (h.below hb).sp.toB hi hxa).mono fun e w' hq => ?_,
    fun wx hb => bdSize_any S B gn gu gt gc vn A wx _ (h.below hb).sp.toB hi hxa, fun wx hb => (refAll_any sz vn _ _ wx ((h.below hb).tabk hk) h.pw h1 h6).mono fun e w' hq => ?_,
    fun wx hb => (refNeeds_any sz vn _ _ wx ((h.below hb).tabk hk) (tab_len _ _) h.pw h6).mono fun e w' hq => ?_, fun wx hb => (refSize_any sz vn _ _ wx ((h.below hb).tabk hk) (tab_len _ _) h.pw h6).mono fun e w' hq => ?_, by omega, ?_⟩⟩
  · obtain ⟨v, rfl, ho, hb⟩ := hq
    obtain ⟨Av, cv, rfl⟩ := ho.len
    exact ⟨Av, cv, rfl, ho.row, hb⟩
  · obtain ⟨v, rfl, ho⟩ := hq
    obtain ⟨Aa, ca, rfl⟩ := ho.own.len
    exact ⟨Aa, ca, by rw [htot], ho.bel⟩
  · obtain ⟨v, rfl, ho⟩ := hq
    obtain ⟨Av, cv, rfl⟩ := ho.own.len
    rw [hnd]
    exact ⟨Av, cv, rfl, ho.own.row, ho.bel⟩
  · obtain ⟨rfl, hb⟩ := hq
    rw [hsz, h.pw]
    exact ⟨rfl, hb⟩
  · rw [hnd]; omega
end
theorem told_one (wx : World) (N : Nat) (hG : GlobT (wx.alloc (.cells #[.int .i64 (N : Int)] 3))) (hN : N ≤ 64) :
    Calls Tryd.prog 56 #[.slice (some ⟨wx.heap.size, 0, none⟩) 1 1] (wx.alloc (.cells #[.int .i64 (N : Int)] 3)) (ToldPost (wx.alloc (.cells #[.int .i64 (N : Int)] 3)) [(N : Int)]) :=
  textW_any (some ⟨wx.heap.size, 0, none⟩) 1 1 [(N : Int)] _ hG (one_int wx N (by unfold I64; omega)) (by omega)
set_option maxRecDepth 100000 in
set_option maxHeartbeats 8000000 in
theorem lawTells_walk (vars : Int) (Al : Option Addr) (n c : Nat) (q : Nat → Four) (w : World) (hG : GlobT w) (hq : FourP w Al n q) :
    Calls Tryd.prog 7 #[.int .i64 vars, .slice Al n c] w (AtPost w true) := by
  have HM := hide (madeF_any vars Al n c q w hq)
  have HG := hide hG
  clear hq hG
  go_enter Tryd.func7, Tryd.ntmps7
  go_wp2_with fail
  refine (HM.out).mono ?_
  rintro e w1 (⟨_, rfl, rfl⟩ | ⟨hn, vn, rfl, h1, h6, S, B, gn, gu, gt, gc, vh, vt, rfl, hm⟩)
  · go_wp2
    go_ret
    exact ⟨rfl, Below.refl _ _⟩
  · obtain ⟨sz, L, g, g', c1, c2, A, hs, gs, rfl, rfl, hr⟩ := hm.rows
    have hL : L ≤ 27 := by have := hr.len; omega
    have HR := hide hr
    have hbw := hr.bel
    have HGB := hide (fun (wx : World) (hb : Below w1.heap.size w1 wx) => HG.out.below (hbw.trans (hb.mono hbw.size)))
    clear hm hr HM hbw
    go_wp2
    go_loopw [9] (fun iv wr => ∃ k : Nat, k ≤ L ∧ iv = .int .i64 k ∧ Hid (Below w1.heap.size w1 wr)) (fun iv _ => L - (intOf iv).toNat)
    case atStart => exact ⟨0, Nat.zero_le _, rfl, hide (Below.refl _ _)⟩
    case round =>
      obtain ⟨k, hk, rfl, HB⟩ := hrel
      by_cases hlt : k < L
      · have hkI : (k : Int) < (L : Int) := by omega
        have hr := HR.out.below HB.out
        have ch := hr.h k hlt
        have hgl := hr.lt
        have HCT := Lib.hid (fun (wx : World) (hb : Below wr.heap.size wr wx) => (hb.cell (p := ⟨g', k, none⟩) hgl.2).trans (hr.t k hlt))
        have HCH := Lib.hid (fun (wx : World) (hb : Below wr.heap.size wr wx) => (hb.cell (p := ⟨g, k, none⟩) hgl.1).trans (hr.h k hlt))
        obtain ⟨N, Z, zs, hC⟩ := hr.tells h1 h6 hlt
        have HC := hide hC
        clear hr hC
        generalize gs.getD k 0 = p at HCT HC
        generalize hs.getD k 0 = x at ch HCH HC
        have HCC := hide (HC.out.count wr (Below.refl _ _))
        go_wp2_with fail
        refine (HCC.out).mono ?_
        rintro e w2 ⟨v2, rfl, hv, hb2⟩
        obtain ⟨Ad, nd, cd, rfl⟩ := hv.form
        have hbx := (Below.refl w2.heap.size w2).alloc (Nat.le_refl _) (.cells #[.slice Ad nd cd] 66)
        have HV3 := hide (hv.below hbx)
        have HK3 := hide (Blk.new w2 66 #[.slice Ad nd cd])
        have HB3 := hide (hb2.trans (hbx.mono hb2.size))
        have HCN := hide (HC.out.needs _ HB3.out)
        have ch3 := HCH.out _ HB3.out
        clear hbx hv hb2 ch HCC
        go_wp2_with fail
        refine (HCN.out).mono ?_
        rintro e w4 ⟨Av, cv, rfl, hrow, hb4⟩
        have HB4 := hide (HB3.out.trans (hb4.mono HB3.out.size))
        have HV4 := hide (HV3.out.below hb4)
        have HK4 := hide (HK3.out.below hb4 HK3.out.lt)
        have HCS := hide (HC.out.size w4 HB4.out)
        have ch4 := HCH.out _ HB4.out
        have HRW := hide hrow
        clear hrow hb4 HCN HV3 HK3 ch3 HB3
        go_wp2_with fail
        refine (HCS.out).mono ?_
        rintro e w5 ⟨rfl, hb5⟩
        have HB5 := hide (HB4.out.trans (hb5.mono HB4.out.size))
        have HV5 := hide (HV4.out.below hb5)
        have HK5 := hide (HK4.out.below hb5 HK4.out.lt)
        have HR5 := hide (HRW.out.below hb5)
        clear hb5 HCS HV4 HK4 HRW ch4 HB4
        generalize w2.heap.size = bx at HK5 ⊢
        have HKP := Lib.hid (fun (wx : World) (hb : Below w5.heap.size w5 wx) => show wx.cell? ⟨g', k, none⟩ = some (.slice (some ⟨p, 0, none⟩) sz sz) ∧ wx.cell? ⟨bx, 0, none⟩ = some (.slice Ad nd cd) from
          ⟨HCT.out wx (HB5.out.trans (hb.mono HB5.out.size)), (HK5.out.below hb HK5.out.lt).cell 0⟩)
        have HTX := hide (fun (wx : World) (hb : Below w5.heap.size w5 wx) => text_any _ N 3 2 wx (HV5.out.below hb) (Nat.lt_of_le_of_lt HC.out.le (by decide)) (by omega) (HV5.out.two (Nat.lt_of_le_of_lt HC.out.le (by decide))) (by omega))
        have HAL := hide (fun (wx : World) (hb : Below w5.heap.size w5 wx) => HC.out.all wx (HB5.out.trans (hb.mono HB5.out.size)))
        have HND := hide (fun (wx : World) (hb : Below w5.heap.size w5 wx) => HC.out.rneeds wx (HB5.out.trans (hb.mono HB5.out.size)))
        have HSZ := hide (fun (wx : World) (hb : Below w5.heap.size w5 wx) => HC.out.rsize wx (HB5.out.trans (hb.mono HB5.out.size)))
        have HTD := hide (fun (wx : World) (hb : Below w5.heap.size w5 (wx.alloc (.cells #[.int .i64 (N : Int)] 3))) => told_one wx N (HGB.out _ (HB.out.trans ((HB5.out.trans (hb.mono HB5.out.size)).mono HB.out.size))) HC.out.le)
        have HSI := hide (fun (wx : World) (hb : Below w5.heap.size w5 wx) (A2 : Option Addr) (c2 : Nat) (h2 : RowI wx A2 zs.length zs) => (sameInts_any Av A2 zs.length cv c2 zs wx (HR5.out.below hb) h2 HC.out.lz).mono fun e w' h => show e = .returned (.bool true) ∧ Below wx.heap.size wx w' from ⟨h.1, by obtain ⟨q, e⟩ := h.2; rw [e]; exact below_drewN (Below.refl _ _) q⟩)
        unfold tabV at HAL HND HSZ
        unfold TextPost at HTX
        obtain ⟨tx, HTT⟩ : ∃ tx : ByteArray, Hid ((⟨(Lib.decDigits N).toArray⟩ : ByteArray) = tx) := ⟨_, Lib.hid rfl⟩
        unfold ToldPost at HTD
        rw [text_one] at HTD
        rw [HTT.out] at HTX HTD
        obtain ⟨ct, cb⟩ := HKP.out w5 (Below.refl _ _)
        have HBZ := hide (HB.out.trans (HB5.out.mono HB.out.size))
        clear HC HCT HCH HV5 HK5 HR5 HB5 HGB
        go_wp2_with fail
        go_region_held3 (fun w' => w'.cell? ⟨g', k, none⟩ = some (.slice (some ⟨p, 0, none⟩) sz sz) ∧ w'.cell? ⟨bx, 0, none⟩ = some (.slice Ad nd cd))
          (first | assumption | exact ⟨ct, cb⟩ | (refine HKP.out _ ?_; (repeat (first | exact Below.refl _ _ | exact (Below.refl _ _).drew | exact hbt | exact hba | exact hbd | exact hbn | exact hbs | exact hbz | refine below_al ?_ _ | refine below_dr ?_)); done))
          (first
            | (go_at_call 55; refine (HTX.out _ ?_).mono ?_; (focus ((repeat (first | exact Below.refl _ _ | exact (Below.refl _ _).drew | exact hbt | exact hba | exact hbd | exact hbn | exact hbs | exact hbz | refine below_al ?_ _ | refine below_dr ?_)); done)); rintro e wt ⟨rfl, hq⟩; (refine (fun (hbt : Below w5.heap.size w5 wt) => ?_) ?_; rotate_left; (focus (refine below_then ?_ hq; (repeat (first | exact Below.refl _ _ | exact (Below.refl _ _).drew | exact hbt | exact hba | exact hbd | exact hbn | exact hbs | exact hbz | refine below_al ?_ _ | refine below_dr ?_)); done))); clear hq)
            | (go_at_call 38; refine (HAL.out _ ?_).mono ?_; (focus ((repeat (first | exact Below.refl _ _ | exact (Below.refl _ _).drew | exact hbt | exact hba | exact hbd | exact hbn | exact hbs | exact hbz | refine below_al ?_ _ | refine below_dr ?_)); done)); rintro e wa ⟨Aa, ca, rfl, hq⟩; (refine (fun (hba : Below w5.heap.size w5 wa) => ?_) ?_; rotate_left; (focus (refine below_then ?_ hq; (repeat (first | exact Below.refl _ _ | exact (Below.refl _ _).drew | exact hbt | exact hba | exact hbd | exact hbn | exact hbs | exact hbz | refine below_al ?_ _ | refine below_dr ?_)); done))); clear hq)
            | (go_at_call 56; refine (HTD.out _ ?_).mono ?_; (focus ((repeat (first | exact Below.refl _ _ | exact (Below.refl _ _).drew | exact hbt | exact hba | exact hbd | exact hbn | exact hbs | exact hbz | refine below_al ?_ _ | refine below_dr ?_)); done)); rintro e wd ⟨rfl, hq⟩; (refine (fun (hbd : Below w5.heap.size w5 wd) => ?_) ?_; rotate_left; (focus (refine below_then ?_ hq; (repeat (first | exact Below.refl _ _ | exact (Below.refl _ _).drew | exact hbt | exact hba | exact hbd | exact hbn | exact hbs | exact hbz | refine below_al ?_ _ | refine below_dr ?_)); done))); clear hq)
            | (go_at_call 57; refine (HND.out _ ?_).mono ?_; (focus ((repeat (first | exact Below.refl _ _ | exact (Below.refl _ _).drew | exact hbt | exact hba | exact hbd | exact hbn | exact hbs | exact hbz | refine below_al ?_ _ | refine below_dr ?_)); done)); rintro e wn ⟨An, cn, rfl, hrn, hq⟩; (refine (fun (hbn : Below w5.heap.size w5 wn) => ?_) ?_; rotate_left; (focus (refine below_then ?_ hq; (repeat (first | exact Below.refl _ _ | exact (Below.refl _ _).drew | exact hbt | exact hba | exact hbd | exact hbn | exact hbs | exact hbz | refine below_al ?_ _ | refine below_dr ?_)); done))); clear hq)
            | (go_at_call 12; refine (HSI.out _ ?_ _ _ hrn).mono ?_; (focus ((repeat (first | exact Below.refl _ _ | exact (Below.refl _ _).drew | exact hbt | exact hba | exact hbd | exact hbn | exact hbs | exact hbz | refine below_al ?_ _ | refine below_dr ?_)); done)); rintro e ws ⟨rfl, hq⟩; (refine (fun (hbs : Below w5.heap.size w5 ws) => ?_) ?_; rotate_left; (focus (refine below_then ?_ hq; (repeat (first | exact Below.refl _ _ | exact (Below.refl _ _).drew | exact hbt | exact hba | exact hbd | exact hbn | exact hbs | exact hbz | refine below_al ?_ _ | refine below_dr ?_)); done))); clear hq)
            | (go_at_call 58; refine (HSZ.out _ ?_).mono ?_; (focus ((repeat (first | exact Below.refl _ _ | exact (Below.refl _ _).drew | exact hbt | exact hba | exact hbd | exact hbn | exact hbs | exact hbz | refine below_al ?_ _ | refine below_dr ?_)); done)); rintro e wz ⟨rfl, hq⟩; (refine (fun (hbz : Below w5.heap.size w5 wz) => ?_) ?_; rotate_left; (focus (refine below_then ?_ hq; (repeat (first | exact Below.refl _ _ | exact (Below.refl _ _).drew | exact hbt | exact hba | exact hbd | exact hbn | exact hbs | exact hbz | refine below_al ?_ _ | refine below_dr ?_)); done))); clear hq))
        have HB9 := hide (HBZ.out.trans (hbz.mono HBZ.out.size))
        clear hbt hba hbd hbn hbs hbz hrn HTX HAL HND HSZ HTD HSI HKP
        go_wp2
        go_roundw
        case rel => exact ⟨k + 1, by omega, by go_num, HB9⟩
        case measure => simp [intOf]; omega
      · obtain rfl : k = L := by omega
        have HBE := hide (HR.out.bel.trans (HB.out.mono HR.out.bel.size))
        go_wp2
        go_ret
        exact ⟨rfl, HBE.out⟩
end Go.Proofs.YtfbhmkpihmcegaaDoor
