/-
  A part of the proof: LawMakes. Conditions: none.
-/
import Derived.Test.YtmncoldaemcnlaaGreatDoorCmLawLines
import Derived.Test.YtmncoldaemcnlaaGreatDoorCmCatText
import Derived.Test.YtmncoldaemcnlaaGreatDoorCmRefItems
import Derived.Test.YtmncoldaemcnlaaGreatDoorCmSameInts
import Derived.Test.YtmncoldaemcnlaaGreatDoorCmSpHas
import Derived.Laws.EntriesVeiled
import Derived.ChangeKeysEq
namespace Go.Proofs.YtmncoldaemcnlaaGreatDoor
open Go.RowKit
open Classical
set_option maxRecDepth 100000
theorem catNumM_at (g base : Nat) (qs : List LnQ) (x : ItR) (w : World) (h : CatO w base g qs) (hl : (itemsF (qs.map (·.1))).length ≤ 1000000) : Calls Tryz.prog 32 #[.pointer (some ⟨g, 0, none⟩), .string x.1, .agg #[.int .i64 x.2.1, .int .i64 x.2.2.1, .int .i64 x.2.2.2]] w (PosP (itemsF (qs.map (·.1))) x w) := by
 obtain ⟨vl, vi, h1, h2, h3⟩ := h.is
 exact catNum_any g vl vi _ x w ⟨h1, h3.mono (Nat.zero_le _)⟩ hl
theorem posF_at {x : ItR} : ∀ (l : List ItR) (k i : Nat), l.Nodup → k < l.length → l[k]? = some x → posF x l i = ((i + k : Nat) : Int)
 | [], k, _, _, h, _ => absurd h (Nat.not_lt_zero k)
 | a :: r, 0, i, _, _, e => by
  obtain rfl : a = x := by simpa using e
  rw [posF_hit rfl]
  rfl
 | a :: r, k + 1, i, hn, h, e => by
  rw [List.nodup_cons] at hn
  have e2 : r[k]? = some x := by simpa using e
  have hx : x ∈ r := by
   obtain ⟨h9, e9⟩ := List.getElem?_eq_some_iff.1 e2
   rw [← e9]
   exact List.getElem_mem h9
  rw [posF_miss (fun e3 => hn.1 (by rw [e3]; exact hx)), posF_at r k (i + 1) hn.2 (by simpa using h) e2]
  omega
theorem posN_at {l : List ItR} (h : l.Nodup) {k : Nat} (hk : k < l.length) : posN l l[k] = (k : Int) := by
 unfold posN
 rw [posF_at l k 0 h hk (List.getElem?_eq_getElem hk), Nat.zero_add]
theorem sameOwnM_any (v1 v2 : Value) (zs : List Int) (w : World) (h1 : OwnI w 0 v1 zs) (h2 : OwnI w 0 v2 zs) (hn : zs.length ≤ 1000000) : Calls Tryz.prog 22 #[v1, v2] w (AtPost w true) := by
 obtain ⟨A1, c1, rfl⟩ := h1.len
 obtain ⟨A2, c2, rfl⟩ := h2.len
 refine (sameInts_any A1 A2 zs.length c1 c2 zs w h1.row h2.row hn).mono ?_
 rintro e w' ⟨rfl, q, rfl⟩
 exact ⟨rfl, below_drewN (Below.refl _ _) _⟩
theorem chkL_kindM {x : LnR} (h : chkL x = 0) : 1 ≤ x.k ∧ x.k ≤ 4 := by
 unfold chkL at h
 split at h
 ·cases h
 ·omega
theorem kindsM_of {qs : List LnQ} {its : List ItR} (h : catR (qs.map (·.1)) = .inr its) : qs.length ≤ 100 ∧ ∀ q ∈ qs, 1 ≤ q.1.k ∧ q.1.k ≤ 4 := by
 obtain ⟨_, _, _, h4, h5⟩ := catR_ok h
 exact ⟨by simpa using h4, fun q hq => chkL_kindM (h5 _ (List.mem_map.2 ⟨q, hq, rfl⟩))⟩
theorem neqVerM (x y z : Int) (w : World) : (binOp .neq 33 (.agg #[.int .i64 x, .int .i64 y, .int .i64 z]) (.agg #[.int .i64 x, .int .i64 y, .int .i64 z])).run Tryz.prog w = .ok (.bool false) w := by
 rw [run_neq_struct, eqlArr_c _ Tryz.underlying33, show eq3 x y z x y z = true by simp [eq3]]
 rfl
structure MkI (w0 : World) (g base : Nat) (qs qs' : List LnQ) (its : List ItR) (vp vr vI vJ : Value) (wr : World) : Prop where
 bel : Below w0.heap.size w0 wr
 co : CatO wr base g qs
 lp : LnsP wr 0 vp qs
 lr : LnsR wr 0 vr qs'
 oI : OwnK elI wr 0 vI its
 oJ : OwnK elJ wr 0 vJ its
theorem MkI.below {w0 wr w' : World} {g base : Nat} {qs qs' : List LnQ} {its : List ItR} {vp vr vI vJ : Value} (h : MkI w0 g base qs qs' its vp vr vI vJ wr) (hb : Below wr.heap.size wr w') : MkI w0 g base qs qs' its vp vr vI vJ w' :=
 ⟨h.bel.trans (hb.mono h.bel.size), h.co.below hb, h.lp.below hb, h.lr.below hb, h.oI.below hb, h.oJ.below hb⟩
structure MkJ (w0 : World) (g base : Nat) (qs qs' : List LnQ) (its : List ItR) (vp vr vI vJ : Value) (gP gR i : Nat) (x : LnR) (Aq : Option Addr) (nq cq : Nat) (A' : Option Addr) (n' c' : Nat) (wr : World) : Prop where
 m : MkI w0 g base qs qs' its vp vr vI vJ wr
 y1 : wr.cell? ⟨gP, i * 7 + 1, none⟩ = some (.string x.name)
 y5 : wr.cell? ⟨gP, i * 7 + 5, none⟩ = some (.string x.other)
 y6 : wr.cell? ⟨gP, i * 7 + 6, none⟩ = some (.slice Aq nq cq)
 z1 : wr.cell? ⟨gR, i * 7 + 1, none⟩ = some (.string x.name)
 z5 : wr.cell? ⟨gR, i * 7 + 5, none⟩ = some (.string x.other)
 z6 : wr.cell? ⟨gR, i * 7 + 6, none⟩ = some (.slice A' n' c')
 op : OwnP wr 0 (.slice Aq nq cq) x.rg
 or_ : OwnI wr 0 (.slice A' n' c') (flatI x.rg)
theorem MkJ.below {w0 wr w' : World} {g base : Nat} {qs qs' : List LnQ} {its : List ItR} {vp vr vI vJ : Value} {gP gR i : Nat} {x : LnR} {Aq : Option Addr} {nq cq : Nat} {A' : Option Addr} {n' c' : Nat} (h : MkJ w0 g base qs qs' its vp vr vI vJ gP gR i x Aq nq cq A' n' c' wr) (hb : Below wr.heap.size wr w') : MkJ w0 g base qs qs' its vp vr vI vJ gP gR i x Aq nq cq A' n' c' w' :=
 ⟨h.m.below hb, (hb.cell (lt_of_cell h.y1)).trans h.y1, (hb.cell (lt_of_cell h.y5)).trans h.y5, (hb.cell (lt_of_cell h.y6)).trans h.y6, (hb.cell (lt_of_cell h.z1)).trans h.z1, (hb.cell (lt_of_cell h.z5)).trans h.z5, (hb.cell (lt_of_cell h.z6)).trans h.z6, h.op.below hb, OwnI.below h.or_ hb⟩
theorem wantedM_of {o : Oper} {j : Nat} {b : Bool} {ops : Array Oper} {tmps : Array Value} (hg : o.guard = some (j, b)) (h : yielded ops tmps j = some b) : Region.wanted o (yielded ops tmps) = true := by
 unfold Region.wanted
 rw [hg]
 simp [h]
theorem wpM_move {P : Program} {o : Oper} {a : Act} {w : World} {K : Act → World → Prop} {Q : Exit → Act → World → Prop} (x : Operand) (h : o.op = .move x) (hk : K (a.put o.dst (a.eval x)) w) : o.wp P a w K Q := by
 unfold Oper.wp
 rw [BigFrame.run_move x h]
 exact hk
def mkR (its : List ItR) (x : LnR) (sp : Array (Value ⊕ Bool)) (i : Nat) (w : World) (v : Value) : Prop := match sp.getD i (.inl undef) with
 | .inl c => v = c
 | .inr true => OwnI w 0 v (amF x.name x.rg its 0)
 | .inr false => OwnI w 0 v (amF x.other x.rg its 0)
theorem mkR_below (its : List ItR) (x : LnR) (sp : Array (Value ⊕ Bool)) (i : Nat) (w w' : World) (v : Value) (h : mkR its x sp i w v) (hb : Below w.heap.size w w') : mkR its x sp i w' v := by
 unfold mkR at h ⊢
 split
 ·rename_i e
  rw [e] at h
  exact h
 ·rename_i e
  rw [e] at h
  exact OwnI.below h hb
 ·rename_i e
  rw [e] at h
  exact OwnI.below h hb
set_option maxHeartbeats 16000000 in
theorem lawMakes_walk (A : Option Addr) (n c : Nat) (q : Nat → RwR) (w : World) (hG : GlobV w) (hF : FineP w) (hK : KindsP w) (h : RawP w A n q) (hn : n ≤ 1759218604441) : Calls Tryz.prog 6 #[.slice A n c] w (AtPost w true) := by
 have HLI := hide (lines_any A n c q w hG hF h hn)
 have HG := hide hG
 have HF := hide hF
 have HK := hide hK
 clear hG hF hK h
 go_enter Tryz.func6, Tryz.ntmps6
 go_wp2_with fail
 refine HLI.out.mono ?_
 rintro e w1 (⟨rfl, hb1⟩ | ⟨vp, vr, qs, qs', rfl, hp, hr, hm, hln, hb1⟩)
 ·have HB := hide hb1
  clear hb1 HLI
  go_wp2_with fail
  go_ret
  exact ⟨rfl, HB.out⟩
 ·by_cases h110 : n ≤ 110
  ·rw [decide_eq_true h110]
   have HB := hide hb1
   have HP := hide (hp.mono (Nat.zero_le _))
   have HR := hide (hr.mono (Nat.zero_le _))
   have HM := Lib.hid hm
   have HLN := Lib.hid hln
   have HRC := hide (refCat_any vr qs' w1 (hr.mono (Nat.zero_le _)) (HF.out.below hb1))
   rw [← hm] at HRC
   obtain ⟨Ap, cp, rfl, _⟩ := HP.out.1.len
   obtain ⟨Ar, cr, rfl, _⟩ := HR.out.1.len
   have hln' : qs'.length = n := by rw [← hln, ← List.length_map (f := (·.1)), ← hm, List.length_map]
   have HLN' := Lib.hid hln'
   rw [hln, hln']
   rw [hln] at HP
   rw [hln'] at HR HRC
   unfold RefCatP at HRC
   clear hp hr hm hln hb1 HLI hln'
   go_wp2_with fail
   refine HRC.out.mono ?_
   rintro e w2 ⟨rfl, hb2⟩
   have hal := (Below.refl w2.heap.size w2).alloc (Nat.le_refl _) (.cells #[.int .i64 (catF (qs.map (·.1))).1, .int .i64 (catF (qs.map (·.1))).2] 30)
   have hb2a := hb2.trans (hal.mono hb2.size)
   have HB2 := hide (HB.out.trans (hb2a.mono HB.out.size))
   have HP2 := hide (HP.out.below hb2a)
   have HR2 := hide (HR.out.below hb2a)
   have HKF := hide (Blk.new w2 30 #[.int .i64 (catF (qs.map (·.1))).1, .int .i64 (catF (qs.map (·.1))).2])
   have HNW := hide (catNew_any (.slice Ap n cp) qs (w2.alloc (.cells #[.int .i64 (catF (qs.map (·.1))).1, .int .i64 (catF (qs.map (·.1))).2] 30)) HP2.out)
   clear hb2 hal hb2a HRC HP HR HB
   go_wp2_with fail
   generalize World.alloc _ (.cells #[.int .i64 (catF (qs.map (·.1))).1, .int .i64 (catF (qs.map (·.1))).2] 30) = wB at HB2 HP2 HR2 HKF HNW ⊢
   generalize w2.heap.size = bf at HKF ⊢
   refine HNW.out.mono ?_
   rintro e w3 (⟨f, u, hcr, hf0, rfl, her, hb3⟩ | ⟨its0, g, hcr, rfl, hco, hb3⟩)
   ·have hcf : catF (qs.map (·.1)) = f := by unfold catF; rw [hcr]
    rw [hcf] at HKF
    rw [hcf]
    have hne2 : (f.1 == 0) = false := by simpa using hf0
    have hne : (f.1 != 0) = true := by unfold bne; rw [hne2]; rfl
    have HB3 := hide (HB2.out.trans (hb3.mono HB2.out.size))
    have HK3 := hide (HKF.out.below hb3 HKF.out.lt)
    have HAT := hide (at_anyE u f f w3 (HG.out.below HB3.out).e her)
    rw [atB_self] at HAT
    unfold faultV at HAT
    have c0 := HK3.out.cell 0
    have c1 := HK3.out.cell 1
    clear hcr hf0 her hb3 hcf HNW HP2 HR2 HB2 HKF
    go_wp2_with fail
    refine HAT.out.mono ?_
    rintro e w4 ⟨rfl, hb4⟩
    have HB4 := hide (HB3.out.trans (hb4.mono HB3.out.size))
    clear hb4 HAT c0 c1
    go_wp2_with fail
    go_ret
    exact ⟨rfl, HB4.out⟩
   ·have hcf : catF (qs.map (·.1)) = (0, -1) := by unfold catF; rw [hcr]
    rw [hcf] at HKF
    rw [hcf]
    obtain ⟨h24, hnd⟩ := catR_few hcr
    have hk1 := kindsM_of hcr
    have hk2 := kindsM_of (qs := qs') (its := its0) (by rw [← HM.out]; exact hcr)
    have HB3 := hide (HB2.out.trans (hb3.mono HB2.out.size))
    have HP3 := hide (HP2.out.below hb3)
    have HR3 := hide (HR2.out.below hb3)
    have HC3 := hide hco
    have f0 := (HKF.out.below hb3 HKF.out.lt).cell 0
    have HIT := hide (refItems_any (.slice Ar n cr) qs' w3 HR3.out (by omega))
    rw [← HM.out] at HIT
    unfold ItsP at HIT
    have HCI := hide (fun W (h : CatO W wB.heap.size g qs) => catItems_any g wB.heap.size qs W h (by omega))
    have HCL := hide (fun W (h : CatO W wB.heap.size g qs) => catLines_any g wB.heap.size qs W h (by omega))
    have HCT := hide (fun W (hb : Below w.heap.size w W) (h : CatO W wB.heap.size g qs) => catText_any g wB.heap.size qs W (HG.out.below hb) h hk1.1 hk1.2)
    have HRT := hide (fun W (hb : Below w.heap.size w W) (h : LnsR W 0 (.slice Ar n cr) qs') => refCatText_any (.slice Ar n cr) qs' W (HG.out.below hb) (HK.out.below hb) h hk2.1 hk2.2)
    have HCN := hide (fun W x (h : CatO W wB.heap.size g qs) => catNumM_at g wB.heap.size qs x W h (by omega))
    have HCA := hide (fun W nm rv rg (h : CatO W wB.heap.size g qs) (hr : OwnP W 0 rv rg) (hrl : rg.length ≤ 1000000000) => catAm_any g wB.heap.size qs nm rv rg W h hr hrl (by omega))
    have hn100 : n ≤ 100 := by rw [← HLN.out]; exact hk1.1
    rw [← HM.out] at HRT
    unfold CloneK at HCI
    unfold CatLinesP at HCL
    unfold CatTxP at HCT HRT
    unfold PosP at HCN
    unfold AmP at HCA
    generalize catTx (qs.map (·.1)) = s at HCT HRT
    have hss : (s.toList == s.toList) = true := beq_self_eq_true _
    obtain ⟨its, HITS⟩ : ∃ its, Hid (itemsF (qs.map (·.1)) = its) := ⟨_, Lib.hid rfl⟩
    rw [HITS.out] at HIT HCI HCN HCA h24 hnd
    clear hcf hcr hco hb3 HNW HB2 HP2 HR2 HKF hk1 hk2
    go_wp2_with fail
    refine HIT.out.mono ?_
    rintro e w4 ⟨vI, rfl, hoI, hb4⟩
    have HB4 := hide (HB3.out.trans (hb4.mono HB3.out.size))
    have HP4 := hide (HP3.out.below hb4)
    have HR4 := hide (HR3.out.below hb4)
    have HC4 := hide (HC3.out.below hb4)
    have HI4 := hide (OwnK.mono hoI (Nat.zero_le _))
    have HJ4 := hide (HCI.out w4 HC4.out)
    obtain ⟨AI, cI, rfl, _⟩ := hoI.len
    clear hoI hb4 HIT HCI HB3 HP3 HR3 HC3 f0
    go_wp2_with fail
    refine HJ4.out.mono ?_
    rintro e w5 ⟨vJ, rfl, hoJ, hb5⟩
    obtain ⟨AJ, cJ, rfl, _⟩ := hoJ.len
    have HM5 := hide (show MkI w g wB.heap.size qs qs' its (.slice Ap n cp) (.slice Ar n cr) (.slice AI its.length cI) (.slice AJ its.length cJ) w5 from
     ⟨HB4.out.trans (hb5.mono HB4.out.size), HC4.out.below hb5, HP4.out.below hb5, HR4.out.below hb5, HI4.out.below hb5, OwnK.mono hoJ (Nat.zero_le _)⟩)
    have HL5 := hide (HCL.out w5 HM5.out.co)
    clear hoJ hb5 HJ4 HCL HB4 HP4 HR4 HC4 HI4
    have hl1 : ((its.length : Int) == (its.length : Int)) = true := beq_self_eq_true _
    go_wp2_with fail
    refine HL5.out.mono ?_
    rintro e w6 ⟨vL, rfl, hL, hb6⟩
    have HM6 := hide (HM5.out.below hb6)
    have HT6 := hide (HCT.out w6 HM6.out.bel HM6.out.co)
    obtain ⟨AL, cL, rfl, _⟩ := hL.1.len
    have hl2 : qs.length = n := HLN.out
    have hl3 : ((n : Int) == (n : Int)) = true := beq_self_eq_true _
    clear hL hb6 HL5 HCT HM5
    go_wp2_with fail
    refine HT6.out.mono ?_
    rintro e w7 ⟨rfl, hb7⟩
    have HM7 := hide (HM6.out.below hb7)
    have HT7 := hide (HRT.out w7 HM7.out.bel HM7.out.lr)
    clear hb7 HT6 HRT HM6
    go_wp2_with fail
    refine HT7.out.mono ?_
    rintro e w8 ⟨rfl, hb8⟩
    have HM8 := hide (HM7.out.below hb8)
    clear hb8 HT7 HM7 hl1 hl2 hl3 hss
    go_wp2_with fail
    go_loopw [11] (fun iv wr => ∃ i : Nat, i ≤ its.length ∧ iv = .int .i64 i ∧ Hid (MkI w g wB.heap.size qs qs' its (.slice Ap n cp) (.slice Ar n cr) (.slice AI its.length cI) (.slice AJ its.length cJ) wr)) (fun iv _ => its.length - (intOf iv).toNat)
    case atStart => exact ⟨0, Nat.zero_le _, rfl, HM8⟩
    case round =>
     clear HM8
     obtain ⟨i, hi, rfl, HMI⟩ := hrel
     by_cases hlt : i < its.length
     ·have hltz : (i : Int) < (its.length : Int) := by omega
      obtain ⟨gI, hA, hrow⟩ := OwnK.rowAt HMI.out.oI hlt
      subst hA
      obtain ⟨gJ, hA, hrowJ⟩ := OwnK.rowAt HMI.out.oJ hlt
      subst hA
      obtain ⟨y0, y1, y2, y3⟩ := row4 rfl rfl hrow hlt
      obtain ⟨j0, j1, j2, j3⟩ := row4 rfl rfl hrowJ hlt
      have hpos := posN_at hnd hlt
      generalize its[i] = x at y0 y1 y2 y3 j0 j1 j2 j3 hpos
      obtain ⟨xn, xa, xb, xc⟩ := x
      simp only [] at y0 y1 y2 y3 j0 j1 j2 j3
      have hal := (Below.refl wr.heap.size wr).alloc (Nat.le_refl _) (.cells #[.int .i64 xa, .int .i64 xb, .int .i64 xc] 33)
      have HMA := hide (HMI.out.below hal)
      have HKV := hide (Blk.new wr 33 #[.int .i64 xa, .int .i64 xb, .int .i64 xc])
      have HY := hide (show (wr.alloc (.cells #[.int .i64 xa, .int .i64 xb, .int .i64 xc] 33)).cell? ⟨gI, i * 4, none⟩ = some (.string xn) ∧ (wr.alloc (.cells #[.int .i64 xa, .int .i64 xb, .int .i64 xc] 33)).cell? ⟨gJ, i * 4, none⟩ = some (.string xn) ∧ (wr.alloc (.cells #[.int .i64 xa, .int .i64 xb, .int .i64 xc] 33)).cell? ⟨gJ, i * 4 + 1, none⟩ = some (.int .i64 xa) ∧ (wr.alloc (.cells #[.int .i64 xa, .int .i64 xb, .int .i64 xc] 33)).cell? ⟨gJ, i * 4 + 2, none⟩ = some (.int .i64 xb) ∧ (wr.alloc (.cells #[.int .i64 xa, .int .i64 xb, .int .i64 xc] 33)).cell? ⟨gJ, i * 4 + 3, none⟩ = some (.int .i64 xc) from
       ⟨(hal.cell (lt_of_cell y0)).trans y0, (hal.cell (lt_of_cell j0)).trans j0, (hal.cell (lt_of_cell j1)).trans j1, (hal.cell (lt_of_cell j2)).trans j2, (hal.cell (lt_of_cell j3)).trans j3⟩)
      clear hal hrow hrowJ j0 j1 j2 j3 HMI
      go_upto_region 16 with fail
      generalize World.alloc _ (.cells #[.int .i64 xa, .int .i64 xb, .int .i64 xc] 33) = wD at HMA HKV HY ⊢
      generalize wr.heap.size = bv at HKV ⊢
      clear y0 y1 y2 y3
      obtain ⟨z0, z1, z2, z3, z4⟩ := HY.out
      have a0 := fun c : Calm wD => (c.cell (lt_of_cell z0)).trans z0
      have a1 := fun c : Calm wD => (c.cell (lt_of_cell z1)).trans z1
      have a2 := fun c : Calm wD => (c.cell (lt_of_cell z2)).trans z2
      have a3 := fun c : Calm wD => (c.cell (lt_of_cell z3)).trans z3
      have a4 := fun c : Calm wD => (c.cell (lt_of_cell z4)).trans z4
      have v0 := fun c : Calm wD => (c.cell (i := 0) HKV.out.lt).trans (HKV.out.cell 0)
      have v1 := fun c : Calm wD => (c.cell (i := 1) HKV.out.lt).trans (HKV.out.cell 1)
      have v2 := fun c : Calm wD => (c.cell (i := 2) HKV.out.lt).trans (HKV.out.cell 2)
      have HNC := hide (fun c : Calm wD => HCN.out c.val (xn, xa, xb, xc) (HMA.out.below c.bel).co)
      rw [hpos] at HNC
      simp only [] at HNC
      have hne : (xn.toList == xn.toList) = true := beq_self_eq_true _
      have hnv := neqVerM xa xb xc
      have hii : ((i : Int) == (i : Int)) = true := beq_self_eq_true _
      have HPOS := Lib.hid hpos
      clear hpos z0 z1 z2 z3 z4 HY
      refine wp_region_calm (by kernel_rfl) (by kernel_rfl) ?_
      repeat (go_big_quiet_step (fail))
      go_big_quiet_want
      go_big_quiet_op
      go_big_quiet_call ((go_at_call 32; refine (HNC.out _).mono ?_; rintro e w2 ⟨rfl, hb0⟩; exact ⟨rfl, Calm.on _ hb0⟩))
      repeat (go_big_quiet_step (fail))
      refine wpQuiet_nil ?_
      rintro _ ⟨cw, rfl⟩
      have HMN := hide (HMA.out.below cw.bel)
      clear a0 a1 a2 a3 a4 v0 v1 v2 HNC
      go_wp2_with fail
      go_round
      case rel => exact ⟨i + 1, by omega, by go_num, HMN⟩
      case measure => simp [intOf]; omega
     ·have hltz : ¬ (i : Int) < (its.length : Int) := by omega
      go_wp2_with fail
      go_loopw [13] (fun iv wr => ∃ i : Nat, i ≤ n ∧ iv = .int .i64 i ∧ Hid (MkI w g wB.heap.size qs qs' its (.slice Ap n cp) (.slice Ar n cr) (.slice AI its.length cI) (.slice AJ its.length cJ) wr)) (fun iv _ => n - (intOf iv).toNat)
      case atStart => exact ⟨0, Nat.zero_le _, rfl, HMI⟩
      case round =>
       clear HMI hltz hi hlt
       obtain ⟨i, hi, rfl, HMI⟩ := hrel
       by_cases hlt : i < n
       ·have hltz : (i : Int) < (n : Int) := by omega
        have hi0 : (0 : Int) ≤ (i : Int) := by omega
        have hlp : i < qs.length := by rw [HLN.out]; exact hlt
        have hlr : i < qs'.length := by rw [HLN'.out]; exact hlt
        obtain ⟨gP, hA, hrowP⟩ := OwnK.rowAt HMI.out.lp.1 hlp
        subst hA
        obtain ⟨gR, hA, hrowR⟩ := OwnK.rowAt HMI.out.lr.1 hlr
        subst hA
        obtain ⟨-, y1, -, -, -, y5, y6⟩ := row7 rfl rfl hrowP hlp
        obtain ⟨-, z1, -, -, -, z5, z6⟩ := row7 rfl rfl hrowR hlr
        obtain ⟨hop, hokp⟩ := HMI.out.lp.2 _ (List.getElem_mem hlp)
        obtain ⟨hor, -⟩ := HMI.out.lr.2 _ (List.getElem_mem hlr)
        have hxx : qs'[i].1 = qs[i].1 := by
         have h9 := congrArg (fun l => l[i]?) HM.out
         simp only [List.getElem?_map, List.getElem?_eq_getElem hlp, List.getElem?_eq_getElem hlr, Option.map_some] at h9
         exact (Option.some.inj h9).symm
        rw [hxx] at z1 z5 hor
        generalize qs[i] = q1 at y1 y5 y6 z1 z5 hop hokp hor
        generalize qs'[i] = q2 at z6 hor
        obtain ⟨x, Aq, nq, cq⟩ := q1
        obtain ⟨x', A', n', c'⟩ := q2
        simp only [slQ] at y1 y5 y6 z1 z5 z6 hop hokp hor
        have HCAN := Lib.hid hokp.can
        have HLEN := Lib.hid hokp.len
        have hza := amF_len x.name x.rg its 0
        have hzb := amF_len x.other x.rg its 0
        have HMJ := hide (show MkJ w g wB.heap.size qs qs' its (.slice (some ⟨gP, 0, none⟩) n cp) (.slice (some ⟨gR, 0, none⟩) n cr) (.slice AI its.length cI) (.slice AJ its.length cJ) gP gR i x Aq nq cq A' n' c' wr from ⟨HMI.out, y1, y5, y6, z1, z5, z6, hop, hor⟩)
        clear hrowP hrowR y1 y5 y6 z1 z5 z6 hop hokp hor hxx hlp hlr
        go_wp2_with fail
        refine wp_region_stable (w0 := wr) (R := mkR its x #[.inl (.pointer (some ⟨g, 0, none⟩)), .inl (.slice (some ⟨gP, 0, none⟩) n cp), .inl (.int .i64 (i : Int)), .inl (.pointer (some ⟨gP, i * 7, none⟩)), .inl (.pointer (some ⟨gP, i * 7 + 1, none⟩)), .inl (.string x.name), .inl (.slice (some ⟨gP, 0, none⟩) n cp), .inl (.int .i64 (i : Int)), .inl (.pointer (some ⟨gP, i * 7, none⟩)), .inl (.pointer (some ⟨gP, i * 7 + 6, none⟩)), .inl (.agg #[.slice Aq nq cq]), .inr true, .inl (.slice AI its.length cI), .inl (.slice (some ⟨gR, 0, none⟩) n cr), .inl (.int .i64 (i : Int)), .inl (.pointer (some ⟨gR, i * 7, none⟩)), .inl (.pointer (some ⟨gR, i * 7 + 1, none⟩)), .inl (.string x.name), .inl (.slice (some ⟨gR, 0, none⟩) n cr), .inl (.int .i64 (i : Int)), .inl (.pointer (some ⟨gR, i * 7, none⟩)), .inl (.pointer (some ⟨gR, i * 7 + 6, none⟩)), .inl (.slice A' n' c'), .inr true, .inl (.bool true), .inl (.bool false), .inl (.bool false), .inl (.pointer (some ⟨g, 0, none⟩)), .inl (.slice (some ⟨gP, 0, none⟩) n cp), .inl (.int .i64 (i : Int)), .inl (.pointer (some ⟨gP, i * 7, none⟩)), .inl (.pointer (some ⟨gP, i * 7 + 5, none⟩)), .inl (.string x.other), .inl (.slice (some ⟨gP, 0, none⟩) n cp), .inl (.int .i64 (i : Int)), .inl (.pointer (some ⟨gP, i * 7, none⟩)), .inl (.pointer (some ⟨gP, i * 7 + 6, none⟩)), .inl (.agg #[.slice Aq nq cq]), .inr false, .inl (.slice AI its.length cI), .inl (.slice (some ⟨gR, 0, none⟩) n cr), .inl (.int .i64 (i : Int)), .inl (.pointer (some ⟨gR, i * 7, none⟩)), .inl (.pointer (some ⟨gR, i * 7 + 5, none⟩)), .inl (.string x.other), .inl (.slice (some ⟨gR, 0, none⟩) n cr), .inl (.int .i64 (i : Int)), .inl (.pointer (some ⟨gR, i * 7, none⟩)), .inl (.pointer (some ⟨gR, i * 7 + 6, none⟩)), .inl (.slice A' n' c'), .inr false, .inl (.bool true), .inl (.bool false), .inl (.bool false)]) 177 (by kernel_rfl) rfl (mkR_below _ _ _) (by kernel_rfl) (by kernel_rfl) (by kernel_rfl) ?step ?fin
        case fin =>
         intro listed a ww hall hI
         obtain ⟨q169, r169, s169⟩ := hI.new 53 _ 169 rfl rfl (hall 53 (by decide))
         obtain rfl : q169 = .bool false := s169
         have HMN := hide (HMI.out.below hI.bel)
         have hsz : a.tmps.size = 177 := hI.size
         have hdf : a.defers = [] := hI.defers
         have r0 := hI.was (k := 0) (v := _) (by kernel_rfl) rfl
         have r1 := hI.was (k := 1) (v := _) (by kernel_rfl) rfl
         have r2 := hI.was (k := 2) (v := _) (by kernel_rfl) rfl
         have r3 := hI.was (k := 3) (v := _) (by kernel_rfl) rfl
         have r4 := hI.was (k := 4) (v := _) (by kernel_rfl) rfl
         have r5 := hI.was (k := 5) (v := _) (by kernel_rfl) rfl
         have r6 := hI.was (k := 6) (v := _) (by kernel_rfl) rfl
         have r7 := hI.was (k := 7) (v := _) (by kernel_rfl) rfl
         have r8 := hI.was (k := 8) (v := _) (by kernel_rfl) rfl
         have r9 := hI.was (k := 9) (v := _) (by kernel_rfl) rfl
         have r10 := hI.was (k := 10) (v := _) (by kernel_rfl) rfl
         have r11 := hI.was (k := 11) (v := _) (by kernel_rfl) rfl
         have r12 := hI.was (k := 12) (v := _) (by kernel_rfl) rfl
         have r13 := hI.was (k := 13) (v := _) (by kernel_rfl) rfl
         have r14 := hI.was (k := 14) (v := _) (by kernel_rfl) rfl
         have r15 := hI.was (k := 15) (v := _) (by kernel_rfl) rfl
         have r16 := hI.was (k := 16) (v := _) (by kernel_rfl) rfl
         have r17 := hI.was (k := 17) (v := _) (by kernel_rfl) rfl
         have r18 := hI.was (k := 18) (v := _) (by kernel_rfl) rfl
         have r19 := hI.was (k := 19) (v := _) (by kernel_rfl) rfl
         have r20 := hI.was (k := 20) (v := _) (by kernel_rfl) rfl
         have r21 := hI.was (k := 21) (v := _) (by kernel_rfl) rfl
         have r22 := hI.was (k := 22) (v := _) (by kernel_rfl) rfl
         have r23 := hI.was (k := 23) (v := _) (by kernel_rfl) rfl
         have r24 := hI.was (k := 24) (v := _) (by kernel_rfl) rfl
         have r25 := hI.was (k := 25) (v := _) (by kernel_rfl) rfl
         have r26 := hI.was (k := 26) (v := _) (by kernel_rfl) rfl
         have r27 := hI.was (k := 27) (v := _) (by kernel_rfl) rfl
         have r28 := hI.was (k := 28) (v := _) (by kernel_rfl) rfl
         have r29 := hI.was (k := 29) (v := _) (by kernel_rfl) rfl
         have r30 := hI.was (k := 30) (v := _) (by kernel_rfl) rfl
         have r31 := hI.was (k := 31) (v := _) (by kernel_rfl) rfl
         have r32 := hI.was (k := 32) (v := _) (by kernel_rfl) rfl
         have r33 := hI.was (k := 33) (v := _) (by kernel_rfl) rfl
         have r34 := hI.was (k := 34) (v := _) (by kernel_rfl) rfl
         have r35 := hI.was (k := 35) (v := _) (by kernel_rfl) rfl
         have r36 := hI.was (k := 36) (v := _) (by kernel_rfl) rfl
         have r37 := hI.was (k := 37) (v := _) (by kernel_rfl) rfl
         have r38 := hI.was (k := 38) (v := _) (by kernel_rfl) rfl
         have r39 := hI.was (k := 39) (v := _) (by kernel_rfl) rfl
         have r40 := hI.was (k := 40) (v := _) (by kernel_rfl) rfl
         have r41 := hI.was (k := 41) (v := _) (by kernel_rfl) rfl
         have r42 := hI.was (k := 42) (v := _) (by kernel_rfl) rfl
         have r43 := hI.was (k := 43) (v := _) (by kernel_rfl) rfl
         have r44 := hI.was (k := 44) (v := _) (by kernel_rfl) rfl
         have r45 := hI.was (k := 45) (v := _) (by kernel_rfl) rfl
         have r46 := hI.was (k := 46) (v := _) (by kernel_rfl) rfl
         have r47 := hI.was (k := 47) (v := _) (by kernel_rfl) rfl
         have r48 := hI.was (k := 48) (v := _) (by kernel_rfl) rfl
         have r49 := hI.was (k := 49) (v := _) (by kernel_rfl) rfl
         have r50 := hI.was (k := 50) (v := _) (by kernel_rfl) rfl
         have r51 := hI.was (k := 51) (v := _) (by kernel_rfl) rfl
         have r52 := hI.was (k := 52) (v := _) (by kernel_rfl) rfl
         have r53 := hI.was (k := 53) (v := _) (by kernel_rfl) rfl
         have r54 := hI.was (k := 54) (v := _) (by kernel_rfl) rfl
         have r55 := hI.was (k := 55) (v := _) (by kernel_rfl) rfl
         have r56 := hI.was (k := 56) (v := _) (by kernel_rfl) rfl
         have r57 := hI.was (k := 57) (v := _) (by kernel_rfl) rfl
         have r58 := hI.was (k := 58) (v := _) (by kernel_rfl) rfl
         have r59 := hI.was (k := 59) (v := _) (by kernel_rfl) rfl
         have r60 := hI.was (k := 60) (v := _) (by kernel_rfl) rfl
         have r61 := hI.was (k := 61) (v := _) (by kernel_rfl) rfl
         have r62 := hI.was (k := 62) (v := _) (by kernel_rfl) rfl
         have r63 := hI.was (k := 63) (v := _) (by kernel_rfl) rfl
         have r64 := hI.was (k := 64) (v := _) (by kernel_rfl) rfl
         have r65 := hI.was (k := 65) (v := _) (by kernel_rfl) rfl
         have r66 := hI.was (k := 66) (v := _) (by kernel_rfl) rfl
         have r67 := hI.was (k := 67) (v := _) (by kernel_rfl) rfl
         have r68 := hI.was (k := 68) (v := _) (by kernel_rfl) rfl
         have r69 := hI.was (k := 69) (v := _) (by kernel_rfl) rfl
         have r70 := hI.was (k := 70) (v := _) (by kernel_rfl) rfl
         have r71 := hI.was (k := 71) (v := _) (by kernel_rfl) rfl
         have r72 := hI.was (k := 72) (v := _) (by kernel_rfl) rfl
         have r73 := hI.was (k := 73) (v := _) (by kernel_rfl) rfl
         have r74 := hI.was (k := 74) (v := _) (by kernel_rfl) rfl
         have r75 := hI.was (k := 75) (v := _) (by kernel_rfl) rfl
         have r76 := hI.was (k := 76) (v := _) (by kernel_rfl) rfl
         have r77 := hI.was (k := 77) (v := _) (by kernel_rfl) rfl
         have r78 := hI.was (k := 78) (v := _) (by kernel_rfl) rfl
         have r79 := hI.was (k := 79) (v := _) (by kernel_rfl) rfl
         have r80 := hI.was (k := 80) (v := _) (by kernel_rfl) rfl
         have r81 := hI.was (k := 81) (v := _) (by kernel_rfl) rfl
         have r82 := hI.was (k := 82) (v := _) (by kernel_rfl) rfl
         have r83 := hI.was (k := 83) (v := _) (by kernel_rfl) rfl
         have r84 := hI.was (k := 84) (v := _) (by kernel_rfl) rfl
         have r85 := hI.was (k := 85) (v := _) (by kernel_rfl) rfl
         have r86 := hI.was (k := 86) (v := _) (by kernel_rfl) rfl
         have r87 := hI.was (k := 87) (v := _) (by kernel_rfl) rfl
         have r88 := hI.was (k := 88) (v := _) (by kernel_rfl) rfl
         have r89 := hI.was (k := 89) (v := _) (by kernel_rfl) rfl
         have r90 := hI.was (k := 90) (v := _) (by kernel_rfl) rfl
         have r91 := hI.was (k := 91) (v := _) (by kernel_rfl) rfl
         have r92 := hI.was (k := 92) (v := _) (by kernel_rfl) rfl
         have r93 := hI.was (k := 93) (v := _) (by kernel_rfl) rfl
         have r94 := hI.was (k := 94) (v := _) (by kernel_rfl) rfl
         have r95 := hI.was (k := 95) (v := _) (by kernel_rfl) rfl
         have r96 := hI.was (k := 96) (v := _) (by kernel_rfl) rfl
         have r97 := hI.was (k := 97) (v := _) (by kernel_rfl) rfl
         have r98 := hI.was (k := 98) (v := _) (by kernel_rfl) rfl
         have r99 := hI.was (k := 99) (v := _) (by kernel_rfl) rfl
         have r100 := hI.was (k := 100) (v := _) (by kernel_rfl) rfl
         have r101 := hI.was (k := 101) (v := _) (by kernel_rfl) rfl
         have r102 := hI.was (k := 102) (v := _) (by kernel_rfl) rfl
         have r103 := hI.was (k := 103) (v := _) (by kernel_rfl) rfl
         have r104 := hI.was (k := 104) (v := _) (by kernel_rfl) rfl
         have r105 := hI.was (k := 105) (v := _) (by kernel_rfl) rfl
         have r106 := hI.was (k := 106) (v := _) (by kernel_rfl) rfl
         have r107 := hI.was (k := 107) (v := _) (by kernel_rfl) rfl
         have r108 := hI.was (k := 108) (v := _) (by kernel_rfl) rfl
         have r109 := hI.was (k := 109) (v := _) (by kernel_rfl) rfl
         have r110 := hI.was (k := 110) (v := _) (by kernel_rfl) rfl
         have r111 := hI.was (k := 111) (v := _) (by kernel_rfl) rfl
         have r112 := hI.was (k := 112) (v := _) (by kernel_rfl) rfl
         have r113 := hI.was (k := 113) (v := _) (by kernel_rfl) rfl
         have r114 := hI.was (k := 114) (v := _) (by kernel_rfl) rfl
         have r115 := hI.was (k := 115) (v := _) (by kernel_rfl) rfl
         have r170 := hI.was (k := 170) (v := _) (by kernel_rfl) rfl
         have r171 := hI.was (k := 171) (v := _) (by kernel_rfl) rfl
         have r172 := hI.was (k := 172) (v := _) (by kernel_rfl) rfl
         have r173 := hI.was (k := 173) (v := _) (by kernel_rfl) rfl
         have r174 := hI.was (k := 174) (v := _) (by kernel_rfl) rfl
         have r175 := hI.was (k := 175) (v := _) (by kernel_rfl) rfl
         have r176 := hI.was (k := 176) (v := _) (by kernel_rfl) rfl
         obtain ⟨tm, df⟩ := a
         obtain ⟨xs, hxs⟩ := arrX tm 177 hsz
         have hxs2 : tm = List.toArray (xs 0 :: xs 1 :: xs 2 :: xs 3 :: xs 4 :: xs 5 :: xs 6 :: xs 7 :: xs 8 :: xs 9 :: xs 10 :: xs 11 :: xs 12 :: xs 13 :: xs 14 :: xs 15 :: xs 16 :: xs 17 :: xs 18 :: xs 19 :: xs 20 :: xs 21 :: xs 22 :: xs 23 :: xs 24 :: xs 25 :: xs 26 :: xs 27 :: xs 28 :: xs 29 :: xs 30 :: xs 31 :: xs 32 :: xs 33 :: xs 34 :: xs 35 :: xs 36 :: xs 37 :: xs 38 :: xs 39 :: xs 40 :: xs 41 :: xs 42 :: xs 43 :: xs 44 :: xs 45 :: xs 46 :: xs 47 :: xs 48 :: xs 49 :: xs 50 :: xs 51 :: xs 52 :: xs 53 :: xs 54 :: xs 55 :: xs 56 :: xs 57 :: xs 58 :: xs 59 :: xs 60 :: xs 61 :: xs 62 :: xs 63 :: xs 64 :: xs 65 :: xs 66 :: xs 67 :: xs 68 :: xs 69 :: xs 70 :: xs 71 :: xs 72 :: xs 73 :: xs 74 :: xs 75 :: xs 76 :: xs 77 :: xs 78 :: xs 79 :: xs 80 :: xs 81 :: xs 82 :: xs 83 :: xs 84 :: xs 85 :: xs 86 :: xs 87 :: xs 88 :: xs 89 :: xs 90 :: xs 91 :: xs 92 :: xs 93 :: xs 94 :: xs 95 :: xs 96 :: xs 97 :: xs 98 :: xs 99 :: xs 100 :: xs 101 :: xs 102 :: xs 103 :: xs 104 :: xs 105 :: xs 106 :: xs 107 :: xs 108 :: xs 109 :: xs 110 :: xs 111 :: xs 112 :: xs 113 :: xs 114 :: xs 115 :: xs 116 :: xs 117 :: xs 118 :: xs 119 :: xs 120 :: xs 121 :: xs 122 :: xs 123 :: xs 124 :: xs 125 :: xs 126 :: xs 127 :: xs 128 :: xs 129 :: xs 130 :: xs 131 :: xs 132 :: xs 133 :: xs 134 :: xs 135 :: xs 136 :: xs 137 :: xs 138 :: xs 139 :: xs 140 :: xs 141 :: xs 142 :: xs 143 :: xs 144 :: xs 145 :: xs 146 :: xs 147 :: xs 148 :: xs 149 :: xs 150 :: xs 151 :: xs 152 :: xs 153 :: xs 154 :: xs 155 :: xs 156 :: xs 157 :: xs 158 :: xs 159 :: xs 160 :: xs 161 :: xs 162 :: xs 163 :: xs 164 :: xs 165 :: xs 166 :: xs 167 :: xs 168 :: xs 169 :: xs 170 :: xs 171 :: xs 172 :: xs 173 :: xs 174 :: xs 175 :: xs 176 :: []) := hxs
         have hdf : df = [] := hdf
         subst hxs2 hdf
         have x0 : xs 0 = _ := Option.some.inj r0
         have x1 : xs 1 = _ := Option.some.inj r1
         have x2 : xs 2 = _ := Option.some.inj r2
         have x3 : xs 3 = _ := Option.some.inj r3
         have x4 : xs 4 = _ := Option.some.inj r4
         have x5 : xs 5 = _ := Option.some.inj r5
         have x6 : xs 6 = _ := Option.some.inj r6
         have x7 : xs 7 = _ := Option.some.inj r7
         have x8 : xs 8 = _ := Option.some.inj r8
         have x9 : xs 9 = _ := Option.some.inj r9
         have x10 : xs 10 = _ := Option.some.inj r10
         have x11 : xs 11 = _ := Option.some.inj r11
         have x12 : xs 12 = _ := Option.some.inj r12
         have x13 : xs 13 = _ := Option.some.inj r13
         have x14 : xs 14 = _ := Option.some.inj r14
         have x15 : xs 15 = _ := Option.some.inj r15
         have x16 : xs 16 = _ := Option.some.inj r16
         have x17 : xs 17 = _ := Option.some.inj r17
         have x18 : xs 18 = _ := Option.some.inj r18
         have x19 : xs 19 = _ := Option.some.inj r19
         have x20 : xs 20 = _ := Option.some.inj r20
         have x21 : xs 21 = _ := Option.some.inj r21
         have x22 : xs 22 = _ := Option.some.inj r22
         have x23 : xs 23 = _ := Option.some.inj r23
         have x24 : xs 24 = _ := Option.some.inj r24
         have x25 : xs 25 = _ := Option.some.inj r25
         have x26 : xs 26 = _ := Option.some.inj r26
         have x27 : xs 27 = _ := Option.some.inj r27
         have x28 : xs 28 = _ := Option.some.inj r28
         have x29 : xs 29 = _ := Option.some.inj r29
         have x30 : xs 30 = _ := Option.some.inj r30
         have x31 : xs 31 = _ := Option.some.inj r31
         have x32 : xs 32 = _ := Option.some.inj r32
         have x33 : xs 33 = _ := Option.some.inj r33
         have x34 : xs 34 = _ := Option.some.inj r34
         have x35 : xs 35 = _ := Option.some.inj r35
         have x36 : xs 36 = _ := Option.some.inj r36
         have x37 : xs 37 = _ := Option.some.inj r37
         have x38 : xs 38 = _ := Option.some.inj r38
         have x39 : xs 39 = _ := Option.some.inj r39
         have x40 : xs 40 = _ := Option.some.inj r40
         have x41 : xs 41 = _ := Option.some.inj r41
         have x42 : xs 42 = _ := Option.some.inj r42
         have x43 : xs 43 = _ := Option.some.inj r43
         have x44 : xs 44 = _ := Option.some.inj r44
         have x45 : xs 45 = _ := Option.some.inj r45
         have x46 : xs 46 = _ := Option.some.inj r46
         have x47 : xs 47 = _ := Option.some.inj r47
         have x48 : xs 48 = _ := Option.some.inj r48
         have x49 : xs 49 = _ := Option.some.inj r49
         have x50 : xs 50 = _ := Option.some.inj r50
         have x51 : xs 51 = _ := Option.some.inj r51
         have x52 : xs 52 = _ := Option.some.inj r52
         have x53 : xs 53 = _ := Option.some.inj r53
         have x54 : xs 54 = _ := Option.some.inj r54
         have x55 : xs 55 = _ := Option.some.inj r55
         have x56 : xs 56 = _ := Option.some.inj r56
         have x57 : xs 57 = _ := Option.some.inj r57
         have x58 : xs 58 = _ := Option.some.inj r58
         have x59 : xs 59 = _ := Option.some.inj r59
         have x60 : xs 60 = _ := Option.some.inj r60
         have x61 : xs 61 = _ := Option.some.inj r61
         have x62 : xs 62 = _ := Option.some.inj r62
         have x63 : xs 63 = _ := Option.some.inj r63
         have x64 : xs 64 = _ := Option.some.inj r64
         have x65 : xs 65 = _ := Option.some.inj r65
         have x66 : xs 66 = _ := Option.some.inj r66
         have x67 : xs 67 = _ := Option.some.inj r67
         have x68 : xs 68 = _ := Option.some.inj r68
         have x69 : xs 69 = _ := Option.some.inj r69
         have x70 : xs 70 = _ := Option.some.inj r70
         have x71 : xs 71 = _ := Option.some.inj r71
         have x72 : xs 72 = _ := Option.some.inj r72
         have x73 : xs 73 = _ := Option.some.inj r73
         have x74 : xs 74 = _ := Option.some.inj r74
         have x75 : xs 75 = _ := Option.some.inj r75
         have x76 : xs 76 = _ := Option.some.inj r76
         have x77 : xs 77 = _ := Option.some.inj r77
         have x78 : xs 78 = _ := Option.some.inj r78
         have x79 : xs 79 = _ := Option.some.inj r79
         have x80 : xs 80 = _ := Option.some.inj r80
         have x81 : xs 81 = _ := Option.some.inj r81
         have x82 : xs 82 = _ := Option.some.inj r82
         have x83 : xs 83 = _ := Option.some.inj r83
         have x84 : xs 84 = _ := Option.some.inj r84
         have x85 : xs 85 = _ := Option.some.inj r85
         have x86 : xs 86 = _ := Option.some.inj r86
         have x87 : xs 87 = _ := Option.some.inj r87
         have x88 : xs 88 = _ := Option.some.inj r88
         have x89 : xs 89 = _ := Option.some.inj r89
         have x90 : xs 90 = _ := Option.some.inj r90
         have x91 : xs 91 = _ := Option.some.inj r91
         have x92 : xs 92 = _ := Option.some.inj r92
         have x93 : xs 93 = _ := Option.some.inj r93
         have x94 : xs 94 = _ := Option.some.inj r94
         have x95 : xs 95 = _ := Option.some.inj r95
         have x96 : xs 96 = _ := Option.some.inj r96
         have x97 : xs 97 = _ := Option.some.inj r97
         have x98 : xs 98 = _ := Option.some.inj r98
         have x99 : xs 99 = _ := Option.some.inj r99
         have x100 : xs 100 = _ := Option.some.inj r100
         have x101 : xs 101 = _ := Option.some.inj r101
         have x102 : xs 102 = _ := Option.some.inj r102
         have x103 : xs 103 = _ := Option.some.inj r103
         have x104 : xs 104 = _ := Option.some.inj r104
         have x105 : xs 105 = _ := Option.some.inj r105
         have x106 : xs 106 = _ := Option.some.inj r106
         have x107 : xs 107 = _ := Option.some.inj r107
         have x108 : xs 108 = _ := Option.some.inj r108
         have x109 : xs 109 = _ := Option.some.inj r109
         have x110 : xs 110 = _ := Option.some.inj r110
         have x111 : xs 111 = _ := Option.some.inj r111
         have x112 : xs 112 = _ := Option.some.inj r112
         have x113 : xs 113 = _ := Option.some.inj r113
         have x114 : xs 114 = _ := Option.some.inj r114
         have x115 : xs 115 = _ := Option.some.inj r115
         have x170 : xs 170 = _ := Option.some.inj r170
         have x171 : xs 171 = _ := Option.some.inj r171
         have x172 : xs 172 = _ := Option.some.inj r172
         have x173 : xs 173 = _ := Option.some.inj r173
         have x174 : xs 174 = _ := Option.some.inj r174
         have x175 : xs 175 = _ := Option.some.inj r175
         have x176 : xs 176 = _ := Option.some.inj r176
         have x169 : xs 169 = _ := Option.some.inj r169
         rw [x0, x1, x2, x3, x4, x5, x6, x7, x8, x9, x10, x11, x12, x13, x14, x15, x16, x17, x18, x19, x20, x21, x22, x23, x24, x25, x26, x27, x28, x29, x30, x31, x32, x33, x34, x35, x36, x37, x38, x39, x40, x41, x42, x43, x44, x45, x46, x47, x48, x49, x50, x51, x52, x53, x54, x55, x56, x57, x58, x59, x60, x61, x62, x63, x64, x65, x66, x67, x68, x69, x70, x71, x72, x73, x74, x75, x76, x77, x78, x79, x80, x81, x82, x83, x84, x85, x86, x87, x88, x89, x90, x91, x92, x93, x94, x95, x96, x97, x98, x99, x100, x101, x102, x103, x104, x105, x106, x107, x108, x109, x110, x111, x112, x113, x114, x115, x170, x171, x172, x173, x174, x175, x176, x169]
         clear hsz hxs hI hall r0 x0 r1 x1 r2 x2 r3 x3 r4 x4 r5 x5 r6 x6 r7 x7 r8 x8 r9 x9 r10 x10 r11 x11 r12 x12 r13 x13 r14 x14 r15 x15 r16 x16 r17 x17 r18 x18 r19 x19 r20 x20 r21 x21 r22 x22 r23 x23 r24 x24 r25 x25 r26 x26 r27 x27 r28 x28 r29 x29 r30 x30 r31 x31 r32 x32 r33 x33 r34 x34 r35 x35 r36 x36 r37 x37 r38 x38 r39 x39 r40 x40 r41 x41 r42 x42 r43 x43 r44 x44 r45 x45 r46 x46 r47 x47 r48 x48 r49 x49 r50 x50 r51 x51 r52 x52 r53 x53 r54 x54 r55 x55 r56 x56 r57 x57 r58 x58 r59 x59 r60 x60 r61 x61 r62 x62 r63 x63 r64 x64 r65 x65 r66 x66 r67 x67 r68 x68 r69 x69 r70 x70 r71 x71 r72 x72 r73 x73 r74 x74 r75 x75 r76 x76 r77 x77 r78 x78 r79 x79 r80 x80 r81 x81 r82 x82 r83 x83 r84 x84 r85 x85 r86 x86 r87 x87 r88 x88 r89 x89 r90 x90 r91 x91 r92 x92 r93 x93 r94 x94 r95 x95 r96 x96 r97 x97 r98 x98 r99 x99 r100 x100 r101 x101 r102 x102 r103 x103 r104 x104 r105 x105 r106 x106 r107 x107 r108 x108 r109 x109 r110 x110 r111 x111 r112 x112 r113 x113 r114 x114 r115 x115 r170 x170 r171 x171 r172 x172 r173 x173 r174 x174 r175 x175 r176 x176 r169 x169
         go_wp2_with fail
         go_round
         case rel => exact ⟨i + 1, by omega, by omega⟩
         case measure => simp [intOf]; omega
        case step =>
         intro i9 o listed a ww ho hr hI
         have hM := HMJ.out.below hI.bel
         have ho2 := ho
         have hlt9 : i9 < 54 := (Array.getElem?_eq_some_iff.1 ho).1
         rcases (show i9 = 0 ∨ i9 = 1 ∨ i9 = 2 ∨ i9 = 3 ∨ i9 = 4 ∨ i9 = 5 ∨ i9 = 6 ∨ i9 = 7 ∨ i9 = 8 ∨ i9 = 9 ∨ i9 = 10 ∨ i9 = 11 ∨ i9 = 12 ∨ i9 = 13 ∨ i9 = 14 ∨ i9 = 15 ∨ i9 = 16 ∨ i9 = 17 ∨ i9 = 18 ∨ i9 = 19 ∨ i9 = 20 ∨ i9 = 21 ∨ i9 = 22 ∨ i9 = 23 ∨ i9 = 24 ∨ i9 = 25 ∨ i9 = 26 ∨ i9 = 27 ∨ i9 = 28 ∨ i9 = 29 ∨ i9 = 30 ∨ i9 = 31 ∨ i9 = 32 ∨ i9 = 33 ∨ i9 = 34 ∨ i9 = 35 ∨ i9 = 36 ∨ i9 = 37 ∨ i9 = 38 ∨ i9 = 39 ∨ i9 = 40 ∨ i9 = 41 ∨ i9 = 42 ∨ i9 = 43 ∨ i9 = 44 ∨ i9 = 45 ∨ i9 = 46 ∨ i9 = 47 ∨ i9 = 48 ∨ i9 = 49 ∨ i9 = 50 ∨ i9 = 51 ∨ i9 = 52 ∨ i9 = 53 by omega) with rfl | rfl | rfl | rfl | rfl | rfl | rfl | rfl | rfl | rfl | rfl | rfl | rfl | rfl | rfl | rfl | rfl | rfl | rfl | rfl | rfl | rfl | rfl | rfl | rfl | rfl | rfl | rfl | rfl | rfl | rfl | rfl | rfl | rfl | rfl | rfl | rfl | rfl | rfl | rfl | rfl | rfl | rfl | rfl | rfl | rfl | rfl | rfl | rfl | rfl | rfl | rfl | rfl | rfl
         ·injection ho with ho
          subst ho
          have r7 := hI.was (k := 7) (v := .pointer (some ⟨g, 0, none⟩)) (by kernel_rfl) rfl
          have e7 := eval_slot r7
          refine ⟨rfl, wpM_move (.tmp 7) rfl ?_⟩
          exact ⟨_, by rw [e7], rfl, Below.refl _ _⟩
         ·injection ho with ho
          subst ho
          have r3 := hI.was (k := 3) (v := .slice (some ⟨gP, 0, none⟩) n cp) (by kernel_rfl) rfl
          have e3 := eval_slot r3
          refine ⟨rfl, wpM_move (.tmp 3) rfl ?_⟩
          exact ⟨_, by rw [e3], rfl, Below.refl _ _⟩
         ·injection ho with ho
          subst ho
          have r13 := hI.was (k := 13) (v := .int .i64 (i : Int)) (by kernel_rfl) rfl
          have e13 := eval_slot r13
          refine ⟨rfl, wpM_move (.tmp 13) rfl ?_⟩
          exact ⟨_, by rw [e13], rfl, Below.refl _ _⟩
         ·injection ho with ho
          subst ho
          obtain ⟨q117, r117, s117⟩ := hI.got hr ho2 1 117 (by kernel_rfl) rfl rfl
          rw [show q117 = .slice (some ⟨gP, 0, none⟩) n cp from s117] at r117
          have e117 := eval_slot r117
          obtain ⟨q118, r118, s118⟩ := hI.got hr ho2 2 118 (by kernel_rfl) rfl rfl
          rw [show q118 = .int .i64 (i : Int) from s118] at r118
          have e118 := eval_slot r118
          refine ⟨rfl, ?_⟩
          clear hI hr
          go_simp
          exact ⟨_, rfl, rfl, Below.refl _ _⟩
         ·injection ho with ho
          subst ho
          obtain ⟨q119, r119, s119⟩ := hI.got hr ho2 3 119 (by kernel_rfl) rfl rfl
          rw [show q119 = .pointer (some ⟨gP, i * 7, none⟩) from s119] at r119
          have e119 := eval_slot r119
          refine ⟨rfl, ?_⟩
          clear hI hr
          go_simp
          exact ⟨_, rfl, rfl, Below.refl _ _⟩
         ·injection ho with ho
          subst ho
          obtain ⟨q120, r120, s120⟩ := hI.got hr ho2 4 120 (by kernel_rfl) rfl rfl
          rw [show q120 = .pointer (some ⟨gP, i * 7 + 1, none⟩) from s120] at r120
          have e120 := eval_slot r120
          have y := hM.y1
          refine ⟨rfl, ?_⟩
          clear hI hr
          go_simp
          exact ⟨_, rfl, rfl, Below.refl _ _⟩
         ·injection ho with ho
          subst ho
          have r3 := hI.was (k := 3) (v := .slice (some ⟨gP, 0, none⟩) n cp) (by kernel_rfl) rfl
          have e3 := eval_slot r3
          refine ⟨rfl, wpM_move (.tmp 3) rfl ?_⟩
          exact ⟨_, by rw [e3], rfl, Below.refl _ _⟩
         ·injection ho with ho
          subst ho
          have r13 := hI.was (k := 13) (v := .int .i64 (i : Int)) (by kernel_rfl) rfl
          have e13 := eval_slot r13
          refine ⟨rfl, wpM_move (.tmp 13) rfl ?_⟩
          exact ⟨_, by rw [e13], rfl, Below.refl _ _⟩
         ·injection ho with ho
          subst ho
          obtain ⟨q122, r122, s122⟩ := hI.got hr ho2 6 122 (by kernel_rfl) rfl rfl
          rw [show q122 = .slice (some ⟨gP, 0, none⟩) n cp from s122] at r122
          have e122 := eval_slot r122
          obtain ⟨q123, r123, s123⟩ := hI.got hr ho2 7 123 (by kernel_rfl) rfl rfl
          rw [show q123 = .int .i64 (i : Int) from s123] at r123
          have e123 := eval_slot r123
          refine ⟨rfl, ?_⟩
          clear hI hr
          go_simp
          exact ⟨_, rfl, rfl, Below.refl _ _⟩
         ·injection ho with ho
          subst ho
          obtain ⟨q124, r124, s124⟩ := hI.got hr ho2 8 124 (by kernel_rfl) rfl rfl
          rw [show q124 = .pointer (some ⟨gP, i * 7, none⟩) from s124] at r124
          have e124 := eval_slot r124
          refine ⟨rfl, ?_⟩
          clear hI hr
          go_simp
          exact ⟨_, rfl, rfl, Below.refl _ _⟩
         ·injection ho with ho
          subst ho
          obtain ⟨q125, r125, s125⟩ := hI.got hr ho2 9 125 (by kernel_rfl) rfl rfl
          rw [show q125 = .pointer (some ⟨gP, i * 7 + 6, none⟩) from s125] at r125
          have e125 := eval_slot r125
          have y := hM.y6
          refine ⟨rfl, ?_⟩
          clear hI hr
          go_simp
          exact ⟨_, rfl, rfl, Below.refl _ _⟩
         ·injection ho with ho
          subst ho
          obtain ⟨q116, r116, s116⟩ := hI.got hr ho2 0 116 (by kernel_rfl) rfl rfl
          rw [show q116 = .pointer (some ⟨g, 0, none⟩) from s116] at r116
          have e116 := eval_slot r116
          obtain ⟨q121, r121, s121⟩ := hI.got hr ho2 5 121 (by kernel_rfl) rfl rfl
          rw [show q121 = .string x.name from s121] at r121
          have e121 := eval_slot r121
          obtain ⟨q126, r126, s126⟩ := hI.got hr ho2 10 126 (by kernel_rfl) rfl rfl
          rw [show q126 = .agg #[.slice Aq nq cq] from s126] at r126
          have e126 := eval_slot r126
          refine ⟨rfl, ?_⟩
          clear hI hr
          go_simp
          refine (HCA.out ww x.name (.slice Aq nq cq) x.rg hM.m.co hM.op HLEN.out).mono ?_
          rintro e w9 ⟨u9, rfl, ho9, hb⟩
          exact ⟨_, rfl, ho9.mono (Nat.zero_le _), hb⟩
         ·injection ho with ho
          subst ho
          have r9 := hI.was (k := 9) (v := .slice AI its.length cI) (by kernel_rfl) rfl
          have e9 := eval_slot r9
          refine ⟨rfl, wpM_move (.tmp 9) rfl ?_⟩
          exact ⟨_, by rw [e9], rfl, Below.refl _ _⟩
         ·injection ho with ho
          subst ho
          have r4 := hI.was (k := 4) (v := .slice (some ⟨gR, 0, none⟩) n cr) (by kernel_rfl) rfl
          have e4 := eval_slot r4
          refine ⟨rfl, wpM_move (.tmp 4) rfl ?_⟩
          exact ⟨_, by rw [e4], rfl, Below.refl _ _⟩
         ·injection ho with ho
          subst ho
          have r13 := hI.was (k := 13) (v := .int .i64 (i : Int)) (by kernel_rfl) rfl
          have e13 := eval_slot r13
          refine ⟨rfl, wpM_move (.tmp 13) rfl ?_⟩
          exact ⟨_, by rw [e13], rfl, Below.refl _ _⟩
         ·injection ho with ho
          subst ho
          obtain ⟨q129, r129, s129⟩ := hI.got hr ho2 13 129 (by kernel_rfl) rfl rfl
          rw [show q129 = .slice (some ⟨gR, 0, none⟩) n cr from s129] at r129
          have e129 := eval_slot r129
          obtain ⟨q130, r130, s130⟩ := hI.got hr ho2 14 130 (by kernel_rfl) rfl rfl
          rw [show q130 = .int .i64 (i : Int) from s130] at r130
          have e130 := eval_slot r130
          refine ⟨rfl, ?_⟩
          clear hI hr
          go_simp
          exact ⟨_, rfl, rfl, Below.refl _ _⟩
         ·injection ho with ho
          subst ho
          obtain ⟨q131, r131, s131⟩ := hI.got hr ho2 15 131 (by kernel_rfl) rfl rfl
          rw [show q131 = .pointer (some ⟨gR, i * 7, none⟩) from s131] at r131
          have e131 := eval_slot r131
          refine ⟨rfl, ?_⟩
          clear hI hr
          go_simp
          exact ⟨_, rfl, rfl, Below.refl _ _⟩
         ·injection ho with ho
          subst ho
          obtain ⟨q132, r132, s132⟩ := hI.got hr ho2 16 132 (by kernel_rfl) rfl rfl
          rw [show q132 = .pointer (some ⟨gR, i * 7 + 1, none⟩) from s132] at r132
          have e132 := eval_slot r132
          have y := hM.z1
          refine ⟨rfl, ?_⟩
          clear hI hr
          go_simp
          exact ⟨_, rfl, rfl, Below.refl _ _⟩
         ·injection ho with ho
          subst ho
          have r4 := hI.was (k := 4) (v := .slice (some ⟨gR, 0, none⟩) n cr) (by kernel_rfl) rfl
          have e4 := eval_slot r4
          refine ⟨rfl, wpM_move (.tmp 4) rfl ?_⟩
          exact ⟨_, by rw [e4], rfl, Below.refl _ _⟩
         ·injection ho with ho
          subst ho
          have r13 := hI.was (k := 13) (v := .int .i64 (i : Int)) (by kernel_rfl) rfl
          have e13 := eval_slot r13
          refine ⟨rfl, wpM_move (.tmp 13) rfl ?_⟩
          exact ⟨_, by rw [e13], rfl, Below.refl _ _⟩
         ·injection ho with ho
          subst ho
          obtain ⟨q134, r134, s134⟩ := hI.got hr ho2 18 134 (by kernel_rfl) rfl rfl
          rw [show q134 = .slice (some ⟨gR, 0, none⟩) n cr from s134] at r134
          have e134 := eval_slot r134
          obtain ⟨q135, r135, s135⟩ := hI.got hr ho2 19 135 (by kernel_rfl) rfl rfl
          rw [show q135 = .int .i64 (i : Int) from s135] at r135
          have e135 := eval_slot r135
          refine ⟨rfl, ?_⟩
          clear hI hr
          go_simp
          exact ⟨_, rfl, rfl, Below.refl _ _⟩
         ·injection ho with ho
          subst ho
          obtain ⟨q136, r136, s136⟩ := hI.got hr ho2 20 136 (by kernel_rfl) rfl rfl
          rw [show q136 = .pointer (some ⟨gR, i * 7, none⟩) from s136] at r136
          have e136 := eval_slot r136
          refine ⟨rfl, ?_⟩
          clear hI hr
          go_simp
          exact ⟨_, rfl, rfl, Below.refl _ _⟩
         ·injection ho with ho
          subst ho
          obtain ⟨q137, r137, s137⟩ := hI.got hr ho2 21 137 (by kernel_rfl) rfl rfl
          rw [show q137 = .pointer (some ⟨gR, i * 7 + 6, none⟩) from s137] at r137
          have e137 := eval_slot r137
          have y := hM.z6
          refine ⟨rfl, ?_⟩
          clear hI hr
          go_simp
          exact ⟨_, rfl, rfl, Below.refl _ _⟩
         ·injection ho with ho
          subst ho
          obtain ⟨q128, r128, s128⟩ := hI.got hr ho2 12 128 (by kernel_rfl) rfl rfl
          rw [show q128 = .slice AI its.length cI from s128] at r128
          have e128 := eval_slot r128
          obtain ⟨q133, r133, s133⟩ := hI.got hr ho2 17 133 (by kernel_rfl) rfl rfl
          rw [show q133 = .string x.name from s133] at r133
          have e133 := eval_slot r133
          obtain ⟨q138, r138, s138⟩ := hI.got hr ho2 22 138 (by kernel_rfl) rfl rfl
          rw [show q138 = .slice A' n' c' from s138] at r138
          have e138 := eval_slot r138
          refine ⟨rfl, ?_⟩
          clear hI hr
          go_simp
          refine (refAm_any (.slice AI its.length cI) its x.name (.slice A' n' c') x.rg ww hM.m.oI hM.or_ HCAN.out (by omega)).mono ?_
          rintro e w9 ⟨u9, rfl, ho9, hb⟩
          exact ⟨_, rfl, ho9.mono (Nat.zero_le _), hb⟩
         ·injection ho with ho
          subst ho
          obtain ⟨q127, r127, s127⟩ := hI.got hr ho2 11 127 (by kernel_rfl) rfl rfl
          have hu127 : OwnI ww 0 q127 (amF x.name x.rg its 0) := s127
          have e127 := eval_slot r127
          obtain ⟨q139, r139, s139⟩ := hI.got hr ho2 23 139 (by kernel_rfl) rfl rfl
          have hu139 : OwnI ww 0 q139 (amF x.name x.rg its 0) := s139
          have e139 := eval_slot r139
          refine ⟨rfl, ?_⟩
          clear hI hr
          go_simp
          refine (sameOwnM_any q127 q139 _ ww hu127 hu139 (by omega)).mono ?_
          rintro e w9 ⟨rfl, hb⟩
          exact ⟨_, rfl, rfl, hb⟩
         ·injection ho with ho
          subst ho
          obtain ⟨q140, r140, s140⟩ := hI.got hr ho2 24 140 (by kernel_rfl) rfl rfl
          rw [show q140 = .bool true from s140] at r140
          have e140 := eval_slot r140
          refine ⟨rfl, ?_⟩
          clear hI hr
          go_simp
          exact ⟨_, rfl, rfl, Below.refl _ _⟩
         ·injection ho with ho
          subst ho
          obtain ⟨q141, r141, s141⟩ := hI.got hr ho2 25 141 (by kernel_rfl) rfl rfl
          rw [show q141 = .bool false from s141] at r141
          have e141 := eval_slot r141
          refine ⟨rfl, wpM_move (.tmp 141) rfl ?_⟩
          exact ⟨_, by rw [e141], rfl, Below.refl _ _⟩
         ·injection ho with ho
          subst ho
          obtain ⟨q142, r142, s142⟩ := hI.got hr ho2 26 142 (by kernel_rfl) rfl rfl
          rw [show q142 = .bool false from s142] at r142
          have r7 := hI.was (k := 7) (v := .pointer (some ⟨g, 0, none⟩)) (by kernel_rfl) rfl
          have e7 := eval_slot r7
          refine ⟨wantedM_of (j := 26) (b := false) rfl (yielded_slot (j := 26) (d := 142) rfl rfl r142), wpM_move (.tmp 7) rfl ?_⟩
          exact ⟨_, by rw [e7], rfl, Below.refl _ _⟩
         ·injection ho with ho
          subst ho
          obtain ⟨q142, r142, s142⟩ := hI.got hr ho2 26 142 (by kernel_rfl) rfl rfl
          rw [show q142 = .bool false from s142] at r142
          have r3 := hI.was (k := 3) (v := .slice (some ⟨gP, 0, none⟩) n cp) (by kernel_rfl) rfl
          have e3 := eval_slot r3
          refine ⟨wantedM_of (j := 26) (b := false) rfl (yielded_slot (j := 26) (d := 142) rfl rfl r142), wpM_move (.tmp 3) rfl ?_⟩
          exact ⟨_, by rw [e3], rfl, Below.refl _ _⟩
         ·injection ho with ho
          subst ho
          obtain ⟨q142, r142, s142⟩ := hI.got hr ho2 26 142 (by kernel_rfl) rfl rfl
          rw [show q142 = .bool false from s142] at r142
          have r13 := hI.was (k := 13) (v := .int .i64 (i : Int)) (by kernel_rfl) rfl
          have e13 := eval_slot r13
          refine ⟨wantedM_of (j := 26) (b := false) rfl (yielded_slot (j := 26) (d := 142) rfl rfl r142), wpM_move (.tmp 13) rfl ?_⟩
          exact ⟨_, by rw [e13], rfl, Below.refl _ _⟩
         ·injection ho with ho
          subst ho
          obtain ⟨q142, r142, s142⟩ := hI.got hr ho2 26 142 (by kernel_rfl) rfl rfl
          rw [show q142 = .bool false from s142] at r142
          obtain ⟨q144, r144, s144⟩ := hI.got hr ho2 28 144 (by kernel_rfl) rfl rfl
          rw [show q144 = .slice (some ⟨gP, 0, none⟩) n cp from s144] at r144
          have e144 := eval_slot r144
          obtain ⟨q145, r145, s145⟩ := hI.got hr ho2 29 145 (by kernel_rfl) rfl rfl
          rw [show q145 = .int .i64 (i : Int) from s145] at r145
          have e145 := eval_slot r145
          refine ⟨wantedM_of (j := 26) (b := false) rfl (yielded_slot (j := 26) (d := 142) rfl rfl r142), ?_⟩
          clear hI hr
          go_simp
          exact ⟨_, rfl, rfl, Below.refl _ _⟩
         ·injection ho with ho
          subst ho
          obtain ⟨q142, r142, s142⟩ := hI.got hr ho2 26 142 (by kernel_rfl) rfl rfl
          rw [show q142 = .bool false from s142] at r142
          obtain ⟨q146, r146, s146⟩ := hI.got hr ho2 30 146 (by kernel_rfl) rfl rfl
          rw [show q146 = .pointer (some ⟨gP, i * 7, none⟩) from s146] at r146
          have e146 := eval_slot r146
          refine ⟨wantedM_of (j := 26) (b := false) rfl (yielded_slot (j := 26) (d := 142) rfl rfl r142), ?_⟩
          clear hI hr
          go_simp
          exact ⟨_, rfl, rfl, Below.refl _ _⟩
         ·injection ho with ho
          subst ho
          obtain ⟨q142, r142, s142⟩ := hI.got hr ho2 26 142 (by kernel_rfl) rfl rfl
          rw [show q142 = .bool false from s142] at r142
          obtain ⟨q147, r147, s147⟩ := hI.got hr ho2 31 147 (by kernel_rfl) rfl rfl
          rw [show q147 = .pointer (some ⟨gP, i * 7 + 5, none⟩) from s147] at r147
          have e147 := eval_slot r147
          have y := hM.y5
          refine ⟨wantedM_of (j := 26) (b := false) rfl (yielded_slot (j := 26) (d := 142) rfl rfl r142), ?_⟩
          clear hI hr
          go_simp
          exact ⟨_, rfl, rfl, Below.refl _ _⟩
         ·injection ho with ho
          subst ho
          obtain ⟨q142, r142, s142⟩ := hI.got hr ho2 26 142 (by kernel_rfl) rfl rfl
          rw [show q142 = .bool false from s142] at r142
          have r3 := hI.was (k := 3) (v := .slice (some ⟨gP, 0, none⟩) n cp) (by kernel_rfl) rfl
          have e3 := eval_slot r3
          refine ⟨wantedM_of (j := 26) (b := false) rfl (yielded_slot (j := 26) (d := 142) rfl rfl r142), wpM_move (.tmp 3) rfl ?_⟩
          exact ⟨_, by rw [e3], rfl, Below.refl _ _⟩
         ·injection ho with ho
          subst ho
          obtain ⟨q142, r142, s142⟩ := hI.got hr ho2 26 142 (by kernel_rfl) rfl rfl
          rw [show q142 = .bool false from s142] at r142
          have r13 := hI.was (k := 13) (v := .int .i64 (i : Int)) (by kernel_rfl) rfl
          have e13 := eval_slot r13
          refine ⟨wantedM_of (j := 26) (b := false) rfl (yielded_slot (j := 26) (d := 142) rfl rfl r142), wpM_move (.tmp 13) rfl ?_⟩
          exact ⟨_, by rw [e13], rfl, Below.refl _ _⟩
         ·injection ho with ho
          subst ho
          obtain ⟨q142, r142, s142⟩ := hI.got hr ho2 26 142 (by kernel_rfl) rfl rfl
          rw [show q142 = .bool false from s142] at r142
          obtain ⟨q149, r149, s149⟩ := hI.got hr ho2 33 149 (by kernel_rfl) rfl rfl
          rw [show q149 = .slice (some ⟨gP, 0, none⟩) n cp from s149] at r149
          have e149 := eval_slot r149
          obtain ⟨q150, r150, s150⟩ := hI.got hr ho2 34 150 (by kernel_rfl) rfl rfl
          rw [show q150 = .int .i64 (i : Int) from s150] at r150
          have e150 := eval_slot r150
          refine ⟨wantedM_of (j := 26) (b := false) rfl (yielded_slot (j := 26) (d := 142) rfl rfl r142), ?_⟩
          clear hI hr
          go_simp
          exact ⟨_, rfl, rfl, Below.refl _ _⟩
         ·injection ho with ho
          subst ho
          obtain ⟨q142, r142, s142⟩ := hI.got hr ho2 26 142 (by kernel_rfl) rfl rfl
          rw [show q142 = .bool false from s142] at r142
          obtain ⟨q151, r151, s151⟩ := hI.got hr ho2 35 151 (by kernel_rfl) rfl rfl
          rw [show q151 = .pointer (some ⟨gP, i * 7, none⟩) from s151] at r151
          have e151 := eval_slot r151
          refine ⟨wantedM_of (j := 26) (b := false) rfl (yielded_slot (j := 26) (d := 142) rfl rfl r142), ?_⟩
          clear hI hr
          go_simp
          exact ⟨_, rfl, rfl, Below.refl _ _⟩
         ·injection ho with ho
          subst ho
          obtain ⟨q142, r142, s142⟩ := hI.got hr ho2 26 142 (by kernel_rfl) rfl rfl
          rw [show q142 = .bool false from s142] at r142
          obtain ⟨q152, r152, s152⟩ := hI.got hr ho2 36 152 (by kernel_rfl) rfl rfl
          rw [show q152 = .pointer (some ⟨gP, i * 7 + 6, none⟩) from s152] at r152
          have e152 := eval_slot r152
          have y := hM.y6
          refine ⟨wantedM_of (j := 26) (b := false) rfl (yielded_slot (j := 26) (d := 142) rfl rfl r142), ?_⟩
          clear hI hr
          go_simp
          exact ⟨_, rfl, rfl, Below.refl _ _⟩
         ·injection ho with ho
          subst ho
          obtain ⟨q142, r142, s142⟩ := hI.got hr ho2 26 142 (by kernel_rfl) rfl rfl
          rw [show q142 = .bool false from s142] at r142
          obtain ⟨q143, r143, s143⟩ := hI.got hr ho2 27 143 (by kernel_rfl) rfl rfl
          rw [show q143 = .pointer (some ⟨g, 0, none⟩) from s143] at r143
          have e143 := eval_slot r143
          obtain ⟨q148, r148, s148⟩ := hI.got hr ho2 32 148 (by kernel_rfl) rfl rfl
          rw [show q148 = .string x.other from s148] at r148
          have e148 := eval_slot r148
          obtain ⟨q153, r153, s153⟩ := hI.got hr ho2 37 153 (by kernel_rfl) rfl rfl
          rw [show q153 = .agg #[.slice Aq nq cq] from s153] at r153
          have e153 := eval_slot r153
          refine ⟨wantedM_of (j := 26) (b := false) rfl (yielded_slot (j := 26) (d := 142) rfl rfl r142), ?_⟩
          clear hI hr
          go_simp
          refine (HCA.out ww x.other (.slice Aq nq cq) x.rg hM.m.co hM.op HLEN.out).mono ?_
          rintro e w9 ⟨u9, rfl, ho9, hb⟩
          exact ⟨_, rfl, ho9.mono (Nat.zero_le _), hb⟩
         ·injection ho with ho
          subst ho
          obtain ⟨q142, r142, s142⟩ := hI.got hr ho2 26 142 (by kernel_rfl) rfl rfl
          rw [show q142 = .bool false from s142] at r142
          have r9 := hI.was (k := 9) (v := .slice AI its.length cI) (by kernel_rfl) rfl
          have e9 := eval_slot r9
          refine ⟨wantedM_of (j := 26) (b := false) rfl (yielded_slot (j := 26) (d := 142) rfl rfl r142), wpM_move (.tmp 9) rfl ?_⟩
          exact ⟨_, by rw [e9], rfl, Below.refl _ _⟩
         ·injection ho with ho
          subst ho
          obtain ⟨q142, r142, s142⟩ := hI.got hr ho2 26 142 (by kernel_rfl) rfl rfl
          rw [show q142 = .bool false from s142] at r142
          have r4 := hI.was (k := 4) (v := .slice (some ⟨gR, 0, none⟩) n cr) (by kernel_rfl) rfl
          have e4 := eval_slot r4
          refine ⟨wantedM_of (j := 26) (b := false) rfl (yielded_slot (j := 26) (d := 142) rfl rfl r142), wpM_move (.tmp 4) rfl ?_⟩
          exact ⟨_, by rw [e4], rfl, Below.refl _ _⟩
         ·injection ho with ho
          subst ho
          obtain ⟨q142, r142, s142⟩ := hI.got hr ho2 26 142 (by kernel_rfl) rfl rfl
          rw [show q142 = .bool false from s142] at r142
          have r13 := hI.was (k := 13) (v := .int .i64 (i : Int)) (by kernel_rfl) rfl
          have e13 := eval_slot r13
          refine ⟨wantedM_of (j := 26) (b := false) rfl (yielded_slot (j := 26) (d := 142) rfl rfl r142), wpM_move (.tmp 13) rfl ?_⟩
          exact ⟨_, by rw [e13], rfl, Below.refl _ _⟩
         ·injection ho with ho
          subst ho
          obtain ⟨q142, r142, s142⟩ := hI.got hr ho2 26 142 (by kernel_rfl) rfl rfl
          rw [show q142 = .bool false from s142] at r142
          obtain ⟨q156, r156, s156⟩ := hI.got hr ho2 40 156 (by kernel_rfl) rfl rfl
          rw [show q156 = .slice (some ⟨gR, 0, none⟩) n cr from s156] at r156
          have e156 := eval_slot r156
          obtain ⟨q157, r157, s157⟩ := hI.got hr ho2 41 157 (by kernel_rfl) rfl rfl
          rw [show q157 = .int .i64 (i : Int) from s157] at r157
          have e157 := eval_slot r157
          refine ⟨wantedM_of (j := 26) (b := false) rfl (yielded_slot (j := 26) (d := 142) rfl rfl r142), ?_⟩
          clear hI hr
          go_simp
          exact ⟨_, rfl, rfl, Below.refl _ _⟩
         ·injection ho with ho
          subst ho
          obtain ⟨q142, r142, s142⟩ := hI.got hr ho2 26 142 (by kernel_rfl) rfl rfl
          rw [show q142 = .bool false from s142] at r142
          obtain ⟨q158, r158, s158⟩ := hI.got hr ho2 42 158 (by kernel_rfl) rfl rfl
          rw [show q158 = .pointer (some ⟨gR, i * 7, none⟩) from s158] at r158
          have e158 := eval_slot r158
          refine ⟨wantedM_of (j := 26) (b := false) rfl (yielded_slot (j := 26) (d := 142) rfl rfl r142), ?_⟩
          clear hI hr
          go_simp
          exact ⟨_, rfl, rfl, Below.refl _ _⟩
         ·injection ho with ho
          subst ho
          obtain ⟨q142, r142, s142⟩ := hI.got hr ho2 26 142 (by kernel_rfl) rfl rfl
          rw [show q142 = .bool false from s142] at r142
          obtain ⟨q159, r159, s159⟩ := hI.got hr ho2 43 159 (by kernel_rfl) rfl rfl
          rw [show q159 = .pointer (some ⟨gR, i * 7 + 5, none⟩) from s159] at r159
          have e159 := eval_slot r159
          have y := hM.z5
          refine ⟨wantedM_of (j := 26) (b := false) rfl (yielded_slot (j := 26) (d := 142) rfl rfl r142), ?_⟩
          clear hI hr
          go_simp
          exact ⟨_, rfl, rfl, Below.refl _ _⟩
         ·injection ho with ho
          subst ho
          obtain ⟨q142, r142, s142⟩ := hI.got hr ho2 26 142 (by kernel_rfl) rfl rfl
          rw [show q142 = .bool false from s142] at r142
          have r4 := hI.was (k := 4) (v := .slice (some ⟨gR, 0, none⟩) n cr) (by kernel_rfl) rfl
          have e4 := eval_slot r4
          refine ⟨wantedM_of (j := 26) (b := false) rfl (yielded_slot (j := 26) (d := 142) rfl rfl r142), wpM_move (.tmp 4) rfl ?_⟩
          exact ⟨_, by rw [e4], rfl, Below.refl _ _⟩
         ·injection ho with ho
          subst ho
          obtain ⟨q142, r142, s142⟩ := hI.got hr ho2 26 142 (by kernel_rfl) rfl rfl
          rw [show q142 = .bool false from s142] at r142
          have r13 := hI.was (k := 13) (v := .int .i64 (i : Int)) (by kernel_rfl) rfl
          have e13 := eval_slot r13
          refine ⟨wantedM_of (j := 26) (b := false) rfl (yielded_slot (j := 26) (d := 142) rfl rfl r142), wpM_move (.tmp 13) rfl ?_⟩
          exact ⟨_, by rw [e13], rfl, Below.refl _ _⟩
         ·injection ho with ho
          subst ho
          obtain ⟨q142, r142, s142⟩ := hI.got hr ho2 26 142 (by kernel_rfl) rfl rfl
          rw [show q142 = .bool false from s142] at r142
          obtain ⟨q161, r161, s161⟩ := hI.got hr ho2 45 161 (by kernel_rfl) rfl rfl
          rw [show q161 = .slice (some ⟨gR, 0, none⟩) n cr from s161] at r161
          have e161 := eval_slot r161
          obtain ⟨q162, r162, s162⟩ := hI.got hr ho2 46 162 (by kernel_rfl) rfl rfl
          rw [show q162 = .int .i64 (i : Int) from s162] at r162
          have e162 := eval_slot r162
          refine ⟨wantedM_of (j := 26) (b := false) rfl (yielded_slot (j := 26) (d := 142) rfl rfl r142), ?_⟩
          clear hI hr
          go_simp
          exact ⟨_, rfl, rfl, Below.refl _ _⟩
         ·injection ho with ho
          subst ho
          obtain ⟨q142, r142, s142⟩ := hI.got hr ho2 26 142 (by kernel_rfl) rfl rfl
          rw [show q142 = .bool false from s142] at r142
          obtain ⟨q163, r163, s163⟩ := hI.got hr ho2 47 163 (by kernel_rfl) rfl rfl
          rw [show q163 = .pointer (some ⟨gR, i * 7, none⟩) from s163] at r163
          have e163 := eval_slot r163
          refine ⟨wantedM_of (j := 26) (b := false) rfl (yielded_slot (j := 26) (d := 142) rfl rfl r142), ?_⟩
          clear hI hr
          go_simp
          exact ⟨_, rfl, rfl, Below.refl _ _⟩
         ·injection ho with ho
          subst ho
          obtain ⟨q142, r142, s142⟩ := hI.got hr ho2 26 142 (by kernel_rfl) rfl rfl
          rw [show q142 = .bool false from s142] at r142
          obtain ⟨q164, r164, s164⟩ := hI.got hr ho2 48 164 (by kernel_rfl) rfl rfl
          rw [show q164 = .pointer (some ⟨gR, i * 7 + 6, none⟩) from s164] at r164
          have e164 := eval_slot r164
          have y := hM.z6
          refine ⟨wantedM_of (j := 26) (b := false) rfl (yielded_slot (j := 26) (d := 142) rfl rfl r142), ?_⟩
          clear hI hr
          go_simp
          exact ⟨_, rfl, rfl, Below.refl _ _⟩
         ·injection ho with ho
          subst ho
          obtain ⟨q142, r142, s142⟩ := hI.got hr ho2 26 142 (by kernel_rfl) rfl rfl
          rw [show q142 = .bool false from s142] at r142
          obtain ⟨q155, r155, s155⟩ := hI.got hr ho2 39 155 (by kernel_rfl) rfl rfl
          rw [show q155 = .slice AI its.length cI from s155] at r155
          have e155 := eval_slot r155
          obtain ⟨q160, r160, s160⟩ := hI.got hr ho2 44 160 (by kernel_rfl) rfl rfl
          rw [show q160 = .string x.other from s160] at r160
          have e160 := eval_slot r160
          obtain ⟨q165, r165, s165⟩ := hI.got hr ho2 49 165 (by kernel_rfl) rfl rfl
          rw [show q165 = .slice A' n' c' from s165] at r165
          have e165 := eval_slot r165
          refine ⟨wantedM_of (j := 26) (b := false) rfl (yielded_slot (j := 26) (d := 142) rfl rfl r142), ?_⟩
          clear hI hr
          go_simp
          refine (refAm_any (.slice AI its.length cI) its x.other (.slice A' n' c') x.rg ww hM.m.oI hM.or_ HCAN.out (by omega)).mono ?_
          rintro e w9 ⟨u9, rfl, ho9, hb⟩
          exact ⟨_, rfl, ho9.mono (Nat.zero_le _), hb⟩
         ·injection ho with ho
          subst ho
          obtain ⟨q142, r142, s142⟩ := hI.got hr ho2 26 142 (by kernel_rfl) rfl rfl
          rw [show q142 = .bool false from s142] at r142
          obtain ⟨q154, r154, s154⟩ := hI.got hr ho2 38 154 (by kernel_rfl) rfl rfl
          have hu154 : OwnI ww 0 q154 (amF x.other x.rg its 0) := s154
          have e154 := eval_slot r154
          obtain ⟨q166, r166, s166⟩ := hI.got hr ho2 50 166 (by kernel_rfl) rfl rfl
          have hu166 : OwnI ww 0 q166 (amF x.other x.rg its 0) := s166
          have e166 := eval_slot r166
          refine ⟨wantedM_of (j := 26) (b := false) rfl (yielded_slot (j := 26) (d := 142) rfl rfl r142), ?_⟩
          clear hI hr
          go_simp
          refine (sameOwnM_any q154 q166 _ ww hu154 hu166 (by omega)).mono ?_
          rintro e w9 ⟨rfl, hb⟩
          exact ⟨_, rfl, rfl, hb⟩
         ·injection ho with ho
          subst ho
          obtain ⟨q142, r142, s142⟩ := hI.got hr ho2 26 142 (by kernel_rfl) rfl rfl
          rw [show q142 = .bool false from s142] at r142
          obtain ⟨q167, r167, s167⟩ := hI.got hr ho2 51 167 (by kernel_rfl) rfl rfl
          rw [show q167 = .bool true from s167] at r167
          have e167 := eval_slot r167
          refine ⟨wantedM_of (j := 26) (b := false) rfl (yielded_slot (j := 26) (d := 142) rfl rfl r142), ?_⟩
          clear hI hr
          go_simp
          exact ⟨_, rfl, rfl, Below.refl _ _⟩
         ·injection ho with ho
          subst ho
          obtain ⟨q142, r142, s142⟩ := hI.got hr ho2 26 142 (by kernel_rfl) rfl rfl
          rw [show q142 = .bool false from s142] at r142
          have e142 := eval_slot r142
          obtain ⟨q168, r168, s168⟩ := hI.got hr ho2 52 168 (by kernel_rfl) rfl rfl
          rw [show q168 = .bool false from s168] at r168
          have e168 := eval_slot r168
          refine ⟨rfl, ?_⟩
          clear hI hr
          go_simp
          exact ⟨_, rfl, rfl, Below.refl _ _⟩
       ·have hltz : ¬ (i : Int) < (n : Int) := by omega
        have HN1 := hide (HCN.out wr (⟨#[122, 122, 122]⟩, 0, 0, 0) HMI.out.co)
        have HN2 := hide (fun W (h : MkI w g wB.heap.size qs qs' its (.slice Ap n cp) (.slice Ar n cr) (.slice AI its.length cI) (.slice AJ its.length cJ) W) => refNum_at (.slice AI its.length cI) its (⟨#[122, 122, 122]⟩, 0, 0, 0) W h.oI (by omega))
        unfold itA PosP at HN2
        simp only [] at HN1 HN2
        generalize posN its (⟨#[122, 122, 122]⟩, 0, 0, 0) = z at HN1 HN2
        have hzz : (z == z) = true := beq_self_eq_true _
        go_wp2_with fail
        refine HN1.out.mono ?_
        rintro e w9 ⟨rfl, hb9⟩
        have HM9 := hide (HMI.out.below hb9)
        have HN3 := hide (HN2.out w9 HM9.out)
        clear hb9 HN1 HN2 HMI
        go_wp2_with fail
        refine HN3.out.mono ?_
        rintro e w10 ⟨rfl, hb10⟩
        have HM10 := hide (HM9.out.below hb10)
        clear hb10 HN3 HM9
        go_wp2_with fail
        go_ret
        exact ⟨rfl, HM10.out.bel⟩
  ·rw [decide_eq_false h110]
   have HB := hide hb1
   clear hb1 HLI
   go_wp2_with fail
   go_ret
   exact ⟨rfl, HB.out⟩
end Go.Proofs.YtmncoldaemcnlaaGreatDoor
