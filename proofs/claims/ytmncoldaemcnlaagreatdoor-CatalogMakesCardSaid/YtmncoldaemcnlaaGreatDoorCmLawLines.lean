/-
  A part of the proof: LawLines. Conditions: none.
-/
import Derived.Test.YtmncoldaemcnlaaGreatDoorCmCatClone
import Derived.Test.YtmncoldaemcnlaaGreatDoorCmRefParse
import Derived.Test.YtmncoldaemcnlaaGreatDoorCmSpParse
import Derived.Test.YtmncoldaemcnlaaGreatDoorCmTrimLay
import Derived.Deep.DeepAppendWide
namespace Go.Proofs.YtmncoldaemcnlaaGreatDoor
open Go.RowKit
open Classical
set_option maxRecDepth 100000
structure RwR where
 k : Int
 name : ByteArray
 ver : Nat → Int
 other : ByteArray
 tx : ByteArray
instance rwThere : Inhabited RwR := ⟨⟨0, ⟨#[]⟩, fun _ => 0, ⟨#[]⟩, ⟨#[]⟩⟩⟩
structure RwOk (x : RwR) : Prop where
 k : I64 x.k
 v : ∀ j, j < 3 → I64 (x.ver j)
 n : x.name.size ≤ 9223372036854775807
 o : x.other.size ≤ 9223372036854775807
 t : x.tx.size ≤ 9223372036854775807
def RawP (w : World) (A : Option Addr) (n : Nat) (q : Nat → RwR) : Prop :=
 (∀ k, k < n → RwOk (q k)) ∧ (0 < n → ∃ ad, A = some ad ∧ ad.block < w.heap.size ∧ ∀ k, k < n → w.cell? (ad.add (k * 7)) = some (.int .i64 (q k).k) ∧
  w.cell? ⟨(ad.add (k * 7)).block, (ad.add (k * 7)).off + 1, none⟩ = some (.string (q k).name) ∧ w.cell? ⟨(ad.add (k * 7)).block, (ad.add (k * 7)).off + 2, none⟩ = some (.int .i64 ((q k).ver 0)) ∧
  w.cell? ⟨(ad.add (k * 7)).block, (ad.add (k * 7)).off + 3, none⟩ = some (.int .i64 ((q k).ver 1)) ∧ w.cell? ⟨(ad.add (k * 7)).block, (ad.add (k * 7)).off + 4, none⟩ = some (.int .i64 ((q k).ver 2)) ∧
  w.cell? ⟨(ad.add (k * 7)).block, (ad.add (k * 7)).off + 5, none⟩ = some (.string (q k).other) ∧ w.cell? ⟨(ad.add (k * 7)).block, (ad.add (k * 7)).off + 6, none⟩ = some (.string (q k).tx))
theorem RawP.below {w w' : World} {A : Option Addr} {n : Nat} {q : Nat → RwR} (h : RawP w A n q) (hb : Below w.heap.size w w') : RawP w' A n q := by
 refine ⟨h.1, fun hn => ?_⟩
 obtain ⟨ad, e, hlt, hc⟩ := h.2 hn
 refine ⟨ad, e, Nat.lt_of_lt_of_le hlt hb.size, fun k hk => ?_⟩
 have hbk : (ad.add (k * 7)).block < w.heap.size := by rw [block_of_add]; exact hlt
 obtain ⟨c0, c1, c2, c3, c4, c5, c6⟩ := hc k hk
 exact ⟨(hb.cell hbk).trans c0, (hb.cell (p := ⟨(ad.add (k * 7)).block, (ad.add (k * 7)).off + 1, none⟩) hbk).trans c1, (hb.cell (p := ⟨(ad.add (k * 7)).block, (ad.add (k * 7)).off + 2, none⟩) hbk).trans c2, (hb.cell (p := ⟨(ad.add (k * 7)).block, (ad.add (k * 7)).off + 3, none⟩) hbk).trans c3,
  (hb.cell (p := ⟨(ad.add (k * 7)).block, (ad.add (k * 7)).off + 4, none⟩) hbk).trans c4, (hb.cell (p := ⟨(ad.add (k * 7)).block, (ad.add (k * 7)).off + 5, none⟩) hbk).trans c5, (hb.cell (p := ⟨(ad.add (k * 7)).block, (ad.add (k * 7)).off + 6, none⟩) hbk).trans c6⟩
theorem LnsR.far {w w' : World} {base b' s' n' : Nat} {v v' : Value} {qs : List LnQ} {xs' : List Value} (h : LnsR w base v qs) (h' : w.ownsRow b' 38 s' v' n' xs') (hg : w.grownBy w' v'.ownBlock) : LnsR w' base v qs :=
 ⟨World.ownsRow.kept h.1 hg (apart_rows h.1 h' (by decide)), fun p hp => ⟨OwnI.kept (h.2 p hp).1 hg (apart_rows (h.2 p hp).1 h' (by decide)), (h.2 p hp).2⟩⟩
theorem LnsP.far {w w' : World} {base b' s' n' : Nat} {v v' : Value} {qs : List LnQ} {xs' : List Value} (h : LnsP w base v qs) (h' : w.ownsRow b' 27 s' v' n' xs') (hg : w.grownBy w' v'.ownBlock) : LnsP w' base v qs :=
 ⟨World.ownsRow.kept h.1 hg (apart_rows h.1 h' (by decide)), fun p hp => ⟨World.ownsRow.kept (h.2 p hp).1 hg (apart_rows (h.2 p hp).1 h' (by decide)), (h.2 p hp).2⟩⟩
theorem blk_add2 {w : World} {g : Nat} {t : TypeId} {cs : Array Value} (h : Blk w g t cs) (j : Nat) : w.cell? ((⟨g, 0, none⟩ : Addr).add j) = cs[j]? := by
 unfold Addr.add
 split
 ·rename_i h0
  rw [h0]
  exact h.cell 0
 ·have := h.cell j
  simpa using this
theorem ownK_app2 {α : Type} {E : ElK α} {w : World} {base : Nat} {v : Value} {l : List α} {q : α} (h : w.ownsRow base E.t E.K v (l.length + 1) (E.row l ++ E.f q)) : OwnK E w base v (l ++ [q]) := by
 unfold OwnK
 rw [List.length_append, List.length_singleton, E.row_app, E.row_one]
 exact h
def LinesP (n : Nat) (w : World) (e : Ending) (w' : World) : Prop :=
 (e = .returned (.tuple #[.slice none 0 0, .slice none 0 0, .bool false]) ∧ Below w.heap.size w w') ∨
 ∃ v v' qs qs', e = .returned (.tuple #[v, v', .bool (decide (n ≤ 110))]) ∧ LnsP w' w.heap.size v qs ∧ LnsR w' w.heap.size v' qs' ∧ qs.map (·.1) = qs'.map (·.1) ∧ qs.length = n ∧ Below w.heap.size w w'
set_option maxHeartbeats 8000000 in
theorem lines_any (A : Option Addr) (n c : Nat) (q : Nat → RwR) (w : World) (hG : GlobV w) (hF : FineP w) (h : RawP w A n q) (hn : n ≤ 1759218604441) : Calls Tryz.prog 25 #[.slice A n c] w (LinesP n w) := by
 have HG := hide hG
 have HF := hide hF
 have HR := hide h
 clear hG hF h
 go_enter Tryz.func25, Tryz.ntmps25
 go_wp2_with fail
 go_loopw [5, 6, 7] (fun v5 v6 iv wr => ∃ (i : Nat) (qs qs' : List LnQ), i ≤ n ∧ iv = .int .i64 i ∧ Hid (LnsP wr w.heap.size v5 qs) ∧ Hid (LnsR wr w.heap.size v6 qs') ∧ Hid (qs.map (·.1) = qs'.map (·.1)) ∧ Hid (qs.length = i ∧ qs'.length = i) ∧ Hid (Below w.heap.size w wr)) (fun _ _ iv _ => n - (intOf iv).toNat)
 case atStart => exact ⟨0, [], [], Nat.zero_le _, rfl, hide (lnsP_nil _ _), hide (lnsR_nil _ _), Lib.hid rfl, Lib.hid ⟨rfl, rfl⟩, hide (Below.refl _ _)⟩
 case round =>
  obtain ⟨i, qs, qs', hi, rfl, HP, HL, HM, HLN, HB⟩ := hrel
  by_cases hlt : i < n
  ·have hltz : (i : Int) < (n : Int) := by omega
   obtain ⟨ad, rfl, hblk, hc⟩ := (HR.out.below HB.out).2 (by omega)
   obtain ⟨y0, y1, y2, y3, y4, y5, y6⟩ := hc i hlt
   obtain ⟨o1, o2, o3, o4, o5⟩ := HR.out.1 i hlt
   generalize q i = x at y0 y1 y2 y3 y4 y5 y6 o1 o2 o3 o4 o5
   clear hc
   have hal := (Below.refl wr.heap.size wr).alloc (Nat.le_refl _) (.cells #[.int .i64 x.k, .string x.name, .int .i64 (x.ver 0), .int .i64 (x.ver 1), .int .i64 (x.ver 2), .string x.other, .string x.tx] 129)
   have HKX := hide (Blk.new wr 129 #[.int .i64 x.k, .string x.name, .int .i64 (x.ver 0), .int .i64 (x.ver 1), .int .i64 (x.ver 2), .string x.other, .string x.tx])
   have HBA := hide (HB.out.trans (hal.mono HB.out.size))
   have HPA := hide (HP.out.below hal)
   have HLA := hide (HL.out.below hal)
   clear hal
   by_cases t1 : 60 < x.tx.size
   ·have g1 : (60 : Int) < (x.tx.size : Int) := by omega
    go_wp2_with fail
    exact bodyPost_ret (v := .tuple #[.slice none 0 0, .slice none 0 0, .bool false]) (by simp [results, Tryz.results25, go_sem]) rfl (.inl ⟨rfl, HBA.out⟩)
   ·have g1 : ¬ (60 : Int) < (x.tx.size : Int) := by omega
    by_cases t2 : 40 < x.name.size
    ·have g2 : (40 : Int) < (x.name.size : Int) := by omega
     go_wp2_with fail
     exact bodyPost_ret (v := .tuple #[.slice none 0 0, .slice none 0 0, .bool false]) (by simp [results, Tryz.results25, go_sem]) rfl (.inl ⟨rfl, HBA.out⟩)
    ·have g2 : ¬ (40 : Int) < (x.name.size : Int) := by omega
     by_cases t3 : 40 < x.other.size
     ·have g3 : (40 : Int) < (x.other.size : Int) := by omega
      go_wp2_with fail
      exact bodyPost_ret (v := .tuple #[.slice none 0 0, .slice none 0 0, .bool false]) (by simp [results, Tryz.results25, go_sem]) rfl (.inl ⟨rfl, HBA.out⟩)
     ·have g3 : ¬ (40 : Int) < (x.other.size : Int) := by omega
      have HRP := hide (refParse_any x.tx (wr.alloc (.cells #[.int .i64 x.k, .string x.name, .int .i64 (x.ver 0), .int .i64 (x.ver 1), .int .i64 (x.ver 2), .string x.other, .string x.tx] 129)) (HG.out.below HBA.out) (HF.out.below HBA.out) (by omega))
      go_upto_region 9 with fail
      generalize World.alloc _ (.cells #[.int .i64 x.k, .string x.name, .int .i64 (x.ver 0), .int .i64 (x.ver 1), .int .i64 (x.ver 2), .string x.other, .string x.tx] 129) = wA at HKX HBA HPA HLA HRP ⊢
      generalize wr.heap.size = bx at HKX ⊢
      clear y0 y1 y2 y3 y4 y5 y6 HP HL HB
      have x6 := HKX.out.cell 6
      go_wp2_with fail
      refine HRP.out.mono ?_
      rintro e w1 (⟨v1, f, hf, hf0, rfl, hb1⟩ | ⟨v1, l, hsz, hrg, hcan, rfl, hov, hb1⟩)
      ·have hne2 : (f.1 == 0) = false := by simpa using hf0
       have hne : (f.1 != 0) = true := by unfold bne; rw [hne2]; rfl
       have hal := (Below.refl w1.heap.size w1).alloc (Nat.le_refl _) (.cells #[.int .i64 f.1, .int .i64 f.2] 30)
       have HB1 := hide (HBA.out.trans ((hb1.trans (hal.mono hb1.size)).mono HBA.out.size))
       have HKX1 := hide (HKX.out.below (hb1.trans (hal.mono hb1.size)) HKX.out.lt)
       have HKF := hide (Blk.new w1 30 #[.int .i64 f.1, .int .i64 f.2])
       have HSP := hide (spParse_any x.tx (w1.alloc (.cells #[.int .i64 f.1, .int .i64 f.2] 30)) (HG.out.below HB1.out) (by omega))
       clear hf hf0 hb1 hal HRP HKX HBA HPA HLA x6
       have x6 := HKX1.out.cell 6
       go_wp2_with fail
       generalize World.alloc _ (.cells #[.int .i64 f.1, .int .i64 f.2] 30) = wB at HB1 HKX1 HKF HSP ⊢
       generalize w1.heap.size = bf at HKF ⊢
       refine HSP.out.mono ?_
       intro e w2 hR
       have hx : ∃ (A2 : Option Addr) (n2 c2 : Nat) (er : Value), e = .returned (.tuple #[.agg #[.slice A2 n2 c2], er]) ∧ Below wB.heap.size wB w2 := by
        rcases hR with ⟨u, _, _, _, h4, _, h6⟩ | ⟨v2, l2, _, _, _, h4, h5, h6⟩
        ·exact ⟨none, 0, 0, u, h4, h6⟩
        ·obtain ⟨A2, c2, rfl⟩ := h5.len
         exact ⟨A2, _, c2, .nilIface, h4, h6⟩
       obtain ⟨A2, n2, c2, er, rfl, hb2⟩ := hx
       have HB2 := hide (HB1.out.trans ((hb2.alloc hb2.size (.cells #[.slice A2 n2 c2] 36)).mono HB1.out.size))
       have f0 := (HKF.out.below (hb2.alloc hb2.size (.cells #[.slice A2 n2 c2] 36)) HKF.out.lt).cell 0
       clear hR hb2 HSP HB1 HKX1 HKF x6
       go_wp2_with fail
       exact bodyPost_ret (v := .tuple #[.slice none 0 0, .slice none 0 0, .bool false]) (by simp [results, Tryz.results25, go_sem]) rfl (.inl ⟨rfl, HB2.out⟩)
      ·have hal := (Below.refl w1.heap.size w1).alloc (Nat.le_refl _) (.cells #[.int .i64 0, .int .i64 (-1)] 30)
       have hb1a := hb1.trans (hal.mono hb1.size)
       have HB1 := hide (HBA.out.trans (hb1a.mono HBA.out.size))
       have HKX1 := hide (HKX.out.below hb1a HKX.out.lt)
       have HPA1 := hide (HPA.out.below hb1a)
       have HLA1 := hide (HLA.out.below hb1a)
       have HOV := hide (OwnI.mono (OwnI.below hov hal) (Nat.zero_le _))
       have HKF := hide (Blk.new w1 30 #[.int .i64 0, .int .i64 (-1)])
       have HSP := hide (spParse_any x.tx (w1.alloc (.cells #[.int .i64 0, .int .i64 (-1)] 30)) (HG.out.below HB1.out) (by omega))
       have HRG := Lib.hid hrg
       obtain ⟨A1, c1, rfl⟩ := HOV.out.len
       clear hov hb1 hal hb1a hrg HRP HKX HBA HPA HLA x6
       have x6 := HKX1.out.cell 6
       go_wp2_with fail
       generalize World.alloc _ (.cells #[.int .i64 0, .int .i64 (-1)] 30) = wB at HB1 HKX1 HPA1 HLA1 HOV HKF HSP ⊢
       generalize w1.heap.size = bf at HKF ⊢
       refine HSP.out.mono ?_
       rintro e w2 (⟨u, f, hf, _, _⟩ | ⟨v2, l2, _, hrg2, _, rfl, hop, hb2⟩)
       ·exfalso
        rw [if_neg (by omega)] at hf
        obtain ⟨q9, h9, _⟩ := hf
        rw [HRG.out] at h9
        cases h9
       ·obtain rfl : l = l2 := Sum.inr.inj (HRG.out.symm.trans hrg2)
        obtain ⟨A2, c2, rfl⟩ := hop.len
        have hal := (Below.refl w2.heap.size w2).alloc (Nat.le_refl _) (.cells #[.slice A2 l.length c2] 36)
        have hb2a := hb2.trans (hal.mono hb2.size)
        have HB2 := hide (HB1.out.trans (hb2a.mono HB1.out.size))
        have HKX2 := hide (HKX1.out.below hb2a HKX1.out.lt)
        have HPA2 := hide (HPA1.out.below hb2a)
        have HLA2 := hide (HLA1.out.below hb2a)
        have HOV2 := hide (OwnI.below HOV.out hb2a)
        have HOP2 := hide (OwnP.mono (OwnP.below hop hal) (Nat.zero_le _))
        have HKR := hide (Blk.new w2 36 #[.slice A2 l.length c2])
        have HOK := Lib.hid (show LnOk ⟨x.k, x.name, x.ver, x.other, l⟩ from ⟨hcan, o1, o2, by show x.name.size ≤ _; omega, by show x.other.size ≤ _; omega⟩)
        have f0 := (HKF.out.below hb2a HKF.out.lt).cell 0
        clear hrg2 hop hb2 hal hb2a HSP HB1 HKX1 HPA1 HLA1 HOV HKF x6
        go_upto_region 13 with fail
        generalize World.alloc _ (.cells #[.slice A2 l.length c2] 36) = wC at HB2 HKX2 HPA2 HLA2 HOV2 HOP2 HKR f0 ⊢
        generalize w2.heap.size = bg at HKR ⊢
        obtain ⟨q, HQ⟩ : ∃ q : LnQ, Hid (q = (⟨x.k, x.name, x.ver, x.other, l⟩, A2, l.length, c2)) := ⟨_, Lib.hid rfl⟩
        obtain ⟨q', HQ'⟩ : ∃ q : LnQ, Hid (q = (⟨x.k, x.name, x.ver, x.other, l⟩, A1, (flatI l).length, c1)) := ⟨_, Lib.hid rfl⟩
        obtain ⟨ip, hip, hz0, hz1, hz2⟩ := info_parts linePInfo
        obtain ⟨ir, hir, hr0, hr1, hr2⟩ := info_parts lineRInfo
        have x0 := HKX2.out.cell 0
        have x1 := HKX2.out.cell 1
        have x2 := HKX2.out.cell 2
        have x3 := HKX2.out.cell 3
        have x4 := HKX2.out.cell 4
        have x5 := HKX2.out.cell 5
        have r0 := HKR.out.cell 0
        have hal := (Below.refl wC.heap.size wC).alloc (Nat.le_refl _) (.cells (elP.f q).toArray 38)
        have HPX := hide (HPA2.out.below hal)
        have HLX := hide (HLA2.out.below hal)
        have HKX3 := hide (HKX2.out.below hal HKX2.out.lt)
        have HOPX := hide (HOP2.out.below hal)
        have HOVX := hide (OwnI.below HOV2.out hal)
        have HBX := hide (HB2.out.trans (hal.mono HB2.out.size))
        have HNB := hide (Blk.new wC 38 (elP.f q).toArray)
        obtain ⟨A5, c5, rfl, _⟩ := HPX.out.1.len
        obtain ⟨A6, c6, rfl, _⟩ := HLX.out.1.len
        rw [HQ.out] at HPX HLX HKX3 HOPX HOVX HBX HNB
        have HOKQ := Lib.hid (show LnOk q.1 by rw [HQ.out]; exact HOK.out)
        have HOKQ' := Lib.hid (show LnOk q'.1 by rw [HQ'.out]; exact HOK.out)
        clear hal HPA2 HLA2 HKX2 HOP2 HOV2 HB2 f0 HKR
        go_upto_region 14 with (at_builtin; refine wpList_append_own_wide _ rfl _ _ _ rfl w.heap.size 38 ip _ 7 88 Tryz.underlying73 hip hz0 hz1 hz2 rfl (by decide) _ qs.length (elP.row qs) rfl HPX.out.1 ⟨wC.heap.size, 0, none⟩ 1 1 (elP.f (⟨x.k, x.name, x.ver, x.other, l⟩, A2, l.length, c2)) rfl rfl (fun j u hj => (blk_add2 HNB.out j).trans (by rw [List.getElem?_toArray]; exact hj)) (elP.one _) (by have := HLN.out; simp only [maxLen]; omega) (by have := HLN.out; omega) HBX.out.size ?_; intro v9 w9 ho9 hg9 _; have HP9 := hide (HPX.out.app (q := (⟨x.k, x.name, x.ver, x.other, l⟩, A2, l.length, c2)) HOPX.out HOK.out (ownK_app2 (E := elP) ho9) hg9); have HL9 := hide (HLX.out.far HPX.out.1 hg9); have HK9 := hide (HKX3.out.grown hg9 (fun e => own_blk_ne HPX.out.1 HKX3.out (by decide) e.symm)); have HO9 := hide (OwnI.kept HOVX.out hg9 (apart_rows HOVX.out HPX.out.1 (by decide))); have HB9 := hide (HBX.out.grown hg9 HBX.out.size (fun k hk => (World.ownsRow.lt HPX.out.1 k hk).1)); obtain ⟨A9, d9, e9, _⟩ := HP9.out.1.len; subst e9; clear ho9 hg9)
        clear HPX HLX HKX3 HOPX HOVX HBX HNB x0 x1 x2 x3 x4 x5 r0
        have x0 := HK9.out.cell 0
        have x1 := HK9.out.cell 1
        have x2 := HK9.out.cell 2
        have x3 := HK9.out.cell 3
        have x4 := HK9.out.cell 4
        have x5 := HK9.out.cell 5
        have hal := (Below.refl w9.heap.size w9).alloc (Nat.le_refl _) (.cells (elR.f (⟨x.k, x.name, x.ver, x.other, l⟩, A1, (flatI l).length, c1)).toArray 27)
        have HPY := hide (HP9.out.below hal)
        have HLY := hide (HL9.out.below hal)
        have HOY := hide (OwnI.below HO9.out hal)
        have HBY := hide (HB9.out.trans (hal.mono HB9.out.size))
        have HNY := hide (Blk.new w9 27 (elR.f (⟨x.k, x.name, x.ver, x.other, l⟩, A1, (flatI l).length, c1)).toArray)
        clear hal HP9 HL9 HK9 HO9 HB9
        go_wp2_with (at_builtin; refine wpList_append_own_wide _ rfl _ _ _ rfl w.heap.size 27 ir _ 7 88 Tryz.underlying49 hir hr0 hr1 hr2 rfl (by decide) _ qs'.length (elR.row qs') rfl HLY.out.1 ⟨w9.heap.size, 0, none⟩ 1 1 (elR.f (⟨x.k, x.name, x.ver, x.other, l⟩, A1, (flatI l).length, c1)) rfl rfl (fun j u hj => (blk_add2 HNY.out j).trans (by rw [List.getElem?_toArray]; exact hj)) (elR.one _) (by have := HLN.out; simp only [maxLen]; omega) (by have := HLN.out; omega) HBY.out.size ?_; intro v8 w8 ho8 hg8 _; have HL8 := hide (HLY.out.app (q := (⟨x.k, x.name, x.ver, x.other, l⟩, A1, (flatI l).length, c1)) HOY.out HOK.out (ownK_app2 (E := elR) ho8) hg8); have HP8 := hide (HPY.out.far HLY.out.1 hg8); have HB8 := hide (HBY.out.grown hg8 HBY.out.size (fun k hk => (World.ownsRow.lt HLY.out.1 k hk).1)); obtain ⟨A8, d8, e8, _⟩ := HL8.out.1.len; subst e8; clear ho8 hg8)
        have HM9 := Lib.hid (show (qs ++ ([(⟨x.k, x.name, x.ver, x.other, l⟩, A2, l.length, c2)] : List LnQ)).map (·.1) = (qs' ++ ([(⟨x.k, x.name, x.ver, x.other, l⟩, A1, (flatI l).length, c1)] : List LnQ)).map (·.1) by rw [List.map_append, List.map_append, HM.out]; rfl)
        have HN9 := Lib.hid (show (qs ++ ([(⟨x.k, x.name, x.ver, x.other, l⟩, A2, l.length, c2)] : List LnQ)).length = i + 1 ∧ (qs' ++ ([(⟨x.k, x.name, x.ver, x.other, l⟩, A1, (flatI l).length, c1)] : List LnQ)).length = i + 1 by have := HLN.out; simp; omega)
        have e1 : (qs ++ ([(⟨x.k, x.name, x.ver, x.other, l⟩, A2, l.length, c2)] : List LnQ)).length = qs.length + 1 := by simp
        have e2 : (qs' ++ ([(⟨x.k, x.name, x.ver, x.other, l⟩, A1, (flatI l).length, c1)] : List LnQ)).length = qs'.length + 1 := by simp
        rw [e1] at HP8
        rw [e2] at HL8
        clear HPY HLY HOY HBY HNY x0 x1 x2 x3 x4 x5 HM e1 e2
        go_round
        case rel => exact ⟨i + 1, _, _, by omega, by go_num, HP8, HL8, HM9, HN9, HB8⟩
        case measure => simp [intOf]; omega
  ·have hltz : ¬ (i : Int) < (n : Int) := by omega
   obtain rfl : i = n := by omega
   have HNL := Lib.hid HLN.out.1
   by_cases h110 : i ≤ 110
   ·have g1 : (i : Int) ≤ 110 := by omega
    have HD := Lib.hid (show decide (i ≤ 110) = true from decide_eq_true h110)
    clear h110
    go_wp2_with fail
    exact bodyPost_ret (v := .tuple #[u5, u6, .bool true]) (by simp [results, Tryz.results25, go_sem]) rfl (.inr ⟨u5, u6, qs, qs', by rw [HD.out], HP.out, HL.out, HM.out, HNL.out, HB.out⟩)
   ·have g1 : ¬ (i : Int) ≤ 110 := by omega
    have HD := Lib.hid (show decide (i ≤ 110) = false from decide_eq_false h110)
    clear h110
    go_wp2_with fail
    exact bodyPost_ret (v := .tuple #[u5, u6, .bool false]) (by simp [results, Tryz.results25, go_sem]) rfl (.inr ⟨u5, u6, qs, qs', by rw [HD.out], HP.out, HL.out, HM.out, HNL.out, HB.out⟩)
end Go.Proofs.YtmncoldaemcnlaaGreatDoor
