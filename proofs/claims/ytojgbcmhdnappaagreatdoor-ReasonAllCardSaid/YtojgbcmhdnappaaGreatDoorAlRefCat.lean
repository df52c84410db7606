/-
  A part of the proof: RefCat. Conditions: none.
-/
import Derived.Test.YtojgbcmhdnappaaGreatDoorAlCatChk
namespace Go.Proofs.YtojgbcmhdnappaaGreatDoor
open Go.RowKit
open Classical
set_option maxRecDepth 100000
noncomputable def catF (ls:List LnR):Int×Int:=match catR ls with | .inl f=>f | .inr _=>(0,-1)
def RefCatP (ls:List LnR) (w:World) (e:Ending) (w':World):Prop:=e=.returned (.agg #[.int .i64 (catF ls).1,.int .i64 (catF ls).2])∧Below w.heap.size w w'
theorem catF_big {ls:List LnR} (h:100<ls.length):catF ls=(4,-1):=by unfold catF catR;rw [if_pos h]
theorem catF_a {ls:List LnR} (h:¬100<ls.length) {f:Int×Int} (hf:passA ls 0 [] []=.inl f):catF ls=f:=by unfold catF catR;rw [if_neg h,hf]
theorem passB_cases (its:List ItR):∀ (ls:List LnR) (j:Nat),passB its ls j=(0,-1)∨(passB its ls j).1=7
 | [],j=>.inl rfl
 | x :: r,j=>by
  unfold passB
  split
  ·exact .inr rfl
  ·exact passB_cases its r (j+1)
theorem catF_b {ls:List LnR} (h:¬100<ls.length) {its:List ItR} (hf:passA ls 0 [] []=.inr its):catF ls=passB its ls 0:=by
 unfold catF catR
 rw [if_neg h,hf]
 rcases passB_cases its ls 0 with e | e
 ·simp only [if_pos (show (passB its ls 0).1=0 by rw [e])]
  exact e.symm
 ·simp only [if_neg (show ¬(passB its ls 0).1=0 by rw [e];decide)]
theorem okI_of {x:LnR} (h:LnOk x):okI (itL x):=⟨h.nm,h.v 0 (by omega),h.v 1 (by omega),h.v 2 (by omega)⟩
structure CcI (w:World) (A:Option Addr) (c:Nat) (qs:List LnQ) (gn gm i:Nat) (ns:List ByteArray) (its:List ItR) (wr:World):Prop where
 lns:LnsR wr 0 (.slice A qs.length c) qs
 b2:Blk wr w.heap.size 80 #[.int .i64 0,.int .i64 0]
 bel:Below w.heap.size w wr
 s1:SetN 9 (fun s:ByteArray=>.string s.data.toList) okS wr gn i ns
 s2:SetN 162 itLit okI wr gm i its
 st:passA ((qs.map (·.1)).drop i) i ns its=passA (qs.map (·.1)) 0 [] []
 lo:w.heap.size<gn∧w.heap.size<gm∧gn≠gm
theorem CcI.below {w wr wr':World} {A:Option Addr} {c:Nat} {qs:List LnQ} {gn gm i:Nat} {ns:List ByteArray} {its:List ItR} (h:CcI w A c qs gn gm i ns its wr) (hb:Below wr.heap.size wr wr'):CcI w A c qs gn gm i ns its wr' :=
 ⟨h.lns.below hb,h.b2.below hb h.b2.lt,h.bel.trans (hb.mono h.bel.size),h.s1.below hb h.s1.lt,h.s2.below hb h.s2.lt,h.st,h.lo⟩
section
variable {x:LnR} {r:List LnR} {i:Nat} {ns:List ByteArray} {its:List ItR}
theorem passA_bad (h:chkL x≠0):passA (x :: r) i ns its=.inl (chkL x,(i:Int)):=by rw [passA,if_pos h]
theorem passA_skip (h:chkL x=0) (hk:x.k≠1):passA (x :: r) i ns its=passA r (i+1) ns its:=by rw [passA,if_neg (by simpa using h),if_pos hk]
theorem passA_twice (h:chkL x=0) (hk:x.k=1) (hm:itL x∈its):passA (x :: r) i ns its=.inl (9,(i:Int)):=by rw [passA,if_neg (by simpa using h),if_neg (by simpa using hk),if_pos hm]
theorem addN_is (s:ByteArray):addN ns s=addK ns s:=by unfold addN addK;by_cases h:s∈ns <;> simp [h]
theorem passA_full (h:chkL x=0) (hk:x.k=1) (hm:itL x∉its) (hb:8<(addK ns x.name).length∨24<its.length+1):passA (x :: r) i ns its=.inl (4,(i:Int)):=by
 rw [passA,if_neg (by simpa using h),if_neg (by simpa using hk),if_neg hm,addN_is,if_pos hb]
theorem passA_add (h:chkL x=0) (hk:x.k=1) (hm:itL x∉its) (hb:¬(8<(addK ns x.name).length∨24<its.length+1)):passA (x :: r) i ns its=passA r (i+1) (addK ns x.name) (its++[itL x]):=by
 rw [passA,if_neg (by simpa using h),if_neg (by simpa using hk),if_neg hm,addN_is,if_neg hb]
theorem addK_new {α:Type} {l:List α} {x:α} (h:x∉l):addK l x=l++[x]:=by unfold addK;rw [if_neg h]
theorem passB_hit (h:(x.k=2∨x.k=3)∧itL x∉its):passB its (x :: r) i=(7,(i:Int)):=by rw [passB,if_pos h]
theorem passB_miss (h:¬((x.k=2∨x.k=3)∧itL x∉its)):passB its (x :: r) i=passB its r (i+1):=by rw [passB,if_neg h]
end
theorem drop_map {qs:List LnQ} {i:Nat} (h:i<qs.length):(qs.map (·.1)).drop i=qs[i].1 :: (qs.map (·.1)).drop (i+1):=by
 rw [List.drop_eq_getElem_cons (by simpa using h),List.getElem_map]
theorem CcI.row {w wr:World} {A:Option Addr} {c:Nat} {qs:List LnQ} {gn gm i j:Nat} {ns:List ByteArray} {its:List ItR} (h:CcI w A c qs gn gm i ns its wr) (hj:j<qs.length):∃ g,A=some ⟨g,0,none⟩∧RowK elR wr g qs:=by
 rcases h.lns.1.form with ⟨_,h0⟩ | ⟨g,cap,e,_,_,_,hr⟩
 ·rw [h0] at hj;simp at hj
 ·injection e with e1 _ _;exact ⟨g,e1,hr⟩
theorem ft_tell {w wr:World} (h:Blk wr w.heap.size 80 #[.int .i64 0,.int .i64 0]) (hb:Below w.heap.size w wr) (a b:Value) :
  Blk ((wr.setCell ⟨w.heap.size,0,none⟩ a).setCell ⟨w.heap.size,1,none⟩ b) w.heap.size 80 #[a,b]∧Below w.heap.size w ((wr.setCell ⟨w.heap.size,0,none⟩ a).setCell ⟨w.heap.size,1,none⟩ b) :=
 ⟨(h.set_ 0 a).set_ 1 b,(hb.setCell (p:=⟨w.heap.size,0,none⟩) (Nat.le_refl _) a).setCell (p:=⟨w.heap.size,1,none⟩) (Nat.le_refl _) b⟩
set_option maxHeartbeats 16000000 in
theorem refCat_any (v:Value) (qs:List LnQ) (w:World) (h:LnsR w 0 v qs) (hF:FineP w):Calls Tryz.prog 32 #[v] w (RefCatP (qs.map (·.1)) w):=by
 obtain ⟨A,c,rfl,hc⟩:=h.1.len
 have hlen:(qs.map (·.1)).length=qs.length:=List.length_map _
 have HB0:=hide ((Below.refl w.heap.size w).alloc (Nat.le_refl _) (.cells #[.int .i64 0,.int .i64 0] 80))
 have HK0:=hide (Blk.new w 80 #[.int .i64 0,.int .i64 0])
 have HL0:=hide (h.below ((Below.refl w.heap.size w).alloc (Nat.le_refl _) (.cells #[.int .i64 0,.int .i64 0] 80)))
 have HF:=hide hF
 have HLN:=Lib.hid hlen
 unfold RefCatP
 by_cases hbig:100<qs.length
 ·have hz:(100:Int)<(qs.length:Int):=by omega
  rw [catF_big (by rw [hlen];exact hbig)]
  clear h hF hlen
  go_enter Tryz.func32,Tryz.ntmps32
  go_wp2_with fail
  generalize (w.alloc (.cells #[.int .i64 0,.int .i64 0] 80))=w0 at HB0 HK0 ⊢
  refine (bare_any 4 w0).mono ?_
  rintro e wa ⟨rfl,rfl⟩
  have hal:=(Below.refl w0.heap.size w0).alloc (Nat.le_refl _) (.cells #[.int .i64 4,.int .i64 (-1)] 80)
  have HK1:=hide (HK0.out.below hal HK0.out.lt)
  have HB1:=hide (HB0.out.trans (hal.mono HB0.out.size))
  generalize (w0.alloc (.cells #[.int .i64 4,.int .i64 (-1)] 80))=w1 at HK1 HB1 ⊢
  obtain ⟨⟨c0,c1⟩,q0,q1⟩:=blk2 HK1.out
  clear hal
  go_wp2_with fail
  have h2:=(HK1.out.set_ 0 (.int .i64 4)).set_ 1 (.int .i64 (-1))
  have hbe:=(HB1.out.setCell (p:=⟨w.heap.size,0,none⟩) (Nat.le_refl _) (.int .i64 4)).setCell (p:=⟨w.heap.size,1,none⟩) (Nat.le_refl _) (.int .i64 (-1))
  clear c0 c1 q0 q1
  generalize World.setCell _ ⟨w.heap.size,1,none⟩ (.int .i64 (-1))=W at h2 hbe ⊢
  obtain ⟨⟨n0,n1⟩,_⟩:=blk2 h2
  exact bodyPost_ret (v:=.agg #[.int .i64 4,.int .i64 (-1)]) (by simp [results,Tryz.results32,go_sem,n0,n1]) rfl ⟨rfl,hbe⟩
 ·have hz:¬(100:Int)<(qs.length:Int):=by omega
  have HBG:=Lib.hid (show ¬100<(qs.map (·.1)).length by rw [hlen];exact hbig)
  have hmm:=@run_makeMap Tryz.prog
  clear h hF hlen
  go_enter Tryz.func32,Tryz.ntmps32
  go_wp2_with fail
  have HI0:=hide (show CcI w A c qs (w.heap.size+1) (w.heap.size+1+1) 0 [] [] (((w.alloc (.cells #[.int .i64 0,.int .i64 0] 80)).alloc (.map #[] 0)).alloc (.map #[] 0)) from
   ⟨(HL0.out.below ((Below.refl _ _).alloc (Nat.le_refl _) _)).below ((Below.refl _ _).alloc (Nat.le_refl _) _),(HK0.out.alloc _).alloc _,(HB0.out.alloc HB0.out.size _).alloc (Nat.le_trans HB0.out.size (by simp)) _,
    (by
     have:=(setN_made (kt:=9) (lit:=fun s:ByteArray=>.string s.data.toList) (ok:=okS) (w.alloc (.cells #[.int .i64 0,.int .i64 0] 80))).same (w':=((w.alloc (.cells #[.int .i64 0,.int .i64 0] 80)).alloc (.map #[] 0)).alloc (.map #[] 0)) (Below.heap_alloc _ _ _ (by simp))
     rw [World.size_alloc] at this
     exact this),(by
     have:=setN_made (kt:=162) (lit:=itLit) (ok:=okI) ((w.alloc (.cells #[.int .i64 0,.int .i64 0] 80)).alloc (.map #[] 0))
     rw [World.size_alloc,World.size_alloc] at this
     exact this),rfl,by omega,by omega,by omega⟩)
  clear HB0 HK0 HL0
  generalize (((w.alloc (.cells #[.int .i64 0,.int .i64 0] 80)).alloc (.map #[] 0)).alloc (.map #[] 0))=w2 at HI0 ⊢
  generalize w.heap.size+1+1=gm at HI0 ⊢
  generalize w.heap.size+1=gn at HI0 ⊢
  go_loopw [19] (fun iv wr=>∃ (i:Nat) (ns:List ByteArray) (its:List ItR),i≤qs.length∧iv=.int .i64 i∧Hid (CcI w A c qs gn gm i ns its wr)) (fun iv _=>qs.length-(intOf iv).toNat)
  case atStart=>exact ⟨0,[],[],Nat.zero_le _,rfl,HI0⟩
  case round =>
   clear HI0
   obtain ⟨i,ns,its,hi,rfl,HI⟩:=hrel
   by_cases hlt:i<qs.length
   ·have hltz:(i:Int)<(qs.length:Int):=by omega
    obtain ⟨g,rfl,hr⟩:=HI.out.row hlt
    obtain ⟨y0,y1,y2,y3,y4,y5,y6⟩:=row7 rfl rfl hr hlt
    have hmem:qs[i]∈qs:=List.getElem_mem hlt
    obtain ⟨hown,hok⟩:=HI.out.lns.2 _ hmem
    have hn9:qs[i].2.2.1=(flatI qs[i].1.rg).length:=by
     obtain ⟨A',c',e⟩:=hown.len
     unfold slQ at e
     injection e
    have hp:=HI.out.st
    rw [drop_map hlt] at hp
    have HCK:=hide (fun W=>refChk_any qs[i] hok hn9 W)
    unfold ChkP lnA at HCK
    have HOK:=hide hok
    have HP:=Lib.hid hp
    clear hmem hown hok hn9 hr hp
    generalize qs[i].1=x at y0 y1 y2 y3 y4 y5 HCK HOK HP
    generalize qs[i].2.1=B9 at y6 HCK
    generalize qs[i].2.2.1=n9 at y6 HCK
    generalize qs[i].2.2.2=c9 at y6 HCK
    have HX1:=hide (HI.out.below ((Below.refl wr.heap.size wr).alloc (Nat.le_refl _) (.cells #[.int .i64 x.k,.string x.name,.int .i64 (x.ver 0),.int .i64 (x.ver 1),.int .i64 (x.ver 2),.string x.other,.slice B9 n9 c9] 34)))
    have HX6:=hide (Blk.new wr 34 #[.int .i64 x.k,.string x.name,.int .i64 (x.ver 0),.int .i64 (x.ver 1),.int .i64 (x.ver 2),.string x.other,.slice B9 n9 c9])
    go_wp2_with fail
    generalize World.alloc _ (.cells #[.int .i64 x.k,.string x.name,.int .i64 (x.ver 0),.int .i64 (x.ver 1),.int .i64 (x.ver 2),.string x.other,.slice B9 n9 c9] 34)=w3 at HX1 HX6 ⊢
    generalize wr.heap.size=b6 at HX6 ⊢
    clear y0 y1 y2 y3 y4 y5 y6 HI
    refine (HCK.out w3).mono ?_
    rintro e w4 ⟨rfl,hb4⟩
    have HX2:=hide (HX1.out.below hb4)
    have HK2:=hide (HX6.out.below hb4 HX6.out.lt)
    obtain ⟨⟨k0,k1,k2,k3,k4,k5,k6⟩,_⟩:=blk7 HK2.out
    clear HCK HX1 HX6 hb4
    by_cases hE:chkL x=0
    ·have hEb:(chkL x==0)=true:=by rw [hE];rfl
     by_cases hk1:x.k=1
     ·have hkb:(x.k==1)=true:=by rw [hk1];rfl
      have HX3:=hide (HX2.out.below ((Below.refl w4.heap.size w4).alloc (Nat.le_refl _) (.cells #[.string x.name,.int .i64 (x.ver 0),.int .i64 (x.ver 1),.int .i64 (x.ver 2)] 162)))
      have HK3:=hide (HK2.out.alloc (.cells #[.string x.name,.int .i64 (x.ver 0),.int .i64 (x.ver 1),.int .i64 (x.ver 2)] 162))
      have HM3:=hide (Blk.new w4 162 #[.string x.name,.int .i64 (x.ver 0),.int .i64 (x.ver 1),.int .i64 (x.ver 2)])
      have hl4:w.heap.size<w4.heap.size:=HX2.out.b2.lt
      by_cases hin:itL x∈its
      ·have hlk:=SetN.look_t keyIt Tryz.underlying159 HX3.out.s2 (itL x) (okI_of HOK.out) hin
       unfold itA itL at hlk
       simp only [] at hlk
       have HV:=Lib.hid ((passA_twice hE hk1 hin).symm.trans HP.out)
       obtain ⟨⟨d0,d1⟩,r0,r1⟩:=blk2 HX2.out.b2
       clear hE hk1 hin
       go_wp2_with fail
       obtain ⟨h2',hbe'⟩:=ft_tell HX2.out.b2 HX2.out.bel (.int .i64 9) (.int .i64 (i:Int))
       have h2:=h2'.alloc (.cells #[.string x.name,.int .i64 (x.ver 0),.int .i64 (x.ver 1),.int .i64 (x.ver 2)] 162)
       have hbe:=hbe'.alloc hbe'.size (.cells #[.string x.name,.int .i64 (x.ver 0),.int .i64 (x.ver 1),.int .i64 (x.ver 2)] 162)
       clear d0 d1 r0 r1 h2' hbe' hlk
       generalize World.alloc _ (.cells #[.string x.name,.int .i64 (x.ver 0),.int .i64 (x.ver 1),.int .i64 (x.ver 2)] 162)=W at h2 hbe ⊢
       obtain ⟨⟨n0,n1⟩,_⟩:=blk2 h2
       exact bodyPost_ret (v:=.agg #[.int .i64 9,.int .i64 (i:Int)]) (by simp [results,Tryz.results32,go_sem,n0,n1]) rfl ⟨by rw [catF_a HBG.out HV.out.symm],hbe⟩
      ·have hlk:=SetN.look_f keyIt Tryz.underlying159 HX3.out.s2 (itL x) (okI_of HOK.out) hin
       unfold itA itL at hlk
       simp only [] at hlk
       have HIN:=Lib.hid hin
       have HE:=Lib.hid hE
       have HK1:=Lib.hid hk1
       clear hE hin hk1
       go_wp2_with fail
       have HGN:=Lib.hid (show gn<w4.heap.size∧gm<w4.heap.size from ⟨HX2.out.s1.lt,HX2.out.s2.lt⟩)
       clear hlk hl4 k0 k1 k2 k3 k4 k5 k6
       generalize World.alloc _ (.cells #[.string x.name,.int .i64 (x.ver 0),.int .i64 (x.ver 1),.int .i64 (x.ver 2)] 162)=w5 at HX3 HK3 HM3 ⊢
       generalize w4.heap.size=b8 at HM3 HGN ⊢
       obtain ⟨w6,e1,s1,g1⟩:=SetN.update keyNm Tryz.underlying158 (HX3.out.below (Below.refl _ _).drew).s1 x.name HOK.out.nm (by omega)
       obtain ⟨w7,e2,s2,g2⟩:=SetN.update keyIt Tryz.underlying159 ((HX3.out.below (Below.refl _ _).drew).s2.grown g1 (fun e=>HX3.out.lo.2.2 (Option.some.inj e).symm)) (itL x) (okI_of HOK.out) (by omega)
       unfold itA itL at e2
       simp only [] at e2
       have m0:=HM3.out.cell 0
       have m1:=HM3.out.cell 1
       have m2:=HM3.out.cell 2
       have m3:=HM3.out.cell 3
       have k1:=HK3.out.cell 1
       have HM6:=hide (HM3.out.drew.grown g1 (fun e=>by have:=HGN.out;have e2:=Option.some.inj e;omega))
       have m60:=HM6.out.cell 0
       have m61:=HM6.out.cell 1
       have m62:=HM6.out.cell 2
       have m63:=HM6.out.cell 3
       go_region
       have hF1:Fr (fun k=>k=gn∨k=gm) w5 w7:=(((Fr.refl _ w5).drew).grown g1 (fun k e=>.inl (Option.some.inj e).symm)).grown g2 (fun k e=>.inr (Option.some.inj e).symm)
       have hbl:Below w.heap.size w w7:=HX3.out.bel.trans (hF1.to_below HX3.out.bel.size (fun k hk e=>by have:=HX3.out.lo;omega))
       have hln:LnsR w7 0 (.slice (some ⟨g,0,none⟩) qs.length c) qs:=((HX3.out.below (Below.refl _ _).drew).lns.grown_map g1 (HX3.out.below (Below.refl _ _).drew).s1.map).grown_map g2 ((HX3.out.below (Below.refl _ _).drew).s2.grown g1 (fun e=>HX3.out.lo.2.2 (Option.some.inj e).symm)).map
       have s1':=s1.grown g2 (fun e=>HX3.out.lo.2.2 (Option.some.inj e))
       rw [addK_new HIN.out] at s2
       have l1:=s1'.lenIs Tryz.underlying158 ((addK ns x.name).length:Int) rfl 3
       have l2:=s2.lenIs Tryz.underlying159 ((its.length:Int)+1) (by rw [List.length_append,List.length_singleton];rfl) 3
       have HS1:=hide s1'
       have HS2:=hide s2
       have HLN7:=hide hln
       have HBL7:=hide hbl
       have HB2:=hide (HX3.out.b2.fr hF1 (by have:=HX3.out.lo;omega))
       have HLO:=Lib.hid HX3.out.lo
       clear e1 e2 s1 s2 s1' g1 g2 m0 m1 m2 m3 m60 m61 m62 m63 k1 HM6 HM3 HK3 hF1 hbl hln HX3 HX2 HK2 HGN
       by_cases hb1:8<(addK ns x.name).length
       ·have hc1:(8:Int)<((addK ns x.name).length:Int):=by omega
        have HV:=Lib.hid ((passA_full HE.out HK1.out HIN.out (.inl hb1)).symm.trans HP.out)
        clear hb1
        obtain ⟨⟨d0,d1⟩,r0,r1⟩:=blk2 HB2.out
        go_wp2_with fail
        obtain ⟨h2,hbe⟩:=ft_tell HB2.out HBL7.out (.int .i64 4) (.int .i64 (i:Int))
        clear d0 d1 r0 r1
        generalize World.setCell _ ⟨w.heap.size,1,none⟩ (.int .i64 (i:Int))=W at h2 hbe ⊢
        obtain ⟨⟨n0,n1⟩,_⟩:=blk2 h2
        exact bodyPost_ret (v:=.agg #[.int .i64 4,.int .i64 (i:Int)]) (by simp [results,Tryz.results32,go_sem,n0,n1]) rfl ⟨by rw [catF_a HBG.out HV.out.symm],hbe⟩
       ·have hc1:¬(8:Int)<((addK ns x.name).length:Int):=by omega
        by_cases hb2:24<its.length+1
        ·have hc2:(24:Int)<(its.length:Int)+1:=by omega
         have HV:=Lib.hid ((passA_full HE.out HK1.out HIN.out (.inr hb2)).symm.trans HP.out)
         clear hb1 hb2
         obtain ⟨⟨d0,d1⟩,r0,r1⟩:=blk2 HB2.out
         go_wp2_with fail
         obtain ⟨h2,hbe⟩:=ft_tell HB2.out HBL7.out (.int .i64 4) (.int .i64 (i:Int))
         clear d0 d1 r0 r1
         generalize World.setCell _ ⟨w.heap.size,1,none⟩ (.int .i64 (i:Int))=W at h2 hbe ⊢
         obtain ⟨⟨n0,n1⟩,_⟩:=blk2 h2
         exact bodyPost_ret (v:=.agg #[.int .i64 4,.int .i64 (i:Int)]) (by simp [results,Tryz.results32,go_sem,n0,n1]) rfl ⟨by rw [catF_a HBG.out HV.out.symm],hbe⟩
        ·have hc2:¬(24:Int)<(its.length:Int)+1:=by omega
         have HV:=Lib.hid ((passA_add HE.out HK1.out HIN.out (by omega)).symm.trans HP.out)
         have HN:=hide (show CcI w (some ⟨g,0,none⟩) c qs gn gm (i+1) (addK ns x.name) (its++[itL x]) w7 from ⟨HLN7.out,HB2.out,HBL7.out,HS1.out,HS2.out,HV.out,HLO.out⟩)
         clear hb1 hb2
         go_wp2_with fail
         go_round
         case rel=>exact ⟨i+1,addK ns x.name,its++[itL x],by omega,by go_num,HN⟩
         case measure=>simp [intOf];omega
     ·have hkb:(x.k==1)=false:=beq_eq_false_iff_ne.2 hk1
      have HV:=Lib.hid ((passA_skip hE hk1).symm.trans HP.out)
      have HN:=hide (show CcI w (some ⟨g,0,none⟩) c qs gn gm (i+1) ns its w4 from ⟨HX2.out.lns,HX2.out.b2,HX2.out.bel,HX2.out.s1.more,HX2.out.s2.more,HV.out,HX2.out.lo⟩)
      clear hE hk1
      go_wp2_with fail
      go_round
      case rel=>exact ⟨i+1,ns,its,by omega,by go_num,HN⟩
      case measure=>simp [intOf];omega
    ·have hEb:(chkL x==0)=false:=beq_eq_false_iff_ne.2 hE
     have hEc:(!(chkL x==0))=true:=by rw [hEb];rfl
     have HV:=Lib.hid ((passA_bad (r:=(qs.map (·.1)).drop (i+1)) (i:=i) (ns:=ns) (its:=its) hE).symm.trans HP.out)
     clear hE
     obtain ⟨⟨d0,d1⟩,r0,r1⟩:=blk2 HX2.out.b2
     go_wp2_with fail
     obtain ⟨h2,hbe⟩:=ft_tell HX2.out.b2 HX2.out.bel (.int .i64 (chkL x)) (.int .i64 (i:Int))
     clear d0 d1 r0 r1
     generalize World.setCell _ ⟨w.heap.size,1,none⟩ (.int .i64 (i:Int))=W at h2 hbe ⊢
     obtain ⟨⟨n0,n1⟩,_⟩:=blk2 h2
     exact bodyPost_ret (v:=.agg #[.int .i64 (chkL x),.int .i64 (i:Int)]) (by simp [results,Tryz.results32,go_sem,n0,n1]) rfl ⟨by rw [catF_a HBG.out HV.out.symm],hbe⟩
   ·obtain rfl:i=qs.length:=by omega
    have hltz:¬(qs.length:Int)<(qs.length:Int):=by omega
    have hp:=HI.out.st
    rw [show (qs.map (·.1)).drop qs.length=[] from List.drop_eq_nil_of_le (by simp),passA] at hp
    have HCB:=Lib.hid (catF_b HBG.out hp.symm)
    clear hp
    go_wp2_with fail
    go_loopw [62] (fun jv w2=>∃ j:Nat,j≤qs.length∧jv=.int .i64 j∧Hid (CcI w A c qs gn gm qs.length ns its w2)∧Hid (passB its ((qs.map (·.1)).drop j) j=passB its (qs.map (·.1)) 0)) (fun jv _=>qs.length-(intOf jv).toNat)
    case atStart=>exact ⟨0,Nat.zero_le _,rfl,HI,Lib.hid rfl⟩
    case round =>
     clear HI
     obtain ⟨j,hj,rfl,HI,HPB⟩:=hrel
     by_cases hlt:j<qs.length
     ·have hltz:(j:Int)<(qs.length:Int):=by omega
      obtain ⟨g,rfl,hr⟩:=HI.out.row hlt
      obtain ⟨y0,y1,y2,y3,y4,y5,y6⟩:=row7 rfl rfl hr hlt
      have hok:=(HI.out.lns.2 _ (List.getElem_mem hlt)).2
      have hpb:=HPB.out
      rw [drop_map hlt] at hpb
      have HOK:=hide hok
      have HP:=Lib.hid hpb
      clear hok hr hpb HPB
      generalize qs[j].1=x at y0 y1 y2 y3 y4 y5 HOK HP
      generalize qs[j].2.1=B9 at y6
      generalize qs[j].2.2.1=n9 at y6
      generalize qs[j].2.2.2=c9 at y6
      have hl4:w.heap.size<wr.heap.size:=HI.out.b2.lt
      have HX1:=hide (HI.out.below ((Below.refl wr.heap.size wr).alloc (Nat.le_refl _) (.cells #[.int .i64 x.k,.string x.name,.int .i64 (x.ver 0),.int .i64 (x.ver 1),.int .i64 (x.ver 2),.string x.other,.slice B9 n9 c9] 34)))
      by_cases hk2:x.k=2
      ·have hb2:(x.k==2)=true:=by rw [hk2];rfl
       by_cases hin:itL x∈its
       ·have hlk:=SetN.look_t keyIt Tryz.underlying159 HX1.out.s2 (itL x) (okI_of HOK.out) hin
        have hms:¬((x.k=2∨x.k=3)∧itL x∉its):=fun h=>h.2 hin
        unfold itA itL at hlk
        simp only [] at hlk
        clear hin hk2
        have HN:=Lib.hid ((passB_miss hms).symm.trans HP.out)
        clear hms
        go_wp2_with fail
        go_round
        case rel=>exact ⟨j+1,by omega,by go_num,HX1,HN⟩
        case measure=>simp [intOf];omega
       ·have hlk:=SetN.look_f keyIt Tryz.underlying159 HX1.out.s2 (itL x) (okI_of HOK.out) hin
        have HV:=Lib.hid ((passB_hit (i:=j) (r:=(qs.map (·.1)).drop (j+1)) ⟨.inl hk2,hin⟩).symm.trans HP.out)
        unfold itA itL at hlk
        simp only [] at hlk
        clear hin hk2
        obtain ⟨⟨d0,d1⟩,r0,r1⟩:=blk2 HI.out.b2
        go_wp2_with fail
        obtain ⟨h2',hbe'⟩:=ft_tell HI.out.b2 HI.out.bel (.int .i64 7) (.int .i64 (j:Int))
        have h2:=h2'.alloc (.cells #[.int .i64 x.k,.string x.name,.int .i64 (x.ver 0),.int .i64 (x.ver 1),.int .i64 (x.ver 2),.string x.other,.slice B9 n9 c9] 34)
        have hbe:=hbe'.alloc hbe'.size (.cells #[.int .i64 x.k,.string x.name,.int .i64 (x.ver 0),.int .i64 (x.ver 1),.int .i64 (x.ver 2),.string x.other,.slice B9 n9 c9] 34)
        clear d0 d1 r0 r1 h2' hbe' hlk
        generalize World.alloc _ (.cells #[.int .i64 x.k,.string x.name,.int .i64 (x.ver 0),.int .i64 (x.ver 1),.int .i64 (x.ver 2),.string x.other,.slice B9 n9 c9] 34)=W at h2 hbe ⊢
        obtain ⟨⟨n0,n1⟩,_⟩:=blk2 h2
        exact bodyPost_ret (v:=.agg #[.int .i64 7,.int .i64 (j:Int)]) (by simp [results,Tryz.results32,go_sem,n0,n1]) rfl ⟨by rw [HCB.out,←HV.out],hbe⟩
      have hb2:(x.k==2)=false:=beq_eq_false_iff_ne.2 hk2
      by_cases hk3:x.k=3
      ·have hb3:(x.k==3)=true:=by rw [hk3];rfl
       by_cases hin:itL x∈its
       ·have hlk:=SetN.look_t keyIt Tryz.underlying159 HX1.out.s2 (itL x) (okI_of HOK.out) hin
        have hms:¬((x.k=2∨x.k=3)∧itL x∉its):=fun h=>h.2 hin
        unfold itA itL at hlk
        simp only [] at hlk
        clear hin hk3
        have HN:=Lib.hid ((passB_miss hms).symm.trans HP.out)
        clear hms
        go_wp2_with fail
        go_round
        case rel=>exact ⟨j+1,by omega,by go_num,HX1,HN⟩
        case measure=>simp [intOf];omega
       ·have hlk:=SetN.look_f keyIt Tryz.underlying159 HX1.out.s2 (itL x) (okI_of HOK.out) hin
        have HV:=Lib.hid ((passB_hit (i:=j) (r:=(qs.map (·.1)).drop (j+1)) ⟨.inr hk3,hin⟩).symm.trans HP.out)
        unfold itA itL at hlk
        simp only [] at hlk
        clear hin hk3
        obtain ⟨⟨d0,d1⟩,r0,r1⟩:=blk2 HI.out.b2
        go_wp2_with fail
        obtain ⟨h2',hbe'⟩:=ft_tell HI.out.b2 HI.out.bel (.int .i64 7) (.int .i64 (j:Int))
        have h2:=h2'.alloc (.cells #[.int .i64 x.k,.string x.name,.int .i64 (x.ver 0),.int .i64 (x.ver 1),.int .i64 (x.ver 2),.string x.other,.slice B9 n9 c9] 34)
        have hbe:=hbe'.alloc hbe'.size (.cells #[.int .i64 x.k,.string x.name,.int .i64 (x.ver 0),.int .i64 (x.ver 1),.int .i64 (x.ver 2),.string x.other,.slice B9 n9 c9] 34)
        clear d0 d1 r0 r1 h2' hbe' hlk
        generalize World.alloc _ (.cells #[.int .i64 x.k,.string x.name,.int .i64 (x.ver 0),.int .i64 (x.ver 1),.int .i64 (x.ver 2),.string x.other,.slice B9 n9 c9] 34)=W at h2 hbe ⊢
        obtain ⟨⟨n0,n1⟩,_⟩:=blk2 h2
        exact bodyPost_ret (v:=.agg #[.int .i64 7,.int .i64 (j:Int)]) (by simp [results,Tryz.results32,go_sem,n0,n1]) rfl ⟨by rw [HCB.out,←HV.out],hbe⟩
      have hb3:(x.k==3)=false:=beq_eq_false_iff_ne.2 hk3
      have hms:¬((x.k=2∨x.k=3)∧itL x∉its):=fun h=>h.1.elim hk2 hk3
      clear hk2 hk3
      have HN:=Lib.hid ((passB_miss hms).symm.trans HP.out)
      clear hms
      go_wp2_with fail
      go_round
      case rel=>exact ⟨j+1,by omega,by go_num,HX1,HN⟩
      case measure=>simp [intOf];omega
     ·obtain rfl:j=qs.length:=by omega
      have hltz:¬(qs.length:Int)<(qs.length:Int):=by omega
      have hpb:=HPB.out
      rw [show (qs.map (·.1)).drop qs.length=[] from List.drop_eq_nil_of_le (by simp),passB] at hpb
      have HV:=Lib.hid (HCB.out.trans hpb.symm)
      have g0:=(HI.out.bel.cell (lt_of_cell HF.out.1)).trans HF.out.1
      have g1:=(HI.out.bel.cell (p:=⟨0,1,none⟩) (lt_of_cell HF.out.2)).trans HF.out.2
      clear hpb HPB
      obtain ⟨⟨d0,d1⟩,r0,r1⟩:=blk2 HI.out.b2
      go_wp2_with fail
      obtain ⟨h2,hbe⟩:=ft_tell HI.out.b2 HI.out.bel (.int .i64 0) (.int .i64 (-1))
      clear d0 d1 r0 r1
      generalize World.setCell _ ⟨w.heap.size,1,none⟩ (.int .i64 (-1))=W at h2 hbe ⊢
      obtain ⟨⟨n0,n1⟩,_⟩:=blk2 h2
      exact bodyPost_ret (v:=.agg #[.int .i64 0,.int .i64 (-1)]) (by simp [results,Tryz.results32,go_sem,n0,n1]) rfl ⟨by rw [HV.out],hbe⟩
end Go.Proofs.YtojgbcmhdnappaaGreatDoor
