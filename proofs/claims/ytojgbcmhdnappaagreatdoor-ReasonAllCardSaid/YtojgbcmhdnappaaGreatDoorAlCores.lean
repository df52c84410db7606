/-
  A part of the proof: Cores. Conditions: none.
-/
import Derived.Test.YtojgbcmhdnappaaGreatDoorAlCrsRow
import Derived.BigQuiet
namespace Go.Proofs.YtojgbcmhdnappaaGreatDoor
open Go.RowKit
set_option maxRecDepth 100000
noncomputable def okF (ls:List LnR) (set:Nat):Bool:=holdF (itemsF ls).length (onlyF (rulesF (itemsF ls) ls) (onLB (saysF ls 0) set (saysF ls 0).length 100))
def CoresP (ok:Nat→Bool) (m:Nat) (w:World) (e:Ending) (w':World):Prop:=Below w.heap.size w w' ∧
 ((10<m∧e=.returned (.tuple #[.slice none 0 0,.slice none 0 0,.iface 41 (.int .i64 4)]))∨(m≤10∧∃ va vb,e=.returned (.tuple #[va,vb,.nilIface])∧CrsP ok m w va vb w'))
set_option maxHeartbeats 16000000 in
theorem cores_any (g base:Nat) (qs:List LnQ) (its0:List ItR) (w:World) (h:CatO w base g qs) (hc:catR (qs.map (·.1))=.inr its0) (hn:(itemsF (qs.map (·.1))).length≤10) (hl:(rulesF (itemsF (qs.map (·.1))) (qs.map (·.1))).length≤200) :
  Calls Tryz.prog 9 #[.pointer (some ⟨g,0,none⟩)] w (CoresP (okF (qs.map (·.1))) (saysF (qs.map (·.1)) 0).length w):=by
 have hq100:qs.length≤100:=by have:=(catR_ok hc).2.2.2.1;simpa using this
 have HOF:=hide (rulesOf_any g base qs its0 w h hc)
 have HLI:=Lib.hid (fun W (h:CatO W base g qs)=>reaLines_any g base qs W h (by omega))
 have HCO:=hide h
 have HLT:=Lib.hid (rules_lits hc)
 have HF:=Lib.hid (from_rng (its:=itemsF (qs.map (·.1))) (ls:=qs.map (·.1)) (by rw [List.length_map];exact hq100))
 have HS100:=Lib.hid (show ∀ x∈saysF (qs.map (·.1)) 0,x<100 from fun x hx=>by have:=((saysF_rng (qs.map (·.1)) 0).1 x hx).2;rw [List.length_map] at this;omega)
 have HOK:=Lib.hid (show ∀ set,okF (qs.map (·.1)) set=holdF (itemsF (qs.map (·.1))).length (onlyF (rulesF (itemsF (qs.map (·.1))) (qs.map (·.1))) (onLB (saysF (qs.map (·.1)) 0) set (saysF (qs.map (·.1)) 0).length 100)) from fun _=>rfl)
 unfold SaysP at HLI
 unfold OfP at HOF
 generalize okF (qs.map (·.1))=ok at HOK ⊢
 generalize (itemsF (qs.map (·.1)))=its at HOF HLT HF HOK hn hl ⊢
 generalize rulesF its (qs.map (·.1))=R at HOF HLT HF HOK hl ⊢
 generalize saysF (qs.map (·.1)) 0=sy at HLI HS100 HOK ⊢
 generalize its.length=n at HOF HLT HOK hn ⊢
 have HNN:=Lib.hid hn
 have HRL:=Lib.hid hl
 clear h hc hn hq100
 go_enter Tryz.func9,Tryz.ntmps9
 go_wp2_with fail
 refine HOF.out.mono ?_
 rintro e w1 (⟨_,v,vF,rfl,hr1,hb1⟩ | ⟨h200,_⟩)
 case inr=>exact absurd h200 (by omega)
 clear hl
 obtain ⟨Av,cv,Af,cf,e1,e2⟩:=hr1.form
 rw [List.length_map] at e1 e2
 subst e1 e2
 have hal:=(Below.refl w1.heap.size w1).alloc (Nat.le_refl _) (.cells #[.int .i64 (n:Int),.slice Av R.length cv,.slice Af R.length cf] 112)
 have HRU:=hide (hr1.below hal)
 have HK:=hide (Blk.new w1 112 #[.int .i64 (n:Int),.slice Av R.length cv,.slice Af R.length cf])
 have HB:=hide (hb1.trans (hal.mono hb1.size))
 have HCO2:=hide ((HCO.out.below hb1).below hal)
 clear hal hr1 hb1 HOF HCO
 go_wp2_with fail
 generalize w1.heap.size=b5 at HK ⊢
 generalize (w1.alloc (.cells #[.int .i64 (n:Int),.slice Av R.length cv,.slice Af R.length cf] 112))=wD at HRU HK HB HCO2 ⊢
 refine (HLI.out wD HCO2.out).mono ?_
 rintro e w2 ⟨vs,rfl,hsy2,hb2⟩
 obtain ⟨As,cm,rfl,_⟩:=hsy2.toK.len
 rw [natI_len] at hsy2 ⊢
 have HSY:=hide (hsy2.mono HB.out.size)
 have HB2:=hide (HB.out.trans (hb2.mono HB.out.size))
 have HRU2:=hide (HRU.out.below hb2)
 have HK2:=hide (HK.out.below hb2 HK.out.lt)
 clear hsy2 hb2 HLI HCO2 HRU HK HB
 by_cases h10:sy.length≤10
 case neg =>
  have hlz:(10:Int)<(sy.length:Int):=by omega
  have h11:10<sy.length:=by omega
  clear HRU2 HK2 HSY
  go_wp2_with fail
  exact bodyPost_ret (v:=.tuple #[.slice none 0 0,.slice none 0 0,.iface 41 (.int .i64 4)]) (by simp [results,Tryz.results9,go_sem]) rfl ⟨HB2.out,.inl ⟨h11,rfl⟩⟩
 have hlz:¬(10:Int)<(sy.length:Int):=by omega
 have hmn:min sy.length 64=sy.length:=by omega
 obtain ⟨hp1,hp2,hp3,hp4,hp5⟩:=onesQ h10
 have H10:=Lib.hid h10
 obtain ⟨m,HMM⟩:∃ m,Hid (sy.length=m):=⟨_,Lib.hid rfl⟩
 rw [HMM.out] at h10 hp1 hp2 hp3 hp4 hp5 hmn hlz HSY ⊢
 obtain ⟨M,HM⟩:∃ M,Hid (2 ^ m-1=M):=⟨_,Lib.hid rfl⟩
 obtain ⟨N,HN⟩:∃ N,Hid (2 ^ m=N):=⟨_,Lib.hid rfl⟩
 rw [HM.out] at hp2 hp3
 rw [HN.out] at hp1 hp2 hp3 hp4 hp5
 have hal:=(Below.refl w2.heap.size w2).alloc (Nat.le_refl _) (.cells (boolArr (preB ok N 0)) 4)
 have HI0:=hide (show BlI w2 w2.heap.size (preB ok N 0) (w2.alloc (.cells (boolArr (preB ok N 0)) 4)) from ⟨Blk.new w2 _ _,hal⟩)
 have hmk:(Instr.makeSlice 116 (.int .u64 (N:Int)) (.int .u64 (N:Int))).run Tryz.prog w2=.ok (.slice (some ⟨w2.heap.size,0,none⟩) N N) (w2.alloc (.cells (boolArr (preB ok N 0)) 4)):=by
  rw [preB_zero]
  exact mk_boolsU N (by omega) _
 clear hal
 go_upto_region 9 with fail
 generalize (w2.alloc (.cells (boolArr (preB ok N 0)) 4))=w3 at HI0 hmk ⊢
 clear hmk
 obtain ⟨gB,HGB⟩:∃ gB,Hid (w2.heap.size=gB):=⟨_,Lib.hid rfl⟩
 rw [HGB.out] at HI0 ⊢
 go_wp2_with fail
 go_loopw [2,3,38] (fun av bv iv wr=>∃ i:Nat,i≤N∧iv=.int .u64 i∧av=.slice none 0 0∧bv=.slice none 0 0∧Hid (BlI w2 gB (preB ok N i) wr)) (fun _ _ iv _=>N-(intOf iv).toNat)
 case atStart=>exact ⟨0,Nat.zero_le _,rfl,rfl,rfl,HI0⟩
 case round =>
  clear HI0
  obtain ⟨i,hi,rfl,rfl,rfl,HI⟩:=hrel
  by_cases hlt:i<N
  ·have hltz:(i:Int)<(N:Int):=by omega
   have hinc:IntKind.u64.wrap ((i:Int)+1)=((i+1:Nat):Int):=by rw [IntKind.wrap_u64];omega
   have HCA:=hide (can_lines n _ (.slice Av R.length cv) (.slice Af R.length cf) R As cm sy i wr (HRU2.out.below HI.out.bel) (by rw [HMM.out];exact HSY.out.below HI.out.bel) HNN.out HLT.out HF.out HRL.out HS100.out H10.out (by rw [HMM.out,HN.out];exact hlt))
   rw [←HOK.out i,HMM.out] at HCA
   unfold CanT at HCA
   have q0:=(HI.out.bel.cell (p:=⟨b5,0,none⟩) HK2.out.lt).trans (HK2.out.cell 0)
   have q1:=(HI.out.bel.cell (p:=⟨b5,1,none⟩) HK2.out.lt).trans (HK2.out.cell 1)
   have q2:=(HI.out.bel.cell (p:=⟨b5,2,none⟩) HK2.out.lt).trans (HK2.out.cell 2)
   go_wp2_with fail
   refine HCA.out.mono ?_
   rintro e wt ⟨rfl,hbt⟩
   have HI2:=hide (HI.out.more hbt)
   have c0:=(HI2.out.kB.cell i).trans (boolArr_at (by rw [preB_len];exact hlt))
   have f0:=HI2.out.kB.frozen i
   have HN2:=hide (show BlI w2 gB (preB ok N (i+1)) (wt.setCell ⟨gB,i,none⟩ (.bool (ok i))) from by rw [preB_set _ hlt];exact HI2.out.step (Nat.le_of_eq HGB.out) _)
   generalize (preB ok N i).getD i false=ob at c0
   clear HI hbt HCA q0 q1 q2
   go_wp2_with fail
   go_round
   case rel=>exact ⟨i+1,by omega,by go_num,rfl,rfl,HN2⟩
   case measure=>simp [intOf];omega
  ·have hltz:¬(i:Int)<(N:Int):=by omega
   have hiN:i=N:=by omega
   have hT:BlI w2 gB ((List.range N).map ok) wr:=by have:=HI.out;rw [hiN,preB_all] at this;exact this
   have HBL:=hide (HB2.out.trans (hT.bel.mono HB2.out.size))
   have HCE:=Lib.hid (fun (W:World) (hb:Below wr.heap.size wr W) (j:Nat) (hj:j<N)=>show W.cell? ⟨gB,j,none⟩=some (.bool (ok j)) from by
    have h1:=hT.kB.cell j
    rw [boolArr_at (by rw [List.length_map,List.length_range];exact hj)] at h1
    rw [hb.cell (p:=⟨gB,j,none⟩) hT.kB.lt,h1,List.getD_eq_getElem?_getD,List.getElem?_map,List.getElem?_range hj]
    rfl)
   have HIU:=hide (show InU wr (coresF ok m 0) (fixesF ok m 0) (.slice none 0 0) (.slice none 0 0) wr from ⟨ownK_nil _ _ _,ownK_nil _ _ _,.inl rfl,Below.refl _ _⟩)
   obtain ⟨wL,rfl⟩:∃ wL,wL=wr:=⟨_,rfl⟩
   clear hT HI HRU2 HK2 HB2 HSY HLT HF HS100 HOK HRL HNN H10 hiN
   go_wp2_with fail
   go_loopw [2,3,57] (fun av bv iv wr=>∃ i:Nat,i≤N∧iv=.int .u64 i∧Hid (InU wL (coresF ok m i) (fixesF ok m i) av bv wr)) (fun _ _ iv _=>N-(intOf iv).toNat)
   case atStart=>exact ⟨0,Nat.zero_le _,rfl,HIU⟩
   case round=>as_aux_lemma =>
    clear HIU
    obtain ⟨i,hi,rfl,HI⟩:=hrel
    by_cases hlt:i<N
    ·have hltz:(i:Int)<(N:Int):=by omega
     have hinc:IntKind.u64.wrap ((i:Int)+1)=((i+1:Nat):Int):=by rw [IntKind.wrap_u64];omega
     have hi2:i<2 ^ m:=by rw [HN.out];exact hlt
     obtain ⟨q2,HQ2⟩:∃ q,Hid (2 ^ m-1-i=q):=⟨_,Lib.hid rfl⟩
     have hqa:=(allQ h10 hi2).1
     rw [HQ2.out,HM.out] at hqa
     have hq2:q2<N:=by have:=HQ2.out;rw [HN.out] at this;omega
     have hq2z:(q2:Int)<(N:Int):=by omega
     have c1:=HCE.out wr HI.out.bel i hlt
     have c2:=HCE.out wr HI.out.bel q2 hq2
     have HJ0:=Lib.hid (show CrJ ok m i 0 (.bool (!ok i)) (.bool (ok q2)) from ⟨rfl,by rw [←HQ2.out];rfl⟩)
     have HBQ:=Lib.hid (fun k (hk:k<m)=>bitQ h10 hi2 hk)
     clear hi2
     go_wp2_with fail
     go_quiet (fail)
     go_wp2_with fail
     go_loopw [11,12,73] (fun xv yv kv wj=>∃ k q:Nat,k≤m∧kv=.int .i64 k∧Hid (CrJ ok m i k xv yv)∧wj=wr.drewN q) (fun _ _ kv _=>m-(intOf kv).toNat)
     case atStart=>exact ⟨0,_,Nat.zero_le _,rfl,HJ0,by first | rfl | exact World.drewN_drewN ..⟩
     case round =>
      clear HJ0
      obtain ⟨k,q,hk,rfl,HJ,rfl⟩:=hrel
      obtain ⟨rfl,rfl⟩:=HJ.out
      by_cases hkm:k<m
      ·have hkz:(k:Int)<(m:Int):=by omega
       have hkn:min k 64=k:=by omega
       have hbq:=HBQ.out k hkm
       have hj1:CrJ ok m i (k+1) (.bool (if i.testBit k=true then coreF ok i k&&ok (i-2 ^ k) else coreF ok i k)) (.bool (if i.testBit k=true then fixF ok (2 ^ m-1) i k&&!ok (2 ^ m-1-i+2 ^ k) else fixF ok (2 ^ m-1) i k)):=⟨rfl,rfl⟩
       rw [HQ2.out] at hbq hj1
       generalize q2+2 ^ k=q3 at hbq hj1
       generalize i-2 ^ k=q1 at hbq hj1
       generalize 2 ^ k=P at hbq
       generalize i.testBit k=tb at hbq hj1
       have hwr:=hbq.wr
       have hnz:=hbq.nz
       have hl1:=hbq.lt1
       rw [HN.out] at hl1
       clear c1 c2 HJ
       generalize coreF ok i k=b1 at hj1
       generalize fixF ok (2 ^ m-1) i k=b2 at hj1
       rcases tb with _ | _
       ·simp only [Bool.false_eq_true,if_false] at hj1
        have HJ1:=Lib.hid hj1
        clear hbq hj1
        go_wp2_with fail
        go_round
        case rel=>exact ⟨k+1,_,by omega,by go_num,HJ1,rfl⟩
        case measure=>simp [intOf];omega
       ·simp only [if_true] at hj1
        have hof:=hbq.off rfl
        have hon:=hbq.on rfl
        have hl3:=hbq.lt3 rfl
        rw [HN.out] at hl3
        have z1:(q1:Int)<(N:Int):=by omega
        have z3:(q3:Int)<(N:Int):=by omega
        have d1:=HCE.out wr HI.out.bel q1 hl1
        have d3:=HCE.out wr HI.out.bel q3 hl3
        have HJ1:=Lib.hid hj1
        clear hbq hj1
        generalize ok q1=o1 at d1 HJ1
        generalize ok q3=o3 at d3 HJ1
        rcases b1 with _ | _ <;> rcases b2 with _ | _
        all_goals
         go_wp2_with fail
         go_round
         case rel=>exact ⟨k+1,_,by omega,by go_num,HJ1,rfl⟩
         case measure=>simp [intOf];omega
      ·have hkz:¬(k:Int)<(m:Int):=by omega
       have hkm2:k=m:=by omega
       rw [hkm2]
       have HIq:=hide (HI.out.below (below_drewN (Below.refl _ _) q))
       have hca:=coresF_succ ok m i
       have hfa:=fixesF_succ ok m i
       have hla:(coresF ok m i).length≤90000000:=by have:=coresF_len ok m i;omega
       have hln:(fixesF ok m i).length≤90000000:=by have:=fixesF_len ok m i;omega
       generalize coresF ok m i=za at HIq hca hla
       generalize fixesF ok m i=zn at HIq hfa hln
       clear c1 c2 HJ HI HBQ
       generalize coreF ok i m=b1 at hca
       generalize fixF ok (2 ^ m-1) i m=b2 at hfa
       generalize wr.drewN q=wq at HIq
       have HFA2:=Lib.hid hca
       have HFN2:=Lib.hid hfa
       have HLA:=Lib.hid hla
       have HLN:=Lib.hid hln
       clear hca hfa hla hln
       have hal:=(Below.refl wq.heap.size wq).alloc (Nat.le_refl _) (.cells #[.int .u64 (i:Int)] 61)
       have HA1:=hide (HIq.out.below hal)
       have HKA:=hide (Blk.new wq 61 #[.int .u64 (i:Int)])
       clear hal
       rcases b1 with _ | _
       ·rcases b2 with _ | _
        ·go_wp2_with fail
         go_round
         case rel=>exact ⟨i+1,by omega,by go_num,hide (by rw [HFA2.out,HFN2.out];exact HIq.out)⟩
         case measure=>simp [intOf];omega
        ·go_wp2_with (at_builtin;refine appK1 elU _ uintInfoU rfl (by decide) rfl _ _ _ rfl wL.heap.size Tryz.underlying35 _ zn rfl HA1.out.rn wq.heap.size 1 i rfl HKA.out HLN.out HA1.out.bel.size ?_;intro v9 w8 ho9 hg9 hor9;have HN9:=hide (HA1.out.pushN ho9 hg9 hor9);clear ho9 hg9 hor9)
         go_round
         case rel=>exact ⟨i+1,by omega,by go_num,hide (by rw [HFA2.out,HFN2.out];exact HN9.out)⟩
         case measure=>simp [intOf];omega
       ·rcases b2 with _ | _
        ·go_wp2_with (at_builtin;refine appK1 elU _ uintInfoU rfl (by decide) rfl _ _ _ rfl wL.heap.size Tryz.underlying35 _ za rfl HA1.out.ra wq.heap.size 1 i rfl HKA.out HLA.out HA1.out.bel.size ?_;intro v9 w8 ho9 hg9 hor9;have HN9:=hide (HA1.out.pushA ho9 hg9 hor9);clear ho9 hg9 hor9)
         go_round
         case rel=>exact ⟨i+1,by omega,by go_num,hide (by rw [HFA2.out,HFN2.out];exact HN9.out)⟩
         case measure=>simp [intOf];omega
        ·go_wp2_with (first
          | (at_builtin;refine appK1 elU _ uintInfoU rfl (by decide) rfl _ _ _ rfl wL.heap.size Tryz.underlying35 _ za rfl HA1.out.ra wq.heap.size 1 i rfl HKA.out HLA.out HA1.out.bel.size ?_;intro v9 w8 ho9 hg9 hor9;have HN9:=hide (HA1.out.pushA ho9 hg9 hor9);clear ho9 hg9 hor9;have hal8:=(Below.refl w8.heap.size w8).alloc (Nat.le_refl _) (.cells #[.int .u64 (i:Int)] 61);have HA8:=hide (HN9.out.below hal8);have HK8:=hide (Blk.new w8 61 #[.int .u64 (i:Int)]);clear hal8)
          | (at_builtin;refine appK1 elU _ uintInfoU rfl (by decide) rfl _ _ _ rfl wL.heap.size Tryz.underlying35 _ zn rfl HA8.out.rn w8.heap.size 1 i rfl HK8.out HLN.out HA8.out.bel.size ?_;intro v7 w7 ho9 hg9 hor9;have HN7:=hide (HA8.out.pushN ho9 hg9 hor9);clear ho9 hg9 hor9))
         go_round
         case rel=>exact ⟨i+1,by omega,by go_num,hide (by rw [HFA2.out,HFN2.out];exact HN7.out)⟩
         case measure=>simp [intOf];omega
    ·have hltz:¬(i:Int)<(N:Int):=by omega
     have hin:i=N:=by omega
     subst hin
     have HV:=hide (show CrsP ok m w u2 u3 wr from by unfold CrsP;rw [HN.out];exact ⟨HI.out.ra.mono HBL.out.size,HI.out.rn.mono HBL.out.size⟩)
     have HE:=hide (HBL.out.trans (HI.out.bel.mono HBL.out.size))
     clear HI
     go_wp2_with fail
     exact bodyPost_ret (v:=.tuple #[u2,u3,.nilIface]) (by simp [results,Tryz.results9,go_sem]) rfl ⟨HE.out,.inr (by rw [HMM.out];exact ⟨h10,u2,u3,rfl,HV.out⟩)⟩
end Go.Proofs.YtojgbcmhdnappaaGreatDoor
