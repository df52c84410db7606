/-
  A part of the proof: RefCrs, Small, OwnU. Conditions: none.
-/
import Derived.Test.YtojgbcmhdnappaaGreatDoorAlCores
import Derived.Test.YtojgbcmhdnappaaGreatDoorAlRulesOf
import Derived.Test.YtojgbcmhdnappaaGreatDoorAlRefItems
import Derived.Test.YtojgbcmhdnappaaGreatDoorAlClOf
import Derived.Test.YtojgbcmhdnappaaGreatDoorAlArenaReach
namespace Go.Proofs.YtojgbcmhdnappaaGreatDoor
open Go.RowKit Go.Maps
set_option maxRecDepth 100000
theorem keyS_u:KeyS 61 Nat (fun x:Nat=>.int .u64 (x:Int)) (fun x:Nat=>Lit.int .u64 (x:Int)) (fun x=>x<18446744073709551616) :=
 ⟨int_keyed Tryz.underlying61,fun x h=>keyOf_int_mk Tryz.underlying61 (by
  have h1:(0:Int)≤(x:Int):=by omega
  have h2:(x:Int)≤18446744073709551615:=by omega
  simp [Lit.wf,IntKind.min,IntKind.max,IntKind.signed,IntKind.bits]
  omega),fun x y e=>(by injection e with _ e;omega),fun _ _=>trivial⟩
theorem mapUB:Tryz.prog.underlying 120=some (.map 61 4):=Tryz.underlying120
def OkM (w:World) (b:Nat) (ok:Nat→Bool) (i m:Nat):Prop:=∃ f,MapG 61 (fun x:Nat=>Lit.int .u64 (x:Int)) (fun x=>x<18446744073709551616) w b f m∧∀ j:Nat,j<1024→(f j).getD (.bool false)=.bool (decide (j<i)&&ok j)
theorem OkM.below {w w':World} {b i m:Nat} {ok:Nat→Bool} (h:OkM w b ok i m) (hb:Below w.heap.size w w'):OkM w' b ok i m:=by
 obtain ⟨f,h1,h2⟩:=h
 exact ⟨f,h1.below hb,h2⟩
theorem okM_made (w:World) (ok:Nat→Bool):OkM (w.alloc (.map #[] 0)) w.heap.size ok 0 0:=⟨_,mapG_made w,fun j _=>by rw [decide_eq_false (by omega)];rfl⟩
theorem okM_put {w':World} {b i m:Nat} {ok:Nat→Bool} {f:Nat→Option Value} (hf:∀ j:Nat,j<1024→(f j).getD (.bool false)=.bool (decide (j<i)&&ok j)) (hm:MapG 61 (fun x:Nat=>Lit.int .u64 (x:Int)) (fun x=>x<18446744073709551616) w' b (fun y=>if y=i then some (.bool (ok i)) else f y) (m+1)):OkM w' b ok (i+1) (m+1):=by
 refine ⟨_,hm,fun j hj=>?_⟩
 by_cases e:j=i
 ·subst e
  rw [if_pos rfl,decide_eq_true (by omega),Bool.true_and]
  rfl
 ·rw [if_neg e,hf j hj,decide_eq_decide.2 (show j<i+1↔j<i by omega)]
theorem onM_put {w':World} {b set k m:Nat} {sy:List Nat} {f:Int→Option Value} (hk:k<sy.length) (hf:∀ i:Nat,i<100→(f (i:Int)).getD (.bool false)=.bool (onF sy set k i)) (hm:MapG 3 keyL I64 w' b (fun y=>if y=((sy[k]:Nat):Int) then some (.bool (set.testBit k)) else f y) (m+1)):OnM w' b sy set (k+1) (m+1):=by
 refine ⟨_,hm,fun i hi=>?_⟩
 rw [onF,List.getElem?_eq_getElem hk]
 by_cases e:sy[k]=i
 ·rw [if_pos (by rw [e]),if_pos (congrArg some e)]
  rfl
 ·rw [if_neg (fun c=>e (by omega)),if_neg (fun c=>e (Option.some.inj c)),hf i hi]
theorem OkM.look {w:World} {b i m:Nat} {ok:Nat→Bool} (h:OkM w b ok i m) (j:Nat) (hj:j<1024) (hi:j<i) (q:Nat):(Instr.lookup 120 (.map (some b)) (.int .u64 (j:Int)) false).run Tryz.prog (w.drewN q)=.ok (.bool (ok j)) (w.drewN q):=by
 obtain ⟨f,h1,h2⟩:=h.below (below_drewN (Below.refl _ _) q)
 have:=h1.get keyS_u mapUB (z0:=.bool false) (fun w=>zeroBool w) j (by show j<_;omega)
 rw [h2 j hj,decide_eq_true hi,Bool.true_and] at this
 exact this
structure RcI (w:World) (b:Nat) (sy:List Nat) (set k:Nat) (wr:World):Prop where
 map:OnM wr b sy set k k
 bel:Below w.heap.size w wr
structure RkI (w:World) (b:Nat) (ok:Nat→Bool) (i:Nat) (wr:World):Prop where
 map:OkM wr b ok i i
 bel:Below w.heap.size w wr
theorem RcI.open_ {w:World} {b:Nat} {sy:List Nat} {set k:Nat} {wr:World} (h:RcI w b sy set k wr):∃ f,MapG 3 keyL I64 wr b f k∧∀ i:Nat,i<100→(f (i:Int)).getD (.bool false)=.bool (onF sy set k i):=h.map
theorem RkI.open_ {w:World} {b:Nat} {ok:Nat→Bool} {i:Nat} {wr:World} (h:RkI w b ok i wr):∃ f,MapG 61 (fun x:Nat=>Lit.int .u64 (x:Int)) (fun x=>x<18446744073709551616) wr b f i∧∀ j:Nat,j<1024→(f j).getD (.bool false)=.bool (decide (j<i)&&ok j):=h.map
def RCrsP (ok:Nat→Bool) (m:Nat) (w:World) (e:Ending) (w':World):Prop:=∃ va vb,e=.returned (.tuple #[va,vb])∧CrsP ok m w va vb w'∧Below w.heap.size w w'
set_option maxHeartbeats 16000000 in
theorem refCores_any (v:Value) (qs:List LnQ) (its0:List ItR) (w:World) (h:LnsR w 0 v qs) (hc:catR (qs.map (·.1))=.inr its0) (hn:(itemsF (qs.map (·.1))).length≤10) (hl:(rulesF (itemsF (qs.map (·.1))) (qs.map (·.1))).length≤200) (h10:(saysF (qs.map (·.1)) 0).length≤10) :
  Calls Tryz.prog 11 #[v] w (RCrsP (okF (qs.map (·.1))) (saysF (qs.map (·.1)) 0).length w):=by
 have hq100:qs.length≤100:=by have:=(catR_ok hc).2.2.2.1;simpa using this
 have HSA:=hide (refSays_any v qs w h (by omega))
 have HL:=hide h
 have hsr:=(saysF_rng (qs.map (·.1)) 0).1
 have hsy:∀ x∈saysF (qs.map (·.1)) 0,x<qs.length:=fun x hx=>by have:=(hsr x hx).2;rw [List.length_map] at this;omega
 have HS100:=Lib.hid (show ∀ x∈saysF (qs.map (·.1)) 0,x<100 from fun x hx=>by have:=hsy x hx;omega)
 have HCA:=Lib.hid (fun (W:World) (b m set k:Nat) (h:LnsR W 0 v qs) (hm:OnM W b (saysF (qs.map (·.1)) 0) set k m)=>refCan_any v qs its0 b m (saysF (qs.map (·.1)) 0) set k W h hc hm hn hl hsy)
 have HOK:=Lib.hid (show ∀ set,okF (qs.map (·.1)) set=holdF (itemsF (qs.map (·.1))).length (onlyF (rulesF (itemsF (qs.map (·.1))) (qs.map (·.1))) (onLB (saysF (qs.map (·.1)) 0) set (saysF (qs.map (·.1)) 0).length 100)) from fun _=>rfl)
 unfold SaysP at HSA
 unfold RCanP at HCA
 generalize okF (qs.map (·.1))=ok at HOK ⊢
 generalize (itemsF (qs.map (·.1)))=its at HCA HOK
 generalize rulesF its (qs.map (·.1))=R at HCA HOK
 generalize saysF (qs.map (·.1)) 0=sy at HSA HS100 HCA HOK h10 ⊢
 generalize its.length=n at HCA HOK
 obtain ⟨Av,cv,rfl,_⟩:=h.1.len
 clear h hc hn hl hsr hsy
 go_enter Tryz.func11,Tryz.ntmps11
 go_wp2_with fail
 refine HSA.out.mono ?_
 rintro e w1 ⟨vs,rfl,hsy1,hb1⟩
 obtain ⟨As,cm,rfl,_⟩:=hsy1.toK.len
 rw [natI_len] at hsy1 ⊢
 have HSY:=hide hsy1
 have HB1:=hide hb1
 clear hsy1 hb1 HSA
 have hmn:min sy.length 64=sy.length:=by omega
 obtain ⟨hp1,hp2,hp3,hp4,hp5⟩:=onesQ h10
 obtain ⟨m,HMM⟩:∃ m,Hid (sy.length=m):=⟨_,Lib.hid rfl⟩
 rw [HMM.out] at h10 hp1 hp2 hp3 hp4 hp5 hmn HSY HOK ⊢
 obtain ⟨M,HM⟩:∃ M,Hid (2 ^ m-1=M):=⟨_,Lib.hid rfl⟩
 obtain ⟨N,HN⟩:∃ N,Hid (2 ^ m=N):=⟨_,Lib.hid rfl⟩
 rw [HM.out] at hp2 hp3
 rw [HN.out] at hp1 hp2 hp3 hp4 hp5
 have HI0:=hide (show RkI w1 w1.heap.size ok 0 (w1.alloc (.map #[] 0)) from ⟨okM_made w1 ok,(Below.refl w1.heap.size w1).alloc (Nat.le_refl _) _⟩)
 have hmm:=@run_makeMap Tryz.prog
 go_upto_region 4 with fail
 generalize (w1.alloc (.map #[] 0))=w3 at HI0 ⊢
 obtain ⟨b6,HB6⟩:∃ b6,Hid (w1.heap.size=b6):=⟨_,Lib.hid rfl⟩
 rw [HB6.out] at HI0 ⊢
 go_wp2_with fail
 go_loopw [24] (fun iv wr=>∃ i:Nat,i≤N∧iv=.int .u64 i∧Hid (RkI w1 b6 ok i wr)) (fun iv _=>N-(intOf iv).toNat)
 case atStart=>exact ⟨0,Nat.zero_le _,rfl,HI0⟩
 case round =>
  clear HI0
  obtain ⟨i,hi,rfl,HI⟩:=hrel
  by_cases hlt:i<N
  ·have hltz:(i:Int)<(N:Int):=by omega
   have hinc:IntKind.u64.wrap ((i:Int)+1)=((i+1:Nat):Int):=by rw [IntKind.wrap_u64];omega
   obtain ⟨wO,rfl⟩:∃ wO,wO=wr:=⟨_,rfl⟩
   have HR0:=hide (show RcI wO wO.heap.size sy i 0 (wO.alloc (.map #[] 0)) from ⟨onM_made wO sy i,(Below.refl wO.heap.size wO).alloc (Nat.le_refl _) _⟩)
   go_upto_region 8 with fail
   generalize (wO.alloc (.map #[] 0))=w4 at HR0 ⊢
   obtain ⟨b8,HB8⟩:∃ b8,Hid (wO.heap.size=b8):=⟨_,Lib.hid rfl⟩
   rw [HB8.out] at HR0 ⊢
   go_wp2_with fail
   go_loopw [30] (fun kv wr=>∃ k:Nat,k≤m∧kv=.int .i64 k∧Hid (RcI wO b8 sy i k wr)) (fun kv _=>m-(intOf kv).toNat)
   case atStart=>exact ⟨0,Nat.zero_le _,rfl,HR0⟩
   case round =>
    clear HR0
    obtain ⟨k,hk,rfl,HR⟩:=hrel
    by_cases hkm:k<m
    ·have hkz:(k:Int)<(m:Int):=by omega
     have hks:k<sy.length:=by rw [HMM.out];exact hkm
     have hln:k<(natI sy).length:=by rw [natI_len];exact hks
     obtain ⟨gs,rfl,hrow⟩:=(OwnI.below HSY.out (HI.out.bel.trans (HR.out.bel.mono HI.out.bel.size))).toK.rowAt hln
     have y0:wr.cell? ⟨gs,k*1+0,none⟩=some (.int .i64 ((sy[k]:Nat):Int)):=(hrow.cell hln (j:=0) (by decide)).trans (by simp [elZ,natI])
     rw [show k*1+0=k by omega] at y0
     have hkn:min k 64=k:=by omega
     have hsb:=shrE i k (by omega)
     obtain ⟨f,hmp,hf⟩:=HR.out.open_
     have HMP:=hide hmp
     have HPUT:=Lib.hid (fun (W:World) (hm:MapG 3 keyL I64 W b8 (fun y=>if y=((sy[k]:Nat):Int) then some (.bool (i.testBit k)) else f y) (k+1)) (hb:Below wO.heap.size wO W)=>(show RcI wO b8 sy i (k+1) W from ⟨onM_put hks hf hm,hb⟩))
     have hi64:I64 ((sy[k]:Nat):Int):=by have:=HS100.out _ (List.getElem_mem hks);unfold I64;omega
     have HIX:=Lib.hid hi64
     clear hrow hln hmp hf hi64
     generalize sy[k]=s at y0 HPUT HIX
     generalize i.testBit k=tb at hsb HPUT
     go_wp2_with (refine storeG keyS_int rfl _ _ _ _ _ rfl mapBl rfl HMP.out (s:Int) (.bool tb) rfl rfl HIX.out (by omega) ?_;intro w9 hm9 hg9;have HN9:=hide (HPUT.out w9 hm9 (HR.out.bel.grown hg9 HR.out.bel.size (fun j hj=>by injection hj with hj;rw [←hj];exact Nat.le_of_eq HB8.out)));clear hm9 hg9)
     go_round
     case rel=>exact ⟨k+1,by omega,by go_num,HN9⟩
     case measure=>simp [intOf];omega
    ·have hkz:¬(k:Int)<(m:Int):=by omega
     have hkm2:k=m:=by omega
     have HCC:=hide (HCA.out wr b8 m i m (HL.out.below (HB1.out.trans ((HI.out.bel.trans (HR.out.bel.mono HI.out.bel.size)).mono HB1.out.size))) (by rw [←hkm2];have:=HR.out.map;exact this))
     rw [←HOK.out i] at HCC
     have HIO:=hide (show RkI w1 b6 ok i wr from ⟨HI.out.map.below HR.out.bel,HI.out.bel.trans (HR.out.bel.mono HI.out.bel.size)⟩)
     clear HR HI
     go_wp2_with fail
     refine HCC.out.mono ?_
     rintro e wt ⟨rfl,hbt⟩
     have HIP:=hide (show RkI w1 b6 ok i wt from ⟨HIO.out.map.below hbt,HIO.out.bel.trans (hbt.mono HIO.out.bel.size)⟩)
     obtain ⟨f,hmp,hf⟩:=HIP.out.open_
     have HMP:=hide hmp
     have HPUT:=Lib.hid (fun (W:World) (hm:MapG 61 (fun x:Nat=>Lit.int .u64 (x:Int)) (fun x=>x<18446744073709551616) W b6 (fun y=>if y=i then some (.bool (ok i)) else f y) (i+1)) (hb:Below w1.heap.size w1 W)=>(show RkI w1 b6 ok (i+1) W from ⟨okM_put hf hm,hb⟩))
     have HIX:=Lib.hid (show i<18446744073709551616 by omega)
     generalize ok i=oi at HPUT
     clear HCC HIO hbt hmp hf
     go_wp2_with (refine storeG keyS_u rfl _ _ _ _ _ rfl mapUB rfl HMP.out i (.bool oi) rfl rfl HIX.out (by omega) ?_;intro w9 hm9 hg9;have HN9:=hide (HPUT.out w9 hm9 (HIP.out.bel.grown hg9 HIP.out.bel.size (fun j hj=>by injection hj with hj;rw [←hj];exact Nat.le_of_eq HB6.out)));clear hm9 hg9)
     go_round
     case rel=>exact ⟨i+1,by omega,by go_num,HN9⟩
     case measure=>simp [intOf];omega
  ·have hltz:¬(i:Int)<(N:Int):=by omega
   have hiN:i=N:=by omega
   rw [hiN] at HI
   have HBL:=hide (HB1.out.trans (HI.out.bel.mono HB1.out.size))
   have HCE:=Lib.hid (fun (W:World) (hb:Below wr.heap.size wr W) (j:Nat) (hj:j<N) (q:Nat)=>(HI.out.map.below hb).look j (by omega) hj q)
   have HIU:=hide (show InU wr (coresF ok m 0) (fixesF ok m 0) (.slice none 0 0) (.slice none 0 0) wr from ⟨ownK_nil _ _ _,ownK_nil _ _ _,.inl rfl,Below.refl _ _⟩)
   obtain ⟨wL,rfl⟩:∃ wL,wL=wr:=⟨_,rfl⟩
   clear HI HB1 HSY HS100 HOK HCA HL hiN hi
   go_wp2_with fail
   go_loopw [2,3,51] (fun av bv iv wr=>∃ i:Nat,i≤N∧iv=.int .u64 i∧Hid (InU wL (coresF ok m i) (fixesF ok m i) av bv wr)) (fun _ _ iv _=>N-(intOf iv).toNat)
   case atStart=>exact ⟨0,Nat.zero_le _,rfl,HIU⟩
   case round=>as_aux_lemma =>
    clear HIU hltz
    obtain ⟨i,hi,rfl,HI⟩:=hrel
    by_cases hlt:i<N
    ·have hltz:(i:Int)<(N:Int):=by omega
     have hinc:IntKind.u64.wrap ((i:Int)+1)=((i+1:Nat):Int):=by rw [IntKind.wrap_u64];omega
     have hi2:i<2 ^ m:=by rw [HN.out];exact hlt
     obtain ⟨q2,HQ2⟩:∃ q,Hid (2 ^ m-1-i=q):=⟨_,Lib.hid rfl⟩
     have hqa:=(allQ h10 hi2).2
     rw [HQ2.out,HM.out] at hqa
     have hq2:q2<N:=by have:=HQ2.out;rw [HN.out] at this;omega
     have c1:=HCE.out wr HI.out.bel i hlt
     have c2:=HCE.out wr HI.out.bel q2 hq2
     have HJ0:=Lib.hid (show CrJ ok m i 0 (.bool (!ok i)) (.bool (ok q2)) from ⟨rfl,by rw [←HQ2.out];rfl⟩)
     have HBQ:=Lib.hid (fun k (hk:k<m)=>bitQ h10 hi2 hk)
     clear hi2
     go_wp2_with fail
     have c10:=c1 0
     have c20:=c2 0
     rw [World.drewN_zero] at c10 c20
     go_quiet (fail)
     go_wp2_with fail
     go_loopw [12,13,65] (fun xv yv kv wj=>∃ k q:Nat,k≤m∧kv=.int .i64 k∧Hid (CrJ ok m i k xv yv)∧wj=wr.drewN q) (fun _ _ kv _=>m-(intOf kv).toNat)
     case atStart=>exact ⟨0,_,Nat.zero_le _,rfl,HJ0,by first | rfl | exact World.drewN_drewN ..⟩
     case round =>
      clear HJ0 c10 c20
      obtain ⟨k,q,hk,rfl,HJ,rfl⟩:=hrel
      obtain ⟨rfl,rfl⟩:=HJ.out
      by_cases hkm:k<m
      ·have hkz:(k:Int)<(m:Int):=by omega
       have hkn:min k 64=k:=by omega
       have hsb:=shrE i k (by omega)
       have hbq:=HBQ.out k hkm
       have hj1:CrJ ok m i (k+1) (.bool (if i.testBit k=true then coreF ok i k&&ok (i-2 ^ k) else coreF ok i k)) (.bool (if i.testBit k=true then fixF ok (2 ^ m-1) i k&&!ok (2 ^ m-1-i+2 ^ k) else fixF ok (2 ^ m-1) i k)):=⟨rfl,rfl⟩
       rw [HQ2.out] at hbq hj1
       generalize q2+2 ^ k=q3 at hbq hj1
       generalize i-2 ^ k=q1 at hbq hj1
       generalize 2 ^ k=P at hbq
       generalize i.testBit k=tb at hbq hj1 hsb
       have hwr:=hbq.wr
       have hl1:=hbq.lt1
       rw [HN.out] at hl1
       clear c1 c2 HJ
       generalize coreF ok i k=b1 at hj1
       generalize fixF ok (2 ^ m-1) i k=b2 at hj1
       rcases tb with _ | _
       ·simp only [Bool.false_eq_true,if_false] at hj1
        have HJ1:=Lib.hid hj1
        clear hbq hj1
        go_wp2_with fail
        go_round
        case rel=>exact ⟨k+1,_,by omega,by go_num,HJ1,rfl⟩
        case measure=>simp [intOf];omega
       ·simp only [if_true] at hj1
        have hof:=hbq.less rfl
        have hon:=hbq.more rfl
        have hl3:=hbq.lt3 rfl
        rw [HN.out] at hl3
        have d1:=HCE.out wr HI.out.bel q1 hl1 q
        have d3:=HCE.out wr HI.out.bel q3 hl3 q
        have HJ1:=Lib.hid hj1
        clear hbq hj1
        generalize ok q1=o1 at d1 HJ1
        generalize ok q3=o3 at d3 HJ1
        rcases b1 with _ | _ <;> rcases b2 with _ | _
        all_goals
         go_wp2_with fail
         go_round
         case rel=>exact ⟨k+1,_,by omega,by go_num,HJ1,rfl⟩
         case measure=>simp [intOf];omega
      ·have hkz:¬(k:Int)<(m:Int):=by omega
       have hkm2:k=m:=by omega
       rw [hkm2]
       have HIq:=hide (HI.out.below (below_drewN (Below.refl _ _) q))
       have hca:=coresF_succ ok m i
       have hfa:=fixesF_succ ok m i
       have hla:(coresF ok m i).length≤90000000:=by have:=coresF_len ok m i;omega
       have hln:(fixesF ok m i).length≤90000000:=by have:=fixesF_len ok m i;omega
       generalize coresF ok m i=za at HIq hca hla
       generalize fixesF ok m i=zn at HIq hfa hln
       clear c1 c2 HJ HI HBQ
       generalize coreF ok i m=b1 at hca
       generalize fixF ok (2 ^ m-1) i m=b2 at hfa
       generalize wr.drewN q=wq at HIq
       have HFA2:=Lib.hid hca
       have HFN2:=Lib.hid hfa
       have HLA:=Lib.hid hla
       have HLN:=Lib.hid hln
       clear hca hfa hla hln
       have hal:=(Below.refl wq.heap.size wq).alloc (Nat.le_refl _) (.cells #[.int .u64 (i:Int)] 61)
       have HA1:=hide (HIq.out.below hal)
       have HKA:=hide (Blk.new wq 61 #[.int .u64 (i:Int)])
       clear hal
       rcases b1 with _ | _
       ·rcases b2 with _ | _
        ·go_wp2_with fail
         go_round
         case rel=>exact ⟨i+1,by omega,by go_num,hide (by rw [HFA2.out,HFN2.out];exact HIq.out)⟩
         case measure=>simp [intOf];omega
        ·go_wp2_with (at_builtin;refine appK1 elU _ uintInfoU rfl (by decide) rfl _ _ _ rfl wL.heap.size Tryz.underlying35 _ zn rfl HA1.out.rn wq.heap.size 1 i rfl HKA.out HLN.out HA1.out.bel.size ?_;intro v9 w8 ho9 hg9 hor9;have HN9:=hide (HA1.out.pushN ho9 hg9 hor9);clear ho9 hg9 hor9)
         go_round
         case rel=>exact ⟨i+1,by omega,by go_num,hide (by rw [HFA2.out,HFN2.out];exact HN9.out)⟩
         case measure=>simp [intOf];omega
       ·rcases b2 with _ | _
        ·go_wp2_with (at_builtin;refine appK1 elU _ uintInfoU rfl (by decide) rfl _ _ _ rfl wL.heap.size Tryz.underlying35 _ za rfl HA1.out.ra wq.heap.size 1 i rfl HKA.out HLA.out HA1.out.bel.size ?_;intro v9 w8 ho9 hg9 hor9;have HN9:=hide (HA1.out.pushA ho9 hg9 hor9);clear ho9 hg9 hor9)
         go_round
         case rel=>exact ⟨i+1,by omega,by go_num,hide (by rw [HFA2.out,HFN2.out];exact HN9.out)⟩
         case measure=>simp [intOf];omega
        ·go_wp2_with (first
          | (at_builtin;refine appK1 elU _ uintInfoU rfl (by decide) rfl _ _ _ rfl wL.heap.size Tryz.underlying35 _ za rfl HA1.out.ra wq.heap.size 1 i rfl HKA.out HLA.out HA1.out.bel.size ?_;intro v9 w8 ho9 hg9 hor9;have HN9:=hide (HA1.out.pushA ho9 hg9 hor9);clear ho9 hg9 hor9;have hal8:=(Below.refl w8.heap.size w8).alloc (Nat.le_refl _) (.cells #[.int .u64 (i:Int)] 61);have HA8:=hide (HN9.out.below hal8);have HK8:=hide (Blk.new w8 61 #[.int .u64 (i:Int)]);clear hal8)
          | (at_builtin;refine appK1 elU _ uintInfoU rfl (by decide) rfl _ _ _ rfl wL.heap.size Tryz.underlying35 _ zn rfl HA8.out.rn w8.heap.size 1 i rfl HK8.out HLN.out HA8.out.bel.size ?_;intro v7 w7 ho9 hg9 hor9;have HN7:=hide (HA8.out.pushN ho9 hg9 hor9);clear ho9 hg9 hor9))
         go_round
         case rel=>exact ⟨i+1,by omega,by go_num,hide (by rw [HFA2.out,HFN2.out];exact HN7.out)⟩
         case measure=>simp [intOf];omega
    ·have hltz:¬(i:Int)<(N:Int):=by omega
     have hin:i=N:=by omega
     subst hin
     have HV:=hide (show CrsP ok m w u2 u3 wr from by unfold CrsP;rw [HN.out];exact ⟨HI.out.ra.mono HBL.out.size,HI.out.rn.mono HBL.out.size⟩)
     have HE:=hide (HBL.out.trans (HI.out.bel.mono HBL.out.size))
     clear HI
     go_wp2_with fail
     go_ret2
     exact ⟨u2,u3,rfl,by rw [HMM.out];exact HV.out,HE.out⟩
end Go.Proofs.YtojgbcmhdnappaaGreatDoor
namespace Go.Proofs.YtojgbcmhdnappaaGreatDoor
open Go.RowKit
set_option maxRecDepth 100000
def SmallP (R:List RuR) (n most:Nat) (w:World) (e:Ending) (w':World):Prop :=
 ∃ A c,e=.returned (.tuple #[.slice A R.length c,.int .i64 (n:Int),.bool (decide (R.length≤200)&&decide (n≤most))])∧ClK w' w.heap.size (.slice A R.length c) (R.map (·.1))∧Below w.heap.size w w'
set_option maxHeartbeats 2000000 in
theorem small_any (v:Value) (qs:List LnQ) (its0:List ItR) (most:Nat) (w:World) (h:LnsR w 0 v qs) (hc:catR (qs.map (·.1))=.inr its0) :
  Calls Tryz.prog 8 #[v,.int .i64 (most:Int)] w (SmallP (rulesF (itemsF (qs.map (·.1))) (qs.map (·.1))) (itemsF (qs.map (·.1))).length most w):=by
 have hq100:qs.length≤100:=by have:=(catR_ok hc).2.2.2.1;simpa using this
 have HRR:=hide (refRules_any v qs its0 w h hc)
 have HIT:=Lib.hid (fun W (h:LnsR W 0 v qs)=>refItems_any v qs W h (by omega))
 have HL:=hide h
 unfold ItsP at HIT
 unfold RefRuP at HRR
 generalize itemsF (qs.map (·.1))=its at HRR HIT ⊢
 generalize rulesF its (qs.map (·.1))=R at HRR ⊢
 obtain ⟨Av,cv,rfl,_⟩:=h.1.len
 clear h hc
 go_enter Tryz.func8,Tryz.ntmps8
 go_wp2_with fail
 refine HRR.out.mono ?_
 rintro e w2 ⟨v2,v3,rfl,hr2,hb2⟩
 have hck:=hr2.cl
 obtain ⟨A2,c2,rfl⟩:=hck.len
 rw [List.length_map] at hck ⊢
 have HCK:=hide hck
 have HB2:=hide hb2
 have HI:=hide (HIT.out w2 (HL.out.below hb2))
 clear hr2 hb2 hck HRR HIT HL
 go_wp2_with fail
 refine HI.out.mono ?_
 rintro e w3 ⟨vi,rfl,ho,hb3⟩
 obtain ⟨Ai,ci,rfl,_⟩:=ho.len
 have HB3:=hide (HB2.out.trans (hb3.mono HB2.out.size))
 have HC3:=hide (HCK.out.below hb3)
 clear ho hb3 HI HB2 HCK
 by_cases h200:R.length≤200
 ·have hd:decide ((R.length:Int)≤200)=true:=decide_eq_true (by omega)
  have hd2:decide (R.length≤200)=true:=decide_eq_true h200
  have hd3:decide ((its.length:Int)≤(most:Int))=decide (its.length≤most):=decide_eq_decide.2 (by omega)
  go_wp2_with fail
  exact bodyPost_ret (v:=.tuple #[.slice A2 R.length c2,.int .i64 (its.length:Int),.bool (decide (its.length≤most))]) (by simp [results,Tryz.results8,go_sem]) rfl ⟨A2,c2,by rw [hd2,Bool.true_and],HC3.out,HB3.out⟩
 ·have hd:decide ((R.length:Int)≤200)=false:=decide_eq_false (by omega)
  have hd2:decide (R.length≤200)=false:=decide_eq_false h200
  go_wp2_with fail
  exact bodyPost_ret (v:=.tuple #[.slice A2 R.length c2,.int .i64 (its.length:Int),.bool false]) (by simp [results,Tryz.results8,go_sem]) rfl ⟨A2,c2,by rw [hd2,Bool.false_and],HC3.out,HB3.out⟩
end Go.Proofs.YtojgbcmhdnappaaGreatDoor
namespace Go.Proofs.YtojgbcmhdnappaaGreatDoor
open Go.RowKit
def uintsV (zs:List Nat):List Value:=zs.map fun x:Nat=>Value.int .u64 (x:Int)
def OwnU (w:World) (base:Nat) (v:Value) (zs:List Nat):Prop:=w.ownsRow base 61 1 v zs.length (uintsV zs)
section
variable {w w':World} {base:Nat} {v:Value} {zs:List Nat}
theorem OwnU.len (h:OwnU w base v zs):∃ A c,v=.slice A zs.length c:=by
 rcases h.2 with ⟨rfl,h0⟩ | ⟨g,cap,cur,rfl,_⟩
 ·exact ⟨none,0,by rw [h0]⟩
 ·exact ⟨_,_,rfl⟩
theorem OwnU.at_ (h:OwnU w base v zs) {k:Nat} (hk:k<zs.length):∃ g c,v=.slice (some ⟨g,0,none⟩) zs.length c∧w.cell? ⟨g,k,none⟩=some (.int .u64 ((zs.getD k 0:Nat):Int))∧g<w.heap.size:=by
 rcases h.2 with ⟨_,h9⟩ | ⟨g,cap,cur,rfl,hg,hgc,hle,hcm,hcs,hct⟩
 ·omega
 ·have hgc':Blk w g 61 cur:=hgc
  refine ⟨g,cap,rfl,?_,hgc'.lt⟩
  have h1:(cur.toList.take (zs.length*1))[k]?=some (.int .u64 ((zs.getD k 0:Nat):Int)):=by
   rw [hct]
   unfold uintsV
   rw [List.getElem?_map,List.getElem?_eq_getElem hk,List.getD_eq_getElem?_getD,List.getElem?_eq_getElem hk]
   rfl
  rw [List.getElem?_take_of_lt (by omega)] at h1
  rw [hgc'.cell]
  simpa using h1
end
end Go.Proofs.YtojgbcmhdnappaaGreatDoor
namespace Go.Proofs.YtojgbcmhdnappaaGreatDoor
open Go.RowKit
theorem getD_ext {l1 l2:List Nat} (hl:l1.length=l2.length) (h:∀ k,k<l1.length→l1.getD k 0=l2.getD k 0):l1=l2:=by
 refine List.ext_getElem hl fun k h1 h2=>?_
 have:=h k h1
 rwa [List.getD_eq_getElem?_getD,List.getD_eq_getElem?_getD,List.getElem?_eq_getElem h1,List.getElem?_eq_getElem h2] at this
def SameL (w:World) (l1 l2:List Nat) (e:Ending) (w':World):Prop:=e=.returned (.bool (decide (l1=l2)))∧∃ q,w'=w.drewN q
set_option maxHeartbeats 4000000 in
theorem sameSets_any (base1 base2:Nat) (v1 v2:Value) (l1 l2:List Nat) (w:World) (h1:OwnU w base1 v1 l1) (h2:OwnU w base2 v2 l2) (hn:l1.length≤1000000) :
  Calls Tryz.prog 12 #[v1,v2] w (SameL w l1 l2):=by
 obtain ⟨A1,c1,rfl⟩:=h1.len
 obtain ⟨A2,c2,rfl⟩:=h2.len
 by_cases hl:l1.length=l2.length
 case neg =>
  have hlb:¬((l1.length:Int)=(l2.length:Int)):=by omega
  have hne:decide (l1=l2)=false:=decide_eq_false fun e=>hl (by rw [e])
  clear h1 h2
  go_enter Tryz.func12,Tryz.ntmps12
  go_wp2
  go_ret
  exact ⟨by rw [hne];rfl,0,rfl⟩
 have H1:=hide h1
 have H2:=hide h2
 have HL:=Lib.hid hl
 obtain ⟨n,hn1⟩:∃ n,n=l1.length:=⟨_,rfl⟩
 have hn2:l2.length=n:=by omega
 rw [hn2,←hn1]
 have HN:=Lib.hid (And.intro hn1 hn2)
 have hn3:n≤1000000:=by omega
 clear h1 h2 hl hn1 hn2 hn
 go_enter Tryz.func12,Tryz.ntmps12
 go_wp2
 go_loopw [5] (fun iv wr=>∃ i q:Nat,i≤n∧iv=.int .i64 i∧wr=w.drewN q∧Hid (∀ k,k<i→l1.getD k 0=l2.getD k 0)) (fun iv _=>n-(intOf iv).toNat)
 case atStart=>exact ⟨0,0,Nat.zero_le _,rfl,rfl,hide (fun k hk=>absurd hk (Nat.not_lt_zero k))⟩
 case round =>
  obtain ⟨i,q,hi,rfl,rfl,HP⟩:=hrel
  by_cases hlt:i<n
  ·obtain ⟨g1,c1',e1,hc1,_⟩:=H1.out.at_ (k:=i) (by have:=HN.out;omega)
   obtain ⟨g2,c2',e2,hc2,_⟩:=H2.out.at_ (k:=i) (by have:=HN.out;omega)
   cases e1
   cases e2
   have hiI:(i:Int)<(n:Int):=by omega
   have HQ:Hid (l1.getD i 0=l2.getD i 0→∀ k,k<i+1→l1.getD k 0=l2.getD k 0):=hide fun e k hk=>by
    by_cases hki:k=i
    ·rw [hki];exact e
    ·exact HP.out k (by omega)
   have HR:Hid (l1=l2→l1.getD i 0=l2.getD i 0):=hide fun e=>by rw [e]
   generalize l1.getD i 0=x at hc1 HQ HR
   generalize l2.getD i 0=y at hc2 HQ HR
   by_cases hxy:x=y
   ·have HG:=hide (HQ.out hxy)
    have hxb:(x:Int)=(y:Int):=by rw [hxy]
    clear HQ HR hxy
    go_wp2
    go_quiet (fail)
    go_wp2
    go_roundw
    case rel=>exact ⟨i+1,_,by omega,by go_num,by first | rfl | exact World.drewN_drewN ..,HG⟩
    case measure=>simp [intOf];omega
   ·have hne:decide (l1=l2)=false:=decide_eq_false fun e=>hxy (HR.out e)
    have HNE:=Lib.hid hne
    have hxb:¬((x:Int)=(y:Int)):=by omega
    clear hne HQ HR hxy
    go_wp2
    go_quiet (fail)
    go_wp2
    go_ret
    exact ⟨by rw [HNE.out];rfl,_,by first | rfl | exact World.drewN_drewN ..⟩
  ·obtain rfl:i=n:=by omega
   have heq:decide (l1=l2)=true:=decide_eq_true (getD_ext HL.out fun k hk=>HP.out k (by have:=HN.out;omega))
   have HEQ:=Lib.hid heq
   clear heq
   go_wp2
   go_ret
   exact ⟨by rw [HEQ.out];rfl,q,rfl⟩
end Go.Proofs.YtojgbcmhdnappaaGreatDoor
