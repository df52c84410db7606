/-
  A part of the proof: EvIte. Conditions: none.
-/
import Derived.Test.YtojgbcmhdnappaaGreatDoorBeEvNode
import Derived.Test.YtojgbcmhdnappaaGreatDoorBeBddMap
import Derived.Test.YtojgbcmhdnappaaGreatDoorBeCalm
import Derived.Laws.Cover1
import Derived.StillTailTactics
namespace Go.Proofs.YtojgbcmhdnappaaGreatDoor
open Go.RowKit Go.Maps
section
variable {w w':World} {S B gn gu gt gc m:Nat} {vars:Int} {A A':Ar}
structure IteI (w:World) (S B gn gu gt gc m:Nat) (vars:Int) (A:Ar) (a b c:Int):Prop where
 sp:SpM w S B gn gu gt gc vars A m
 pa:hasA A a=true
 pb:hasA A b=true
 pc:hasA A c=true
 low:low3 A+wt (topI A a b c)≤2000
 most:m+wc (topI A a b c)≤1000000
def IteP (w:World) (S B gn gu gt gc m:Nat) (vars:Int) (A:Ar) (a b c:Int) (e:Ending) (w':World):Prop :=
 StpP w S B gn gu gt gc vars A m (wt (topI A a b c)) (wc (topI A a b c)) (topI A a b c) (iteF A a b c) e w'
theorem hasA_call (B gn gu gt:Nat) (A:Ar) (x:Int) (w:World) (h:ArM w B gn gu gt A) (hx:I64 x) (p:hasA A x=true) :
  Calls Tryz.prog 56 #[.pointer (some ⟨B,0,none⟩),.int .i64 x] w (fun e w'=>e=.returned (.bool true)∧w=w') :=
 (arHas_any B gn gu gt A x w h hx).mono (fun e w' ⟨e1,e2⟩=>⟨by rw [e1,p],e2⟩)
theorem topI_le (A:Ar) (a b c:Int):topI A a b c≤topA A a∧topI A a b c≤topA A b∧topI A a b c≤topA A c:=min3_le _ _ _
theorem ite_one {b c:Int} (h:IteI w S B gn gu gt gc m vars A 1 b c):IteP w S B gn gu gt gc m vars A 1 b c (.returned (.tuple #[.int .i64 b,.nilIface])) w :=
 StpP.here h.sp (Below.refl _ _) h.pb (topI_le _ _ _ _).2.1 _ _ (fun v=>by unfold iteF;rw [den_one];rfl)
theorem ite_like {a b:Int} (h:IteI w S B gn gu gt gc m vars A a b b):IteP w S B gn gu gt gc m vars A a b b (.returned (.tuple #[.int .i64 b,.nilIface])) w :=
 StpP.here h.sp (Below.refl _ _) h.pb (topI_le _ _ _ _).2.1 _ _ (fun v=>by unfold iteF;cases den A a v <;> rfl)
theorem ite_zero {b c:Int} (h:IteI w S B gn gu gt gc m vars A 0 b c):IteP w S B gn gu gt gc m vars A 0 b c (.returned (.tuple #[.int .i64 c,.nilIface])) w :=
 StpP.here h.sp (Below.refl _ _) h.pc (topI_le _ _ _ _).2.2 _ _ (fun v=>by unfold iteF;rw [den_zero];rfl)
theorem SpM.put (h:SpM w S B gn gu gt gc vars A m) {f:Int×Int×Int→Option Int} {m':Nat} (hg:w.grownBy w' (some gc)) (hm:CacheM w' gc f m') (hc:CacheOk A f):SpM w' S B gn gu gt gc vars A m':=by
 have hgc:=h.gcA
 have hsA:=h.sA
 exact ⟨h.kS.grown hg (fun e=>by injection e with e;exact hsA (.inr e)),h.ar.keep fun k hk=>hg.block k (h.ar.lt hk) (fun e=>by injection e with e;exact hgc (e ▸ hk)),⟨f,hm,hc⟩,h.sp,h.v6⟩
theorem CacheM.look {f:Int×Int×Int→Option Int} (h:CacheM w gc f m) {a b c:Int} (hk:okC (a,b,c)) :
  (Instr.lookup 131 (.map (some gc)) (.agg #[.int .i64 0,.int .i64 a,.int .i64 b,.int .i64 c]) true).run Tryz.prog w=.ok (.tuple #[.int .i64 ((f (a,b,c)).getD 0),.bool (f (a,b,c)).isSome]) w :=
 MapV.lookRun keyS_four Tryz.underlying131 h (a,b,c) hk
def IteC (S B gn gu gt gc:Nat) (vars t:Int):Prop:=∀ (a b c:Int) (A:Ar) (m:Nat) (w:World),t<topI A a b c→IteI w S B gn gu gt gc m vars A a b c →
 Calls Tryz.prog 160 #[.pointer (some ⟨S,0,none⟩),.int .i64 a,.int .i64 b,.int .i64 c] w (IteP w S B gn gu gt gc m vars A a b c)
end
section
variable (S B gn gu gt gc m:Nat) (vars:Int) (A:Ar) (w:World)
set_option maxHeartbeats 2000000 in
theorem ite_known (a b c x:Int) (h:IteI w S B gn gu gt gc m vars A a b c) (a0:a≠0) (a1:a≠1) (hbc:b≠c) (f:Int×Int×Int→Option Int) (hc:CacheM w gc f m) (ho:CacheOk A f) (hf:f (a,b,c)=some x) :
  Calls Tryz.prog 160 #[.pointer (some ⟨S,0,none⟩),.int .i64 a,.int .i64 b,.int .i64 c] w (IteP w S B gn gu gt gc m vars A a b c):=by
 obtain ⟨_,_,_,p4,p5,p6⟩:=ho a b c x hf
 have HB:=hide ((Below.refl w.heap.size w).alloc (Nat.le_refl _) (.cells #[.int .i64 0,.int .i64 a,.int .i64 b,.int .i64 c] 319))
 have HP:=hide (fun (w':World) (hb:Below w.heap.size w w')=>show IteP w S B gn gu gt gc m vars A a b c (.returned (.tuple #[.int .i64 x,.nilIface])) w' from StpP.here h.sp hb p4 p5 _ _ p6)
 have HK:=hide (Blk.new w 319 #[.int .i64 0,.int .i64 a,.int .i64 b,.int .i64 c])
 have HS:=hide (h.sp.below HB.out)
 have hlk:=fun q:Nat=>CacheM.look (w:=(w.alloc (.cells #[.int .i64 0,.int .i64 a,.int .i64 b,.int .i64 c] 319)).drewN q) ((hc.below HB.out hc.lt).same rfl) (show okC (a,b,c) from ⟨h.sp.sp.i64 h.pa,h.sp.sp.i64 h.pb,h.sp.sp.i64 h.pc⟩)
 simp only [hf,Option.getD_some,Option.isSome_some] at hlk
 have HH:=hide (fun q:Nat=>(hasA_call B gn gu gt A x _ (HS.out.ar.keep (w':=(w.alloc (.cells #[.int .i64 0,.int .i64 a,.int .i64 b,.int .i64 c] 319)).drewN q) (fun _ _=>rfl)) (h.sp.sp.i64 p4) p4))
 have f0:(a==0)=false:=beq_eq_false_iff_ne.2 a0
 have f1:(a==1)=false:=beq_eq_false_iff_ne.2 a1
 have f2:(b==c)=false:=beq_eq_false_iff_ne.2 hbc
 clear h hc ho hf p4 p5 p6
 go_enter Tryz.func160,Tryz.ntmps160
 go_wp2
 generalize (w.alloc (.cells #[.int .i64 0,.int .i64 a,.int .i64 b,.int .i64 c] 319))=w1 at HB HS HK hlk HH ⊢
 generalize w.heap.size=g at HK ⊢
 have k0:=HK.out.cell 0
 have k1:=HK.out.cell 1
 have k2:=HK.out.cell 2
 have k3:=HK.out.cell 3
 have s0:=HS.out.kS.cell 0
 have s2:=HS.out.kS.cell 2
 go_quiet (fail)
 go_wp2_with fail
 refine (HH.out _).mono ?_
 rintro e w2 ⟨rfl,rfl⟩
 go_wp2
 go_ret2
 exact HP.out _ (below_drewN HB.out _)
set_option maxRecDepth 100000 in
set_option maxHeartbeats 8000000 in
theorem ite_miss (a b c:Int) (h:IteI w S B gn gu gt gc m vars A a b c) (a0:a≠0) (a1:a≠1) (hbc:b≠c) (f:Int×Int×Int→Option Int) (hc:CacheM w gc f m) (hf:f (a,b,c)=none) (ih:IteC S B gn gu gt gc vars (topI A a b c)) :
  Calls Tryz.prog 160 #[.pointer (some ⟨S,0,none⟩),.int .i64 a,.int .i64 b,.int .i64 c] w (IteP w S B gn gu gt gc m vars A a b c):=by
 have hT:=ite_top (b:=b) (c:=c) h.sp.sp h.pa a0 a1
 have hv6:=h.sp.v6
 obtain ⟨q1,q2,q3,q4⟩:=ite_parts h.sp.sp rfl (show topI A a b c<24 by omega) h.pa h.pb h.pc false
 obtain ⟨r1,r2,r3,r4⟩:=ite_parts h.sp.sp rfl (show topI A a b c<24 by omega) h.pa h.pb h.pc true
 have JN:=Lib.hid (fun A1 A2 A3 lo hi x=>@ite_join A A1 A2 A3 vars h.sp.sp hv6.2 a b c (topI A a b c) lo hi x rfl hT.1 (by omega) h.pa h.pb h.pc)
 have W2:=Lib.hid (And.intro (wt_two hT.1 q4 r4) (wc_two hT.1 (by omega) q4 r4))
 have HI:=hide h
 have HB:=hide ((Below.refl w.heap.size w).alloc (Nat.le_refl _) (.cells #[.int .i64 0,.int .i64 a,.int .i64 b,.int .i64 c] 319))
 have HK:=hide (Blk.new w 319 #[.int .i64 0,.int .i64 a,.int .i64 b,.int .i64 c])
 have HS:=hide (h.sp.below HB.out)
 have hkS:=h.sp.kS.lt
 have hOK:=Lib.hid (show okC (a,b,c) from ⟨h.sp.sp.i64 h.pa,h.sp.sp.i64 h.pb,h.sp.sp.i64 h.pc⟩)
 have hlk:=fun q:Nat=>CacheM.look (w:=(w.alloc (.cells #[.int .i64 0,.int .i64 a,.int .i64 b,.int .i64 c] 319)).drewN q) ((hc.below HB.out hc.lt).same rfl) hOK.out
 simp only [hf,Option.getD_none,Option.isSome_none] at hlk
 have hspb:=Lib.hid (fun k (hk:spB B gn gu gt gc k)=>h.sp.lt hk)
 have f0:(a==0)=false:=beq_eq_false_iff_ne.2 a0
 have f1:(a==1)=false:=beq_eq_false_iff_ne.2 a1
 have f2:(b==c)=false:=beq_eq_false_iff_ne.2 hbc
 clear h hc hf
 go_enter Tryz.func160,Tryz.ntmps160
 go_wp2
 generalize (w.alloc (.cells #[.int .i64 0,.int .i64 a,.int .i64 b,.int .i64 c] 319))=w1 at HB HS HK hlk ⊢
 have hgS:∀ k,spB B gn gu gt gc k→k≠w.heap.size:=fun k hk e=>by have:=hspb.out k hk;omega
 generalize w.heap.size=g at HK hgS ⊢
 have k0:=HK.out.cell 0
 have k1:=HK.out.cell 1
 have k2:=HK.out.cell 2
 have k3:=HK.out.cell 3
 have s0:=HS.out.kS.cell 0
 have s2:=HS.out.kS.cell 2
 go_quiet (fail)
 have HS2:=hide (HS.out.below (below_drewN (Below.refl _ _) nq))
 have HK2:=hide (HK.out.below (below_drewN (Below.refl _ _) nq) HK.out.lt)
 have HB2:=hide (below_drewN HB.out nq)
 clear hlk k0 k1 k2 k3 s0 s2 HS HK HB
 generalize w1.drewN nq=w2 at HS2 HK2 HB2 ⊢
 have s0:=HS2.out.kS.cell 0
 go_wp2
 have HTA:=hide (fun c:Calm w2=>arTop_any B gn gu gt A a c.val (HS2.out.ar.below c.bel (fun k hk=>HS2.out.ar.lt hk)) hOK.out.1)
 have HTB:=hide (fun x:Calm w2=>arTop_any B gn gu gt A b x.val (HS2.out.ar.below x.bel (fun k hk=>HS2.out.ar.lt hk)) hOK.out.2.1)
 have HTC:=hide (fun x:Calm w2=>arTop_any B gn gu gt A c x.val (HS2.out.ar.below x.bel (fun k hk=>HS2.out.ar.lt hk)) hOK.out.2.2)
 have hsl:=HS2.out.kS.lt
 have z0:=fun c:Calm w2=>(c.cell (i:=0) hsl).trans (HS2.out.kS.cell 0)
 have hmin:(if topA A c<(if topA A b<topA A a then topA A b else topA A a) then topA A c else (if topA A b<topA A a then topA A b else topA A a))=topI A a b c:=by
  unfold topI min3
  omega
 clear s0
 refine wp_region_calm (by kernel_rfl) (by kernel_rfl) ?_
 repeat (go_big_quiet_step (fail))
 go_big_quiet_want
 go_big_quiet_op
 go_big_quiet_call ((go_at_call 59;refine (HTA.out _).mono ?_;rintro e w2 ⟨rfl,hb0⟩;exact ⟨rfl,Calm.on _ hb0⟩))
 repeat (go_big_quiet_step (fail))
 go_big_quiet_want
 go_big_quiet_op
 go_big_quiet_call ((go_at_call 59;refine (HTB.out _).mono ?_;rintro e w2 ⟨rfl,hb0⟩;exact ⟨rfl,Calm.on _ hb0⟩))
 repeat (go_big_quiet_step (fail))
 go_big_quiet_want
 go_big_quiet_op
 go_big_quiet_call ((go_at_call 59;refine (HTC.out _).mono ?_;rintro e w2 ⟨rfl,hb0⟩;exact ⟨rfl,Calm.on _ hb0⟩))
 repeat (go_big_quiet_step (fail))
 refine wpQuiet_nil ?_
 rintro _ ⟨cw,rfl⟩
 try rw [hmin]
 have HS3:=hide (HS2.out.below cw.bel)
 have HK3:=hide (HK2.out.below cw.bel HK2.out.lt)
 have HB3:=hide (HB2.out.trans (cw.bel.mono HB2.out.size))
 clear z0 hmin HTA HTB HTC HS2 HK2 HB2 hsl
 generalize cw.val=w3 at HS3 HK3 HB3 ⊢
 have HA1:=hide (bdAt_any S B gn gu gt gc m vars A w3 a (topI A a b c) HS3.out hOK.out.1)
 have HAF:=Lib.hid (show topI A a b c=topI A a b c from rfl)
 go_wp2_with fail
 refine (HA1.out).mono ?_
 rintro e w4 ⟨rfl,hb4⟩
 have HS4:=hide (HS3.out.below hb4)
 have HK4:=hide (HK3.out.below hb4 HK3.out.lt)
 have HB4:=hide (HB3.out.trans (hb4.mono HB3.out.size))
 clear HS3 HK3 HB3 HA1 hb4
 have HA2:=hide (bdAt_any S B gn gu gt gc m vars A w4 b (topI A a b c) HS4.out hOK.out.2.1)
 go_wp2_with fail
 refine (HA2.out).mono ?_
 rintro e w5 ⟨rfl,hb5⟩
 have HS5:=hide (HS4.out.below hb5)
 have HK5:=hide (HK4.out.below hb5 HK4.out.lt)
 have HB5:=hide (HB4.out.trans (hb5.mono HB4.out.size))
 clear HS4 HK4 HB4 HA2 hb5
 have HA3:=hide (bdAt_any S B gn gu gt gc m vars A w5 c (topI A a b c) HS5.out hOK.out.2.2)
 go_wp2_with fail
 refine (HA3.out).mono ?_
 rintro e w6 ⟨rfl,hb6⟩
 have HS6:=hide (HS5.out.below hb6)
 have HK6:=hide (HK5.out.below hb6 HK5.out.lt)
 have HB6:=hide (HB5.out.trans (hb6.mono HB5.out.size))
 clear HS5 HK5 HB5 HA3 hb6
 have hlow:=HI.out.low
 have hmost:=HI.out.most
 have w21:=W2.out.1
 have w22:=W2.out.2
 have HR1:=hide (ih _ _ _ A m w6 q4 ⟨HS6.out,q1,q2,q3,by omega,by omega⟩)
 go_wp2_with fail
 refine (HR1.out).mono ?_
 rintro e w7 ⟨A1,lo,m1,rfl,HS7',T1,hm1,hf7⟩
 have HS7:=hide HS7'
 have HT1:=hide T1
 have HF7:=hide ((Fr.of_below (S:=spB B gn gu gt gc) HB6.out (Nat.le_refl _)).trans hf7)
 have HK7:=hide (HK6.out.fr hf7 (fun hk=>hgS _ hk rfl))
 have e1:=T1.ext
 have hfew1:=T1.few
 clear HS7' T1 hf7 HS6 HK6 HB6 HR1
 have x4:=topI_ext e1 r1 r2 r3
 have HR2:=hide (ih _ _ _ A1 m1 w7 (by rw [x4];exact r4) ⟨HS7.out,e1.has r1,e1.has r2,e1.has r3,by rw [x4];omega,by rw [x4];omega⟩)
 go_wp2_with fail
 refine (HR2.out).mono ?_
 rintro e w8 ⟨A2,hi,m2,rfl,HS8',T2,hm2,hf8⟩
 rw [x4] at hm2
 have HS8:=hide HS8'
 have HT2:=hide T2
 have HF8:=hide (HF7.out.trans hf8)
 have HK8:=hide (HK7.out.fr hf8 (fun hk=>hgS _ hk rfl))
 have hfew2:=T2.few
 rw [x4] at hfew2
 clear HS8' T2 hf8 HS7 HK7 HF7 HR2
 have HN:=hide (bdNode_any S B gn gu gt gc m2 vars A2 w8 lo hi (topI A a b c) HS8.out hT.1 hT.2 (HT2.out.ext.has HT1.out.has) (by rw [HT2.out.ext.top HT1.out.has];have:=HT1.out.top;omega) HT2.out.has (by have:=HT2.out.top;omega) (by omega))
 go_wp2_with fail
 refine (HN.out).mono ?_
 rintro e w9 ⟨A3,x,m3,rfl,HS9',T3,hm3,hf9⟩
 have HS9:=hide HS9'
 have HT3:=hide T3
 have HF9:=hide (HF8.out.trans hf9)
 have HK9:=hide (HK8.out.fr hf9 (fun hk=>hgS _ hk rfl))
 clear HS9' T3 hf9 HS8 HK8 HF8 HN
 have HJ:=hide (JN.out A1 A2 A3 lo hi x HT1.out HT2.out HT3.out)
 obtain ⟨f3,hc3,ho3⟩:=HS9.out.cache
 have HC3:=hide hc3
 have HO3:=hide ho3
 clear hc3 ho3
 have k0:=HK9.out.cell 0
 have k1:=HK9.out.cell 1
 have k2:=HK9.out.cell 2
 have k3:=HK9.out.cell 3
 have s2:=HS9.out.kS.cell 2
 go_wp2
 go_still_tail 6,(by kernel_rfl)
 change wpList _ _ _ _ _ w9.drew
 have HMP:=hide (show CacheM w9.drew gc f3 m3 from HC3.out.same rfl)
 have hxI:=HS9.out.sp.i64 HT3.out.has
 have HSP:=HI.out.sp.sp
 go_wp2_with (first
  | (at_mapUpdate;refine storeV keyS_four rfl _ _ _ 131 rfl Tryz.underlying131 rfl HMP.out (a,b,c) x rfl rfl hOK.out hxI (by omega) ?_;intro w10 hm4 hg4;have HM4:=hide hm4;have HG4:=hide hg4;clear hm4 hg4)
  | fail)
 go_ret2
 refine ⟨A3,x,m3+1,rfl,?_,HJ.out,by omega,HF9.out.drew.grown HG4.out (fun k e=>by cases e;exact .inr rfl)⟩
 refine (HS9.out.below (Below.refl _ _).drew).put HG4.out HM4.out (HO3.out.put (HJ.out.ext.has HI.out.pa) (HJ.out.ext.has HI.out.pb) (HJ.out.ext.has HI.out.pc) HJ.out.has ?_ fun v=>?_)
 ·rw [topI_ext HJ.out.ext HI.out.pa HI.out.pb HI.out.pc]
  exact HJ.out.top
 ·rw [iteF_ext HSP HJ.out.sp HJ.out.ext HI.out.pa HI.out.pb HI.out.pc v]
  exact HJ.out.den v
set_option maxHeartbeats 1000000 in
theorem ite_ends (a b c:Int) (h:IteI w S B gn gu gt gc m vars A a b c) (he:a=1∨b=c∨a=0) :
  Calls Tryz.prog 160 #[.pointer (some ⟨S,0,none⟩),.int .i64 a,.int .i64 b,.int .i64 c] w (IteP w S B gn gu gt gc m vars A a b c):=by
 by_cases h1:a=1
 ·subst h1
  have HP:=hide (ite_one h)
  clear h he
  go_enter Tryz.func160,Tryz.ntmps160
  go_wp2
  go_ret2
  exact HP.out
 ·have f1:(a==1)=false:=beq_eq_false_iff_ne.2 h1
  by_cases h2:b=c
  ·subst h2
   have HP:=hide (ite_like h)
   clear h he
   go_enter Tryz.func160,Tryz.ntmps160
   go_wp2
   go_ret2
   exact HP.out
  ·have f2:(b==c)=false:=beq_eq_false_iff_ne.2 h2
   obtain rfl:a=0:=by omega
   have HP:=hide (ite_zero h)
   clear h he
   go_enter Tryz.func160,Tryz.ntmps160
   go_wp2
   go_ret2
   exact HP.out
theorem bdIte_all:∀ (n:Nat) (a b c:Int) (A:Ar) (m:Nat) (w:World),(24-topI A a b c).toNat≤n→IteI w S B gn gu gt gc m vars A a b c →
  Calls Tryz.prog 160 #[.pointer (some ⟨S,0,none⟩),.int .i64 a,.int .i64 b,.int .i64 c] w (IteP w S B gn gu gt gc m vars A a b c):=by
 intro n
 induction n with
 | zero =>
  intro a b c A m w hn h
  refine ite_ends S B gn gu gt gc m vars A w a b c h ?_
  by_cases a0:a=0
  ·exact .inr (.inr a0)
  ·by_cases a1:a=1
   ·exact .inl a1
   ·have:=ite_top (b:=b) (c:=c) h.sp.sp h.pa a0 a1
    have:=h.sp.v6
    omega
 | succ n ih =>
  intro a b c A m w hn h
  by_cases he:a=1∨b=c∨a=0
  ·exact ite_ends S B gn gu gt gc m vars A w a b c h he
  ·obtain ⟨f,hc,ho⟩:=h.sp.cache
   cases hf:f (a,b,c) with
   | some x=>exact ite_known S B gn gu gt gc m vars A w a b c x h (fun e=>he (.inr (.inr e))) (fun e=>he (.inl e)) (fun e=>he (.inr (.inl e))) f hc ho hf
   | none =>
    have ht:=ite_top (b:=b) (c:=c) h.sp.sp h.pa (fun e=>he (.inr (.inr e))) (fun e=>he (.inl e))
    exact ite_miss S B gn gu gt gc m vars A w a b c h (fun e=>he (.inr (.inr e))) (fun e=>he (.inl e)) (fun e=>he (.inr (.inl e))) f hc hf fun a' b' c' A' m' w' h1 h2=>ih a' b' c' A' m' w' (by omega) h2
theorem bdite_any (a b c:Int) (h:IteI w S B gn gu gt gc m vars A a b c) :
  Calls Tryz.prog 160 #[.pointer (some ⟨S,0,none⟩),.int .i64 a,.int .i64 b,.int .i64 c] w (IteP w S B gn gu gt gc m vars A a b c) :=
 bdIte_all S B gn gu gt gc vars _ a b c A m w (Nat.le_refl _) h
end
end Go.Proofs.YtojgbcmhdnappaaGreatDoor
