/-
  A part of the proof: RefCan, EvCnt, RefInst, CrsRow. Conditions: none.
-/
import Derived.Test.YtojgbcmhdnappaaGreatDoorAlReaCan
import Derived.Test.YtojgbcmhdnappaaGreatDoorAlPcs
import Derived.Test.YtojgbcmhdnappaaGreatDoorAlAt
import Derived.Laws.Bits64b
import Derived.Laws.BitsAllLaws
namespace Go.Proofs.YtojgbcmhdnappaaGreatDoor
open Go.RowKit Go.Maps
set_option maxRecDepth 100000
theorem mapBl:Tryz.prog.underlying 121=some (.map 3 4):=Tryz.underlying121
def OnM (w:World) (b:Nat) (sy:List Nat) (set k m:Nat):Prop:=∃ f,MapG 3 keyL I64 w b f m∧∀ i:Nat,i<100→(f (i:Int)).getD (.bool false)=.bool (onF sy set k i)
theorem OnM.below {w w':World} {b set k m:Nat} {sy:List Nat} (h:OnM w b sy set k m) (hb:Below w.heap.size w w'):OnM w' b sy set k m:=by
 obtain ⟨f,h1,h2⟩:=h
 exact ⟨f,h1.below hb,h2⟩
theorem onM_made (w:World) (sy:List Nat) (set:Nat):OnM (w.alloc (.map #[] 0)) w.heap.size sy set 0 0:=⟨_,mapG_made w,fun _ _=>rfl⟩
theorem OnM.look {w:World} {b set k m:Nat} {sy:List Nat} (h:OnM w b sy set k m) (i:Nat) (hi:i<100):(Instr.lookup 121 (.map (some b)) (.int .i64 (i:Int)) false).run Tryz.prog w=.ok (.bool (onF sy set k i)) w:=by
 obtain ⟨f,h1,h2⟩:=h
 have:=h1.get keyS_int mapBl (z0:=.bool false) (fun w=>zeroBool w) (i:Int) (by unfold I64;omega)
 rw [h2 i hi] at this
 exact this
theorem from_rng {its:List ItR} {ls:List LnR} (hn:ls.length≤100):∀ c∈rulesF its ls,-1≤c.2∧c.2≤1000:=by
 have ht:∀ (nm:ByteArray) (k:Nat) (l:List ItR) (i:Nat),∀ c∈twinR nm k l i,c.2 = -1:=by
  intro nm k l
  induction l with
  | nil=>intro i c hc;exact absurd hc List.not_mem_nil
  | cons a r ih =>
   intro i c hc
   rw [twinR] at hc
   split at hc
   ·rcases List.mem_cons.1 hc with rfl | hc
    ·rfl
    ·exact ih _ c hc
   ·exact ih _ c hc
 have ht2:∀ (l:List ItR) (k:Nat),∀ c∈twinsR its l k,c.2 = -1:=by
  intro l
  induction l with
  | nil=>intro k c hc;exact absurd hc List.not_mem_nil
  | cons a r ih =>
   intro k c hc
   rw [twinsR] at hc
   rcases List.mem_append.1 hc with hc | hc
   ·exact ht _ _ _ _ c hc
   ·exact ih _ c hc
 have hl:∀ (l:List LnR) (k:Nat),∀ c∈rusL its l k,0≤c.2∧c.2<(k:Int)+l.length:=by
  intro l
  induction l with
  | nil=>intro k c hc;exact absurd hc List.not_mem_nil
  | cons x r ih =>
   intro k c hc
   rw [rusL] at hc
   rw [List.length_cons]
   rcases List.mem_append.1 hc with hc | hc
   ·have:c.2=(k:Int):=by
     unfold ruL at hc
     split at hc
     ·rw [List.mem_singleton.1 hc]
     ·split at hc
      ·rw [List.mem_singleton.1 hc]
      ·split at hc
       ·obtain ⟨z,_,rfl⟩:=List.mem_map.1 hc
        rfl
       ·exact absurd hc List.not_mem_nil
    omega
   ·have:=ih _ c hc
    omega
 intro c hc
 unfold rulesF at hc
 rcases List.mem_append.1 hc with hc | hc
 ·have:=ht2 _ _ c hc;omega
 ·have:=hl _ _ c hc;omega
def preB (f:Nat→Bool) (L i:Nat):List Bool:=(List.range L).map fun j=>decide (j<i)&&f j
theorem preB_len (f:Nat→Bool) (L i:Nat):(preB f L i).length=L:=by unfold preB;rw [List.length_map,List.length_range]
theorem preB_zero (f:Nat→Bool) (L:Nat):preB f L 0=List.replicate L false:=by
 refine List.ext_getElem (by rw [preB_len,List.length_replicate]) fun i h1 h2=>?_
 rw [List.getElem_replicate]
 simp [preB]
theorem preB_set (f:Nat→Bool) {L i:Nat} (_:i<L):preB f L (i+1)=(preB f L i).set i (f i):=by
 refine List.ext_getElem (by rw [List.length_set,preB_len,preB_len]) fun j h1 h2=>?_
 rw [List.getElem_set]
 simp only [preB,List.getElem_map,List.getElem_range]
 by_cases e:i=j
 ·subst e
  rw [if_pos rfl,decide_eq_true (by omega),Bool.true_and]
 ·rw [if_neg e,decide_eq_decide.2 (show j<i+1↔j<i by omega)]
theorem preB_all (f:Nat→Bool) (L:Nat):preB f L L=(List.range L).map f:=by
 unfold preB
 refine List.map_congr_left fun j hj=>?_
 rw [decide_eq_true (List.mem_range.1 hj),Bool.true_and]
structure BlI (w:World) (gB:Nat) (bs:List Bool) (wr:World):Prop where
 kB:Blk wr gB 4 (boolArr bs)
 bel:Below w.heap.size w wr
theorem BlI.step {w wr:World} {gB k:Nat} {bs:List Bool} (h:BlI w gB bs wr) (hg:w.heap.size≤gB) (x:Bool):BlI w gB (bs.set k x) (wr.setCell ⟨gB,k,none⟩ (.bool x)) :=
 ⟨by rw [←boolArr_set];exact h.kB.set_ k _,h.bel.setCell (p:=⟨gB,k,none⟩) hg _⟩
def RCanP (b:Bool) (w:World) (e:Ending) (w':World):Prop:=e=.returned (.bool b)∧Below w.heap.size w w'
set_option maxHeartbeats 8000000 in
theorem refCan_any (v:Value) (qs:List LnQ) (its0:List ItR) (b m:Nat) (sy:List Nat) (set k:Nat) (w:World) (h:LnsR w 0 v qs) (hc:catR (qs.map (·.1))=.inr its0) (hm:OnM w b sy set k m) (hn:(itemsF (qs.map (·.1))).length≤10) (hl:(rulesF (itemsF (qs.map (·.1))) (qs.map (·.1))).length≤200) (hsy:∀ x∈sy,x<qs.length) :
  Calls Tryz.prog 50 #[v,.map (some b)] w (RCanP (holdF (itemsF (qs.map (·.1))).length (onlyF (rulesF (itemsF (qs.map (·.1))) (qs.map (·.1))) (onLB sy set k 100))) w):=by
 have hq100:qs.length≤100:=by have:=(catR_ok hc).2.2.2.1;simpa using this
 have HRR:=hide (refRules_any v qs its0 w h hc)
 have HIT:=Lib.hid (fun W (h:LnsR W 0 v qs)=>refItems_any v qs W h (by omega))
 have HL:=hide h
 have HM:=hide hm
 have HLT:=Lib.hid (rules_lits hc)
 have HF:=Lib.hid (from_rng (its:=itemsF (qs.map (·.1))) (ls:=qs.map (·.1)) (by rw [List.length_map];exact hq100))
 have HON:=Lib.hid (onlyF_on (rulesF (itemsF (qs.map (·.1))) (qs.map (·.1))) (sy:=sy) (set:=set) (k:=k) hsy hq100)
 unfold ItsP at HIT
 unfold RefRuP at HRR
 generalize itemsF (qs.map (·.1))=its at HRR HIT HLT HF HON hn hl ⊢
 generalize rulesF its (qs.map (·.1))=R at HRR HLT HF HON hl ⊢
 rw [←HON.out]
 obtain ⟨Av,cv,rfl,_⟩:=h.1.len
 have HNN:=Lib.hid hn
 have HRL:=Lib.hid hl
 have HQ:=Lib.hid hq100
 obtain ⟨L,HLQ⟩:∃ L,Hid (qs.length=L):=⟨_,Lib.hid rfl⟩
 rw [HLQ.out]
 rw [HLQ.out] at hq100 HON HL HRR HIT HQ
 have HPA:=Lib.hid (preB_all (onF sy set k) L)
 obtain ⟨bs,HBS⟩:∃ bs,Hid (onLB sy set k L=bs):=⟨_,Lib.hid rfl⟩
 rw [HBS.out]
 have HBL:=Lib.hid (show bs.length=L by rw [←HBS.out];exact onLB_len _ _ _ _)
 obtain ⟨cs,HCS⟩:∃ cs,Hid (onlyF R bs=cs):=⟨_,Lib.hid rfl⟩
 rw [HCS.out]
 obtain ⟨bh,HBH⟩:∃ bh,Hid (holdF its.length cs=bh):=⟨_,Lib.hid rfl⟩
 rw [HBH.out]
 have HLC:=Lib.hid (show ∀ z∈cs,LitsIn its.length z by rw [←HCS.out];exact only_lits HLT.out)
 have HLN:=Lib.hid (show cs.length≤200 by rw [←HCS.out];exact Nat.le_trans (onlyR_len R bs) hl)
 clear h hc hm hn hl hsy
 go_enter Tryz.func50,Tryz.ntmps50
 go_wp2_with fail
 refine HRR.out.mono ?_
 rintro e w1 ⟨v2,v3,rfl,hr1,hb1⟩
 obtain ⟨A2,c2,A3,c3,e2,e3⟩:=hr1.form
 rw [List.length_map] at e2 e3
 subst e2 e3
 have HRU:=hide hr1
 have HB1:=hide hb1
 have hal:=(Below.refl w1.heap.size w1).alloc (Nat.le_refl _) (.cells (boolArr (preB (onF sy set k) L 0)) 4)
 have HI0:=hide (show BlI w1 w1.heap.size (preB (onF sy set k) L 0) (w1.alloc (.cells (boolArr (preB (onF sy set k) L 0)) 4)) from ⟨Blk.new w1 _ _,hal⟩)
 have hmk:(Instr.makeSlice 116 (.int .i64 (L:Int)) (.int .i64 (L:Int))).run Tryz.prog w1=.ok (.slice (some ⟨w1.heap.size,0,none⟩) L L) (w1.alloc (.cells (boolArr (preB (onF sy set k) L 0)) 4)):=by
  rw [preB_zero]
  exact mk_bools L (by omega) _
 clear hr1 hb1 hal HRR
 go_upto_region 3 with fail
 generalize (w1.alloc (.cells (boolArr (preB (onF sy set k) L 0)) 4))=w2 at HI0 hmk ⊢
 clear hmk
 obtain ⟨gB,HGB⟩:∃ gB,Hid (w1.heap.size=gB):=⟨_,Lib.hid rfl⟩
 rw [HGB.out] at HI0 ⊢
 go_wp2_with fail
 go_loopw [25] (fun iv wr=>∃ i:Nat,i≤L∧iv=.int .i64 i∧Hid (BlI w1 gB (preB (onF sy set k) L i) wr)) (fun iv _=>L-(intOf iv).toNat)
 case atStart=>exact ⟨0,Nat.zero_le _,rfl,HI0⟩
 case round =>
  clear HI0
  obtain ⟨i,hi,rfl,HI⟩:=hrel
  by_cases hlt:i<L
  ·have hltz:(i:Int)<(L:Int):=by omega
   have hlk:=(HM.out.below (HB1.out.trans (HI.out.bel.mono HB1.out.size))).look i (by omega)
   have c0:=(HI.out.kB.cell i).trans (boolArr_at (by rw [preB_len];exact hlt))
   have f0:=HI.out.kB.frozen i
   have HN:=hide (show BlI w1 gB (preB (onF sy set k) L (i+1)) (wr.setCell ⟨gB,i,none⟩ (.bool (onF sy set k i))) from by rw [preB_set _ hlt];exact HI.out.step (Nat.le_of_eq HGB.out) _)
   generalize onF sy set k i=tb at hlk HN
   generalize (preB (onF sy set k) L i).getD i false=ob at c0
   go_wp2_with fail
   go_round
   case rel=>exact ⟨i+1,by omega,by go_num,HN⟩
   case measure=>simp [intOf];omega
  ·have hltz:¬(i:Int)<(L:Int):=by omega
   have hkm:i=L:=by omega
   subst hkm
   have HBI:=hide (show BlI w1 gB bs wr from by have:=HI.out;rw [HPA.out] at this;rw [←HBS.out];exact this)
   have HBW:=hide (HB1.out.trans (HI.out.bel.mono HB1.out.size))
   clear HI HM HPA
   have HII:=hide (HIT.out wr (HL.out.below HBW.out))
   clear HIT HL
   go_wp2_with fail
   refine HII.out.mono ?_
   rintro e w3 ⟨vi,rfl,ho,hb3⟩
   obtain ⟨Ai,ci,rfl,_⟩:=ho.len
   have HB3:=hide hb3
   clear ho hb3 HII
   have HOO:=hide (refOnly_any _ _ R _ (some ⟨gB,0,none⟩) i i bs w3 ((HRU.out.below HBI.out.bel).below HB3.out) HF.out ((boolsR_of HBI.out.kB HBL.out).below HB3.out) (by have:=HRL.out;omega))
   have HBV:=hide (HBW.out.trans (HB3.out.mono HBW.out.size))
   unfold OnlyP at HOO
   rw [HCS.out] at HOO
   clear HRU HBI HB3 HBW HB1 HBS
   go_wp2_with fail
   refine HOO.out.mono ?_
   rintro e w4 ⟨vo,rfl,hco,hb4⟩
   obtain ⟨Ao,co,rfl⟩:=hco.len
   have HSO:=hide (refSolveK_any its.length _ Ao co cs w4 hco HNN.out HLC.out HLN.out)
   rw [HBH.out] at HSO
   have HB5:=hide (HBV.out.trans (hb4.mono HBV.out.size))
   clear hco hb4 HOO HBV
   go_wp2_with fail
   refine HSO.out.mono ?_
   rintro e w5 ⟨x,A',n',c',bb,rfl,hb5⟩
   have HE:=hide (HB5.out.trans (hb5.mono HB5.out.size))
   clear hb5 HSO
   go_wp2_with fail
   go_ret
   exact ⟨rfl,HE.out⟩
end Go.Proofs.YtojgbcmhdnappaaGreatDoor
namespace Go.Proofs.YtojgbcmhdnappaaGreatDoor
def upd (v:Int→Bool) (x:Int) (b:Bool):Int→Bool:=fun y=>if y=x then b else v y
section
variable {A:Ar} {h k:Int} {d:Nd} {v u:Int→Bool}
end
section
variable {A A':Ar} {h:Int} {d:Nd} {v:Int→Bool}
end
end Go.Proofs.YtojgbcmhdnappaaGreatDoor
namespace Go.Proofs.YtojgbcmhdnappaaGreatDoor
end Go.Proofs.YtojgbcmhdnappaaGreatDoor
namespace Go.Proofs.YtojgbcmhdnappaaGreatDoor
open Go.RowKit
set_option maxRecDepth 100000
def elU:ElK Nat:=⟨61,1,fun x=>[.int .u64 (x:Int)],by decide,fun _=>rfl,fun _ u hu=>by rw [List.mem_singleton.1 hu];rfl⟩
theorem uintInfoU:(Tryz.prog.info? 61).map (fun i=>(i.zero,i.size,i.bytes))=some (some (.int .u64 0),1,8):=by kernel_rfl
end Go.Proofs.YtojgbcmhdnappaaGreatDoor
namespace Go.Proofs.YtojgbcmhdnappaaGreatDoor
open Go.RowKit
set_option maxRecDepth 100000
structure InU (w:World) (za zn:List Nat) (va vn:Value) (wr:World):Prop where
 ra:OwnK elU wr w.heap.size va za
 rn:OwnK elU wr w.heap.size vn zn
 ne:va.ownBlock=none∨vn.ownBlock=none∨va.ownBlock≠vn.ownBlock
 bel:Below w.heap.size w wr
theorem InU.apart {w:World} {za zn:List Nat} {va vn:Value} {wr:World} (h:InU w za zn va vn wr):(vn.ownBlock=none∨vn.ownBlock≠va.ownBlock)∧(va.ownBlock=none∨va.ownBlock≠vn.ownBlock):=by
 rcases h.ne with e | e | e
 ·refine ⟨?_,.inl e⟩
  by_cases h0:vn.ownBlock=none
  ·exact .inl h0
  ·exact .inr (by rw [e];exact h0)
 ·refine ⟨.inl e,?_⟩
  by_cases h0:va.ownBlock=none
  ·exact .inl h0
  ·exact .inr (by rw [e];exact h0)
 ·exact ⟨.inr (Ne.symm e),.inr e⟩
theorem InU.below {w w':World} {za zn:List Nat} {va vn:Value} {wr:World} (h:InU w za zn va vn wr) (hb:Below wr.heap.size wr w'):InU w za zn va vn w':=⟨h.ra.below hb,h.rn.below hb,h.ne,h.bel.trans (hb.mono h.bel.size)⟩
theorem InU.pushA {w wa W:World} {za zn:List Nat} {va vn v:Value} {x:Nat} (h:InU w za zn va vn wa) (ho:OwnK elU W w.heap.size v (za++[x])) (hg:wa.grownBy W va.ownBlock) (hor:v.ownBlock=va.ownBlock∨v.ownBlock=some wa.heap.size):InU w (za++[x]) zn v vn W:=by
 refine ⟨ho,OwnK.kept h.rn hg h.apart.1,?_,h.bel.grown hg h.bel.size (fun k hk=>(h.ra.lt k hk).1)⟩
 rcases hor with e | e
 ·rw [e];exact h.ne
 ·right
  cases e2:vn.ownBlock with
  | none=>exact .inl rfl
  | some k=>exact .inr (by rw [e];intro e3;injection e3 with e3;have:=(h.rn.lt k e2).2;omega)
theorem InU.pushN {w wa W:World} {za zn:List Nat} {va vn v:Value} {x:Nat} (h:InU w za zn va vn wa) (ho:OwnK elU W w.heap.size v (zn++[x])) (hg:wa.grownBy W vn.ownBlock) (hor:v.ownBlock=vn.ownBlock∨v.ownBlock=some wa.heap.size):InU w za (zn++[x]) va v W:=by
 refine ⟨OwnK.kept h.ra hg h.apart.2,ho,?_,h.bel.grown hg h.bel.size (fun k hk=>(h.rn.lt k hk).1)⟩
 rcases hor with e | e
 ·rw [e];exact h.ne
 ·cases e2:va.ownBlock with
  | none=>exact .inl rfl
  | some k=>exact .inr (.inr (by rw [e];intro e3;injection e3 with e3;have:=(h.ra.lt k e2).2;omega))
theorem bq_all:∀ m,m<11→∀ i,i<1024→i<2 ^ m→(2 ^ m-1) &&& (18446744073709551615-i)=2 ^ m-1-i:=by decide +kernel
theorem bq_bit:∀ k,k<10→∀ i,i<1024→i.testBit k=true→i &&& (18446744073709551615-2 ^ k)=i-2 ^ k:=by decide +kernel
theorem bq_or:∀ k,k<10→∀ i,i<1024→i.testBit k=false→i ||| 2 ^ k=i+2 ^ k:=by decide +kernel
theorem bq_and:∀ k,k<10→∀ i,i<1024→((i &&& 2 ^ k==0)=!i.testBit k):=by decide +kernel
structure BitQ (m i k P q1 q2 q3:Nat) (tb:Bool):Prop where
 wr:IntKind.u64.wrap ((2:Int) ^ k)=(P:Int)
 nz:(bits BinOp.and IntKind.u64 (i:Int) (P:Int) != 0)=tb
 off:tb=true→bits BinOp.andNot IntKind.u64 (i:Int) (P:Int)=(q1:Int)
 on:tb=true→bits BinOp.or IntKind.u64 (q2:Int) (P:Int)=(q3:Int)
 less:tb=true→IntKind.u64.wrap ((i:Int)-(P:Int))=(q1:Int)
 more:tb=true→IntKind.u64.wrap ((q2:Int)+(P:Int))=(q3:Int)
 lt1:q1<2 ^ m
 lt3:tb=true→q3<2 ^ m
theorem bitQ {m i k:Nat} (hm:m≤10) (hi:i<2 ^ m) (hk:k<m):BitQ m i k (2 ^ k) (i-2 ^ k) (2 ^ m-1-i) (2 ^ m-1-i+2 ^ k) (i.testBit k):=by
 have h10:2 ^ m≤2 ^ 10:=Nat.pow_le_pow_right (n:=2) (by decide) hm
 have hkm:2 ^ k<2 ^ m:=Nat.pow_lt_pow_right (by decide) hk
 have hbe:i.testBit k=true→2 ^ k≤i:=bit_le
 have ha:=bq_and k (by omega) i (by omega)
 have hwr:IntKind.u64.wrap ((2:Int) ^ k)=((2 ^ k:Nat):Int):=by
  rw [show (2:Int) ^ k=((2 ^ k:Nat):Int) by norm_cast,IntKind.wrap_u64]
  have h9:2 ^ k<1024:=by omega
  generalize 2 ^ k=P at h9
  omega
 have hof:=bq_bit k (by omega) i (by omega)
 have hno:i.testBit k=true→(2 ^ m-1-i).testBit k=false:=fun e=>by rw [all_less hi,e];simp
 have hor:=bq_or k (by omega) (2 ^ m-1-i) (by omega)
 generalize 2 ^ k=P at *
 generalize hN:2 ^ m=N at *
 refine ⟨hwr,?_,fun e=>?_,fun e=>?_,fun e=>?_,fun e=>?_,by rw [hN];omega,fun e=>by rw [hN];have:=hbe e;omega⟩
 ·rw [bits_and_u64_nat _ _ (by omega) (by omega)]
  cases hb:i.testBit k with
  | true =>
   rw [hb] at ha
   have:(i &&& P)≠0:=by simpa using ha
   simp
   omega
  | false =>
   rw [hb] at ha
   have:(i &&& P)=0:=by simpa using ha
   rw [this]
   rfl
 ·rw [u64_andNot_nat _ _ (by omega) (by omega),hof e]
 ·rw [bits_or_u64_nat _ _ (by omega) (by omega),hor (hno e)]
 ·have:=hbe e
  rw [IntKind.wrap_u64]
  omega
 ·have:=hbe e
  rw [IntKind.wrap_u64]
  omega
theorem allQ {m i:Nat} (hm:m≤10) (hi:i<2 ^ m):bits BinOp.andNot IntKind.u64 ((2 ^ m-1:Nat):Int) (i:Int)=((2 ^ m-1-i:Nat):Int)∧IntKind.u64.wrap (((2 ^ m-1:Nat):Int)-(i:Int))=((2 ^ m-1-i:Nat):Int):=by
 have h10:2 ^ m≤2 ^ 10:=Nat.pow_le_pow_right (n:=2) (by decide) hm
 have ha:=bq_all m (by omega) i (by omega) hi
 generalize 2 ^ m=N at *
 refine ⟨by rw [u64_andNot_nat _ _ (by omega) (by omega),ha],?_⟩
 rw [IntKind.wrap_u64]
 omega
theorem onesQ {m:Nat} (hm:m≤10):IntKind.u64.wrap ((2:Int) ^ m)=((2 ^ m:Nat):Int)∧IntKind.u64.wrap (((2 ^ m:Nat):Int)-1)=((2 ^ m-1:Nat):Int)∧IntKind.u64.wrap (((2 ^ m-1:Nat):Int)+1)=((2 ^ m:Nat):Int)∧1≤2 ^ m∧2 ^ m≤1024:=by
 have h10:2 ^ m≤2 ^ 10:=Nat.pow_le_pow_right (n:=2) (by decide) hm
 have h1:1≤2 ^ m:=Nat.one_le_two_pow
 have hwr:(2:Int) ^ m=((2 ^ m:Nat):Int):=by norm_cast
 rw [hwr]
 generalize 2 ^ m=N at *
 refine ⟨?_,?_,?_,h1,h10⟩ <;> rw [IntKind.wrap_u64] <;> omega
def CrJ (ok:Nat→Bool) (m i k:Nat) (xv yv:Value):Prop:=xv=.bool (coreF ok i k)∧yv=.bool (fixF ok (2 ^ m-1) i k)
def CrsP (ok:Nat→Bool) (m:Nat) (w:World) (va vb:Value) (w':World):Prop:=OwnK elU w' w.heap.size va (coresF ok m (2 ^ m))∧OwnK elU w' w.heap.size vb (fixesF ok m (2 ^ m))
theorem BlI.more {w wr wt:World} {gB:Nat} {bs:List Bool} (h:BlI w gB bs wr) (hb:Below wr.heap.size wr wt):BlI w gB bs wt:=⟨h.kB.below hb h.kB.lt,h.bel.trans (hb.mono h.bel.size)⟩
end Go.Proofs.YtojgbcmhdnappaaGreatDoor
