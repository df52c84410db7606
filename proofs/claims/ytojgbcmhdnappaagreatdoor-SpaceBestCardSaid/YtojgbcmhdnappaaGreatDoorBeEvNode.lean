/-
  A part of the proof: ArenaSweep, EvNode. Conditions: none.
-/
import Derived.Test.YtojgbcmhdnappaaGreatDoorBeArenaReach
import Derived.Test.YtojgbcmhdnappaaGreatDoorBeArenaOut
import Derived.Lib.SliceRun
import Derived.Deep.RegionWith
import Derived.Test.YtojgbcmhdnappaaGreatDoorBeBddMap
import Derived.Test.YtojgbcmhdnappaaGreatDoorBeArenaMake2
namespace Go.Proofs.YtojgbcmhdnappaaGreatDoor
open Go.RowKit
theorem zero_cells (g:Nat):∀ (m o:Nat) (w:World) (tab:List Int),Blk w g 3 (intArr tab) →
  Blk (w.setCells g o (List.replicate m (.int .i64 0))) g 3 (intArr (zeroT o m tab))∧Fr (fun k=>k=g) w (w.setCells g o (List.replicate m (.int .i64 0))):=by
 intro m
 induction m with
 | zero=>intro o w tab h;exact ⟨h,.refl _ _⟩
 | succ m ih =>
  intro o w tab h
  rw [List.replicate_succ,World.setCells,zeroT]
  have h2:=h.set_ o (.int .i64 0)
  rw [intArr_set] at h2
  obtain ⟨h3,h4⟩:=ih (o+1) _ _ h2
  exact ⟨h3,((Fr.refl (fun k=>k=g) w).set_ (p:=⟨g,o,none⟩) rfl _).trans h4⟩
theorem zeroInt3 (w:World):(zeroValue 3).run Tryz.prog w=.ok (.int .i64 0) w:=by kernel_rfl
theorem OwnI.frS {S:Nat→Prop} {w w':World} {base:Nat} {v:Value} {zs:List Int} (h:OwnI w base v zs) (hf:Fr S w w') (hS:∀ k,base≤k→k<w.heap.size→¬S k):OwnI w' base v zs:=by
 refine ⟨h.1,?_⟩
 rcases h.2 with h2 | ⟨g,cap,cur,e,hg,hgc,r⟩
 ·exact .inl h2
 ·have hlt:g<w.heap.size:=Blk.lt (t:=3) (cs:=cur) hgc
  exact .inr ⟨g,cap,cur,e,hg,(hf.block g hlt (hS g hg hlt)).trans hgc,r⟩
theorem stored_ok {A:Ar} (hw:WfA A) (hl:A.length≤4000) {x:Int} {n:Nd} (e:gotA A x=some n):NdOk n:=MayA.ok ⟨hw.var x n e,hw.low x n e,hw.high x n e⟩ hl
def SweepPost (w:World) (B gn gu gt:Nat) (A:Ar) (l:List Int) (e:Ending) (w':World):Prop :=
 e=.returned (.int .i64 ((cntA A:Int)-((reachL A l).length:Int)))∧ArM w' B gn gu gt (sweepA A l)∧Fr (arB B gn gu gt) w w'
structure BoI (w:World) (gu:Nat) (us:List Bool) (wr:World):Prop where
 fr:Fr (fun k=>k=gu) w wr
 ku:Blk wr gu 4 (boolArr us)
theorem BoI.set_ {w wr:World} {gu:Nat} {us:List Bool} (h:BoI w gu us wr) (i:Nat) (b:Bool):BoI w gu (us.set i b) (wr.setCell ⟨gu,i,none⟩ (.bool b)) :=
 ⟨h.fr.set_ (p:=⟨gu,i,none⟩) rfl _,by rw [←boolArr_set];exact h.ku.set_ i _⟩
structure TbI (w:World) (gt:Nat) (tab:List Int) (wr:World):Prop where
 fr:Fr (fun k=>k=gt) w wr
 kt:Blk wr gt 3 (intArr tab)
set_option maxRecDepth 100000 in
set_option maxHeartbeats 8000000 in
theorem arSweep_any (B gn gu gt:Nat) (A:Ar) (Af:Option Addr) (nf cf:Nat) (l:List Int) (w:World) (h:ArM w B gn gu gt A) (hl:RowI w Af nf l) (hi:∀ x∈l,I64 x) (hn:nf≤1000000) (hnil:Af=none→nf=0) :
  Calls Tryz.prog 108 #[.pointer (some ⟨B,0,none⟩),.slice Af nf cf] w (SweepPost w B gn gu gt A l):=by
 obtain ⟨ns,us,tab,hx⟩:=h.x
 have hroom:=h.room
 have HW:=hide h
 have HX:=hide hx
 have HRE:=hide (arReach_any B gn gu gt A Af nf cf l w h hl hi hn hnil)
 have b3:=hx.kB.cell 3
 have hlts:∀ k,arB B gn gu gt k→k<w.heap.size:=fun k hk=>h.lt hk
 have dnu:=hx.kn.ne_ hx.ku (by decide)
 have dnt:=hx.kn.ne_ hx.kt (by decide)
 have dnB:=hx.kn.ne_ hx.kB (by decide)
 have dut:=hx.ku.ne_ hx.kt (by decide)
 have duB:=hx.ku.ne_ hx.kB (by decide)
 have dtB:=hx.kt.ne_ hx.kB (by decide)
 have hul:=hx.T.s.u
 have htl:=hx.T.len
 clear h hx hl hi
 go_enter Tryz.func108,Tryz.ntmps108
 go_wp2_with fail
 refine (HRE.out).mono ?_
 rintro e w1 ⟨vl,rfl,ho,hb1⟩
 have HX1:=hide (HX.out.below hb1)
 have HO1:=hide ho
 have HB1:=hide hb1
 have b1:=HX1.out.kB.cell 1
 obtain ⟨Ao,co,ev⟩:=ho.len
 subst ev
 have hlen:=reachL_le A l
 clear ho hb1 HRE b3
 go_wp2
 clear b1
 go_loopw [24] (fun iv wr=>∃ i:Nat,i≤A.length∧iv=.int .i64 i∧Hid (BoI w1 gu (offU us i) wr)) (fun iv _=>A.length-(intOf iv).toNat)
 case atStart=>exact ⟨0,Nat.zero_le _,rfl,hide ⟨.refl _ _,by rw [offU_zero];exact HX1.out.ku⟩⟩
 case round =>
  obtain ⟨i,hi,rfl,hR⟩:=hrel
  have kBr:=HX1.out.kB.fr hR.out.fr duB.symm
  have b1:=kBr.cell 1
  have b2:=kBr.cell 2
  by_cases hlt:i<A.length
  ·have f0:=hR.out.ku.frozen i
   have u0:=(hR.out.ku.cell i).trans (boolArr_at (by rw [offU_len (by omega),hul];exact hlt))
   have HN:=hide (hR.out.set_ i false)
   rw [offU_next (by omega)] at HN
   clear hR kBr b2
   go_wp2
   go_roundw
   case rel=>exact ⟨i+1,by omega,by go_num,HN⟩
   case measure=>simp [intOf];omega
  ·obtain rfl:i=A.length:=by omega
   have HFR:=hide hR.out.fr
   have hku:=hR.out.ku
   rw [offU_all hul] at hku
   have HKU:=hide hku
   have kt0:=HX1.out.kt.fr hR.out.fr dut.symm
   have hcl:=fun ty=>Lib.run_clear_slice (P:=Tryz.prog) wr 31 3 ty _ Tryz.underlying31 zeroInt3 rfl rfl gt 0 (2*A.length+1) (2*A.length+1) (by omega) (fun j hj=>by rw [Nat.zero_add,kt0.cell j,intArr_at (by rw [htl];exact hj)];rfl) (fun j _=>kt0.frozen _)
   obtain ⟨kt1,fr1⟩:=zero_cells gt (2*A.length+1) 0 wr tab kt0
   rw [zeroT_all htl] at kt1
   have HKT:=hide kt1
   have HF1:=hide fr1
   have kB1:=kBr.fr fr1 dtB.symm
   have c3:=kB1.cell 3
   have f3:=kB1.frozen 3
   have HKB:=hide (kB1.set_ 3 (.int .i64 ((reachL A l).length:Int)))
   clear hR kBr hku kt0 kt1 fr1 kB1 b1
   have HO2:=hide ((((HO1.out.frS HFR.out (fun k h1 h2 e=>by have:=hlts gu (.inr (.inr (.inl rfl)));omega)).frS HF1.out (fun k h1 h2 e=>by have:=hlts gt (.inr (.inr (.inr rfl)));omega)).frS ((Fr.refl (fun k=>k=B) (wr.setCells gt 0 (List.replicate (2*A.length+1) (Value.int IntKind.i64 0)))).set_ (p:=⟨B,3,none⟩) rfl (.int .i64 ((reachL A l).length:Int))) (fun k h1 h2 e=>by have:=hlts B (.inl rfl);omega)))
   have HU2:=hide ((HKU.out.fr HF1.out dut).far (p:=⟨B,3,none⟩) duB (.int .i64 ((reachL A l).length:Int)))
   have HT2:=hide (HKT.out.far (p:=⟨B,3,none⟩) dtB (.int .i64 ((reachL A l).length:Int)))
   have HN2:=hide (((HX1.out.kn.fr HFR.out dnu).fr HF1.out dnt).far (p:=⟨B,3,none⟩) dnB (.int .i64 ((reachL A l).length:Int)))
   have HF2:=hide (((HFR.out.mono (S':=arB B gn gu gt) (fun k _ e=>.inr (.inr (.inl e)))).trans (HF1.out.mono (fun k _ e=>.inr (.inr (.inr e))))).set_ (p:=⟨B,3,none⟩) (.inl rfl) (.int .i64 ((reachL A l).length:Int)))
   generalize (wr.setCells gt 0 (List.replicate (2*A.length+1) (Value.int IntKind.i64 0)))=wc at hcl HKT HF1 c3 f3 HKB HO2 HU2 HT2 HN2 HF2
   have hkl:∀ k∈keepK A l,k<A.length:=fun k hk=>by
    obtain ⟨n,e⟩:=(mem_keepK.1 hk).got
    rw [gotA_k] at e
    exact gotA_len e
   have HRL:=Lib.hid (reachL_len A l)
   go_wp2
   clear hcl HKT HF1 c3 f3 HKU HFR
   generalize (wc.setCell ⟨B,3,none⟩ (.int .i64 ((reachL A l).length:Int)))=w2 at HKB HO2 HU2 HT2 HN2 HF2 ⊢
   go_loopw [45] (fun iv wr=>∃ j:Nat,j≤(reachL A l).length∧iv=.int .i64 j∧Hid (BoI w2 gu (onU A.length ((keepK A l).take j)) wr)) (fun iv _=>(reachL A l).length-(intOf iv).toNat)
   case atStart=>exact ⟨0,Nat.zero_le _,rfl,hide ⟨.refl _ _,by rw [List.take_zero];exact HU2.out⟩⟩
   case round =>
    obtain ⟨j,hj,rfl,hR⟩:=hrel
    have kBr:=HKB.out.fr hR.out.fr duB.symm
    have b1:=kBr.cell 1
    by_cases hlt:j<(reachL A l).length
    ·obtain ⟨g,cap,cur,ev,hg,hk,_,hc⟩:=(HO2.out.frS hR.out.fr (fun k h1 h2 e=>by have:=hlts gu (.inr (.inr (.inl rfl)));omega)).form (by omega)
     injection ev with e1 _ e2
     subst e1 e2
     have l0:=(hk.cell j).trans (hc j hlt)
     rw [reachL_at hlt] at l0
     have hjk:j<(keepK A l).length:=by rw [←HRL.out];exact hlt
     obtain ⟨hkA,_⟩:=keepK_lt hjk
     have f0:=hR.out.ku.frozen ((keepK A l).getD j 0)
     have u0:=(hR.out.ku.cell ((keepK A l).getD j 0)).trans (boolArr_at (by rw [onU_len];exact hkA))
     have HN:=hide (hR.out.set_ ((keepK A l).getD j 0) true)
     rw [←onU_snoc,show (keepK A l).take j++[(keepK A l).getD j 0]=(keepK A l).take (j+1) by rw [List.take_add_one,getD_of (d:=0) hjk];rfl] at HN
     generalize (keepK A l).getD j 0=k at l0 hkA f0 u0 HN
     have hk5:(k:Int)+2-2=(k:Int):=by omega
     have hkI:(k:Int)<(A.length:Int):=by omega
     clear hR kBr hk hc hg
     go_wp2
     go_roundw
     case rel=>exact ⟨j+1,by omega,by go_num,HN⟩
     case measure=>simp [intOf];omega
    ·obtain rfl:j=(reachL A l).length:=by omega
     have hku:=hR.out.ku
     rw [HRL.out,List.take_length] at hku
     have HKU:=hide hku
     have HFR:=hide hR.out.fr
     have HKT:=hide (HT2.out.fr hR.out.fr dut.symm)
     have HKN:=hide (HN2.out.fr hR.out.fr dnu)
     have HKB3:=hide kBr
     have HO3:=hide (HO2.out.frS hR.out.fr (fun k h1 h2 e=>by have:=hlts gu (.inr (.inr (.inl rfl)));omega))
     have HF3:=hide (HF2.out.trans (hR.out.fr.mono (S':=arB B gn gu gt) (fun k _ e=>.inr (.inr (.inl e)))))
     clear hR kBr hku HKB HO2 HU2 HT2 HN2 HF2 b1 HFR
     obtain ⟨w3,rfl⟩:∃ w3,w3=wr:=⟨wr,rfl⟩
     go_wp2
     go_loopw [59] (fun iv wr=>∃ (j:Nat) (tb:List Int),j≤(reachL A l).length∧iv=.int .i64 j∧Hid (TbI w3 gt tb wr)∧Hid (InsI hashN A l ns tb j)) (fun iv _=>(reachL A l).length-(intOf iv).toNat)
     case atStart=>exact ⟨0,_,Nat.zero_le _,rfl,hide ⟨.refl _ _,HKT.out⟩,hide (ins_start hashN A l ns)⟩
     case round =>
      obtain ⟨j,tb,hj,rfl,hR,hIN⟩:=hrel
      have kBr:=HKB3.out.fr hR.out.fr dtB.symm
      have b3:=kBr.cell 3
      by_cases hlt:j<(reachL A l).length
      ·obtain ⟨g,cap,cur,ev,hg,hk,_,hc⟩:=(HO3.out.frS hR.out.fr (fun k h1 h2 e=>by have:=hlts gt (.inr (.inr (.inr rfl)));omega)).form (by omega)
       injection ev with e1 _ e2
       subst e1 e2
       have l0:=(hk.cell j).trans (hc j hlt)
       rw [reachL_at hlt] at l0
       have hjk:j<(keepK A l).length:=by rw [←HRL.out];exact hlt
       obtain ⟨hkA,hkR⟩:=keepK_lt hjk
       have HNX:=hide (fun i (hp:Place hashN ns tb (ns.getD ((keepK A l).getD j 0) nd0) i)=>hIN.out.next HX1.out.T.s HX1.out.T.wf hjk hp)
       have knr:=HKN.out.fr hR.out.fr dnt
       obtain ⟨m0,m1,m2⟩:=nodeArr_at (ns:=ns) (k:=(keepK A l).getD j 0) (by rw [HX1.out.T.s.n];exact hkA)
       have n0:=(knr.cell ((keepK A l).getD j 0*3)).trans m0
       have n1:=(knr.cell ((keepK A l).getD j 0*3+1)).trans m1
       have n2:=(knr.cell ((keepK A l).getD j 0*3+2)).trans m2
       obtain ⟨nd,hnd⟩:=hkR.got
       have hok:=stored_ok HX1.out.T.wf hroom hnd
       have hns:ns.getD ((keepK A l).getD j 0) nd0=nd:=by
        have:=(HX1.out.T.s.got.1 hnd).2.2
        rwa [show ((((keepK A l).getD j 0:Nat):Int)+2-2).toNat=(keepK A l).getD j 0 by omega] at this
       rw [hns] at n0 n1 n2 HNX
       generalize (keepK A l).getD j 0=k at l0 hkA n0 n1 n2 HNX
       have hk5:(k:Int)+2-2=(k:Int):=by omega
       have hkI:(k:Int)<(A.length:Int):=by omega
       have hw1:IntKind.i64.wrap (k:Int)=(k:Int):=IntWalk.i64_in (k:Int) ⟨by omega,by omega⟩
       have HPL:=hide (fun (w':World) (hb:Below wr.heap.size wr w')=>place_any B gn gt A.length _ _ ns tb nd w' ((PlM.mk kBr knr hR.out.kt HX1.out.T.s.n hIN.out.len hIN.out.nz hIN.out.zero).below hb) hok hroom)
       have b0:=kBr.cell 0
       have b2:=kBr.cell 2
       have lB:=kBr.lt
       have lT:=hR.out.kt.lt
       have HRR:=hide hR.out
       have htb:=hIN.out.len
       clear hk hc hg hkR hnd hns hok m0 m1 m2 hR b3
       go_wp2
       go_region_with (go_at_call 162;refine (HPL.out _ (by first | exact Below.refl _ _ | exact (Below.refl _ _).drew)).mono ?_;rintro e wa ⟨i,rfl,hpl,hba0⟩;have hba:Below wr.heap.size wr wa:=(by first | exact hba0 | exact out_drew hba0);have hit:=hpl.lt;rw [htb] at hit;have hitI:(i:Int)<2*(A.length:Int)+1:=(by omega);have p2:=(hba.cell (p:=⟨B,2,none⟩) lB).trans b2;have pT:=((hba.cell (p:=⟨gt,i,none⟩) lT).trans (HRR.out.kt.cell i)).trans (intArr_at (by rw [htb];exact hit));have pF:=(hba.frozen (p:=⟨gt,i,none⟩) lT).trans (HRR.out.kt.frozen i))
       all_goals
        have HN2:=hide (show TbI w3 gt (tb.set i ((k:Int)+2)) (wa.setCell ⟨gt,i,none⟩ (.int .i64 ((k:Int)+2))) from ⟨(HRR.out.fr.trans (.of_below hba (Nat.le_refl _))).set_ (p:=⟨gt,i,none⟩) rfl _,by rw [←intArr_set];exact (HRR.out.kt.below hba lT).set_ i _⟩)
        have HN3:=hide (HNX.out i hpl)
        clear hba hba0 hpl p2 pT pF HNX HPL b0 b2 n0 n1 n2 kBr knr HRR
        go_wp2
        go_roundw
        case rel=>exact ⟨j+1,_,by omega,by go_num,HN2,HN3⟩
        case measure=>simp [intOf];omega
      ·obtain rfl:j=(reachL A l).length:=by omega
       have HKT2:=hide hR.out.kt
       have hin:=hIN.out
       rw [HRL.out] at hin
       have HAT:=hide (sweep_ArT HX1.out.T.s HX1.out.T.wf hin)
       have hku:=HKU.out.fr hR.out.fr dut
       have hkn:=HKN.out.fr hR.out.fr dnt
       have HFF:=hide ((Fr.of_below HB1.out (Nat.le_refl _)).and_ (HF3.out.trans (hR.out.fr.mono (S':=arB B gn gu gt) (fun k _ e=>.inr (.inr (.inr e))))) (fun i _ hi=>hi))
       have HAM:=hide (show ArM wr B gn gu gt (sweepA A l) from ⟨⟨ns,_,tb,HAT.out,by rw [sweep_len,sweep_cnt];exact kBr,hkn,hku,HKT2.out⟩,by rw [sweep_len];exact hroom⟩)
       have hcA:=cntA_le A
       have hcw:wrap64 ((cntA A:Int)-((reachL A l).length:Int))=(cntA A:Int)-((reachL A l).length:Int):=by unfold wrap64;omega
       clear hR kBr hin hku hkn hIN
       go_wp2
       go_ret
       exact ⟨by first | rfl | (rw [←hcw];rfl),HAM.out,HFF.out⟩
end Go.Proofs.YtojgbcmhdnappaaGreatDoor
namespace Go.Proofs.YtojgbcmhdnappaaGreatDoor
open Go.RowKit Go.Maps
def spB (B gn gu gt gc:Nat) (k:Nat):Prop:=arB B gn gu gt k∨k=gc
abbrev CacheM (w:World) (gc:Nat) (f:Int×Int×Int→Option Int) (m:Nat):Prop:=MapV 319 keyCL okC w gc f m
structure SpM (w:World) (S B gn gu gt gc:Nat) (vars:Int) (A:Ar) (m:Nat):Prop where
 kS:Blk w S 133 #[.pointer (some ⟨B,0,none⟩),.int .i64 vars,.map (some gc)]
 ar:ArM w B gn gu gt A
 cache:∃ f,CacheM w gc f m∧CacheOk A f
 sp:SpA A vars
 v6:0≤vars∧vars≤8
theorem blk_mapV {kt:TypeId} {α:Type} {lit:α→Lit} {ok:α→Prop} {w:World} {b g m:Nat} {t:TypeId} {cs:Array Value} {f:α→Option Int} (h:Blk w b t cs) (hm:MapV kt lit ok w g f m):b≠g:=by
 rintro rfl
 obtain ⟨D,⟨es,clock,hb,_⟩,_⟩:=hm
 have:=h.symm.trans hb
 cases this
section
variable {w w':World} {S B gn gu gt gc m:Nat} {vars:Int} {A A':Ar}
theorem SpM.lt (h:SpM w S B gn gu gt gc vars A m) {k:Nat} (hk:spB B gn gu gt gc k):k<w.heap.size:=by
 obtain ⟨f,hc,_⟩:=h.cache
 rcases hk with hk | rfl
 ·exact h.ar.lt hk
 ·exact hc.lt
theorem SpM.gcA (h:SpM w S B gn gu gt gc vars A m):¬arB B gn gu gt gc:=by
 obtain ⟨f,hc,_⟩:=h.cache
 obtain ⟨ns,us,tab,_,h2,h3,h4,h5⟩:=h.ar.is
 rintro (e | e | e | e)
 ·exact blk_mapV h2 hc e.symm
 ·exact blk_mapV h3 hc e.symm
 ·exact blk_mapV h4 hc e.symm
 ·exact blk_mapV h5 hc e.symm
theorem SpM.sA (h:SpM w S B gn gu gt gc vars A m):¬spB B gn gu gt gc S:=by
 obtain ⟨f,hc,_⟩:=h.cache
 obtain ⟨ns,us,tab,_,h2,h3,h4,h5⟩:=h.ar.is
 rintro ((e | e | e | e) | e)
 ·exact h.kS.ne_ h2 (by decide) e
 ·exact h.kS.ne_ h3 (by decide) e
 ·exact h.kS.ne_ h4 (by decide) e
 ·exact h.kS.ne_ h5 (by decide) e
 ·exact blk_mapV h.kS hc e
theorem SpM.keep (h:SpM w S B gn gu gt gc vars A m) (hk:∀ k,spB B gn gu gt gc k∨k=S→w'.heap[k]?=w.heap[k]?):SpM w' S B gn gu gt gc vars A m:=by
 obtain ⟨f,hc,ho⟩:=h.cache
 exact ⟨(hk S (.inr rfl)).trans h.kS,h.ar.keep fun k hkk=>hk k (.inl (.inl hkk)),⟨f,hc.same (hk gc (.inl (.inr rfl))),ho⟩,h.sp,h.v6⟩
theorem SpM.below (h:SpM w S B gn gu gt gc vars A m) (hb:Below w.heap.size w w'):SpM w' S B gn gu gt gc vars A m :=
 h.keep fun k hk=>hb.block k (hk.elim (fun h1=>h.lt h1) fun e=>by rw [e];exact h.kS.lt)
theorem SpM.arena (h:SpM w S B gn gu gt gc vars A m) (ha:ArM w' B gn gu gt A') (hp:SpA A' vars) (hx:ExtA A A') (hf:Fr (arB B gn gu gt) w w'):SpM w' S B gn gu gt gc vars A' m:=by
 have hgc:=h.gcA
 have hsA:=h.sA
 obtain ⟨f,hc,ho⟩:=h.cache
 exact ⟨h.kS.fr hf (fun hk=>hsA (.inl hk)),ha,⟨f,hc.fr hf hgc,ho.ext h.sp hp hx⟩,hp,h.v6⟩
theorem fr_mono {P Q:Nat→Prop} (h:Fr P w w') (hPQ:∀ k,P k→Q k):Fr Q w w':=h.mono fun k _ hk=>hPQ k hk
def StpP (w:World) (S B gn gu gt gc:Nat) (vars:Int) (A:Ar) (m cl cm:Nat) (t:Int) (F:(Int→Bool)→Bool) (e:Ending) (w':World):Prop :=
 ∃ A' h m',e=.returned (.tuple #[.int .i64 h,.nilIface])∧SpM w' S B gn gu gt gc vars A' m'∧StpA A A' vars cl t h F∧m'≤m+cm∧Fr (spB B gn gu gt gc) w w'
end
end Go.Proofs.YtojgbcmhdnappaaGreatDoor
namespace Go.Proofs.YtojgbcmhdnappaaGreatDoor
open Go.RowKit Go.Maps
section
variable {w w':World} {S B gn gu gt gc m:Nat} {vars:Int} {A A':Ar}
theorem StpP.mono {cl cl' cm cm':Nat} {t t':Int} {F F':(Int→Bool)→Bool} {e:Ending} (h:StpP w S B gn gu gt gc vars A m cl cm t F e w') (h1:cl≤cl') (h2:cm≤cm') (h3:t'≤t) (h4:∀ v,F v=F' v) :
  StpP w S B gn gu gt gc vars A m cl' cm' t' F' e w':=by
 obtain ⟨A',x,m',e1,e2,e3,e4,e5⟩:=h
 exact ⟨A',x,m',e1,e2,⟨e3.sp,e3.ext,by have:=e3.few;omega,e3.has,by have:=e3.top;omega,fun v=>(e3.den v).trans (h4 v)⟩,by omega,e5⟩
theorem StpA.refl (h:SpA A vars) {x:Int} (p:hasA A x=true) {t:Int} (ht:t≤topA A x) (c:Nat) {F:(Int→Bool)→Bool} (hF:∀ v,Go.Proofs.YtojgbcmhdnappaaGreatDoor.den A x v=F v):StpA A A vars c t x F :=
 ⟨h,.refl A,Nat.le_add_right _ _,p,ht,hF⟩
theorem StpP.here (h:SpM w S B gn gu gt gc vars A m) (h':Below w.heap.size w w') {x:Int} (p:hasA A x=true) {t:Int} (ht:t≤topA A x) (cl cm:Nat) {F:(Int→Bool)→Bool} (hF:∀ v,den A x v=F v) :
  StpP w S B gn gu gt gc vars A m cl cm t F (.returned (.tuple #[.int .i64 x,.nilIface])) w' :=
 ⟨A,x,m,rfl,h.below h',.refl h.sp p ht cl hF,Nat.le_add_right _ _,.of_below h' (Nat.le_refl _)⟩
theorem i64_small {t:Int} (h0:0≤t) (h1:t≤1000000):I64 t:=by unfold I64;omega
theorem node_post (h:SpM w S B gn gu gt gc vars A m) {n:Nd} (hm:MayA A n) (hv:n.var<vars) (hne:n.low≠n.high) (hl:low3 A+(if n.var<5 then 1 else 0)≤2000) {e:Ending} (hp:MakePost w B gn gu gt A n e w') :
  StpP w S B gn gu gt gc vars A m (if n.var<5 then 1 else 0) 0 n.var (fun v=>if v n.var then den A n.high v else den A n.low v) e w':=by
 obtain ⟨rfl,ha,hf⟩:=hp
 obtain ⟨e0,hs⟩:=mk_ok h.sp h.v6.2 hl hm hv hne
 rw [e0,errV_zero]
 exact ⟨_,_,m,rfl,h.arena ha hs.sp hs.ext hf,hs,Nat.le_refl _,fr_mono hf (fun k hk=>.inl hk)⟩
end
def NodeP (w:World) (S B gn gu gt gc m:Nat) (vars:Int) (A:Ar) (lo hi t:Int) (e:Ending) (w':World):Prop :=
 StpP w S B gn gu gt gc vars A m (if t<5 then 1 else 0) 0 t (fun v=>if v t then den A hi v else den A lo v) e w'
def LitP (w:World) (S B gn gu gt gc m:Nat) (vars:Int) (A:Ar) (t:Int) (is:Bool) (e:Ending) (w':World):Prop :=
 StpP w S B gn gu gt gc vars A m (if t<5 then 1 else 0) 0 t (fun v=>v t==is) e w'
section
variable (S B gn gu gt gc m:Nat) (vars:Int) (A:Ar) (w:World)
set_option maxHeartbeats 1000000 in
theorem bdNode_any (lo hi t:Int) (h:SpM w S B gn gu gt gc vars A m) (t0:0≤t) (tv:t<vars) (pl:hasA A lo=true) (tl:t<topA A lo) (ph:hasA A hi=true) (th:t<topA A hi) (hl:low3 A+(if t<5 then 1 else 0)≤2000) :
  Calls Tryz.prog 159 #[.pointer (some ⟨S,0,none⟩),.int .i64 t,.int .i64 lo,.int .i64 hi] w
   (NodeP w S B gn gu gt gc m vars A lo hi t):=by
 have hv6:=h.v6
 by_cases he:lo=hi
 ·subst he
  have HP:=hide (StpP.here (w':=w) h (Below.refl _ _) pl (Int.le_of_lt tl) (if t<5 then 1 else 0) 0 (F:=fun v=>if v t then den A lo v else den A lo v) (fun v=>by cases v t <;> rfl))
  clear h
  go_enter Tryz.func159,Tryz.ntmps159
  go_wp2
  go_ret2
  exact HP.out
 ·have hneb:(lo==hi)=false:=beq_eq_false_iff_ne.2 he
  have s0:=h.kS.cell 0
  have HMK:=hide (arMake_any B gn gu gt A ⟨t,lo,hi⟩ w h.ar ⟨i64_small t0 (show t≤1000000 by omega),h.sp.i64 pl,h.sp.i64 ph⟩)
  have HP:=hide (fun (e:Ending) (w':World) (hp:MakePost w B gn gu gt A ⟨t,lo,hi⟩ e w')=>node_post (n:=⟨t,lo,hi⟩) h ⟨⟨t0,by show t<24;omega⟩,⟨pl,tl⟩,⟨ph,th⟩⟩ tv he hl hp)
  clear h
  go_enter Tryz.func159,Tryz.ntmps159
  go_wp2_with fail
  refine (HMK.out).mono ?_
  rintro e w1 hp
  have hq:=hide (show NodeP w S B gn gu gt gc m vars A lo hi t e w1 from HP.out e w1 hp)
  obtain ⟨rfl,_,_⟩:=hp
  go_wp2
  go_ret2
  exact hq.out
theorem got_two {A:Ar} {x:Int} (h:x<2):gotA A x=none:=by
 unfold gotA
 rw [if_neg (by omega)]
theorem den_zero (A:Ar) (v:Int→Bool):den A 0 v=false:=den_none (got_two (by omega))
theorem den_one (A:Ar) (v:Int→Bool):den A 1 v=true:=den_none (got_two (by omega))
set_option maxHeartbeats 1000000 in
theorem bdLit_any (t:Int) (is:Bool) (h:SpM w S B gn gu gt gc vars A m) (t0:0≤t) (tv:t<vars) (hl:low3 A+(if t<5 then 1 else 0)≤2000) :
  Calls Tryz.prog 105 #[.pointer (some ⟨S,0,none⟩),.int .i64 t,.bool is] w (LitP w S B gn gu gt gc m vars A t is):=by
 have hv6:=h.v6
 have s1:=h.kS.cell 1
 have e0:topA A 0=24:=top_none (got_two (by omega))
 have e1:topA A 1=24:=top_none (got_two (by omega))
 have hb1:decide (t<0)=false:=decide_eq_false (by omega)
 have hb2:decide (vars≤t)=false:=decide_eq_false (by omega)
 cases is
 ·have HN:=hide ((bdNode_any S B gn gu gt gc m vars A w 1 0 t h t0 tv has_ends.2 (by omega) has_ends.1 (by omega) hl).mono (fun e w' hp=>show LitP w S B gn gu gt gc m vars A t false e w' from StpP.mono hp (Nat.le_refl _) (Nat.le_refl _) (Int.le_refl _) (F':=fun v=>v t==false) (fun v=>by
   simp only [den_zero,den_one]
   cases v t <;> rfl)))
  clear h
  go_enter Tryz.func105,Tryz.ntmps105
  go_wp2_with fail
  refine (HN.out).mono ?_
  rintro e w1 hp
  have hq:=hide hp
  obtain ⟨A',x,m',rfl,-⟩:=hp
  go_wp2
  go_ret2
  exact hq.out
 ·have HN:=hide ((bdNode_any S B gn gu gt gc m vars A w 0 1 t h t0 tv has_ends.1 (by omega) has_ends.2 (by omega) hl).mono (fun e w' hp=>show LitP w S B gn gu gt gc m vars A t true e w' from StpP.mono hp (Nat.le_refl _) (Nat.le_refl _) (Int.le_refl _) (F':=fun v=>v t==true) (fun v=>by
   simp only [den_zero,den_one]
   cases v t <;> rfl)))
  clear h
  go_enter Tryz.func105,Tryz.ntmps105
  go_wp2_with fail
  refine (HN.out).mono ?_
  rintro e w1 hp
  have hq:=hide hp
  obtain ⟨A',x,m',rfl,-⟩:=hp
  go_wp2
  go_ret2
  exact hq.out
def AtP (w:World) (A:Ar) (x t:Int) (e:Ending) (w':World):Prop:=e=.returned (.tuple #[.int .i64 (atA A x t false),.int .i64 (atA A x t true)])∧Below w.heap.size w w'
set_option maxHeartbeats 1000000 in
theorem bdAt_any (x t:Int) (h:SpM w S B gn gu gt gc vars A m) (hx:I64 x) :
  Calls Tryz.prog 205 #[.pointer (some ⟨S,0,none⟩),.int .i64 x,.int .i64 t] w (AtP w A x t):=by
 have s0:=h.kS.cell 0
 cases hg:gotA A x with
 | none =>
  have HGT:=hide (arGet_none B gn gu gt A x w h.ar hx hg)
  have HA:=Lib.hid (fun b=>atA_none (t:=t) hg b)
  clear h hx hg
  go_enter Tryz.func205,Tryz.ntmps205
  go_wp2_with fail
  refine (HGT.out).mono ?_
  rintro e w1 ⟨rfl,hb⟩
  go_wp2
  go_ret2
  exact ⟨by rw [HA.out,HA.out];rfl,hb.alloc hb.size _⟩
 | some n =>
  have HGT:=hide (arGet_some B gn gu gt A x n w h.ar hx hg)
  by_cases hv:n.var=t
  ·have HA:=Lib.hid (fun b=>atA_is hg hv b)
   have hvb:(n.var==t)=true:=beq_iff_eq.2 hv
   clear h hx hg
   go_enter Tryz.func205,Tryz.ntmps205
   go_wp2_with fail
   refine (HGT.out).mono ?_
   rintro e w1 ⟨rfl,hb⟩
   go_wp2
   go_quiet (fail)
   go_wp2
   go_ret2
   exact ⟨by rw [HA.out,HA.out];rfl,below_drewN (hb.alloc hb.size _) _⟩
  ·have HA:=Lib.hid (fun b=>atA_not hg hv b)
   have hvb:(n.var==t)=false:=beq_eq_false_iff_ne.2 hv
   clear h hx hg
   go_enter Tryz.func205,Tryz.ntmps205
   go_wp2_with fail
   refine (HGT.out).mono ?_
   rintro e w1 ⟨rfl,hb⟩
   go_wp2
   go_ret2
   exact ⟨by rw [HA.out,HA.out];rfl,hb.alloc hb.size _⟩
end
end Go.Proofs.YtojgbcmhdnappaaGreatDoor
