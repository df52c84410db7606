/-
  A part of the proof: EvFew, EvOps, MapH, EvCount. Conditions: none.
-/
import Derived.Test.YtojgbcmhdnappaaGreatDoorBeBddMap
import Derived.Test.YtojgbcmhdnappaaGreatDoorBeEvIte
import Derived.Laws.EntriesVeiled
import Derived.Deep.RegionHeld3
import Derived.Lib.ItoaMem
import Derived.Test.YtojgbcmhdnappaaGreatDoorBeRowK
import Derived.Laws.BitsAllLaws
import Derived.IntWalk
import Derived.Deep.QuietTactic
import Derived.BigQuiet
import Derived.Deep.RegionWith
import Derived.Lib.MinMax
import Derived.Laws.Rows
import Derived.Deep.Cut
namespace Go.Proofs.YtojgbcmhdnappaaGreatDoor
def kidsA (A:Ar) (y:Int):List Int:=match gotA A y with | some d=>[d.low,d.high] | none=>[]
def pathL (A:Ar) (h:Int):Nat→List Int
 | 0=>[h]
 | j+1=>(pathL A h j).flatMap (kidsA A)
theorem kids_len (A:Ar) (y:Int):(kidsA A y).length≤2:=by unfold kidsA;split <;> simp
theorem kidF_len (A:Ar):∀ l:List Int,(l.flatMap (kidsA A)).length≤2*l.length
 | []=>by simp
 | a :: l=>by
  have:=kidF_len A l
  have:=kids_len A a
  rw [List.flatMap_cons,List.length_append,List.length_cons]
  omega
theorem path_len (A:Ar) (h:Int):∀ j,(pathL A h j).length≤2 ^ j
 | 0=>by simp [pathL]
 | j+1=>by
  have h1:=kidF_len A (pathL A h j)
  have h2:=path_len A h j
  show ((pathL A h j).flatMap (kidsA A)).length≤_
  rw [Nat.pow_succ]
  omega
theorem reach_level {A:Ar} {h x:Int} (hw:WfA A) (r:ReachA A [h] x):∃ j:Nat,x∈pathL A h j∧topA A h+j≤topA A x:=by
 have key:∀ {y:Int} {d:Nd} (b:Bool),gotA A y=some d→(∃ j:Nat,y∈pathL A h j∧topA A h+j≤topA A y)→∃ j:Nat,(if b then d.high else d.low)∈pathL A h j∧topA A h+j≤topA A (if b then d.high else d.low):=by
  intro y d b e ⟨j,h1,h2⟩
  have h3:=(hw.kid e b).1
  have h4:=top_some e
  refine ⟨j+1,List.mem_flatMap.2 ⟨y,h1,?_⟩,by omega⟩
  unfold kidsA
  rw [e]
  cases b <;> simp
 induction r with
 | base hm e=>rw [List.mem_singleton.1 hm];exact ⟨0,by simp [pathL],by omega⟩
 | low _ e _ ih=>exact key false e ih
 | high _ e _ ih=>exact key true e ih
theorem low3_sweep {A:Ar} {h:Int} (hw:WfA A):low3 (sweepA A [h])≤31:=by
 unfold low3 numV
 have h1:(atV (sweepA A [h]) fun x=>decide (x<5)).length≤(pathL A h 0++(pathL A h 1++(pathL A h 2++(pathL A h 3++pathL A h 4)))).length:=by
  refine inj_len (f:=fun k:Nat=>(k:Int)+2) _ _ (List.nodup_range.filter _) (fun x _ y _ e=>by omega) fun k hk=>?_
  obtain ⟨n,hn,hp⟩:=mem_atV.1 hk
  have hg:gotA (sweepA A [h]) ((k:Int)+2)=some n:=gotA_k.trans hn
  obtain ⟨hg1,hr⟩:=(sweep_got A [h] _ n).1 hg
  obtain ⟨j,hj,ht⟩:=reach_level hw hr
  have h2:=top_some hg1
  have h3:=(hw.topR h).1
  have h4:n.var<5:=by simpa using hp
  have hj2:j=0∨j=1∨j=2∨j=3∨j=4:=by omega
  rcases hj2 with rfl | rfl | rfl | rfl | rfl
  ·exact List.mem_append_left _ hj
  ·exact List.mem_append_right _ (List.mem_append_left _ hj)
  ·exact List.mem_append_right _ (List.mem_append_right _ (List.mem_append_left _ hj))
  ·exact List.mem_append_right _ (List.mem_append_right _ (List.mem_append_right _ (List.mem_append_left _ hj)))
  ·exact List.mem_append_right _ (List.mem_append_right _ (List.mem_append_right _ (List.mem_append_right _ hj)))
 have l0:=path_len A h 0
 have l1:=path_len A h 1
 have l2:=path_len A h 2
 have l3:=path_len A h 3
 have l4:=path_len A h 4
 simp only [List.length_append] at h1
 have e0:(2:Nat) ^ 0=1:=by decide
 have e1:(2:Nat) ^ 1=2:=by decide
 have e2:(2:Nat) ^ 2=4:=by decide
 have e3:(2:Nat) ^ 3=8:=by decide
 have e4:(2:Nat) ^ 4=16:=by decide
 omega
end Go.Proofs.YtojgbcmhdnappaaGreatDoor
namespace Go.Proofs.YtojgbcmhdnappaaGreatDoor
open Go.RowKit Go.Maps
def OpP (w:World) (S B gn gu gt gc m:Nat) (vars:Int) (A:Ar) (c:Nat) (F:(Int→Bool)→Bool) (e:Ending) (w':World):Prop :=
 StpP w S B gn gu gt gc vars A m (31*c) (255*c) 0 F e w'
section
variable {w w' w1:World} {S B gn gu gt gc m m1:Nat} {vars:Int} {A A1 A2:Ar} {F F1 F2:(Int→Bool)→Bool} {c c1 c2:Nat}
structure OpI (w:World) (S B gn gu gt gc m:Nat) (vars:Int) (A:Ar) (c:Nat):Prop where
 sp:SpM w S B gn gu gt gc vars A m
 low:low3 A+31*c≤2000
 most:m+255*c≤1000000
theorem SpA.top0 (h:SpA A vars) (x:Int):0≤topA A x:=(h.wf.topR x).1
theorem topI0 (h:SpA A vars) (a b c:Int):0≤topI A a b c:=by
 have:=h.top0 a
 have:=h.top0 b
 have:=h.top0 c
 unfold topI min3
 omega
end
section
variable (S B gn gu gt gc m:Nat) (vars:Int) (A:Ar) (w:World)
set_option maxHeartbeats 2000000 in
theorem bdIte_any (a b c:Int) (F:(Int→Bool)→Bool) (h:OpI w S B gn gu gt gc m vars A 1) (pa:hasA A a=true) (pb:hasA A b=true) (pc:hasA A c=true) (hF:∀ v,iteF A a b c v=F v) :
  Calls Tryz.prog 107 #[.pointer (some ⟨S,0,none⟩),.int .i64 a,.int .i64 b,.int .i64 c] w (OpP w S B gn gu gt gc m vars A 1 F):=by
 have s0:=h.sp.kS.cell 0
 have HA:=hide (hasA_call B gn gu gt A a w h.sp.ar (h.sp.sp.i64 pa) pa)
 have HB:=hide (hasA_call B gn gu gt A b w h.sp.ar (h.sp.sp.i64 pb) pb)
 have HC:=hide (hasA_call B gn gu gt A c w h.sp.ar (h.sp.sp.i64 pc) pc)
 have HI:=hide ((bdite_any S B gn gu gt gc m vars A w a b c ⟨h.sp,pa,pb,pc,by have:=h.low;have:=wt_le (topI A a b c);omega,by have:=h.most;have:=wc_le (topI A a b c);omega⟩).mono fun e w' hp =>
  show OpP w S B gn gu gt gc m vars A 1 F e w' from StpP.mono hp (by have:=wt_le (topI A a b c);omega) (by have:=wc_le (topI A a b c);omega) (topI0 h.sp.sp a b c) hF)
 clear h
 go_enter Tryz.func107,Tryz.ntmps107
 go_wp2_with fail
 refine (HA.out).mono ?_
 rintro e w1 ⟨rfl,rfl⟩
 go_wp2_with fail
 refine (HB.out).mono ?_
 rintro e w1 ⟨rfl,rfl⟩
 go_wp2_with fail
 refine (HC.out).mono ?_
 rintro e w1 ⟨rfl,rfl⟩
 go_wp2_with fail
 refine (HI.out).mono ?_
 rintro e w2 hp
 have hq:=hide hp
 obtain ⟨A',x,m',rfl,-⟩:=hp
 go_wp2
 go_ret2
 exact hq.out
set_option maxHeartbeats 1000000 in
theorem bdAnd_any (a b:Int) (F:(Int→Bool)→Bool) (h:OpI w S B gn gu gt gc m vars A 1) (pa:hasA A a=true) (pb:hasA A b=true) (hF:∀ v,(den A a v&&den A b v)=F v) :
  Calls Tryz.prog 53 #[.pointer (some ⟨S,0,none⟩),.int .i64 a,.int .i64 b] w (OpP w S B gn gu gt gc m vars A 1 F):=by
 have HI:=hide (bdIte_any S B gn gu gt gc m vars A w a b 0 F h pa pb has_ends.1 (fun v=>by
  rw [←hF v]
  unfold iteF
  rw [den_zero]
  cases den A a v <;> rfl))
 clear h
 go_enter Tryz.func53,Tryz.ntmps53
 go_wp2_with fail
 refine (HI.out).mono ?_
 rintro e w2 hp
 have hq:=hide hp
 obtain ⟨A',x,m',rfl,-⟩:=hp
 go_wp2
 go_ret2
 exact hq.out
set_option maxHeartbeats 1000000 in
theorem bdOr_any (a b:Int) (F:(Int→Bool)→Bool) (h:OpI w S B gn gu gt gc m vars A 1) (pa:hasA A a=true) (pb:hasA A b=true) (hF:∀ v,(den A a v||den A b v)=F v) :
  Calls Tryz.prog 106 #[.pointer (some ⟨S,0,none⟩),.int .i64 a,.int .i64 b] w (OpP w S B gn gu gt gc m vars A 1 F):=by
 have HI:=hide (bdIte_any S B gn gu gt gc m vars A w a 1 b F h pa has_ends.2 pb (fun v=>by
  rw [←hF v]
  unfold iteF
  rw [den_one]
  cases den A a v <;> rfl))
 clear h
 go_enter Tryz.func106,Tryz.ntmps106
 go_wp2_with fail
 refine (HI.out).mono ?_
 rintro e w2 hp
 have hq:=hide hp
 obtain ⟨A',x,m',rfl,-⟩:=hp
 go_wp2
 go_ret2
 exact hq.out
end
def FreeP (w:World) (S B gn gu gt gc:Nat) (vars:Int) (A:Ar) (l:List Int) (e:Ending) (w':World):Prop :=
 (∃ z,e=.returned (.int .i64 z))∧SpM w' S B gn gu gt gc vars (sweepA A l) 0∧Fr (spB B gn gu gt gc) w w'
section
variable (S B gn gu gt gc m:Nat) (vars:Int) (A:Ar) (w:World)
set_option maxHeartbeats 2000000 in
theorem bdFree_any (A0:Option Addr) (n c:Nat) (l:List Int) (h:SpM w S B gn gu gt gc vars A m) (hl:RowI w A0 n l) (hi:∀ x∈l,I64 x) (hn:n≤1000000) (hnil:A0=none→n=0) :
  Calls Tryz.prog 54 #[.pointer (some ⟨S,0,none⟩),.slice A0 n c] w (FreeP w S B gn gu gt gc vars A l):=by
 have s0:=h.kS.cell 0
 have HSW:=hide (arSweep_any B gn gu gt A A0 n c l w h.ar hl hi hn hnil)
 have H:=hide h
 clear h hl hi
 go_enter Tryz.func54,Tryz.ntmps54
 go_wp2_with fail
 refine (HSW.out).mono ?_
 rintro e w1 ⟨rfl,ha,hf⟩
 obtain ⟨f,hc,_⟩:=H.out.cache
 have HC:=hide (hc.fr hf H.out.gcA)
 have HK:=hide (H.out.kS.fr hf (fun hk=>H.out.sA (.inl hk)))
 have HA:=hide ha
 have HF:=hide hf
 have s2:=HK.out.cell 2
 clear hc ha hf s0
 go_wp2_with (first
  | (refine clearV rfl _ _ rfl Tryz.underlying131 rfl HC.out ?_;intro w2 hm2 hg2;have HM2:=hide hm2;have HG2:=hide hg2;clear hm2 hg2)
  | fail)
 go_ret
 refine ⟨⟨_,rfl⟩,⟨HK.out.grown HG2.out (fun e=>by injection e with e;exact H.out.sA (.inr e)),HA.out.keep fun k hk=>HG2.out.block k (HA.out.lt hk) (fun e=>by injection e with e;exact H.out.gcA (e ▸ hk)),⟨_,HM2.out,.none _⟩,H.out.sp.sweep l,H.out.v6⟩,?_⟩
 exact (HF.out.mono fun k _ hk=>.inl hk).grown HG2.out (fun k e=>by cases e;exact .inr rfl)
end
theorem spA_empty (vars:Int):SpA (emptyA 4000) vars:=by
 refine ⟨wf_empty 4000,?_,?_,List.length_replicate ..⟩
 ·intro k n e
  rw [got_empty] at e
  cases e
 ·intro k n e
  rw [got_empty] at e
  cases e
theorem low3_empty:low3 (emptyA 4000)=0:=by
 unfold low3 numV
 refine List.length_eq_zero_iff.2 (List.eq_nil_iff_forall_not_mem.2 fun x hx=>?_)
 obtain ⟨m,e,_⟩:=mem_atV.1 hx
 have hn:(emptyA 4000).getD x none=none:=by
  unfold emptyA
  rw [List.getD_eq_getElem?_getD,List.getElem?_replicate]
  split <;> rfl
 rw [hn] at e
 cases e
structure SpNew (w:World) (vn:Nat) (S B gn gu gt gc:Nat) (w':World):Prop where
 sp:SpM w' S B gn gu gt gc (vn:Int) (emptyA 4000) 0
 own:∀ k,spB B gn gu gt gc k∨k=S→w.heap.size≤k
 bel:Below w.heap.size w w'
def SpNewP (w:World) (vn:Nat) (e:Ending) (w':World):Prop:=∃ S B gn gu gt gc,e=.returned (.tuple #[.pointer (some ⟨S,0,none⟩),.nilIface])∧SpNew w vn S B gn gu gt gc w'
theorem sp_new {w w1:World} {vn B gn gu gt:Nat} (h6:vn≤8) (ha:ArM w1 B gn gu gt (emptyA 4000)) (hlow:∀ k,arB B gn gu gt k→w.heap.size≤k) (hb:Below w.heap.size w w1) :
  SpNew w vn (w1.heap.size+1) B gn gu gt w1.heap.size ((w1.alloc (.map #[] 0)).alloc (.cells #[.pointer (some ⟨B,0,none⟩),.int .i64 (vn:Int),.map (some w1.heap.size)] 133)):=by
 have h1:Below w1.heap.size w1 ((w1.alloc (.map #[] 0)).alloc (.cells #[.pointer (some ⟨B,0,none⟩),.int .i64 (vn:Int),.map (some w1.heap.size)] 133)):=((Below.refl w1.heap.size w1).alloc (Nat.le_refl _) _).alloc (by simp) _
 refine ⟨⟨?_,ha.below h1 (fun k hk=>ha.lt hk),⟨fun _=>none,?_,fun a b c z e=>(by cases e)⟩,spA_empty _,by omega⟩,fun k hk=>?_,hb.trans (h1.mono hb.size)⟩
 ·have:=Blk.new (w1.alloc (.map #[] 0)) 133 #[.pointer (some ⟨B,0,none⟩),.int .i64 (vn:Int),.map (some w1.heap.size)]
  simpa using this
 ·exact (mapV_made w1).same (Below.heap_alloc _ _ _ (mapV_made (kt:=319) (lit:=keyCL) (ok:=okC) w1).lt)
 ·rcases hk with (hk | hk) | hk
  ·exact hlow k hk
  ·rw [hk];exact hb.size
  ·rw [hk];have:=hb.size;omega
set_option maxRecDepth 100000 in
set_option maxHeartbeats 4000000 in
theorem bdNew_any (vn:Nat) (h6:vn≤8) (w:World):Calls Tryz.prog 51 #[.int .i64 (vn:Int),.int .i64 4000] w (SpNewP w vn):=by
 have hmm:=@run_makeMap Tryz.prog
 have HNW:=hide (arNew_any 4000 w (by unfold I64;omega))
 have h1b:decide ((vn:Int)<0)=false:=decide_eq_false (by omega)
 have h2b:decide ((24:Int)<(vn:Int))=false:=decide_eq_false (by omega)
 go_enter Tryz.func51,Tryz.ntmps51
 go_wp2_with fail
 refine (HNW.out).mono ?_
 rintro e w1 (⟨hno,rfl,hb1⟩ | ⟨hyes,B,gn,gu,gt,rfl,har,hlow,hb1⟩)
 ·omega
 ·have HR:=hide (sp_new (vn:=vn) h6 har hlow hb1)
  clear har hlow hb1 HNW
  go_wp2
  go_ret2
  exact ⟨_,_,_,_,_,_,rfl,HR.out⟩
end Go.Proofs.YtojgbcmhdnappaaGreatDoor
namespace Go.Proofs.YtojgbcmhdnappaaGreatDoor
open Go.RowKit Go.Maps
def heldR (v:Value):Option (DataW Value×List MemPlace):=some (.held v,[])
section
variable {w w':World} {b m:Nat} {f:Int→Option Value}
end
end Go.Proofs.YtojgbcmhdnappaaGreatDoor
namespace Go.Proofs.YtojgbcmhdnappaaGreatDoor
open Go.RowKit Go.Maps
structure SpB (w:World) (S B gn gu gt gc:Nat) (vars:Int) (A:Ar):Prop where
 kS:Blk w S 133 #[.pointer (some ⟨B,0,none⟩),.int .i64 vars,.map (some gc)]
 ar:ArM w B gn gu gt A
 wf:WfA A
theorem SpB.below {w w':World} {S B gn gu gt gc:Nat} {vars:Int} {A:Ar} (h:SpB w S B gn gu gt gc vars A) (hb:Below w.heap.size w w'):SpB w' S B gn gu gt gc vars A :=
 ⟨h.kS.below hb h.kS.lt,h.ar.below hb (fun _ hk=>h.ar.lt hk),h.wf⟩
section
variable {A:Ar} {vars h:Int} {d:Nd}
end
section
variable (S B gn gu gt gc:Nat) (vars:Int) (A:Ar) (w:World)
theorem spB_fr {w w':World} {gd:Nat} (h:SpB w S B gn gu gt gc vars A) (hf:Fr (fun k=>k=gd) w w') (hd:∃ es c,w.heap[gd]?=some (.map es c)):SpB w' S B gn gu gt gc vars A:=by
 obtain ⟨es,c,hm⟩:=hd
 have hne:∀ {k:Nat} {t:TypeId} {cs:Array Value},Blk w k t cs→k≠gd:=fun hk e=>by
  subst e
  cases hk.symm.trans hm
 obtain ⟨ns,us,tab,_,h2,h3,h4,h5⟩:=h.ar.is
 refine ⟨h.kS.fr hf (hne h.kS),h.ar.keep fun k hk=>hf.block k (h.ar.lt hk) ?_,h.wf⟩
 rcases hk with rfl | rfl | rfl | rfl
 ·exact hne h2
 ·exact hne h3
 ·exact hne h4
 ·exact hne h5
end
structure CtN (A:Ar) (vars:Int):Prop where
 wf:WfA A
 var:VarA A vars
 v0:0≤vars
 v1:vars≤24
section
variable {w w':World} {S B gn gu gt gc gd m:Nat} {vars:Int} {A:Ar} {f:Int→Option Value}
end
theorem end_of {A:Ar} {x:Int} (hx:hasA A x=true) (hg:gotA A x=none):x=0∨x=1:=by
 unfold hasA at hx
 rw [hg] at hx
 simpa using hx
theorem has_i64 {w:World} {B gn gu gt:Nat} {A:Ar} {y:Int} (h:ArM w B gn gu gt A) (hy:hasA A y=true):I64 y:=by
 have hr:=h.room
 cases e:gotA A y with
 | none =>
  rcases end_of hy e with rfl | rfl <;> (unfold I64;omega)
 | some d =>
  obtain ⟨k,rfl,hk,_⟩:=gotA_is e
  unfold I64
  omega
theorem below_al {u w:World} (h:Below u.heap.size u w) (o:Obj):Below u.heap.size u (w.alloc o):=h.alloc h.size o
theorem below_dr {u w:World} (h:Below u.heap.size u w):Below u.heap.size u w.drew:=h.drew
section
variable {w1 wr wd:World} {S B gn gu gt gc gd m m1:Nat} {vars k:Int} {A:Ar} {f1:Int→Option Value} {N:Nat} {Ad:Option Addr} {nd cd:Nat}
end
end Go.Proofs.YtojgbcmhdnappaaGreatDoor
