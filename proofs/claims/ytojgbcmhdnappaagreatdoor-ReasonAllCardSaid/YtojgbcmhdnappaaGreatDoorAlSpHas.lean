/-
  A part of the proof: SpHas. Conditions: none.
-/
import Derived.Test.YtojgbcmhdnappaaGreatDoorAlSpWord2
import Derived.Test.YtojgbcmhdnappaaGreatDoorAlSpBoth
import Derived.Deep.RegionHeld3
import Derived.Test.YtojgbcmhdnappaaGreatDoorAlRefOps
import Derived.IntWalk
import Derived.Orders
import Derived.Test.YtojgbcmhdnappaaGreatDoorAlFr
namespace Go.Proofs.YtojgbcmhdnappaaGreatDoor
end Go.Proofs.YtojgbcmhdnappaaGreatDoor
namespace Go.Proofs.YtojgbcmhdnappaaGreatDoor
open Go.RowKit
section
variable {P:Program} {md:Region.Mode} {ops:Array Oper} {R:Nat→World→Value→Prop} {a0:Act} {w0:World} {Q:Exit→Act→World→Prop}
theorem count_done:∀ (l:List Bool) (i:Nat),l[i]?=some false→(l.set i true).count false+1=l.count false
 | [],i,h=>by cases h
 | b :: l,0,h=>by
  simp at h
  subst h
  simp
 | b :: l,i+1,h=>by
  have ih:=count_done l i (by simpa using h)
  rw [List.set_cons_succ,List.count_cons,List.count_cons]
  omega
theorem all_done {listed:Array Bool} (hl:listed.size=ops.size) (hac:∀ (j:Nat) (o:Oper),ops[j]?=some o→∀ e∈o.after,e.on<j) (hr:Region.ready md ops listed=[]):∀ i,i<ops.size→listed.getD i false=true:=by
 intro i
 induction i using Nat.strongRecOn with
 | ind i ih =>
  intro hi
  cases hv:listed.getD i false with
  | true=>rfl
  | false =>
   exfalso
   have hm:i∈Region.ready md ops listed:=mem_ready.2 ⟨by
     rw [Array.getD_eq_getD_getElem?,Array.getElem?_eq_getElem (by omega)] at hv ⊢
     exact hv,ops[i],Array.getElem?_eq_getElem hi,fun e he _=>ih e.on (hac i _ (Array.getElem?_eq_getElem hi) e he) (by have:=hac i _ (Array.getElem?_eq_getElem hi) e he;omega)⟩
   rw [hr] at hm
   cases hm
theorem nodup_idx:∀ (l:List Oper),(l.filterMap (·.dst)).Nodup→∀ (i j:Nat) (oi oj:Oper) (d:Nat),l[i]?=some oi→l[j]?=some oj→oi.dst=some d→oj.dst=some d→i=j
 | [],_,_,_,_,_,_,h,_,_,_=>by cases h
 | o :: l,hn,i,j,oi,oj,d,h1,h2,d1,d2=>by
  have mem:∀ (k:Nat) (ok:Oper),l[k]?=some ok→ok.dst=some d→d∈l.filterMap (·.dst):=fun k ok hk hd=>List.mem_filterMap.2 ⟨ok,List.mem_of_getElem? hk,hd⟩
  have hn2:(l.filterMap (·.dst)).Nodup:=by
   rw [List.filterMap_cons] at hn
   split at hn
   ·exact hn
   ·exact (List.nodup_cons.1 hn).2
  match i,j,h1,h2 with
  | 0,0,_,_=>rfl
  | 0,j+1,h1,h2 =>
   exfalso
   obtain rfl:=Option.some.inj h1
   rw [List.filterMap_cons,d1] at hn
   exact (List.nodup_cons.1 hn).1 (mem j oj h2 d2)
  | i+1,0,h1,h2 =>
   exfalso
   obtain rfl:=Option.some.inj h2
   rw [List.filterMap_cons,d2] at hn
   exact (List.nodup_cons.1 hn).1 (mem i oi h1 d1)
  | i+1,j+1,h1,h2=>rw [nodup_idx l hn2 i j oi oj d h1 h2 d1 d2]
def acyc (l:List Oper):Bool:=l.zipIdx.all fun x=>x.1.after.all fun e=>decide (e.on<x.2)
theorem acyc_at {ops:Array Oper} (h:acyc ops.toList=true):∀ (j:Nat) (o:Oper),ops[j]?=some o→∀ e∈o.after,e.on<j:=by
 intro j o ho e he
 unfold acyc at h
 have h1:=List.all_eq_true.1 h (o,j) (by
  rw [List.mem_zipIdx_iff_getElem?]
  simpa using ho)
 have h2:=Array.all_eq_true'.1 h1 e he
 simpa using h2
theorem eval_slot {a:Act} {k:Nat} {v:Value} (h:a.tmps[k]?=some v):a.eval (.tmp k)=v:=by
 simp [Act.eval,h]
end
end Go.Proofs.YtojgbcmhdnappaaGreatDoor
namespace Go.Proofs.YtojgbcmhdnappaaGreatDoor
open Go.RowKit
set_option maxRecDepth 100000
def BoolP (b:Bool) (w:World) (e:Ending) (w':World):Prop:=e=.returned (.bool b)∧Below w.heap.size w w'
def inS (n:Nat) (x:Nat×Nat):Bool:=decide (x.1≤n)&&decide (n<x.2)
theorem setS_any (l:List (Nat×Nat)) (n:Nat):setS l n=l.any (inS n):=rfl
theorem has1_any (x:Nat×Nat) (n bn:Nat) (W:World) (hc:W.cell? ⟨bn,0,none⟩=some (.int .i64 (n:Int))) (hlt:bn<W.heap.size):Calls Tryz.prog 200 #[.agg #[.int .i64 (x.1:Int),.int .i64 (x.2:Int)],.pointer (some ⟨bn,0,none⟩)] W (BoolP (inS n x) W):=by
 obtain ⟨a,b⟩:=x
 have hb:=(Below.refl W.heap.size W).alloc (Nat.le_refl _) (.cells #[.int .i64 (a:Int),.int .i64 (b:Int)] 254)
 have hc2:=(hb.cell (p:=⟨bn,0,none⟩) hlt).trans hc
 unfold BoolP inS
 simp only
 by_cases h1:a≤n
 ·have h1z:(a:Int)≤(n:Int):=by omega
  by_cases h2:n<b
  ·have h2z:(n:Int)<(b:Int):=by omega
   go_enter Tryz.func200,Tryz.ntmps200
   go_wp2_with fail
   go_ret
   exact ⟨by first | rfl | simp [h1,h2],hb⟩
  ·have h2z:¬(n:Int)<(b:Int):=by omega
   go_enter Tryz.func200,Tryz.ntmps200
   go_wp2_with fail
   go_ret
   exact ⟨by first | rfl | simp [h1,h2],hb⟩
 ·have h1z:¬(a:Int)≤(n:Int):=by omega
  go_enter Tryz.func200,Tryz.ntmps200
  go_wp2_with fail
  go_ret
  exact ⟨by first | rfl | simp [h1],hb⟩
theorem enters_has1:∀ args w,(callFunc 200 args).run Tryz.prog w=.ok (.enter 200 args) w:=enters_of Tryz.func200 (by kernel_rfl) rfl
theorem has1_pred (n bn:Nat) (w:World) (hc:w.cell? ⟨bn,0,none⟩=some (.int .i64 (n:Int))) (hlt:bn<w.heap.size):PredBelow Tryz.prog 200 #[.pointer (some ⟨bn,0,none⟩)] (fun x=>.agg (spV x).toArray) (inS n) w:=fun W x hb =>
 (has1_any x n bn W ((hb.cell (p:=⟨bn,0,none⟩) hlt).trans hc) (Nat.lt_of_lt_of_le hlt hb.size)).mono fun _ _ ⟨he,hw⟩=>⟨he,hb.trans (hw.mono hb.size)⟩
theorem any_idx (p:Nat×Nat→Bool) (l:List (Nat×Nat)):l.any p=decide (0≤Lib.idxByFrom (fun _ y=>p y) default l 0):=by
 rcases idx_spec p l 0 with ⟨e,ha⟩ | ⟨k,hk,e,ht,_⟩
 ·rw [e,show decide ((0:Int) ≤ -1)=false from rfl,List.any_eq_false]
  intro x hx
  obtain ⟨j,hj,rfl⟩:=List.getElem_of_mem hx
  have:=ha j hj
  rw [getElem!_pos l j hj] at this
  simpa using this
 ·rw [e,decide_eq_true (by omega),List.any_eq_true]
  rw [getElem!_pos l k hk] at ht
  exact ⟨_,List.getElem_mem hk,ht⟩
theorem contains_any (v:Value) (l:List (Nat×Nat)) (n bn:Nat) (w:World) (h:OwnP w 0 v l) (hl:l.length≤1000000000) (hc:w.cell? ⟨bn,0,none⟩=some (.int .i64 (n:Int))) (hlt:bn<w.heap.size) :
  Calls Tryz.prog 199 #[v,.func (.func 200) #[] #[.pointer (some ⟨bn,0,none⟩)]] w (BoolP (setS l n) w):=by
 have HI:Calls Tryz.prog 244 #[v,.func (.func 200) #[] #[.pointer (some ⟨bn,0,none⟩)]] w (fun e w'=>e=.returned (.int .i64 (Lib.idxByFrom (fun _ y=>inS n y) default l 0))∧Below w.heap.size w w'):=by
  rcases h.form with ⟨rfl,rfl⟩ | ⟨g,cap,rfl,_,_,hr⟩
  ·go_enter Tryz.func244,Tryz.ntmps244
   go_wp2
   go_loopw [8] (fun v8 wr=>v8=.int .i64 0∧wr=w) (fun _ _=>0)
   case atStart=>exact ⟨rfl,rfl⟩
   case round =>
    obtain ⟨rfl,rfl⟩:=hrel
    go_wp2
    go_ret
    exact ⟨rfl,Below.refl _ _⟩
  ·have hI:=AnyQ.slices_IndexFunc Tryz.idxSp 2 isAggSp sizeOfSp spV (fun _=>rfl) (inS n) 200 #[.pointer (some ⟨bn,0,none⟩)] enters_has1 g 0 l.length cap l w (has1_pred n bn w hc hlt) (by simp) (by omega) hr.lt (fun j hj i v hv=>by
    obtain ⟨c0,c1⟩:=hr.cell (i:=j) (by simpa using hj)
    have e:l.toArray[j]! = l[j]! := by simp
    rw [e] at c0 c1
    rw [Nat.zero_add]
    match i,hv with
    | 0,hv=>rw [←hv];exact c0
    | 1,hv=>rw [←hv];exact c1
    | i+2,hv=>cases hv)
   rw [List.take_of_length_le (by simp)] at hI
   exact hI
 rw [setS_any,any_idx]
 have HII:=hide HI
 obtain ⟨A,c,rfl⟩:=h.len
 generalize Lib.idxByFrom (fun _ y=>inS n y) default l 0=r at HII ⊢
 unfold BoolP
 clear h HI hc
 by_cases h0:0≤r
 ·have h0z:r≥0:=h0
  rw [decide_eq_true h0]
  go_enter Tryz.func199,Tryz.ntmps199
  go_wp2_with fail
  refine HII.out.mono ?_
  rintro e w2 ⟨rfl,hb2⟩
  go_wp2_with fail
  go_ret
  exact ⟨by first | rfl | simp [h0],hb2⟩
 ·have h0z:¬r≥0:=h0
  rw [decide_eq_false h0]
  go_enter Tryz.func199,Tryz.ntmps199
  go_wp2_with fail
  refine HII.out.mono ?_
  rintro e w2 ⟨rfl,hb2⟩
  go_wp2_with fail
  go_ret
  exact ⟨by first | rfl | simp [h0],hb2⟩
def okV (f:Nat→Int):Prop:=∀ j,j<3→0≤f j∧f j≤999
def okB (f:Nat→Int):Bool:=decide (0≤f 0∧f 0≤999∧0≤f 1∧f 1≤999∧0≤f 2∧f 2≤999)
def hasB (l:List (Nat×Nat)) (f:Nat→Int):Bool:=okB f&&setS l (numV3 f)
theorem hasB_no {f:Nat→Int} {i:Nat} (hi:i<3) (h:¬(0≤f i∧f i≤999)) (l:List (Nat×Nat)):hasB l f=false:=by
 have e:okB f=false:=by
  unfold okB
  refine decide_eq_false fun k=>h ?_
  rcases (show i=0∨i=1∨i=2 by omega) with rfl | rfl | rfl
  ·exact ⟨k.1,k.2.1⟩
  ·exact ⟨k.2.2.1,k.2.2.2.1⟩
  ·exact k.2.2.2.2
 unfold hasB
 rw [e,Bool.false_and]
theorem hasB_ok {f:Nat→Int} (h:okV f) (l:List (Nat×Nat)):hasB l f=setS l (numV3 f):=by
 have e:okB f=true:=by
  unfold okB
  exact decide_eq_true ⟨(h 0 (by omega)).1,(h 0 (by omega)).2,(h 1 (by omega)).1,(h 1 (by omega)).2,(h 2 (by omega)).1,(h 2 (by omega)).2⟩
 unfold hasB
 rw [e,Bool.true_and]
theorem okV_part {f:Nat→Int} (h:okV f):PartOk f:=fun j hj=>⟨(h j hj).1,by have:=(h j hj).2;omega⟩
theorem idxV0 (a b c:Int) (w:World):(Instr.index 85 (.agg #[.int .i64 a,.int .i64 b,.int .i64 c]) (.int .i64 0)).run Tryz.prog w=.ok (.int .i64 a) w:=by kernel_rfl
theorem idxV1 (a b c:Int) (w:World):(Instr.index 85 (.agg #[.int .i64 a,.int .i64 b,.int .i64 c]) (.int .i64 1)).run Tryz.prog w=.ok (.int .i64 b) w:=by kernel_rfl
theorem idxV2 (a b c:Int) (w:World):(Instr.index 85 (.agg #[.int .i64 a,.int .i64 b,.int .i64 c]) (.int .i64 2)).run Tryz.prog w=.ok (.int .i64 c) w:=by kernel_rfl
set_option maxHeartbeats 4000000 in
theorem has_any (v:Value) (l:List (Nat×Nat)) (f:Nat→Int) (w:World) (h:OwnP w 0 v l) (hl:l.length≤1000000000):Calls Tryz.prog 150 #[.agg #[v],.agg (verArr f)] w (BoolP (hasB l f) w):=by
 have b1:=((Below.refl w.heap.size w).alloc (Nat.le_refl _) (.cells #[v] 88)).alloc (by simp) (.cells #[.int .i64 (f 0),.int .i64 (f 1),.int .i64 (f 2)] 85)
 have HB:=hide b1
 have r1:=(Blk.new w 88 #[v]).alloc (.cells #[.int .i64 (f 0),.int .i64 (f 1),.int .i64 (f 2)] 85)
 have r2:=Blk.new (w.alloc (.cells #[v] 88)) 85 #[.int .i64 (f 0),.int .i64 (f 1),.int .i64 (f 2)]
 rw [World.size_alloc] at r2
 have HR1:=hide r1
 have HR2:=hide r2
 have HO:=hide (h.below b1)
 obtain ⟨A,c,rfl⟩:=h.len
 clear h b1 r1 r2
 unfold BoolP
 go_enter Tryz.func150,Tryz.ntmps150
 unfold verArr
 go_wp2_with fail
 generalize ((w.alloc (.cells #[.slice A l.length c] 88)).alloc (.cells #[.int .i64 (f 0),.int .i64 (f 1),.int .i64 (f 2)] 85))=w1 at HB HR1 HR2 HO ⊢
 generalize w.heap.size=g at HR1 HR2 ⊢
 have hx0:=idxV0
 have hx1:=idxV1
 have hx2:=idxV2
 go_loopw [9] (fun v9 wr=>∃ i:Nat,i≤3∧v9=.int .i64 (i:Int)∧wr=w1∧Hid (∀ j,j<i→0≤f j∧f j≤999)) (fun v9 _=>3-(intOf v9).toNat)
 case atStart=>exact ⟨0,by omega,rfl,rfl,Lib.hid (fun j hj=>absurd hj (Nat.not_lt_zero _))⟩
 case round =>
  obtain ⟨i,hi,rfl,hw,HS⟩:=hrel
  have hw2:=hw.symm
  subst hw2
  clear hw
  rcases (show i=0∨i=1∨i=2∨i=3 by omega) with rfl | rfl | rfl | rfl
  ·by_cases hlo:f 0<0
   ·have HX:=Lib.hid (hasB_no (f:=f) (i:=0) (by omega) (fun k=>by have:=k.1;omega) l)
    clear HS
    go_wp2_with fail
    go_ret
    exact ⟨by rw [HX.out];rfl,HB.out⟩
   ·by_cases hhi:f 0 > 999
    ·have HX:=Lib.hid (hasB_no (f:=f) (i:=0) (by omega) (fun k=>by have:=k.2;omega) l)
     clear HS
     go_wp2_with fail
     go_ret
     exact ⟨by rw [HX.out];rfl,HB.out⟩
    ·have HS2:=Lib.hid (show ∀ j,j<1→0≤f j∧f j≤999 from fun j hj=>by
      rcases Nat.lt_or_ge j 0 with h | h
      ·exact HS.out j h
      ·obtain rfl:j=0:=by omega
       exact ⟨by omega,by omega⟩)
     clear HS
     go_wp2_with fail
     go_round
     case rel=>exact ⟨1,by omega,by go_num,trivial,HS2⟩
     case measure=>simp [intOf]
  ·by_cases hlo:f 1<0
   ·have HX:=Lib.hid (hasB_no (f:=f) (i:=1) (by omega) (fun k=>by have:=k.1;omega) l)
    clear HS
    go_wp2_with fail
    go_ret
    exact ⟨by rw [HX.out];rfl,HB.out⟩
   ·by_cases hhi:f 1 > 999
    ·have HX:=Lib.hid (hasB_no (f:=f) (i:=1) (by omega) (fun k=>by have:=k.2;omega) l)
     clear HS
     go_wp2_with fail
     go_ret
     exact ⟨by rw [HX.out];rfl,HB.out⟩
    ·have HS2:=Lib.hid (show ∀ j,j<2→0≤f j∧f j≤999 from fun j hj=>by
      rcases Nat.lt_or_ge j 1 with h | h
      ·exact HS.out j h
      ·obtain rfl:j=1:=by omega
       exact ⟨by omega,by omega⟩)
     clear HS
     go_wp2_with fail
     go_round
     case rel=>exact ⟨2,by omega,by go_num,trivial,HS2⟩
     case measure=>simp [intOf]
  ·by_cases hlo:f 2<0
   ·have HX:=Lib.hid (hasB_no (f:=f) (i:=2) (by omega) (fun k=>by have:=k.1;omega) l)
    clear HS
    go_wp2_with fail
    go_ret
    exact ⟨by rw [HX.out];rfl,HB.out⟩
   ·by_cases hhi:f 2 > 999
    ·have HX:=Lib.hid (hasB_no (f:=f) (i:=2) (by omega) (fun k=>by have:=k.2;omega) l)
     clear HS
     go_wp2_with fail
     go_ret
     exact ⟨by rw [HX.out];rfl,HB.out⟩
    ·have HS2:=Lib.hid (show ∀ j,j<3→0≤f j∧f j≤999 from fun j hj=>by
      rcases Nat.lt_or_ge j 2 with h | h
      ·exact HS.out j h
      ·obtain rfl:j=2:=by omega
       exact ⟨by omega,by omega⟩)
     clear HS
     go_wp2_with fail
     go_round
     case rel=>exact ⟨3,by omega,by go_num,trivial,HS2⟩
     case measure=>simp [intOf]
  ·have hok:okV f:=HS.out
   have HX:=Lib.hid (hasB_ok hok l)
   have HNB:=hide (numb_any f w1 (okV_part hok))
   unfold NumbP verArr at HNB
   have z1:=HR1.out.cell 0
   have z2:=HR2.out.cell 0
   have z3:=HR2.out.cell 1
   have z4:=HR2.out.cell 2
   generalize numV3 f=m at HX HNB
   clear hok HS
   go_wp2_with fail
   refine HNB.out.mono ?_
   rintro e w2 ⟨rfl,hb2⟩
   have hb3:=hb2.alloc hb2.size (.cells #[.int .i64 (m:Int)] 3)
   have HB3:=hide hb3
   have HC:=hide (contains_any _ l m w2.heap.size (w2.alloc (.cells #[.int .i64 (m:Int)] 3)) (HO.out.below hb3) hl ((Blk.new w2 3 #[.int .i64 (m:Int)]).cell 0) (Blk.new w2 3 #[.int .i64 (m:Int)]).lt)
   have z1:=(HR1.out.below hb3 HR1.out.lt).cell 0
   unfold BoolP at HC
   generalize setS l m=bb at HX HC
   clear hb2 hb3 HNB z2 z3 z4
   go_wp2_with fail
   refine HC.out.mono ?_
   rintro e w4 ⟨rfl,hb4⟩
   have HB4:=hide (HB.out.trans ((HB3.out.trans (hb4.mono HB3.out.size)).mono HB.out.size))
   clear hb4
   go_wp2_with fail
   go_ret
   exact ⟨by rw [HX.out];rfl,HB4.out⟩
theorem within3_any (x a b:Int) (w:World):Calls Tryz.prog 129 #[.int .i64 x,.int .i64 a,.int .i64 b] w (fun e w'=>e=.returned (.bool (decide (a≤x)&&decide (x≤b)))∧w=w'):=by
 by_cases h1:a≤x
 ·have h1z:x≥a:=h1
  by_cases h2:x≤b
  ·go_enter Tryz.func129,Tryz.ntmps129
   go_wp2_with fail
   go_ret
   exact ⟨by first | rfl | (simp;omega),rfl⟩
  ·go_enter Tryz.func129,Tryz.ntmps129
   go_wp2_with fail
   go_ret
   exact ⟨by rw [decide_eq_false (show ¬x≤b by omega)];rfl,rfl⟩
 ·have h1z:¬x≥a:=h1
  go_enter Tryz.func129,Tryz.ntmps129
  go_wp2_with fail
  go_ret
  exact ⟨by rw [decide_eq_false (show ¬a≤x by omega)];rfl,rfl⟩
theorem idxW0 (a b c:Int) (w:World):(Instr.index 30 (.agg #[.int .i64 a,.int .i64 b,.int .i64 c]) (.int .i64 0)).run Tryz.prog w=.ok (.int .i64 a) w:=by kernel_rfl
theorem idxW1 (a b c:Int) (w:World):(Instr.index 30 (.agg #[.int .i64 a,.int .i64 b,.int .i64 c]) (.int .i64 1)).run Tryz.prog w=.ok (.int .i64 b) w:=by kernel_rfl
theorem idxW2 (a b c:Int) (w:World):(Instr.index 30 (.agg #[.int .i64 a,.int .i64 b,.int .i64 c]) (.int .i64 2)).run Tryz.prog w=.ok (.int .i64 c) w:=by kernel_rfl
set_option maxHeartbeats 4000000 in
theorem refHas_any (v:Value) (l:List (Nat×Nat)) (f:Nat→Int) (w:World) (h:OwnI w 0 v (flatI l)) (hl:CanF 0 l):Calls Tryz.prog 147 #[v,.agg (verArr f)] w (BoolP (hasB l f) w):=by
 have b1:=(Below.refl w.heap.size w).alloc (Nat.le_refl _) (.cells #[.int .i64 (f 0),.int .i64 (f 1),.int .i64 (f 2)] 30)
 have HB:=hide b1
 have HR2:=hide (Blk.new w 30 #[.int .i64 (f 0),.int .i64 (f 1),.int .i64 (f 2)])
 have HO:=hide (h.below b1)
 have HL:=Lib.hid hl
 obtain ⟨A,c,rfl⟩:=h.len
 clear h b1 hl
 unfold BoolP
 go_enter Tryz.func147,Tryz.ntmps147
 unfold verArr
 go_wp2_with fail
 generalize (w.alloc (.cells #[.int .i64 (f 0),.int .i64 (f 1),.int .i64 (f 2)] 30))=w1 at HB HR2 HO ⊢
 generalize w.heap.size=g at HR2 ⊢
 have hx0:=idxW0
 have hx1:=idxW1
 have hx2:=idxW2
 go_loopw [8] (fun v8 wr=>∃ i:Nat,i≤3∧v8=.int .i64 (i:Int)∧wr=w1∧Hid (∀ j,j<i→0≤f j∧f j≤999)) (fun v8 _=>3-(intOf v8).toNat)
 case atStart=>exact ⟨0,by omega,rfl,rfl,Lib.hid (fun j hj=>absurd hj (Nat.not_lt_zero _))⟩
 case round =>
  obtain ⟨i,hi,rfl,hw,HS⟩:=hrel
  have hw2:=hw.symm
  subst hw2
  clear hw
  rcases (show i=0∨i=1∨i=2∨i=3 by omega) with rfl | rfl | rfl | rfl
  ·have HW:=hide (within3_any (f 0) 0 999 w1)
   by_cases hb:0≤f 0∧f 0≤999
   ·have HS2:=Lib.hid (show ∀ j,j<1→0≤f j∧f j≤999 from fun j hj=>by
     rcases Nat.lt_or_ge j 0 with h | h
     ·exact HS.out j h
     ·obtain rfl:j=0:=by omega
      exact hb)
    rw [decide_eq_true hb.1,decide_eq_true hb.2,Bool.true_and] at HW
    clear HS hb
    go_wp2_with fail
    refine HW.out.mono ?_
    rintro e w9 ⟨rfl,rfl⟩
    go_wp2_with fail
    go_round
    case rel=>exact ⟨1,by omega,by go_num,trivial,HS2⟩
    case measure=>simp [intOf]
   ·have HX:=Lib.hid (hasB_no (f:=f) (i:=0) (by omega) hb l)
    have hb2:(decide (0≤f 0)&&decide (f 0≤999))=false:=by
     by_cases h1:0≤f 0
     ·rw [decide_eq_false (show ¬f 0≤999 from fun h2=>hb ⟨h1,h2⟩),Bool.and_false]
     ·rw [decide_eq_false h1,Bool.false_and]
    rw [hb2] at HW
    clear HS hb hb2
    go_wp2_with fail
    refine HW.out.mono ?_
    rintro e w9 ⟨rfl,rfl⟩
    go_wp2_with fail
    go_ret
    exact ⟨by rw [HX.out];rfl,HB.out⟩
  ·have HW:=hide (within3_any (f 1) 0 999 w1)
   by_cases hb:0≤f 1∧f 1≤999
   ·have HS2:=Lib.hid (show ∀ j,j<2→0≤f j∧f j≤999 from fun j hj=>by
     rcases Nat.lt_or_ge j 1 with h | h
     ·exact HS.out j h
     ·obtain rfl:j=1:=by omega
      exact hb)
    rw [decide_eq_true hb.1,decide_eq_true hb.2,Bool.true_and] at HW
    clear HS hb
    go_wp2_with fail
    refine HW.out.mono ?_
    rintro e w9 ⟨rfl,rfl⟩
    go_wp2_with fail
    go_round
    case rel=>exact ⟨2,by omega,by go_num,trivial,HS2⟩
    case measure=>simp [intOf]
   ·have HX:=Lib.hid (hasB_no (f:=f) (i:=1) (by omega) hb l)
    have hb2:(decide (0≤f 1)&&decide (f 1≤999))=false:=by
     by_cases h1:0≤f 1
     ·rw [decide_eq_false (show ¬f 1≤999 from fun h2=>hb ⟨h1,h2⟩),Bool.and_false]
     ·rw [decide_eq_false h1,Bool.false_and]
    rw [hb2] at HW
    clear HS hb hb2
    go_wp2_with fail
    refine HW.out.mono ?_
    rintro e w9 ⟨rfl,rfl⟩
    go_wp2_with fail
    go_ret
    exact ⟨by rw [HX.out];rfl,HB.out⟩
  ·have HW:=hide (within3_any (f 2) 0 999 w1)
   by_cases hb:0≤f 2∧f 2≤999
   ·have HS2:=Lib.hid (show ∀ j,j<3→0≤f j∧f j≤999 from fun j hj=>by
     rcases Nat.lt_or_ge j 2 with h | h
     ·exact HS.out j h
     ·obtain rfl:j=2:=by omega
      exact hb)
    rw [decide_eq_true hb.1,decide_eq_true hb.2,Bool.true_and] at HW
    clear HS hb
    go_wp2_with fail
    refine HW.out.mono ?_
    rintro e w9 ⟨rfl,rfl⟩
    go_wp2_with fail
    go_round
    case rel=>exact ⟨3,by omega,by go_num,trivial,HS2⟩
    case measure=>simp [intOf]
   ·have HX:=Lib.hid (hasB_no (f:=f) (i:=2) (by omega) hb l)
    have hb2:(decide (0≤f 2)&&decide (f 2≤999))=false:=by
     by_cases h1:0≤f 2
     ·rw [decide_eq_false (show ¬f 2≤999 from fun h2=>hb ⟨h1,h2⟩),Bool.and_false]
     ·rw [decide_eq_false h1,Bool.false_and]
    rw [hb2] at HW
    clear HS hb hb2
    go_wp2_with fail
    refine HW.out.mono ?_
    rintro e w9 ⟨rfl,rfl⟩
    go_wp2_with fail
    go_ret
    exact ⟨by rw [HX.out];rfl,HB.out⟩
  ·have hok:okV f:=HS.out
   have HX:=Lib.hid (hasB_ok hok l)
   have HNB:=hide (refNum_any f w1 (okV_part hok))
   unfold NumbP verArr at HNB
   have z2:=HR2.out.cell 0
   have z3:=HR2.out.cell 1
   have z4:=HR2.out.cell 2
   generalize numV3 f=m at HX HNB
   clear hok HS
   go_wp2_with fail
   refine HNB.out.mono ?_
   rintro e w2 ⟨rfl,hb2⟩
   have HB2:=hide (HB.out.trans (hb2.mono HB.out.size))
   have HC:=hide (in_any (.slice A (flatI l).length c) l m w2 (HO.out.below hb2) HL.out)
   unfold InP at HC
   generalize setS l m=bb at HX HC
   clear hb2 HNB z2 z3 z4
   go_wp2_with fail
   refine HC.out.mono ?_
   rintro e w4 ⟨rfl,hw4⟩
   have hw5:=hw4.symm
   subst hw5
   clear hw4
   go_wp2_with fail
   go_ret
   exact ⟨by rw [HX.out];rfl,HB2.out⟩
end Go.Proofs.YtojgbcmhdnappaaGreatDoor
