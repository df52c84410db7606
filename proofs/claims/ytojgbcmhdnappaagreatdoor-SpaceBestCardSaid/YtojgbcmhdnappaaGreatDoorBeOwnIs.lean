/-
  A part of the proof: OwnIs. Conditions: none.
-/
import Derived.Test.YtojgbcmhdnappaaGreatDoorBeArenaOut
import Derived.Test.YtojgbcmhdnappaaGreatDoorBeFr
import Derived.Test.YtojgbcmhdnappaaGreatDoorBeRowK
import Derived.Lib.SliceRun
namespace Go.Proofs.YtojgbcmhdnappaaGreatDoor
open Go.RowKit
def nodeV (n:Nd):Value:=.agg #[.int .i64 n.var,.int .i64 n.low,.int .i64 n.high]
def nodeCells (n:Nd):List Value:=[.int .i64 n.var,.int .i64 n.low,.int .i64 n.high]
def nodeArr (ns:List Nd):Array Value:=(ns.flatMap nodeCells).toArray
def boolArr (us:List Bool):Array Value:=(us.map Value.bool).toArray
def intArr (tab:List Int):Array Value:=(tab.map (Value.int .i64)).toArray
theorem flat_at:∀ (ns:List Nd) (k j:Nat),k<ns.length→j<3→(ns.flatMap nodeCells)[k*3+j]?=(nodeCells (ns.getD k nd0))[j]?:=by
 intro ns
 induction ns with
 | nil=>intro k j h;simp at h
 | cons a l ih =>
  intro k j hk hj
  cases k with
  | zero =>
   rw [List.flatMap_cons,Nat.zero_mul,Nat.zero_add,List.getElem?_append_left (by simpa [nodeCells] using hj)]
   rfl
  | succ k =>
   rw [List.flatMap_cons,List.getElem?_append_right (by simp [nodeCells];omega)]
   have e:(k+1)*3+j-(nodeCells a).length=k*3+j:=by simp [nodeCells];omega
   rw [e,ih k j (by simpa using hk) hj]
   simp
theorem nodeArr_at {ns:List Nd} {k:Nat} (hk:k<ns.length):(nodeArr ns)[k*3]?=some (.int .i64 (ns.getD k nd0).var)∧(nodeArr ns)[k*3+1]?=some (.int .i64 (ns.getD k nd0).low)∧(nodeArr ns)[k*3+2]?=some (.int .i64 (ns.getD k nd0).high):=by
 unfold nodeArr
 simp only [List.getElem?_toArray]
 refine ⟨?_,?_,?_⟩
 ·exact (flat_at ns k 0 hk (by omega)).trans rfl
 ·exact (flat_at ns k 1 hk (by omega)).trans rfl
 ·exact (flat_at ns k 2 hk (by omega)).trans rfl
theorem flat_set:∀ (ns:List Nd) (k:Nat) (n:Nd),k<ns.length→(((ns.flatMap nodeCells).set (k*3) (.int .i64 n.var)).set (k*3+1) (.int .i64 n.low)).set (k*3+2) (.int .i64 n.high)=(ns.set k n).flatMap nodeCells:=by
 intro ns
 induction ns with
 | nil=>intro k n h;simp at h
 | cons a l ih =>
  intro k n hk
  cases k with
  | zero =>
   simp [nodeCells]
  | succ k =>
   have ih2:=ih k n (by simpa using hk)
   rw [List.flatMap_cons,List.set_cons_succ,List.flatMap_cons,←ih2]
   have e1:(k+1)*3=k*3+3:=by omega
   rw [e1]
   simp [nodeCells]
theorem nodeArr_set {ns:List Nd} {k:Nat} {n:Nd} (hk:k<ns.length):(((nodeArr ns).setIfInBounds (k*3) (.int .i64 n.var)).setIfInBounds (k*3+1) (.int .i64 n.low)).setIfInBounds (k*3+2) (.int .i64 n.high)=nodeArr (ns.set k n):=by
 apply Array.toList_inj.1
 unfold nodeArr
 simp only [Array.toList_setIfInBounds]
 exact flat_set ns k n hk
theorem boolArr_at {us:List Bool} {k:Nat} (hk:k<us.length):(boolArr us)[k]?=some (.bool (us.getD k false)):=by
 unfold boolArr
 rw [List.getElem?_toArray,List.getElem?_map,List.getElem?_eq_getElem hk,List.getD_eq_getElem?_getD,List.getElem?_eq_getElem hk]
 rfl
theorem boolArr_set {us:List Bool} {k:Nat} {x:Bool}:(boolArr us).setIfInBounds k (.bool x)=boolArr (us.set k x):=by
 apply Array.toList_inj.1
 simp [boolArr,List.map_set]
theorem intArr_at {tab:List Int} {k:Nat} (hk:k<tab.length):(intArr tab)[k]?=some (.int .i64 (tab.getD k 0)):=by
 unfold intArr
 rw [List.getElem?_toArray,List.getElem?_map,List.getElem?_eq_getElem hk,List.getD_eq_getElem?_getD,List.getElem?_eq_getElem hk]
 rfl
theorem intArr_set {tab:List Int} {k:Nat} {x:Int}:(intArr tab).setIfInBounds k (.int .i64 x)=intArr (tab.set k x):=by
 apply Array.toList_inj.1
 simp [intArr,List.map_set]
end Go.Proofs.YtojgbcmhdnappaaGreatDoor
namespace Go.Proofs.YtojgbcmhdnappaaGreatDoor
open Go.RowKit
theorem intInfo:(Tryz.prog.info? 3).map (fun i=>(i.zero,i.size,i.bytes))=some (some (.int .i64 0),1,8):=by kernel_rfl
def intsV (zs:List Int):List Value:=zs.map (Value.int .i64)
def RowI (w:World) (A:Option Addr) (n:Nat) (zs:List Int):Prop:=zs.length=n∧Reads w w.heap.size 1 A n (intsV zs)
theorem RowI.below {w w':World} {A:Option Addr} {n:Nat} {zs:List Int} (h:RowI w A n zs) (hb:Below w.heap.size w w'):RowI w' A n zs:=⟨h.1,(h.2.below hb).more hb.size⟩
def OwnI (w:World) (base:Nat) (v:Value) (zs:List Int):Prop:=w.ownsRow base 3 1 v zs.length (intsV zs)
theorem OwnI.below {w w':World} {base:Nat} {v:Value} {zs:List Int} (h:OwnI w base v zs) (hb:Below w.heap.size w w'):OwnI w' base v zs :=
 World.ownsRow.kept h (row:=none) ⟨hb.os,hb.tape,hb.output,hb.size,fun i hi _=>hb.block i hi⟩ (by cases v.ownBlock <;> simp)
theorem OwnI.kept {w w':World} {base:Nat} {v:Value} {zs:List Int} {r:Option Nat} (h:OwnI w base v zs) (hg:w.grownBy w' r) (hr:v.ownBlock=none∨v.ownBlock≠r):OwnI w' base v zs :=
 World.ownsRow.kept h hg hr
theorem ownI_nil (w:World) (base:Nat):OwnI w base (.slice none 0 0) []:=World.ownsRow_nil _ _ _ _
theorem OwnI.mono {w:World} {base base':Nat} {v:Value} {zs:List Int} (h:OwnI w base v zs) (hb:base'≤base):OwnI w base' v zs:=by
 refine ⟨h.1,?_⟩
 rcases h.2 with h2 | ⟨g,cap,cur,e,hg,r⟩
 ·exact .inl h2
 ·exact .inr ⟨g,cap,cur,e,Nat.le_trans hb hg,r⟩
theorem ownI_empty (w:World) (base:Nat) (hb:base≤w.heap.size):OwnI (w.alloc (.cells #[] 3)) base (.slice (some ⟨w.heap.size,0,none⟩) 0 0) [] :=
 ⟨rfl,.inr ⟨w.heap.size,0,#[],rfl,hb,Blk.new w _ _,Nat.le_refl _,by simp [maxLen],rfl,rfl⟩⟩
theorem intsV_at {zs:List Int} {k:Nat} (hk:k<zs.length):(intsV zs)[k]?=some (.int .i64 (zs.getD k 0)):=by
 unfold intsV
 rw [List.getElem?_map,List.getElem?_eq_getElem hk,List.getD_eq_getElem?_getD,List.getElem?_eq_getElem hk]
 rfl
theorem OwnI.form {w:World} {base:Nat} {v:Value} {zs:List Int} (h:OwnI w base v zs) (h0:0<zs.length):∃ g cap cur,v=.slice (some ⟨g,0,none⟩) zs.length cap∧base≤g∧Blk w g 3 cur∧zs.length≤cap∧∀ k,k<zs.length→cur[k]?=some (.int .i64 (zs.getD k 0)):=by
 rcases h.2 with ⟨_,h9⟩ | ⟨g,cap,cur,rfl,hg,hgc,hle,hcm,hcs,hct⟩
 ·omega
 ·refine ⟨g,cap,cur,rfl,hg,hgc,hle,fun k hk=>?_⟩
  have h1:(cur.toList.take (zs.length*1))[k]?=some (.int .i64 (zs.getD k 0)):=by
   rw [hct]
   exact intsV_at hk
  rw [List.getElem?_take_of_lt (by omega)] at h1
  simpa using h1
theorem OwnI.len {w:World} {base:Nat} {v:Value} {zs:List Int} (h:OwnI w base v zs):∃ A c,v=.slice A zs.length c:=by
 rcases h.2 with ⟨rfl,h0⟩ | ⟨g,cap,cur,rfl,_⟩
 ·exact ⟨none,0,by rw [h0]⟩
 ·exact ⟨_,_,rfl⟩
theorem OwnI.pop {w:World} {base g cap:Nat} {zs:List Int} {x:Int} (h:OwnI w base (.slice (some ⟨g,0,none⟩) (zs++[x]).length cap) (zs++[x])):OwnI w base (.slice (some ⟨g,0,none⟩) zs.length cap) zs:=by
 rcases h.2 with ⟨h9,_⟩ | ⟨g',cap',cur,e,hg,hgc,hle,hcm,hcs,hct⟩
 ·cases h9
 ·injection e with e1 _ e2
  injection e1 with e1
  injection e1 with e1
  subst e1 e2
  rw [List.length_append,List.length_singleton] at hle hct
  refine ⟨by simp [intsV],.inr ⟨g,cap,cur,rfl,hg,hgc,by omega,hcm,hcs,?_⟩⟩
  have h1:=congrArg (List.take (zs.length*1)) hct
  rw [List.take_take,Nat.min_eq_left (by omega)] at h1
  rw [h1]
  simp [intsV]
theorem OwnI.row {w:World} {base:Nat} {A:Option Addr} {n c:Nat} {zs:List Int} (h:OwnI w base (.slice A n c) zs):RowI w A n zs:=by
 obtain ⟨A',c',e⟩:=h.len
 injection e with e1 e2 e3
 subst e1 e2 e3
 exact ⟨rfl,Reads.of_own h⟩
theorem blk_reads {w:World} {g:Nat} {zs:List Int} (h:Blk w g 3 (intArr zs)):Reads w (g+1) 1 (some ⟨g,0,none⟩) zs.length (intsV zs):=by
 refine ⟨by simp [intsV],fun _=>⟨_,rfl,Nat.lt_succ_self _,fun j x hx=>?_⟩⟩
 have c:=h.cell j
 unfold intArr at c
 rw [List.getElem?_toArray] at c
 have e:(⟨g,0,none⟩:Addr).add j=⟨g,j,none⟩:=by
  unfold Addr.add
  split
  ·rename_i h0;rw [h0]
  ·simp
 rw [e,c]
 exact hx
theorem appI (w:World) {ops:Array Oper} {rest:List Oper} {o:Oper} {a:Act} {Q:Exit→Act→World→Prop} (hgd:o.guard=none) (s x:Operand) (t:TypeId)
  (ho:o.op=.call { callee:=.builtin .append,args:=#[s,x],argTypes:=#[t,t] }) (base:Nat) (ht:Tryz.prog.underlying t=some (.slice 3))
  (v:Value) (zs:List Int) (hs:a.eval s=v) (hown:OwnI w base v zs) (B:Nat) (A:Option Addr) (m c:Nat) (ys:List Int) (hx:a.eval x=.slice A m c) (hr:Reads w B 1 A m (intsV ys)) (hm:ys.length=m)
  (hl:zs.length+m≤10000000000) (hbase:base≤w.heap.size)
  (h:∀ v' w',OwnI w' base v' (zs++ys)→w.grownBy w' v.ownBlock→(v'.ownBlock=v.ownBlock∨v'.ownBlock=some w.heap.size)→wpList Tryz.prog ops Q rest (a.put o.dst v') w'):wpList Tryz.prog ops Q (o :: rest) a w:=by
 obtain ⟨i0,hi,hz0,hz1,hz2⟩:=info_parts intInfo
 refine wpList_append_any w hgd s x t ho base 3 i0 (.int .i64 0) 1 8 ht hi hz0 hz1 hz2 rfl (by decide) v zs.length _ hs hown B A m c (intsV ys) hx hr (fun u hu=>by obtain ⟨y,_,rfl⟩:=List.mem_map.1 hu;rfl) (by simp only [maxLen];omega) (by omega) hbase ?_
 intro v' w' ho' hg' hor
 refine h v' w' ?_ hg' hor
 unfold OwnI
 rw [List.length_append,hm]
 unfold intsV at ho' ⊢
 rw [List.map_append]
 exact ho'
theorem nilI_none (n c:Nat) (w:World):(binOp .eql 31 (.slice none n c) (.slice none 0 0)).run Tryz.prog w=.ok (.bool true) w:=by kernel_rfl
theorem nilI_some (ad:Addr) (n c:Nat) (w:World):(binOp .eql 31 (.slice (some ad) n c) (.slice none 0 0)).run Tryz.prog w=.ok (.bool false) w:=by kernel_rfl
def OwnPost (w:World) (zs:List Int) (e:Ending) (w':World):Prop:=∃ v,e=.returned v∧OwnI w' w.heap.size v zs∧Below w.heap.size w w'
set_option maxRecDepth 100000 in
theorem cloneI_any (A:Option Addr) (n c:Nat) (zs:List Int) (w:World) (h:RowI w A n zs) (hl:n≤1000000) (hnil:A=none→n=0) :
  Calls Tryz.prog 206 #[.slice A n c] w (OwnPost w zs):=by
 have HR:=Lib.hid h
 clear h
 have hq0:=nilI_none
 have hq1:=nilI_some
 rcases A with _ | ad
 ·obtain rfl:zs=[]:=List.eq_nil_of_length_eq_zero (HR.out.1.trans (hnil rfl))
  go_enter Tryz.func206,Tryz.ntmps206
  go_wp2
  go_ret
  exact ⟨_,rfl,ownI_nil _ _,Below.refl _ _⟩
 ·have hmk:=ownI_empty w w.heap.size (Nat.le_refl _)
  have hb0:Below w.heap.size w (w.alloc (.cells #[] 3)):=(Below.refl _ _).alloc (Nat.le_refl _) _
  go_enter Tryz.func206,Tryz.ntmps206
  go_wp2_with (first
   | (at_builtin;refine appI _ rfl _ _ _ rfl w.heap.size Tryz.underlying31 _ [] rfl hmk _ _ n c zs rfl (HR.out.2.below hb0) HR.out.1 (by simp;omega) hb0.size ?_;intro v' w' ho hg hor)
   | fail)
  go_ret
  exact ⟨v',rfl,by simpa using ho,hb0.grown hg hb0.size (fun j hj=>by cases hj;exact Nat.le_refl _)⟩
end Go.Proofs.YtojgbcmhdnappaaGreatDoor
