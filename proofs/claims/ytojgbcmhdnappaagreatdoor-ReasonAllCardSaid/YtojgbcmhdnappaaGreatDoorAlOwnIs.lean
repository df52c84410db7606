/-
  A part of the proof: OwnIs. Conditions: none.
-/
import Derived.Test.YtojgbcmhdnappaaGreatDoorAlPcs
import Derived.Test.YtojgbcmhdnappaaGreatDoorAlFr
import Derived.Test.YtojgbcmhdnappaaGreatDoorAlRefCheck
import Derived.Lib.SliceRun
namespace Go.Proofs.YtojgbcmhdnappaaGreatDoor
open Go.RowKit
def boolArr (us:List Bool):Array Value:=(us.map Value.bool).toArray
def intArr (tab:List Int):Array Value:=(tab.map (Value.int .i64)).toArray
theorem boolArr_at {us:List Bool} {k:Nat} (hk:k<us.length):(boolArr us)[k]?=some (.bool (us.getD k false)):=by
 unfold boolArr
 rw [List.getElem?_toArray,List.getElem?_map,List.getElem?_eq_getElem hk,List.getD_eq_getElem?_getD,List.getElem?_eq_getElem hk]
 rfl
theorem boolArr_set {us:List Bool} {k:Nat} {x:Bool}:(boolArr us).setIfInBounds k (.bool x)=boolArr (us.set k x):=by
 apply Array.toList_inj.1
 simp [boolArr,List.map_set]
end Go.Proofs.YtojgbcmhdnappaaGreatDoor
namespace Go.Proofs.YtojgbcmhdnappaaGreatDoor
open Go.RowKit
theorem intInfo:(Tryz.prog.info? 3).map (fun i=>(i.zero,i.size,i.bytes))=some (some (.int .i64 0),1,8):=by kernel_rfl
def intsV (zs:List Int):List Value:=zs.map (Value.int .i64)
def RowI (w:World) (A:Option Addr) (n:Nat) (zs:List Int):Prop:=zs.length=n∧Reads w w.heap.size 1 A n (intsV zs)
def OwnI (w:World) (base:Nat) (v:Value) (zs:List Int):Prop:=w.ownsRow base 3 1 v zs.length (intsV zs)
theorem OwnI.below {w w':World} {base:Nat} {v:Value} {zs:List Int} (h:OwnI w base v zs) (hb:Below w.heap.size w w'):OwnI w' base v zs :=
 World.ownsRow.kept h (row:=none) ⟨hb.os,hb.tape,hb.output,hb.size,fun i hi _=>hb.block i hi⟩ (by cases v.ownBlock <;> simp)
theorem OwnI.kept {w w':World} {base:Nat} {v:Value} {zs:List Int} {r:Option Nat} (h:OwnI w base v zs) (hg:w.grownBy w' r) (hr:v.ownBlock=none∨v.ownBlock≠r):OwnI w' base v zs :=
 World.ownsRow.kept h hg hr
theorem ownI_nil (w:World) (base:Nat):OwnI w base (.slice none 0 0) []:=World.ownsRow_nil _ _ _ _
theorem OwnI.mono {w:World} {base base':Nat} {v:Value} {zs:List Int} (h:OwnI w base v zs) (hb:base'≤base):OwnI w base' v zs:=by
 refine ⟨h.1,?_⟩
 rcases h.2 with h2 | ⟨g,cap,cur,e,hg,r⟩
 ·exact .inl h2
 ·exact .inr ⟨g,cap,cur,e,Nat.le_trans hb hg,r⟩
theorem intsV_at {zs:List Int} {k:Nat} (hk:k<zs.length):(intsV zs)[k]?=some (.int .i64 (zs.getD k 0)):=by
 unfold intsV
 rw [List.getElem?_map,List.getElem?_eq_getElem hk,List.getD_eq_getElem?_getD,List.getElem?_eq_getElem hk]
 rfl
theorem OwnI.form {w:World} {base:Nat} {v:Value} {zs:List Int} (h:OwnI w base v zs) (h0:0<zs.length):∃ g cap cur,v=.slice (some ⟨g,0,none⟩) zs.length cap∧base≤g∧Blk w g 3 cur∧zs.length≤cap∧∀ k,k<zs.length→cur[k]?=some (.int .i64 (zs.getD k 0)):=by
 rcases h.2 with ⟨_,h9⟩ | ⟨g,cap,cur,rfl,hg,hgc,hle,hcm,hcs,hct⟩
 ·omega
 ·refine ⟨g,cap,cur,rfl,hg,hgc,hle,fun k hk=>?_⟩
  have h1:(cur.toList.take (zs.length*1))[k]?=some (.int .i64 (zs.getD k 0)):=by
   rw [hct]
   exact intsV_at hk
  rw [List.getElem?_take_of_lt (by omega)] at h1
  simpa using h1
theorem OwnI.len {w:World} {base:Nat} {v:Value} {zs:List Int} (h:OwnI w base v zs):∃ A c,v=.slice A zs.length c:=by
 rcases h.2 with ⟨rfl,h0⟩ | ⟨g,cap,cur,rfl,_⟩
 ·exact ⟨none,0,by rw [h0]⟩
 ·exact ⟨_,_,rfl⟩
theorem OwnI.row {w:World} {base:Nat} {A:Option Addr} {n c:Nat} {zs:List Int} (h:OwnI w base (.slice A n c) zs):RowI w A n zs:=by
 obtain ⟨A',c',e⟩:=h.len
 injection e with e1 e2 e3
 subst e1 e2 e3
 exact ⟨rfl,Reads.of_own h⟩
theorem blk_reads {w:World} {g:Nat} {zs:List Int} (h:Blk w g 3 (intArr zs)):Reads w (g+1) 1 (some ⟨g,0,none⟩) zs.length (intsV zs):=by
 refine ⟨by simp [intsV],fun _=>⟨_,rfl,Nat.lt_succ_self _,fun j x hx=>?_⟩⟩
 have c:=h.cell j
 unfold intArr at c
 rw [List.getElem?_toArray] at c
 have e:(⟨g,0,none⟩:Addr).add j=⟨g,j,none⟩:=by
  unfold Addr.add
  split
  ·rename_i h0;rw [h0]
  ·simp
 rw [e,c]
 exact hx
theorem appI (w:World) {ops:Array Oper} {rest:List Oper} {o:Oper} {a:Act} {Q:Exit→Act→World→Prop} (hgd:o.guard=none) (s x:Operand) (t:TypeId)
  (ho:o.op=.call { callee:=.builtin .append,args:=#[s,x],argTypes:=#[t,t] }) (base:Nat) (ht:Tryz.prog.underlying t=some (.slice 3))
  (v:Value) (zs:List Int) (hs:a.eval s=v) (hown:OwnI w base v zs) (B:Nat) (A:Option Addr) (m c:Nat) (ys:List Int) (hx:a.eval x=.slice A m c) (hr:Reads w B 1 A m (intsV ys)) (hm:ys.length=m)
  (hl:zs.length+m≤10000000000) (hbase:base≤w.heap.size)
  (h:∀ v' w',OwnI w' base v' (zs++ys)→w.grownBy w' v.ownBlock→(v'.ownBlock=v.ownBlock∨v'.ownBlock=some w.heap.size)→wpList Tryz.prog ops Q rest (a.put o.dst v') w'):wpList Tryz.prog ops Q (o :: rest) a w:=by
 obtain ⟨i0,hi,hz0,hz1,hz2⟩:=info_parts intInfo
 refine wpList_append_any w hgd s x t ho base 3 i0 (.int .i64 0) 1 8 ht hi hz0 hz1 hz2 rfl (by decide) v zs.length _ hs hown B A m c (intsV ys) hx hr (fun u hu=>by obtain ⟨y,_,rfl⟩:=List.mem_map.1 hu;rfl) (by simp only [maxLen];omega) (by omega) hbase ?_
 intro v' w' ho' hg' hor
 refine h v' w' ?_ hg' hor
 unfold OwnI
 rw [List.length_append,hm]
 unfold intsV at ho' ⊢
 rw [List.map_append]
 exact ho'
end Go.Proofs.YtojgbcmhdnappaaGreatDoor
