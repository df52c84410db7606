/-
  A part of the proof: RefCheck, RowK. Conditions: none.
-/
import Derived.Test.YtojgbcmhdnappaaGreatDoorBeFr
import Derived.Test.YtojgbcmhdnappaaGreatDoorProg
import Derived.WalkKit
import Derived.WalkSpells
import Derived.WalkLawsBesides
import Derived.BigQuiet
import Derived.Lib.Hide
import Derived.Shelf.Abstract
namespace Go.Proofs.YtojgbcmhdnappaaGreatDoor
open Go.RowKit Go.WideShapes Go.ChangeShapes
theorem ret_bool {a b:Bool} (h:a=b):Ending.returned (.bool a)=.returned (.bool b):=by rw [h]
theorem hide {p:Prop} (h:p):Hid p:=h
def I64 (z:Int):Prop := -9223372036854775808≤z∧z≤9223372036854775807
def Ints (w:World) (B:Nat) (A:Option Addr) (n:Nat) (zs:List Int):Prop :=
 zs.length=n∧n≤maxLen∧(∀ z∈zs,I64 z)∧Reads w B 1 A n (zs.map (Value.int .i64))
def Cls (w:World) (B:Nat) (A:Option Addr) (n:Nat) (ls:List (List Int)):Prop :=
 ls.length=n∧n≤maxLen∧∃ vs:List Value,Reads w B 1 A n vs∧∀ k,k<n→∃ A' n' c',vs[k]?=some (.slice A' n' c')∧n'≤c'∧Ints w B A' n' (ls.getD k [])
section
variable {w w':World} {B B' n:Nat} {A:Option Addr} {zs:List Int} {ls:List (List Int)}
theorem Ints.len (h:Ints w B A n zs):zs.length=n:=h.1
theorem Ints.le (h:Ints w B A n zs):n≤9223372036854775807:=by have:=h.2.1;unfold maxLen at this;exact this
theorem Ints.at_ {k:Nat} (h:Ints w B A n zs) (hk:k<n):∃ ad,A=some ad∧ad.block<B∧w.cell? (ad.add k)=some (.int .i64 (zs.getD k 0)):=by
 obtain ⟨ad,u,rfl,hb,hu,hc⟩:=h.2.2.2.at_ hk
 have hl:k<zs.length:=by rw [h.1];exact hk
 rw [List.getElem?_map,List.getElem?_eq_getElem hl] at hu
 simp only [Option.map_some,Option.some.injEq] at hu
 subst hu
 exact ⟨ad,rfl,hb,by rw [hc,List.getD_eq_getElem?_getD,List.getElem?_eq_getElem hl];rfl⟩
theorem Ints.keep (h:Ints w B A n zs) (hk:∀ p:Addr,p.block<B→w'.cell? p=w.cell? p):Ints w' B A n zs:=⟨h.1,h.2.1,h.2.2.1,h.2.2.2.keep hk⟩
theorem Ints.more (h:Ints w B A n zs) (hB:B≤B'):Ints w B' A n zs:=⟨h.1,h.2.1,h.2.2.1,h.2.2.2.more hB⟩
theorem Ints.below (h:Ints w B A n zs) (hb:Below B w w'):Ints w' B A n zs:=h.keep fun _ hp=>hb.cell hp
theorem Ints.nil (w:World) (B:Nat):Ints w B none 0 []:=⟨rfl,Nat.zero_le _,by simp,Reads.none_⟩
theorem Cls.len (h:Cls w B A n ls):ls.length=n:=h.1
theorem Cls.le (h:Cls w B A n ls):n≤9223372036854775807:=by have:=h.2.1;unfold maxLen at this;exact this
theorem Cls.at_ {k:Nat} (h:Cls w B A n ls) (hk:k<n):∃ ad A' n' c',A=some ad∧ad.block<B∧w.cell? (ad.add k)=some (.slice A' n' c')∧n'≤c'∧Ints w B A' n' (ls.getD k []):=by
 obtain ⟨_,_,vs,hr,hv⟩:=h
 obtain ⟨ad,u,rfl,hb,hu,hc⟩:=hr.at_ hk
 obtain ⟨A',n',c',hu',hcc,hi⟩:=hv k hk
 rw [hu] at hu'
 cases hu'
 exact ⟨ad,A',n',c',rfl,hb,hc,hcc,hi⟩
theorem Cls.keep (h:Cls w B A n ls) (hk:∀ p:Addr,p.block<B→w'.cell? p=w.cell? p):Cls w' B A n ls:=by
 obtain ⟨h1,h2,vs,hr,hv⟩:=h
 refine ⟨h1,h2,vs,hr.keep hk,fun k hkn=>?_⟩
 obtain ⟨A',n',c',hu',hcc,hi⟩:=hv k hkn
 exact ⟨A',n',c',hu',hcc,hi.keep hk⟩
theorem Cls.more (h:Cls w B A n ls) (hB:B≤B'):Cls w B' A n ls:=by
 obtain ⟨h1,h2,vs,hr,hv⟩:=h
 refine ⟨h1,h2,vs,hr.more hB,fun k hkn=>?_⟩
 obtain ⟨A',n',c',hu',hcc,hi⟩:=hv k hkn
 exact ⟨A',n',c',hu',hcc,hi.more hB⟩
theorem Cls.below (h:Cls w B A n ls) (hb:Below B w w'):Cls w' B A n ls:=h.keep fun _ hp=>hb.cell hp
end
section
variable {S:Nat→Prop} {w w' w'':World} {B n:Nat} {A:Option Addr} {zs:List Int} {ls:List (List Int)}
end
theorem take_snoc {α:Type} (l:List α) (k:Nat) (d:α) (h:k<l.length):l.take (k+1)=l.take k++[l.getD k d]:=by
 rw [List.take_succ_eq_append_getElem h,List.getD_eq_getElem?_getD,List.getElem?_eq_getElem h];rfl
end Go.Proofs.YtojgbcmhdnappaaGreatDoor
namespace Go.Proofs.YtojgbcmhdnappaaGreatDoor
def badB (vars x:Int):Bool:=decide (x=0∨vars<x∨x < -vars)
def rightB (zs:List Int):Bool:=zs.all (fun x=>!badB 24 x)&&decide (zs.length≤60)
theorem all_of_take {α:Type} (p:α→Bool) (l:List α) (k:Nat) (d:α) (hk:k<l.length) (h:(l.take k).all p=true) (hp:p (l.getD k d)=true):(l.take (k+1)).all p=true:=by
 rw [take_snoc l k d hk]
 generalize l.getD k d=x at *;simp [List.all_append,h,hp]
theorem all_false_at {α:Type} (p:α→Bool) (l:List α) (k:Nat) (d:α) (hk:k<l.length) (hp:p (l.getD k d)=false):l.all p=false:=by
 rw [List.all_eq_false]
 refine ⟨l.getD k d,?_,by rw [hp];simp⟩
 rw [List.getD_eq_getElem?_getD,List.getElem?_eq_getElem hk];exact List.getElem_mem hk
theorem any_true_at {α:Type} (p:α→Bool) (l:List α) (k:Nat) (d:α) (hk:k<l.length) (hp:p (l.getD k d)=true):l.any p=true:=by
 rw [List.any_eq_true]
 refine ⟨l.getD k d,?_,hp⟩
 rw [List.getD_eq_getElem?_getD,List.getElem?_eq_getElem hk];exact List.getElem_mem hk
theorem any_false_take {α:Type} (p:α→Bool) (l:List α) (k:Nat) (d:α) (hk:k<l.length) (h:(l.take k).any p=false) (hp:p (l.getD k d)=false):(l.take (k+1)).any p=false:=by
 rw [take_snoc l k d hk]
 generalize l.getD k d=x at *;simp [List.any_append,h,hp]
theorem take_all {α:Type} (l:List α) (k:Nat) (h:l.length≤k):l.take k=l:=List.take_of_length_le h
end Go.Proofs.YtojgbcmhdnappaaGreatDoor
namespace Go.Proofs.YtojgbcmhdnappaaGreatDoor
open Go.RowKit
end Go.Proofs.YtojgbcmhdnappaaGreatDoor
namespace Go.Proofs.YtojgbcmhdnappaaGreatDoor
open Go.RowKit
end Go.Proofs.YtojgbcmhdnappaaGreatDoor
namespace Go.Proofs.YtojgbcmhdnappaaGreatDoor
open Go.RowKit
def IsErr (w:World) (v:Value) (f:Int×Int):Prop :=
 (f=(0,-1)∧v=.nilIface)∨(f.2 = -1∧1≤f.1∧f.1≤13∧v=.iface 41 (.int .i64 f.1)) ∨
  ∃ b,b<w.heap.size∧1≤f.1∧f.1≤13∧0≤f.2∧v=.iface 183 (.pointer (some ⟨b,0,none⟩))∧Blk w b 185 #[.int .i64 f.1,.int .i64 f.2]
end Go.Proofs.YtojgbcmhdnappaaGreatDoor
namespace Go.Proofs.YtojgbcmhdnappaaGreatDoor
open Go.RowKit
theorem lt_of_cell {w:World} {a:Addr} {v:Value} (h:w.cell? a=some v):a.block<w.heap.size:=by
 rcases Nat.lt_or_ge a.block w.heap.size with hl | hl
 ·exact hl
 ·simp [World.cell?,Array.getElem?_eq_none hl] at h
structure GlobE (w:World):Prop where
 e0:w.cell? ⟨3,0,none⟩=some (.iface 351 (.agg #[.pointer (some ⟨12,37,none⟩)]))
theorem GlobE.below {w w':World} (h:GlobE w) (hb:Below w.heap.size w w'):GlobE w':=⟨(hb.cell (lt_of_cell h.e0)).trans h.e0⟩
def faultV (f:Int×Int):Value:=.agg #[.int .i64 f.1,.int .i64 f.2]
theorem bare_any (c:Int) (w:World):Calls Tryz.prog 35 #[.int .i64 c] w fun e w'=>e=.returned (.agg #[.int .i64 c,.int .i64 (-1)])∧w.alloc (.cells #[.int .i64 c,.int .i64 (-1)] 80)=w':=by
 go_enter Tryz.func35,Tryz.ntmps35
 go_wp2
 exact bodyPost_ret (v:=.agg #[.int .i64 c,.int .i64 (-1)]) (by simp [results,Tryz.results35,go_sem]) rfl ⟨rfl,rfl⟩
end Go.Proofs.YtojgbcmhdnappaaGreatDoor
namespace Go.Proofs.YtojgbcmhdnappaaGreatDoor
open Go.RowKit
structure ElK (α:Type) where
 t:TypeId
 K:Nat
 f:α→List Value
 pos:0<K
 len:∀ a,(f a).length=K
 one:∀ a,∀ u∈f a,u.oneCell'=true
section
variable {α:Type} (E:ElK α)
def ElK.row (l:List α):List Value:=l.flatMap E.f
theorem ElK.row_nil:E.row []=[]:=rfl
theorem ElK.row_cons (a:α) (l:List α):E.row (a :: l)=E.f a++E.row l:=rfl
theorem ElK.row_app (a b:List α):E.row (a++b)=E.row a++E.row b:=by unfold ElK.row;rw [List.flatMap_append]
theorem ElK.row_one (a:α):E.row [a]=E.f a:=by simp [ElK.row]
theorem ElK.row_len:∀ l:List α,(E.row l).length=l.length*E.K
 | []=>by simp [ElK.row]
 | a :: l=>by rw [E.row_cons,List.length_append,ElK.row_len l,E.len,List.length_cons,Nat.succ_mul,Nat.add_comm]
theorem ElK.row_at:∀ (l:List α) (k j:Nat) (h:k<l.length),j<E.K→(E.row l)[k*E.K+j]?=(E.f l[k])[j]?
 | [],k,_,h,_=>absurd h (Nat.not_lt_zero k)
 | a :: l,0,j,_,hj=>by
  rw [E.row_cons,List.getElem?_append_left (by rw [E.len];omega),Nat.zero_mul,Nat.zero_add]
  rfl
 | a :: l,k+1,j,h,hj=>by
  have e:(k+1)*E.K+j=E.K+(k*E.K+j):=by rw [Nat.succ_mul];omega
  rw [E.row_cons,e,List.getElem?_append_right (by rw [E.len];omega),E.len,Nat.add_sub_cancel_left,ElK.row_at l k j (by simpa using h) hj]
  rfl
theorem ElK.row_oneCell (l:List α):∀ u∈E.row l,u.oneCell'=true:=by
 intro u hu
 obtain ⟨a,_,h⟩:=List.mem_flatMap.1 hu
 exact E.one a u h
theorem ElK.row_drop:∀ (l:List α) (k:Nat),(E.row l).drop (k*E.K)=E.row (l.drop k)
 | l,0=>by simp
 | [],k+1=>by simp [ElK.row]
 | a :: l,k+1=>by
  have e:(k+1)*E.K=E.K+k*E.K:=by rw [Nat.succ_mul];omega
  rw [E.row_cons,e,List.drop_succ_cons,←ElK.row_drop l k,←List.drop_drop,List.drop_append_of_le_length (by rw [E.len];exact Nat.le_refl _),show (E.f a).drop E.K=[] from List.drop_eq_nil_of_le (by rw [E.len];exact Nat.le_refl _),List.nil_append]
def OwnK (w:World) (base:Nat) (v:Value) (l:List α):Prop:=w.ownsRow base E.t E.K v l.length (E.row l)
structure RowK (w:World) (g:Nat) (l:List α):Prop where
 is:∃ cur,Blk w g E.t cur∧l.length*E.K≤cur.size∧∀ k (h:k<l.length) j,j<E.K→cur[k*E.K+j]?=(E.f l[k])[j]?
end
section
variable {α:Type} {E:ElK α} {w w':World} {base base' g:Nat} {v:Value} {l:List α}
theorem OwnK.below (h:OwnK E w base v l) (hb:Below w.heap.size w w'):OwnK E w' base v l :=
 World.ownsRow.kept h (row:=none) ⟨hb.os,hb.tape,hb.output,hb.size,fun i hi _=>hb.block i hi⟩ (by cases v.ownBlock <;> simp)
theorem OwnK.kept {r:Option Nat} (h:OwnK E w base v l) (hg:w.grownBy w' r) (hr:v.ownBlock=none∨v.ownBlock≠r):OwnK E w' base v l:=World.ownsRow.kept h hg hr
theorem OwnK.mono (h:OwnK E w base v l) (hb:base'≤base):OwnK E w base' v l:=by
 refine ⟨h.1,?_⟩
 rcases h.2 with h2 | ⟨g,cap,cur,e,hg,r⟩
 ·exact .inl h2
 ·exact .inr ⟨g,cap,cur,e,Nat.le_trans hb hg,r⟩
theorem ownK_nil (E:ElK α) (w:World) (base:Nat):OwnK E w base (.slice none 0 0) []:=World.ownsRow_nil _ _ _ _
theorem OwnK.lt (h:OwnK E w base v l):∀ k,v.ownBlock=some k→base≤k∧k<w.heap.size:=World.ownsRow.lt h
theorem OwnK.len (h:OwnK E w base v l):∃ A c,v=.slice A l.length c∧l.length≤c:=by
 rcases h.2 with ⟨rfl,h0⟩ | ⟨g,cap,cur,rfl,_,_,hc,_⟩
 ·exact ⟨none,0,by rw [h0],by omega⟩
 ·exact ⟨_,_,rfl,hc⟩
theorem OwnK.fr {S:Nat→Prop} (h:OwnK E w base v l) (hf:Fr S w w') (hs:∀ k,v.ownBlock=some k→¬S k):OwnK E w' base v l:=by
 refine ⟨h.1,?_⟩
 rcases h.2 with h2 | ⟨g,cap,cur,rfl,hg,hgc,r⟩
 ·exact .inl h2
 ·have hk:Blk w g E.t cur:=hgc
  exact .inr ⟨g,cap,cur,rfl,hg,hk.fr hf (hs g rfl),r⟩
theorem OwnK.ne_blk {g:Nat} {t:TypeId} {cs:Array Value} (h:OwnK E w base v l) (hg:Blk w g t cs) (hne:E.t≠t):v.ownBlock≠some g:=own_blk_ne h hg hne
theorem OwnK.form (h:OwnK E w base v l):(v=.slice none 0 0∧l=[])∨∃ g cap,v=.slice (some ⟨g,0,none⟩) l.length cap∧base≤g∧l.length≤cap∧cap≤maxLen∧RowK E w g l:=by
 rcases h.2 with ⟨rfl,h0⟩ | ⟨g,cap,cur,rfl,hg,hgc,hle,hcm,hcs,hct⟩
 ·exact .inl ⟨rfl,List.length_eq_zero_iff.1 h0⟩
 ·refine .inr ⟨g,cap,rfl,hg,hle,hcm,cur,hgc,by rw [hcs];exact Nat.mul_le_mul_right _ hle,fun k hk j hj=>?_⟩
  have h1:k*E.K+j<l.length*E.K:=by
   have:(k+1)*E.K≤l.length*E.K:=Nat.mul_le_mul_right _ hk
   rw [Nat.succ_mul] at this
   omega
  rw [←E.row_at l k j hk hj,←hct,List.getElem?_take_of_lt h1]
  simp
theorem RowK.lt (h:RowK E w g l):g<w.heap.size:=by obtain ⟨cur,hk,_⟩:=h.is;exact hk.lt
theorem RowK.cell (h:RowK E w g l) {k j:Nat} (hk:k<l.length) (hj:j<E.K):w.cell? ⟨g,k*E.K+j,none⟩=(E.f l[k])[j]?:=by
 obtain ⟨cur,hb,_,hc⟩:=h.is
 exact (hb.cell _).trans (hc k hk j hj)
theorem RowK.frozen (h:RowK E w g l) (i:Nat):w.frozen? ⟨g,i,none⟩=false:=by obtain ⟨cur,hk,_⟩:=h.is;exact hk.frozen i
theorem one_readsK (E:ElK α) {w:World} {g:Nat} {a:α} (h:Blk w g E.t (E.f a).toArray):Reads w (g+1) E.K (some ⟨g,0,none⟩) 1 (E.row [a]):=by
 refine ⟨E.row_len _,fun _=>⟨_,rfl,Nat.lt_succ_self _,fun j x hx=>?_⟩⟩
 have e:(⟨g,0,none⟩:Addr).add j=⟨g,j,none⟩:=by
  unfold Addr.add
  split
  ·rename_i h0;rw [h0]
  ·simp
 rw [e,h.cell j]
 rw [E.row_one] at hx
 simpa using hx
theorem OwnK.reads {n c:Nat} {A:Option Addr} (h:OwnK E w base (.slice A n c) l):n=l.length∧Reads w w.heap.size E.K A l.length (E.row l):=by
 obtain ⟨A',c',e,_⟩:=h.len
 injection e with e1 e2 e3
 subst e1 e2 e3
 exact ⟨rfl,Reads.of_own h⟩
end
theorem appK {α:Type} (E:ElK α) (w:World) {ops:Array Oper} {rest:List Oper} {o:Oper} {a:Act} {Q:Exit→Act→World→Prop} {z:Value} {bytes:Nat} (hin:(Tryz.prog.info? E.t).map (fun i=>(i.zero,i.size,i.bytes))=some (some z,E.K,bytes)) (hz:z.cells.size=E.K) (hby:bytes≤1000) (hgd:o.guard=none) (s x:Operand) (t:TypeId)
  (ho:o.op=.call { callee:=.builtin .append,args:=#[s,x],argTypes:=#[t,t] }) (base:Nat) (ht:Tryz.prog.underlying t=some (.slice E.t))
  (v:Value) (l:List α) (hs:a.eval s=v) (hown:OwnK E w base v l) (A:Option Addr) (B c n:Nat) (m:List α) (hn:n=m.length) (hx:a.eval x=.slice A n c) (hr:Reads w B E.K A n (E.row m))
  (hl:l.length+m.length≤100000000) (hbase:base≤w.heap.size)
  (h:∀ v' w',OwnK E w' base v' (l++m)→w.grownBy w' v.ownBlock→(v'.ownBlock=v.ownBlock∨v'.ownBlock=some w.heap.size)→wpList Tryz.prog ops Q rest (a.put o.dst v') w'):wpList Tryz.prog ops Q (o :: rest) a w:=by
 obtain ⟨i0,hi,hz0,hz1,hz2⟩:=info_parts hin
 subst hn
 have hb2:(l.length+m.length)*bytes≤100000000*1000:=Nat.mul_le_mul hl hby
 refine wpList_append_any w hgd s x t ho base E.t i0 z E.K bytes ht hi hz0 hz1 hz2 hz E.pos v l.length _ hs hown B A m.length c (E.row m) hx hr (E.row_oneCell m) (by simp only [maxLen];omega) (by omega) hbase ?_
 intro v' w' ho' hg' hor
 refine h v' w' ?_ hg' hor
 unfold OwnK
 rw [List.length_append,E.row_app]
 exact ho'
theorem appK1 {α:Type} (E:ElK α) (w:World) {ops:Array Oper} {rest:List Oper} {o:Oper} {a:Act} {Q:Exit→Act→World→Prop} {z:Value} {bytes:Nat} (hin:(Tryz.prog.info? E.t).map (fun i=>(i.zero,i.size,i.bytes))=some (some z,E.K,bytes)) (hz:z.cells.size=E.K) (hby:bytes≤1000) (hgd:o.guard=none) (s x:Operand) (t:TypeId)
  (ho:o.op=.call { callee:=.builtin .append,args:=#[s,x],argTypes:=#[t,t] }) (base:Nat) (ht:Tryz.prog.underlying t=some (.slice E.t))
  (v:Value) (l:List α) (hs:a.eval s=v) (hown:OwnK E w base v l) (b c:Nat) (q:α) (hx:a.eval x=.slice (some ⟨b,0,none⟩) 1 c) (hk:Blk w b E.t (E.f q).toArray)
  (hl:l.length≤90000000) (hbase:base≤w.heap.size)
  (h:∀ v' w',OwnK E w' base v' (l++[q])→w.grownBy w' v.ownBlock→(v'.ownBlock=v.ownBlock∨v'.ownBlock=some w.heap.size)→wpList Tryz.prog ops Q rest (a.put o.dst v') w'):wpList Tryz.prog ops Q (o :: rest) a w :=
 appK E w hin hz hby hgd s x t ho base ht v l hs hown (some ⟨b,0,none⟩) (b+1) c 1 [q] rfl hx (one_readsK E hk) (by simp;omega) hbase h
end Go.Proofs.YtojgbcmhdnappaaGreatDoor
