/-
  A part of the proof: RefCheck. Conditions: none.
-/
import Derived.Test.YtojgbcmhdnappaaGreatDoorAlFr
import Derived.Test.YtojgbcmhdnappaaGreatDoorProg
import Derived.WalkKit
import Derived.WalkSpells
import Derived.WalkLawsBesides
import Derived.BigQuiet
import Derived.Lib.Hide
import Derived.Shelf.Abstract
namespace Go.Proofs.YtojgbcmhdnappaaGreatDoor
open Go.RowKit Go.WideShapes Go.ChangeShapes
theorem ret_int {k:IntKind} {a b:Int} (h:a=b):Ending.returned (.int k a)=.returned (.int k b):=by rw [h]
theorem ret_bool {a b:Bool} (h:a=b):Ending.returned (.bool a)=.returned (.bool b):=by rw [h]
theorem hide {p:Prop} (h:p):Hid p:=h
def I64 (z:Int):Prop := -9223372036854775808≤z∧z≤9223372036854775807
def Ints (w:World) (B:Nat) (A:Option Addr) (n:Nat) (zs:List Int):Prop :=
 zs.length=n∧n≤maxLen∧(∀ z∈zs,I64 z)∧Reads w B 1 A n (zs.map (Value.int .i64))
def Cls (w:World) (B:Nat) (A:Option Addr) (n:Nat) (ls:List (List Int)):Prop :=
 ls.length=n∧n≤maxLen∧∃ vs:List Value,Reads w B 1 A n vs∧∀ k,k<n→∃ A' n' c',vs[k]?=some (.slice A' n' c')∧n'≤c'∧Ints w B A' n' (ls.getD k [])
section
variable {w w':World} {B B' n:Nat} {A:Option Addr} {zs:List Int} {ls:List (List Int)}
theorem Ints.len (h:Ints w B A n zs):zs.length=n:=h.1
theorem Ints.le (h:Ints w B A n zs):n≤9223372036854775807:=by have:=h.2.1;unfold maxLen at this;exact this
theorem Ints.at_ {k:Nat} (h:Ints w B A n zs) (hk:k<n):∃ ad,A=some ad∧ad.block<B∧w.cell? (ad.add k)=some (.int .i64 (zs.getD k 0)):=by
 obtain ⟨ad,u,rfl,hb,hu,hc⟩:=h.2.2.2.at_ hk
 have hl:k<zs.length:=by rw [h.1];exact hk
 rw [List.getElem?_map,List.getElem?_eq_getElem hl] at hu
 simp only [Option.map_some,Option.some.injEq] at hu
 subst hu
 exact ⟨ad,rfl,hb,by rw [hc,List.getD_eq_getElem?_getD,List.getElem?_eq_getElem hl];rfl⟩
theorem Ints.keep (h:Ints w B A n zs) (hk:∀ p:Addr,p.block<B→w'.cell? p=w.cell? p):Ints w' B A n zs:=⟨h.1,h.2.1,h.2.2.1,h.2.2.2.keep hk⟩
theorem Ints.more (h:Ints w B A n zs) (hB:B≤B'):Ints w B' A n zs:=⟨h.1,h.2.1,h.2.2.1,h.2.2.2.more hB⟩
theorem Ints.below (h:Ints w B A n zs) (hb:Below B w w'):Ints w' B A n zs:=h.keep fun _ hp=>hb.cell hp
theorem Cls.len (h:Cls w B A n ls):ls.length=n:=h.1
theorem Cls.le (h:Cls w B A n ls):n≤9223372036854775807:=by have:=h.2.1;unfold maxLen at this;exact this
theorem Cls.at_ {k:Nat} (h:Cls w B A n ls) (hk:k<n):∃ ad A' n' c',A=some ad∧ad.block<B∧w.cell? (ad.add k)=some (.slice A' n' c')∧n'≤c'∧Ints w B A' n' (ls.getD k []):=by
 obtain ⟨_,_,vs,hr,hv⟩:=h
 obtain ⟨ad,u,rfl,hb,hu,hc⟩:=hr.at_ hk
 obtain ⟨A',n',c',hu',hcc,hi⟩:=hv k hk
 rw [hu] at hu'
 cases hu'
 exact ⟨ad,A',n',c',rfl,hb,hc,hcc,hi⟩
theorem Cls.keep (h:Cls w B A n ls) (hk:∀ p:Addr,p.block<B→w'.cell? p=w.cell? p):Cls w' B A n ls:=by
 obtain ⟨h1,h2,vs,hr,hv⟩:=h
 refine ⟨h1,h2,vs,hr.keep hk,fun k hkn=>?_⟩
 obtain ⟨A',n',c',hu',hcc,hi⟩:=hv k hkn
 exact ⟨A',n',c',hu',hcc,hi.keep hk⟩
theorem Cls.more (h:Cls w B A n ls) (hB:B≤B'):Cls w B' A n ls:=by
 obtain ⟨h1,h2,vs,hr,hv⟩:=h
 refine ⟨h1,h2,vs,hr.more hB,fun k hkn=>?_⟩
 obtain ⟨A',n',c',hu',hcc,hi⟩:=hv k hkn
 exact ⟨A',n',c',hu',hcc,hi.more hB⟩
theorem Cls.below (h:Cls w B A n ls) (hb:Below B w w'):Cls w' B A n ls:=h.keep fun _ hp=>hb.cell hp
end
structure Keep (S:Nat→Prop) (w w':World):Prop where
 os:w'.os=w.os
 tape:w'.tape=w.tape
 output:w'.output=w.output
 size:w.heap.size≤w'.heap.size
 block:∀ i,S i→w'.heap[i]?=w.heap[i]?
section
variable {S:Nat→Prop} {w w' w'':World} {B n:Nat} {A:Option Addr} {zs:List Int} {ls:List (List Int)}
theorem Keep.refl (S:Nat→Prop) (w:World):Keep S w w:=⟨rfl,rfl,rfl,Nat.le_refl _,fun _ _=>rfl⟩
theorem Keep.trans (h:Keep S w w') (h':Keep S w' w''):Keep S w w'' :=
 ⟨h'.os.trans h.os,h'.tape.trans h.tape,h'.output.trans h.output,Nat.le_trans h.size h'.size,fun i hi=>(h'.block i hi).trans (h.block i hi)⟩
theorem Keep.of_below (hS:∀ i,S i→i<B) (h:Below B w w'):Keep S w w':=⟨h.os,h.tape,h.output,h.size,fun i hi=>h.block i (hS i hi)⟩
theorem Keep.below (h:Keep S w w') (hS:∀ i,i<B→S i):Below B w w':=⟨h.os,h.tape,h.output,h.size,fun i hi=>h.block i (hS i hi)⟩
theorem Keep.grown {row:Option Nat} (hg:w.grownBy w' row) (hS:∀ i,S i→i<w.heap.size∧some i≠row):Keep S w w' :=
 ⟨hg.os,hg.tape,hg.output,hg.size,fun i hi=>hg.block i (hS i hi).1 (hS i hi).2⟩
theorem Keep.setCell {p:Addr} (hp:¬S p.block) (u:Value):Keep S w (w.setCell p u) :=
 ⟨rfl,rfl,rfl,by simp [World.setCell],fun i hi=>Below.heap_setCell _ _ _ _ (fun e=>hp (e ▸ hi))⟩
theorem Keep.alloc (hS:∀ i,S i→i<w.heap.size) (o:Obj):Keep S w (w.alloc o):=.of_below hS ((Below.refl w.heap.size w).alloc (Nat.le_refl _) o)
theorem Keep.cell (h:Keep S w w') {p:Addr} (hp:S p.block):w'.cell? p=w.cell? p:=World.cell?_of_block (h.block _ hp)
theorem Keep.mono {S':Nat→Prop} (h:Keep S w w') (hS:∀ i,S' i→S i):Keep S' w w':=⟨h.os,h.tape,h.output,h.size,fun i hi=>h.block i (hS i hi)⟩
def IntsP (w:World) (S:Nat→Prop) (A:Option Addr) (n:Nat) (zs:List Int):Prop :=
 zs.length=n∧n≤maxLen∧(∀ z∈zs,I64 z)∧(0<n→∃ ad,A=some ad∧S ad.block∧∀ j u,(zs.map (Value.int .i64))[j]?=some u→w.cell? (ad.add j)=some u)
def ClsP (w:World) (S:Nat→Prop) (A:Option Addr) (n:Nat) (ls:List (List Int)):Prop :=
 ls.length=n∧n≤maxLen∧∃ vs:List Value,vs.length=n∧(0<n→∃ ad,A=some ad∧S ad.block∧∀ j u,vs[j]?=some u→w.cell? (ad.add j)=some u) ∧
  ∀ k,k<n→∃ A' n' c',vs[k]?=some (.slice A' n' c')∧n'≤c'∧IntsP w S A' n' (ls.getD k [])
theorem IntsP.of (h:Ints w B A n zs):IntsP w (· < B) A n zs:=⟨h.1,h.2.1,h.2.2.1,h.2.2.2.2⟩
theorem IntsP.ints (h:IntsP w S A n zs) (hS:∀ i,S i→i<B):Ints w B A n zs:=by
 refine ⟨h.1,h.2.1,h.2.2.1,by rw [List.length_map,h.1];omega,fun hn=>?_⟩
 obtain ⟨ad,e,hs,hc⟩:=h.2.2.2 hn
 exact ⟨ad,e,hS _ hs,hc⟩
theorem IntsP.keep (h:IntsP w S A n zs) (hk:Keep S w w'):IntsP w' S A n zs:=by
 refine ⟨h.1,h.2.1,h.2.2.1,fun hn=>?_⟩
 obtain ⟨ad,e,hs,hc⟩:=h.2.2.2 hn
 exact ⟨ad,e,hs,fun j u hu=>(hk.cell (by rw [block_of_add];exact hs)).trans (hc j u hu)⟩
theorem IntsP.mono {S':Nat→Prop} (h:IntsP w S A n zs) (hS:∀ i,S i→S' i):IntsP w S' A n zs:=by
 refine ⟨h.1,h.2.1,h.2.2.1,fun hn=>?_⟩
 obtain ⟨ad,e,hs,hc⟩:=h.2.2.2 hn
 exact ⟨ad,e,hS _ hs,hc⟩
theorem ClsP.cls (h:ClsP w S A n ls) (hS:∀ i,S i→i<B):Cls w B A n ls:=by
 obtain ⟨h1,h2,vs,hl,hr,hv⟩:=h
 refine ⟨h1,h2,vs,⟨by omega,fun hn=>?_⟩,fun k hk=>?_⟩
 ·obtain ⟨ad,e,hs,hc⟩:=hr hn
  exact ⟨ad,e,hS _ hs,hc⟩
 ·obtain ⟨A',n',c',e,hc,hi⟩:=hv k hk
  exact ⟨A',n',c',e,hc,hi.ints hS⟩
theorem ClsP.keep (h:ClsP w S A n ls) (hk:Keep S w w'):ClsP w' S A n ls:=by
 obtain ⟨h1,h2,vs,hl,hr,hv⟩:=h
 refine ⟨h1,h2,vs,hl,fun hn=>?_,fun k hkn=>?_⟩
 ·obtain ⟨ad,e,hs,hc⟩:=hr hn
  exact ⟨ad,e,hs,fun j u hu=>(hk.cell (by rw [block_of_add];exact hs)).trans (hc j u hu)⟩
 ·obtain ⟨A',n',c',e,hc,hi⟩:=hv k hkn
  exact ⟨A',n',c',e,hc,hi.keep hk⟩
end
theorem getD_cons_drop {α:Type} (l:List α) (k:Nat) (d:α) (h:k<l.length):l.drop k=l.getD k d :: l.drop (k+1):=by
 rw [List.drop_eq_getElem_cons h,List.getD_eq_getElem?_getD,List.getElem?_eq_getElem h];rfl
theorem take_snoc {α:Type} (l:List α) (k:Nat) (d:α) (h:k<l.length):l.take (k+1)=l.take k++[l.getD k d]:=by
 rw [List.take_succ_eq_append_getElem h,List.getD_eq_getElem?_getD,List.getElem?_eq_getElem h];rfl
end Go.Proofs.YtojgbcmhdnappaaGreatDoor
namespace Go.Proofs.YtojgbcmhdnappaaGreatDoor
def badB (vars x:Int):Bool:=decide (x=0∨vars<x∨x < -vars)
theorem badB_t {v x:Int} (h:x=0∨v<x∨x < -v):badB v x=true:=by unfold badB;exact decide_eq_true h
theorem badB_f {v x:Int} (h:¬(x=0∨v<x∨x < -v)):badB v x=false:=by unfold badB;exact decide_eq_false h
def firstBad (vars:Int):List (List Int)→Nat→Int×Int
 | [],_=>(0,-1)
 | c :: cs,i=>if 48<c.length then (4,(i:Int)) else if c.any (badB vars) then (2,(i:Int)) else firstBad vars cs (i+1)
def checkF (vars:Int) (ls:List (List Int)):Int×Int :=
 if vars<0∨24<vars then (2,-1) else if 200<ls.length then (4,-1) else firstBad vars ls 0
theorem any_false_take {α:Type} (p:α→Bool) (l:List α) (k:Nat) (d:α) (hk:k<l.length) (h:(l.take k).any p=false) (hp:p (l.getD k d)=false):(l.take (k+1)).any p=false:=by
 rw [take_snoc l k d hk]
 generalize l.getD k d=x at *;simp [List.any_append,h,hp]
theorem take_all {α:Type} (l:List α) (k:Nat) (h:l.length≤k):l.take k=l:=List.take_of_length_le h
theorem firstBad_long (v:Int) (ls:List (List Int)) (k:Nat) (hk:k<ls.length) (h:48<(ls.getD k []).length):firstBad v (ls.drop k) k=(4,(k:Int)):=by
 rw [getD_cons_drop ls k [] hk,firstBad,if_pos h]
theorem firstBad_bad (v:Int) (ls:List (List Int)) (k:Nat) (hk:k<ls.length) (h:¬48<(ls.getD k []).length) (hb:(ls.getD k []).any (badB v)=true):firstBad v (ls.drop k) k=(2,(k:Int)):=by
 rw [getD_cons_drop ls k [] hk,firstBad,if_neg h,if_pos hb]
theorem firstBad_next (v:Int) (ls:List (List Int)) (k:Nat) (hk:k<ls.length) (h:¬48<(ls.getD k []).length) (hb:(ls.getD k []).any (badB v)=false):firstBad v (ls.drop k) k=firstBad v (ls.drop (k+1)) (k+1):=by
 rw [getD_cons_drop ls k [] hk,firstBad,if_neg h,if_neg (by rw [hb];simp)]
theorem checkF_range {v:Int} (ls:List (List Int)) (h:v<0∨24<v):checkF v ls=(2,-1):=by unfold checkF;rw [if_pos h]
theorem checkF_many {v:Int} {ls:List (List Int)} (h:¬(v<0∨24<v)) (hl:200<ls.length):checkF v ls=(4,-1):=by unfold checkF;rw [if_neg h,if_pos hl]
theorem checkF_else {v:Int} {ls:List (List Int)} (h:¬(v<0∨24<v)) (hl:¬200<ls.length):checkF v ls=firstBad v ls 0:=by unfold checkF;rw [if_neg h,if_neg hl]
end Go.Proofs.YtojgbcmhdnappaaGreatDoor
namespace Go.Proofs.YtojgbcmhdnappaaGreatDoor
open Go.RowKit
end Go.Proofs.YtojgbcmhdnappaaGreatDoor
namespace Go.Proofs.YtojgbcmhdnappaaGreatDoor
open Go.RowKit
def AtLeast0 (w:World) (e:Ending) (w':World):Prop:=∃ r:Int,0≤r∧e=.returned (.int .i64 r)∧w=w'
set_option maxHeartbeats 400000 in
theorem indexFunc_no (g:Nat) (lb:Array Value) (eg:∀ args w,(callFunc g args).run Tryz.prog w=.ok (.enter g args) w) (p:Int→Bool) (A:Option Addr) (n c:Nat) (zs:List Int) (w:World)
  (h:Ints w w.heap.size A n zs) (hp:∀ x,x∈zs→Calls Tryz.prog g (#[.int .i64 x]++lb) w fun e w'=>e=.returned (.bool (p x))∧w=w') (hno:zs.any p=false) :
  Calls Tryz.prog 245 #[.slice A n c,.func (.func g) #[] lb] w fun e w'=>e=.returned (.int .i64 (-1))∧w=w':=by
 have hn:=h.le
 have hlen:=Lib.hid h.len
 have HP:=hide hp
 clear hp
 have HNO:=Lib.hid hno
 clear hno
 go_enter Tryz.func245,Tryz.ntmps245
 go_wp2
 go_loop [8] (fun i=>∃ k:Nat,k≤n∧i=.int .i64 k) (fun i=>n-(intOf i).toNat)
 case atStart=>exact ⟨0,Nat.zero_le _,rfl⟩
 case round =>
  obtain ⟨k,hk,rfl⟩:=hrel
  by_cases hlt:k<n
  ·obtain ⟨ad,rfl,hb,hc⟩:=h.at_ hlt
   have hmem:zs.getD k 0∈zs:=by
    have hkl:k<zs.length:=by rw [hlen.out];exact hlt
    rw [List.getD_eq_getElem?_getD,List.getElem?_eq_getElem hkl];exact List.getElem_mem hkl
   have hpx:p (zs.getD k 0)=false:=by
    have:=List.any_eq_false.1 HNO.out _ hmem
    simpa using this
   have hcall:=HP.out _ hmem
   rw [hpx] at hcall
   clear hpx hmem
   generalize zs.getD k 0=x at hcall hc
   have HC:=hide hcall
   clear hcall
   go_wp2_with (go_at_fn g;refine ((HC.out)).mono ?_;rintro e w' ⟨rfl,rfl⟩)
   go_round
   case rel=>exact ⟨k+1,by omega,by go_num⟩
   case measure=>simp [intOf];omega
  ·go_wp2
   go_ret
   exact ⟨rfl,rfl⟩
set_option maxHeartbeats 400000 in
theorem indexFunc_yes (g:Nat) (lb:Array Value) (eg:∀ args w,(callFunc g args).run Tryz.prog w=.ok (.enter g args) w) (p:Int→Bool) (A:Option Addr) (n c:Nat) (zs:List Int) (w:World)
  (h:Ints w w.heap.size A n zs) (hp:∀ x,x∈zs→Calls Tryz.prog g (#[.int .i64 x]++lb) w fun e w'=>e=.returned (.bool (p x))∧w=w') (hyes:zs.any p=true) :
  Calls Tryz.prog 245 #[.slice A n c,.func (.func g) #[] lb] w (AtLeast0 w):=by
 have hn:=h.le
 have hlen:=Lib.hid h.len
 have HP:=hide hp
 clear hp
 have HNO:=Lib.hid hyes
 clear hyes
 go_enter Tryz.func245,Tryz.ntmps245
 go_wp2
 go_loop [5,8] (fun _ i=>∃ k:Nat,k≤n∧i=.int .i64 k∧Hid ((zs.take k).any p=false)) (fun _ i=>n-(intOf i).toNat)
 case atStart=>exact ⟨0,Nat.zero_le _,rfl,Lib.hid rfl⟩
 case round =>
  obtain ⟨k,hk,rfl,hd⟩:=hrel
  by_cases hlt:k<n
  ·obtain ⟨ad,rfl,hb,hc⟩:=h.at_ hlt
   have hkl:=Lib.hid (show k<zs.length by rw [hlen.out];exact hlt)
   have hmem:zs.getD k 0∈zs:=by
    rw [List.getD_eq_getElem?_getD,List.getElem?_eq_getElem hkl.out];exact List.getElem_mem hkl.out
   have hcall:=HP.out _ hmem
   clear hmem
   obtain ⟨x,hx⟩:∃ x,zs.getD k 0=x:=⟨_,rfl⟩
   rw [hx] at hcall hc
   have HX:=Lib.hid hx
   clear hx
   rcases hpx:p x with _ | _
   ·rw [hpx] at hcall
    have HPX:=Lib.hid hpx
    clear hpx
    have HC:=hide hcall
    clear hcall
    go_wp2_with (go_at_fn g;refine ((HC.out)).mono ?_;rintro e w' ⟨rfl,rfl⟩)
    go_round
    case rel=>exact ⟨k+1,by omega,by go_num,Lib.hid (any_false_take p zs k 0 hkl.out hd.out (by rw [HX.out];exact HPX.out))⟩
    case measure=>simp [intOf];omega
   ·rw [hpx] at hcall
    clear hpx
    have HC:=hide hcall
    clear hcall
    go_wp2_with (go_at_fn g;refine ((HC.out)).mono ?_;rintro e w' ⟨rfl,rfl⟩)
    go_ret
    exact ⟨k,by omega,rfl,rfl⟩
  ·have hfalse:zs.take k=zs:=take_all zs k (by have:=hlen.out;omega)
   rw [hfalse] at hd
   have:=hd.out
   rw [HNO.out] at this
   cases this
set_option maxHeartbeats 400000 in
theorem containsFunc_any (g:Nat) (lb:Array Value) (eg:∀ args w,(callFunc g args).run Tryz.prog w=.ok (.enter g args) w) (p:Int→Bool) (A:Option Addr) (n c:Nat) (zs:List Int) (w:World)
  (h:Ints w w.heap.size A n zs) (hp:∀ x,x∈zs→Calls Tryz.prog g (#[.int .i64 x]++lb) w fun e w'=>e=.returned (.bool (p x))∧w=w') :
  Calls Tryz.prog 201 #[.slice A n c,.func (.func g) #[] lb] w fun e w'=>e=.returned (.bool (zs.any p))∧w=w':=by
 rcases hb:zs.any p with _ | _
 ·have HC:=hide (indexFunc_no g lb eg p A n c zs w h hp hb)
  clear hp hb
  go_enter Tryz.func201,Tryz.ntmps201
  go_wp2_with (go_at_call 245;refine ((HC.out)).mono ?_;rintro e w' ⟨rfl,rfl⟩)
  go_ret
  exact ⟨rfl,rfl⟩
 ·have HC:=hide (indexFunc_yes g lb eg p A n c zs w h hp hb)
  clear hp hb
  go_enter Tryz.func201,Tryz.ntmps201
  go_wp2_with (go_at_call 245;refine ((HC.out)).mono ?_;rintro e w' ⟨r,hr,rfl,rfl⟩)
  go_ret
  exact ⟨rfl,rfl⟩
end Go.Proofs.YtojgbcmhdnappaaGreatDoor
namespace Go.Proofs.YtojgbcmhdnappaaGreatDoor
open Go.RowKit
def IsErr (w:World) (v:Value) (f:Int×Int):Prop :=
 (f=(0,-1)∧v=.nilIface)∨(f.2 = -1∧1≤f.1∧f.1≤13∧v=.iface 41 (.int .i64 f.1)) ∨
  ∃ b,b<w.heap.size∧1≤f.1∧f.1≤13∧0≤f.2∧v=.iface 183 (.pointer (some ⟨b,0,none⟩))∧Blk w b 185 #[.int .i64 f.1,.int .i64 f.2]
def GivesErr (w:World) (f:Int×Int) (e:Ending) (w':World):Prop:=∃ v,e=.returned v∧IsErr w' v f∧Below w.heap.size w w'
theorem check1_any (x vars:Int) (a:Addr) (w:World) (hc:w.cell? a=some (.int .i64 vars)) (h0:0≤vars) (h1:vars≤24) :
  Calls Tryz.prog 202 #[.int .i64 x,.pointer (some a)] w fun e w'=>e=.returned (.bool (badB vars x))∧w=w':=by
 by_cases h2:x=0
 ·subst h2
  go_enter Tryz.func202,Tryz.ntmps202
  go_wp2
  go_ret
  exact ⟨ret_bool (badB_t (by omega)).symm,rfl⟩
 ·by_cases h3:vars<x
  ·go_enter Tryz.func202,Tryz.ntmps202
   go_wp2
   go_ret
   exact ⟨ret_bool (badB_t (by omega)).symm,rfl⟩
  ·by_cases h4:x < -vars
   ·go_enter Tryz.func202,Tryz.ntmps202
    go_wp2
    go_ret
    exact ⟨ret_bool (badB_t (by omega)).symm,rfl⟩
   ·go_enter Tryz.func202,Tryz.ntmps202
    go_wp2
    go_ret
    exact ⟨ret_bool (by rw [badB_f (by omega)];simp [h2]),rfl⟩
theorem enters_check1:∀ args w,(callFunc 202 args).run Tryz.prog w=.ok (.enter 202 args) w:=enters_of Tryz.func202 (by kernel_rfl) rfl
set_option maxHeartbeats 1000000 in
theorem check_any (vars:Int) (A:Option Addr) (n c:Nat) (ls:List (List Int)) (w:World) (h:Cls w w.heap.size A n ls) :
  Calls Tryz.prog 151 #[.int .i64 vars,.slice A n c] w (GivesErr w (checkF vars ls)):=by
 have hn:=h.le
 have hlen:=Lib.hid h.len
 by_cases hr0:vars<0
 ·go_enter Tryz.func151,Tryz.ntmps151
  go_wp2
  go_ret
  exact ⟨_,rfl,.inr (.inl (by rw [checkF_range _ (.inl hr0)];exact ⟨rfl,by omega,by omega,rfl⟩)),(Below.refl _ _).alloc (Nat.le_refl _) _⟩
 by_cases hr1:24<vars
 ·go_enter Tryz.func151,Tryz.ntmps151
  go_wp2
  go_ret
  exact ⟨_,rfl,.inr (.inl (by rw [checkF_range _ (.inr hr1)];exact ⟨rfl,by omega,by omega,rfl⟩)),(Below.refl _ _).alloc (Nat.le_refl _) _⟩
 by_cases hr2:200<n
 ·go_enter Tryz.func151,Tryz.ntmps151
  go_wp2
  go_ret
  exact ⟨_,rfl,.inr (.inl (by rw [checkF_many (by omega) (by rw [hlen.out];exact hr2)];exact ⟨rfl,by omega,by omega,rfl⟩)),(Below.refl _ _).alloc (Nat.le_refl _) _⟩
 have HE:=Lib.hid (checkF_else (v:=vars) (ls:=ls) (by omega) (by rw [hlen.out];exact hr2))
 go_enter Tryz.func151,Tryz.ntmps151
 go_wp2
 go_loop [5,6,20] (fun _ _ i=>∃ k:Nat,k≤n∧i=.int .i64 k∧Hid (firstBad vars (ls.drop k) k=checkF vars ls)) (fun _ _ i=>n-(intOf i).toNat)
 case atStart=>exact ⟨0,Nat.zero_le _,rfl,Lib.hid (by rw [HE.out];rfl)⟩
 case round =>
  obtain ⟨k,hk,rfl,hd⟩:=hrel
  have hbel:=Lib.hid ((Below.refl w.heap.size w).alloc (Nat.le_refl _) (.cells #[.int .i64 vars] 3))
  by_cases hlt:k<n
  ·obtain ⟨ad,A',n',c',rfl,hb,hc,hcc,hi⟩:=h.at_ hlt
   have hkl:=Lib.hid (show k<ls.length by rw [hlen.out];exact hlt)
   have hc2:(w.alloc (.cells #[.int .i64 vars] 3)).cell? (ad.add k)=some (.slice A' n' c'):=(hbel.out.cell (by rw [block_of_add];exact hb)).trans hc
   have hi2:=(hi.below hbel.out).more (B':=(w.alloc (.cells #[.int .i64 vars] 3)).heap.size) (by simp)
   have hn':=hi.le
   have hnl:=Lib.hid hi.len
   by_cases hbig:48<n'
   ·have HF:=Lib.hid (firstBad_long vars ls k hkl.out (by rw [hnl.out];exact hbig))
    go_wp2
    go_ret
    refine ⟨_,rfl,.inr (.inr ⟨w.heap.size+1,?_⟩),(hbel.out.alloc (by simp) _)⟩
    rw [←hd.out,HF.out]
    exact ⟨by simp,by omega,by omega,by simp,rfl,by have:=Blk.new (w.alloc (.cells #[.int .i64 vars] 3)) 185 #[.int .i64 4,.int .i64 k];simpa using this⟩
   ·have hcell:(w.alloc (.cells #[.int .i64 vars] 3)).cell? ⟨w.heap.size,0,none⟩=some (.int .i64 vars):=by simp
    have HC:=hide (containsFunc_any 202 #[.pointer (some ⟨w.heap.size,0,none⟩)] enters_check1 (badB vars) A' n' c' (ls.getD k []) (w.alloc (.cells #[.int .i64 vars] 3)) hi2 (fun x _=>check1_any x vars _ _ hcell (by omega) (by omega)))
    clear hcell
    rcases hany:(ls.getD k []).any (badB vars) with _ | _
    ·rw [hany] at HC
     have HF:=Lib.hid (firstBad_next vars ls k hkl.out (by rw [hnl.out];exact hbig) hany)
     clear hany
     go_wp2_with (go_at_call 201;refine (HC.out).mono ?_;rintro e w' ⟨rfl,rfl⟩)
     go_round
     case rel=>exact ⟨k+1,by omega,by go_num,Lib.hid (by rw [←HF.out];exact hd.out)⟩
     case measure=>simp [intOf];omega
    ·rw [hany] at HC
     have HF:=Lib.hid (firstBad_bad vars ls k hkl.out (by rw [hnl.out];exact hbig) hany)
     clear hany
     go_wp2_with (go_at_call 201;refine (HC.out).mono ?_;rintro e w' ⟨rfl,rfl⟩)
     go_ret
     refine ⟨_,rfl,.inr (.inr ⟨w.heap.size+1,?_⟩),(hbel.out.alloc (by simp) _)⟩
     rw [←hd.out,HF.out]
     exact ⟨by simp,by omega,by omega,by simp,rfl,by have:=Blk.new (w.alloc (.cells #[.int .i64 vars] 3)) 185 #[.int .i64 2,.int .i64 k];simpa using this⟩
  ·go_wp2
   go_ret
   refine ⟨_,rfl,.inl ⟨?_,rfl⟩,hbel.out⟩
   rw [←hd.out,List.drop_eq_nil_of_le (by have:=hlen.out;omega)]
   rfl
end Go.Proofs.YtojgbcmhdnappaaGreatDoor
namespace Go.Proofs.YtojgbcmhdnappaaGreatDoor
open Go.RowKit
theorem lt_of_cell {w:World} {a:Addr} {v:Value} (h:w.cell? a=some v):a.block<w.heap.size:=by
 rcases Nat.lt_or_ge a.block w.heap.size with hl | hl
 ·exact hl
 ·simp [World.cell?,Array.getElem?_eq_none hl] at h
structure GlobE (w:World):Prop where
 e0:w.cell? ⟨3,0,none⟩=some (.iface 351 (.agg #[.pointer (some ⟨12,37,none⟩)]))
theorem GlobE.below {w w':World} (h:GlobE w) (hb:Below w.heap.size w w'):GlobE w':=⟨(hb.cell (lt_of_cell h.e0)).trans h.e0⟩
def faultV (f:Int×Int):Value:=.agg #[.int .i64 f.1,.int .i64 f.2]
theorem bare_any (c:Int) (w:World):Calls Tryz.prog 35 #[.int .i64 c] w fun e w'=>e=.returned (.agg #[.int .i64 c,.int .i64 (-1)])∧w.alloc (.cells #[.int .i64 c,.int .i64 (-1)] 80)=w':=by
 go_enter Tryz.func35,Tryz.ntmps35
 go_wp2
 exact bodyPost_ret (v:=.agg #[.int .i64 c,.int .i64 (-1)]) (by simp [results,Tryz.results35,go_sem]) rfl ⟨rfl,rfl⟩
end Go.Proofs.YtojgbcmhdnappaaGreatDoor
