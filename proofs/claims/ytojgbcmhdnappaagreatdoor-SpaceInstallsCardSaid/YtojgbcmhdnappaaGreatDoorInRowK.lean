/-
  A part of the proof: Fr, RefCheck, RowK. Conditions: none.
-/
import Derived.Below
import Derived.Laws.OwnMore
import Derived.Deep.AppendLies
import Derived.Deep.Draws
import Derived.Laws.Rows
import Derived.Maps.AppendAt
import Derived.RegionTactic
import Derived.OwnWalk
import Derived.Deep.OwnRows
import Derived.Laws.AppendOwn
import Derived.ChangeSame
import Derived.WalkKit
import Derived.Test.YtojgbcmhdnappaaGreatDoorProg
import Derived.WalkSpells
import Derived.WalkLawsBesides
import Derived.BigQuiet
import Derived.Lib.Hide
import Derived.Shelf.Abstract
namespace Go.Proofs.YtojgbcmhdnappaaGreatDoor
open Go.RowKit Go.WideShapes Go.ChangeShapes
theorem block_of_add (a:Addr) (n:Nat):(a.add n).block=a.block:=by unfold Addr.add;split <;> rfl
def Reads (w:World) (B size:Nat) (A:Option Addr) (n:Nat) (xs:List Value):Prop :=
 xs.length=n*size∧(0<n→∃ ad,A=some ad∧ad.block<B∧∀ j u,xs[j]?=some u→w.cell? (ad.add j)=some u)
section
variable {w w':World} {B B' size n:Nat} {A:Option Addr} {xs:List Value}
theorem Reads.at_ {k:Nat} (h:Reads w B 1 A n xs) (hk:k<n):∃ ad u,A=some ad∧ad.block<B∧xs[k]?=some u∧w.cell? (ad.add k)=some u:=by
 obtain ⟨ad,e,hb,hc⟩:=h.2 (by omega)
 have hl:k<xs.length:=by have:=h.1;omega
 exact ⟨ad,xs[k],e,hb,List.getElem?_eq_getElem hl,hc k _ (List.getElem?_eq_getElem hl)⟩
theorem Reads.keep (h:Reads w B size A n xs) (hk:∀ p:Addr,p.block<B→w'.cell? p=w.cell? p):Reads w' B size A n xs :=
 ⟨h.1,fun hn=>by
  obtain ⟨ad,e,hb,hc⟩:=h.2 hn
  exact ⟨ad,e,hb,fun j u hu=>(hk _ (by rw [block_of_add];exact hb)).trans (hc j u hu)⟩⟩
theorem Reads.more (h:Reads w B size A n xs) (hB:B≤B'):Reads w B' size A n xs :=
 ⟨h.1,fun hn=>by
  obtain ⟨ad,e,hb,hc⟩:=h.2 hn
  exact ⟨ad,e,by omega,hc⟩⟩
theorem Reads.below (h:Reads w B size A n xs) (hb:Below B w w'):Reads w' B size A n xs:=h.keep fun _ hp=>hb.cell hp
theorem Reads.of_own {base:Nat} {e:TypeId} {c:Nat} (h:w.ownsRow base e size (.slice A n c) n xs):Reads w w.heap.size size A n xs:=by
 refine ⟨h.1,fun hn=>?_⟩
 obtain ⟨g,cap,hv,_,hlt⟩:=h.form hn
 have hA:A=some ⟨g,0,none⟩:=by injection hv
 subst hA
 exact ⟨_,rfl,hlt,h.cells (g:=g) rfl⟩
end
def Blk (w:World) (g:Nat) (t:TypeId) (cs:Array Value):Prop:=w.heap[g]?=some (.cells cs t (0,0))
section
variable {w w':World} {g:Nat} {t:TypeId} {cs:Array Value}
theorem Blk.lt (h:Blk w g t cs):g<w.heap.size:=by
 rcases Nat.lt_or_ge g w.heap.size with hlt | hge
 ·exact hlt
 ·unfold Blk at h;rw [Array.getElem?_eq_none hge] at h;cases h
theorem Blk.cell (h:Blk w g t cs) (i:Nat):w.cell? ⟨g,i,none⟩=cs[i]?:=cell_of_row w g i cs t (0,0) h
theorem Blk.frozen (h:Blk w g t cs) (i:Nat):w.frozen? ⟨g,i,none⟩=false:=by
 unfold Blk at h
 simp [World.frozen?,h]
theorem Blk.new (w:World) (t:TypeId) (cs:Array Value):Blk (w.alloc (.cells cs t)) w.heap.size t cs:=heap_alloc_new w _
theorem Blk.drew (h:Blk w g t cs):Blk w.drew g t cs:=h
theorem Blk.drewN (h:Blk w g t cs) (n:Nat):Blk (w.drewN n) g t cs:=h
theorem Blk.alloc (h:Blk w g t cs) (o:Obj):Blk (w.alloc o) g t cs:=(Below.heap_alloc w o g h.lt).trans h
theorem Blk.set_ (h:Blk w g t cs) (i:Nat) (u:Value):Blk (w.setCell ⟨g,i,none⟩ u) g t (cs.setIfInBounds i u):=by
 unfold Blk at h ⊢
 simp [World.setCell,Array.getElem?_modify,h]
theorem Blk.far (h:Blk w g t cs) {p:Addr} (hp:g≠p.block) (u:Value):Blk (w.setCell p u) g t cs:=(Below.heap_setCell w p u g hp).trans h
theorem Blk.below {B:Nat} (h:Blk w g t cs) (hb:Below B w w') (hg:g<B):Blk w' g t cs:=(hb.block g hg).trans h
theorem Blk.grown {row:Option Nat} (h:Blk w g t cs) (hb:w.grownBy w' row) (hg:some g≠row):Blk w' g t cs:=(hb.block g h.lt hg).trans h
theorem Blk.ne_ {g':Nat} {t':TypeId} {cs':Array Value} (h:Blk w g t cs) (h':Blk w g' t' cs') (hne:t≠t'):g≠g':=by
 rintro rfl
 unfold Blk at h h'
 rw [h] at h'
 injection h' with h'
 injection h' with _ ht
 exact hne ht
theorem own_blk_ne {base:Nat} {e:TypeId} {size n:Nat} {v:Value} {xs:List Value} (h:w.ownsRow base e size v n xs) (hg:Blk w g t cs) (hne:e≠t):v.ownBlock≠some g:=by
 rcases h.2 with ⟨rfl,_⟩ | ⟨g',cap,cur,rfl,_,hh,_⟩
 ·simp [Value.ownBlock]
 ·intro he
  have:g'=g:=by simpa [Value.ownBlock] using he
  subst this
  exact Blk.ne_ (t:=e) hh hg hne rfl
end
section
variable {P:Program} (w:World)
theorem run_append_of_nil (base:Nat) (t ty e:TypeId) (i:TypeInfo) (size:Nat) (ht:P.underlying t=some (.slice e)) (hi:P.info? e=some i)
  (v:Value) (n:Nat) (xs:List Value) (hown:w.ownsRow base e size v n xs) (c:Nat):(Builtin.append_ #[t,t] ty #[v,.slice none 0 c]).run P w=.ok v w:=by
 rcases hown.2 with ⟨rfl,rfl⟩ | ⟨g,cap,cur,rfl,_,_,hnc,_⟩
 ·simp [Builtin.append_,run_underlying ht,sizeOf,typeInfo,hi,Builtin.lenOf,Builtin.firstCells]
 ·simp [Builtin.append_,run_underlying ht,sizeOf,typeInfo,hi,Builtin.lenOf,Builtin.firstCells,hnc,storeCells]
theorem run_append_any (base:Nat) (t ty e:TypeId) (i:TypeInfo) (z:Value) (size bytes:Nat) (ht:P.underlying t=some (.slice e)) (hi:P.info? e=some i) (hz:i.zero=some z)
  (hsize:i.size=size) (hby:i.bytes=bytes) (hzs:z.cells.size=size) (hsz:0<size)
  (v:Value) (n:Nat) (xs:List Value) (hown:w.ownsRow base e size v n xs)
  (B:Nat) (A:Option Addr) (m c:Nat) (news:List Value) (hr:Reads w B size A m news) (h1:∀ u∈news,u.oneCell'=true)
  (h63:n+m≤maxLen) (hbytes:(n+m)*bytes≤140737488355328) (hbase:base≤w.heap.size) :
  ∃ v' w',(Builtin.append_ #[t,t] ty #[v,.slice A m c]).run P w=.ok v' w'∧w'.ownsRow base e size v' (n+m) (xs++news)∧w.grownBy w' v.ownBlock ∧
   (v'.ownBlock=v.ownBlock∨v'.ownBlock=some w.heap.size):=by
 rcases A with _ | ad
 ·have hm:m=0:=by
   rcases Nat.eq_zero_or_pos m with h0 | h0
   ·exact h0
   ·obtain ⟨ad,h,_⟩:=hr.2 h0
    cases h
  subst hm
  have hn:news=[]:=List.eq_nil_of_length_eq_zero (by simpa using hr.1)
  subst hn
  exact ⟨v,w,run_append_of_nil w base t ty e i size ht hi v n xs hown c,by simpa using hown,World.grownBy.refl w _,.inl rfl⟩
 ·have hcells:∀ j u,news[j]?=some u→w.cell? (ad.add j)=some u:=by
   intro j u hu
   rcases Nat.eq_zero_or_pos m with h0 | h0
   ·subst h0
    have hn:news=[]:=List.eq_nil_of_length_eq_zero (by simpa using hr.1)
    subst hn
    simp at hu
   ·obtain ⟨ad',h,_,hc⟩:=hr.2 h0
    injection h with h
    subst h
    exact hc j u hu
  obtain ⟨v',w',hrun,h2,h3,_,h5⟩:=run_append_own_at (P:=P) w base t ty e i z size bytes ht hi hz hsize hby hzs hsz v n xs hown ad m c news hr.1 hcells h1 h63 hbytes hbase
  exact ⟨v',w',hrun,h2,h3,h5⟩
theorem wp_append_any {o:Oper} {a:Act} {K:Act→World→Prop} {Q:Exit→Act→World→Prop} (s x:Operand) (t:TypeId)
  (ho:o.op=.call { callee:=.builtin .append,args:=#[s,x],argTypes:=#[t,t] })
  (base:Nat) (e:TypeId) (i:TypeInfo) (z:Value) (size bytes:Nat) (ht:P.underlying t=some (.slice e)) (hi:P.info? e=some i) (hz:i.zero=some z)
  (hsize:i.size=size) (hby:i.bytes=bytes) (hzs:z.cells.size=size) (hsz:0<size)
  (v:Value) (n:Nat) (xs:List Value) (hs:a.eval s=v) (hown:w.ownsRow base e size v n xs)
  (B:Nat) (A:Option Addr) (m c:Nat) (news:List Value) (hx:a.eval x=.slice A m c) (hr:Reads w B size A m news) (h1:∀ u∈news,u.oneCell'=true)
  (h63:n+m≤maxLen) (hbytes:(n+m)*bytes≤140737488355328) (hbase:base≤w.heap.size)
  (h:∀ v' w',w'.ownsRow base e size v' (n+m) (xs++news)→w.grownBy w' v.ownBlock→(v'.ownBlock=v.ownBlock∨v'.ownBlock=some w.heap.size)→K (a.put o.dst v') w'):o.wp P a w K Q:=by
 obtain ⟨v',w',hrun,h2,h3,h4⟩:=run_append_any (P:=P) w base t o.type e i z size bytes ht hi hz hsize hby hzs hsz v n xs hown B A m c news hr h1 h63 hbytes hbase
 unfold Oper.wp execOp
 simp only [ho,resolve,invoke,builtin,Sem.run_bind,Sem.run_pure,Result.andThen_ok,List.map_toArray,List.map_cons,List.map_nil,hs,hx,hrun]
 exact h v' w' h2 h3 h4
theorem wpList_append_any {ops:Array Oper} {rest:List Oper} {o:Oper} {a:Act} {Q:Exit→Act→World→Prop} (hgd:o.guard=none) (s x:Operand) (t:TypeId)
  (ho:o.op=.call { callee:=.builtin .append,args:=#[s,x],argTypes:=#[t,t] })
  (base:Nat) (e:TypeId) (i:TypeInfo) (z:Value) (size bytes:Nat) (ht:P.underlying t=some (.slice e)) (hi:P.info? e=some i) (hz:i.zero=some z)
  (hsize:i.size=size) (hby:i.bytes=bytes) (hzs:z.cells.size=size) (hsz:0<size)
  (v:Value) (n:Nat) (xs:List Value) (hs:a.eval s=v) (hown:w.ownsRow base e size v n xs)
  (B:Nat) (A:Option Addr) (m c:Nat) (news:List Value) (hx:a.eval x=.slice A m c) (hr:Reads w B size A m news) (h1:∀ u∈news,u.oneCell'=true)
  (h63:n+m≤maxLen) (hbytes:(n+m)*bytes≤140737488355328) (hbase:base≤w.heap.size)
  (h:∀ v' w',w'.ownsRow base e size v' (n+m) (xs++news)→w.grownBy w' v.ownBlock→(v'.ownBlock=v.ownBlock∨v'.ownBlock=some w.heap.size)→wpList P ops Q rest (a.put o.dst v') w'):wpList P ops Q (o :: rest) a w :=
 wpList_plain hgd fun _ hK=>wp_append_any w s x t ho base e i z size bytes ht hi hz hsize hby hzs hsz v n xs hs hown B A m c news hx hr h1 h63 hbytes hbase fun v' w' h2 h3 h4=>hK _ _ (h v' w' h2 h3 h4)
theorem step_append_any {ops:Array Oper} {o:Oper} {a:Act} {K:Act→World→Prop} {Q:Exit→Act→World→Prop} {E:Prop} (hgd:o.guard=none) (s x:Operand) (t:TypeId)
  (ho:o.op=.call { callee:=.builtin .append,args:=#[s,x],argTypes:=#[t,t] })
  (base:Nat) (e:TypeId) (i:TypeInfo) (z:Value) (size bytes:Nat) (ht:P.underlying t=some (.slice e)) (hi:P.info? e=some i) (hz:i.zero=some z)
  (hsize:i.size=size) (hby:i.bytes=bytes) (hzs:z.cells.size=size) (hsz:0<size)
  (v:Value) (n:Nat) (xs:List Value) (hs:a.eval s=v) (hown:w.ownsRow base e size v n xs)
  (B:Nat) (A:Option Addr) (m c:Nat) (news:List Value) (hx:a.eval x=.slice A m c) (hr:Reads w B size A m news) (h1:∀ u∈news,u.oneCell'=true)
  (h63:n+m≤maxLen) (hbytes:(n+m)*bytes≤140737488355328) (hbase:base≤w.heap.size)
  (h:∀ v' w',w'.ownsRow base e size v' (n+m) (xs++news)→w.grownBy w' v.ownBlock→(v'.ownBlock=v.ownBlock∨v'.ownBlock=some w.heap.size)→K (a.put o.dst v') w') :
  if Region.wanted o (yielded ops a.tmps)=true then Oper.wp P o a w K Q else E:=by
 have hw:Region.wanted o (yielded ops a.tmps)=true:=by simp [Region.wanted,hgd]
 rw [if_pos hw]
 exact wp_append_any w s x t ho base e i z size bytes ht hi hz hsize hby hzs hsz v n xs hs hown B A m c news hx hr h1 h63 hbytes hbase h
end
theorem below_drewN {B:Nat} {a w:World} (h:Below B a w) (n:Nat):Below B a (w.drewN n):=⟨h.os,h.tape,h.output,h.size,h.block⟩
theorem only_drew {a w:World} {row:Option Nat} (h:a.grownBy w row):a.grownBy w.drew row:=⟨h.os,h.tape,h.output,h.size,h.block⟩
theorem only_setCell {a w:World} {g:Nat} (h:a.grownBy w (some g)) {p:Addr} (hp:p.block=g∨a.heap.size≤p.block) (u:Value):a.grownBy (w.setCell p u) (some g) :=
 ⟨h.os,h.tape,h.output,by simpa [World.setCell] using h.size,fun i hi hne=>(Below.heap_setCell w p u i (by
  rintro rfl
  rcases hp with hp | hp
  ·exact hne (by rw [hp])
  ·omega)).trans (h.block i hi hne)⟩
theorem only_of_below {a w:World} (h:Below a.heap.size a w) (row:Option Nat):a.grownBy w row:=⟨h.os,h.tape,h.output,h.size,fun i hi _=>h.block i hi⟩
section
variable {H:Type} {enc:TypeId×Value→H} {P:Program}
end
end Go.Proofs.YtojgbcmhdnappaaGreatDoor
namespace Go.Proofs.YtojgbcmhdnappaaGreatDoor
open Go.RowKit
structure Fr (S:Nat→Prop) (w w':World):Prop where
 os:w'.os=w.os
 tape:w'.tape=w.tape
 output:w'.output=w.output
 size:w.heap.size≤w'.heap.size
 block:∀ k,k<w.heap.size→¬S k→w'.heap[k]?=w.heap[k]?
section
variable {S S':Nat→Prop} {w w' w'':World}
theorem Fr.refl (S:Nat→Prop) (w:World):Fr S w w:=⟨rfl,rfl,rfl,Nat.le_refl _,fun _ _ _=>rfl⟩
theorem Fr.trans (h:Fr S w w') (k:Fr S w' w''):Fr S w w'' :=
 ⟨k.os.trans h.os,k.tape.trans h.tape,k.output.trans h.output,Nat.le_trans h.size k.size,fun i hi hn=>(k.block i (Nat.lt_of_lt_of_le hi h.size) hn).trans (h.block i hi hn)⟩
theorem Fr.mono (h:Fr S w w') (hs:∀ k,k<w.heap.size→S k→S' k):Fr S' w w':=⟨h.os,h.tape,h.output,h.size,fun i hi hn=>h.block i hi (fun hk=>hn (hs i hi hk))⟩
theorem Fr.of_below {B:Nat} (h:Below B w w') (hB:w.heap.size≤B):Fr S w w':=⟨h.os,h.tape,h.output,h.size,fun i hi _=>h.block i (Nat.lt_of_lt_of_le hi hB)⟩
theorem Fr.to_below {B:Nat} (h:Fr S w w') (hB:B≤w.heap.size) (hs:∀ k,k<B→¬S k):Below B w w':=⟨h.os,h.tape,h.output,h.size,fun i hi=>h.block i (Nat.lt_of_lt_of_le hi hB) (hs i hi)⟩
theorem Fr.alloc (h:Fr S w w') (o:Obj):Fr S w (w'.alloc o):=h.trans (.of_below ((Below.refl w'.heap.size w').alloc (Nat.le_refl _) o) (Nat.le_refl _))
theorem Fr.drew (h:Fr S w w'):Fr S w w'.drew:=h.trans (.of_below (Below.refl w'.heap.size w').drew (Nat.le_refl _))
theorem Fr.set_ (h:Fr S w w') {p:Addr} (hp:S p.block) (u:Value):Fr S w (w'.setCell p u) :=
 ⟨h.os,h.tape,h.output,by rw [show (w'.setCell p u).heap.size=w'.heap.size by simp [World.setCell]];exact h.size,fun i hi hn=>(Below.heap_setCell w' p u i (fun e=>hn (by rw [e];exact hp))).trans (h.block i hi hn)⟩
theorem Fr.grown {r:Option Nat} (h:Fr S w w') (hg:w'.grownBy w'' r) (hr:∀ k,r=some k→S k):Fr S w w'' :=
 h.trans ⟨hg.os,hg.tape,hg.output,hg.size,fun i hi hn=>hg.block i hi (fun e=>hn (hr i e.symm))⟩
theorem Fr.cell (h:Fr S w w') {p:Addr} (hp:p.block<w.heap.size) (hn:¬S p.block):w'.cell? p=w.cell? p:=World.cell?_of_block (h.block p.block hp hn)
theorem Blk.fr {g:Nat} {t:TypeId} {cs:Array Value} (h:Blk w g t cs) (hf:Fr S w w') (hn:¬S g):Blk w' g t cs:=(hf.block g h.lt hn).trans h
theorem Fr.and_ (h:Fr S w w') (k:Fr S' w' w'') (hs:∀ i,i<w.heap.size→S' i→S i):Fr S w w'' :=
 ⟨k.os.trans h.os,k.tape.trans h.tape,k.output.trans h.output,Nat.le_trans h.size k.size,fun i hi hn=>(k.block i (Nat.lt_of_lt_of_le hi h.size) (fun hk=>hn (hs i hi hk))).trans (h.block i hi hn)⟩
end
end Go.Proofs.YtojgbcmhdnappaaGreatDoor
namespace Go.Proofs.YtojgbcmhdnappaaGreatDoor
open Go.RowKit Go.WideShapes Go.ChangeShapes
theorem ret_bool {a b:Bool} (h:a=b):Ending.returned (.bool a)=.returned (.bool b):=by rw [h]
theorem hide {p:Prop} (h:p):Hid p:=h
def I64 (z:Int):Prop := -9223372036854775808≤z∧z≤9223372036854775807
def Ints (w:World) (B:Nat) (A:Option Addr) (n:Nat) (zs:List Int):Prop :=
 zs.length=n∧n≤maxLen∧(∀ z∈zs,I64 z)∧Reads w B 1 A n (zs.map (Value.int .i64))
def Cls (w:World) (B:Nat) (A:Option Addr) (n:Nat) (ls:List (List Int)):Prop :=
 ls.length=n∧n≤maxLen∧∃ vs:List Value,Reads w B 1 A n vs∧∀ k,k<n→∃ A' n' c',vs[k]?=some (.slice A' n' c')∧n'≤c'∧Ints w B A' n' (ls.getD k [])
section
variable {w w':World} {B B' n:Nat} {A:Option Addr} {zs:List Int} {ls:List (List Int)}
theorem Ints.len (h:Ints w B A n zs):zs.length=n:=h.1
theorem Ints.le (h:Ints w B A n zs):n≤9223372036854775807:=by have:=h.2.1;unfold maxLen at this;exact this
theorem Ints.at_ {k:Nat} (h:Ints w B A n zs) (hk:k<n):∃ ad,A=some ad∧ad.block<B∧w.cell? (ad.add k)=some (.int .i64 (zs.getD k 0)):=by
 obtain ⟨ad,u,rfl,hb,hu,hc⟩:=h.2.2.2.at_ hk
 have hl:k<zs.length:=by rw [h.1];exact hk
 rw [List.getElem?_map,List.getElem?_eq_getElem hl] at hu
 simp only [Option.map_some,Option.some.injEq] at hu
 subst hu
 exact ⟨ad,rfl,hb,by rw [hc,List.getD_eq_getElem?_getD,List.getElem?_eq_getElem hl];rfl⟩
theorem Ints.keep (h:Ints w B A n zs) (hk:∀ p:Addr,p.block<B→w'.cell? p=w.cell? p):Ints w' B A n zs:=⟨h.1,h.2.1,h.2.2.1,h.2.2.2.keep hk⟩
theorem Ints.more (h:Ints w B A n zs) (hB:B≤B'):Ints w B' A n zs:=⟨h.1,h.2.1,h.2.2.1,h.2.2.2.more hB⟩
theorem Ints.below (h:Ints w B A n zs) (hb:Below B w w'):Ints w' B A n zs:=h.keep fun _ hp=>hb.cell hp
theorem Cls.len (h:Cls w B A n ls):ls.length=n:=h.1
theorem Cls.le (h:Cls w B A n ls):n≤9223372036854775807:=by have:=h.2.1;unfold maxLen at this;exact this
theorem Cls.at_ {k:Nat} (h:Cls w B A n ls) (hk:k<n):∃ ad A' n' c',A=some ad∧ad.block<B∧w.cell? (ad.add k)=some (.slice A' n' c')∧n'≤c'∧Ints w B A' n' (ls.getD k []):=by
 obtain ⟨_,_,vs,hr,hv⟩:=h
 obtain ⟨ad,u,rfl,hb,hu,hc⟩:=hr.at_ hk
 obtain ⟨A',n',c',hu',hcc,hi⟩:=hv k hk
 rw [hu] at hu'
 cases hu'
 exact ⟨ad,A',n',c',rfl,hb,hc,hcc,hi⟩
theorem Cls.keep (h:Cls w B A n ls) (hk:∀ p:Addr,p.block<B→w'.cell? p=w.cell? p):Cls w' B A n ls:=by
 obtain ⟨h1,h2,vs,hr,hv⟩:=h
 refine ⟨h1,h2,vs,hr.keep hk,fun k hkn=>?_⟩
 obtain ⟨A',n',c',hu',hcc,hi⟩:=hv k hkn
 exact ⟨A',n',c',hu',hcc,hi.keep hk⟩
theorem Cls.more (h:Cls w B A n ls) (hB:B≤B'):Cls w B' A n ls:=by
 obtain ⟨h1,h2,vs,hr,hv⟩:=h
 refine ⟨h1,h2,vs,hr.more hB,fun k hkn=>?_⟩
 obtain ⟨A',n',c',hu',hcc,hi⟩:=hv k hkn
 exact ⟨A',n',c',hu',hcc,hi.more hB⟩
theorem Cls.below (h:Cls w B A n ls) (hb:Below B w w'):Cls w' B A n ls:=h.keep fun _ hp=>hb.cell hp
end
section
variable {S:Nat→Prop} {w w' w'':World} {B n:Nat} {A:Option Addr} {zs:List Int} {ls:List (List Int)}
end
theorem take_snoc {α:Type} (l:List α) (k:Nat) (d:α) (h:k<l.length):l.take (k+1)=l.take k++[l.getD k d]:=by
 rw [List.take_succ_eq_append_getElem h,List.getD_eq_getElem?_getD,List.getElem?_eq_getElem h];rfl
end Go.Proofs.YtojgbcmhdnappaaGreatDoor
namespace Go.Proofs.YtojgbcmhdnappaaGreatDoor
def badB (vars x:Int):Bool:=decide (x=0∨vars<x∨x < -vars)
def rightB (zs:List Int):Bool:=zs.all (fun x=>!badB 24 x)&&decide (zs.length≤60)
theorem all_of_take {α:Type} (p:α→Bool) (l:List α) (k:Nat) (d:α) (hk:k<l.length) (h:(l.take k).all p=true) (hp:p (l.getD k d)=true):(l.take (k+1)).all p=true:=by
 rw [take_snoc l k d hk]
 generalize l.getD k d=x at *;simp [List.all_append,h,hp]
theorem all_false_at {α:Type} (p:α→Bool) (l:List α) (k:Nat) (d:α) (hk:k<l.length) (hp:p (l.getD k d)=false):l.all p=false:=by
 rw [List.all_eq_false]
 refine ⟨l.getD k d,?_,by rw [hp];simp⟩
 rw [List.getD_eq_getElem?_getD,List.getElem?_eq_getElem hk];exact List.getElem_mem hk
theorem any_true_at {α:Type} (p:α→Bool) (l:List α) (k:Nat) (d:α) (hk:k<l.length) (hp:p (l.getD k d)=true):l.any p=true:=by
 rw [List.any_eq_true]
 refine ⟨l.getD k d,?_,hp⟩
 rw [List.getD_eq_getElem?_getD,List.getElem?_eq_getElem hk];exact List.getElem_mem hk
theorem any_false_take {α:Type} (p:α→Bool) (l:List α) (k:Nat) (d:α) (hk:k<l.length) (h:(l.take k).any p=false) (hp:p (l.getD k d)=false):(l.take (k+1)).any p=false:=by
 rw [take_snoc l k d hk]
 generalize l.getD k d=x at *;simp [List.any_append,h,hp]
theorem take_all {α:Type} (l:List α) (k:Nat) (h:l.length≤k):l.take k=l:=List.take_of_length_le h
end Go.Proofs.YtojgbcmhdnappaaGreatDoor
namespace Go.Proofs.YtojgbcmhdnappaaGreatDoor
open Go.RowKit
end Go.Proofs.YtojgbcmhdnappaaGreatDoor
namespace Go.Proofs.YtojgbcmhdnappaaGreatDoor
open Go.RowKit
end Go.Proofs.YtojgbcmhdnappaaGreatDoor
namespace Go.Proofs.YtojgbcmhdnappaaGreatDoor
open Go.RowKit
def IsErr (w:World) (v:Value) (f:Int×Int):Prop :=
 (f=(0,-1)∧v=.nilIface)∨(f.2 = -1∧1≤f.1∧f.1≤13∧v=.iface 41 (.int .i64 f.1)) ∨
  ∃ b,b<w.heap.size∧1≤f.1∧f.1≤13∧0≤f.2∧v=.iface 183 (.pointer (some ⟨b,0,none⟩))∧Blk w b 185 #[.int .i64 f.1,.int .i64 f.2]
end Go.Proofs.YtojgbcmhdnappaaGreatDoor
namespace Go.Proofs.YtojgbcmhdnappaaGreatDoor
open Go.RowKit
theorem lt_of_cell {w:World} {a:Addr} {v:Value} (h:w.cell? a=some v):a.block<w.heap.size:=by
 rcases Nat.lt_or_ge a.block w.heap.size with hl | hl
 ·exact hl
 ·simp [World.cell?,Array.getElem?_eq_none hl] at h
structure GlobE (w:World):Prop where
 e0:w.cell? ⟨3,0,none⟩=some (.iface 351 (.agg #[.pointer (some ⟨12,37,none⟩)]))
theorem GlobE.below {w w':World} (h:GlobE w) (hb:Below w.heap.size w w'):GlobE w':=⟨(hb.cell (lt_of_cell h.e0)).trans h.e0⟩
theorem bare_any (c:Int) (w:World):Calls Tryz.prog 35 #[.int .i64 c] w fun e w'=>e=.returned (.agg #[.int .i64 c,.int .i64 (-1)])∧w.alloc (.cells #[.int .i64 c,.int .i64 (-1)] 80)=w':=by
 go_enter Tryz.func35,Tryz.ntmps35
 go_wp2
 exact bodyPost_ret (v:=.agg #[.int .i64 c,.int .i64 (-1)]) (by simp [results,Tryz.results35,go_sem]) rfl ⟨rfl,rfl⟩
end Go.Proofs.YtojgbcmhdnappaaGreatDoor
namespace Go.Proofs.YtojgbcmhdnappaaGreatDoor
open Go.RowKit
structure ElK (α:Type) where
 t:TypeId
 K:Nat
 f:α→List Value
 pos:0<K
 len:∀ a,(f a).length=K
 one:∀ a,∀ u∈f a,u.oneCell'=true
section
variable {α:Type} (E:ElK α)
def ElK.row (l:List α):List Value:=l.flatMap E.f
theorem ElK.row_nil:E.row []=[]:=rfl
theorem ElK.row_cons (a:α) (l:List α):E.row (a :: l)=E.f a++E.row l:=rfl
theorem ElK.row_app (a b:List α):E.row (a++b)=E.row a++E.row b:=by unfold ElK.row;rw [List.flatMap_append]
theorem ElK.row_one (a:α):E.row [a]=E.f a:=by simp [ElK.row]
theorem ElK.row_len:∀ l:List α,(E.row l).length=l.length*E.K
 | []=>by simp [ElK.row]
 | a :: l=>by rw [E.row_cons,List.length_append,ElK.row_len l,E.len,List.length_cons,Nat.succ_mul,Nat.add_comm]
theorem ElK.row_at:∀ (l:List α) (k j:Nat) (h:k<l.length),j<E.K→(E.row l)[k*E.K+j]?=(E.f l[k])[j]?
 | [],k,_,h,_=>absurd h (Nat.not_lt_zero k)
 | a :: l,0,j,_,hj=>by
  rw [E.row_cons,List.getElem?_append_left (by rw [E.len];omega),Nat.zero_mul,Nat.zero_add]
  rfl
 | a :: l,k+1,j,h,hj=>by
  have e:(k+1)*E.K+j=E.K+(k*E.K+j):=by rw [Nat.succ_mul];omega
  rw [E.row_cons,e,List.getElem?_append_right (by rw [E.len];omega),E.len,Nat.add_sub_cancel_left,ElK.row_at l k j (by simpa using h) hj]
  rfl
theorem ElK.row_oneCell (l:List α):∀ u∈E.row l,u.oneCell'=true:=by
 intro u hu
 obtain ⟨a,_,h⟩:=List.mem_flatMap.1 hu
 exact E.one a u h
theorem ElK.row_drop:∀ (l:List α) (k:Nat),(E.row l).drop (k*E.K)=E.row (l.drop k)
 | l,0=>by simp
 | [],k+1=>by simp [ElK.row]
 | a :: l,k+1=>by
  have e:(k+1)*E.K=E.K+k*E.K:=by rw [Nat.succ_mul];omega
  rw [E.row_cons,e,List.drop_succ_cons,←ElK.row_drop l k,←List.drop_drop,List.drop_append_of_le_length (by rw [E.len];exact Nat.le_refl _),show (E.f a).drop E.K=[] from List.drop_eq_nil_of_le (by rw [E.len];exact Nat.le_refl _),List.nil_append]
def OwnK (w:World) (base:Nat) (v:Value) (l:List α):Prop:=w.ownsRow base E.t E.K v l.length (E.row l)
structure RowK (w:World) (g:Nat) (l:List α):Prop where
 is:∃ cur,Blk w g E.t cur∧l.length*E.K≤cur.size∧∀ k (h:k<l.length) j,j<E.K→cur[k*E.K+j]?=(E.f l[k])[j]?
end
section
variable {α:Type} {E:ElK α} {w w':World} {base base' g:Nat} {v:Value} {l:List α}
theorem OwnK.below (h:OwnK E w base v l) (hb:Below w.heap.size w w'):OwnK E w' base v l :=
 World.ownsRow.kept h (row:=none) ⟨hb.os,hb.tape,hb.output,hb.size,fun i hi _=>hb.block i hi⟩ (by cases v.ownBlock <;> simp)
theorem OwnK.kept {r:Option Nat} (h:OwnK E w base v l) (hg:w.grownBy w' r) (hr:v.ownBlock=none∨v.ownBlock≠r):OwnK E w' base v l:=World.ownsRow.kept h hg hr
theorem OwnK.mono (h:OwnK E w base v l) (hb:base'≤base):OwnK E w base' v l:=by
 refine ⟨h.1,?_⟩
 rcases h.2 with h2 | ⟨g,cap,cur,e,hg,r⟩
 ·exact .inl h2
 ·exact .inr ⟨g,cap,cur,e,Nat.le_trans hb hg,r⟩
theorem ownK_nil (E:ElK α) (w:World) (base:Nat):OwnK E w base (.slice none 0 0) []:=World.ownsRow_nil _ _ _ _
theorem OwnK.lt (h:OwnK E w base v l):∀ k,v.ownBlock=some k→base≤k∧k<w.heap.size:=World.ownsRow.lt h
theorem OwnK.len (h:OwnK E w base v l):∃ A c,v=.slice A l.length c∧l.length≤c:=by
 rcases h.2 with ⟨rfl,h0⟩ | ⟨g,cap,cur,rfl,_,_,hc,_⟩
 ·exact ⟨none,0,by rw [h0],by omega⟩
 ·exact ⟨_,_,rfl,hc⟩
theorem OwnK.fr {S:Nat→Prop} (h:OwnK E w base v l) (hf:Fr S w w') (hs:∀ k,v.ownBlock=some k→¬S k):OwnK E w' base v l:=by
 refine ⟨h.1,?_⟩
 rcases h.2 with h2 | ⟨g,cap,cur,rfl,hg,hgc,r⟩
 ·exact .inl h2
 ·have hk:Blk w g E.t cur:=hgc
  exact .inr ⟨g,cap,cur,rfl,hg,hk.fr hf (hs g rfl),r⟩
theorem OwnK.ne_blk {g:Nat} {t:TypeId} {cs:Array Value} (h:OwnK E w base v l) (hg:Blk w g t cs) (hne:E.t≠t):v.ownBlock≠some g:=own_blk_ne h hg hne
theorem OwnK.form (h:OwnK E w base v l):(v=.slice none 0 0∧l=[])∨∃ g cap,v=.slice (some ⟨g,0,none⟩) l.length cap∧base≤g∧l.length≤cap∧cap≤maxLen∧RowK E w g l:=by
 rcases h.2 with ⟨rfl,h0⟩ | ⟨g,cap,cur,rfl,hg,hgc,hle,hcm,hcs,hct⟩
 ·exact .inl ⟨rfl,List.length_eq_zero_iff.1 h0⟩
 ·refine .inr ⟨g,cap,rfl,hg,hle,hcm,cur,hgc,by rw [hcs];exact Nat.mul_le_mul_right _ hle,fun k hk j hj=>?_⟩
  have h1:k*E.K+j<l.length*E.K:=by
   have:(k+1)*E.K≤l.length*E.K:=Nat.mul_le_mul_right _ hk
   rw [Nat.succ_mul] at this
   omega
  rw [←E.row_at l k j hk hj,←hct,List.getElem?_take_of_lt h1]
  simp
theorem RowK.lt (h:RowK E w g l):g<w.heap.size:=by obtain ⟨cur,hk,_⟩:=h.is;exact hk.lt
theorem RowK.cell (h:RowK E w g l) {k j:Nat} (hk:k<l.length) (hj:j<E.K):w.cell? ⟨g,k*E.K+j,none⟩=(E.f l[k])[j]?:=by
 obtain ⟨cur,hb,_,hc⟩:=h.is
 exact (hb.cell _).trans (hc k hk j hj)
theorem RowK.frozen (h:RowK E w g l) (i:Nat):w.frozen? ⟨g,i,none⟩=false:=by obtain ⟨cur,hk,_⟩:=h.is;exact hk.frozen i
theorem one_readsK (E:ElK α) {w:World} {g:Nat} {a:α} (h:Blk w g E.t (E.f a).toArray):Reads w (g+1) E.K (some ⟨g,0,none⟩) 1 (E.row [a]):=by
 refine ⟨E.row_len _,fun _=>⟨_,rfl,Nat.lt_succ_self _,fun j x hx=>?_⟩⟩
 have e:(⟨g,0,none⟩:Addr).add j=⟨g,j,none⟩:=by
  unfold Addr.add
  split
  ·rename_i h0;rw [h0]
  ·simp
 rw [e,h.cell j]
 rw [E.row_one] at hx
 simpa using hx
theorem OwnK.reads {n c:Nat} {A:Option Addr} (h:OwnK E w base (.slice A n c) l):n=l.length∧Reads w w.heap.size E.K A l.length (E.row l):=by
 obtain ⟨A',c',e,_⟩:=h.len
 injection e with e1 e2 e3
 subst e1 e2 e3
 exact ⟨rfl,Reads.of_own h⟩
end
theorem appK {α:Type} (E:ElK α) (w:World) {ops:Array Oper} {rest:List Oper} {o:Oper} {a:Act} {Q:Exit→Act→World→Prop} {z:Value} {bytes:Nat} (hin:(Tryz.prog.info? E.t).map (fun i=>(i.zero,i.size,i.bytes))=some (some z,E.K,bytes)) (hz:z.cells.size=E.K) (hby:bytes≤1000) (hgd:o.guard=none) (s x:Operand) (t:TypeId)
  (ho:o.op=.call { callee:=.builtin .append,args:=#[s,x],argTypes:=#[t,t] }) (base:Nat) (ht:Tryz.prog.underlying t=some (.slice E.t))
  (v:Value) (l:List α) (hs:a.eval s=v) (hown:OwnK E w base v l) (A:Option Addr) (B c n:Nat) (m:List α) (hn:n=m.length) (hx:a.eval x=.slice A n c) (hr:Reads w B E.K A n (E.row m))
  (hl:l.length+m.length≤100000000) (hbase:base≤w.heap.size)
  (h:∀ v' w',OwnK E w' base v' (l++m)→w.grownBy w' v.ownBlock→(v'.ownBlock=v.ownBlock∨v'.ownBlock=some w.heap.size)→wpList Tryz.prog ops Q rest (a.put o.dst v') w'):wpList Tryz.prog ops Q (o :: rest) a w:=by
 obtain ⟨i0,hi,hz0,hz1,hz2⟩:=info_parts hin
 subst hn
 have hb2:(l.length+m.length)*bytes≤100000000*1000:=Nat.mul_le_mul hl hby
 refine wpList_append_any w hgd s x t ho base E.t i0 z E.K bytes ht hi hz0 hz1 hz2 hz E.pos v l.length _ hs hown B A m.length c (E.row m) hx hr (E.row_oneCell m) (by simp only [maxLen];omega) (by omega) hbase ?_
 intro v' w' ho' hg' hor
 refine h v' w' ?_ hg' hor
 unfold OwnK
 rw [List.length_append,E.row_app]
 exact ho'
theorem appK1 {α:Type} (E:ElK α) (w:World) {ops:Array Oper} {rest:List Oper} {o:Oper} {a:Act} {Q:Exit→Act→World→Prop} {z:Value} {bytes:Nat} (hin:(Tryz.prog.info? E.t).map (fun i=>(i.zero,i.size,i.bytes))=some (some z,E.K,bytes)) (hz:z.cells.size=E.K) (hby:bytes≤1000) (hgd:o.guard=none) (s x:Operand) (t:TypeId)
  (ho:o.op=.call { callee:=.builtin .append,args:=#[s,x],argTypes:=#[t,t] }) (base:Nat) (ht:Tryz.prog.underlying t=some (.slice E.t))
  (v:Value) (l:List α) (hs:a.eval s=v) (hown:OwnK E w base v l) (b c:Nat) (q:α) (hx:a.eval x=.slice (some ⟨b,0,none⟩) 1 c) (hk:Blk w b E.t (E.f q).toArray)
  (hl:l.length≤90000000) (hbase:base≤w.heap.size)
  (h:∀ v' w',OwnK E w' base v' (l++[q])→w.grownBy w' v.ownBlock→(v'.ownBlock=v.ownBlock∨v'.ownBlock=some w.heap.size)→wpList Tryz.prog ops Q rest (a.put o.dst v') w'):wpList Tryz.prog ops Q (o :: rest) a w :=
 appK E w hin hz hby hgd s x t ho base ht v l hs hown (some ⟨b,0,none⟩) (b+1) c 1 [q] rfl hx (one_readsK E hk) (by simp;omega) hbase h
end Go.Proofs.YtojgbcmhdnappaaGreatDoor
