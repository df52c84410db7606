/-
  A part of the proof: OwnD, RefSolM. Conditions: none.
-/
import Derived.Test.YtojgbcmhdnappaaGreatDoorAlSolveM
import Derived.Test.YtojgbcmhdnappaaGreatDoorAlRefSpread
namespace Go.Proofs.YtojgbcmhdnappaaGreatDoor
open Go.RowKit
theorem intsInfo:(Tryz.prog.info? 31).map (fun i=>(i.zero,i.size,i.bytes))=some (some (.slice none 0 0),1,24):=by kernel_rfl
def OwnD (w:World) (base:Nat) (S:Nat→Prop) (v:Value) (ls:List (List Int)):Prop :=
 ls.length≤maxLen∧∃ vs,w.ownsRow base 31 1 v ls.length vs∧CellsP w S vs ls
section
variable {w w':World} {base n:Nat} {S S':Nat→Prop} {v:Value} {vs us:List Value} {ls ms:List (List Int)} {A:Option Addr}
theorem OwnD.form (h:OwnD w base S v ls):∃ A c,v=.slice A ls.length c∧ls.length≤c:=by
 obtain ⟨_,vs,h,_⟩:=h
 rcases h.2 with ⟨rfl,h0⟩ | ⟨g,cap,cur,rfl,_,_,hc,_⟩
 ·exact ⟨none,0,by rw [h0],by omega⟩
 ·exact ⟨_,_,rfl,hc⟩
theorem OwnD.lt (h:OwnD w base S v ls):∀ k,v.ownBlock=some k→base≤k∧k<w.heap.size:=by
 obtain ⟨_,vs,h,_⟩:=h
 exact h.lt
theorem OwnD.kept {row:Option Nat} (h:OwnD w base S v ls) (hg:w.grownBy w' row) (hne:v.ownBlock=none∨v.ownBlock≠row) (hS:∀ i,S i→i<w.heap.size∧some i≠row):OwnD w' base S v ls:=by
 obtain ⟨h1,vs,h2,h3⟩:=h
 exact ⟨h1,vs,h2.kept hg hne,h3.keep (.grown hg hS)⟩
theorem OwnD.below (h:OwnD w base S v ls) (hb:Below w.heap.size w w') (hS:∀ i,S i→i<w.heap.size):OwnD w' base S v ls :=
 h.kept (row:=none) ⟨hb.os,hb.tape,hb.output,hb.size,fun i hi _=>hb.block i hi⟩ (by cases v.ownBlock <;> simp) (fun i hi=>⟨hS i hi,by simp⟩)
theorem OwnD.mono (h:OwnD w base S v ls) (hS:∀ i,S i→S' i):OwnD w base S' v ls:=by
 obtain ⟨h1,vs,h2,h3⟩:=h
 exact ⟨h1,vs,h2,h3.mono hS⟩
theorem ownD_nil (w:World) (base:Nat) (S:Nat→Prop):OwnD w base S (.slice none 0 0) []:=⟨Nat.zero_le _,[],World.ownsRow_nil _ _ _ _,.nil _ _⟩
end
theorem appD1H (w:World) {ops:Array Oper} {rest:List Oper} {o:Oper} {a:Act} {Q:Exit→Act→World→Prop} (hgd:o.guard=none) (s x:Operand) (t:TypeId)
  (ho:o.op=.call { callee:=.builtin .append,args:=#[s,x],argTypes:=#[t,t] }) (base:Nat) (S:Nat→Prop) (ht:Tryz.prog.underlying t=some (.slice 31))
  (v:Value) (ls:List (List Int)) (hs:a.eval s=v) (hown:OwnD w base S v ls) (g c:Nat) (hx:a.eval x=.slice (some ⟨g,0,none⟩) 1 c) (A':Option Addr) (n' c':Nat) (zs:List Int) (hc:w.cell? ⟨g,0,none⟩=some (.slice A' n' c')) (hnc:n'≤c') (hz:IntsP w S A' n' zs)
  (hl:ls.length≤1099511627) (hbase:base≤w.heap.size) (hS:∀ i,S i→i<w.heap.size∧v.ownBlock≠some i)
  (h:∀ v' w',OwnD w' base S v' (ls++[zs])→w.grownBy w' v.ownBlock→(v'.ownBlock=v.ownBlock∨v'.ownBlock=some w.heap.size)→Held (wpList Tryz.prog ops Q rest (a.put o.dst v') w')):wpList Tryz.prog ops Q (o :: rest) a w:=by
 obtain ⟨i0,hi,hz0,hz1,hz2⟩:=info_parts intsInfo
 obtain ⟨h1,vs,h2,h3⟩:=hown
 refine wpList_append_any w hgd s x t ho base 31 i0 (.slice none 0 0) 1 24 ht hi hz0 hz1 hz2 rfl (by decide) v ls.length _ hs h2 (g+1) _ 1 c [.slice A' n' c'] hx (one_newsC w _ g hc) (CellsP.one hnc hz).oneCell (by simp only [maxLen];omega) (by omega) hbase ?_
 intro v' w' ho' hg' hor
 have hk:Keep S w w':=.grown hg' fun i hi=>⟨(hS i hi).1,fun e=>(hS i hi).2 e.symm⟩
 refine (h v' w' ⟨by rw [List.length_append,List.length_singleton];simp only [maxLen];omega,vs++[.slice A' n' c'],?_,(h3.append (.one hnc hz)).keep hk⟩ hg' hor).go
 rw [List.length_append,List.length_singleton]
 exact ho'
theorem OwnD.cut {w:World} {base n c:Nat} {S:Nat→Prop} {A:Option Addr} {ls:List (List Int)} (h:OwnD w base S (.slice A n c) ls) {m:Nat} (hm:m≤n):OwnD w base S (.slice A m c) (ls.take m):=by
 have hn:n=ls.length:=by
  obtain ⟨A',c',e,_⟩:=h.form
  cases e
  rfl
 subst hn
 obtain ⟨h1,vs,h2,h3⟩:=h
 have hl:(ls.take m).length=m:=by rw [List.length_take,Nat.min_eq_left hm]
 refine ⟨by rw [hl];exact Nat.le_trans hm h1,vs.take m,?_,by rw [hl,List.length_take,h3.1,Nat.min_eq_left hm],fun k hk=>?_⟩
 ·rw [hl]
  have:=ownsRow_cut h2 hm
  rw [Nat.mul_one] at this
  exact this
 ·rw [hl] at hk
  obtain ⟨A',n',c',e,hc,hi⟩:=h3.2 k (Nat.lt_of_lt_of_le hk hm)
  refine ⟨A',n',c',by rw [List.getElem?_take_of_lt hk];exact e,hc,?_⟩
  rw [List.getD_eq_getElem?_getD,List.getElem?_take_of_lt hk,←List.getD_eq_getElem?_getD]
  exact hi
end Go.Proofs.YtojgbcmhdnappaaGreatDoor
namespace Go.Proofs.YtojgbcmhdnappaaGreatDoor
open Go.RowKit
structure RefM (w0:World) (T:Nat→Prop) (vl vd vm vp:Value) (At:Option Addr) (nt ct:Nat) (al ds:List (List Int)) (ms:List Int) (pf:List (List Int)) (tr:List Int) (w:World):Prop where
 l:OwnC w w0.heap.size T vl al
 d:OwnD w w0.heap.size T vd ds
 m:Own w w0.heap.size vm ms
 p:OwnC w w0.heap.size T vp pf
 t:IntsP w T At nt tr
 tc:nt≤ct
 pl:∀ k,vp.ownBlock=some k→vl.ownBlock≠some k
 TS:∀ i,T i→i<w.heap.size∧vl.ownBlock≠some i∧vd.ownBlock≠some i∧vm.ownBlock≠some i∧vp.ownBlock≠some i
 bel:Below w0.heap.size w0 w
section
variable {w0 w w':World} {T:Nat→Prop} {vl vd vm vp:Value} {At:Option Addr} {nt ct:Nat} {al ds pf:List (List Int)} {ms tr:List Int}
theorem RefM.below (h:RefM w0 T vl vd vm vp At nt ct al ds ms pf tr w) (hb:Below w.heap.size w w'):RefM w0 T vl vd vm vp At nt ct al ds ms pf tr w':=by
 have hT:∀ i,T i→i<w.heap.size:=fun i hi=>(h.TS i hi).1
 exact ⟨h.l.below hb hT,h.d.below hb hT,h.m.below hb,h.p.below hb hT,h.t.keep (.of_below hT hb),h.tc,h.pl,fun i hi=>⟨Nat.lt_of_lt_of_le (hT i hi) hb.size,(h.TS i hi).2⟩,h.bel.trans (hb.mono h.bel.size)⟩
theorem RefM.drewN (h:RefM w0 T vl vd vm vp At nt ct al ds ms pf tr w) (q:Nat):RefM w0 T vl vd vm vp At nt ct al ds ms pf tr (w.drewN q) :=
 ⟨h.l,h.d,h.m,h.p,h.t,h.tc,h.pl,h.TS,below_drewN h.bel q⟩
theorem RefM.grow (h:RefM w0 T vl vd vm vp At nt ct al ds ms pf tr w) (hb:Below w.heap.size w w') :
  RefM w0 (fun i=>T i∨(w.heap.size≤i∧i<w'.heap.size)) vl vd vm vp At nt ct al ds ms pf tr w':=by
 have h':=h.below hb
 refine ⟨h'.l.mono fun i hi=>.inl hi,h'.d.mono fun i hi=>.inl hi,h'.m,h'.p.mono fun i hi=>.inl hi,h'.t.mono fun i hi=>.inl hi,h.tc,h.pl,fun i hi=>?_,h'.bel⟩
 rcases hi with hi | hi
 ·exact h'.TS i hi
 ·exact ⟨hi.2,fun e=>by have:=h.l.lt i e;omega,fun e=>by have:=h.d.lt i e;omega,fun e=>by have:=h.m.lt i e;omega,fun e=>by have:=h.p.lt i e;omega⟩
theorem RefM.tell (h:RefM w0 T vl vd vm vp At nt ct al ds ms pf tr w) {At':Option Addr} {nt' ct':Nat} {tr':List Int} (ht:IntsP w T At' nt' tr') (hc:nt'≤ct'):RefM w0 T vl vd vm vp At' nt' ct' al ds ms pf tr' w :=
 ⟨h.l,h.d,h.m,h.p,ht,hc,h.pl,h.TS,h.bel⟩
theorem OwnD.keepRow {base:Nat} {v:Value} {ls:List (List Int)} {row:Option Nat} (ho:OwnD w base T v ls) (hg:w.grownBy w' row) (hk:Keep T w w') (hne:∀ k,v.ownBlock=some k→row≠some k):OwnD w' base T v ls:=by
 obtain ⟨h1,vs,h2,h3⟩:=ho
 refine ⟨h1,vs,h2.kept hg ?_,h3.keep hk⟩
 cases hv:v.ownBlock with
 | none=>exact .inl rfl
 | some k=>exact .inr fun e=>hne k hv e.symm
theorem OwnC.keepRow {base:Nat} {v:Value} {ls:List (List Int)} {row:Option Nat} (ho:OwnC w base T v ls) (hg:w.grownBy w' row) (hk:Keep T w w') (hne:∀ k,v.ownBlock=some k→row≠some k):OwnC w' base T v ls:=by
 obtain ⟨h1,vs,h2,h3⟩:=ho
 refine ⟨h1,vs,h2.kept hg ?_,h3.keep hk⟩
 cases hv:v.ownBlock with
 | none=>exact .inl rfl
 | some k=>exact .inr fun e=>hne k hv e.symm
theorem ap_of {v u:Value} (h:v.ownBlock=none∨v.ownBlock≠u.ownBlock):∀ k,v.ownBlock=some k→u.ownBlock≠some k:=by
 intro k hk e
 rcases h with h0 | h0
 ·rw [hk] at h0;cases h0
 ·exact h0 (hk.trans e.symm)
theorem ap_cd {b b':Nat} {T':Nat→Prop} {u v:Value} {xs ys:List (List Int)} (h:OwnC w b T v xs) (h':OwnD w b' T' u ys):∀ k,v.ownBlock=some k→u.ownBlock≠some k:=by
 obtain ⟨_,vs,h2,_⟩:=h
 obtain ⟨_,us,h3,_⟩:=h'
 exact ap_of (own_ne_rows h2 h3 (by decide))
theorem ap_cm {b b':Nat} {u v:Value} {xs:List (List Int)} {ys:List Int} (h:OwnC w b T v xs) (h':Own w b' u ys):∀ k,v.ownBlock=some k→u.ownBlock≠some k:=by
 obtain ⟨_,vs,h2,_⟩:=h
 exact ap_of (own_ne_rows h2 h'.1 (by decide))
theorem ap_dm {b b':Nat} {u v:Value} {xs:List (List Int)} {ys:List Int} (h:OwnD w b T v xs) (h':Own w b' u ys):∀ k,v.ownBlock=some k→u.ownBlock≠some k:=by
 obtain ⟨_,vs,h2,_⟩:=h
 exact ap_of (own_ne_rows h2 h'.1 (by decide))
theorem ap_sym {v u:Value} (h:∀ k,v.ownBlock=some k→u.ownBlock≠some k):∀ k,u.ownBlock=some k→v.ownBlock≠some k:=fun k e e2=>h k e2 e
theorem RefM.kT (h:RefM w0 T vl vd vm vp At nt ct al ds ms pf tr w) {row:Option Nat} (hg:w.grownBy w' row) (hT:∀ i,T i→row≠some i):Keep T w w' :=
 .grown hg fun i hi=>⟨(h.TS i hi).1,fun e=>hT i hi e.symm⟩
theorem RefM.bR (h:RefM w0 T vl vd vm vp At nt ct al ds ms pf tr w) {row:Option Nat} (hg:w.grownBy w' row) (hr:∀ k,row=some k→w0.heap.size≤k):Below w0.heap.size w0 w' :=
 h.bel.trans ⟨hg.os,hg.tape,hg.output,hg.size,fun i hi=>hg.block i (Nat.lt_of_lt_of_le hi h.bel.size) fun e=>by have:=hr i e.symm;omega⟩
theorem newV {v v':Value} {n:Nat} (hT:∀ i,T i→i<n) (hv:∀ i,T i→v.ownBlock≠some i) (hor:v'.ownBlock=v.ownBlock∨v'.ownBlock=some n):∀ i,T i→v'.ownBlock≠some i:=by
 intro i hi
 rcases hor with e | e
 ·rw [e];exact hv i hi
 ·rw [e];intro e2;have:=hT i hi;cases e2;omega
theorem RefM.putL (h:RefM w0 T vl vd vm vp At nt ct al ds ms pf tr w) {vl':Value} {al':List (List Int)} (ho:OwnC w' w0.heap.size T vl' al') (hg:w.grownBy w' vl.ownBlock) (hor:vl'.ownBlock=vl.ownBlock∨vl'.ownBlock=some w.heap.size) :
  RefM w0 T vl' vd vm vp At nt ct al' ds ms pf tr w':=by
 have hT:∀ i,T i→vl.ownBlock≠some i:=fun i hi=>(h.TS i hi).2.1
 have hk:=h.kT hg hT
 refine ⟨ho,h.d.keepRow hg hk (ap_sym (ap_cd h.l h.d)),own_row h.m hg (ap_sym (ap_cm h.l h.m)),h.p.keepRow hg hk h.pl,h.t.keep hk,h.tc,fun k e=>?_,fun i hi=>?_,h.bR hg fun k e=>(h.l.lt k e).1⟩
 ·exact ne_new (v:=vl) (u:=vp) (fun e=>(h.p.lt k e).2) (fun e=>h.pl k e) hor e
 ·obtain ⟨p0,p1,p2,p3,p4⟩:=h.TS i hi
  exact ⟨Nat.lt_of_lt_of_le p0 hg.size,newV (fun i hi=>(h.TS i hi).1) hT hor i hi,p2,p3,p4⟩
theorem RefM.putP (h:RefM w0 T vl vd vm vp At nt ct al ds ms pf tr w) {vp':Value} {pf':List (List Int)} (ho:OwnC w' w0.heap.size T vp' pf') (hg:w.grownBy w' vp.ownBlock) (hor:vp'.ownBlock=vp.ownBlock∨vp'.ownBlock=some w.heap.size) :
  RefM w0 T vl vd vm vp' At nt ct al ds ms pf' tr w':=by
 have hT:∀ i,T i→vp.ownBlock≠some i:=fun i hi=>(h.TS i hi).2.2.2.2
 have hk:=h.kT hg hT
 refine ⟨h.l.keepRow hg hk (ap_sym h.pl),h.d.keepRow hg hk (ap_sym (ap_cd h.p h.d)),own_row h.m hg (ap_sym (ap_cm h.p h.m)),ho,h.t.keep hk,h.tc,fun k e e2=>?_,fun i hi=>?_,h.bR hg fun k e=>(h.p.lt k e).1⟩
 ·exact ne_new (v:=vp) (u:=vl) (fun e=>(h.l.lt k e).2) (fun e e3=>h.pl k e3 e) hor e2 e
 ·obtain ⟨p0,p1,p2,p3,p4⟩:=h.TS i hi
  exact ⟨Nat.lt_of_lt_of_le p0 hg.size,p1,p2,p3,newV (fun i hi=>(h.TS i hi).1) hT hor i hi⟩
theorem RefM.putD (h:RefM w0 T vl vd vm vp At nt ct al ds ms pf tr w) {vd':Value} {ds':List (List Int)} (ho:OwnD w' w0.heap.size T vd' ds') (hg:w.grownBy w' vd.ownBlock) (hor:vd'.ownBlock=vd.ownBlock∨vd'.ownBlock=some w.heap.size) :
  RefM w0 T vl vd' vm vp At nt ct al ds' ms pf tr w':=by
 have hT:∀ i,T i→vd.ownBlock≠some i:=fun i hi=>(h.TS i hi).2.2.1
 have hk:=h.kT hg hT
 refine ⟨h.l.keepRow hg hk (ap_cd h.l h.d),ho,own_row h.m hg (ap_sym (ap_dm h.d h.m)),h.p.keepRow hg hk (ap_cd h.p h.d),h.t.keep hk,h.tc,h.pl,fun i hi=>?_,h.bR hg fun k e=>(h.d.lt k e).1⟩
 obtain ⟨p0,p1,p2,p3,p4⟩:=h.TS i hi
 exact ⟨Nat.lt_of_lt_of_le p0 hg.size,p1,newV (fun i hi=>(h.TS i hi).1) hT hor i hi,p3,p4⟩
theorem RefM.putM (h:RefM w0 T vl vd vm vp At nt ct al ds ms pf tr w) {vm':Value} {ms':List Int} (ho:Own w' w0.heap.size vm' ms') (hg:w.grownBy w' vm.ownBlock) (hor:vm'.ownBlock=vm.ownBlock∨vm'.ownBlock=some w.heap.size) :
  RefM w0 T vl vd vm' vp At nt ct al ds ms' pf tr w':=by
 have hT:∀ i,T i→vm.ownBlock≠some i:=fun i hi=>(h.TS i hi).2.2.2.1
 have hk:=h.kT hg hT
 refine ⟨h.l.keepRow hg hk (ap_cm h.l h.m),h.d.keepRow hg hk (ap_dm h.d h.m),ho,h.p.keepRow hg hk (ap_cm h.p h.m),h.t.keep hk,h.tc,h.pl,fun i hi=>?_,h.bR hg fun k e=>(h.m.lt k e).1⟩
 obtain ⟨p0,p1,p2,p3,p4⟩:=h.TS i hi
 exact ⟨Nat.lt_of_lt_of_le p0 hg.size,p1,p2,newV (fun i hi=>(h.TS i hi).1) hT hor i hi,p4⟩
theorem own_sub {A:Option Addr} {n m c:Nat}:(Value.slice A m c).ownBlock=(Value.slice A n c).ownBlock:=by cases A <;> rfl
theorem RefM.cutD {A:Option Addr} {n c:Nat} (h:RefM w0 T vl (.slice A n c) vm vp At nt ct al ds ms pf tr w) {k:Nat} (hk:k≤n):RefM w0 T vl (.slice A k c) vm vp At nt ct al (ds.take k) ms pf tr w :=
 ⟨h.l,h.d.cut hk,h.m,h.p,h.t,h.tc,h.pl,by rw [own_sub (n:=n)];exact h.TS,h.bel⟩
theorem RefM.cutM {A:Option Addr} {n c:Nat} (h:RefM w0 T vl vd (.slice A n c) vp At nt ct al ds ms pf tr w) {k:Nat} (hk:k≤n):RefM w0 T vl vd (.slice A k c) vp At nt ct al ds (ms.take k) pf tr w :=
 ⟨h.l,h.d,h.m.cut hk,h.p,h.t,h.tc,h.pl,by rw [own_sub (n:=n)];exact h.TS,h.bel⟩
theorem RefM.dT (h:RefM w0 T vl vd vm vp At nt ct al ds ms pf tr w) (hn:0<nt) (ad:Addr) (e:At=some ad):T ad.block:=by
 obtain ⟨ad',e',hT,_⟩:=h.t.2.2.2 hn
 rw [e] at e'
 cases e'
 exact hT
theorem RefM.lT (h:RefM w0 T vl vd vm vp At nt ct al ds ms pf tr w):∀ i,T i→i<w.heap.size:=fun i hi=>(h.TS i hi).1
theorem OwnD.at_ {base k:Nat} {v:Value} {ls:List (List Int)} (h:OwnD w base T v ls) (hk:k<ls.length):∃ ad c A' n' c',v=.slice (some ad) ls.length c∧ls.length≤c∧w.cell? (ad.add k)=some (.slice A' n' c')∧n'≤c'∧IntsP w T A' n' (ls.getD k []):=by
 obtain ⟨A,c,rfl,hc⟩:=h.form
 obtain ⟨_,vs,h2,h3⟩:=h
 obtain ⟨A',n',c',e,hcc,hi⟩:=h3.2 k hk
 obtain ⟨ad,e2,_,hcell⟩:=(Reads.of_own h2).2 (by omega)
 exact ⟨ad,c,A',n',c',by rw [e2],hc,hcell k _ e,hcc,hi⟩
theorem ints_lt {B:Nat} {A:Option Addr} {n:Nat} {zs:List Int} (h:Ints w B A n zs) (hn:0<n) {ad:Addr} (e:A=some ad):ad.block<B:=by
 obtain ⟨ad',e',hb,_⟩:=h.2.2.2.2 hn
 rw [e] at e'
 cases e'
 exact hb
end
theorem appSH (w:World) {ops:Array Oper} {rest:List Oper} {o:Oper} {a:Act} {Q:Exit→Act→World→Prop} (hgd:o.guard=none) (s x:Operand) (t:TypeId)
  (ho:o.op=.call { callee:=.builtin .append,args:=#[s,x],argTypes:=#[t,t] }) (base:Nat) (ht:Tryz.prog.underlying t=some (.slice 3))
  (v:Value) (zs:List Int) (hs:a.eval s=v) (hown:Own w base v zs) (A:Option Addr) (m c:Nat) (ys:List Int) (hx:a.eval x=.slice A m c) (hr:Ints w w.heap.size A m ys)
  (hl:zs.length+ys.length≤1099511627776) (hbase:base≤w.heap.size)
  (h:∀ v' w',Own w' base v' (zs++ys)→w.grownBy w' v.ownBlock→(v'.ownBlock=v.ownBlock∨v'.ownBlock=some w.heap.size)→Held (wpList Tryz.prog ops Q rest (a.put o.dst v') w')):wpList Tryz.prog ops Q (o :: rest) a w :=
 appS w hgd s x t ho base ht v zs hs hown A m c ys hx hr hl hbase fun v' w' h1 h2 h3=>(h v' w' h1 h2 h3).go
end Go.Proofs.YtojgbcmhdnappaaGreatDoor
