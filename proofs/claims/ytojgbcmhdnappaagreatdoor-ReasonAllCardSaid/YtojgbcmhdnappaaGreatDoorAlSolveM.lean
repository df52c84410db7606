/-
  A part of the proof: SolveM. Conditions: none.
-/
import Derived.Test.YtojgbcmhdnappaaGreatDoorAlSolveA
namespace Go.Proofs.YtojgbcmhdnappaaGreatDoor
open Go.RowKit
section
variable {w w':World} {base:Nat} {S T:Nat→Prop} {v:Value} {zs:List Int} {ls:List (List Int)}
theorem ownsRow_keep {e:TypeId} {size n:Nat} {xs:List Value} (h:w.ownsRow base e size v n xs) (hk:Keep S w w') (hS:∀ k,v.ownBlock=some k→S k):w'.ownsRow base e size v n xs:=by
 refine ⟨h.1,?_⟩
 rcases h.2 with h0 | ⟨g,cap,cur,hv,hg,hh,r⟩
 ·exact .inl h0
 ·exact .inr ⟨g,cap,cur,hv,hg,(hk.block g (hS g (by rw [hv];rfl))).trans hh,r⟩
theorem Own.keepS (h:Own w base v zs) (hk:Keep S w w') (hS:∀ k,v.ownBlock=some k→S k):Own w' base v zs:=⟨ownsRow_keep h.1 hk hS,h.2⟩
theorem OwnC.keepS (h:OwnC w base T v ls) (hk:Keep S w w') (hS:∀ k,v.ownBlock=some k→S k) (hT:∀ i,T i→S i):OwnC w' base T v ls:=by
 obtain ⟨h1,vs,h2,h3⟩:=h
 exact ⟨h1,vs,ownsRow_keep h2 hk hS,h3.keep (hk.mono hT)⟩
theorem St.mono {b:Nat} {tr:List Int} {S':Nat→Prop} (h:St w S b base v tr) (hS:∀ i,S' i→i<w.heap.size∧i≠b∧v.ownBlock≠some i):St w S' b base v tr:=⟨h.cons,h.blk,h.own,hS,h.base⟩
theorem St.below {b:Nat} {tr:List Int} (h:St w S b base v tr) (hb:Below w.heap.size w w'):St w' S b base v tr :=
 ⟨h.cons,h.blk.below hb h.blk.lt,h.own.below hb,fun i hi=>⟨Nat.lt_of_lt_of_le (h.prot i hi).1 hb.size,(h.prot i hi).2⟩,Nat.le_trans h.base hb.size⟩
end
structure SolM (w0:World) (B0:Nat) (S T:Nat→Prop) (b:Nat) (vt vd vp vl:Value) (tr ds:List Int) (pf al:List (List Int)) (w:World):Prop where
 st:St w S b w0.heap.size vt tr
 d:Own w w0.heap.size vd ds
 p:OwnC w w0.heap.size T vp pf
 l:OwnC w w0.heap.size T vl al
 dS:∀ k,vd.ownBlock=some k→S k
 pS:∀ k,vp.ownBlock=some k→S k
 lS:∀ k,vl.ownBlock=some k→S k
 pl:∀ k,vp.ownBlock=some k→vl.ownBlock≠some k
 TS:∀ i,T i→S i∧vd.ownBlock≠some i∧vp.ownBlock≠some i∧vl.ownBlock≠some i
 lo:∀ i,T i→i<B0∨w0.heap.size≤i
 old:∀ i,i<w0.heap.size→S i
 bel:Below w0.heap.size w0 w
section
variable {w0 w w':World} {B0:Nat} {S T:Nat→Prop} {b:Nat} {vt vd vp vl:Value} {tr ds:List Int} {pf al:List (List Int)}
theorem SolM.lt (h:SolM w0 B0 S T b vt vd vp vl tr ds pf al w) {i:Nat} (hi:S i):i<w.heap.size:=(h.st.prot i hi).1
theorem SolM.below (h:SolM w0 B0 S T b vt vd vp vl tr ds pf al w) (hb:Below w.heap.size w w'):SolM w0 B0 S T b vt vd vp vl tr ds pf al w':=by
 have hk:Keep S w w':=.of_below (fun i hi=>h.lt hi) hb
 exact ⟨h.st.below hb,h.d.keepS hk h.dS,h.p.keepS hk h.pS fun i hi=>(h.TS i hi).1,h.l.keepS hk h.lS fun i hi=>(h.TS i hi).1,h.dS,h.pS,h.lS,h.pl,h.TS,h.lo,h.old,h.bel.trans (hb.mono h.bel.size)⟩
theorem SolM.step (h:SolM w0 B0 S T b vt vd vp vl tr ds pf al w) {vt':Value} {tr':List Int} (hst:St w' S b w0.heap.size vt' tr') (hk:Keep S w w'):SolM w0 B0 S T b vt' vd vp vl tr' ds pf al w' :=
 ⟨hst,h.d.keepS hk h.dS,h.p.keepS hk h.pS fun i hi=>(h.TS i hi).1,h.l.keepS hk h.lS fun i hi=>(h.TS i hi).1,h.dS,h.pS,h.lS,h.pl,h.TS,h.lo,h.old,h.bel.trans (hk.below h.old)⟩
theorem SolM.grow (h:SolM w0 B0 S T b vt vd vp vl tr ds pf al w) (hb:Below w.heap.size w w') :
  SolM w0 B0 (fun i=>S i∨(w.heap.size≤i∧i<w'.heap.size)) (fun i=>T i∨(w.heap.size≤i∧i<w'.heap.size)) b vt vd vp vl tr ds pf al w':=by
 have h':=h.below hb
 have hbl:=h.st.blk.lt
 have htl:=h.st.own.lt
 refine ⟨h'.st.mono fun i hi=>?_,h'.d,h'.p.mono fun i hi=>.inl hi,h'.l.mono fun i hi=>.inl hi,fun k e=>.inl (h.dS k e),fun k e=>.inl (h.pS k e),fun k e=>.inl (h.lS k e),h.pl,fun i hi=>?_,fun i hi=>?_,fun i hi=>.inl (h.old i hi),h'.bel⟩
 ·rcases hi with hi | hi
  ·exact h'.st.prot i hi
  ·exact ⟨hi.2,by omega,fun e=>by have:=htl i e;omega⟩
 ·rcases hi with hi | hi
  ·obtain ⟨p1,p2⟩:=h.TS i hi
   exact ⟨.inl p1,p2⟩
  ·exact ⟨.inr hi,fun e=>by have:=h.d.lt i e;omega,fun e=>by have:=h.p.lt i e;omega,fun e=>by have:=h.l.lt i e;omega⟩
 ·rcases hi with hi | hi
  ·exact h.lo i hi
  ·exact .inr (Nat.le_trans h.bel.size hi.1)
theorem SolM.keepRow (h:SolM w0 B0 S T b vt vd vp vl tr ds pf al w) {row:Option Nat} (hg:w.grownBy w' row) (hr:∀ k,row=some k→S k):St w' (fun i=>S i∧row≠some i) b w0.heap.size vt tr:=by
 have hbl:=h.st.blk.lt
 have hne:some b≠row:=fun e=>(h.st.prot b (hr b e.symm)).2.1 rfl
 refine ⟨h.st.cons,h.st.blk.grown hg hne,h.st.own.kept hg ?_,fun i hi=>⟨Nat.lt_of_lt_of_le (h.lt hi.1) hg.size,(h.st.prot i hi.1).2⟩,Nat.le_trans h.st.base hg.size⟩
 cases hv:vt.ownBlock with
 | none=>exact .inl rfl
 | some k=>exact .inr fun e=>(h.st.prot k (hr k e.symm)).2.2 hv
theorem rowS {v v':Value} (h:SolM w0 B0 S T b vt vd vp vl tr ds pf al w) (hv:∀ k,v.ownBlock=some k→S k) (hg:w.grownBy w' v.ownBlock) (hor:v'.ownBlock=v.ownBlock∨v'.ownBlock=some w.heap.size) (hl:∀ k,v'.ownBlock=some k→k<w'.heap.size) :
  St w' (fun i=>S i∨v'.ownBlock=some i) b w0.heap.size vt tr:=by
 have h1:=h.keepRow hg hv
 refine h1.mono fun i hi=>?_
 rcases hi with hi | hi
 ·exact ⟨Nat.lt_of_lt_of_le (h.lt hi) hg.size,(h.st.prot i hi).2⟩
 ·refine ⟨hl i hi,?_⟩
  rcases hor with e | e
  ·exact (h.st.prot i (hv i (e ▸ hi))).2
  ·have:w.heap.size=i:=by rw [e] at hi;exact Option.some.inj hi
   subst this
   exact ⟨fun e2=>by have:=h.st.blk.lt;omega,fun e2=>by have:=h.st.own.lt _ e2;omega⟩
theorem newT {v v':Value} (h:SolM w0 B0 S T b vt vd vp vl tr ds pf al w) (hT:∀ i,T i→v.ownBlock≠some i) (hor:v'.ownBlock=v.ownBlock∨v'.ownBlock=some w.heap.size):∀ i,T i→v'.ownBlock≠some i:=by
 intro i hi
 rcases hor with e | e
 ·rw [e];exact hT i hi
 ·rw [e]
  intro e2
  have:=h.lt (h.TS i hi).1
  cases e2
  omega
theorem keepT {row:Option Nat} (h:SolM w0 B0 S T b vt vd vp vl tr ds pf al w) (hg:w.grownBy w' row) (hT:∀ i,T i→row≠some i):Keep T w w' :=
 .grown hg fun i hi=>⟨h.lt (h.TS i hi).1,fun e=>hT i hi e.symm⟩
theorem belRow {row:Option Nat} (h:SolM w0 B0 S T b vt vd vp vl tr ds pf al w) (hg:w.grownBy w' row) (hr:∀ k,row=some k→w0.heap.size≤k):Below w0.heap.size w0 w' :=
 h.bel.trans ⟨hg.os,hg.tape,hg.output,hg.size,fun i hi=>hg.block i (Nat.lt_of_lt_of_le hi h.bel.size) fun e=>by have:=hr i e.symm;omega⟩
theorem ownC_row {base:Nat} {v:Value} {ls:List (List Int)} {row:Option Nat} (h:SolM w0 B0 S T b vt vd vp vl tr ds pf al w) (ho:OwnC w base T v ls) (hg:w.grownBy w' row) (hT:∀ i,T i→row≠some i) (hne:∀ k,v.ownBlock=some k→row≠some k):OwnC w' base T v ls:=by
 obtain ⟨h1,vs,h2,h3⟩:=ho
 refine ⟨h1,vs,h2.kept hg ?_,h3.keep (keepT h hg hT)⟩
 cases hv:v.ownBlock with
 | none=>exact .inl rfl
 | some k=>exact .inr fun e=>hne k hv e.symm
theorem ne_pd (h:SolM w0 B0 S T b vt vd vp vl tr ds pf al w):∀ k,vd.ownBlock=some k→vp.ownBlock≠some k:=by
 intro k hk e
 obtain ⟨_,vs,h2,_⟩:=h.p
 rcases own_ne_rows h.d.1 h2 (by decide) with h0 | h0
 ·rw [hk] at h0;cases h0
 ·exact h0 (hk.trans e.symm)
theorem ne_ld (h:SolM w0 B0 S T b vt vd vp vl tr ds pf al w):∀ k,vd.ownBlock=some k→vl.ownBlock≠some k:=by
 intro k hk e
 obtain ⟨_,vs,h2,_⟩:=h.l
 rcases own_ne_rows h.d.1 h2 (by decide) with h0 | h0
 ·rw [hk] at h0;cases h0
 ·exact h0 (hk.trans e.symm)
theorem own_row {base:Nat} {v:Value} {zs:List Int} {row:Option Nat} (ho:Own w base v zs) (hg:w.grownBy w' row) (hne:∀ k,v.ownBlock=some k→row≠some k):Own w' base v zs:=by
 refine ho.kept hg ?_
 cases hv:v.ownBlock with
 | none=>exact .inl rfl
 | some k=>exact .inr fun e=>hne k hv e.symm
theorem ne_new {v v' u:Value} {k:Nat} (hlt:u.ownBlock=some k→k<w.heap.size) (hne:u.ownBlock=some k→v.ownBlock≠some k) (hor:v'.ownBlock=v.ownBlock∨v'.ownBlock=some w.heap.size) (hk:u.ownBlock=some k):v'.ownBlock≠some k:=by
 rcases hor with e | e
 ·rw [e];exact hne hk
 ·rw [e];intro e2;have:=hlt hk;cases e2;omega
theorem SolM.putP (h:SolM w0 B0 S T b vt vd vp vl tr ds pf al w) {vp':Value} {pf':List (List Int)} (ho:OwnC w' w0.heap.size T vp' pf') (hg:w.grownBy w' vp.ownBlock) (hor:vp'.ownBlock=vp.ownBlock∨vp'.ownBlock=some w.heap.size) :
  SolM w0 B0 (fun i=>S i∨vp'.ownBlock=some i) T b vt vd vp' vl tr ds pf' al w':=by
 have hT:∀ i,T i→vp.ownBlock≠some i:=fun i hi=>(h.TS i hi).2.2.1
 refine ⟨rowS h h.pS hg hor fun k e=>(ho.lt k e).2,own_row h.d hg (ne_pd h),ho,ownC_row h h.l hg hT fun k e e2=>h.pl k e2 e,fun k e=>.inl (h.dS k e),fun k e=>.inr e,fun k e=>.inl (h.lS k e),fun k e e2=>?_,fun i hi=>?_,h.lo,fun i hi=>.inl (h.old i hi),belRow h hg fun k e=>(h.p.lt k e).1⟩
 ·exact ne_new (v:=vp) (u:=vl) (fun e=>(h.l.lt k e).2) (fun e e3=>h.pl k e3 e) hor e2 e
 ·obtain ⟨p1,p2,p3,p4⟩:=h.TS i hi
  exact ⟨.inl p1,p2,newT h hT hor i hi,p4⟩
theorem SolM.putL (h:SolM w0 B0 S T b vt vd vp vl tr ds pf al w) {vl':Value} {al':List (List Int)} (ho:OwnC w' w0.heap.size T vl' al') (hg:w.grownBy w' vl.ownBlock) (hor:vl'.ownBlock=vl.ownBlock∨vl'.ownBlock=some w.heap.size) :
  SolM w0 B0 (fun i=>S i∨vl'.ownBlock=some i) T b vt vd vp vl' tr ds pf al' w':=by
 have hT:∀ i,T i→vl.ownBlock≠some i:=fun i hi=>(h.TS i hi).2.2.2
 refine ⟨rowS h h.lS hg hor fun k e=>(ho.lt k e).2,own_row h.d hg (ne_ld h),ownC_row h h.p hg hT h.pl,ho,fun k e=>.inl (h.dS k e),fun k e=>.inl (h.pS k e),fun k e=>.inr e,fun k e=>?_,fun i hi=>?_,h.lo,fun i hi=>.inl (h.old i hi),belRow h hg fun k e=>(h.l.lt k e).1⟩
 ·exact ne_new (v:=vl) (u:=vp) (fun e=>(h.p.lt k e).2) (fun e=>h.pl k e) hor e
 ·obtain ⟨p1,p2,p3,p4⟩:=h.TS i hi
  exact ⟨.inl p1,p2,p3,newT h hT hor i hi⟩
theorem SolM.putD (h:SolM w0 B0 S T b vt vd vp vl tr ds pf al w) {vd':Value} {ds':List Int} (ho:Own w' w0.heap.size vd' ds') (hg:w.grownBy w' vd.ownBlock) (hor:vd'.ownBlock=vd.ownBlock∨vd'.ownBlock=some w.heap.size) :
  SolM w0 B0 (fun i=>S i∨vd'.ownBlock=some i) T b vt vd' vp vl tr ds' pf al w':=by
 have hT:∀ i,T i→vd.ownBlock≠some i:=fun i hi=>(h.TS i hi).2.1
 refine ⟨rowS h h.dS hg hor fun k e=>(ho.lt k e).2,ho,ownC_row h h.p hg hT fun k e e2=>ne_pd h k e2 e,ownC_row h h.l hg hT fun k e e2=>ne_ld h k e2 e,fun k e=>.inr e,fun k e=>.inl (h.pS k e),fun k e=>.inl (h.lS k e),h.pl,fun i hi=>?_,h.lo,fun i hi=>.inl (h.old i hi),belRow h hg fun k e=>(h.d.lt k e).1⟩
 obtain ⟨p1,p2,p3,p4⟩:=h.TS i hi
 exact ⟨.inl p1,newT h hT hor i hi,p3,p4⟩
theorem SolM.cutD {A:Option Addr} {n c:Nat} (h:SolM w0 B0 S T b vt (.slice A n c) vp vl tr ds pf al w) {m:Nat} (hm:m≤n):SolM w0 B0 S T b vt (.slice A m c) vp vl tr (ds.take m) pf al w:=by
 have e:(Value.slice A m c).ownBlock=(Value.slice A n c).ownBlock:=by cases A <;> rfl
 exact ⟨h.st,h.d.cut hm,h.p,h.l,by rw [e];exact h.dS,h.pS,h.lS,h.pl,by rw [e];exact h.TS,h.lo,h.old,h.bel⟩
theorem SolM.clsP {A:Option Addr} {n c:Nat} (h:SolM w0 B0 S T b vt vd vp (.slice A n c) tr ds pf al w):ClsP w S A n al:=by
 have hn:n=al.length:=by
  obtain ⟨A',c',e,_⟩:=h.l.form
  cases e
  rfl
 subst hn
 obtain ⟨h1,vs,h2,h3⟩:=h.l
 refine ⟨rfl,h1,vs,h3.1,fun hn=>?_,fun k hk=>?_⟩
 ·obtain ⟨ad,e,hb,hc⟩:=(Reads.of_own h2).2 hn
  exact ⟨ad,e,h.lS _ (by rw [e];rfl),hc⟩
 ·obtain ⟨A',n',c',e,hc,hi⟩:=h3.2 k hk
  exact ⟨A',n',c',e,hc,hi.mono fun i hi=>(h.TS i hi).1⟩
end
theorem intsP_of_ints {w:World} {B:Nat} {D:Nat→Prop} {A:Option Addr} {n:Nat} {zs:List Int} (h:Ints w B A n zs) (hD:0<n→∀ ad,A=some ad→D ad.block):IntsP w D A n zs :=
 ⟨h.1,h.2.1,h.2.2.1,fun hn=>by
  obtain ⟨ad,e,_,hc⟩:=h.2.2.2.2 hn
  exact ⟨ad,e,hD hn ad e,hc⟩⟩
structure Held (p:Prop):Prop where
 go:p
theorem appC1H (w:World) {ops:Array Oper} {rest:List Oper} {o:Oper} {a:Act} {Q:Exit→Act→World→Prop} (hgd:o.guard=none) (s x:Operand) (t:TypeId)
  (ho:o.op=.call { callee:=.builtin .append,args:=#[s,x],argTypes:=#[t,t] }) (base:Nat) (S:Nat→Prop) (ht:Tryz.prog.underlying t=some (.slice 125))
  (v:Value) (ls:List (List Int)) (hs:a.eval s=v) (hown:OwnC w base S v ls) (g c:Nat) (hx:a.eval x=.slice (some ⟨g,0,none⟩) 1 c) (A':Option Addr) (n' c':Nat) (zs:List Int) (hc:w.cell? ⟨g,0,none⟩=some (.slice A' n' c')) (hnc:n'≤c') (hz:IntsP w S A' n' zs)
  (hl:ls.length≤1099511627) (hbase:base≤w.heap.size) (hS:∀ i,S i→i<w.heap.size∧v.ownBlock≠some i)
  (h:∀ v' w',OwnC w' base S v' (ls++[zs])→w.grownBy w' v.ownBlock→(v'.ownBlock=v.ownBlock∨v'.ownBlock=some w.heap.size)→Held (wpList Tryz.prog ops Q rest (a.put o.dst v') w')):wpList Tryz.prog ops Q (o :: rest) a w :=
 appC1S w hgd s x t ho base S ht v ls hs hown g c hx A' n' c' zs hc hnc hz hl hbase hS fun v' w' h1 h2 h3=>(h v' w' h1 h2 h3).go
theorem app1H (w:World) {ops:Array Oper} {rest:List Oper} {o:Oper} {a:Act} {Q:Exit→Act→World→Prop} (hgd:o.guard=none) (s x:Operand) (t:TypeId)
  (ho:o.op=.call { callee:=.builtin .append,args:=#[s,x],argTypes:=#[t,t] }) (base:Nat) (ht:Tryz.prog.underlying t=some (.slice 3))
  (v:Value) (zs:List Int) (hs:a.eval s=v) (hown:Own w base v zs) (g c:Nat) (z:Int) (hx:a.eval x=.slice (some ⟨g,0,none⟩) 1 c) (hc:w.cell? ⟨g,0,none⟩=some (.int .i64 z)) (hz:I64 z)
  (hl:zs.length≤1099511627) (hbase:base≤w.heap.size)
  (h:∀ v' w',Own w' base v' (zs++[z])→w.grownBy w' v.ownBlock→(v'.ownBlock=v.ownBlock∨v'.ownBlock=some w.heap.size)→Held (wpList Tryz.prog ops Q rest (a.put o.dst v') w')):wpList Tryz.prog ops Q (o :: rest) a w :=
 app1 w hgd s x t ho base ht v zs hs hown g c z hx hc hz (by omega) hbase fun v' w' h1 h2 h3=>(h v' w' h1 h2 h3).go
end Go.Proofs.YtojgbcmhdnappaaGreatDoor
