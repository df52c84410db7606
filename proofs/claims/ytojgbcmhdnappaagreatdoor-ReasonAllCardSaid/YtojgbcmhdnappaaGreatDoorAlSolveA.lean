/-
  A part of the proof: OwnC, SolveA. Conditions: none.
-/
import Derived.Test.YtojgbcmhdnappaaGreatDoorAlOwn
import Derived.Test.YtojgbcmhdnappaaGreatDoorAlSolvePure
import Derived.Deep.QuietTactic
import Derived.BigQuiet
namespace Go.Proofs.YtojgbcmhdnappaaGreatDoor
open Go.RowKit
theorem clauseInfo:(Tryz.prog.info? 125).map (fun i=>(i.zero,i.size,i.bytes))=some (some (.slice none 0 0),1,24):=by kernel_rfl
def CellsP (w:World) (S:Nat→Prop) (vs:List Value) (ls:List (List Int)):Prop :=
 vs.length=ls.length∧∀ k,k<ls.length→∃ A' n' c',vs[k]?=some (.slice A' n' c')∧n'≤c'∧IntsP w S A' n' (ls.getD k [])
def OwnC (w:World) (base:Nat) (S:Nat→Prop) (v:Value) (ls:List (List Int)):Prop :=
 ls.length≤maxLen∧∃ vs,w.ownsRow base 125 1 v ls.length vs∧CellsP w S vs ls
section
variable {w w':World} {base n:Nat} {S S':Nat→Prop} {v:Value} {vs us:List Value} {ls ms:List (List Int)} {A:Option Addr}
theorem CellsP.keep (h:CellsP w S vs ls) (hk:Keep S w w'):CellsP w' S vs ls:=by
 refine ⟨h.1,fun k hl=>?_⟩
 obtain ⟨A',n',c',e,hc,hi⟩:=h.2 k hl
 exact ⟨A',n',c',e,hc,hi.keep hk⟩
theorem CellsP.mono (h:CellsP w S vs ls) (hS:∀ i,S i→S' i):CellsP w S' vs ls:=by
 refine ⟨h.1,fun k hl=>?_⟩
 obtain ⟨A',n',c',e,hc,hi⟩:=h.2 k hl
 exact ⟨A',n',c',e,hc,hi.mono hS⟩
theorem CellsP.nil (w:World) (S:Nat→Prop):CellsP w S [] []:=⟨rfl,fun _ h=>absurd h (Nat.not_lt_zero _)⟩
theorem CellsP.append (h:CellsP w S vs ls) (h':CellsP w S us ms):CellsP w S (vs++us) (ls++ms):=by
 refine ⟨by rw [List.length_append,List.length_append,h.1,h'.1],fun k hl=>?_⟩
 rw [List.length_append] at hl
 by_cases hk:k<ls.length
 ·obtain ⟨A',n',c',e,hc,hi⟩:=h.2 k hk
  refine ⟨A',n',c',?_,hc,?_⟩
  ·rw [List.getElem?_append_left (by rw [h.1];exact hk)];exact e
  ·rw [List.getD_eq_getElem?_getD,List.getElem?_append_left hk,←List.getD_eq_getElem?_getD];exact hi
 ·obtain ⟨A',n',c',e,hc,hi⟩:=h'.2 (k-ls.length) (by omega)
  refine ⟨A',n',c',?_,hc,?_⟩
  ·rw [List.getElem?_append_right (by rw [h.1];omega),h.1];exact e
  ·rw [List.getD_eq_getElem?_getD,List.getElem?_append_right (by omega),←List.getD_eq_getElem?_getD];exact hi
theorem CellsP.one {A':Option Addr} {n' c':Nat} {zs:List Int} (hc:n'≤c') (hi:IntsP w S A' n' zs):CellsP w S [.slice A' n' c'] [zs]:=by
 refine ⟨rfl,fun k hl=>?_⟩
 have:k=0:=by simpa using hl
 subst this
 exact ⟨A',n',c',rfl,hc,hi⟩
theorem CellsP.oneCell (h:CellsP w S vs ls):∀ u∈vs,u.oneCell'=true:=by
 intro u hu
 obtain ⟨k,hk,e⟩:=List.getElem_of_mem hu
 obtain ⟨A',n',c',e',_⟩:=h.2 k (by rw [←h.1];exact hk)
 rw [List.getElem?_eq_getElem hk,e] at e'
 cases e'
 rfl
theorem Cls.cells {B:Nat} (h:Cls w B A n ls):∃ vs,Reads w B 1 A n vs∧CellsP w (· < B) vs ls:=by
  obtain ⟨h1,_,vs,hr,hv⟩:=h
  refine ⟨vs,hr,by have:=hr.1;omega,fun k hk=>?_⟩
  obtain ⟨A',n',c',e,hc,hi⟩:=hv k (by omega)
  exact ⟨A',n',c',e,hc,.of hi⟩
theorem OwnC.form (h:OwnC w base S v ls):∃ A c,v=.slice A ls.length c∧ls.length≤c:=by
 obtain ⟨_,vs,h,_⟩:=h
 rcases h.2 with ⟨rfl,h0⟩ | ⟨g,cap,cur,rfl,_,_,hc,_⟩
 ·exact ⟨none,0,by rw [h0],by omega⟩
 ·exact ⟨_,_,rfl,hc⟩
theorem OwnC.lt (h:OwnC w base S v ls):∀ k,v.ownBlock=some k→base≤k∧k<w.heap.size:=by
 obtain ⟨_,vs,h,_⟩:=h
 exact h.lt
theorem OwnC.kept {row:Option Nat} (h:OwnC w base S v ls) (hg:w.grownBy w' row) (hne:v.ownBlock=none∨v.ownBlock≠row) (hS:∀ i,S i→i<w.heap.size∧some i≠row):OwnC w' base S v ls:=by
 obtain ⟨h1,vs,h2,h3⟩:=h
 exact ⟨h1,vs,h2.kept hg hne,h3.keep (.grown hg hS)⟩
theorem OwnC.below (h:OwnC w base S v ls) (hb:Below w.heap.size w w') (hS:∀ i,S i→i<w.heap.size):OwnC w' base S v ls :=
 h.kept (row:=none) ⟨hb.os,hb.tape,hb.output,hb.size,fun i hi _=>hb.block i hi⟩ (by cases v.ownBlock <;> simp) (fun i hi=>⟨hS i hi,by simp⟩)
theorem OwnC.mono (h:OwnC w base S v ls) (hS:∀ i,S i→S' i):OwnC w base S' v ls:=by
 obtain ⟨h1,vs,h2,h3⟩:=h
 exact ⟨h1,vs,h2,h3.mono hS⟩
theorem OwnC.cls {c:Nat} (h:OwnC w base S (.slice A n c) ls) (hS:∀ i,S i→i<w.heap.size):Cls w w.heap.size A n ls:=by
 have hn:n=ls.length:=by
  obtain ⟨A',c',e,_⟩:=h.form
  cases e
  rfl
 subst hn
 obtain ⟨h1,vs,h2,h3⟩:=h
 refine ⟨rfl,h1,vs,Reads.of_own h2,fun k hk=>?_⟩
 obtain ⟨A',n',c',e,hc,hi⟩:=h3.2 k hk
 exact ⟨A',n',c',e,hc,hi.ints hS⟩
theorem ownC_empty (w:World) (base:Nat) (S:Nat→Prop) (hb:base≤w.heap.size):OwnC (w.alloc (.cells #[] 125)) base S (.slice (some ⟨w.heap.size,0,none⟩) 0 0) [] :=
 ⟨Nat.zero_le _,[],World.ownsRow_lit (e:=125) (size:=1) w #[] 0 hb (Nat.zero_le _) rfl,.nil _ _⟩
theorem ownC_nil (w:World) (base:Nat) (S:Nat→Prop):OwnC w base S (.slice none 0 0) []:=⟨Nat.zero_le _,[],World.ownsRow_nil _ _ _ _,.nil _ _⟩
end
theorem one_newsC (w:World) (u:Value) (g:Nat) (hc:w.cell? ⟨g,0,none⟩=some u):Reads w (g+1) 1 (some ⟨g,0,none⟩) 1 [u]:=by
 refine ⟨rfl,fun _=>⟨_,rfl,Nat.lt_succ_self _,fun j x hx=>?_⟩⟩
 match j,hx with
 | 0,hx=>simp at hx;subst hx;simpa [Addr.add] using hc
theorem appC (w:World) {ops:Array Oper} {rest:List Oper} {o:Oper} {a:Act} {Q:Exit→Act→World→Prop} (hgd:o.guard=none) (s x:Operand) (t:TypeId)
  (ho:o.op=.call { callee:=.builtin .append,args:=#[s,x],argTypes:=#[t,t] }) (base:Nat) (S:Nat→Prop) (ht:Tryz.prog.underlying t=some (.slice 125))
  (v:Value) (ls:List (List Int)) (hs:a.eval s=v) (hown:OwnC w base S v ls) (B:Nat) (A:Option Addr) (m c:Nat) (us:List Value) (ms:List (List Int)) (hx:a.eval x=.slice A m c) (hr:Reads w B 1 A m us) (hu:CellsP w S us ms)
  (hl:ls.length+ms.length≤1099511627776) (hbase:base≤w.heap.size) (hS:∀ i,S i→i<base)
  (h:∀ v' w',OwnC w' base S v' (ls++ms)→w.grownBy w' v.ownBlock→(v'.ownBlock=v.ownBlock∨v'.ownBlock=some w.heap.size)→wpList Tryz.prog ops Q rest (a.put o.dst v') w'):wpList Tryz.prog ops Q (o :: rest) a w:=by
 obtain ⟨i0,hi,hz0,hz1,hz2⟩:=info_parts clauseInfo
 obtain ⟨h1,vs,h2,h3⟩:=hown
 have hm:m=ms.length:=by have:=hr.1;have:=hu.1;omega
 subst hm
 refine wpList_append_any w hgd s x t ho base 125 i0 (.slice none 0 0) 1 24 ht hi hz0 hz1 hz2 rfl (by decide) v ls.length _ hs h2 B A ms.length c us hx hr hu.oneCell (by simp only [maxLen];omega) (by omega) hbase ?_
 intro v' w' ho' hg' hor
 have hk:Keep S w w':=.grown hg' fun i hi=>⟨Nat.lt_of_lt_of_le (hS i hi) hbase,fun e=>by have:=h2.lt i e.symm;have:=hS i hi;omega⟩
 refine h v' w' ⟨by rw [List.length_append];simp only [maxLen];omega,vs++us,?_,(h3.append hu).keep hk⟩ hg' hor
 rw [List.length_append]
 exact ho'
theorem isNil_none (n c:Nat) (w:World):(binOp .eql 26 (.slice none n c) (.slice none 0 0)).run Tryz.prog w=.ok (.bool true) w:=by kernel_rfl
theorem isNil_some (ad:Addr) (n c:Nat) (w:World):(binOp .eql 26 (.slice (some ad) n c) (.slice none 0 0)).run Tryz.prog w=.ok (.bool false) w:=by kernel_rfl
def ClonePost (w:World) (B:Nat) (ls:List (List Int)) (e:Ending) (w':World):Prop :=
  ∃ v,e=.returned v∧OwnC w' w.heap.size (· < B) v ls∧Below w.heap.size w w'
set_option maxRecDepth 100000 in
theorem clone_any (A:Option Addr) (n c B:Nat) (ls:List (List Int)) (w:World) (hcl:Cls w B A n ls) (hB:B≤w.heap.size) (hl:n≤1000000) (hnil:A=none→n=0) :
    Calls Tryz.prog 152 #[.slice A n c] w (ClonePost w B ls):=by
  obtain ⟨us,hr,hu⟩:=hcl.cells
  have hn:=hcl.len
  have Hr:=Lib.hid hr
  have Hu:=Lib.hid hu
  clear hr hu
  have HC:=Lib.hid hcl
  clear hcl
  have hmk:=ownC_empty w w.heap.size (· < B) (Nat.le_refl _)
  have hq0:=isNil_none
  have hq1:=isNil_some
  rcases A with _ | ad
  · obtain rfl:ls=[]:=List.eq_nil_of_length_eq_zero (hn.trans (hnil rfl))
    go_enter Tryz.func152,Tryz.ntmps152
    go_wp2
    go_ret
    exact ⟨_,rfl,ownC_nil _ _ _,Below.refl _ _⟩
  · go_enter Tryz.func152,Tryz.ntmps152
    go_wp2_with (first
      | (at_builtin;refine appC _ rfl _ _ _ rfl w.heap.size (· < B) Tryz.underlying26 _ [] rfl hmk B _ n c us ls rfl (Hr.out.alloc hB _) (Hu.out.keep (.alloc (fun i hi=>Nat.lt_of_lt_of_le hi hB) _)) (by rw [hn];simp;omega) (by simp) (fun i hi=>Nat.lt_of_lt_of_le hi hB) ?_;intro v' w' ho hg hor)
      | fail)
    go_ret
    refine ⟨v',rfl,by simpa using ho,?_⟩
    have hb0:Below w.heap.size w (w.alloc (.cells #[] 125)):=(Below.refl _ _).alloc (Nat.le_refl _) _
    exact hb0.grown hg hb0.size (fun j hj=>by cases hj;exact Nat.le_refl _)
end Go.Proofs.YtojgbcmhdnappaaGreatDoor
namespace Go.Proofs.YtojgbcmhdnappaaGreatDoor
open Go.RowKit
section
variable {w w':World} {base c n:Nat} {A:Option Addr} {zs:List Int} {ls:List (List Int)} {S:Nat→Prop} {v u:Value}
theorem ownsRow_cut {e:TypeId} {size m:Nat} {xs:List Value} (h:w.ownsRow base e size (.slice A n c) n xs) (hm:m≤n):w.ownsRow base e size (.slice A m c) m (xs.take (m*size)):=by
 have hmul:m*size≤n*size:=Nat.mul_le_mul_right _ hm
 refine ⟨by rw [List.length_take,h.1,Nat.min_eq_left hmul],?_⟩
 rcases h.2 with ⟨e0,h0⟩ | ⟨g,cap,cur,e0,hg,hh,hc,hcap,hsz,ht⟩
 ·cases e0
  obtain rfl:m=0:=by omega
  exact .inl ⟨rfl,rfl⟩
 ·cases e0
  refine .inr ⟨g,_,cur,rfl,hg,hh,by omega,hcap,hsz,?_⟩
  rw [←ht,List.take_take,Nat.min_eq_left hmul]
theorem Own.cut (h:Own w base (.slice A n c) zs) {m:Nat} (hm:m≤n):Own w base (.slice A m c) (zs.take m):=by
 have hn:n=zs.length:=by
  obtain ⟨A',c',e,_⟩:=h.form
  cases e
  rfl
 subst hn
 have hl:(zs.take m).length=m:=by rw [List.length_take,Nat.min_eq_left hm]
 refine ⟨?_,by rw [hl];exact Nat.le_trans hm h.2.1,fun z hz=>h.2.2 z (List.mem_of_mem_take hz)⟩
 rw [hl,List.map_take]
 have:=ownsRow_cut h.1 hm
 rw [Nat.mul_one] at this
 exact this
theorem Own.row (h:Own w base v zs) (hz:zs≠[]):∃ g c,v=.slice (some ⟨g,0,none⟩) zs.length c∧zs.length≤c:=by
 rcases h.1.2 with ⟨_,h0⟩ | ⟨g,cap,cur,hv,_,_,hc,_⟩
 ·exact absurd (List.eq_nil_of_length_eq_zero h0) hz
 ·exact ⟨g,cap,hv,hc⟩
theorem own_ne_rows {e e':TypeId} {b b' size size' n':Nat} {xs us:List Value} (h:w.ownsRow b e size v n xs) (h':w.ownsRow b' e' size' u n' us) (hne:e≠e'):v.ownBlock=none∨v.ownBlock≠u.ownBlock:=by
 rcases h'.2 with ⟨rfl,_⟩ | ⟨g',cap,cur,rfl,_,hh,_⟩
 ·cases hv:v.ownBlock with
  | none=>exact .inl rfl
  | some k=>exact .inr (by simp [Value.ownBlock])
 ·exact .inr (own_blk_ne h hh hne)
end
noncomputable def idxF (m:Nat) (tr:List Int):Int:=if freeF m tr≤m then (freeF m tr:Int)-1 else -1
theorem idxF_in {m:Nat} {tr:List Int} (h:freeF m tr≤m):idxF m tr=(freeF m tr:Int)-1:=by unfold idxF;rw [if_pos h]
theorem idxF_out {m:Nat} {tr:List Int} (h:m<freeF m tr):idxF m tr = -1:=by unfold idxF;rw [if_neg (by omega)]
set_option maxHeartbeats 1000000 in
theorem index0_any (c m:Nat) (tr:List Int) (v:Value) (b:Nat) (w:World) (h:Blk w b 270 (stCells tr v)) (hm:m≤24) :
  Calls Tryz.prog 155 #[.slice (some ⟨b,0,none⟩) m c,.int .i64 0] w fun e w'=>e=.returned (.int .i64 (idxF m tr))∧w=w':=by
 go_enter Tryz.func155,Tryz.ntmps155
 go_wp2
 go_loop [5,8] (fun _ i=>∃ k:Nat,k≤m∧i=.int .i64 k∧Hid (freeGo tr (m+1-(k+1)) (k+1)=freeF m tr)) (fun _ i=>m-(intOf i).toNat)
 case atStart=>exact ⟨0,Nat.zero_le _,rfl,Lib.hid (by rw [Nat.add_sub_cancel];rfl)⟩
 case round =>
  obtain ⟨k,hk,rfl,hd⟩:=hrel
  by_cases hlt:k<m
  ·have hc:w.cell? ⟨b,k,none⟩=some (.int .i64 (litT tr (k+1))):=(h.cell k).trans (stCells_at tr v k (by omega))
   have HH:=hide (fun e=>freeGo_hit (tr:=tr) (m:=m) (v:=k+1) (by omega) e)
   have HN:=hide (fun e=>freeGo_next (tr:=tr) (m:=m) (v:=k+1) (by omega) e)
   rw [show (((k+1:Nat)):Int)=(k:Int)+1 by omega] at HH HN
   have hb:=litT_bd tr (k+1)
   generalize litT tr ((k:Int)+1)=y at hc HH HN hb
   by_cases hy:y=0
   ·subst hy
    have HF:=Lib.hid (show freeF m tr=k+1 by rw [←hd.out];exact HH.out rfl)
    go_wp2
    go_ret
    refine ⟨ret_int ?_,rfl⟩
    rw [idxF_in (by have:=HF.out;omega),HF.out]
    omega
   ·have HF:=Lib.hid (show freeGo tr (m+1-(k+1+1)) (k+1+1)=freeF m tr by rw [←hd.out];exact (HN.out hy).symm)
    have hy0:((0:Int)==y)=false:=by simp;omega
    go_wp2
    go_round
    case rel=>exact ⟨k+1,by omega,by go_num,HF⟩
    case measure=>simp [intOf];omega
  ·have HF:=Lib.hid (show freeF m tr=m+1 by rw [←hd.out];exact freeGo_end (by omega))
   go_wp2
   go_ret
   refine ⟨ret_int ?_,rfl⟩
   rw [idxF_out (by have:=HF.out;omega)]
theorem stCells_drop (ta tb:List Int) (x:Int) (v:Value) (i:Nat) (hi:i<24) (hc:Cons (ta++x :: tb)) (hx:x=(i:Int)+1∨x = -((i:Int)+1)) :
  (stCells (ta++x :: tb) v).setIfInBounds i (.int .i64 0)=stCells (ta++tb) v:=by
 have hp:=hc.2
 rw [List.pairwise_append,List.pairwise_cons] at hp
 have hn:∀ y∈ta++tb,y.natAbs≠x.natAbs:=by
  intro y hy
  rcases List.mem_append.1 hy with hy | hy
  ·exact hp.2.2 y hy x (List.mem_cons_self ..)
  ·exact fun e=>hp.2.1.1 y hy e.symm
 apply Array.ext_getElem?
 intro j
 have hs:(stCells (ta++x :: tb) v).size=25:=by simp [stCells]
 have hs':(stCells (ta++tb) v).size=25:=by simp [stCells]
 rw [Array.getElem?_setIfInBounds]
 by_cases hij:i=j
 ·subst hij
  rw [if_pos rfl,if_pos (by omega),stCells_at _ _ i hi]
  have h1:((i:Int)+1)∉ta++tb:=fun h=>hn _ h (by omega)
  have h2 : -((i:Int)+1)∉ta++tb:=fun h=>hn _ h (by omega)
  rw [litT_none h1 h2]
 ·rw [if_neg hij]
  by_cases hj:j<24
  ·rw [stCells_at _ _ j hj,stCells_at _ _ j hj]
   have e1:((j:Int)+1)≠x:=by rcases hx with h | h <;> omega
   have e2 : -((j:Int)+1)≠x:=by rcases hx with h | h <;> omega
   have m1:((j:Int)+1)∈ta++x :: tb↔((j:Int)+1)∈ta++tb:=by simp [e1]
   have m2 : -((j:Int)+1)∈ta++x :: tb ↔ -((j:Int)+1)∈ta++tb:=by simp [e2]
   unfold litT
   simp only [m1,m2]
  ·by_cases h24:j=24
   ·subst h24;rw [stCells_last,stCells_last]
   ·rw [Array.getElem?_eq_none (by omega),Array.getElem?_eq_none (by omega)]
theorem stCells_v (tr:List Int) (v v':Value):(stCells tr v).setIfInBounds 24 v'=stCells tr v':=by
 apply Array.ext_getElem?
 intro j
 have hs:(stCells tr v).size=25:=by simp [stCells]
 rw [Array.getElem?_setIfInBounds]
 by_cases hj:24=j
 ·subst hj
  rw [if_pos rfl,if_pos (by omega),stCells_last]
 ·rw [if_neg hj]
  by_cases hj:j<24
  ·rw [stCells_at _ _ j hj,stCells_at _ _ j hj]
  ·have hs':(stCells tr v').size=25:=by simp [stCells]
   rw [Array.getElem?_eq_none (by omega),Array.getElem?_eq_none (by omega)]
theorem cons_drop {tr:List Int} (h:Cons tr) (n j:Nat) (hnj:n≤j):Cons (tr.take n++tr.drop j):=by
 have hs:(tr.take n++tr.drop j).Sublist tr:=by
  conv=>rhs;rw [←List.take_append_drop n tr]
  refine List.Sublist.append (List.Sublist.refl _) ?_
  rw [show j=n+(j-n) by omega,←List.drop_drop]
  exact List.drop_sublist _ _
 exact ⟨fun x hx=>h.1 x (hs.subset hx),h.2.sublist hs⟩
structure BackR (b base:Nat) (v:Value) (tr:List Int) (n:Nat) (w:World) (j:Nat) (wi:World):Prop where
  blk:Blk wi b 270 (stCells (tr.take n++tr.drop (n+j)) v)
  own:Own wi base v tr
  kp:Keep (· ≠ b) w wi
  sz:wi.heap.size=w.heap.size
set_option maxRecDepth 100000 in
set_option maxHeartbeats 2000000 in
theorem back_any (S:Nat→Prop) (b base n:Nat) (v:Value) (tr:List Int) (w:World) (h:St w S b base v tr) (hn:n<tr.length) :
  Calls Tryz.prog 154 #[.pointer (some ⟨b,0,none⟩),.int .i64 n] w (SetPost w S b base (tr.take n)):=by
 obtain ⟨g,c,rfl,hcap⟩:=h.own.row (by intro e;rw [e] at hn;cases hn)
 have hlen:=h.cons.len
 have HST:=hide h
 have hlast:w.cell? ⟨b,24,none⟩=some (.slice (some ⟨g,0,none⟩) tr.length c):=(h.blk.cell 24).trans (stCells_last tr _)
 have hne:n≠c:=by omega
 have HR:=hide (show BackR b base (.slice (some ⟨g,0,none⟩) tr.length c) tr n w 0 w from ⟨by rw [Nat.add_zero,List.take_append_drop];exact h.blk,h.own,Keep.refl _ _,rfl⟩)
 clear h
 go_enter Tryz.func154,Tryz.ntmps154
 go_wp2
 go_loopw [5,13] (fun _ i wi=>∃ j:Nat,j≤tr.length-n∧i=.int .i64 j∧Hid (BackR b base (.slice (some ⟨g,0,none⟩) tr.length c) tr n w j wi)) (fun _ i _=>(tr.length-n)-(intOf i).toNat)
 case atStart=>exact ⟨0,Nat.zero_le _,rfl,HR⟩
 case round =>
  clear HR
  obtain ⟨j,hj,rfl,hR⟩:=hrel
  by_cases hlt:j<tr.length-n
  ·have hjl:n+j<tr.length:=by omega
   obtain ⟨ad,e,hb,hc⟩:=hR.out.own.ints.at_ hjl
   cases e
   rw [show (⟨g,0,none⟩:Addr).add (n+j)=⟨g,n+j,none⟩ by unfold Addr.add;split <;> simp [*]] at hc
   have HD:=Lib.hid (getD_cons_drop tr (n+j) 0 hjl)
   have hx:=HST.out.cons.1 (tr.getD (n+j) 0) (by
    rw [List.getD_eq_getElem?_getD,List.getElem?_eq_getElem hjl];exact List.getElem_mem hjl)
   have HCD:=hide (cons_drop HST.out.cons n (n+j) (by omega))
   rw [HD.out] at HCD
   generalize tr.getD (n+j) 0=x at hc HD hx HCD
   rcases hx with hx | hx
   ·obtain ⟨i,rfl⟩:∃ i:Nat,x=(i:Int)+1:=⟨(x-1).toNat,by omega⟩
    have hi:i<24:=by omega
    have HE:=Lib.hid (stCells_drop _ _ _ (.slice (some ⟨g,0,none⟩) tr.length c) i hi HCD.out (.inl rfl))
    have hci:wr.cell? ⟨b,i,none⟩=some (.int .i64 (litT (tr.take n++tr.drop (n+j)) (i+1))):=(hR.out.blk.cell i).trans (stCells_at _ _ i hi)
    have hfi:=hR.out.blk.frozen i
    have HB:=hide (hR.out.blk.set_ i (.int .i64 0))
    have HO:=hide (hR.out.own.setBlk hR.out.blk (by decide) i (.int .i64 0))
    have HK:=hide (hR.out.kp.trans (Keep.setCell (w:=wr) (p:=⟨b,i,none⟩) (by simp) (.int .i64 0)))
    have HN:=Lib.hid (show tr.take n++tr.drop (n+(j+1))=tr.take n++tr.drop (n+j+1) by rw [Nat.add_assoc])
    go_wp2
    go_roundw
    case rel=>exact ⟨j+1,by omega,by go_num,hide ⟨by rw [HN.out,←HE.out,←HD.out];exact HB.out,HO.out,HK.out,by rw [size_setCell];exact hR.out.sz⟩⟩
    case measure=>simp [intOf];omega
   ·obtain ⟨i,rfl⟩:∃ i:Nat,x = -((i:Int)+1):=⟨(-x-1).toNat,by omega⟩
    have hi:i<24:=by omega
    have HE:=Lib.hid (stCells_drop _ _ _ (.slice (some ⟨g,0,none⟩) tr.length c) i hi HCD.out (.inr rfl))
    have hci:wr.cell? ⟨b,i,none⟩=some (.int .i64 (litT (tr.take n++tr.drop (n+j)) (i+1))):=(hR.out.blk.cell i).trans (stCells_at _ _ i hi)
    have hfi:=hR.out.blk.frozen i
    have HB:=hide (hR.out.blk.set_ i (.int .i64 0))
    have HO:=hide (hR.out.own.setBlk hR.out.blk (by decide) i (.int .i64 0))
    have HK:=hide (hR.out.kp.trans (Keep.setCell (w:=wr) (p:=⟨b,i,none⟩) (by simp) (.int .i64 0)))
    have HN:=Lib.hid (show tr.take n++tr.drop (n+(j+1))=tr.take n++tr.drop (n+j+1) by rw [Nat.add_assoc])
    go_wp2
    go_roundw
    case rel=>exact ⟨j+1,by omega,by go_num,hide ⟨by rw [HN.out,←HE.out,←HD.out];exact HB.out,HO.out,HK.out,by rw [size_setCell];exact hR.out.sz⟩⟩
    case measure=>simp [intOf];omega
  ·have HT:=Lib.hid (show tr.take n++tr.drop (n+j)=tr.take n by rw [List.drop_eq_nil_of_le (by omega),List.append_nil])
   have hcl:wr.cell? ⟨b,24,none⟩=some (.slice (some ⟨g,0,none⟩) tr.length c):=(hR.out.blk.cell 24).trans (stCells_last _ _)
   have hfl:=hR.out.blk.frozen 24
   have HB:=hide (hR.out.blk.set_ 24 (.slice (some ⟨g,0,none⟩) n c))
   have HO:=hide ((hR.out.own.setBlk hR.out.blk (by decide) 24 (.slice (some ⟨g,0,none⟩) n c)).cut (Nat.le_of_lt hn))
   have HK:=hide (hR.out.kp.trans (Keep.setCell (w:=wr) (p:=⟨b,24,none⟩) (by simp) (.slice (some ⟨g,0,none⟩) n c)))
   go_wp2
   go_end0
   refine ⟨rfl,.slice (some ⟨g,0,none⟩) n c,⟨HST.out.cons.pre (List.take_prefix _ _),?_,HO.out,?_,?_⟩,?_⟩
   ·rw [←HT.out,←stCells_v]
    exact HB.out
   ·intro i hi
    obtain ⟨p1,p2,p3⟩:=HST.out.prot i hi
    exact ⟨by rw [size_setCell,hR.out.sz];exact p1,p2,p3⟩
   ·rw [size_setCell,hR.out.sz]
    exact HST.out.base
   ·exact HK.out.mono fun i hi=>(HST.out.prot i hi).2.1
theorem appC1S (w:World) {ops:Array Oper} {rest:List Oper} {o:Oper} {a:Act} {Q:Exit→Act→World→Prop} (hgd:o.guard=none) (s x:Operand) (t:TypeId)
  (ho:o.op=.call { callee:=.builtin .append,args:=#[s,x],argTypes:=#[t,t] }) (base:Nat) (S:Nat→Prop) (ht:Tryz.prog.underlying t=some (.slice 125))
  (v:Value) (ls:List (List Int)) (hs:a.eval s=v) (hown:OwnC w base S v ls) (g c:Nat) (hx:a.eval x=.slice (some ⟨g,0,none⟩) 1 c) (A':Option Addr) (n' c':Nat) (zs:List Int) (hc:w.cell? ⟨g,0,none⟩=some (.slice A' n' c')) (hnc:n'≤c') (hz:IntsP w S A' n' zs)
  (hl:ls.length≤1099511627) (hbase:base≤w.heap.size) (hS:∀ i,S i→i<w.heap.size∧v.ownBlock≠some i)
  (h:∀ v' w',OwnC w' base S v' (ls++[zs])→w.grownBy w' v.ownBlock→(v'.ownBlock=v.ownBlock∨v'.ownBlock=some w.heap.size)→wpList Tryz.prog ops Q rest (a.put o.dst v') w'):wpList Tryz.prog ops Q (o :: rest) a w:=by
 obtain ⟨i0,hi,hz0,hz1,hz2⟩:=info_parts clauseInfo
 obtain ⟨h1,vs,h2,h3⟩:=hown
 refine wpList_append_any w hgd s x t ho base 125 i0 (.slice none 0 0) 1 24 ht hi hz0 hz1 hz2 rfl (by decide) v ls.length _ hs h2 (g+1) _ 1 c [.slice A' n' c'] hx (one_newsC w _ g hc) (CellsP.one hnc hz).oneCell (by simp only [maxLen];omega) (by omega) hbase ?_
 intro v' w' ho' hg' hor
 have hk:Keep S w w':=.grown hg' fun i hi=>⟨(hS i hi).1,fun e=>(hS i hi).2 e.symm⟩
 refine h v' w' ⟨by rw [List.length_append,List.length_singleton];simp only [maxLen];omega,vs++[.slice A' n' c'],?_,(h3.append (.one hnc hz)).keep hk⟩ hg' hor
 rw [List.length_append,List.length_singleton]
 exact ho'
end Go.Proofs.YtojgbcmhdnappaaGreatDoor
