/-
  A part of the proof: Follows, SolvePure. Conditions: none.
-/
import Derived.Test.YtojgbcmhdnappaaGreatDoorAlRefSpread
import Derived.Deep.QuietTactic
import Derived.BigQuiet
import Derived.Test.YtojgbcmhdnappaaGreatDoorAlUnit
namespace Go.Proofs.YtojgbcmhdnappaaGreatDoor
open Go.RowKit
theorem isErr_code {w:World} {c:Int} (h1:1≤c) (h2:c≤13):IsErr w (.iface 41 (.int .i64 c)) (c,-1):=.inr (.inl ⟨rfl,h1,h2,rfl⟩)
theorem firstBad_ok (vars:Int):∀ (ls:List (List Int)) (i:Nat),firstBad vars ls i=(0,-1)→∀ k,k<ls.length→(ls.getD k []).length≤48∧(ls.getD k []).any (badB vars)=false:=by
 intro ls
 induction ls with
 | nil=>intro i _ k hk;exact absurd hk (Nat.not_lt_zero _)
 | cons c cs ih =>
  intro i h k hk
  unfold firstBad at h
  by_cases h1:48<c.length
  ·rw [if_pos h1] at h
   simp at h
  ·rw [if_neg h1] at h
   by_cases h2:c.any (badB vars)=true
   ·rw [if_pos h2] at h
    simp at h
   ·rw [if_neg h2] at h
    cases k with
    | zero=>exact ⟨by simp;omega,by simpa using h2⟩
    | succ k=>exact ih (i+1) h k (by simpa using hk)
structure CheckOk (vars:Int) (ls:List (List Int)):Prop where
 v0:0≤vars
 v1:vars≤24
 many:ls.length≤200
 rows:∀ k,k<ls.length→(ls.getD k []).length≤48∧(ls.getD k []).any (badB vars)=false
theorem checkF_ok {vars:Int} {ls:List (List Int)} (h:checkF vars ls=(0,-1)):CheckOk vars ls:=by
 unfold checkF at h
 by_cases h1:vars<0∨24<vars
 ·rw [if_pos h1] at h;simp at h
 ·rw [if_neg h1] at h
  by_cases h2:200<ls.length
  ·rw [if_pos h2] at h;simp at h
  ·rw [if_neg h2] at h
   exact ⟨by omega,by omega,by omega,firstBad_ok vars ls 0 h⟩
theorem stCells_nil:stCells [] (.slice none 0 0)=#[.int .i64 0,.int .i64 0,.int .i64 0,.int .i64 0,.int .i64 0,.int .i64 0,.int .i64 0,.int .i64 0,.int .i64 0,.int .i64 0,.int .i64 0,.int .i64 0,.int .i64 0,.int .i64 0,.int .i64 0,.int .i64 0,.int .i64 0,.int .i64 0,.int .i64 0,.int .i64 0,.int .i64 0,.int .i64 0,.int .i64 0,.int .i64 0,.slice none 0 0]:=by
 unfold stCells litT
 rfl
end Go.Proofs.YtojgbcmhdnappaaGreatDoor
namespace Go.Proofs.YtojgbcmhdnappaaGreatDoor
def freeGo (tr:List Int):Nat→Nat→Nat
 | 0,v=>v
 | f+1,v=>if litT tr v=0 then v else freeGo tr f (v+1)
def freeF (m:Nat) (tr:List Int):Nat:=freeGo tr m 1
theorem freeGo_hit {tr:List Int} {m v:Nat} (hv:v≤m) (h:litT tr v=0):freeGo tr (m+1-v) v=v:=by
 rw [show m+1-v=(m-v)+1 by omega,freeGo,if_pos h]
theorem freeGo_next {tr:List Int} {m v:Nat} (hv:v≤m) (h:litT tr v≠0):freeGo tr (m+1-v) v=freeGo tr (m+1-(v+1)) (v+1):=by
 rw [show m+1-v=(m-v)+1 by omega,freeGo,if_neg h,show m+1-(v+1)=m-v by omega]
theorem freeGo_end {tr:List Int} {m v:Nat} (hv:v=m+1):freeGo tr (m+1-v) v=m+1:=by
 subst hv;rw [Nat.sub_self];rfl
theorem freeGo_bd (tr:List Int):∀ f v,v≤freeGo tr f v∧freeGo tr f v≤v+f∧(freeGo tr f v<v+f→litT tr (freeGo tr f v)=0):=by
 intro f
 induction f with
 | zero=>intro v;exact ⟨Nat.le_refl _,Nat.le_refl _,fun h=>absurd h (Nat.lt_irrefl _)⟩
 | succ f ih =>
  intro v
  unfold freeGo
  split
  ·rename_i h;exact ⟨Nat.le_refl _,by omega,fun _=>h⟩
  ·obtain ⟨h1,h2,h3⟩:=ih (v+1)
   exact ⟨by omega,by omega,fun h=>h3 (by omega)⟩
theorem freeF_bd (m:Nat) (tr:List Int):1≤freeF m tr∧freeF m tr≤m+1∧(freeF m tr≤m→litT tr (freeF m tr)=0):=by
 obtain ⟨h1,h2,h3⟩:=freeGo_bd tr m 1
 exact ⟨h1,by unfold freeF;omega,fun h=>h3 (by unfold freeF at h;omega)⟩
def valsF (tr:List Int):Nat:=tr.foldl (fun (a:Nat) (x:Int)=>if 0<x then a ||| 1 <<< (x-1).toNat else a) 0
def bitsF (tr:List Int) (m:Nat):Nat:=(List.range m).foldl (fun (a i:Nat)=>if litT tr ((i:Int)+1)=1 then a ||| 1 <<< i else a) 0
theorem bit_or (a n j:Nat):(a ||| 1 <<< n).testBit j=true↔a.testBit j=true∨n=j:=by
 rw [Nat.testBit_or,Nat.shiftLeft_eq,Nat.one_mul,Nat.testBit_two_pow,Bool.or_eq_true,decide_eq_true_iff]
theorem vals_bit (l:List Int) (j:Nat):∀ a,(l.foldl (fun (a:Nat) (x:Int)=>if 0<x then a ||| 1 <<< (x-1).toNat else a) a).testBit j=true↔a.testBit j=true∨((j:Int)+1)∈l:=by
 induction l with
 | nil=>intro a;simp
 | cons x xs ih =>
  intro a
  rw [List.foldl_cons,ih,List.mem_cons]
  by_cases hx:0<x
  ·rw [if_pos hx,bit_or]
   have:(x-1).toNat=j↔(j:Int)+1=x:=by omega
   rw [this,or_assoc]
  ·rw [if_neg hx]
   have he:¬(j:Int)+1=x:=by omega
   simp only [he,false_or]
theorem bits_bit (tr:List Int) (j:Nat) (l:List Nat):∀ a,(l.foldl (fun (a i:Nat)=>if litT tr ((i:Int)+1)=1 then a ||| 1 <<< i else a) a).testBit j=true↔a.testBit j=true∨(j∈l∧litT tr ((j:Int)+1)=1):=by
 induction l with
 | nil=>intro a;simp
 | cons x xs ih =>
  intro a
  rw [List.foldl_cons,ih,List.mem_cons]
  by_cases hx:litT tr ((x:Int)+1)=1
  ·rw [if_pos hx,bit_or]
   constructor
   ·rintro ((h | rfl) | h)
    ·exact .inl h
    ·exact .inr ⟨.inl rfl,hx⟩
    ·exact .inr ⟨.inr h.1,h.2⟩
   ·rintro (h | ⟨rfl | h,h2⟩)
    ·exact .inl (.inl h)
    ·exact .inl (.inr rfl)
    ·exact .inr ⟨h,h2⟩
  ·rw [if_neg hx]
   constructor
   ·rintro (h | h)
    ·exact .inl h
    ·exact .inr ⟨.inr h.1,h.2⟩
   ·rintro (h | ⟨rfl | h,h2⟩)
    ·exact .inl h
    ·exact absurd h2 hx
    ·exact .inr ⟨h,h2⟩
theorem litT_one (tr:List Int) (x:Int):litT tr x=1↔x∈tr:=by
 unfold litT
 by_cases h:x∈tr
 ·simp [h]
 ·rw [if_neg h]
  constructor
  ·intro e;split at e <;> cases e
  ·intro e;exact absurd e h
theorem vals_bits {tr:List Int} {m:Nat} (h:∀ x∈tr,badB m x=false):bitsF tr m=valsF tr:=by
 apply Nat.eq_of_testBit_eq
 intro j
 rw [Bool.eq_iff_iff]
 unfold bitsF valsF
 rw [bits_bit,vals_bit,litT_one,List.mem_range]
 constructor
 ·rintro (h | h)
  ·exact .inl h
  ·exact .inr h.2
 ·rintro (h0 | hm)
  ·exact .inl h0
  ·refine .inr ⟨?_,hm⟩
   have:=h _ hm
   unfold badB at this
   have:=of_decide_eq_false this
   omega
theorem bitsF_succ (tr:List Int) (k:Nat):bitsF tr (k+1)=if litT tr ((k:Int)+1)=1 then bitsF tr k ||| 1 <<< k else bitsF tr k:=by
 unfold bitsF
 rw [List.range_succ,List.foldl_append]
 rfl
theorem valsF_snoc (l:List Int) (x:Int):valsF (l++[x])=if 0<x then valsF l ||| 1 <<< (x-1).toNat else valsF l:=by
 unfold valsF
 rw [List.foldl_append]
 rfl
theorem bitsF_lt (tr:List Int) (k:Nat):bitsF tr k<2 ^ k:=by
 apply Nat.lt_pow_two_of_testBit
 intro i hi
 rw [Bool.eq_false_iff]
 unfold bitsF
 rw [Ne,bits_bit,Nat.zero_testBit,List.mem_range]
 rintro (h | h)
 ·cases h
 ·omega
theorem valsF_lt {l:List Int} (h:∀ x∈l,litOk x):valsF l<2 ^ 24:=by
 apply Nat.lt_pow_two_of_testBit
 intro i hi
 rw [Bool.eq_false_iff]
 unfold valsF
 rw [Ne,vals_bit,Nat.zero_testBit]
 rintro (h0 | hm)
 ·cases h0
 ·rcases h _ hm with h | h <;> omega
abbrev Decs:=List (List Int×Int)
def negsF (st:Decs):List Int:=(st.map fun p => -p.2).reverse
def madeF (st:Decs):List Int:=(st.map fun p=>p.2).reverse
def lensF (st:Decs):List Int:=(st.map fun p=>(p.1.length:Int)).reverse
def toldF (st:Decs):List (List Int):=(st.map fun p=>p.1).reverse
abbrev SolRes:=(Bool×Nat)×(List (List Int)×Bool)
def solveF (m:Nat) (ls:List (List Int)):Nat→List Int→Decs→List (List Int)→SolRes
 | 0,_,_,_=>((false,0),([],false))
 | f+1,tr,st,pf =>
  if 0≤(spreadR (ls++pf) tr).2 then
   match st with
   | []=>((false,0),(pf++[[]],true))
   | (t,v) :: r=>if 2000≤pf.length+1 then ((false,0),([],false)) else solveF m ls f t r (pf++[negsF ((t,v) :: r)])
  else
   if m<freeF m (spreadR (ls++pf) tr).1 then ((true,valsF (spreadR (ls++pf) tr).1),([],true))
   else solveF m ls f ((spreadR (ls++pf) tr).1++[(freeF m (spreadR (ls++pf) tr).1:Int)]) (((spreadR (ls++pf) tr).1,(freeF m (spreadR (ls++pf) tr).1:Int)) :: st) pf
section
variable {m f:Nat} {ls pf:List (List Int)} {tr now t:List Int} {st r:Decs} {b v:Int}
theorem solve_end (h:spreadR (ls++pf) tr=(now,b)) (hb:0≤b):solveF m ls (f+1) tr [] pf=((false,0),(pf++[[]],true)):=by
 simp only [solveF,h,if_pos hb]
theorem solve_limit (h:spreadR (ls++pf) tr=(now,b)) (hb:0≤b) (hl:2000≤pf.length+1):solveF m ls (f+1) tr ((t,v) :: r) pf=((false,0),([],false)):=by
 simp only [solveF,h,if_pos hb,if_pos hl]
theorem solve_back (h:spreadR (ls++pf) tr=(now,b)) (hb:0≤b) (hl:¬2000≤pf.length+1):solveF m ls (f+1) tr ((t,v) :: r) pf=solveF m ls f t r (pf++[negsF ((t,v) :: r)]):=by
 simp only [solveF,h,if_pos hb,if_neg hl]
theorem solve_done (h:spreadR (ls++pf) tr=(now,b)) (hb:b<0) (hv:m<freeF m now):solveF m ls (f+1) tr st pf=((true,valsF now),([],true)):=by
 simp only [solveF,h,if_neg (show ¬0≤b by omega),if_pos hv]
theorem solve_next (h:spreadR (ls++pf) tr=(now,b)) (hb:b<0) (hv:freeF m now≤m):solveF m ls (f+1) tr st pf=solveF m ls f (now++[(freeF m now:Int)]) ((now,(freeF m now:Int)) :: st) pf:=by
 simp only [solveF,h,if_neg (show ¬0≤b by omega),if_neg (show ¬m<freeF m now by omega)]
end
def ChainR:Decs→List Int→Prop
 | [],_=>True
 | (t,v) :: r,tr=>t++[v] <+: tr∧1≤v∧v≤24∧ChainR r t
theorem ChainR.to {st:Decs} {tr now:List Int} (h:ChainR st tr) (hp:tr <+: now):ChainR st now:=by
 cases st with
 | nil=>trivial
 | cons p r=>exact ⟨h.1.trans hp,h.2⟩
theorem ChainR.mem {st:Decs}:∀ {tr:List Int},ChainR st tr→∀ p∈st,p.1++[p.2] <+: tr∧1≤p.2∧p.2≤24:=by
 induction st with
 | nil=>intro tr _ p hp;cases hp
 | cons q r ih =>
  intro tr h p hp
  rcases List.mem_cons.1 hp with rfl | hp
  ·exact ⟨h.1,h.2.1,h.2.2.1⟩
  ·obtain ⟨h1,h2⟩:=ih h.2.2.2 p hp
   exact ⟨(h1.trans (List.prefix_append _ _)).trans h.1,h2⟩
theorem prefix_getD {t tr:List Int} {v:Int} (h:t++[v] <+: tr):t.length<tr.length∧tr.getD t.length 0=v∧tr.take t.length=t:=by
 obtain ⟨s,rfl⟩:=h
 refine ⟨by simp,?_,by simp⟩
 rw [List.getD_eq_getElem?_getD]
 simp
theorem Cons.pre {t tr:List Int} (h:Cons tr) (hp:t <+: tr):Cons t:=by
 obtain ⟨s,rfl⟩:=hp
 exact ⟨fun x hx=>h.1 x (List.mem_append.2 (.inl hx)),(List.pairwise_append.1 h.2).1⟩
theorem scan_some (tr:List Int):∀ (cs:List (List Int)) (i j:Nat) (x:Int),scanF tr cs i=some (j,x)→∃ c∈cs,(unitF tr c).1=x∧unitF tr c≠(0,true):=by
 intro cs
 induction cs with
 | nil=>intro i j x h;cases h
 | cons c cs ih =>
  intro i j x h
  unfold scanF at h
  split at h
  ·obtain ⟨d,hd,h2⟩:=ih (i+1) j x h
   exact ⟨d,List.mem_cons_of_mem _ hd,h2⟩
  ·rename_i hne
   have:=Option.some.inj h
   exact ⟨c,List.mem_cons_self ..,by injection this,hne⟩
def rngRows (m:Nat) (ls:List (List Int)):Prop:=∀ c∈ls,∀ x∈c,badB m x=false
theorem rng_lit {m:Nat} (hm:m≤24) {x:Int} (h:badB m x=false):litOk x:=by
 unfold badB at h
 have:=of_decide_eq_false h
 unfold litOk
 omega
theorem rngRows.ok {m:Nat} {ls:List (List Int)} (h:rngRows m ls) (hm:m≤24):okRows ls:=by
 intro k hk x hx
 refine rng_lit hm (h _ ?_ x hx)
 rw [List.getD_eq_getElem?_getD,List.getElem?_eq_getElem hk]
 exact List.getElem_mem hk
theorem rngRows.app {m:Nat} {ls ms:List (List Int)} (h:rngRows m ls) (h':rngRows m ms):rngRows m (ls++ms):=by
 intro c hc
 rcases List.mem_append.1 hc with hc | hc
 ·exact h c hc
 ·exact h' c hc
theorem spreadF_ok {m:Nat} (hm:m≤24) {ls:List (List Int)} (h:rngRows m ls):∀ (f:Nat) (tr:List Int),Cons tr→(∀ x∈tr,badB m x=false) →
  tr <+: (spreadF f ls tr).1∧Cons (spreadF f ls tr).1∧∀ x∈(spreadF f ls tr).1,badB m x=false:=by
 intro f
 induction f with
 | zero=>intro tr hc hr;exact ⟨List.prefix_refl _,hc,hr⟩
 | succ f ih =>
  intro tr hc hr
  unfold spreadF
  split
  ·exact ⟨List.prefix_refl _,hc,hr⟩
  ·rename_i i x hs
   split
   ·exact ⟨List.prefix_refl _,hc,hr⟩
   ·rename_i hx
    obtain ⟨c,hcm,h1,h2⟩:=scan_some tr ls 0 i x hs
    have hz:∀ y∈c,y≠0:=fun y hy=>by rcases rng_lit hm (h c hcm y hy) with h | h <;> omega
    have hu:unitGo tr 0 c=(x,true):=by
     rcases unit_left tr c 0 [] (.inl ⟨rfl,rfl⟩) hz with ⟨e,_⟩ | ⟨e,_⟩ | ⟨y,_,e,_⟩
     ·exact absurd e h2
     ·unfold unitF at h1;rw [e] at h1;exact absurd h1.symm hx
     ·unfold unitF at h1;rw [e] at h1;rw [e];simp only at h1;rw [h1]
    rcases unitGo_mem tr c 0 x hu hx with e | ⟨e1,e2,e3⟩
    ·exact absurd e hx
    ·have hb:=h c hcm x e1
     obtain ⟨p1,p2,p3⟩:=ih (tr++[x]) (hc.snoc (rng_lit hm hb) e2 e3) (by
      intro y hy
      rcases List.mem_append.1 hy with hy | hy
      ·exact hr y hy
      ·rw [List.mem_singleton.1 hy];exact hb)
     exact ⟨(List.prefix_append _ _).trans p1,p2,p3⟩
theorem spread_ok {m:Nat} (hm:m≤24) {ls:List (List Int)} (h:rngRows m ls) {tr now:List Int} {b:Int} (hc:Cons tr) (hr:∀ x∈tr,badB m x=false) (e:spreadR ls tr=(now,b)) :
  tr <+: now∧Cons now∧∀ x∈now,badB m x=false:=by
 have:=spreadF_ok hm h (25-tr.length) tr hc hr
 unfold spreadR at e
 rw [e] at this
 exact this
structure SolOk (m:Nat) (ls:List (List Int)) (tr:List Int) (st:Decs) (pf:List (List Int)):Prop where
 cons:Cons tr
 rng:∀ x∈tr,badB m x=false
 rows:rngRows m (ls++pf)
 ch:ChainR st tr
 few:pf.length<2000
theorem SolOk.spread {m:Nat} (hm:m≤24) {ls pf:List (List Int)} {tr now:List Int} {st:Decs} {b:Int} (h:SolOk m ls tr st pf) (e:spreadR (ls++pf) tr=(now,b)):SolOk m ls now st pf:=by
 obtain ⟨h1,h2,h3⟩:=spread_ok hm h.rows h.cons h.rng e
 exact ⟨h2,h3,h.rows,h.ch.to h1,h.few⟩
theorem negs_rng {m:Nat} {tr:List Int} {st:Decs} (h:ChainR st tr) (hr:∀ x∈tr,badB m x=false):∀ x∈negsF st,badB m x=false:=by
 intro x hx
 unfold negsF at hx
 rw [List.mem_reverse,List.mem_map] at hx
 obtain ⟨p,hp,rfl⟩:=hx
 obtain ⟨hpre,_,_⟩:=h.mem p hp
 have:=hr p.2 (hpre.subset (List.mem_append.2 (.inr (List.mem_singleton.2 rfl))))
 unfold badB at this ⊢
 have:=of_decide_eq_false this
 exact decide_eq_false (by omega)
theorem SolOk.back {m:Nat} {ls pf:List (List Int)} {now t:List Int} {v:Int} {r:Decs} (h:SolOk m ls now ((t,v) :: r) pf) (hl:¬2000≤pf.length+1):SolOk m ls t r (pf++[negsF ((t,v) :: r)]):=by
 have hpre:t <+: now:=(List.prefix_append _ _).trans h.ch.1
 refine ⟨h.cons.pre hpre,fun x hx=>h.rng x (hpre.subset hx),?_,h.ch.2.2.2,by rw [List.length_append,List.length_singleton];omega⟩
 rw [←List.append_assoc]
 refine h.rows.app fun c hc=>?_
 rw [List.mem_singleton.1 hc]
 exact negs_rng h.ch h.rng
theorem freeF_none {m:Nat} {now:List Int} (hv:freeF m now≤m):((freeF m now:Int))∉now ∧ -((freeF m now:Int))∉now:=by
 have h0:=(freeF_bd m now).2.2 hv
 unfold litT at h0
 constructor
 ·intro hx;rw [if_pos hx] at h0;cases h0
 ·intro hx
  by_cases hx':((freeF m now:Int))∈now
  ·rw [if_pos hx'] at h0;cases h0
  ·rw [if_neg hx',if_pos hx] at h0;cases h0
theorem SolOk.next {m:Nat} (hm:m≤24) {ls pf:List (List Int)} {now:List Int} {st:Decs} (h:SolOk m ls now st pf) (hv:freeF m now≤m):SolOk m ls (now++[(freeF m now:Int)]) ((now,(freeF m now:Int)) :: st) pf:=by
 have h1:=(freeF_bd m now).1
 obtain ⟨p1,p2⟩:=freeF_none hv
 refine ⟨h.cons.snoc (.inl ⟨by omega,by omega⟩) p1 p2,?_,h.rows,⟨List.prefix_refl _,by omega,by omega,h.ch⟩,h.few⟩
 intro x hx
 rcases List.mem_append.1 hx with hx | hx
 ·exact h.rng x hx
 ·rw [List.mem_singleton.1 hx]
  unfold badB
  exact decide_eq_false (by omega)
def solMu (tr:List Int) (pf:List (List Int)):Nat:=(2000-pf.length)*26+(25-tr.length)
theorem solMu_pos {m:Nat} {ls pf:List (List Int)} {tr:List Int} {st:Decs} (h:SolOk m ls tr st pf):0<solMu tr pf:=by
 have:=h.cons.len
 unfold solMu;omega
theorem solMu_back {t tr:List Int} {pf:List (List Int)} {c:List Int} (h:tr.length≤24) (hl:pf.length<2000):solMu t (pf++[c])<solMu tr pf:=by
 unfold solMu
 rw [List.length_append,List.length_singleton]
 omega
theorem solMu_next {tr now:List Int} {x:Int} {pf:List (List Int)} (h:tr <+: now) (h':(now++[x]).length≤24):solMu (now++[x]) pf<solMu tr pf:=by
 have:=h.length_le
 unfold solMu
 rw [List.length_append,List.length_singleton] at h' ⊢
 omega
theorem negs_len (st:Decs):(negsF st).length=st.length:=by unfold negsF;simp
theorem made_len (st:Decs):(madeF st).length=st.length:=by unfold madeF;simp
theorem lens_len (st:Decs):(lensF st).length=st.length:=by unfold lensF;simp
theorem told_len (st:Decs):(toldF st).length=st.length:=by unfold toldF;simp
theorem negs_snoc (p:List Int×Int) (st:Decs):negsF (p :: st)=negsF st++[-p.2]:=by unfold negsF;simp
theorem made_snoc (p:List Int×Int) (st:Decs):madeF (p :: st)=madeF st++[p.2]:=by unfold madeF;simp
theorem lens_snoc (p:List Int×Int) (st:Decs):lensF (p :: st)=lensF st++[(p.1.length:Int)]:=by unfold lensF;simp
theorem told_snoc (p:List Int×Int) (st:Decs):toldF (p :: st)=toldF st++[p.1]:=by unfold toldF;simp
theorem rev_at {α β:Type} (g:α→β) (l:List α) (k:Nat) (d:β) (hk:k<l.length):(l.map g).reverse.getD k d=g (l[l.length-1-k]'(by omega)):=by
 have h1:k<(l.map g).reverse.length:=by simpa using hk
 rw [List.getD_eq_getElem?_getD,List.getElem?_eq_getElem h1,Option.getD_some,List.getElem_reverse,List.getElem_map]
 simp only [List.length_map]
theorem made_neg (st:Decs) (k:Nat) (hk:k<st.length):(negsF st).getD k 0 = -((madeF st).getD k 0):=by
 unfold negsF madeF
 rw [rev_at _ st k 0 hk,rev_at _ st k 0 hk]
theorem chain_at {st:Decs} {tr:List Int} (h:ChainR st tr) (k:Nat) (hk:k<st.length):∃ n:Nat,(lensF st).getD k 0=n∧n<tr.length∧(negsF st).getD k 0 = -(tr.getD n 0):=by
 have hj:st.length-1-k<st.length:=by omega
 obtain ⟨hp,_⟩:=h.mem st[st.length-1-k] (List.getElem_mem hj)
 obtain ⟨q1,q2,_⟩:=prefix_getD hp
 refine ⟨st[st.length-1-k].1.length,?_,q1,?_⟩
 ·unfold lensF
  rw [rev_at _ st k 0 hk]
 ·unfold negsF
  rw [q2,rev_at _ st k 0 hk]
theorem made_bd {st:Decs} {tr:List Int} (h:ChainR st tr):∀ x∈madeF st,1≤x∧x≤24:=by
 intro x hx
 unfold madeF at hx
 rw [List.mem_reverse,List.mem_map] at hx
 obtain ⟨p,hp,rfl⟩:=hx
 exact (h.mem p hp).2
theorem lens_le {st:Decs} {tr:List Int} (h:ChainR st tr):st.length≤tr.length:=by
 induction st generalizing tr with
 | nil=>exact Nat.zero_le _
 | cons p r ih =>
  have h1:=(prefix_getD h.1).1
  have h2:=ih h.2.2.2
  simp only [List.length_cons]
  omega
theorem CheckOk.rng {m:Nat} {ls:List (List Int)} (h:CheckOk (m:Int) ls):rngRows m ls:=by
 intro c hc x hx
 obtain ⟨k,hk,rfl⟩:=List.getElem_of_mem hc
 have h2:=(h.rows k hk).2
 rw [List.getD_eq_getElem?_getD,List.getElem?_eq_getElem hk] at h2
 have:=List.any_eq_false.1 h2 x hx
 simpa using this
theorem SolOk.start {m:Nat} {ls:List (List Int)} (h:rngRows m ls):SolOk m ls [] [] [] :=
 ⟨Cons.nil,by simp,by rw [List.append_nil];exact h,trivial,by simp⟩
end Go.Proofs.YtojgbcmhdnappaaGreatDoor
