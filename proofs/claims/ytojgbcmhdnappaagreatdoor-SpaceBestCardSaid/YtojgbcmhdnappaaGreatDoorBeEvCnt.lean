/-
  A part of the proof: RuLits, ClOf, EvCnt. Conditions: none.
-/
import Derived.Test.YtojgbcmhdnappaaGreatDoorBeItLay
import Derived.Test.YtojgbcmhdnappaaGreatDoorBeRuSame
import Derived.Test.YtojgbcmhdnappaaGreatDoorBeArenaOut
namespace Go.Proofs.YtojgbcmhdnappaaGreatDoor
open Classical
def LitsIn (n:Nat) (z:List Int):Prop:=(∀ x∈z,x≠0∧(x.natAbs:Int)≤n)∧z.length≤n+2
theorem twinR_lits {nm:ByteArray} {k n:Nat} (hk:k<n):∀ (l:List ItR) (i:Nat),i+l.length≤n→∀ c∈twinR nm k l i,LitsIn n c.1
 | [],_,_,c,hc=>absurd hc List.not_mem_nil
 | a :: r,i,h,c,hc=>by
  rw [List.length_cons] at h
  have ih:=twinR_lits (nm:=nm) hk r (i+1) (by omega)
  rw [twinR] at hc
  split at hc
  ·rcases List.mem_cons.1 hc with rfl | hc
   ·refine ⟨fun x hx=>?_,by simp⟩
    simp only [List.mem_cons,List.not_mem_nil,or_false] at hx
    rcases hx with rfl | rfl <;> omega
   ·exact ih c hc
  ·exact ih c hc
theorem twinsR_lits {its:List ItR}:∀ (l:List ItR) (k:Nat),k+l.length≤its.length→∀ c∈twinsR its l k,LitsIn its.length c.1
 | [],_,_,c,hc=>absurd hc List.not_mem_nil
 | b :: r,k,h,c,hc=>by
  rw [List.length_cons] at h
  rw [twinsR] at hc
  rcases List.mem_append.1 hc with hc | hc
  ·exact twinR_lits (by omega) _ 0 (by rw [List.length_take];omega) c hc
  ·exact twinsR_lits r (k+1) (by omega) c hc
theorem amF_lits {nm:ByteArray} {rg:List (Nat×Nat)} {its:List ItR} {x:Int} (hx:x∈upF (amF nm rg its 0)):x≠0∧(x.natAbs:Int)≤its.length:=by
 unfold upF at hx
 obtain ⟨z,hz,rfl⟩:=List.mem_map.1 hx
 have:=amF_range nm rg its 0 z hz
 omega
theorem ruL_lits {its:List ItR} {x:LnR} (hx:x.k=2∨x.k=3→itL x∈its) (n:Nat):∀ c∈ruL its x n,LitsIn its.length c.1:=by
 intro c hc
 have h1:=amF_len x.name x.rg its 0
 have h2:=amF_len x.other x.rg its 0
 have hl:∀ zs:List Int,(upF zs).length=zs.length:=fun zs=>by unfold upF;rw [List.length_map]
 unfold ruL at hc
 split at hc
 ·rw [List.mem_singleton.1 hc]
  exact ⟨fun y hy=>amF_lits hy,by rw [hl];omega⟩
 ·split at hc
  ·rename_i h2k
   have hp:=posN_in (hx (.inl h2k))
   rw [List.mem_singleton.1 hc]
   refine ⟨fun y hy=>?_,by rw [List.length_cons,hl];omega⟩
   rcases List.mem_cons.1 hy with rfl | hy
   ·omega
   ·exact amF_lits hy
  ·split at hc
   ·rename_i h3k
    have hp:=posN_in (hx (.inr h3k))
    obtain ⟨z,hz,rfl⟩:=List.mem_map.1 hc
    have hr:=amF_range x.other x.rg its 0 z hz
    refine ⟨fun y hy=>?_,by simp⟩
    simp only [List.mem_cons,List.not_mem_nil,or_false] at hy
    rcases hy with rfl | rfl <;> omega
   ·exact absurd hc List.not_mem_nil
theorem rusL_lits {its:List ItR}:∀ (l:List LnR) (n:Nat),(∀ x∈l,x.k=2∨x.k=3→itL x∈its)→∀ c∈rusL its l n,LitsIn its.length c.1
 | [],_,_,c,hc=>absurd hc List.not_mem_nil
 | x :: r,n,h,c,hc=>by
  rw [rusL] at hc
  rcases List.mem_append.1 hc with hc | hc
  ·exact ruL_lits (h x List.mem_cons_self) n c hc
  ·exact rusL_lits r (n+1) (fun y hy=>h y (List.mem_cons_of_mem _ hy)) c hc
theorem rules_lits {ls:List LnR} {its0:List ItR} (h:catR ls=.inr its0):∀ c∈rulesF (itemsF ls) ls,LitsIn (itemsF ls).length c.1:=by
 intro c hc
 unfold rulesF at hc
 rcases List.mem_append.1 hc with hc | hc
 ·exact twinsR_lits _ 0 (by omega) c hc
 ·exact rusL_lits ls 0 (catR_in h) c hc
end Go.Proofs.YtojgbcmhdnappaaGreatDoor
namespace Go.Proofs.YtojgbcmhdnappaaGreatDoor
open Go.RowKit
def elZ:ElK Int:=⟨3,1,fun x=>[.int .i64 x],by decide,fun _=>rfl,fun _ u hu=>by rw [List.mem_singleton.1 hu];rfl⟩
theorem elZ_row (zs:List Int):elZ.row zs=intsV zs:=by
 induction zs with
 | nil=>rfl
 | cons a r ih=>rw [ElK.row_cons,ih];rfl
section
variable {w:World} {base n c:Nat} {A:Option Addr}
theorem OwnI.toK {v:Value} {zs:List Int} (h:OwnI w base v zs):OwnK elZ w base v zs:=by
 unfold OwnK
 rw [elZ_row]
 exact h
theorem OwnI.ints {zs:List Int} (h:OwnI w base (.slice A n c) zs) (hz:∀ z∈zs,I64 z):n≤c∧Ints w w.heap.size A n zs:=by
 have hr:=h.row
 rcases h.toK.form with ⟨e,e2⟩ | ⟨g,cap,e,_,hlc,hcm,_⟩
 ·injection e with e1 e3 e4
  subst e1 e3 e4
  exact ⟨Nat.le_refl _,hr.1,Nat.zero_le _,hz,hr.2⟩
 ·injection e with e1 e3 e4
  subst e1 e3 e4
  exact ⟨hlc,hr.1,Nat.le_trans hlc hcm,hz,hr.2⟩
theorem elC_row (qs:List ClQ):elC.row qs=qs.map slC:=by
 induction qs with
 | nil=>rfl
 | cons a r ih=>rw [ElK.row_cons,ih];rfl
theorem ClK.cls {cs:List (List Int)} (h:ClK w base (.slice A n c) cs) (hz:∀ z∈cs,∀ x∈z,I64 x):Cls w w.heap.size A n cs:=by
 obtain ⟨qs,rfl,h2,h3⟩:=h
 obtain ⟨hn,hr⟩:=h2.reads
 subst hn
 have hm:qs.length≤maxLen:=by
  rcases h2.form with ⟨_,e⟩ | ⟨_,cap,_,_,h4,h5,_⟩
  ·rw [e];exact Nat.zero_le _
  ·exact Nat.le_trans h4 h5
 refine ⟨by rw [List.length_map],hm,qs.map slC,by rw [←elC_row];exact hr,fun k hk=>?_⟩
 have h4:=OwnI.ints (A:=qs[k].2.1) (n:=qs[k].2.2.1) (c:=qs[k].2.2.2) (h3 qs[k] (List.getElem_mem hk)) (hz _ (List.mem_map.2 ⟨_,List.getElem_mem hk,rfl⟩))
 refine ⟨qs[k].2.1,qs[k].2.2.1,qs[k].2.2.2,?_,h4.1,?_⟩
 ·rw [List.getElem?_map,List.getElem?_eq_getElem hk]
  rfl
 ·rw [List.getD_eq_getElem?_getD,List.getElem?_map,List.getElem?_eq_getElem hk]
  exact h4.2
theorem ClK.at2 {cs:List (List Int)} (h:ClK w base (.slice A n c) cs) {k:Nat} (hk:k<cs.length):∃ g A' n' c',A=some ⟨g,0,none⟩∧g<w.heap.size∧w.cell? ⟨g,k,none⟩=some (.slice A' n' c')∧OwnI w 0 (.slice A' n' c') cs[k]:=by
 have h':=h
 obtain ⟨g,A',n',c',rfl,h1,h2⟩:=h.at_ hk
 obtain ⟨qs,_,h3,_⟩:=h'
 exact ⟨g,A',n',c',rfl,(h3.lt g rfl).2,h1,h2⟩
end
end Go.Proofs.YtojgbcmhdnappaaGreatDoor
namespace Go.Proofs.YtojgbcmhdnappaaGreatDoor
def denN (A:Ar) (v:Int→Bool):Nat→Int→Bool
 | 0,h=>h==1
 | n+1,h=>match gotA A h with | some d=>denN A v n (if v d.var then d.high else d.low) | none=>h==1
def den (A:Ar) (h:Int) (v:Int→Bool):Bool:=denN A v 25 h
def upd (v:Int→Bool) (x:Int) (b:Bool):Int→Bool:=fun y=>if y=x then b else v y
def dep (A:Ar) (h:Int):Nat:=(24-topA A h).toNat
def RedA (A:Ar):Prop:=∀ h d,gotA A h=some d→d.low≠d.high
section
variable {A:Ar} {h k:Int} {d:Nd} {v u:Int→Bool}
theorem top_some (e:gotA A h=some d):topA A h=d.var:=by unfold topA;rw [e]
theorem top_none (e:gotA A h=none):topA A h=24:=by unfold topA;rw [e]
theorem WfA.dep (hw:WfA A) (e:gotA A h=some d):0≤topA A h∧topA A h<24:=by rw [top_some e];exact hw.var _ _ e
theorem WfA.topR (hw:WfA A) (h:Int):0≤topA A h∧topA A h≤24:=by
 cases e:gotA A h with
 | none=>rw [top_none e];omega
 | some d=>have:=hw.dep e;omega
theorem denN_none (e:gotA A h=none):∀ n,denN A v n h=(h==1)
 | 0=>rfl
 | n+1=>by show (match gotA A h with | some d=>_ | none=>_)=_;rw [e]
theorem denN_some (e:gotA A h=some d) (n:Nat):denN A v (n+1) h=denN A v n (if v d.var then d.high else d.low):=by
 show (match gotA A h with | some d=>_ | none=>_)=_;rw [e]
theorem WfA.kid (hw:WfA A) (e:gotA A h=some d) (b:Bool):d.var<topA A (if b then d.high else d.low)∧hasA A (if b then d.high else d.low)=true:=by
 cases b
 ·exact ⟨(hw.low _ _ e).2,(hw.low _ _ e).1⟩
 ·exact ⟨(hw.high _ _ e).2,(hw.high _ _ e).1⟩
theorem denN_eq (hw:WfA A):∀ (n m:Nat) (h:Int),dep A h≤n→dep A h≤m→denN A v n h=denN A v m h:=by
 intro n
 induction n with
 | zero =>
  intro m h h1 _
  have hn:gotA A h=none:=by
   cases e:gotA A h with
   | none=>rfl
   | some d=>have:=hw.dep e;unfold dep at h1;omega
  rw [denN_none hn,denN_none hn]
 | succ n ih =>
  intro m h h1 h2
  cases e:gotA A h with
  | none=>rw [denN_none e,denN_none e]
  | some d =>
   have ht:=hw.dep e
   have hk:=(hw.kid e (v d.var)).1
   have he:=top_some e
   unfold dep at h1 h2
   obtain ⟨m',rfl⟩:∃ m',m=m'+1:=⟨m-1,by omega⟩
   rw [denN_some e,denN_some e]
   exact ih m' _ (by unfold dep;omega) (by unfold dep;omega)
theorem den_none (e:gotA A h=none):den A h v=(h==1):=denN_none e 25
theorem den_some (hw:WfA A) (e:gotA A h=some d):den A h v=den A (if v d.var then d.high else d.low) v:=by
 unfold den
 rw [denN_some e]
 have h1:=hw.dep e
 have hk:=(hw.kid e (v d.var)).1
 have he:=top_some e
 exact denN_eq hw _ _ _ (by unfold dep;omega) (by unfold dep;omega)
theorem den_dep (hw:WfA A):∀ (n:Nat) (h:Int),dep A h≤n→(∀ x,topA A h≤x→v x=u x)→den A h v=den A h u:=by
 intro n
 induction n with
 | zero =>
  intro h h1 _
  have hn:gotA A h=none:=by
   cases e:gotA A h with
   | none=>rfl
   | some d=>have:=hw.dep e;unfold dep at h1;omega
  rw [den_none hn,den_none hn]
 | succ n ih =>
  intro h h1 hx
  cases e:gotA A h with
  | none=>rw [den_none e,den_none e]
  | some d =>
   have ht:=hw.dep e
   have hk:=(hw.kid e (v d.var)).1
   have he:=top_some e
   unfold dep at h1
   rw [den_some hw e,den_some hw e,←hx d.var (by omega)]
   exact ih _ (by unfold dep;omega) (fun x hxx=>hx x (by omega))
theorem den_upd (hw:WfA A) {x:Int} {b:Bool} (hx:x<topA A h):den A h (upd v x b)=den A h v :=
 den_dep hw _ h (Nat.le_refl _) (fun y hy=>by unfold upd;rw [if_neg (by omega)])
theorem upd_at (x:Int) (b:Bool):upd v x b x=b:=if_pos rfl
theorem den_kid (hw:WfA A) (e:gotA A h=some d) (b:Bool):den A (if b then d.high else d.low) v=den A h (upd v d.var b):=by
 rw [den_some hw e,upd_at,den_upd hw (hw.kid e b).1]
theorem has_none (h1:hasA A h=true) (e:gotA A h=none):h=0∨h=1:=by
 unfold hasA at h1
 rw [e] at h1
 simp at h1
 exact h1
theorem has_some (e:gotA A h=some d):hasA A h=true:=by unfold hasA;rw [e];simp
theorem has_ends:hasA A 0=true∧hasA A 1=true:=⟨rfl,by unfold hasA;simp⟩
end
def ExtA (A A':Ar):Prop:=A'.length=A.length∧∀ h d,gotA A h=some d→gotA A' h=some d
theorem ExtA.refl (A:Ar):ExtA A A:=⟨rfl,fun _ _ e=>e⟩
theorem ExtA.trans {A B C:Ar} (h1:ExtA A B) (h2:ExtA B C):ExtA A C:=⟨h2.1.trans h1.1,fun h d e=>h2.2 h d (h1.2 h d e)⟩
section
variable {A A':Ar} {h:Int} {d:Nd} {v:Int→Bool}
theorem ExtA.got (hx:ExtA A A') (h1:hasA A h=true):gotA A' h=gotA A h:=by
 cases e:gotA A h with
 | some d=>exact hx.2 h d e
 | none =>
  have h2:h<2:=by rcases has_none h1 e with rfl | rfl <;> omega
  unfold gotA
  rw [if_neg (by omega)]
theorem ExtA.has (hx:ExtA A A') (h1:hasA A h=true):hasA A' h=true:=by
 have:=hx.got h1
 unfold hasA at *
 rw [this]
 exact h1
theorem ExtA.top (hx:ExtA A A') (h1:hasA A h=true):topA A' h=topA A h:=by unfold topA;rw [hx.got h1]
theorem ExtA.den (hx:ExtA A A') (hw:WfA A) (hw':WfA A'):∀ (n:Nat) (h:Int),dep A h≤n→hasA A h=true→den A' h v=den A h v:=by
 intro n
 induction n with
 | zero =>
  intro h h1 p
  have hn:gotA A h=none:=by
   cases e:gotA A h with
   | none=>rfl
   | some d=>have:=hw.dep e;unfold dep at h1;omega
  rw [den_none hn,den_none ((hx.got p).trans hn)]
 | succ n ih =>
  intro h h1 p
  cases e:gotA A h with
  | none=>rw [den_none e,den_none ((hx.got p).trans e)]
  | some d =>
   have ht:=hw.dep e
   have hk:=hw.kid e (v d.var)
   have he:=top_some e
   unfold dep at h1
   rw [den_some hw e,den_some hw' ((hx.got p).trans e)]
   exact ih _ (by unfold dep;omega) hk.2
theorem ExtA.same (hx:ExtA A A') (hw:WfA A) (hw':WfA A') (p:hasA A h=true):Go.Proofs.YtojgbcmhdnappaaGreatDoor.den A' h v=Go.Proofs.YtojgbcmhdnappaaGreatDoor.den A h v:=hx.den hw hw' _ h (Nat.le_refl _) p
end
end Go.Proofs.YtojgbcmhdnappaaGreatDoor
namespace Go.Proofs.YtojgbcmhdnappaaGreatDoor
theorem inj_len {α β:Type} [DecidableEq β] {f:α→β}:∀ (l:List α) (L:List β),l.Nodup→(∀ x∈l,∀ y∈l,f x=f y→x=y)→(∀ x∈l,f x∈L)→l.length≤L.length
 | [],L,_,_,_=>Nat.zero_le _
 | a :: l,L,hn,hi,hm=>by
  have ha:=hm a List.mem_cons_self
  have h1:=List.length_erase_of_mem ha
  have h0:0<L.length:=List.length_pos_of_mem ha
  have h2:=inj_len l (L.erase (f a)) (List.nodup_cons.1 hn).2 (fun x hx y hy=>hi x (List.mem_cons_of_mem _ hx) y (List.mem_cons_of_mem _ hy)) (fun x hx=>by
   refine (List.mem_erase_of_ne (fun e=>?_)).2 (hm x (List.mem_cons_of_mem _ hx))
   have:=hi x (List.mem_cons_of_mem _ hx) a List.mem_cons_self e
   exact (List.nodup_cons.1 hn).1 (this ▸ hx))
  simp only [List.length_cons]
  omega
def isV (A:Ar) (p:Int→Bool) (k:Nat):Bool:=match A.getD k none with | some n=>p n.var | none=>false
def atV (A:Ar) (p:Int→Bool):List Nat:=(List.range A.length).filter (isV A p)
theorem mem_atV {A:Ar} {p:Int→Bool} {k:Nat}:k∈atV A p↔∃ n,A.getD k none=some n∧p n.var=true:=by
 unfold atV
 rw [List.mem_filter,List.mem_range]
 unfold isV
 constructor
 ·rintro ⟨_,h⟩
  cases e:A.getD k none with
  | none=>rw [e] at h;cases h
  | some n=>rw [e] at h;exact ⟨n,rfl,h⟩
 ·rintro ⟨n,e,h⟩
  exact ⟨gotA_len e,by rw [e];exact h⟩
theorem atV_nodup (A:Ar) (p:Int→Bool):(atV A p).Nodup:=List.nodup_range.filter _
def numV (A:Ar) (p:Int→Bool):Nat:=(atV A p).length
theorem filter_two {α:Type} (p q:α→Bool):∀ l:List α,(l.filter fun x=>p x||q x).length≤(l.filter p).length+(l.filter q).length
 | []=>Nat.le_refl _
 | a :: l=>by
  have:=filter_two p q l
  simp only [List.filter_cons]
  cases p a <;> cases q a <;> simp <;> omega
theorem isV_or (A:Ar) (p q:Int→Bool):isV A (fun x=>p x||q x)=fun k=>isV A p k||isV A q k:=by
 funext k
 unfold isV
 cases A.getD k none <;> rfl
theorem numV_or (A:Ar) (p q:Int→Bool):numV A (fun x=>p x||q x)≤numV A p+numV A q:=by
 unfold numV atV
 rw [isV_or]
 exact filter_two _ _ _
theorem numV_mono {A A':Ar} {p q:Int→Bool} (h:∀ k n,A.getD k none=some n→p n.var=true→∃ n',A'.getD k none=some n'∧q n'.var=true):numV A p≤numV A' q :=
 inj_len (f:=id) _ _ (atV_nodup A p) (fun _ _ _ _ e=>e) (fun x hx=>by
  obtain ⟨n,e,hp⟩:=mem_atV.1 hx
  exact mem_atV.2 (h x n e hp))
theorem cnt_range:∀ (l:Ar),l.countP Option.isSome=((List.range l.length).filter fun k=>(l.getD k none).isSome).length
 | []=>rfl
 | a :: l=>by
  have ih:=cnt_range l
  have h2:(List.filter (fun k=>((a :: l).getD k none).isSome) (List.map Nat.succ (List.range l.length))).length=((List.range l.length).filter fun k=>(l.getD k none).isSome).length:=by
   rw [List.filter_map,List.length_map]
   rfl
  rw [List.length_cons,List.range_succ_eq_map,List.countP_cons,ih,←h2,List.filter_cons]
  cases a <;> simp
theorem cnt_numV (A:Ar):cntA A=numV A (fun _=>true):=by
 unfold cntA numV atV
 have:isV A (fun _=>true)=fun k=>(A.getD k none).isSome:=by
  funext k
  unfold isV
  cases A.getD k none <;> rfl
 rw [this]
 exact cnt_range A
theorem sum_same {α:Type} (c:Nat):∀ L:List α,(L.map fun _=>c).sum=L.length*c
 | []=>by simp
 | _ :: L=>by
  have:=sum_same c L
  rw [List.map_cons,List.sum_cons,this,List.length_cons,Nat.succ_mul]
  omega
theorem numV_pairs {A:Ar} (hw:WfA A) (v:Int):numV A (fun x=>x==v)≤(2+numV A (fun x=>decide (v<x)))*(2+numV A (fun x=>decide (v<x))):=by
 have hlen:∀ H:List Int,(H.flatMap fun a=>H.map fun b=>(a,b)).length=H.length*H.length:=fun H=>by
  rw [List.length_flatMap]
  simp only [List.length_map]
  exact sum_same _ H
 have:=inj_len (f:=fun k:Nat=>match A.getD k none with | some n=>(n.low,n.high) | none=>(0,0)) (atV A (fun x=>x==v))
  (((0:Int) :: 1 :: (atV A (fun x=>decide (v<x))).map fun k:Nat=>(k:Int)+2).flatMap fun a=>((0:Int) :: 1 :: (atV A (fun x=>decide (v<x))).map fun k:Nat=>(k:Int)+2).map fun b=>(a,b))
  (atV_nodup _ _) (fun x hx y hy e=>by
   obtain ⟨n,e1,p1⟩:=mem_atV.1 hx
   obtain ⟨m,e2,p2⟩:=mem_atV.1 hy
   simp only [e1,e2,Prod.mk.injEq] at e
   have hnm:n=m:=by
    obtain ⟨a,b,c⟩:=n
    obtain ⟨a',b',c'⟩:=m
    simp only [beq_iff_eq] at p1 p2
    simp only at e
    rw [p1,p2,e.1,e.2]
   subst hnm
   have:=hw.once ((x:Int)+2) ((y:Int)+2) n (gotA_k.trans e1) (gotA_k.trans e2)
   omega) (fun x hx=>by
   obtain ⟨n,e1,p1⟩:=mem_atV.1 hx
   have hg:=gotA_k.trans e1
   have hin:∀ h,hasA A h=true→n.var<topA A h→h∈((0:Int) :: 1 :: (atV A (fun x=>decide (v<x))).map fun k:Nat=>(k:Int)+2):=by
    intro h hh ht
    cases e:gotA A h with
    | none=>rcases has_none hh e with rfl | rfl <;> simp
    | some d =>
     obtain ⟨k,rfl,_,e3⟩:=gotA_is e
     rw [top_some e] at ht
     refine List.mem_cons_of_mem _ (List.mem_cons_of_mem _ (List.mem_map.2 ⟨k,mem_atV.2 ⟨d,e3,?_⟩,rfl⟩))
     simp only [beq_iff_eq] at p1
     simp only [decide_eq_true_eq]
     omega
   simp only [e1]
   refine List.mem_flatMap.2 ⟨n.low,hin _ (hw.low _ _ hg).1 (hw.low _ _ hg).2,List.mem_map.2 ⟨n.high,hin _ (hw.high _ _ hg).1 (hw.high _ _ hg).2,rfl⟩⟩)
 rw [hlen] at this
 simp only [List.length_cons,List.length_map] at this
 unfold numV
 have e:(atV A fun x=>decide (v<x)).length+1+1=2+(atV A fun x=>decide (v<x)).length:=by omega
 rw [e] at this
 exact this
def VarA (A:Ar) (vars:Int):Prop:=∀ h d,gotA A h=some d→d.var<vars
theorem numV_none {A:Ar} {p:Int→Bool} (h:∀ k n,A.getD k none=some n→p n.var=false):numV A p=0:=by
 unfold numV
 have:atV A p=[]:=by
  refine List.eq_nil_iff_forall_not_mem.2 fun k hk=>?_
  obtain ⟨n,e,hp⟩:=mem_atV.1 hk
  rw [h k n e] at hp
  cases hp
 rw [this]
 rfl
def low3 (A:Ar):Nat:=numV A (fun x=>decide (x<5))
theorem cnt_le {A:Ar} (hw:WfA A) (hv:VarA A 8):cntA A≤low3 A+1804:=by
 have hgt:∀ v:Int,numV A (fun x=>decide (v<x))≤numV A (fun x=>x==v+1)+numV A (fun x=>decide (v+1<x)):=fun v =>
  Nat.le_trans (numV_mono fun k n e h=>⟨n,e,by simp only [decide_eq_true_eq,Bool.or_eq_true,beq_iff_eq] at h ⊢;omega⟩) (numV_or A (fun x=>x==v+1) (fun x=>decide (v+1<x)))
 have h5:numV A (fun x=>decide ((7:Int)<x))=0:=numV_none fun k n e=>by
  have:=hv ((k:Int)+2) n (gotA_k.trans e)
  exact decide_eq_false (by omega)
 have a5:=numV_pairs hw 7
 have g4:=hgt 6
 have a4:=numV_pairs hw 6
 have g3:=hgt 5
 have a3:=numV_pairs hw 5
 have g2:=hgt 4
 rw [h5] at a5
 have e4:(6:Int)+1=7:=rfl
 have e3:(5:Int)+1=6:=rfl
 have e2:(4:Int)+1=5:=rfl
 rw [e4,h5] at g4
 rw [e3] at g3
 rw [e2] at g2
 have b4:numV A (fun x=>decide ((6:Int)<x))≤4:=by omega
 have c4:numV A (fun x=>x==(6:Int))≤36:=Nat.le_trans a4 (Nat.le_trans (Nat.mul_le_mul (Nat.add_le_add_left b4 2) (Nat.add_le_add_left b4 2)) (by decide))
 have b3:numV A (fun x=>decide ((5:Int)<x))≤40:=by omega
 have c3:numV A (fun x=>x==(5:Int))≤1764:=Nat.le_trans a3 (Nat.le_trans (Nat.mul_le_mul (Nat.add_le_add_left b3 2) (Nat.add_le_add_left b3 2)) (by decide))
 have b2:numV A (fun x=>decide ((4:Int)<x))≤1804:=by omega
 have hall:cntA A≤numV A (fun x=>decide (x<5))+numV A (fun x=>decide ((4:Int)<x)):=by
  rw [cnt_numV]
  refine Nat.le_trans (numV_mono fun k n e _=>⟨n,e,?_⟩) (numV_or A (fun x=>decide (x<5)) (fun x=>decide ((4:Int)<x)))
  simp only [Bool.or_eq_true,decide_eq_true_eq]
  omega
 unfold low3
 omega
theorem free_full {A:Ar} (h:freeA A=none):cntA A=A.length:=by
 have:=find_none h
 unfold cntA
 refine List.countP_eq_length.2 fun x hx=>?_
 have:=this x hx
 cases x <;> simp_all
end Go.Proofs.YtojgbcmhdnappaaGreatDoor
