/-
  A part of the proof: CatLaw, LnRow, Calm. Conditions: none.
-/
import Derived.Test.YtojgbcmhdnappaaGreatDoorAlCatLay
import Derived.Test.YtojgbcmhdnappaaGreatDoorAlName
import Derived.Test.YtojgbcmhdnappaaGreatDoorAlSpHas
import Derived.Sort.Walk0
import Derived.Test.YtojgbcmhdnappaaGreatDoorAlPcs
import Derived.Test.YtojgbcmhdnappaaGreatDoorAlCatLine
import Derived.Test.YtojgbcmhdnappaaGreatDoorAlFr
import Derived.Deep.QuietTactic
import Derived.BigQuiet
namespace Go.Proofs.YtojgbcmhdnappaaGreatDoor
open Classical
abbrev ItR:=ByteArray×Int×Int×Int
def itL (x:LnR):ItR:=(x.name,x.ver 0,x.ver 1,x.ver 2)
def itV (a:ItR):Nat→Int:=fun j=>if j=0 then a.2.1 else if j=1 then a.2.2.1 else a.2.2.2
theorem itV_arr (a:ItR):verArr (itV a)=#[.int .i64 a.2.1,.int .i64 a.2.2.1,.int .i64 a.2.2.2]:=rfl
def cmpS (a b:ByteArray):Int:=if Op.bytesLess a.toList b.toList then -1 else if Op.bytesLess b.toList a.toList then 1 else 0
def cfI (a b:ItR):Int:=if cmpS a.1 b.1≠0 then cmpS a.1 b.1 else cmpV (itV b) (itV a)
def ltI (a b:ItR):Bool:=decide (cfI a b<0)
def LtP (a b:ItR):Prop:=a.1.data.toList<b.1.data.toList∨a.1.data.toList=b.1.data.toList∧(b.2.1<a.2.1∨b.2.1=a.2.1∧(b.2.2.1<a.2.2.1∨b.2.2.1=a.2.2.1∧b.2.2.2<a.2.2.2))
theorem bytes_less (a b:ByteArray):Op.bytesLess a.toList b.toList=decide (a.data.toList<b.data.toList):=by rw [ByteArray.toList_eq,ByteArray.toList_eq,bytesLess_eq]
theorem lists_tri (a b:List UInt8):a<b∨a=b∨b<a:=by
 by_cases h1:a<b
 ·exact .inl h1
 ·by_cases h2:b<a
  ·exact .inr (.inr h2)
  ·exact .inr (.inl (List.le_antisymm h2 h1))
theorem cmpV_lt (f g:Nat→Int):cmpV f g<0↔(f 0<g 0∨f 0=g 0∧(f 1<g 1∨f 1=g 1∧f 2<g 2)):=by
 have h0:=cmp1_cases (f 0) (g 0)
 have h1:=cmp1_cases (f 1) (g 1)
 have h2:=cmp1_cases (f 2) (g 2)
 unfold cmpV
 generalize cmp1 (f 0) (g 0)=a at *
 generalize cmp1 (f 1) (g 1)=b at *
 generalize cmp1 (f 2) (g 2)=c at *
 split
 ·omega
 ·split <;> omega
theorem ltI_iff (a b:ItR):ltI a b=true↔LtP a b:=by
 unfold ltI cfI cmpS LtP
 rw [bytes_less,bytes_less]
 rcases lists_tri a.1.data.toList b.1.data.toList with h | h | h
 ·simp [h]
 ·have h1:¬a.1.data.toList<b.1.data.toList:=by rw [h];exact List.lt_irrefl _
  have h2:¬b.1.data.toList<a.1.data.toList:=by rw [h];exact List.lt_irrefl _
  rw [decide_eq_false h1,decide_eq_false h2]
  simp only [Bool.false_eq_true,if_false,ne_eq,not_true_eq_false,decide_eq_true_eq]
  rw [cmpV_lt]
  show _↔_∨_∧_
  constructor
  ·intro k;exact .inr ⟨h,k⟩
  ·rintro (k | k)
   ·exact absurd k h1
   ·exact k.2
 ·have h1:¬a.1.data.toList<b.1.data.toList:=fun k=>List.lt_irrefl _ (List.lt_trans h k)
  have h2:a.1.data.toList≠b.1.data.toList:=fun e=>by rw [e] at h;exact List.lt_irrefl _ h
  rw [decide_eq_false h1,decide_eq_true h]
  simp [h1,h2]
theorem LtP.irrefl (a:ItR):¬LtP a a:=by
 rintro (h | ⟨_,h⟩)
 ·exact List.lt_irrefl _ h
 ·omega
theorem LtP.trans {a b c:ItR} (h:LtP a b) (k:LtP b c):LtP a c:=by
 rcases h with h | ⟨h,h'⟩ <;> rcases k with k | ⟨k,k'⟩
 ·exact .inl (List.lt_trans h k)
 ·exact .inl (by rw [←k];exact h)
 ·exact .inl (by rw [h];exact k)
 ·exact .inr ⟨h.trans k,by omega⟩
theorem LtP.tri (a b:ItR):LtP a b∨a=b∨LtP b a:=by
 rcases lists_tri a.1.data.toList b.1.data.toList with h | h | h
 ·exact .inl (.inl h)
 ·by_cases e:a.2=b.2
  ·refine .inr (.inl (Prod.ext ?_ e))
   have h':=bytes_back _ a.1 h.symm
   have h'':=bytes_back _ b.1 rfl
   exact h'.symm.trans h''
  ·have e':¬(a.2.1=b.2.1∧a.2.2.1=b.2.2.1∧a.2.2.2=b.2.2.2):=fun k=>e (Prod.ext k.1 (Prod.ext k.2.1 k.2.2))
   rcases (show (b.2.1<a.2.1∨b.2.1=a.2.1∧(b.2.2.1<a.2.2.1∨b.2.2.1=a.2.2.1∧b.2.2.2<a.2.2.2))∨(a.2.1<b.2.1∨a.2.1=b.2.1∧(a.2.2.1<b.2.2.1∨a.2.2.1=b.2.2.1∧a.2.2.2<b.2.2.2)) by omega) with k | k
   ·exact .inl (.inr ⟨h,k⟩)
   ·exact .inr (.inr (.inr ⟨h.symm,k⟩))
 ·exact .inr (.inr (.inl h))
theorem swoI:Sort.SWO ltI where
 irrefl x:=by
  rw [←Bool.not_eq_true,ltI_iff];exact LtP.irrefl x
 trans x y z h k:=by
  rw [ltI_iff] at h k ⊢;exact h.trans k
 ntrans x y z h k:=by
  rw [←Bool.not_eq_true,ltI_iff] at h k ⊢
  intro c
  rcases LtP.tri x y with a | rfl | a
  ·exact h a
  ·exact k c
  ·exact k (a.trans c)
def insT (l:List ItR) (x:ItR):List ItR:=l.takeWhile (fun y=>!ltI x y)++x :: l.dropWhile (fun y=>!ltI x y)
def srtI (its:List ItR):List ItR:=its.foldl insT []
def RiseT (l:List ItR):Prop:=l.Pairwise fun a b=>ltI b a=false
theorem insT_perm (l:List ItR) (x:ItR):(insT l x).Perm (x :: l):=by
 unfold insT
 refine (List.perm_middle).trans (List.Perm.cons x ?_)
 rw [List.takeWhile_append_dropWhile]
theorem insT_rise:∀ {l:List ItR},RiseT l→∀ x,RiseT (insT l x)
 | [],_,x=>by simp [insT,RiseT]
 | y :: l,h,x=>by
  unfold RiseT at h
  rw [List.pairwise_cons] at h
  by_cases c:ltI x y=true
  ·have e:insT (y :: l) x=x :: y :: l:=by simp [insT,c]
   rw [e]
   unfold RiseT
   rw [List.pairwise_cons,List.pairwise_cons]
   refine ⟨fun z hz=>?_,h⟩
   rw [←Bool.not_eq_true,ltI_iff]
   rw [ltI_iff] at c
   intro k
   rcases List.mem_cons.1 hz with rfl | hz
   ·exact LtP.irrefl _ (k.trans c)
   ·have h9:=h.1 z hz
    rw [←Bool.not_eq_true,ltI_iff] at h9
    exact h9 (k.trans c)
  ·have e:insT (y :: l) x=y :: insT l x:=by simp [insT,c]
   rw [e]
   unfold RiseT
   rw [List.pairwise_cons]
   refine ⟨fun z hz=>?_,insT_rise h.2 x⟩
   rcases List.mem_cons.1 ((insT_perm l x).mem_iff.1 hz) with rfl | hz
   ·simpa using c
   ·exact h.1 z hz
theorem foldT_spec:∀ (its l:List ItR),RiseT l→RiseT (its.foldl insT l)∧(its.foldl insT l).Perm (l++its)
 | [],l,h=>⟨h,by simp⟩
 | x :: r,l,h=>by
  obtain ⟨h1,h2⟩:=foldT_spec r _ (insT_rise h x)
  refine ⟨h1,h2.trans ?_⟩
  refine ((insT_perm l x).append_right r).trans ?_
  exact (List.perm_middle (a:=x) (l₁:=l) (l₂:=r)).symm
theorem srtI_spec (its:List ItR):RiseT (srtI its)∧(srtI its).Perm its:=foldT_spec its [] List.Pairwise.nil
theorem rise_one {l k:List ItR} (hl:RiseT l) (hk:RiseT k) (hp:l.Perm k):l=k :=
 List.Perm.eq_of_pairwise (le:=fun a b=>ltI b a=false) (fun a b _ _ h1 h2=>by
  rw [←Bool.not_eq_true,ltI_iff] at h1 h2
  rcases LtP.tri a b with h | h | h
  ·exact absurd h h2
  ·exact h
  ·exact absurd h h1) hl hk hp
theorem insT_at {l:List ItR} {x:ItR} {i:Nat} (h:RiseT l) (hi:i≤l.length) (h1:∀ j (hj:j<l.length),i≤j→ltI x l[j]=true) (h2:i=0∨∃ hj:i-1<l.length,ltI x l[i-1]=false):insT l x=l.take i++x :: l.drop i:=by
 have hlow:∀ y∈l.take i,(!ltI x y)=true:=by
  intro y hy
  rcases h2 with rfl | ⟨hj,h2⟩
  ·simp at hy
  ·obtain ⟨j,hj',rfl⟩:=List.mem_iff_getElem.1 hy
   have hji:j<i:=by simp at hj';omega
   rw [List.getElem_take]
   rw [Bool.not_eq_true',←Bool.not_eq_true,ltI_iff]
   rw [←Bool.not_eq_true,ltI_iff] at h2
   intro c
   rcases Nat.lt_or_ge j (i-1) with hlt | hge
   ·have h9:=(List.pairwise_iff_getElem.1 h) j (i-1) (by omega) hj hlt
    rw [←Bool.not_eq_true,ltI_iff] at h9
    rcases LtP.tri l[j] l[i-1] with k | k | k
    ·exact h2 (c.trans k)
    ·rw [k] at c;exact h2 c
    ·exact h9 k
   ·have e:j=i-1:=by omega
    subst e
    exact h2 c
 have hup:l.drop i=[]∨∃ y r,l.drop i=y :: r∧ltI x y=true:=by
  rcases Nat.lt_or_ge i l.length with hlt | hge
  ·exact .inr ⟨l[i],l.drop (i+1),by rw [List.drop_eq_getElem_cons hlt],h1 i hlt (Nat.le_refl _)⟩
  ·exact .inl (List.drop_eq_nil_of_le hge)
 unfold insT
 have e1:l.takeWhile (fun y=>!ltI x y)=l.take i∧l.dropWhile (fun y=>!ltI x y)=l.drop i:=by
  conv=>enter [1,1,2];rw [←List.take_append_drop i l]
  conv=>enter [2,1,2];rw [←List.take_append_drop i l]
  rw [List.takeWhile_append_of_pos hlow,List.dropWhile_append_of_pos hlow]
  rcases hup with h9 | ⟨y,r,h9,hy⟩
  ·rw [h9];simp
  ·rw [h9];simp [hy]
 rw [e1.1,e1.2]
noncomputable def chkL (x:LnR):Int :=
 if x.k<1∨4<x.k then 1
 else if nameB x.name=false∨(x.k=2∨x.k=3)∧nameB x.other=false then 5
 else if ¬(x.k=2∨x.k=3)∧x.other.size≠0∨x.k=1∧x.rg≠[]∨x.k=4∧¬(x.ver 0=0∧x.ver 1=0∧x.ver 2=0) then 1
 else if x.k≠4∧okB x.ver=false then 2 else 0
noncomputable def addN (ns:List ByteArray) (s:ByteArray):List ByteArray:=if s∈ns then ns else ns++[s]
noncomputable def passA:List LnR→Nat→List ByteArray→List ItR→(Int×Int) ⊕ List ItR
 | [],_,_,its=>.inr its
 | x :: r,i,ns,its =>
  if chkL x≠0 then .inl (chkL x,(i:Int))
  else if x.k≠1 then passA r (i+1) ns its
  else if itL x∈its then .inl (9,(i:Int))
  else if 8<(addN ns x.name).length∨24<its.length+1 then .inl (4,(i:Int))
  else passA r (i+1) (addN ns x.name) (its++[itL x])
noncomputable def passB (its:List ItR):List LnR→Nat→Int×Int
 | [],_=>(0,-1)
 | x :: r,i=>if (x.k=2∨x.k=3)∧itL x∉its then (7,(i:Int)) else passB its r (i+1)
noncomputable def catR (ls:List LnR):(Int×Int) ⊕ List ItR :=
 if 100<ls.length then .inl (4,-1)
 else match passA ls 0 [] [] with
 | .inl f=>.inl f
 | .inr its=>if (passB its ls 0).1=0 then .inr its else .inl (passB its ls 0)
def onesL (ls:List LnR):List ItR:=(ls.filter fun x=>decide (x.k=1)).map itL
noncomputable def itemsF (ls:List LnR):List ItR:=srtI (onesL ls)
theorem passA_ones:∀ (r:List LnR) (i:Nat) (ns:List ByteArray) (its its':List ItR),its.length≤24→its.Nodup→passA r i ns its=.inr its'→its'=its++onesL r∧its'.length≤24∧its'.Nodup∧∀ x∈r,chkL x=0
 | [],i,ns,its,its',hl,hn,h=>by
  rw [passA] at h
  injection h with h
  subst h
  exact ⟨by simp [onesL],hl,hn,by simp⟩
 | x :: r,i,ns,its,its',hl,hn,h=>by
  rw [passA] at h
  split at h
  ·cases h
  ·rename_i h0
   have h0':chkL x=0:=Classical.byContradiction h0
   split at h
   ·rename_i hk
    obtain ⟨a,b,c,d⟩:=passA_ones r _ _ _ _ hl hn h
    refine ⟨?_,b,c,?_⟩
    ·rw [a];simp [onesL,hk]
    ·intro y hy
     rcases List.mem_cons.1 hy with rfl | hy
     ·exact h0'
     ·exact d y hy
   ·rename_i hk
    have hk':x.k=1:=Classical.byContradiction hk
    split at h
    ·cases h
    ·rename_i hm
     split at h
     ·cases h
     ·rename_i hb
      obtain ⟨a,b,c,d⟩:=passA_ones r _ _ _ _ (by simp;omega) (by
       rw [List.nodup_append]
       exact ⟨hn,by simp,fun y hy z hz=>by rw [List.mem_singleton.1 hz];intro e;exact hm (by rw [←e];exact hy)⟩) h
      refine ⟨?_,b,c,?_⟩
      ·rw [a];simp [onesL,hk']
      ·intro y hy
       rcases List.mem_cons.1 hy with rfl | hy
       ·exact h0'
       ·exact d y hy
theorem catR_ok {ls:List LnR} {its:List ItR} (h:catR ls=.inr its):its=onesL ls∧its.length≤24∧its.Nodup∧ls.length≤100∧(∀ x∈ls,chkL x=0):=by
 unfold catR at h
 split at h
 ·cases h
 ·rename_i hl
  split at h
  ·cases h
  ·rename_i its' h1
   split at h
   ·injection h with h
    subst h
    obtain ⟨a,b,c,d⟩:=passA_ones ls 0 [] [] its' (Nat.zero_le _) List.nodup_nil h1
    exact ⟨by simpa using a,b,c,by omega,d⟩
   ·cases h
noncomputable def amF (nm:ByteArray) (rg:List (Nat×Nat)):List ItR→Nat→List Int
 | [],_=>[]
 | a :: r,i=>if a.1=nm∧hasB rg (itV a)=true then (i:Int) :: amF nm rg r (i+1) else amF nm rg r (i+1)
end Go.Proofs.YtojgbcmhdnappaaGreatDoor
namespace Go.Proofs.YtojgbcmhdnappaaGreatDoor
open Go.RowKit
abbrev LnQ:=LnR×(Option Addr×Nat×Nat)
def slQ (q:LnQ):Value:=.slice q.2.1 q.2.2.1 q.2.2.2
def lnF (q:LnQ):List Value:=[.int .i64 q.1.k,.string q.1.name,.int .i64 (q.1.ver 0),.int .i64 (q.1.ver 1),.int .i64 (q.1.ver 2),.string q.1.other,.slice q.2.1 q.2.2.1 q.2.2.2]
theorem lnF_one (q:LnQ):∀ u∈lnF q,u.oneCell'=true:=by
 intro u hu
 simp only [lnF,List.mem_cons,List.not_mem_nil,or_false] at hu
 rcases hu with rfl | rfl | rfl | rfl | rfl | rfl | rfl <;> rfl
def elR:ElK LnQ:=⟨34,7,lnF,by decide,fun _=>rfl,lnF_one⟩
def elP:ElK LnQ:=⟨90,7,lnF,by decide,fun _=>rfl,lnF_one⟩
def itF (a:ItR):List Value:=[.string a.1,.int .i64 a.2.1,.int .i64 a.2.2.1,.int .i64 a.2.2.2]
theorem itF_one (a:ItR):∀ u∈itF a,u.oneCell'=true:=by
 intro u hu
 simp only [itF,List.mem_cons,List.not_mem_nil,or_false] at hu
 rcases hu with rfl | rfl | rfl | rfl <;> rfl
def elI:ElK ItR:=⟨162,4,itF,by decide,fun _=>rfl,itF_one⟩
def elJ:ElK ItR:=⟨194,4,itF,by decide,fun _=>rfl,itF_one⟩
theorem lineRInfo:(Tryz.prog.info? 34).map (fun i=>(i.zero,i.size,i.bytes))=some (some (.agg #[.int .i64 0,.string ⟨#[]⟩,.int .i64 0,.int .i64 0,.int .i64 0,.string ⟨#[]⟩,.slice none 0 0]),7,88):=by kernel_rfl
theorem linePInfo:(Tryz.prog.info? 90).map (fun i=>(i.zero,i.size,i.bytes))=some (some (.agg #[.int .i64 0,.string ⟨#[]⟩,.int .i64 0,.int .i64 0,.int .i64 0,.string ⟨#[]⟩,.slice none 0 0]),7,88):=by kernel_rfl
theorem itemIInfo:(Tryz.prog.info? 162).map (fun i=>(i.zero,i.size,i.bytes))=some (some (.agg #[.string ⟨#[]⟩,.int .i64 0,.int .i64 0,.int .i64 0]),4,40):=by kernel_rfl
theorem itemJInfo:(Tryz.prog.info? 194).map (fun i=>(i.zero,i.size,i.bytes))=some (some (.agg #[.string ⟨#[]⟩,.int .i64 0,.int .i64 0,.int .i64 0]),4,40):=by kernel_rfl
structure LnOk (x:LnR):Prop where
 can:CanF 0 x.rg
 k:I64 x.k
 v:∀ j,j<3→I64 (x.ver j)
 nm:x.name.size≤21000
 ot:x.other.size≤21000
theorem LnOk.len {x:LnR} (h:LnOk x):x.rg.length≤1000000000:=can_len h.can
def LnsR (w:World) (base:Nat) (v:Value) (qs:List LnQ):Prop:=OwnK elR w base v qs∧∀ q∈qs,OwnI w 0 (slQ q) (flatI q.1.rg)∧LnOk q.1
def LnsP (w:World) (base:Nat) (v:Value) (qs:List LnQ):Prop:=OwnK elP w base v qs∧∀ q∈qs,OwnP w 0 (slQ q) q.1.rg∧LnOk q.1
theorem apart_rows {w:World} {b b' s s' n n':Nat} {e e':TypeId} {v v':Value} {xs xs':List Value} (h:w.ownsRow b e s v n xs) (h':w.ownsRow b' e' s' v' n' xs') (hne:e≠e'):v.ownBlock=none∨v.ownBlock≠v'.ownBlock:=by
 rcases h.2 with ⟨rfl,_⟩ | ⟨g,cap,cur,rfl,_,hg,_⟩
 ·exact .inl rfl
 ·rcases h'.2 with ⟨rfl,_⟩ | ⟨g',cap',cur',rfl,_,hg',_⟩
  ·exact .inr (by simp [Value.ownBlock])
  ·refine .inr fun e9=>?_
   have e8:g=g':=Option.some.inj e9
   subst e8
   exact Blk.ne_ (t:=e) (t':=e') hg hg' hne rfl
section
variable {w w':World} {base base':Nat} {v:Value} {qs:List LnQ}
theorem LnsR.below (h:LnsR w base v qs) (hb:Below w.heap.size w w'):LnsR w' base v qs:=⟨h.1.below hb,fun q hq=>⟨OwnI.below (h.2 q hq).1 hb,(h.2 q hq).2⟩⟩
theorem LnsP.below (h:LnsP w base v qs) (hb:Below w.heap.size w w'):LnsP w' base v qs:=⟨h.1.below hb,fun q hq=>⟨(h.2 q hq).1.below hb,(h.2 q hq).2⟩⟩
theorem LnsR.mono (h:LnsR w base v qs) (hb:base'≤base):LnsR w base' v qs:=⟨h.1.mono hb,h.2⟩
theorem LnsP.mono (h:LnsP w base v qs) (hb:base'≤base):LnsP w base' v qs:=⟨h.1.mono hb,h.2⟩
theorem lnsR_nil (w:World) (base:Nat):LnsR w base (.slice none 0 0) []:=⟨ownK_nil _ _ _,fun _ h=>absurd h List.not_mem_nil⟩
theorem LnsR.app {v':Value} {q:LnQ} (h:LnsR w base v qs) (ho:OwnI w 0 (slQ q) (flatI q.1.rg)) (hk:LnOk q.1) (h':OwnK elR w' base v' (qs++[q])) (hg:w.grownBy w' v.ownBlock):LnsR w' base v' (qs++[q]):=by
 refine ⟨h',fun p hp=>?_⟩
 have key:∀ p:LnQ,OwnI w 0 (slQ p) (flatI p.1.rg)→OwnI w' 0 (slQ p) (flatI p.1.rg):=fun p h9=>OwnI.kept h9 hg (apart_rows h9 h.1 (by decide))
 rcases List.mem_append.1 hp with hp | hp
 ·exact ⟨key p (h.2 p hp).1,(h.2 p hp).2⟩
 ·rw [List.mem_singleton.1 hp];exact ⟨key q ho,hk⟩
end
theorem row7 {E:ElK LnQ} (hK:E.K=7) (hf:E.f=lnF) {w:World} {g:Nat} {qs:List LnQ} (h:RowK E w g qs) {k:Nat} (hk:k<qs.length) :
  w.cell? ⟨g,k*7,none⟩=some (.int .i64 qs[k].1.k)∧w.cell? ⟨g,k*7+1,none⟩=some (.string qs[k].1.name)∧w.cell? ⟨g,k*7+2,none⟩=some (.int .i64 (qs[k].1.ver 0))∧w.cell? ⟨g,k*7+3,none⟩=some (.int .i64 (qs[k].1.ver 1)) ∧
  w.cell? ⟨g,k*7+4,none⟩=some (.int .i64 (qs[k].1.ver 2))∧w.cell? ⟨g,k*7+5,none⟩=some (.string qs[k].1.other)∧w.cell? ⟨g,k*7+6,none⟩=some (.slice qs[k].2.1 qs[k].2.2.1 qs[k].2.2.2):=by
 have key:∀ j,j<7→w.cell? ⟨g,k*7+j,none⟩=(lnF qs[k])[j]?:=fun j hj=>by
  have:=h.cell hk (j:=j) (by omega)
  rw [hK,hf] at this
  exact this
 exact ⟨key 0 (by omega),key 1 (by omega),key 2 (by omega),key 3 (by omega),key 4 (by omega),key 5 (by omega),key 6 (by omega)⟩
theorem row4 {E:ElK ItR} (hK:E.K=4) (hf:E.f=itF) {w:World} {g:Nat} {l:List ItR} (h:RowK E w g l) {k:Nat} (hk:k<l.length) :
  w.cell? ⟨g,k*4,none⟩=some (.string l[k].1)∧w.cell? ⟨g,k*4+1,none⟩=some (.int .i64 l[k].2.1)∧w.cell? ⟨g,k*4+2,none⟩=some (.int .i64 l[k].2.2.1)∧w.cell? ⟨g,k*4+3,none⟩=some (.int .i64 l[k].2.2.2):=by
 have key:∀ j,j<4→w.cell? ⟨g,k*4+j,none⟩=(itF l[k])[j]?:=fun j hj=>by
  have:=h.cell hk (j:=j) (by omega)
  rw [hK,hf] at this
  exact this
 exact ⟨key 0 (by omega),key 1 (by omega),key 2 (by omega),key 3 (by omega)⟩
end Go.Proofs.YtojgbcmhdnappaaGreatDoor
namespace Go.Proofs.YtojgbcmhdnappaaGreatDoor
open Go.RowKit
structure Calm (w:World) where
 val:World
 bel:Below w.heap.size w val
instance calmThere (w:World):Nonempty (Calm w):=⟨⟨w,Below.refl _ _⟩⟩
theorem Calm.cell {w:World} (c:Calm w) {g i:Nat} (hg:g<w.heap.size):c.val.cell? ⟨g,i,none⟩=w.cell? ⟨g,i,none⟩:=c.bel.cell (p:=⟨g,i,none⟩) hg
theorem Calm.on {w w':World} (c:Calm w) (hb:Below c.val.heap.size c.val w'):∃ c':Calm w,w'=c'.val:=⟨⟨w',c.bel.trans (hb.mono c.bel.size)⟩,rfl⟩
theorem wp_region_calm {P:Program} {id:Nat} {Q:Exit→Act→World→Prop} {a:Act} {w:World} {l:List Oper} (hm:P.follows .mixedOrders=true) (hB:Region.lexB .any l.toArray=true)
  (h:wpQuiet P l.toArray (fun w'=>∃ c:Calm w,w'=c.val) (fun a'=>∀ w',(∃ c:Calm w,w'=c.val)→Q .normal a' w') l a):(Code.region id l.toArray true).wp P Q a w :=
 wp_region_quiet (C:=fun w'=>∃ c:Calm w,w'=c.val) hm hB ⟨⟨w.drew,(Below.refl _ w).drew⟩,rfl⟩ (by simpa using h)
end Go.Proofs.YtojgbcmhdnappaaGreatDoor
