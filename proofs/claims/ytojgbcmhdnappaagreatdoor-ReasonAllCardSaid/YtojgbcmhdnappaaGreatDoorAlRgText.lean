/-
  A part of the proof: RgText. Conditions: none.
-/
import Derived.Test.YtojgbcmhdnappaaGreatDoorAlPcs
import Derived.Test.YtojgbcmhdnappaaGreatDoorAlVerB
namespace Go.Proofs.YtojgbcmhdnappaaGreatDoor
def endR:Nat:=1000000000
def CanF:Nat→List (Nat×Nat)→Prop
 | _,[]=>True
 | lo,s :: r=>lo≤s.1∧s.1<s.2∧s.2≤endR∧CanF (s.2+1) r
def setS (l:List (Nat×Nat)) (n:Nat):Bool:=l.any fun s=>decide (s.1≤n)&&decide (n<s.2)
theorem setS_nil (n:Nat):setS [] n=false:=rfl
theorem setS_cons (s:Nat×Nat) (l:List (Nat×Nat)) (n:Nat):setS (s :: l) n=((decide (s.1≤n)&&decide (n<s.2))||setS l n):=rfl
theorem setS_app (a b:List (Nat×Nat)) (n:Nat):setS (a++b) n=(setS a n||setS b n):=by unfold setS;rw [List.any_append]
theorem CanF.lower {lo lo':Nat} {l:List (Nat×Nat)} (h:CanF lo l) (hl:lo'≤lo):CanF lo' l:=by
 cases l with
 | nil=>trivial
 | cons s r=>exact ⟨Nat.le_trans hl h.1,h.2⟩
theorem CanF.before:∀ {lo n:Nat} {l:List (Nat×Nat)},CanF lo l→n<lo→setS l n=false
 | _,_,[],_,_=>rfl
 | lo,n,s :: r,h,hn=>by
  rw [setS_cons,CanF.before h.2.2.2 (by have:=h.1;have:=h.2.1;omega)]
  have:=h.1
  simp
  omega
theorem CanF.all:∀ {lo:Nat} {l:List (Nat×Nat)},CanF lo l→∀ s∈l,lo≤s.1∧s.1<s.2∧s.2≤endR
 | _,[],_,s,hs=>by cases hs
 | lo,x :: r,h,s,hs=>by
  rcases List.mem_cons.1 hs with e | e
  ·rw [e];exact ⟨h.1,h.2.1,h.2.2.1⟩
  ·have:=CanF.all h.2.2.2 s e
   have h1:=h.1
   have h2:=h.2.1
   exact ⟨by omega,this.2⟩
theorem can_same:∀ (l l':List (Nat×Nat)) (lo:Nat),CanF lo l→CanF lo l'→(∀ n,lo≤n→n<endR→setS l n=setS l' n)→l=l'
 | [],[],_,_,_,_=>rfl
 | [],s :: r,lo,_,h',h=>by
  have:=h s.1 h'.1 (by have:=h'.2.1;have:=h'.2.2.1;omega)
  rw [setS_nil,setS_cons] at this
  have h2:=h'.2.1
  simp at this
  omega
 | s :: r,[],lo,h',_,h=>by
  have:=h s.1 h'.1 (by have:=h'.2.1;have:=h'.2.2.1;omega)
  rw [setS_nil,setS_cons] at this
  have h2:=h'.2.1
  simp at this
  omega
 | s :: r,s' :: r',lo,h1,h2,h=>by
  obtain ⟨a1,a2,a3,a4⟩:=h1
  obtain ⟨b1,b2,b3,b4⟩:=h2
  have e1:s.1=s'.1:=by
   rcases Nat.lt_trichotomy s.1 s'.1 with hlt | he | hlt
   ·have:=h s.1 a1 (by omega)
    rw [setS_cons,setS_cons,b4.before (show s.1<s'.2+1 by omega),decide_eq_true (Nat.le_refl s.1),decide_eq_true a2,decide_eq_false (show ¬s'.1≤s.1 by omega)] at this
    simp at this
   ·exact he
   ·have:=h s'.1 b1 (by omega)
    rw [setS_cons,setS_cons,a4.before (show s'.1<s.2+1 by omega),decide_eq_true (Nat.le_refl s'.1),decide_eq_true b2,decide_eq_false (show ¬s.1≤s'.1 by omega)] at this
    simp at this
  have e2:s.2=s'.2:=by
   rcases Nat.lt_trichotomy s.2 s'.2 with hlt | he | hlt
   ·have:=h s.2 (by omega) (by omega)
    rw [setS_cons,setS_cons,a4.before (Nat.lt_succ_self _),decide_eq_false (Nat.lt_irrefl s.2),decide_eq_true (show s'.1≤s.2 by omega),decide_eq_true hlt] at this
    simp at this
   ·exact he
   ·have:=h s'.2 (by omega) (by omega)
    rw [setS_cons,setS_cons,b4.before (Nat.lt_succ_self _),decide_eq_false (Nat.lt_irrefl s'.2),decide_eq_true (show s.1≤s'.2 by omega),decide_eq_true hlt] at this
    simp at this
  have e:s=s':=Prod.ext e1 e2
  subst e
  rw [can_same r r' (s.2+1) a4 b4 fun n hn hlt=>by
   have:=h n (by omega) hlt
   rw [setS_cons,setS_cons,decide_eq_false (show ¬n<s.2 by omega)] at this
   simpa using this]
def mgR:Nat×Nat→List (Nat×Nat)→List (Nat×Nat)
 | c,[]=>[c]
 | c,s :: r=>if s.1≤c.2 then mgR (c.1,max c.2 s.2) r else c :: mgR s r
theorem mgR_nil (c:Nat×Nat):mgR c []=[c]:=rfl
theorem mgR_in {c s:Nat×Nat} (r:List (Nat×Nat)) (h:s.1≤c.2):mgR c (s :: r)=mgR (c.1,max c.2 s.2) r:=by rw [mgR];exact if_pos h
theorem mgR_out {c s:Nat×Nat} (r:List (Nat×Nat)) (h:¬s.1≤c.2):mgR c (s :: r)=c :: mgR s r:=by rw [mgR];exact if_neg h
def RiseS (l:List (Nat×Nat)):Prop:=l.Pairwise fun a b=>a.1≤b.1
theorem mg_spec:∀ (r:List (Nat×Nat)) (c:Nat×Nat) (lo:Nat),RiseS (c :: r)→(∀ s∈c :: r,s.1<s.2∧s.2≤endR)→lo≤c.1→CanF lo (mgR c r)∧∀ n,setS (mgR c r) n=setS (c :: r) n
 | [],c,lo,_,h2,h3=>⟨⟨h3,(h2 c (by simp)).1,(h2 c (by simp)).2,trivial⟩,fun n=>rfl⟩
 | s :: r,c,lo,h1,h2,h3=>by
  have hc:=h2 c (by simp)
  have hs:=h2 s (by simp)
  have h1':=List.pairwise_cons.1 h1
  have h1'':=List.pairwise_cons.1 h1'.2
  have hcs:c.1≤s.1:=h1'.1 s (by simp)
  by_cases h:s.1≤c.2
  ·rw [mgR_in r h]
   obtain ⟨a1,a2⟩:=mg_spec r (c.1,max c.2 s.2) lo (List.pairwise_cons.2 ⟨fun x hx=>h1'.1 x (List.mem_cons_of_mem _ hx),h1''.2⟩) (fun x hx=>by
    rcases List.mem_cons.1 hx with e | e
    ·subst e
     simp only
     omega
    ·exact h2 x (List.mem_cons_of_mem _ (List.mem_cons_of_mem _ e))) h3
   refine ⟨a1,fun n=>?_⟩
   rw [a2,setS_cons,setS_cons,setS_cons,←Bool.or_assoc]
   congr 1
   rw [Bool.eq_iff_iff]
   simp
   omega
  ·rw [mgR_out r h]
   obtain ⟨a1,a2⟩:=mg_spec r s (c.2+1) h1'.2 (fun x hx=>h2 x (List.mem_cons_of_mem _ hx)) (by omega)
   exact ⟨⟨h3,hc.1,hc.2,a1⟩,fun n=>by rw [setS_cons,a2,setS_cons c]⟩
def fullS (l:List (Nat×Nat)):List (Nat×Nat):=l.filter fun s=>decide (s.1<s.2)
theorem full_set (l:List (Nat×Nat)) (n:Nat):setS (fullS l) n=setS l n:=by
 induction l with
 | nil=>rfl
 | cons s r ih =>
  unfold fullS at ih ⊢
  rw [List.filter_cons]
  by_cases h:s.1<s.2
  ·rw [if_pos (by simpa using h),setS_cons,setS_cons,ih]
  ·rw [if_neg (by simpa using h),ih,setS_cons]
   have:(decide (s.1≤n)&&decide (n<s.2))=false:=by simp;omega
   rw [this,Bool.false_or]
theorem set_perm {l l':List (Nat×Nat)} (h:l.Perm l') (n:Nat):setS l n=setS l' n:=by
 unfold setS
 rw [Bool.eq_iff_iff,List.any_eq_true,List.any_eq_true]
 exact ⟨fun ⟨x,hx,hp⟩=>⟨x,h.mem_iff.1 hx,hp⟩,fun ⟨x,hx,hp⟩=>⟨x,h.mem_iff.2 hx,hp⟩⟩
def madeS:List (Nat×Nat)→List (Nat×Nat)
 | []=>[]
 | c :: r=>mgR c r
theorem made_spec (l k:List (Nat×Nat)) (hp:k.Perm (fullS l)) (hs:RiseS k) (he:∀ s∈l,s.2≤endR):CanF 0 (madeS k)∧∀ n,setS (madeS k) n=setS l n:=by
 have hk:∀ s∈k,s.1<s.2∧s.2≤endR:=fun s h=>by
  have:=hp.mem_iff.1 h
  unfold fullS at this
  rw [List.mem_filter] at this
  exact ⟨by simpa using this.2,he s this.1⟩
 have hset:∀ n,setS k n=setS l n:=fun n=>(set_perm hp n).trans (full_set l n)
 cases k with
 | nil=>exact ⟨trivial,hset⟩
 | cons c r =>
  obtain ⟨a1,a2⟩:=mg_spec r c 0 hs hk (Nat.zero_le _)
  exact ⟨a1,fun n=>(a2 n).trans (hset n)⟩
def notL:Nat→List (Nat×Nat)→List (Nat×Nat)
 | a,[]=>[(a,endR)]
 | a,s :: r=>(a,s.1) :: notL s.2 r
theorem notL_set:∀ (l:List (Nat×Nat)) (a lo:Nat),CanF lo l→a≤lo→∀ n,a≤n→n<endR→setS (notL a l) n=!setS l n
 | [],a,lo,_,_,n,h1,h2=>by
  show setS [(a,endR)] n=_
  rw [setS_cons,setS_nil,decide_eq_true h1,decide_eq_true h2]
  rfl
 | s :: r,a,lo,h,hl,n,h1,h2=>by
  obtain ⟨b1,b2,b3,b4⟩:=h
  show setS ((a,s.1) :: notL s.2 r) n=_
  rw [setS_cons,setS_cons]
  by_cases h3:s.2≤n
  ·rw [notL_set r s.2 (s.2+1) b4 (Nat.le_succ _) n h3 h2,decide_eq_false (show ¬n<(a,s.1).2 by simp only;omega),decide_eq_false (show ¬n<s.2 by omega)]
   simp
  ·have e:setS (notL s.2 r) n=false:=by
    have key:∀ (l:List (Nat×Nat)) (a lo:Nat),CanF lo l→a≤lo→n<a→setS (notL a l) n=false:=by
     intro l
     induction l with
     | nil =>
      intro a lo _ _ hn
      show setS [(a,endR)] n=false
      rw [setS_cons,setS_nil,decide_eq_false (show ¬(a,endR).1≤n by simp only;omega)]
      rfl
     | cons x r ih =>
      intro a lo hc ha hn
      obtain ⟨c1,c2,c3,c4⟩:=hc
      show setS ((a,x.1) :: notL x.2 r) n=false
      rw [setS_cons,ih x.2 (x.2+1) c4 (Nat.le_succ _) (by omega),decide_eq_false (show ¬(a,x.1).1≤n by simp only;omega)]
      rfl
    exact key r s.2 (s.2+1) b4 (Nat.le_succ _) (by omega)
   rw [e,b4.before (show n<s.2+1 by omega),decide_eq_true (show (a,s.1).1≤n from h1),decide_eq_true (show n<s.2 by omega)]
   by_cases h4:s.1≤n
   ·rw [decide_eq_false (show ¬n<(a,s.1).2 by simp only;omega),decide_eq_true h4];rfl
   ·rw [decide_eq_true (show n<(a,s.1).2 by simp only;omega),decide_eq_false h4];rfl
theorem notL_end:∀ (l:List (Nat×Nat)) (a lo:Nat),CanF lo l→∀ s∈notL a l,s.2≤endR
 | [],a,_,_,s,hs=>by
  rw [show notL a []=[(a,endR)] from rfl,List.mem_singleton] at hs
  rw [hs];exact Nat.le_refl _
 | x :: r,a,_,h,s,hs=>by
  rcases List.mem_cons.1 hs with e | e
  ·rw [e];have:=h.2.1;have:=h.2.2.1;simp only;omega
  ·exact notL_end r x.2 _ h.2.2.2 s e
def flat (l:List (Nat×Nat)):List Nat:=l.flatMap fun s=>[s.1,s.2]
theorem flat_cons (s:Nat×Nat) (l:List (Nat×Nat)):flat (s :: l)=s.1 :: s.2 :: flat l:=rfl
def inF (r:List Nat) (n:Nat):Bool:=decide (r.countP (fun x=>decide (x≤n)) % 2=1)
theorem flat_from:∀ {lo:Nat} {l:List (Nat×Nat)},CanF lo l→∀ x∈flat l,lo≤x∧x≤endR
 | _,[],_,x,hx=>by cases hx
 | lo,s :: r,h,x,hx=>by
  obtain ⟨a1,a2,a3,a4⟩:=h
  rw [flat_cons] at hx
  rcases List.mem_cons.1 hx with e | hx
  ·rw [e];omega
  ·rcases List.mem_cons.1 hx with e | hx
   ·rw [e];omega
   ·have:=flat_from a4 x hx
    omega
theorem flat_rise:∀ {lo:Nat} {l:List (Nat×Nat)},CanF lo l→(flat l).Pairwise (· < ·)
  | _,[],_=>List.Pairwise.nil
  | lo,s :: r,h=>by
    obtain ⟨a1,a2,a3,a4⟩:=h
    rw [flat_cons]
    refine List.pairwise_cons.2 ⟨fun x hx=>?_,List.pairwise_cons.2 ⟨fun x hx=>?_,flat_rise a4⟩⟩
    · rcases List.mem_cons.1 hx with e | hx
      · rw [e];exact a2
      · have:=(flat_from a4 x hx).1;omega
    · have:=(flat_from a4 x hx).1;omega
theorem in_flat:∀ {lo:Nat} {l:List (Nat×Nat)},CanF lo l→∀ n,inF (flat l) n=setS l n
 | _,[],_,n=>rfl
 | lo,s :: r,h,n=>by
  obtain ⟨a1,a2,a3,a4⟩:=h
  have ih:=in_flat a4 n
  unfold inF at ih ⊢
  rw [flat_cons,List.countP_cons,List.countP_cons,setS_cons,←ih]
  by_cases h2:s.2≤n
  ·rw [decide_eq_true h2,decide_eq_true (show s.1≤n by omega),decide_eq_false (show ¬n<s.2 by omega)]
   rw [Bool.eq_iff_iff]
   simp
   omega
  ·have hz:(flat r).countP (fun x=>decide (x≤n))=0:=by
    rw [List.countP_eq_zero]
    intro x hx
    have:=(flat_from a4 x hx).1
    simp
    omega
   rw [hz,decide_eq_false h2]
   by_cases h1:s.1≤n
   ·rw [decide_eq_true h1,decide_eq_true (show n<s.2 by omega)];rfl
   ·rw [decide_eq_false h1];rfl
def turns (p:Nat→Bool):Bool→List Nat→List Nat
 | _,[]=>[]
 | is,n :: r=>if p n=is then turns p is r else n :: turns p (p n) r
def Stp (p:Nat→Bool):Bool→Nat→List Nat→Prop
 | is,lo,[]=>is=false∧endR≤lo
 | is,lo,x :: r=>lo≤x∧x≤endR∧(∀ m,lo≤m→m<x→p m=is)∧Stp p (p x) x r
theorem turns_spec (p:Nat→Bool):∀ (xs:List Nat) (lo:Nat),
  (Stp p false lo xs→∃ l,turns p false xs=flat l∧CanF lo l∧∀ m,lo≤m→m<endR→setS l m=p m) ∧
  (Stp p true lo xs→∃ t l,turns p true xs=t :: flat l∧lo≤t∧t≤endR∧p t=false∧CanF (t+1) l∧(∀ m,lo≤m→m<t→p m=true)∧∀ m,t≤m→m<endR→setS l m=p m)
 | [],lo=>⟨fun h=>⟨[],rfl,trivial,fun m h1 h2=>by have:=h.2;omega⟩,fun h=>by cases h.1⟩
 | x :: r,lo=>by
  obtain ⟨ihF,ihT⟩:=turns_spec p r x
  refine ⟨fun h=>?_,fun h=>?_⟩
  ·obtain ⟨a1,a2,a3,a4⟩:=h
   rw [turns]
   cases e:p x with
   | false =>
    rw [if_pos rfl]
    rw [e] at a4
    obtain ⟨l,b1,b2,b3⟩:=ihF a4
    refine ⟨l,b1,b2.lower a1,fun m h1 h2=>?_⟩
    rcases Nat.lt_or_ge m x with h3 | h3
    ·rw [b2.before h3,a3 m h1 h3]
    ·exact b3 m h3 h2
   | true =>
    rw [if_neg (by simp)]
    rw [e] at a4
    obtain ⟨t,l,b1,b2,b3,b4,b5,b6,b7⟩:=ihT a4
    have hxt:x<t:=by
     rcases Nat.lt_or_ge x t with h3 | h3
     ·exact h3
     ·have:x=t:=by omega
      rw [this,b4] at e
      cases e
    refine ⟨(x,t) :: l,by rw [b1,flat_cons],⟨a1,hxt,b3,b5⟩,fun m h1 h2=>?_⟩
    rw [setS_cons]
    rcases Nat.lt_or_ge m x with h3 | h3
    ·rw [decide_eq_false (show ¬(x,t).1≤m by simp only;omega),b5.before (show m<t+1 by omega),a3 m h1 h3];rfl
    ·rcases Nat.lt_or_ge m t with h4 | h4
     ·rw [decide_eq_true (show (x,t).1≤m from h3),decide_eq_true (show m<(x,t).2 from h4),b6 m h3 h4];rfl
     ·rw [decide_eq_false (show ¬m<(x,t).2 by simp only;omega),b7 m h4 h2,Bool.and_false,Bool.false_or]
  ·obtain ⟨a1,a2,a3,a4⟩:=h
   rw [turns]
   cases e:p x with
   | true =>
    rw [if_pos rfl]
    rw [e] at a4
    obtain ⟨t,l,b1,b2,b3,b4,b5,b6,b7⟩:=ihT a4
    refine ⟨t,l,b1,Nat.le_trans a1 b2,b3,b4,b5,fun m h1 h2=>?_,b7⟩
    rcases Nat.lt_or_ge m x with h3 | h3
    ·exact a3 m h1 h3
    ·exact b6 m h3 h2
   | false =>
    rw [if_neg (by simp)]
    rw [e] at a4
    obtain ⟨l,b1,b2,b3⟩:=ihF a4
    refine ⟨x,l,by rw [b1],a1,a2,e,?_,a3,b3⟩
    cases l with
    | nil=>trivial
    | cons s r2 =>
     refine ⟨?_,b2.2⟩
     rcases Nat.lt_or_ge x s.1 with h3 | h3
     ·exact h3
     ·have hx:s.1=x:=Nat.le_antisymm h3 b2.1
      have:=b3 x (Nat.le_refl _) (by have:=b2.2.1;have:=b2.2.2.1;omega)
      rw [setS_cons,e,decide_eq_true (show s.1≤x by omega),decide_eq_true (show x<s.2 by have:=b2.2.1;omega)] at this
      cases this
theorem stp_of (p:Nat→Bool) (all:List Nat) (hp:∀ x m,x≤m→(∀ z∈all,z≤x∨m<z)→p m=p x) (he:p endR=false) (hE:endR∈all) (hA:∀ z∈all,z≤endR) :
    ∀ (xs:List Nat) (x0:Nat),xs.Pairwise (· ≤ ·)→(∀ x∈xs,x0≤x)→(∀ x∈xs,x∈all)→(∀ z∈all,z≤x0∨z∈xs)→x0∈all→Stp p (p x0) x0 xs
  | [],x0,_,_,_,h4,h5=>by
    have:x0=endR:=by
      rcases h4 endR hE with h | h
      · exact Nat.le_antisymm (hA x0 h5) h
      · cases h
    rw [this]
    exact ⟨he,Nat.le_refl _⟩
  | x :: r,x0,h1,h2,h3,h4,h5=>by
    have hx:=h3 x (by simp)
    have h1':=List.pairwise_cons.1 h1
    refine ⟨h2 x (by simp),hA x hx,fun m hm1 hm2=>hp x0 m hm1 fun z hz=>?_,stp_of p all hp he hE hA r x h1'.2 h1'.1 (fun y hy=>h3 y (List.mem_cons_of_mem _ hy)) (fun z hz=>?_) hx⟩
    · rcases h4 z hz with h | h
      · exact .inl h
      · rcases List.mem_cons.1 h with e | e
        · right;omega
        · right;have:=h1'.1 z e;omega
    · rcases h4 z hz with h | h
      · left;have:=h2 x (by simp);omega
      · rcases List.mem_cons.1 h with e | e
        · left;omega
        · exact .inr e
def mixP (g:Bool→Bool→Bool) (a b:List Nat) (n:Nat):Bool:=decide (n<endR)&&g (inF a n) (inF b n)
theorem inF_gap {r:List Nat} {x m:Nat} (hx:x≤m) (h:∀ z∈r,z≤x∨m<z):inF r m=inF r x:=by
 unfold inF
 have:r.countP (fun z=>decide (z≤m))=r.countP (fun z=>decide (z≤x)):=List.countP_congr fun z hz=>by
  rcases h z hz with h | h
  ·simp;omega
  ·simp;omega
 rw [this]
theorem mix_spec (g:Bool→Bool→Bool) (a b:List (Nat×Nat)) (ha:CanF 0 a) (hb:CanF 0 b) (all:List Nat) (hs:all.Pairwise (· ≤ ·)) (hp:all.Perm ([0,endR]++flat a++flat b)) :
    ∃ l,turns (mixP g (flat a) (flat b)) false all=flat l∧CanF 0 l∧∀ m,m<endR→setS l m=g (setS a m) (setS b m):=by
  have hm:∀ z,z∈all↔z=0∨z=endR∨z∈flat a∨z∈flat b:=fun z=>by rw [hp.mem_iff];simp
  have hA:∀ z∈all,z≤endR:=fun z hz=>by
    rcases (hm z).1 hz with e | e | e | e
    · omega
    · omega
    · exact (flat_from ha z e).2
    · exact (flat_from hb z e).2
  have hgap:∀ x m,x≤m→(∀ z∈all,z≤x∨m<z)→mixP g (flat a) (flat b) m=mixP g (flat a) (flat b) x:=fun x m hx h=>by
    unfold mixP
    rw [inF_gap (r:=flat a) hx fun z hz=>h z ((hm z).2 (.inr (.inr (.inl hz)))),inF_gap (r:=flat b) hx fun z hz=>h z ((hm z).2 (.inr (.inr (.inr hz))))]
    congr 1
    rcases h endR ((hm _).2 (.inr (.inl rfl))) with h2 | h2
    · rw [decide_eq_false (by omega),decide_eq_false (by omega)]
    · rw [decide_eq_true h2,decide_eq_true (by omega)]
  have hend:mixP g (flat a) (flat b) endR=false:=by unfold mixP;rw [decide_eq_false (Nat.lt_irrefl _)];rfl
  cases all with
  | nil=>exact absurd ((hm 0).2 (.inl rfl)) (by simp)
  | cons x r =>
    have hs':=List.pairwise_cons.1 hs
    have hx0:x=0:=by
      rcases List.mem_cons.1 ((hm 0).2 (.inl rfl)) with e | e
      · exact e.symm
      · have:=hs'.1 0 e;omega
    subst hx0
    have hst:Stp (mixP g (flat a) (flat b)) false 0 (0 :: r):=⟨Nat.le_refl _,Nat.zero_le _,fun m _ h=>absurd h (Nat.not_lt_zero m),
      stp_of _ (0 :: r) hgap hend ((hm _).2 (.inr (.inl rfl))) hA r 0 hs'.2 hs'.1 (fun y hy=>List.mem_cons_of_mem _ hy) (fun z hz=>by
        rcases List.mem_cons.1 hz with e | e
        · left;omega
        · exact .inr e) (by simp)⟩
    obtain ⟨l,h1,h2,h3⟩:=(turns_spec _ _ 0).1 hst
    refine ⟨l,h1,h2,fun m hm2=>?_⟩
    rw [h3 m (Nat.zero_le _) hm2]
    unfold mixP
    rw [decide_eq_true hm2,Bool.true_and,in_flat ha,in_flat hb]
theorem flat_len (l:List (Nat×Nat)):(flat l).length=2*l.length:=by
 induction l with
 | nil=>rfl
 | cons s r ih=>rw [flat_cons,List.length_cons,List.length_cons,ih,List.length_cons];omega
end Go.Proofs.YtojgbcmhdnappaaGreatDoor
namespace Go.Proofs.YtojgbcmhdnappaaGreatDoor
open Classical in
noncomputable def canOf (F:Nat→Bool):List (Nat×Nat):=if h:∃ l,CanF 0 l∧∀ m,m<endR→setS l m=F m then h.choose else []
theorem canOf_eq {F:Nat→Bool} {l:List (Nat×Nat)} (h1:CanF 0 l) (h2:∀ m,m<endR→setS l m=F m):canOf F=l:=by
 have h:∃ l,CanF 0 l∧∀ m,m<endR→setS l m=F m:=⟨l,h1,h2⟩
 unfold canOf
 rw [dif_pos h]
 have hc:=h.choose_spec
 exact can_same _ _ 0 hc.1 h1 fun n _ hn=>(hc.2 n hn).trans (h2 n hn).symm
noncomputable def orC (a b:List (Nat×Nat)):List (Nat×Nat):=canOf fun m=>setS a m||setS b m
noncomputable def andC (a b:List (Nat×Nat)):List (Nat×Nat):=canOf fun m=>setS a m&&setS b m
noncomputable def notC (a:List (Nat×Nat)):List (Nat×Nat):=canOf fun m=>!setS a m
theorem can_ex (l:List (Nat×Nat)) (he:∀ s∈l,s.2≤endR):∃ l',CanF 0 l'∧∀ n,setS l' n=setS l n:=by
 refine ⟨_,made_spec l ((fullS l).mergeSort fun a b=>decide (a.1≤b.1)) (List.mergeSort_perm _ _) ?_ he⟩
 have h:=List.pairwise_mergeSort (le:=fun a b:Nat×Nat=>decide (a.1≤b.1)) (fun a b c h1 h2=>by simp at *;omega) (fun a b=>by simp;omega) (fullS l)
 exact h.imp fun h=>by simpa using h
theorem can_end {l:List (Nat×Nat)} (h:CanF 0 l):∀ s∈l,s.2≤endR:=fun s hs=>(h.all s hs).2.2
theorem can_len:∀ {lo:Nat} {l:List (Nat×Nat)},CanF lo l→l.length≤endR
 | _,[],_=>Nat.zero_le _
 | lo,s :: r,h=>by
  have key:∀ (l:List (Nat×Nat)) (lo:Nat),CanF lo l→l=[]∨lo+l.length≤endR:=by
   intro l
   induction l with
   | nil=>intro lo _;exact .inl rfl
   | cons s r ih =>
    intro lo h
    obtain ⟨h1,h2,h3,h4⟩:=h
    rcases ih _ h4 with h5 | h5
    ·subst h5;right;simp;omega
    ·right;simp at h5 ⊢;omega
  rcases key _ _ h with h | h
  ·cases h
  ·omega
theorem or_spec {a b : List (Nat × Nat)} (ha : CanF 0 a) (hb : CanF 0 b) : CanF 0 (orC a b) ∧ ∀ n, n < endR → setS (orC a b) n = (setS a n || setS b n) := by
  obtain ⟨l, h1, h2⟩ := can_ex (a ++ b) (fun s hs => by rcases List.mem_append.1 hs with h | h; · exact can_end ha s h
                                                        · exact can_end hb s h)
  have h3 : orC a b = l := canOf_eq h1 fun n _ => by rw [h2, setS_app]
  rw [h3]
  exact ⟨h1, fun n _ => by rw [h2, setS_app]⟩
theorem not_spec {a:List (Nat×Nat)} (ha:CanF 0 a):CanF 0 (notC a)∧∀ n,n<endR→setS (notC a) n=!setS a n:=by
 obtain ⟨l,h1,h2⟩:=can_ex (notL 0 a) (notL_end a 0 0 ha)
 have h4:∀ n,n<endR→setS l n=!setS a n:=fun n hn=>by rw [h2,notL_set a 0 0 ha (Nat.le_refl _) n (Nat.zero_le _) hn]
 have h3:notC a=l:=canOf_eq h1 h4
 rw [h3]
 exact ⟨h1,h4⟩
theorem and_is {a b:List (Nat×Nat)} (ha:CanF 0 a) (hb:CanF 0 b):andC a b=notC (orC (notC a) (notC b)):=by
 have n1:=not_spec ha
 have n2:=not_spec hb
 have o:=or_spec n1.1 n2.1
 have n3:=not_spec o.1
 refine canOf_eq n3.1 fun n hn=>?_
 rw [n3.2 n hn,o.2 n hn,n1.2 n hn,n2.2 n hn]
 cases setS a n <;> cases setS b n <;> rfl
theorem and_spec {a b:List (Nat×Nat)} (ha:CanF 0 a) (hb:CanF 0 b):CanF 0 (andC a b)∧∀ n,n<endR→setS (andC a b) n=(setS a n&&setS b n):=by
 have n1:=not_spec ha
 have n2:=not_spec hb
 have o:=or_spec n1.1 n2.1
 have n3:=not_spec o.1
 rw [and_is ha hb]
 refine ⟨n3.1,fun n hn=>?_⟩
 rw [n3.2 n hn,o.2 n hn,n1.2 n hn,n2.2 n hn]
 cases setS a n <;> cases setS b n <;> rfl
def rowC (f t:Nat):List (Nat×Nat):=if f<t then [(f,t)] else []
theorem row_can {f t:Nat} (h:t≤endR):CanF 0 (rowC f t):=by
 unfold rowC
 split
 ·rename_i h1
  exact ⟨Nat.zero_le _,h1,h,trivial⟩
 ·trivial
theorem row_flat (f t:Nat):flat (rowC f t)=if f<t then [f,t] else []:=by
 unfold rowC
 split
 ·rfl
 ·rfl
def anyC:List (Nat×Nat):=[(0,endR)]
theorem any_can:CanF 0 anyC:=⟨Nat.zero_le _,by decide,Nat.le_refl _,trivial⟩
def isOp (c:UInt8):Bool:=c==61||c==33||c==60||c==62||c==94||c==126
def opL (s:List UInt8):List UInt8:=s.takeWhile isOp
def restL (s:List UInt8):List UInt8:=s.dropWhile isOp
theorem op_rest (s:List UInt8):opL s++restL s=s:=List.takeWhile_append_dropWhile
def baL (l:List UInt8):ByteArray:=⟨l.toArray⟩
def numV3 (f:Nat→Int):Nat:=(f 0).toNat*1000000+(f 1).toNat*1000+(f 2).toNat
def caretN (f:Nat→Int):Nat:=if 0<f 0 then ((f 0).toNat+1)*1000000 else if 0<f 1 then ((f 1).toNat+1)*1000 else (f 2).toNat+1
def tildeN (f:Nat→Int):Nat:=(f 0).toNat*1000000+((f 1).toNat+1)*1000
def anyW:List UInt8:=[97,110,121]
def noneW:List UInt8:=[110,111,110,101]
def opK (o:List UInt8):Nat :=
 if o=[]∨o=[61] then 1 else if o=[33] then 2 else if o=[60] then 3 else if o=[60,61] then 4 else if o=[62] then 5 else if o=[62,61] then 6 else if o=[126] then 7 else if o=[94] then 8 else 0
def wordE (s:List UInt8):Int :=
 if s=anyW∨s=noneW then 0 else if verE (baL (restL s))≠0 then verE (baL (restL s)) else if opK (opL s)=0 then 3 else 0
noncomputable def opC (k:Nat) (f:Nat→Int):List (Nat×Nat) :=
 if k=1 then rowC (numV3 f) (numV3 f+1) else if k=2 then notC (rowC (numV3 f) (numV3 f+1)) else if k=3 then rowC 0 (numV3 f) else if k=4 then rowC 0 (numV3 f+1)
 else if k=5 then rowC (numV3 f+1) endR else if k=6 then rowC (numV3 f) endR else if k=7 then rowC (numV3 f) (tildeN f) else rowC (numV3 f) (caretN f)
noncomputable def wordC (s:List UInt8):List (Nat×Nat):=if s=anyW then anyC else if s=noneW then [] else opC (opK (opL s)) (verV (baL (restL s)))
noncomputable def resW:List (List UInt8)→Nat→List (Nat×Nat)→Bool→(Int×Nat) ⊕ (List (Nat×Nat)×Bool)
 | [],_,acc,sm=>.inr (acc,sm)
 | x :: ws,a,acc,sm=>if x=[] then resW ws (a+1) acc sm else if wordE x≠0 then .inl (wordE x,a) else resW ws (a+x.length+1) (andC acc (wordC x)) true
theorem resW_nil (a:Nat) (acc:List (Nat×Nat)) (sm:Bool):resW [] a acc sm=.inr (acc,sm):=rfl
theorem resW_empty (ws:List (List UInt8)) (a:Nat) (acc:List (Nat×Nat)) (sm:Bool):resW ([] :: ws) a acc sm=resW ws (a+1) acc sm:=by rw [resW];exact if_pos rfl
theorem resW_bad {x:List UInt8} (ws:List (List UInt8)) (a:Nat) (acc:List (Nat×Nat)) (sm:Bool) (h:x≠[]) (he:wordE x≠0):resW (x :: ws) a acc sm=.inl (wordE x,a):=by rw [resW,if_neg h];exact if_pos he
theorem resW_good {x:List UInt8} (ws:List (List UInt8)) (a:Nat) (acc:List (Nat×Nat)) (sm:Bool) (h:x≠[]) (he:wordE x=0):resW (x :: ws) a acc sm=resW ws (a+x.length+1) (andC acc (wordC x)) true:=by rw [resW,if_neg h];exact if_neg (by simpa using he)
noncomputable def resT:List ByteArray→Nat→List (Nat×Nat)→(Int×Nat) ⊕ List (Nat×Nat)
 | [],_,out=>.inr out
 | p :: ps,a,out=>match resW (pcL 32 p) a anyC false with
  | .inl f=>.inl f
  | .inr (acc,sm)=>if sm then resT ps (a+p.size+2) (orC out acc) else .inl (3,a+p.size)
theorem resT_nil (a:Nat) (out:List (Nat×Nat)):resT [] a out=.inr out:=rfl
theorem resT_bad {p:ByteArray} (ps:List ByteArray) {a:Nat} (out:List (Nat×Nat)) {f:Int×Nat} (h:resW (pcL 32 p) a anyC false=.inl f):resT (p :: ps) a out=.inl f:=by rw [resT,h]
theorem resT_none {p:ByteArray} (ps:List ByteArray) {a:Nat} (out:List (Nat×Nat)) {acc:List (Nat×Nat)} (h:resW (pcL 32 p) a anyC false=.inr (acc,false)):resT (p :: ps) a out=.inl (3,a+p.size):=by rw [resT,h];exact if_neg (by decide)
theorem resT_good {p:ByteArray} (ps:List ByteArray) {a:Nat} (out:List (Nat×Nat)) {acc:List (Nat×Nat)} (h:resW (pcL 32 p) a anyC false=.inr (acc,true)):resT (p :: ps) a out=resT ps (a+p.size+2) (orC out acc):=by rw [resT,h];exact if_pos rfl
def barS:ByteArray:=⟨#[124,124]⟩
def barL (s:ByteArray):List ByteArray:=Lib.splitB barS 0 (Lib.countB s barS) s
noncomputable def rangeR (s:ByteArray):(Int×Nat) ⊕ List (Nat×Nat):=resT (barL s) 0 []
end Go.Proofs.YtojgbcmhdnappaaGreatDoor
