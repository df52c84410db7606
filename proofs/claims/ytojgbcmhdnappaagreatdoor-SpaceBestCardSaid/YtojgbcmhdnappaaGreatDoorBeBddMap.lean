/-
  A part of the proof: EvLaw, BddMap. Conditions: none.
-/
import Derived.Test.YtojgbcmhdnappaaGreatDoorBeEvCnt
import Derived.Test.YtojgbcmhdnappaaGreatDoorBeArenaMake2
import Derived.Test.YtojgbcmhdnappaaGreatDoorBeOwnIs
import Derived.Test.YtojgbcmhdnappaaGreatDoorBeRowK
import Derived.BigFrame
import Derived.Maps.OwnOps
import Derived.Maps.Views
import Derived.Maps.OwnSet
import Derived.Maps.RangeWalk
import Derived.WideKeyArr2
namespace Go.Proofs.YtojgbcmhdnappaaGreatDoor
structure SpA (A:Ar) (vars:Int):Prop where
 wf:WfA A
 red:RedA A
 var:VarA A vars
 len:A.length=4000
def wt (t:Int):Nat:=if t≤0 then 31 else if t=1 then 15 else if t=2 then 7 else if t=3 then 3 else if t=4 then 1 else 0
theorem wt_le (t:Int):wt t≤31:=by
 unfold wt
 repeat' split
 all_goals omega
theorem wt_at (a:Int):(1≤a→wt a≤15)∧(2≤a→wt a≤7)∧(3≤a→wt a≤3)∧(4≤a→wt a≤1)∧(5≤a→wt a=0):=by
 unfold wt
 by_cases h0:a≤0
 ·rw [if_pos h0];omega
 ·rw [if_neg h0]
  by_cases h1:a=1
  ·rw [if_pos h1];omega
  ·rw [if_neg h1]
   by_cases h2:a=2
   ·rw [if_pos h2];omega
   ·rw [if_neg h2]
    by_cases h3:a=3
    ·rw [if_pos h3];omega
    ·rw [if_neg h3]
     by_cases h4:a=4
     ·rw [if_pos h4];omega
     ·rw [if_neg h4];omega
theorem wt_half {t a:Int} (h0:0≤t) (ha:t<a):2*wt a+(if t<5 then 1 else 0)≤wt t:=by
 obtain ⟨a1,a2,a3,a4,a5⟩:=wt_at a
 rcases (show t=0∨t=1∨t=2∨t=3∨t=4∨5≤t by omega) with rfl | rfl | rfl | rfl | rfl | h5
 ·have e:wt 0=31:=rfl
  rw [if_pos (by decide),e];omega
 ·have e:wt 1=15:=rfl
  rw [if_pos (by decide),e];omega
 ·have e:wt 2=7:=rfl
  rw [if_pos (by decide),e];omega
 ·have e:wt 3=3:=rfl
  rw [if_pos (by decide),e];omega
 ·have e:wt 4=1:=rfl
  rw [if_pos (by decide),e];omega
 ·rw [if_neg (by omega)];omega
theorem wt_two {t a b:Int} (h0:0≤t) (ha:t<a) (hb:t<b):wt a+wt b+(if t<5 then 1 else 0)≤wt t:=by
 have h1:=wt_half h0 ha
 have h2:=wt_half h0 hb
 generalize (if t<5 then 1 else 0:Nat)=x at h1 h2 ⊢
 omega
structure StpA (A A':Ar) (vars:Int) (c:Nat) (t h:Int) (f:(Int→Bool)→Bool):Prop where
 sp:SpA A' vars
 ext:ExtA A A'
 few:low3 A'≤low3 A+c
 has:hasA A' h=true
 top:t≤topA A' h
 den:∀ v,den A' h v=f v
theorem SpA.same {A A':Ar} {vars vars':Int} (h:SpA A vars) (h':SpA A' vars') (hx:ExtA A A') {x:Int} (p:hasA A x=true) (v:Int→Bool):den A' x v=den A x v:=hx.same h.wf h'.wf p
theorem low3_set {A:Ar} {k:Nat} {n:Nd} (_hk:k<A.length):low3 (A.set k (some n))≤low3 A+(if n.var<5 then 1 else 0):=by
 have hget:∀ j,(A.set k (some n)).getD j none=if k=j∧k<A.length then some n else A.getD j none:=fun j=>getD_set
 unfold low3
 by_cases h3:n.var<5
 ·rw [if_pos h3]
  have:=inj_len (f:=id) (atV (A.set k (some n)) (fun x=>decide (x<5))) (k :: atV A (fun x=>decide (x<5))) (atV_nodup _ _) (fun _ _ _ _ e=>e) (fun x hx=>by
   obtain ⟨m,e,hp⟩:=mem_atV.1 hx
   rw [hget] at e
   by_cases hkx:k=x
   ·exact hkx ▸ List.mem_cons_self
   ·rw [if_neg (fun h=>hkx h.1)] at e
    exact List.mem_cons_of_mem _ (mem_atV.2 ⟨m,e,hp⟩))
  exact this
 ·rw [if_neg h3,Nat.add_zero]
  refine numV_mono fun j m e hp=>?_
  rw [hget] at e
  split at e
  ·cases e
   rw [decide_eq_false h3] at hp
   cases hp
  ·exact ⟨m,e,hp⟩
theorem mk_ok {A:Ar} {vars:Int} {n:Nd} (h:SpA A vars) (h6:vars≤8) (hl:low3 A+(if n.var<5 then 1 else 0)≤2000) (hm:MayA A n) (hv:n.var<vars) (hne:n.low≠n.high) :
  makeE A n=0∧StpA A (makeA A n) vars (if n.var<5 then 1 else 0) n.var (makeH A n) (fun v=>if v n.var then den A n.high v else den A n.low v):=by
 have fin:∀ A',SpA A' vars→ExtA A A'→low3 A'≤low3 A+(if n.var<5 then 1 else 0)→∀ x,gotA A' x=some n→StpA A A' vars (if n.var<5 then 1 else 0) n.var x (fun v=>if v n.var then den A n.high v else den A n.low v):=by
  intro A' h' hx hf x e
  refine ⟨h',hx,hf,has_some e,by rw [top_some e];exact Int.le_refl _,fun v=>?_⟩
  rw [den_some h'.wf e]
  cases v n.var
  ·exact h.same h' hx hm.low.1 v
  ·exact h.same h' hx hm.high.1 v
 cases hl1:liesA A n with
 | some k =>
  obtain ⟨e1,e2,e3⟩:=make_lies hm hl1
  rw [e2,e3]
  exact ⟨e1,fin A h (.refl A) (Nat.le_add_right _ _) _ (gotA_k.trans (liesA_some hl1))⟩
 | none =>
  cases hf:freeA A with
  | none =>
   have a1:=free_full hf
   have a2:=cnt_le h.wf (fun x d e=>by have:=h.var x d e;omega)
   have a3:=h.len
   split at hl <;> omega
  | some k =>
   obtain ⟨e1,e2,e3⟩:=make_new hm hl1 hf
   obtain ⟨hk,hkn⟩:=freeA_some hf
   rw [e2,e3]
   have hg:=fun x=>gotA_set (n:=n) hk (x:=x)
   have hx:ExtA A (A.set k (some n)):=⟨List.length_set,fun x d e=>by
    rw [hg x,if_neg]
    ·exact e
    ·rintro rfl
     rw [gotA_k,hkn] at e
     cases e⟩
   refine ⟨e1,fin _ ⟨h.wf.put hm hl1 hkn hk,fun x d e=>?_,fun x d e=>?_,by rw [List.length_set];exact h.len⟩ hx (low3_set hk) _ (by rw [hg,if_pos rfl])⟩
   ·rw [hg x] at e
    split at e
    ·cases e;exact hne
    ·exact h.red x d e
   ·rw [hg x] at e
    split at e
    ·cases e;exact hv
    ·exact h.var x d e
theorem sweep_ext (A:Ar) (l:List Int):ExtA (sweepA A l) A:=⟨(sweep_len A l).symm,fun h d e=>((sweep_got A l h d).1 e).1⟩
theorem SpA.sweep {A:Ar} {vars:Int} (h:SpA A vars) (l:List Int):SpA (sweepA A l) vars :=
 ⟨h.wf.sweep l,fun x d e=>h.red x d ((sweep_ext A l).2 x d e),fun x d e=>h.var x d ((sweep_ext A l).2 x d e),(sweep_len A l).trans h.len⟩
theorem sweep_has {A:Ar} {l:List Int} {x:Int} (hx:x∈l) (p:hasA A x=true):hasA (sweepA A l) x=true:=by
 cases e:gotA A x with
 | none=>rcases has_none p e with rfl | rfl <;> simp [hasA]
 | some d=>exact has_some ((sweep_got A l x d).2 ⟨e,.base hx e⟩)
theorem sweep_den {A:Ar} {vars:Int} {l:List Int} {x:Int} (h:SpA A vars) (hx:x∈l) (p:hasA A x=true) (v:Int→Bool):den (sweepA A l) x v=den A x v :=
 ((h.sweep l).same h (sweep_ext A l) (sweep_has hx p) v).symm
end Go.Proofs.YtojgbcmhdnappaaGreatDoor
namespace Go.Proofs.YtojgbcmhdnappaaGreatDoor
def wc (t:Int):Nat:=if t≤0 then 255 else if t=1 then 127 else if t=2 then 63 else if t=3 then 31 else if t=4 then 15 else if t=5 then 7 else if t=6 then 3 else if t=7 then 1 else 0
theorem wc_le (t:Int):wc t≤255:=by
 unfold wc
 repeat' split
 all_goals omega
theorem wc_half {t a:Int} (h0:0≤t) (h6:t<8) (ha:t<a):2*wc a+1≤wc t:=by
 rcases (show t=0∨t=1∨t=2∨t=3∨t=4∨t=5∨t=6∨t=7 by omega) with rfl | rfl | rfl | rfl | rfl | rfl | rfl | rfl
 all_goals
  unfold wc
  simp
  repeat' split
  all_goals omega
theorem wc_two {t a b:Int} (h0:0≤t) (h6:t<8) (ha:t<a) (hb:t<b):wc a+wc b+1≤wc t:=by
 have h1:=wc_half h0 h6 ha
 have h2:=wc_half h0 h6 hb
 omega
def atA (A:Ar) (h v:Int) (b:Bool):Int:=match gotA A h with | some n=>if n.var=v then (if b then n.high else n.low) else h | none=>h
section
variable {A:Ar} {h x:Int} {vars t:Int} {v:Int→Bool}
theorem atA_none (e:gotA A h=none) (b:Bool):atA A h t b=h:=by unfold atA;rw [e]
theorem atA_is {n:Nd} (e:gotA A h=some n) (hv:n.var=t) (b:Bool):atA A h t b=if b then n.high else n.low:=by
 unfold atA;rw [e];simp only;rw [if_pos hv]
theorem atA_not {n:Nd} (e:gotA A h=some n) (hv:n.var≠t) (b:Bool):atA A h t b=h:=by
 unfold atA;rw [e];simp only;rw [if_neg hv]
theorem atA_fine (hw:WfA A) (p:hasA A h=true) (ht:t≤topA A h) (h24:t<24) (b:Bool) :
  hasA A (atA A h t b)=true∧t<topA A (atA A h t b)∧∀ v,den A (atA A h t b) v=den A h (upd v t b):=by
 cases e:gotA A h with
 | none =>
  rw [atA_none e]
  refine ⟨p,by rw [top_none e];exact h24,fun v=>?_⟩
  rw [den_none e,den_none e]
 | some n =>
  by_cases hv:n.var=t
  ·rw [atA_is e hv]
   obtain ⟨h1,h2⟩:=hw.kid e b
   refine ⟨h2,by omega,fun v=>?_⟩
   have:=den_kid (v:=v) hw e b
   rw [hv] at this
   exact this
  ·rw [atA_not e hv]
   have ht2:=top_some e
   exact ⟨p,by omega,fun v=>(den_upd hw (by omega)).symm⟩
end
def iteF (A:Ar) (a b c:Int) (v:Int→Bool):Bool:=if den A a v then den A b v else den A c v
def min3 (a b c:Int):Int:=min (min a b) c
def topI (A:Ar) (a b c:Int):Int:=min3 (topA A a) (topA A b) (topA A c)
theorem min3_le (a b c:Int):min3 a b c≤a∧min3 a b c≤b∧min3 a b c≤c:=by unfold min3;omega
theorem min3_lt {t a b c:Int} (h1:t<a) (h2:t<b) (h3:t<c):t<min3 a b c:=by unfold min3;omega
def CacheOk (A:Ar) (f:Int×Int×Int→Option Int):Prop :=
 ∀ a b c h,f (a,b,c)=some h→hasA A a=true∧hasA A b=true∧hasA A c=true∧hasA A h=true∧topI A a b c≤topA A h∧∀ v,den A h v=iteF A a b c v
section
variable {A A':Ar} {vars:Int}
theorem iteF_ext (h:SpA A vars) (h':SpA A' vars) (hx:ExtA A A') {a b c:Int} (pa:hasA A a=true) (pb:hasA A b=true) (pc:hasA A c=true) (v:Int→Bool):iteF A' a b c v=iteF A a b c v:=by
 unfold iteF
 rw [h.same h' hx pa,h.same h' hx pb,h.same h' hx pc]
theorem topI_ext (hx:ExtA A A') {a b c:Int} (pa:hasA A a=true) (pb:hasA A b=true) (pc:hasA A c=true):topI A' a b c=topI A a b c:=by
 unfold topI
 rw [hx.top pa,hx.top pb,hx.top pc]
theorem CacheOk.ext {f:Int×Int×Int→Option Int} (hc:CacheOk A f) (h:SpA A vars) (h':SpA A' vars) (hx:ExtA A A'):CacheOk A' f:=by
 intro a b c x e
 obtain ⟨p1,p2,p3,p4,p5,p6⟩:=hc a b c x e
 exact ⟨hx.has p1,hx.has p2,hx.has p3,hx.has p4,by rw [topI_ext hx p1 p2 p3,hx.top p4];exact p5,fun v=>by rw [h.same h' hx p4,iteF_ext h h' hx p1 p2 p3];exact p6 v⟩
theorem CacheOk.none (A:Ar):CacheOk A (fun _=>none):=fun _ _ _ _ e=>by cases e
theorem CacheOk.put {f:Int×Int×Int→Option Int} (hc:CacheOk A f) {a b c h:Int} (p1:hasA A a=true) (p2:hasA A b=true) (p3:hasA A c=true) (p4:hasA A h=true) (p5:topI A a b c≤topA A h) (p6:∀ v,den A h v=iteF A a b c v) :
  CacheOk A (fun y=>if y=(a,b,c) then some h else f y):=by
 intro a' b' c' x e
 by_cases he:(a',b',c')=(a,b,c)
 ·simp only [he,if_true] at e
  simp only [Prod.mk.injEq] at he
  obtain ⟨rfl,rfl,rfl⟩:=he
  cases e
  exact ⟨p1,p2,p3,p4,p5,p6⟩
 ·simp only [he,if_false] at e
  exact hc a' b' c' x e
theorem SpA.small (h:SpA A vars) {x:Int} (p:hasA A x=true):0≤x∧x<4002:=by
 cases e:gotA A x with
 | none=>rcases has_none p e with rfl | rfl <;> omega
 | some d =>
  obtain ⟨k,rfl,hk,_⟩:=gotA_is e
  have:=h.len
  omega
theorem SpA.i64 (h:SpA A vars) {x:Int} (p:hasA A x=true):I64 x:=by
 have:=h.small p
 unfold I64
 omega
theorem SpA.lt (h:SpA A vars) {x:Int} {d:Nd} (e:gotA A x=some d):0≤d.var∧d.var<vars:=⟨(h.wf.var x d e).1,h.var x d e⟩
theorem SpA.got (_h:SpA A vars) {x:Int} (p:hasA A x=true) (h0:x≠0) (h1:x≠1):∃ d,gotA A x=some d:=by
 cases e:gotA A x with
 | none=>rcases has_none p e with rfl | rfl <;> contradiction
 | some d=>exact ⟨d,rfl⟩
theorem iteF_at (hw:WfA A) {a b c t:Int} (pa:hasA A a=true) (pb:hasA A b=true) (pc:hasA A c=true) (ta:t≤topA A a) (tb:t≤topA A b) (tc:t≤topA A c) (h24:t<24) (v:Int→Bool) :
  iteF A a b c v=if v t then iteF A (atA A a t true) (atA A b t true) (atA A c t true) v else iteF A (atA A a t false) (atA A b t false) (atA A c t false) v:=by
 have hu:∀ bb,v t=bb→upd v t bb=v:=fun bb e=>by
  funext y
  unfold upd
  by_cases hy:y=t
  ·subst hy;rw [if_pos rfl];exact e.symm
  ·rw [if_neg hy]
 have key:∀ bb,v t=bb→iteF A (atA A a t bb) (atA A b t bb) (atA A c t bb) v=iteF A a b c v:=fun bb e=>by
  unfold iteF
  rw [(atA_fine hw pa ta h24 bb).2.2,(atA_fine hw pb tb h24 bb).2.2,(atA_fine hw pc tc h24 bb).2.2,hu bb e]
 cases e:v t
 ·rw [if_neg (by simp),key false e]
 ·rw [if_pos rfl,key true e]
end
end Go.Proofs.YtojgbcmhdnappaaGreatDoor
namespace Go.Proofs.YtojgbcmhdnappaaGreatDoor
section
variable {A A1 A2 A3:Ar} {vars:Int}
theorem ite_join (h:SpA A vars) (_h6:vars≤8) {a b c t lo hi x:Int} (ht:t=topI A a b c) (t0:0≤t) (t6:t<8) (pa:hasA A a=true) (pb:hasA A b=true) (pc:hasA A c=true)
  (S1:StpA A A1 vars (wt (topI A (atA A a t false) (atA A b t false) (atA A c t false))) (topI A (atA A a t false) (atA A b t false) (atA A c t false)) lo (iteF A (atA A a t false) (atA A b t false) (atA A c t false)))
  (S2:StpA A1 A2 vars (wt (topI A1 (atA A a t true) (atA A b t true) (atA A c t true))) (topI A1 (atA A a t true) (atA A b t true) (atA A c t true)) hi (iteF A1 (atA A a t true) (atA A b t true) (atA A c t true)))
  (S3:StpA A2 A3 vars (if t<5 then 1 else 0) t x (fun v=>if v t then den A2 hi v else den A2 lo v)) :
  StpA A A3 vars (wt t) t x (iteF A a b c):=by
 have ⟨l1,l2,l3⟩:=min3_le (topA A a) (topA A b) (topA A c)
 have ta:t≤topA A a:=by rw [ht];exact l1
 have tb:t≤topA A b:=by rw [ht];exact l2
 have tc:t≤topA A c:=by rw [ht];exact l3
 have fa:=fun bb=>atA_fine h.wf pa ta (show t<24 by omega) bb
 have fb:=fun bb=>atA_fine h.wf pb tb (show t<24 by omega) bb
 have fc:=fun bb=>atA_fine h.wf pc tc (show t<24 by omega) bb
 have x1:=min3_lt (fa false).2.1 (fb false).2.1 (fc false).2.1
 have x2:=min3_lt (fa true).2.1 (fb true).2.1 (fc true).2.1
 have hx12:=topI_ext S1.ext (fa true).1 (fb true).1 (fc true).1
 have hw:=wt_two t0 x1 x2
 have f1:=S1.few
 have f2:=S2.few
 have f3:=S3.few
 rw [hx12] at f2
 have e13:=S1.ext.trans (S2.ext.trans S3.ext)
 refine ⟨S3.sp,e13,?_,S3.has,S3.top,fun v=>?_⟩
 ·show low3 A3≤low3 A+wt t
  unfold topI at *
  omega
 ·rw [S3.den v,S2.den v,iteF_at h.wf pa pb pc ta tb tc (by omega) v,iteF_ext h S1.sp S1.ext (fa true).1 (fb true).1 (fc true).1 v,S1.sp.same S2.sp S2.ext S1.has v,S1.den v]
theorem ite_parts (h:SpA A vars) {a b c t:Int} (ht:t=topI A a b c) (t24:t<24) (pa:hasA A a=true) (pb:hasA A b=true) (pc:hasA A c=true) (bb:Bool) :
  hasA A (atA A a t bb)=true∧hasA A (atA A b t bb)=true∧hasA A (atA A c t bb)=true∧t<topI A (atA A a t bb) (atA A b t bb) (atA A c t bb):=by
 have ⟨l1,l2,l3⟩:=min3_le (topA A a) (topA A b) (topA A c)
 have fa:=atA_fine h.wf pa (show t≤topA A a by rw [ht];exact l1) t24 bb
 have fb:=atA_fine h.wf pb (show t≤topA A b by rw [ht];exact l2) t24 bb
 have fc:=atA_fine h.wf pc (show t≤topA A c by rw [ht];exact l3) t24 bb
 exact ⟨fa.1,fb.1,fc.1,min3_lt fa.2.1 fb.2.1 fc.2.1⟩
theorem ite_top (h:SpA A vars) {a b c:Int} (pa:hasA A a=true) (a0:a≠0) (a1:a≠1):0≤topI A a b c∧topI A a b c<vars:=by
 obtain ⟨d,e⟩:=h.got pa a0 a1
 have h1:=h.lt e
 have h2:=top_some e
 have h3:=h.wf.topR b
 have h4:=h.wf.topR c
 unfold topI min3
 omega
end
end Go.Proofs.YtojgbcmhdnappaaGreatDoor
namespace Go.Proofs.YtojgbcmhdnappaaGreatDoor
open Go.RowKit Go.Maps
theorem wfK {z:Int} (h:I64 z):(Lit.int .i64 z).wf=true:=WalkArith.wf_i64 (by unfold I64 at h;omega)
section
variable {w w':World} {b m:Nat} {f:Int→Option Nd}
variable {ops:Array Oper} {rest:List Oper} {o:Oper} {a:Act} {Q:Exit→Act→World→Prop}
variable {s:Int→Bool}
end
end Go.Proofs.YtojgbcmhdnappaaGreatDoor
namespace Go.Proofs.YtojgbcmhdnappaaGreatDoor
open Go.RowKit Go.Maps
structure KeyS (kt:TypeId) (α:Type) (key:α→Value) (lit:α→Lit) (ok:α→Prop):Prop where
 K:Keyed Tryz.prog kt
 of:∀ x,ok x→keyOf Tryz.prog kt (key x)=some (lit x)
 inj:∀ x y,key x=key y→x=y
 isKey:∀ x,ok x→WideAt.IsKeyLit (lit x)
theorem KeyS.ne {kt:TypeId} {α:Type} {key:α→Value} {lit:α→Lit} {ok:α→Prop} (S:KeyS kt α key lit ok) {x y:α} (hx:ok x) (hy:ok y) (h:x≠y):lit x≠lit y:=fun e =>
 h (S.inj x y (S.K.inj (S.of x hx) ((S.of y hy).trans (congrArg some e.symm))))
structure ReadsV {α:Type} (lit:α→Lit) (ok:α→Prop) (D:DataW Unit) (f:α→Option Int):Prop where
 has:∀ x,ok x→Maps.has D (lit x)=(f x).isSome
 at_:∀ x z,ok x→f x=some z→∀ d,D.atKey (lit x) d=.lit (.int .i64 z)
 isMap:IsMap D
def MapV (kt:TypeId) {α:Type} (lit:α→Lit) (ok:α→Prop) (w:World) (b:Nat) (f:α→Option Int) (m:Nat):Prop:=∃ D,w.ownsMap Tryz.prog kt (plainElem Tryz.prog 3) b m D∧ReadsV lit ok D f
section
variable {kt:TypeId} {α:Type} {key:α→Value} {lit:α→Lit} {ok:α→Prop} {w w':World} {b m:Nat} {f:α→Option Int}
theorem mapV_made (w:World):MapV kt lit ok (w.alloc (.map #[] 0)) w.heap.size (fun _=>none) 0 :=
 ⟨_,World.ownsMap_made _ _ _ _,⟨fun _ _=>rfl,fun _ _ _ e=>(by cases e),isMap_empty⟩⟩
theorem MapV.same (h:MapV kt lit ok w b f m) (hb:w'.heap[b]?=w.heap[b]?):MapV kt lit ok w' b f m:=by
 obtain ⟨D,⟨es,clock,h1,h2⟩,h3⟩:=h
 exact ⟨D,⟨es,clock,hb.trans h1,h2⟩,h3⟩
theorem MapV.lt (h:MapV kt lit ok w b f m):b<w.heap.size:=by
 obtain ⟨D,h1,_⟩:=h
 exact h1.lt
theorem MapV.below (h:MapV kt lit ok w b f m) {C:Nat} (hb:Below C w w') (hC:b<C):MapV kt lit ok w' b f m:=h.same (hb.block b hC)
theorem MapV.fr {S:Nat→Prop} (h:MapV kt lit ok w b f m) (hf:Fr S w w') (hS:¬S b):MapV kt lit ok w' b f m:=h.same (hf.block b h.lt hS)
variable [DecidableEq α]
theorem ReadsV.put {D:DataW Unit} (h:ReadsV lit ok D f) (S:KeyS kt α key lit ok) {x:α} {z:Int} (hx:ok x):ReadsV lit ok (D.put (lit x) (.lit (.int .i64 z))) (fun y=>if y=x then some z else f y):=by
 refine ⟨fun y hy=>?_,fun y z' hy e d=>?_,h.isMap.put _ _⟩
 ·by_cases e:y=x
  ·subst e
   rw [if_pos rfl]
   exact has_put_same h.isMap (S.isKey y hy) _
  ·skip
   rw [if_neg e,has_put_other (S.ne hy hx e)]
   exact h.has y hy
 ·by_cases e':y=x
  ·subst e'
   rw [if_pos rfl] at e
   cases e
   exact atKey_put_same h.isMap (S.isKey y hy) _ _
  ·skip
   rw [if_neg e'] at e
   rw [atKey_put_other (S.ne hy hx e')]
   exact h.at_ y z' hy e d
variable {ops:Array Oper} {rest:List Oper} {o:Oper} {a:Act} {Q:Exit→Act→World→Prop}
omit [DecidableEq α] in
theorem MapV.lookRun (S:KeyS kt α key lit ok) {t:TypeId} (ht:Tryz.prog.underlying t=some (.map kt 3)) (h:MapV kt lit ok w b f m) (x:α) (hi:ok x) :
  (Instr.lookup t (.map (some b)) (key x) true).run Tryz.prog w=.ok (.tuple #[.int .i64 ((f x).getD 0),.bool (f x).isSome]) w:=by
 obtain ⟨D,h1,h2⟩:=h
 obtain ⟨v,ps,hrun,hv⟩:=h1.look_ok S.K ht (show (zeroValue 3).run Tryz.prog w=.ok (.int .i64 0) w by kernel_rfl) (plainElem_int Tryz.underlying3 (by decide)) (S.of x hi)
 obtain ⟨c,rfl,hc,_⟩:=plainElem_int_inv Tryz.underlying3 hv
 have e1:=congrArg Prod.fst hc
 simp only at e1
 rw [h2.has x hi] at hrun
 have e:c=(f x).getD 0:=by
  cases e:f x with
  | none =>
   rw [atKey_of_not_has (by rw [h2.has x hi,e];rfl)] at e1
   simpa using e1.symm
  | some z =>
   rw [h2.at_ x z hi e] at e1
   simpa using e1.symm
 rw [←e]
 exact hrun
theorem storeV (S:KeyS kt α key lit ok) (hg:o.guard=none) (mo xo yo:Operand) (t:TypeId) (hop:o.op=Op.mapUpdate t mo xo yo) (ht:Tryz.prog.underlying t=some (.map kt 3))
  (hm:a.eval mo=.map (some b)) (h:MapV kt lit ok w b f m) (x:α) (z:Int) (hx:a.eval xo=key x) (hy:a.eval yo=.int .i64 z) (hi:ok x) (hz:I64 z) (hs:m≤1000000)
  (hK:∀ w',MapV kt lit ok w' b (fun y=>if y=x then some z else f y) (m+1)→w.grownBy w' (some b)→wpList Tryz.prog ops Q rest (a.put o.dst undef) w'):wpList Tryz.prog ops Q (o :: rest) a w:=by
 obtain ⟨D,h1,h2⟩:=h
 refine wpList_mapUpdate_own w hg mo xo yo t hop kt 3 S.K ht _ b m D hm h1 (by simp only [maxLen];omega) _ _ (lit x) hx hy (S.of x hi) (.lit (.int .i64 z)) [] (plainElem_int Tryz.underlying3 (wfK hz)) fun w' h3 h4=>?_
 exact hK w' ⟨_,h3,h2.put S hi⟩ h4
omit [DecidableEq α] in
theorem clearV (hg:o.guard=none) (mo:Operand) (t:TypeId) (hop:o.op=Op.call { callee:=Callee.builtin Builtin.clear,args:=#[mo],argTypes:=#[t] }) (ht:Tryz.prog.underlying t=some (.map kt 3))
  (hm:a.eval mo=.map (some b)) (h:MapV kt lit ok w b f m)
  (hK:∀ w',MapV kt lit ok w' b (fun _=>none) 0→w.grownBy w' (some b)→wpList Tryz.prog ops Q rest (a.put o.dst (.tuple #[])) w'):wpList Tryz.prog ops Q (o :: rest) a w:=by
 obtain ⟨D,h1,h2⟩:=h
 obtain ⟨es,clock,hb,F,hs,hD⟩:=h1
 have hrun:(Builtin.clear_ #[t] o.type #[.map (some b)]).run Tryz.prog w=.ok (.tuple #[]) (ChangeMaps.setBlock w b (.map #[] clock)):=by
  simp [Builtin.clear_,run_underlying ht,MapKept.run_getObj_map hb,MapKept.run_setObj_map _ hb,Result.andThen,ChangeMaps.setBlock]
 refine wpList_plain hg fun K' hK'=>?_
 unfold Oper.wp
 simp [execOp,hop,resolve,invoke,builtin,hm,hrun,Result.andThen]
 refine hK' _ _ (hK _ ⟨.map [],⟨#[],clock,ChangeMaps.heap_setBlock_same hb _,⟨by simp,Go.MapKept.stamped_empty clock,by simp⟩,Nat.le_refl _,rfl⟩,⟨fun _ _=>rfl,fun _ _ _ e=>(by cases e),isMap_empty⟩⟩ ?_)
 exact World.mapTurned.grown ⟨es,clock,#[],clock,hb,rfl⟩
end
def keyCV (x:Int×Int×Int):Value:=.agg #[.int .i64 0,.int .i64 x.1,.int .i64 x.2.1,.int .i64 x.2.2]
def keyCL (x:Int×Int×Int):Lit:=.string (keyBytes [.int .i64 0,.int .i64 x.1,.int .i64 x.2.1,.int .i64 x.2.2])
def okC (x:Int×Int×Int):Prop:=I64 x.1∧I64 x.2.1∧I64 x.2.2
theorem arrC:WideMaps.ArrKey Tryz.prog 319 3 4:=⟨Tryz.underlying319,by kernel_rfl,by kernel_rfl,by kernel_rfl⟩
theorem keyC_of {x:Int×Int×Int} (h:okC x):keyOf Tryz.prog 319 (keyCV x)=some (keyCL x):=by
 obtain ⟨a,b,c⟩:=x
 obtain ⟨h1,h2,h3⟩:=h
 have A:=arrC
 have hkt:=A.keyType ⟨441-1,by kernel_rfl⟩
 have he:=Tryz.underlying3
 have hm:Tryz.prog.types.size=(441-1)+1:=by kernel_rfl
 unfold keyOf keyCV keyCL
 simp only [A.hu]
 rw [if_pos (by simp [hkt,Value.formed,A.hu,A.size]),hm]
 unfold Program.keyLits
 simp only [A.hu,Value.cells]
 rw [if_pos (by rw [A.size];rfl),show List.range 4=[0,1,2,3] from rfl,List.mapM_cons,List.mapM_cons,List.mapM_cons,List.mapM_cons,List.mapM_nil]
 simp [A.one,Program.keyLits,he,wfK h1,wfK h2,wfK h3,wfK (show I64 0 by unfold I64;omega)]
theorem keyS_four:KeyS 319 (Int×Int×Int) keyCV keyCL okC:=by
 refine ⟨.of_law arrC.law,fun _ h=>keyC_of h,fun x y e=>?_,fun _ _=>trivial⟩
 obtain ⟨a,b,c⟩:=x
 obtain ⟨a',b',c'⟩:=y
 unfold keyCV at e
 simp at e
 simp [e]
end Go.Proofs.YtojgbcmhdnappaaGreatDoor
