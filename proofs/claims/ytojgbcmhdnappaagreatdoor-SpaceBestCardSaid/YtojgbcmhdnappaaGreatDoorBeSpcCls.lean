/-
  A part of the proof: SpcPure, EvCan, SpcCls. Conditions: none.
-/
import Derived.Test.YtojgbcmhdnappaaGreatDoorBeEvCnt
import Derived.Test.YtojgbcmhdnappaaGreatDoorBeBddMap
import Derived.Test.YtojgbcmhdnappaaGreatDoorBeEvCount
import Derived.Test.YtojgbcmhdnappaaGreatDoorBeRowK
namespace Go.Proofs.YtojgbcmhdnappaaGreatDoor
def valV (x:Nat):Int→Bool:=fun y=>decide (0≤y)&&x.testBit y.toNat
def mixV (x i:Nat) (v:Int→Bool):Int→Bool:=fun y=>if y<i then valV x y else v y
def instG:Nat→Nat→Nat→((Int→Bool)→Bool)→List Nat
 | 0,_,x,G=>if G (fun _=>false) then [x] else []
 | k+1,i,x,G=>instG k (i+1) (x+2 ^ i) (fun v=>G (upd v i true))++instG k (i+1) x (fun v=>G (upd v i false))
def instX (F:Nat→Bool):Nat→Nat→Nat→List Nat
 | 0,_,x=>if F x then [x] else []
 | k+1,i,x=>instX F k (i+1) (x+2 ^ i)++instX F k (i+1) x
theorem bit_add {x i:Nat} (h:x<2 ^ i) (j:Nat):(x+2 ^ i).testBit j=(decide (j=i)||x.testBit j):=by
 rw [Nat.add_comm]
 rcases Nat.lt_trichotomy j i with h1 | h1 | h1
 ·rw [Nat.testBit_two_pow_add_gt h1,decide_eq_false (by omega),Bool.false_or]
 ·subst h1
  rw [Nat.testBit_two_pow_add_eq,Nat.testBit_lt_two_pow h]
  simp
 ·have h2:2 ^ i+x<2 ^ j:=Nat.lt_of_lt_of_le (show 2 ^ i+x<2 ^ (i+1) by rw [Nat.pow_succ];omega) (Nat.pow_le_pow_right (by decide) h1)
  have h3:x<2 ^ j:=by omega
  rw [Nat.testBit_lt_two_pow h2,Nat.testBit_lt_two_pow h3,decide_eq_false (by omega)]
  rfl
theorem mix_false {x i:Nat} (h:x<2 ^ i):mixV x i (fun _=>false)=valV x:=by
 funext y
 unfold mixV
 split
 ·rfl
 ·rename_i hy
  unfold valV
  rw [Nat.testBit_lt_two_pow (Nat.lt_of_lt_of_le h (Nat.pow_le_pow_right (by decide) (by omega)))]
  simp
theorem mix_true {x i:Nat} (h:x<2 ^ i) (v:Int→Bool):mixV x i (upd v i true)=mixV (x+2 ^ i) (i+1) v:=by
 funext y
 unfold mixV upd valV
 rw [bit_add h]
 by_cases h1:y<i
 ·rw [if_pos h1,if_pos (by omega)]
  by_cases h0:0≤y
  ·rw [decide_eq_false (show ¬y.toNat=i by omega),Bool.false_or]
  ·rw [decide_eq_false h0,Bool.false_and,Bool.false_and]
 ·rw [if_neg h1]
  by_cases h2:y=i
  ·subst h2
   rw [if_pos rfl,if_pos (by omega)]
   simp
  ·rw [if_neg h2,if_neg (by omega)]
theorem mix_off {x i:Nat} (h:x<2 ^ i) (v:Int→Bool):mixV x i (upd v i false)=mixV x (i+1) v:=by
 funext y
 unfold mixV upd valV
 by_cases h1:y<i
 ·rw [if_pos h1,if_pos (by omega)]
 ·rw [if_neg h1]
  by_cases h2:y=i
  ·subst h2
   rw [if_pos rfl,if_pos (by omega),Int.toNat_natCast,Nat.testBit_lt_two_pow h]
   simp
  ·rw [if_neg h2,if_neg (by omega)]
theorem inst_same (G:(Int→Bool)→Bool):∀ k i x,x<2 ^ i→instG k i x (fun v=>G (mixV x i v))=instX (fun x=>G (valV x)) k i x:=by
 intro k
 induction k with
 | zero =>
  intro i x h
  rw [instG,instX,mix_false h]
 | succ k ih =>
  intro i x h
  have h2:x<2 ^ (i+1):=by rw [Nat.pow_succ];omega
  have h3:x+2 ^ i<2 ^ (i+1):=by rw [Nat.pow_succ];omega
  rw [instG,instX,←ih _ _ h3,←ih _ _ h2]
  congr 1
  ·congr 1
   funext v
   rw [mix_true h]
  ·congr 1
   funext v
   rw [mix_off h]
def pickF:Option (Nat×Nat)→Option (Nat×Nat)→Option (Nat×Nat)
 | none,b=>b
 | some a,none=>some a
 | some a,some b=>if b.1<a.1 then some b else some a
theorem pick_none (a:Option (Nat×Nat)):pickF a none=a:=by cases a <;> rfl
theorem pick_two (a b:Nat×Nat):pickF (some a) (some b)=if b.1<a.1 then some b else some a:=rfl
theorem pick_assoc (a b c:Option (Nat×Nat)):pickF (pickF a b) c=pickF a (pickF b c):=by
 rcases a with _ | a
 ·rfl
 ·rcases b with _ | b
  ·rfl
  ·rcases c with _ | c
   ·rw [pick_none,pick_none]
   ·rw [pick_two,pick_two]
    by_cases h1:b.1<a.1
    ·rw [if_pos h1,pick_two]
     by_cases h2:c.1<b.1
     ·rw [if_pos h2,pick_two,if_pos (by omega)]
     ·rw [if_neg h2,pick_two,if_pos h1]
    ·rw [if_neg h1,pick_two]
     by_cases h2:c.1<b.1
     ·rw [if_pos h2,pick_two]
     ·rw [if_neg h2,pick_two,if_neg h1,if_neg (by omega)]
def cheapF (C:Nat→Nat) (l:List Nat):Option (Nat×Nat):=l.foldl (fun acc x=>pickF acc (some (C x,x))) none
theorem cheap_from (C:Nat→Nat) (l:List Nat):∀ acc,l.foldl (fun acc x=>pickF acc (some (C x,x))) acc=pickF acc (cheapF C l):=by
 induction l with
 | nil=>intro acc;exact (pick_none acc).symm
 | cons x r ih =>
  intro acc
  unfold cheapF
  rw [List.foldl_cons,List.foldl_cons,ih,ih,pick_assoc]
  rfl
theorem cheap_append (C:Nat→Nat) (l r:List Nat):cheapF C (l++r)=pickF (cheapF C l) (cheapF C r):=by
 unfold cheapF
 rw [List.foldl_append,cheap_from]
 rfl
def cstF (c:Nat→Bool→Nat):Nat→Nat→Nat
 | 0,_=>0
 | n+1,x=>cstF c n x+c n (x.testBit n)
theorem cst_same (c:Nat→Bool→Nat) {x y:Nat}:∀ n,(∀ j,j<n→x.testBit j=y.testBit j)→cstF c n x=cstF c n y:=by
 intro n
 induction n with
 | zero=>intro _;rfl
 | succ n ih =>
  intro h
  rw [cstF,cstF,ih fun j hj=>h j (by omega),h n (by omega)]
def wayF (c:Nat→Bool→Nat):Nat→Nat→((Int→Bool)→Bool)→Option (Nat×Nat)
 | 0,_,G=>if G (fun _=>false) then some (0,0) else none
 | k+1,i,G=>pickF ((wayF c k (i+1) (fun v=>G (upd v i true))).map fun p=>(p.1+c i true,p.2+2 ^ i)) ((wayF c k (i+1) (fun v=>G (upd v i false))).map fun p=>(p.1+c i false,p.2))
theorem pick_map (K x:Nat) (a b:Option (Nat×Nat)):pickF (a.map fun p=>(K+p.1,x+p.2)) (b.map fun p=>(K+p.1,x+p.2))=(pickF a b).map fun p=>(K+p.1,x+p.2):=by
 rcases a with _ | a
 ·rfl
 ·rcases b with _ | b
  ·rfl
  ·simp only [Option.map_some,pickF]
   by_cases h:b.1<a.1
   ·rw [if_pos h,if_pos (by omega)];rfl
   ·rw [if_neg h,if_neg (by omega)];rfl
theorem way_cheap (c:Nat→Bool→Nat):∀ k i x (G:(Int→Bool)→Bool),x<2 ^ i→cheapF (cstF c (i+k)) (instG k i x G)=(wayF c k i G).map fun p=>(cstF c i x+p.1,x+p.2):=by
 intro k
 induction k with
 | zero =>
  intro i x G _
  rw [instG,wayF]
  split <;> rfl
 | succ k ih =>
  intro i x G h
  have h2:x<2 ^ (i+1):=by rw [Nat.pow_succ];omega
  have h3:x+2 ^ i<2 ^ (i+1):=by rw [Nat.pow_succ];omega
  rw [instG,wayF,cheap_append,show i+(k+1)=i+1+k by omega,ih _ _ _ h3,ih _ _ _ h2,←pick_map,Option.map_map,Option.map_map]
  have e1:cstF c (i+1) (x+2 ^ i)=cstF c i x+c i true:=by
   rw [cstF,cst_same c (y:=x) i fun j hj=>by rw [bit_add h,decide_eq_false (by omega),Bool.false_or],bit_add h]
   simp
  have e2:cstF c (i+1) x=cstF c i x+c i false:=by
   rw [cstF,Nat.testBit_lt_two_pow h]
  congr 1
  ·congr 1
   funext p
   simp only [Function.comp,e1,Prod.mk.injEq]
   omega
  ·congr 1
   funext p
   simp only [Function.comp,e2,Prod.mk.injEq,and_true]
   omega
def revB:Nat→Nat→Nat
 | 0,_=>0
 | n+1,q=>revB n (q / 2)+(if q % 2=1 then 2 ^ n else 0)
theorem revB_lt:∀ n q,revB n q<2 ^ n:=by
 intro n
 induction n with
 | zero=>intro q;exact Nat.one_pos
 | succ n ih =>
  intro q
  have:=ih (q / 2)
  rw [revB,Nat.pow_succ]
  split <;> omega
theorem revB_bit:∀ n q v,v<n→(revB n q).testBit v=q.testBit (n-1-v):=by
 intro n
 induction n with
 | zero=>intro q v h;omega
 | succ n ih =>
  intro q v h
  have hl:=revB_lt n (q / 2)
  have hq:∀ j,q.testBit (j+1)=(q / 2).testBit j:=fun j=>Nat.testBit_succ q j
  rw [revB]
  by_cases hv:v=n
  ·subst hv
   rw [show v+1-1-v=0 by omega,Nat.testBit_zero]
   split
   ·rename_i h1
    rw [bit_add hl,h1]
    simp
   ·rename_i h1
    rw [Nat.add_zero,Nat.testBit_lt_two_pow hl]
    simp [h1]
  ·have hb:(revB n (q / 2)+if q % 2=1 then 2 ^ n else 0).testBit v=(revB n (q / 2)).testBit v:=by
    split
    ·rw [bit_add hl,decide_eq_false hv,Bool.false_or]
    ·rw [Nat.add_zero]
   rw [hb,ih (q / 2) v (by omega),show n+1-1-v=(n-1-v)+1 by omega,hq]
def instR (F:Nat→Bool) (n:Nat):Nat→List Nat
 | 0=>[]
 | m+1=>(if F (revB n m) then [revB n m] else [])++instR F n m
theorem instR_split (F:Nat→Bool) (n:Nat):∀ k i p,i+k=n→instR F n (p*2 ^ k+2 ^ k)=instX F k i (revB i p)++instR F n (p*2 ^ k):=by
 intro k
 induction k with
 | zero =>
  intro i p h
  have:i=n:=by omega
  subst this
  rw [Nat.pow_zero,Nat.mul_one,instR,instX]
 | succ k ih =>
  intro i p h
  have h1:=(ih (i+1) (2*p+1) (by omega))
  have h2:=(ih (i+1) (2*p) (by omega))
  have e1:revB (i+1) (2*p+1)=revB i p+2 ^ i:=by
   rw [revB,show (2*p+1) / 2=p by omega,if_pos (by omega)]
  have e2:revB (i+1) (2*p)=revB i p:=by
   rw [revB,show 2*p / 2=p by omega,if_neg (by omega),Nat.add_zero]
  have m0:p*2 ^ (k+1)=2*p*2 ^ k:=by rw [Nat.pow_succ,Nat.mul_comm (2 ^ k) 2,←Nat.mul_assoc,Nat.mul_comm p 2]
  have m4:(2:Nat) ^ (k+1)=2 ^ k+2 ^ k:=by rw [Nat.pow_succ];omega
  have m1:p*2 ^ (k+1)+2 ^ (k+1)=(2*p+1)*2 ^ k+2 ^ k:=by rw [m0,m4,Nat.add_mul,Nat.one_mul,Nat.add_assoc]
  have m2:(2*p+1)*2 ^ k=2*p*2 ^ k+2 ^ k:=by rw [Nat.add_mul,Nat.one_mul]
  rw [m1,h1,m2,h2,m0,e1,e2,instX,List.append_assoc]
theorem instR_all (F:Nat→Bool) (n:Nat):instR F n (2 ^ n)=instX F n 0 0:=by
 have:=(instR_split F n n 0 0 (by omega))
 rw [Nat.zero_mul,Nat.zero_add] at this
 rw [this,instR,List.append_nil]
 rfl
theorem cheap_way (c:Nat→Bool→Nat) (G:(Int→Bool)→Bool) (hG:∀ v v',(∀ y:Int,0≤y→v y=v' y)→G v=G v') (n:Nat):cheapF (cstF c n) (instR (fun x=>G (valV x)) n (2 ^ n))=wayF c n 0 G:=by
 have e:(fun v=>G (mixV 0 0 v))=G:=by
  funext v
  refine hG _ _ fun y hy=>?_
  unfold mixV
  rw [if_neg (by omega)]
 rw [instR_all,←inst_same G n 0 0 (by decide),e]
 have:=way_cheap c n 0 0 G (by decide)
 rw [Nat.zero_add] at this
 rw [this]
 cases wayF c n 0 G with
 | none=>rfl
 | some p=>simp only [Option.map_some,cstF,Nat.zero_add]
end Go.Proofs.YtojgbcmhdnappaaGreatDoor
namespace Go.Proofs.YtojgbcmhdnappaaGreatDoor
section
variable {A:Ar} {h v:Int} {d:Nd} {is:Bool}
end
theorem revB_twice {n q:Nat} (h:q<2 ^ n):revB n (revB n q)=q:=by
 apply Nat.eq_of_testBit_eq
 intro v
 by_cases hv:v<n
 ·rw [revB_bit n _ v hv,revB_bit n q (n-1-v) (by omega),show n-1-(n-1-v)=v by omega]
 ·have hp:=Nat.pow_le_pow_right (n:=2) (by decide) (show n≤v by omega)
  rw [Nat.testBit_lt_two_pow (Nat.lt_of_lt_of_le (revB_lt n _) hp),Nat.testBit_lt_two_pow (Nat.lt_of_lt_of_le h hp)]
theorem mem_instR {F:Nat→Bool} {n x:Nat}:∀ m,x∈instR F n m↔∃ q,q<m∧x=revB n q∧F x=true:=by
 intro m
 induction m with
 | zero=>exact ⟨fun h=>absurd h List.not_mem_nil,fun ⟨q,h,_⟩=>absurd h (Nat.not_lt_zero _)⟩
 | succ m ih =>
  rw [instR,List.mem_append,ih]
  constructor
  ·rintro (h | ⟨q,h1,h2⟩)
   ·split at h
    ·rename_i hf
     rw [List.mem_singleton.1 h]
     exact ⟨m,by omega,rfl,hf⟩
    ·exact absurd h List.not_mem_nil
   ·exact ⟨q,by omega,h2⟩
  ·rintro ⟨q,h1,rfl,h3⟩
   by_cases hq:q=m
   ·subst hq
    exact .inl (by rw [if_pos h3];exact List.mem_singleton.2 rfl)
   ·exact .inr ⟨q,by omega,rfl,h3⟩
theorem mem_inst {F:Nat→Bool} {n x:Nat}:x∈instR F n (2 ^ n)↔x<2 ^ n∧F x=true:=by
 rw [mem_instR]
 constructor
 ·rintro ⟨q,_,rfl,h⟩
  exact ⟨revB_lt n q,h⟩
 ·rintro ⟨h1,h2⟩
  exact ⟨revB n x,revB_lt n x,(revB_twice h1).symm,h2⟩
end Go.Proofs.YtojgbcmhdnappaaGreatDoor
namespace Go.Proofs.YtojgbcmhdnappaaGreatDoor
open Go.RowKit Go.Maps
set_option maxRecDepth 100000
def clB (zs:List Int) (v:Int→Bool):Bool:=zs.any fun x=>v ((x.natAbs:Int)-1)==decide (0<x)
theorem clB_snoc (zs:List Int) (x:Int) (v:Int→Bool):clB (zs++[x]) v=(clB zs v||(v ((x.natAbs:Int)-1)==decide (0<x))):=by
 unfold clB
 rw [List.any_append,List.any_cons,List.any_nil,Bool.or_false]
def StpI (w:World) (S B gn gu gt gc:Nat) (vars:Int) (A:Ar) (m cl cm:Nat) (F:(Int→Bool)→Bool) (y:Int) (w':World):Prop :=
 ∃ A' m',SpM w' S B gn gu gt gc vars A' m'∧StpA A A' vars cl 0 y F∧m'≤m+cm∧Fr (spB B gn gu gt gc) w w'
section
variable {w w1:World} {S B gn gu gt gc m:Nat} {vars:Int} {A:Ar}
theorem StpI.lit {cl cm:Nat} {F:(Int→Bool)→Bool} {y t:Int} {is:Bool} (h:StpI w S B gn gu gt gc vars A m cl cm F y w1) (t0:0≤t) (tv:t<vars) (hl:low3 A+cl+32≤2000) (hm:m+cm+255≤1000000) :
  Calls Tryz.prog 105 #[.pointer (some ⟨S,0,none⟩),.int .i64 t,.bool is] w1 (fun e w2=>∃ x,e=.returned (.tuple #[.int .i64 x,.nilIface]) ∧
   Calls Tryz.prog 106 #[.pointer (some ⟨S,0,none⟩),.int .i64 y,.int .i64 x] w2 (fun e w3=>∃ z,e=.returned (.tuple #[.int .i64 z,.nilIface])∧StpI w S B gn gu gt gc vars A m (cl+32) (cm+255) (fun v=>F v||(v t==is)) z w3)):=by
 obtain ⟨A1,m1,h1,h2,h3,h4⟩:=h
 have hf:=h2.few
 have hi1:(if t<5 then 1 else 0)≤1:=by split <;> omega
 refine (bdLit_any S B gn gu gt gc m1 vars A1 w1 t is h1 t0 tv (by omega)).mono ?_
 rintro e w2 ⟨A2,x,m2,rfl,g1,g2,g3,g4⟩
 refine ⟨x,rfl,?_⟩
 have hf2:=g2.few
 have hy:hasA A2 y=true:=g2.ext.has h2.has
 refine (bdOr_any S B gn gu gt gc m2 vars A2 w2 y x (fun v=>F v||(v t==is)) ⟨g1,by omega,by omega⟩ hy g2.has (fun v=>by rw [h2.sp.same g2.sp g2.ext h2.has v,h2.den v,g2.den v])).mono ?_
 rintro e w3 ⟨A3,z,m3,rfl,k1,k2,k3,k4⟩
 have hf3:=k2.few
 exact ⟨z,rfl,A3,m3,k1,⟨k2.sp,h2.ext.trans (g2.ext.trans k2.ext),by omega,k2.has,k2.top,k2.den⟩,by omega,h4.trans (g4.trans k4)⟩
theorem StpI.eq {cl cm cl' cm':Nat} {F F':(Int→Bool)→Bool} {y:Int} (h:StpI w S B gn gu gt gc vars A m cl cm F y w1) (hc:cl≤cl') (hm:cm≤cm') (hF:∀ v,F v=F' v):StpI w S B gn gu gt gc vars A m cl' cm' F' y w1:=by
 obtain ⟨A1,m1,h1,h2,h3,h4⟩:=h
 exact ⟨A1,m1,h1,⟨h2.sp,h2.ext,by have:=h2.few;omega,h2.has,h2.top,fun v=>(h2.den v).trans (hF v)⟩,by omega,h4⟩
theorem StpI.and_ {cl cm:Nat} {F G:(Int→Bool)→Bool} {a y:Int} (h:StpI w S B gn gu gt gc vars A m cl cm F y w1) (hA:SpA A vars) (pa:hasA A a=true) (hG:∀ v,den A a v=G v) (hl:low3 A+cl+31≤2000) (hm:m+cm+255≤1000000) :
  Calls Tryz.prog 53 #[.pointer (some ⟨S,0,none⟩),.int .i64 a,.int .i64 y] w1 (fun e w3=>∃ z,e=.returned (.tuple #[.int .i64 z,.nilIface])∧StpI w S B gn gu gt gc vars A m (cl+31) (cm+255) (fun v=>G v&&F v) z w3):=by
 obtain ⟨A1,m1,h1,h2,h3,h4⟩:=h
 have hf:=h2.few
 refine (bdAnd_any S B gn gu gt gc m1 vars A1 w1 a y (fun v=>G v&&F v) ⟨h1,by omega,by omega⟩ (h2.ext.has pa) h2.has (fun v=>by rw [hA.same h2.sp h2.ext pa v,hG v,h2.den v])).mono ?_
 rintro e w3 ⟨A3,z,m3,rfl,k1,k2,k3,k4⟩
 have hf3:=k2.few
 exact ⟨z,rfl,A3,m3,k1,⟨k2.sp,h2.ext.trans k2.ext,by omega,k2.has,k2.top,k2.den⟩,by omega,h4.trans k4⟩
end
def ClsI (w:World) (S B gn gu gt gc m:Nat) (vars:Int) (A:Ar) (zs:List Int) (i:Nat) (y:Int) (wr:World):Prop :=
 (i=0→y=1∧wr=w)∧(i=1→StpI w S B gn gu gt gc vars A m (32*zs.length+31) (255*zs.length+255) (clB zs) y wr)
def ClsQ (w:World) (S B gn gu gt gc m:Nat) (vars:Int) (A:Ar) (zs:List Int) (e:Ending) (w':World):Prop :=
 ∃ y,e=.returned (.tuple #[.int .i64 y,.nilIface])∧StpI w S B gn gu gt gc vars A m (32*zs.length+31) (255*zs.length+255) (clB zs) y w'
set_option maxHeartbeats 4000000 in
theorem spcClauses_any (S B gn gu gt gc m D b:Nat) (vars:Int) (A:Ar) (Ac:Option Addr) (nc cc:Nat) (zs:List Int) (w:World) (h:SpM w S B gn gu gt gc vars A m)
  (hD:∀ k,spB B gn gu gt gc k→D≤k) (hDw:D≤w.heap.size) (hz:Ints w D Ac nc zs) (hk:Blk w b 125 #[.slice Ac nc cc])
  (hv:∀ x∈zs,x≠0∧(x.natAbs:Int)≤vars) (hn:nc≤20) (hl:low3 A+32*nc+31≤1900) (hm:m+255*nc+255≤900000) :
  Calls Tryz.prog 52 #[.pointer (some ⟨S,0,none⟩),.slice (some ⟨b,0,none⟩) 1 1] w (ClsQ w S B gn gu gt gc m vars A zs):=by
 have hlen:zs.length=nc:=hz.len
 have hv8:=h.v6
 have HZ:=hide hz
 have HV:=Lib.hid hv
 have HK:=hide hk
 have HN:=Lib.hid hn
 have HM:=Lib.hid hm
 have HL:=Lib.hid hl
 have y0:=hk.cell 0
 have HS0:=hide (show StpI w S B gn gu gt gc vars A m (32*0) (255*0) (clB (zs.take 0)) 0 w from ⟨A,m,h,StpA.refl h.sp has_ends.1 (h.sp.top0 0) _ (fun v=>by rw [den_zero];rfl),Nat.le_refl _,Fr.refl _ _⟩)
 have HA:=Lib.hid (show SpA A vars from h.sp)
 have HI:=hide (show ClsI w S B gn gu gt gc m vars A zs 0 1 w from ⟨fun _=>⟨rfl,rfl⟩,fun e=>absurd e (by decide)⟩)
 have HDF:=Lib.hid (fun (wr:World) (hf:Fr (spB B gn gu gt gc) w wr)=>show Below D w wr from hf.to_below hDw (fun k hk hs=>by have:=hD k hs;omega))
 clear h hk hD hv hz hn hl hm
 go_enter Tryz.func52,Tryz.ntmps52
 go_wp2_with fail
 go_loopw [6,22] (fun av iv wr=>∃ (i:Nat) (y:Int),i≤1∧iv=.int .i64 i∧av=.int .i64 y∧Hid (ClsI w S B gn gu gt gc m vars A zs i y wr)) (fun _ iv _=>1-(intOf iv).toNat)
 case atStart=>exact ⟨0,1,by decide,rfl,rfl,HI⟩
 case round =>
  obtain ⟨i,y,hi,rfl,rfl,HC⟩:=hrel
  by_cases hlt:i=0
  ·subst hlt
   obtain ⟨hy,hw⟩:=HC.out.1 rfl
   have hw':=hw.symm
   clear hw
   subst hy
   subst hw'
   rw [show ((0:Nat):Int)=(0:Int) from rfl]
   clear HC HI
   go_wp2_with fail
   go_loopw [9,28] (fun ov jv wj=>∃ (j:Nat) (o:Int),j≤nc∧jv=.int .i64 j∧ov=.int .i64 o∧Hid (StpI w S B gn gu gt gc vars A m (32*j) (255*j) (clB (zs.take j)) o wj)) (fun _ jv _=>nc-(intOf jv).toNat)
   case atStart=>exact ⟨0,0,Nat.zero_le _,rfl,rfl,HS0⟩
   case round =>
    clear HS0
    obtain ⟨j,o,hj,rfl,rfl,HS⟩:=hrel
    by_cases hjt:j<nc
    ·have hjz:(j:Int)<(nc:Int):=by omega
     obtain ⟨A9,m9,q1,q2,q3,q4⟩:=HS.out
     obtain ⟨ad,rfl,hadB,hx⟩:=(HZ.out.below (HDF.out _ q4)).at_ hjt
     have hjl:j<zs.length:=by omega
     have hmem:zs.getD j 0∈zs:=by rw [List.getD_eq_getElem?_getD,List.getElem?_eq_getElem hjl];exact List.getElem_mem hjl
     obtain ⟨v1,v2⟩:=HV.out _ hmem
     have htk:zs.take (j+1)=zs.take j++[zs.getD j 0]:=by rw [List.take_add_one,List.getElem?_eq_getElem hjl,List.getD_eq_getElem?_getD,List.getElem?_eq_getElem hjl];rfl
     have HTK:=Lib.hid htk
     generalize zs.getD j 0=x at hx v1 v2 HTK
     clear htk hmem q1 q2 q3 q4
     have hlo:=HL.out
     have hmo:=HM.out
     by_cases hx0:x<0
     ·have HLT:=hide (HS.out.lit (t := -x-1) (is:=false) (by omega) (by omega) (by omega) (by omega))
      have hw1:wrap64 (-x) = -x:=by unfold wrap64;omega
      have hw2:wrap64 (-x-1) = -x-1:=by unfold wrap64;omega
      go_wp2_with fail
      refine HLT.out.mono ?_
      rintro e w2 ⟨x1,rfl,hor⟩
      have HOR:=hide hor
      clear hor HLT
      go_wp2_with fail
      refine HOR.out.mono ?_
      rintro e w3 ⟨z,rfl,hst⟩
      have HNX:=hide (show StpI w S B gn gu gt gc vars A m (32*(j+1)) (255*(j+1)) (clB (zs.take (j+1))) z w3 from hst.eq (by omega) (by omega) (fun v=>by rw [HTK.out,clB_snoc,show ((x.natAbs:Int)-1) = -x-1 by omega];congr 2;symm;exact decide_eq_false (by omega)))
      clear hst HOR
      go_wp2_with fail
      go_round
      case rel=>exact ⟨j+1,z,by omega,by go_num,rfl,HNX⟩
      case measure=>simp [intOf];omega
     ·have HLT:=hide (HS.out.lit (t:=x-1) (is:=true) (by omega) (by omega) (by omega) (by omega))
      have hw1:wrap64 (x-1)=x-1:=by unfold wrap64;omega
      go_wp2_with fail
      refine HLT.out.mono ?_
      rintro e w2 ⟨x1,rfl,hor⟩
      have HOR:=hide hor
      clear hor HLT
      go_wp2_with fail
      refine HOR.out.mono ?_
      rintro e w3 ⟨z,rfl,hst⟩
      have HNX:=hide (show StpI w S B gn gu gt gc vars A m (32*(j+1)) (255*(j+1)) (clB (zs.take (j+1))) z w3 from hst.eq (by omega) (by omega) (fun v=>by rw [HTK.out,clB_snoc,show ((x.natAbs:Int)-1)=x-1 by omega];congr 2;symm;exact decide_eq_true (by omega)))
      clear hst HOR
      go_wp2_with fail
      go_round
      case rel=>exact ⟨j+1,z,by omega,by go_num,rfl,HNX⟩
      case measure=>simp [intOf];omega
    ·have hjz:¬(j:Int)<(nc:Int):=by omega
     have hjn:j=nc:=by omega
     subst hjn
     have hlo:=HL.out
     have hmo:=HM.out
     have hfull:zs.take j=zs:=List.take_of_length_le (by omega)
     have HAN:=hide (((HS.out.eq (F':=clB zs) (Nat.le_refl _) (Nat.le_refl _) (fun v=>by rw [hfull])).and_ (G:=fun _=>true) HA.out has_ends.2 (fun v=>den_one A v) (by omega) (by omega)))
     clear HS hfull
     go_wp2_with fail
     refine HAN.out.mono ?_
     rintro e w3 ⟨z,rfl,hst⟩
     have HNX:=hide (show ClsI w S B gn gu gt gc m vars A zs 1 z w3 from ⟨fun e=>absurd e (by decide),fun _=>hst.eq (F':=clB zs) (by omega) (by omega) (fun v=>by simp)⟩)
     clear hst HAN
     go_wp2_with fail
     go_round
     case rel=>exact ⟨1,z,by decide,by go_num,rfl,HNX⟩
     case measure=>simp [intOf]
  ·have hi1:i=1:=by omega
   subst hi1
   have HQ:=hide (HC.out.2 rfl)
   clear HC
   go_wp2_with fail
   go_ret2
   exact ⟨y,rfl,HQ.out⟩
end Go.Proofs.YtojgbcmhdnappaaGreatDoor
