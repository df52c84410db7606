/-
  A part of the proof: NatC. Conditions: none.
-/
import Derived.Lib.ItoaMem
import Derived.Test.YtojgbcmhdnappaaGreatDoorInRowK
import Derived.Laws.BitsAllLaws
import Derived.IntWalk
import Derived.Deep.QuietTactic
import Derived.BigQuiet
namespace Go.Proofs.YtojgbcmhdnappaaGreatDoor
def valL:List Nat→Nat
 | []=>0
 | x :: r=>x+4294967296*valL r
theorem valL_append:∀ (a b:List Nat),valL (a++b)=valL a+4294967296 ^ a.length*valL b:=by
 intro a
 induction a with
 | nil=>intro b;simp [valL]
 | cons x r ih =>
  intro b
  rw [List.cons_append,valL,valL,ih,List.length_cons,Nat.pow_succ]
  rw [Nat.mul_add,Nat.mul_comm (4294967296 ^ r.length) 4294967296,Nat.mul_assoc,Nat.add_assoc]
theorem valL_zero:∀ (l:List Nat),(∀ x∈l,x=0)→valL l=0:=by
 intro l
 induction l with
 | nil=>intro _;rfl
 | cons x r ih =>
  intro h
  rw [valL,h x (List.mem_cons_self ..),ih fun y hy=>h y (List.mem_cons_of_mem _ hy)]
theorem valL_take {xs:List Nat} {m:Nat} (h:∀ i,m≤i→i<xs.length→xs.getD i 0=0):valL (xs.take m)=valL xs:=by
 have hz:valL (xs.drop m)=0:=valL_zero _ fun x hx=>by
  obtain ⟨i,hi,rfl⟩:=List.getElem_of_mem hx
  rw [List.length_drop] at hi
  have:=h (m+i) (by omega) (by omega)
  rw [List.getD_eq_getElem?_getD,List.getElem?_eq_getElem (by omega)] at this
  rw [List.getElem_drop]
  simpa using this
 have:=valL_append (xs.take m) (xs.drop m)
 rw [List.take_append_drop,hz] at this
 simpa using this.symm
theorem valL_pos {xs : List Nat} (h : ∃ i, i < xs.length ∧ xs.getD i 0 ≠ 0) : 0 < valL xs := by
  induction xs with
  | nil => obtain ⟨i, hi, _⟩ := h; exact absurd hi (Nat.not_lt_zero _)
  | cons x r ih =>
    obtain ⟨i, hi, hne⟩ := h
    rw [valL]
    cases i with
    | zero => have : x ≠ 0 := by simpa using hne
              omega
    | succ i =>
      have := ih ⟨i, by simpa using hi, by simpa using hne⟩
      omega
def TrimL (xs:List Nat):Prop:=xs=[]∨xs.getD (xs.length-1) 0≠0
theorem TrimL.pos {xs:List Nat} (h:TrimL xs) (hne:xs≠[]):0<valL xs:=by
 rcases h with h | h
 ·exact absurd h hne
 ·exact valL_pos ⟨xs.length-1,by have:=List.length_pos_iff.2 hne;omega,h⟩
theorem valL_drop {xs:List Nat} {j:Nat} (h:j<xs.length):valL (xs.drop j)=xs.getD j 0+4294967296*valL (xs.drop (j+1)):=by
 rw [List.drop_eq_getElem_cons h,valL,List.getD_eq_getElem?_getD,List.getElem?_eq_getElem h];rfl
theorem short_step {d r x q s v w:Nat} (hd:0<d) (hr:r<d) (hx:x<4294967296) (hv:w=v*d+r) (hq:q=(r*4294967296+x) / d) (hs:s=(r*4294967296+x) % d) :
  x+4294967296*w=(q+4294967296*v)*d+s∧s<d∧q<4294967296:=by
 have h1:=Nat.div_add_mod (r*4294967296+x) d
 rw [←hq,←hs] at h1
 refine ⟨?_,by rw [hs];exact Nat.mod_lt _ hd,?_⟩
 ·rw [hv,Nat.add_mul,Nat.mul_add,←Nat.mul_assoc]
  have e1:q*d=d*q:=Nat.mul_comm _ _
  have e2:4294967296*v*d=4294967296*(v*d):=Nat.mul_assoc _ _ _
  omega
 ·rw [hq]
  exact (Nat.div_lt_iff_lt_mul hd).2 (by
   have:(r+1)*4294967296≤d*4294967296:=Nat.mul_le_mul_right _ hr
   rw [Nat.mul_comm 4294967296 d]
   omega)
def decL:List Nat→Nat
 | []=>0
 | d :: r=>d+10*decL r
theorem decL_append:∀ (a b:List Nat),decL (a++b)=decL a+10 ^ a.length*decL b:=by
 intro a
 induction a with
 | nil=>intro b;simp [decL]
 | cons x r ih =>
  intro b
  rw [List.cons_append,decL,decL,ih,List.length_cons,Nat.pow_succ]
  rw [Nat.mul_add,Nat.mul_comm (10 ^ r.length) 10,Nat.mul_assoc,Nat.add_assoc]
theorem decL_pos {ds : List Nat} (hne : ds ≠ []) (h : ds.getD (ds.length - 1) 0 ≠ 0) : 0 < decL ds := by
  induction ds with
  | nil => exact absurd rfl hne
  | cons d r ih =>
    rw [decL]
    cases r with
    | nil => have : d ≠ 0 := by simpa using h
             omega
    | cons e r =>
      have := ih (by simp) (by simpa using h)
      omega
theorem digits_text:∀ (ds:List Nat),(∀ d∈ds,d<10)→ds≠[]→ds.getD (ds.length-1) 0≠0→Lib.decDigits (decL ds)=(ds.map fun d=>UInt8.ofNat (48+d)).reverse:=by
 intro ds
 induction ds with
 | nil=>intro _ h _;exact absurd rfl h
 | cons d r ih =>
  intro hd _ hl
  have hd0:=hd d (List.mem_cons_self ..)
  cases r with
  | nil =>
   rw [Lib.decDigits,decL,decL,dif_pos (by omega)]
   simp
  | cons e r =>
   have hp:=decL_pos (ds:=e :: r) (by simp) (by simpa using hl)
   have:=ih (fun x hx=>hd x (List.mem_cons_of_mem _ hx)) (by simp) (by simpa using hl)
   rw [Lib.decDigits,decL,dif_neg (by omega)]
   rw [show (d+10*decL (e :: r)) / 10=decL (e :: r) by omega,show (d+10*decL (e :: r)) % 10=d by omega,this]
   simp
theorem decL_take {ds:List Nat} {m:Nat} (h:∀ i,m≤i→i<ds.length→ds.getD i 0=0):decL (ds.take m)=decL ds:=by
 have hz:∀ l:List Nat,(∀ x∈l,x=0)→decL l=0:=by
  intro l
  induction l with
  | nil=>intro _;rfl
  | cons x r ih =>
   intro h
   rw [decL,h x (List.mem_cons_self ..),ih fun y hy=>h y (List.mem_cons_of_mem _ hy)]
 have h0:decL (ds.drop m)=0:=hz _ fun x hx=>by
  obtain ⟨i,hi,rfl⟩:=List.getElem_of_mem hx
  rw [List.length_drop] at hi
  have:=h (m+i) (by omega) (by omega)
  rw [List.getD_eq_getElem?_getD,List.getElem?_eq_getElem (by omega)] at this
  rw [List.getElem_drop]
  simpa using this
 have:=decL_append (ds.take m) (ds.drop m)
 rw [List.take_append_drop,h0] at this
 simpa using this.symm
def digs:Nat→Nat→List Nat
 | 0,_=>[]
 | k+1,r=>r % 10 :: digs k (r / 10)
theorem digs_len:∀ (k r:Nat),(digs k r).length=k:=by
 intro k
 induction k with
 | zero=>intro _;rfl
 | succ k ih=>intro r;rw [digs,List.length_cons,ih]
theorem digs_lt:∀ (k r:Nat),∀ d∈digs k r,d<10:=by
 intro k
 induction k with
 | zero=>intro r d h;cases h
 | succ k ih =>
  intro r d h
  rw [digs] at h
  rcases List.mem_cons.1 h with e | h
  ·omega
  ·exact ih _ d h
theorem digs_val:∀ (k r:Nat),r<10 ^ k→decL (digs k r)=r:=by
 intro k
 induction k with
 | zero=>intro r h;simp at h;simp [digs,decL,h]
 | succ k ih =>
  intro r h
  rw [digs,decL,ih (r / 10) (by rw [Nat.pow_succ] at h;omega)]
  omega
theorem digs_snoc:∀ (k r:Nat),digs (k+1) r=digs k r++[r / 10 ^ k % 10]:=by
 intro k
 induction k with
 | zero=>intro r;simp [digs]
 | succ k ih =>
  intro r
  rw [digs,ih (r / 10),digs,List.cons_append]
  congr 2
  rw [Nat.div_div_eq_div_mul,Nat.pow_succ,Nat.mul_comm]
end Go.Proofs.YtojgbcmhdnappaaGreatDoor
namespace Go.Proofs.YtojgbcmhdnappaaGreatDoor
theorem valL_set:∀ (l:List Nat) (p y:Nat),p<l.length→valL (l.set p y)+l.getD p 0*4294967296 ^ p=valL l+y*4294967296 ^ p:=by
 intro l
 induction l with
 | nil=>intro p y h;exact absurd h (Nat.not_lt_zero _)
 | cons x r ih =>
  intro p y h
  cases p with
  | zero=>simp [valL];omega
  | succ p =>
   have h1:=ih p y (by simpa using h)
   rw [List.set_cons_succ,valL,valL,Nat.pow_succ]
   have e:(x :: r).getD (p+1) 0=r.getD p 0:=rfl
   rw [e]
   generalize 4294967296 ^ p=P at h1 ⊢
   generalize r.getD p 0=o at h1 ⊢
   have e1:o*(P*4294967296)=4294967296*(o*P):=by rw [Nat.mul_comm P,Nat.mul_left_comm]
   have e2:y*(P*4294967296)=4294967296*(y*P):=by rw [Nat.mul_comm P,Nat.mul_left_comm]
   omega
theorem set_getD {l:List Nat} {p q y:Nat} (h:p<l.length):(l.set p y).getD q 0=if p=q then y else l.getD q 0:=by
 rw [List.getD_eq_getElem?_getD,List.getElem?_set]
 split
 ·rfl
 ·rw [←List.getD_eq_getElem?_getD]
theorem valL_succ {l:List Nat} {k:Nat} (h:k<l.length):valL (l.take (k+1))=valL (l.take k)+l.getD k 0*4294967296 ^ k:=by
 rw [take_snoc l k 0 h,valL_append,List.length_take,Nat.min_eq_left (by omega)]
 simp [valL,Nat.mul_comm]
theorem limb_prod {x y:Nat} (hx:x<4294967296) (hy:y<4294967296):x*y≤18446744065119617025 :=
 Nat.mul_le_mul (show x≤4294967295 by omega) (show y≤4294967295 by omega)
theorem put_step {l:List Nat} {p z t:Nat} (hp:p<l.length) (ht:t=z+l.getD p 0):valL (l.set p (t % 4294967296))+t / 4294967296*4294967296 ^ (p+1)=valL l+z*4294967296 ^ p:=by
 have h1:=valL_set l p (t % 4294967296) hp
 have h2:=Nat.div_add_mod t 4294967296
 rw [Nat.pow_succ]
 generalize 4294967296 ^ p=P at h1 ⊢
 generalize l.getD p 0=o at h1 ht
 generalize t / 4294967296=a at h2 ⊢
 generalize t % 4294967296=b at h1 h2 ⊢
 have h3:(z+o)*P=(4294967296*a+b)*P:=by rw [←ht,h2]
 rw [Nat.add_mul,Nat.add_mul] at h3
 have e1:a*(P*4294967296)=4294967296*a*P:=by rw [Nat.mul_comm P,←Nat.mul_assoc,Nat.mul_comm a]
 omega
structure MulI (b out0:List Nat) (x i k:Nat) (out:List Nat) (c:Nat):Prop where
 len:out.length=out0.length
 lt:∀ y∈out,y<4294967296
 zero:∀ p,i+b.length≤p→out.getD p 0=0
 cl:c<4294967296
 val:valL out+c*4294967296 ^ (i+k)=valL out0+x*valL (b.take k)*4294967296 ^ i
structure MulO (a b:List Nat) (i:Nat) (out:List Nat):Prop where
 len:out.length=a.length+b.length
 lt:∀ y∈out,y<4294967296
 zero:∀ p,i+b.length≤p→out.getD p 0=0
 val:valL out=valL (a.take i)*valL b
theorem mem_set_lt {l:List Nat} {p v:Nat} (h:∀ y∈l,y<4294967296) (hv:v<4294967296):∀ y∈l.set p v,y<4294967296:=by
 intro y hy
 rcases List.mem_or_eq_of_mem_set hy with h1 | h1
 ·exact h y h1
 ·rw [h1];exact hv
theorem MulO.start (a b:List Nat):MulO a b 0 (List.replicate (a.length+b.length) 0):=by
 refine ⟨by simp,fun y hy=>by rw [(List.mem_replicate.1 hy).2];omega,fun p _=>?_,?_⟩
 ·rw [List.getD_eq_getElem?_getD,List.getElem?_replicate]
  split <;> rfl
 ·rw [valL_zero _ fun y hy=>(List.mem_replicate.1 hy).2]
  simp [valL]
theorem MulO.inner {a b:List Nat} {i:Nat} {out:List Nat} (h:MulO a b i out) (x:Nat):MulI b out x i 0 out 0 :=
 ⟨rfl,h.lt,h.zero,by omega,by simp [valL]⟩
theorem MulI.next {b out0:List Nat} {x i k:Nat} {out:List Nat} {c t:Nat} (h:MulI b out0 x i k out c) (hk:k<b.length) (hp:i+k<out.length) (hx:x<4294967296) (hb:b.getD k 0<4294967296) (ht:t=x*b.getD k 0+c+out.getD (i+k) 0) :
  MulI b out0 x i (k+1) (out.set (i+k) (t % 4294967296)) (t / 4294967296):=by
 have ho:out.getD (i+k) 0<4294967296:=by
  rw [List.getD_eq_getElem?_getD,List.getElem?_eq_getElem hp]
  exact h.lt _ (List.getElem_mem _)
 have hpr:=limb_prod hx hb
 have hc:=h.cl
 refine ⟨by rw [List.length_set];exact h.len,mem_set_lt h.lt (Nat.mod_lt _ (by omega)),fun p hp2=>?_,by omega,?_⟩
 ·rw [set_getD hp,if_neg (by omega)]
  exact h.zero p hp2
 ·have h1:=put_step (z:=x*b.getD k 0+c) hp ht
  have h2:=h.val
  rw [←Nat.add_assoc,h1,valL_succ hk,Nat.mul_add,Nat.add_mul,Nat.add_mul]
  have e:x*(b.getD k 0*4294967296 ^ k)*4294967296 ^ i=x*b.getD k 0*4294967296 ^ (i+k):=by
   rw [Nat.pow_add,Nat.mul_comm (4294967296 ^ i),←Nat.mul_assoc,←Nat.mul_assoc]
  omega
theorem MulI.done {a b out0:List Nat} {x i:Nat} {out:List Nat} {c:Nat} (h0:MulO a b i out0) (h:MulI b out0 x i b.length out c) (hi:i<a.length) (hx:x=a.getD i 0):MulO a b (i+1) (out.set (i+b.length) c):=by
 have hp:i+b.length<out.length:=by rw [h.len,h0.len];omega
 refine ⟨by rw [List.length_set,h.len,h0.len],mem_set_lt h.lt h.cl,fun p hp2=>?_,?_⟩
 ·rw [set_getD hp,if_neg (by omega)]
  exact h.zero p (by omega)
 ·have h1:=valL_set out (i+b.length) c hp
  rw [h.zero _ (Nat.le_refl _),Nat.zero_mul,Nat.add_zero] at h1
  rw [h1,h.val,List.take_length,h0.val,valL_succ hi,Nat.add_mul,hx]
  have e:a.getD i 0*valL b*4294967296 ^ i=a.getD i 0*4294967296 ^ i*valL b:=by
   rw [Nat.mul_assoc,Nat.mul_comm (valL b),←Nat.mul_assoc]
  omega
theorem MulO.fine {a b out:List Nat} (h:MulO a b a.length out):valL out=valL a*valL b:=by
 rw [h.val,List.take_length]
theorem valL_succ' (l:List Nat) (k:Nat):valL (l.take (k+1))=valL (l.take k)+l.getD k 0*4294967296 ^ k:=by
 rcases Nat.lt_or_ge k l.length with h | h
 ·exact valL_succ h
 ·rw [List.take_of_length_le (by omega),List.take_of_length_le h,List.getD_eq_getElem?_getD,List.getElem?_eq_none h]
  simp
structure AddI (a b:List Nat) (i:Nat) (out:List Nat) (c:Nat):Prop where
 len:out.length=i
 lt:∀ y∈out,y<4294967296
 cl:c≤1
 val:valL out+c*4294967296 ^ i=valL (a.take i)+valL (b.take i)
theorem AddI.start (a b:List Nat):AddI a b 0 [] 0:=⟨rfl,by simp,by omega,by simp [valL]⟩
theorem AddI.next {a b:List Nat} {i:Nat} {out:List Nat} {c t:Nat} (h:AddI a b i out c) (hx:a.getD i 0<4294967296) (hy:b.getD i 0<4294967296) (ht:t=a.getD i 0+b.getD i 0+c):AddI a b (i+1) (out++[t % 4294967296]) (t / 4294967296):=by
 have hc:=h.cl
 refine ⟨by rw [List.length_append,List.length_singleton,h.len],fun y hy=>?_,by omega,?_⟩
 ·rcases List.mem_append.1 hy with hy | hy
  ·exact h.lt y hy
  ·rw [List.mem_singleton.1 hy];exact Nat.mod_lt _ (by omega)
 ·have h1:=h.val
  have h2:=Nat.div_add_mod t 4294967296
  rw [valL_append,h.len,valL_succ',valL_succ',Nat.pow_succ]
  simp only [valL,Nat.mul_zero,Nat.add_zero]
  generalize 4294967296 ^ i=P at h1 ⊢
  generalize a.getD i 0=x at ht ⊢
  generalize b.getD i 0=y at ht ⊢
  generalize t / 4294967296=q at h2 ⊢
  generalize t % 4294967296=r at h2 ⊢
  have h3:(4294967296*q+r)*P=(x+y+c)*P:=by rw [h2,ht]
  rw [Nat.add_mul,Nat.add_mul,Nat.add_mul] at h3
  have e1:q*(P*4294967296)=4294967296*q*P:=by rw [Nat.mul_comm P,←Nat.mul_assoc,Nat.mul_comm q]
  have e2:P*r=r*P:=Nat.mul_comm _ _
  omega
theorem AddI.fine {a b out:List Nat} {c:Nat} (h:AddI a b a.length out c) (hl:b.length≤a.length):valL (out++[c])=valL a+valL b:=by
 have h1:=h.val
 rw [List.take_length,List.take_of_length_le hl] at h1
 rw [valL_append,h.len,←h1]
 simp [valL,Nat.mul_comm]
end Go.Proofs.YtojgbcmhdnappaaGreatDoor
namespace Go.Proofs.YtojgbcmhdnappaaGreatDoor
end Go.Proofs.YtojgbcmhdnappaaGreatDoor
namespace Go.Proofs.YtojgbcmhdnappaaGreatDoor
end Go.Proofs.YtojgbcmhdnappaaGreatDoor
namespace Go.Proofs.YtojgbcmhdnappaaGreatDoor
open Go.RowKit
theorem sizeAl (w:World) (o:Obj):(w.alloc o).heap.size=w.heap.size+1:=by simp
theorem sizeSet (w:World) (p:Addr) (u:Value):(w.setCell p u).heap.size=w.heap.size:=by simp [World.setCell]
def Lim (w:World) (B:Nat) (A:Option Addr) (n:Nat) (xs:List Nat):Prop :=
 xs.length=n∧n≤maxLen∧(∀ x∈xs,x<4294967296)∧Reads w B 1 A n (xs.map fun x:Nat=>Value.int .u32 (x:Int))
section
variable {w w':World} {B n:Nat} {A:Option Addr} {xs:List Nat}
theorem Lim.below (h:Lim w B A n xs) (hb:Below B w w'):Lim w' B A n xs:=⟨h.1,h.2.1,h.2.2.1,h.2.2.2.below hb⟩
theorem Lim.more (h:Lim w B A n xs) {B':Nat} (hB:B≤B'):Lim w B' A n xs:=⟨h.1,h.2.1,h.2.2.1,h.2.2.2.more hB⟩
theorem Lim.at_ (h:Lim w B A n xs) {k:Nat} (hk:k<n):∃ ad,A=some ad∧ad.block<B∧w.cell? (ad.add k)=some (.int .u32 ((xs.getD k 0:Nat):Int))∧xs.getD k 0<4294967296:=by
 obtain ⟨ad,u,e,hb,hu,hc⟩:=h.2.2.2.at_ hk
 have hkl:k<xs.length:=by rw [h.1];exact hk
 have he:xs.getD k 0=xs[k]:=by rw [List.getD_eq_getElem?_getD,List.getElem?_eq_getElem hkl];rfl
 rw [List.getElem?_map,List.getElem?_eq_getElem hkl] at hu
 refine ⟨ad,e,hb,?_,by rw [he];exact h.2.2.1 _ (List.getElem_mem hkl)⟩
 rw [he,hc,←hu]
 rfl
theorem Lim.take (h:Lim w B A n xs) {m:Nat} (hm:m≤n):Lim w B A m (xs.take m):=by
 refine ⟨by rw [List.length_take,h.1,Nat.min_eq_left hm],Nat.le_trans hm h.2.1,fun x hx=>h.2.2.1 x (List.mem_of_mem_take hx),by rw [List.length_map,List.length_take,h.1,Nat.min_eq_left hm,Nat.mul_one],fun h0=>?_⟩
 obtain ⟨ad,e,hb,hc⟩:=h.2.2.2.2 (by omega)
 refine ⟨ad,e,hb,fun j u hu=>hc j u ?_⟩
 rw [List.map_take] at hu
 rcases Nat.lt_or_ge j m with hj | hj
 ·rw [List.getElem?_take_of_lt hj] at hu;exact hu
 ·rw [List.getElem?_eq_none (by rw [List.length_take];omega)] at hu;cases hu
end
def lenV:Value→Nat
 | .slice _ n _=>n
 | _=>0
def MadePost (w:World) (A:Option Addr) (c:Nat) (xs:List Nat) (e:Ending) (w':World):Prop :=
 ∃ m,m≤xs.length∧e=.returned (.agg #[.slice A m c])∧TrimL (xs.take m)∧valL (xs.take m)=valL xs∧Below w.heap.size w w'
structure MadeI (xs:List Nat) (m:Nat):Prop where
 zero:∀ i,m≤i→i<xs.length→xs.getD i 0=0
theorem trim_take {xs:List Nat} {m:Nat} (hm:m≤xs.length) (h:m=0∨xs.getD (m-1) 0≠0):TrimL (xs.take m):=by
 rcases Nat.eq_zero_or_pos m with h0 | h0
 ·exact .inl (by rw [h0];rfl)
 ·refine .inr ?_
  rcases h with h | h
  ·omega
  ·rw [List.length_take,Nat.min_eq_left hm,List.getD_eq_getElem?_getD,List.getElem?_take_of_lt (by omega),←List.getD_eq_getElem?_getD]
   exact h
set_option maxHeartbeats 1000000 in
theorem natMade_any (A:Option Addr) (n c:Nat) (xs:List Nat) (w:World) (h:Lim w w.heap.size A n xs) (hc:n≤c) :
  Calls Tryz.prog 62 #[.slice A n c] w (MadePost w A c xs):=by
 have HL:=Lib.hid h.1
 have hm:=h.2.1
 simp only [maxLen] at hm
 have HI:=hide h
 have HB:=hide ((Below.refl w.heap.size w).alloc (Nat.le_refl _) (.cells #[.slice none 0 0] 56))
 clear h
 go_enter Tryz.func62,Tryz.ntmps62
 go_wp2
 go_loopw [0] (fun v wr=>∃ m:Nat,m≤n∧v=.slice A m c∧wr=w.alloc (.cells #[.slice none 0 0] 56)∧Hid (MadeI xs m)) (fun v _=>lenV v)
 case atStart=>exact ⟨n,Nat.le_refl _,rfl,rfl,hide ⟨fun i h1 h2=>by have:=HL.out;omega⟩⟩
 case round =>
  obtain ⟨m,hmn,rfl,rfl,hM⟩:=hrel
  rcases Nat.eq_zero_or_pos m with h0 | h0
  ·subst h0
   go_wp2
   exact bodyPost_ret (v:=.agg #[.slice A 0 c]) (by simp [results,Tryz.results62,go_sem]) rfl ⟨0,Nat.zero_le _,rfl,.inl rfl,valL_take hM.out.zero,(Below.refl w.heap.size w).alloc (Nat.le_refl _) _⟩
  ·obtain ⟨k,rfl⟩:∃ k,m=k+1:=⟨m-1,by omega⟩
   obtain ⟨ad,rfl,hb,hcell,hx⟩:=HI.out.at_ (k:=k) (by omega)
   have hc2:=(HB.out.cell (by rw [block_of_add];exact hb)).trans hcell
   clear hcell
   have HX:=hide (show xs.getD k 0=0→∀ i,k≤i→i<xs.length→xs.getD i 0=0 from fun h i h1 h2=>by
    rcases Nat.lt_or_ge k i with h3 | h3
    ·exact hM.out.zero i h3 h2
    ·obtain rfl:i=k:=by omega
     exact h)
   have HY:=hide (show xs.getD k 0≠0→TrimL (xs.take (k+1)) from fun h=>trim_take (by have:=HL.out;omega) (.inr (by simpa using h)))
   generalize xs.getD k 0=x at hc2 hx HX HY
   by_cases hz:x=0
   ·subst hz
    go_wp2
    go_roundw
    case rel=>exact ⟨k,by omega,by simp,by first | rfl | trivial,hide ⟨HX.out rfl⟩⟩
    case measure=>simp [lenV]
   ·have hzb:((x:Int)==0)=false:=by simp;omega
    go_wp2
    exact bodyPost_ret (v:=.agg #[.slice (some ad) (k+1) c]) (by simp [results,Tryz.results62,go_sem]) rfl ⟨k+1,by have:=HL.out;omega,rfl,HY.out hz,valL_take hM.out.zero,(Below.refl w.heap.size w).alloc (Nat.le_refl _) _⟩
structure NatV (w:World) (v:Value) (N:Nat):Prop where
 is:∃ A n c xs,v=.agg #[.slice A n c]∧n≤c∧Lim w w.heap.size A n xs∧TrimL xs∧valL xs=N
theorem lim_set {w:World} {B n g:Nat} {ad:Addr} {xs:List Nat} (h:Lim w B (some ad) n xs) (hg:ad.block≠g) (u:Value):Lim (w.setCell ⟨g,0,none⟩ u) B (some ad) n xs:=by
 refine ⟨h.1,h.2.1,h.2.2.1,h.2.2.2.1,fun hn=>?_⟩
 obtain ⟨ad',e,hb,hc⟩:=h.2.2.2.2 hn
 cases e
 exact ⟨ad,rfl,hb,fun j u hu=>(World.cell?_setCell_other _ _ _ _ (fun e=>hg (by rw [←block_of_add ad j,←e]))).trans (hc j u hu)⟩
theorem two_lim (w:World) (a b:Nat) (x y:Int) (u:Value) (hx:x=a) (hy:y=b) (ha:a<4294967296) (hb:b<4294967296):Lim ((w.alloc (.cells #[u] 56)).alloc (.cells #[.int .u32 x,.int .u32 y] 142)) ((w.alloc (.cells #[u] 56)).alloc (.cells #[.int .u32 x,.int .u32 y] 142)).heap.size (some ⟨w.heap.size+1,0,none⟩) 2 [a,b]:=by
 subst hx hy
 refine ⟨rfl,by simp [maxLen],fun x hx=>?_,rfl,fun _=>⟨_,rfl,by simp,fun j u hu=>?_⟩⟩
 ·simp at hx
  omega
 ·match j,hu with
  | 0,hu=>simp at hu;subst hu;simp [Addr.add]
  | 1,hu=>simp at hu;subst hu;simp [Addr.add]
def OfPost (w:World) (N:Nat) (e:Ending) (w':World):Prop:=∃ v,e=.returned v∧NatV w' v N∧Below w.heap.size w w'
set_option maxHeartbeats 1000000 in
theorem of_nat (N:Nat) (w:World) (hN:N<9223372036854775808):Calls Tryz.prog 111 #[.int .i64 N] w (OfPost w N):=by
 have HL:=hide (two_lim w (N % 4294967296) (N / 4294967296) ((N:Int) % 4294967296) ((N:Int) / 4294967296) (.slice none 0 0) (by omega) (by omega) (by omega) (by omega))
 have HM:=hide (natMade_any (some ⟨w.heap.size+1,0,none⟩) 2 2 [(N % 4294967296),(N / 4294967296)] _ HL.out (Nat.le_refl _))
 have HB:=hide (((Below.refl w.heap.size w).alloc (Nat.le_refl _) (.cells #[.slice none 0 0] 56)).alloc (by simp) (.cells #[.int .u32 ((N:Int) % 4294967296),.int .u32 ((N:Int) / 4294967296)] 142))
 have hsz:w.heap.size<((w.alloc (.cells #[.slice none 0 0] 56)).alloc (.cells #[.int .u32 ((N:Int) % 4294967296),.int .u32 ((N:Int) / 4294967296)] 142)).heap.size:=by simp;omega
 have HK:=hide ((Blk.new w 56 #[.slice none 0 0]).alloc (.cells #[.int .u32 ((N:Int) % 4294967296),.int .u32 ((N:Int) / 4294967296)] 142))
 have HV:=Lib.hid (show valL [(N % 4294967296),(N / 4294967296)]=N by simp only [valL];try omega)
 go_enter Tryz.func111,Tryz.ntmps111
 go_wp2_with fail
 generalize ((w.alloc (.cells #[.slice none 0 0] 56)).alloc (.cells #[.int .u32 ((N:Int) % 4294967296),.int .u32 ((N:Int) / 4294967296)] 142))=w1 at HL HM HB HK hsz ⊢
 refine (HM.out).mono ?_
 rintro e w2 ⟨m,hm,rfl,htr,hval,hb2⟩
 have HK2:=hide (HK.out.below hb2 HK.out.lt)
 have HB2:=hide (HB.out.trans (hb2.mono HB.out.size))
 have HLX:=hide ((HL.out.take hm).below hb2 |>.more hb2.size)
 have c0:=HK2.out.cell 0
 have f0:=HK2.out.frozen 0
 have HP:=hide (HK2.out.set_ 0 (.slice (some ⟨w.heap.size+1,0,none⟩) m 2))
 have HP0:=HP.out.cell 0
 have hm2:m≤2:=hm
 have HNV:=hide (show NatV (w2.setCell ⟨w.heap.size,0,none⟩ (.slice (some ⟨w.heap.size+1,0,none⟩) m 2)) (.agg #[.slice (some ⟨w.heap.size+1,0,none⟩) m 2]) N from ⟨_,m,2,_,rfl,hm2,by rw [sizeSet];exact lim_set HLX.out (by simp) _,htr,by rw [hval,HV.out]⟩)
 clear hb2 htr hval
 go_wp2
 exact bodyPost_ret (v:=.agg #[.slice (some ⟨w.heap.size+1,0,none⟩) m 2]) (by simp [results,Tryz.results111,go_sem,HP0]) rfl ⟨_,rfl,HNV.out,HB2.out.setCell (p:=⟨w.heap.size,0,none⟩) (Nat.le_refl _) _⟩
set_option maxHeartbeats 1000000 in
theorem of_neg (n:Int) (w:World) (hn:n<0):Calls Tryz.prog 111 #[.int .i64 n] w (OfPost w 0):=by
 have HL:=hide (two_lim w 0 0 0 0 (.slice none 0 0) (by omega) (by omega) (by omega) (by omega))
 have HM:=hide (natMade_any (some ⟨w.heap.size+1,0,none⟩) 2 2 [0,0] _ HL.out (Nat.le_refl _))
 have HB:=hide (((Below.refl w.heap.size w).alloc (Nat.le_refl _) (.cells #[.slice none 0 0] 56)).alloc (by simp) (.cells #[.int .u32 0,.int .u32 0] 142))
 have hsz:w.heap.size<((w.alloc (.cells #[.slice none 0 0] 56)).alloc (.cells #[.int .u32 0,.int .u32 0] 142)).heap.size:=by simp;omega
 have HK:=hide ((Blk.new w 56 #[.slice none 0 0]).alloc (.cells #[.int .u32 0,.int .u32 0] 142))
 have HV:=Lib.hid (show valL [0,0]=0 by simp only [valL];try omega)
 go_enter Tryz.func111,Tryz.ntmps111
 go_wp2_with fail
 generalize ((w.alloc (.cells #[.slice none 0 0] 56)).alloc (.cells #[.int .u32 0,.int .u32 0] 142))=w1 at HL HM HB HK hsz ⊢
 refine (HM.out).mono ?_
 rintro e w2 ⟨m,hm,rfl,htr,hval,hb2⟩
 have HK2:=hide (HK.out.below hb2 HK.out.lt)
 have HB2:=hide (HB.out.trans (hb2.mono HB.out.size))
 have HLX:=hide ((HL.out.take hm).below hb2 |>.more hb2.size)
 have c0:=HK2.out.cell 0
 have f0:=HK2.out.frozen 0
 have HP:=hide (HK2.out.set_ 0 (.slice (some ⟨w.heap.size+1,0,none⟩) m 2))
 have HP0:=HP.out.cell 0
 have hm2:m≤2:=hm
 have HNV:=hide (show NatV (w2.setCell ⟨w.heap.size,0,none⟩ (.slice (some ⟨w.heap.size+1,0,none⟩) m 2)) (.agg #[.slice (some ⟨w.heap.size+1,0,none⟩) m 2]) 0 from ⟨_,m,2,_,rfl,hm2,by rw [sizeSet];exact lim_set HLX.out (by simp) _,htr,by rw [hval,HV.out]⟩)
 clear hb2 htr hval
 go_wp2
 exact bodyPost_ret (v:=.agg #[.slice (some ⟨w.heap.size+1,0,none⟩) m 2]) (by simp [results,Tryz.results111,go_sem,HP0]) rfl ⟨_,rfl,HNV.out,HB2.out.setCell (p:=⟨w.heap.size,0,none⟩) (Nat.le_refl _) _⟩
theorem of_any (n:Int) (w:World) (hn:n≤9223372036854775807):Calls Tryz.prog 111 #[.int .i64 n] w (OfPost w (max 0 n).toNat):=by
 by_cases h0:n<0
 ·rw [show (max 0 n).toNat=0 by omega]
  exact of_neg n w h0
 ·obtain ⟨N,rfl⟩:∃ N:Nat,n=N:=⟨n.toNat,by omega⟩
  rw [show (max 0 (N:Int)).toNat=N by omega]
  exact of_nat N w (by omega)
end Go.Proofs.YtojgbcmhdnappaaGreatDoor
namespace Go.Proofs.YtojgbcmhdnappaaGreatDoor
open Go.RowKit
theorem NatV.below {w w':World} {v:Value} {N:Nat} (h:NatV w v N) (hb:Below w.heap.size w w'):NatV w' v N:=by
 obtain ⟨A,n,c,xs,h1,h2,h3,h4,h5⟩:=h.is
 exact ⟨A,n,c,xs,h1,h2,(h3.below hb).more hb.size,h4,h5⟩
theorem trim_zero {xs:List Nat} {n N:Nat} (hl:xs.length=n) (ht:TrimL xs) (hv:valL xs=N):N=0↔n=0:=by
 constructor
 ·intro h
  rcases Nat.eq_zero_or_pos n with h0 | h0
  ·exact h0
  ·have:=ht.pos (fun e=>by rw [e] at hl;simp at hl;omega)
   omega
 ·intro h
  rw [List.eq_nil_of_length_eq_zero (hl.trans h)] at hv
  exact hv.symm
def BoolPost (w:World) (b:Bool) (e:Ending) (w':World):Prop:=e=.returned (.bool b)∧Below w.heap.size w w'
theorem zero_any (v:Value) (N:Nat) (w:World) (h:NatV w v N):Calls Tryz.prog 60 #[v] w (BoolPost w (decide (N=0))):=by
 obtain ⟨A,n,c,xs,rfl,_,hl,ht,hv⟩:=h.is
 have HZ:=Lib.hid (trim_zero hl.1 ht hv)
 have hm:=hl.2.1
 simp only [maxLen] at hm
 have HB:=hide ((Below.refl w.heap.size w).alloc (Nat.le_refl _) (.cells #[.slice A n c] 56))
 clear hl ht hv h
 by_cases h0:n=0
 ·subst h0
  have HE:=Lib.hid (HZ.out.2 rfl)
  go_enter Tryz.func60,Tryz.ntmps60
  go_wp2
  go_ret
  exact ⟨ret_bool (by rw [decide_eq_true HE.out]),HB.out⟩
 ·have HE:=hide (show N≠0 from fun e=>h0 (HZ.out.1 e))
  have hb:((n:Int)==0)=false:=by simp;omega
  go_enter Tryz.func60,Tryz.ntmps60
  go_wp2
  go_ret
  exact ⟨ret_bool (by rw [decide_eq_false HE.out];try simp),HB.out⟩
theorem valL_big {xs:List Nat} (ht:TrimL xs) (h:2<xs.length):18446744073709551616≤valL xs:=by
 have e:=valL_append (xs.take 2) (xs.drop 2)
 rw [List.take_append_drop,List.length_take,Nat.min_eq_left (by omega)] at e
 have hp:0<valL (xs.drop 2):=valL_pos ⟨xs.length-3,by rw [List.length_drop];omega,by
  rcases ht with ht | ht
  ·rw [ht] at h;simp at h
  ·rw [List.getD_eq_getElem?_getD,List.getElem?_drop,show 2+(xs.length-3)=xs.length-1 by omega,←List.getD_eq_getElem?_getD];exact ht⟩
 rw [e]
 omega
end Go.Proofs.YtojgbcmhdnappaaGreatDoor
namespace Go.Proofs.YtojgbcmhdnappaaGreatDoor
open Go.RowKit
theorem or_low (r x:Nat) (hr:r<4294967296) (hx:x<4294967296):bits BinOp.or IntKind.u64 ((r:Int)*4294967296) (x:Int)=((r*4294967296+x:Nat):Int):=by
 have h1:=u64_or_nat (r*4294967296) x (by omega) (by omega)
 have h2:=Nat.two_pow_add_eq_or_of_lt (i:=32) (b:=x) (by omega) r
 have e:((r:Int)*4294967296)=((r*4294967296:Nat):Int):=by simp
 rw [e,h1]
 have h3:(2:Nat) ^ 32=4294967296:=by decide
 rw [h3] at h2
 rw [Nat.mul_comm r,←h2]
def DivPost (w:World) (t d:Nat) (e:Ending) (w':World):Prop:=e=.returned (.tuple #[.int .u32 ((t / d:Nat):Int),.int .u32 ((t % d:Nat):Int)])∧Below w.heap.size w w'∧w'.heap=w.heap
set_option maxHeartbeats 1000000 in
theorem div32_any (r x d:Nat) (w:World) (hr:r<d) (hd:d<4294967296) (hx:x<4294967296) :
  Calls Tryz.prog 114 #[.int .u32 (r:Int),.int .u32 (x:Int),.int .u32 (d:Int)] w (DivPost w (r*4294967296+x) d):=by
 have HO:=or_low r x (by omega) hx
 have hb:((d:Int) != 0)=true:=by simp;omega
 have hb2:decide ((d:Int)≤(r:Int))=false:=decide_eq_false (by omega)
 obtain ⟨t,HT⟩:∃ t,Hid (r*4294967296+x=t):=⟨_,Lib.hid rfl⟩
 rw [HT.out] at HO ⊢
 go_enter Tryz.func114,Tryz.ntmps114
 go_wp2
 go_quiet (fail)
 go_wp2
 go_ret2
 have hq:t / d<4294967296:=by
  rw [←HT.out]
  exact (short_step (v:=0) (w:=r) (by omega) hr hx (by omega) rfl rfl).2.2
 have e1:IntKind.u64.wrap ((t:Int) / (d:Int)) % 4294967296=((t / d:Nat):Int):=by
  have e0:(t:Int) / (d:Int)=((t / d:Nat):Int):=(Int.natCast_ediv t d).symm
  rw [e0]
  generalize t / d=q at hq ⊢
  rw [IntWalk.u64_in (q:Int) ⟨by omega,by omega⟩]
  omega
 have hr2:t % d<d:=Nat.mod_lt _ (by omega)
 have e2:((t:Int) % (d:Int)) % 4294967296=((t % d:Nat):Int):=by
  have e0:(t:Int) % (d:Int)=((t % d:Nat):Int):=(Int.natCast_emod t d).symm
  rw [e0]
  generalize t % d=q at hr2 ⊢
  omega
 exact ⟨show Ending.returned (.tuple #[.int .u32 (IntKind.u64.wrap ((t:Int) / (d:Int)) % 4294967296),.int .u32 ((t:Int) % (d:Int) % 4294967296)])=_ by rw [e1,e2],below_drewN (Below.refl _ _) _,rfl⟩
def limbArr (l:List Nat):Array Value:=(l.map fun x:Nat=>Value.int .u32 (x:Int)).toArray
theorem limbInfo:(Tryz.prog.info? 142).map (fun i=>(i.zero,i.size,i.bytes))=some (some (.int .u32 0),1,4):=by kernel_rfl
theorem limbArr_at {l:List Nat} {k:Nat} (h:k<l.length):(limbArr l)[k]?=some (.int .u32 ((l.getD k 0:Nat):Int)):=by
 unfold limbArr
 rw [List.getElem?_toArray,List.getElem?_map,List.getElem?_eq_getElem h,List.getD_eq_getElem?_getD,List.getElem?_eq_getElem h]
 rfl
theorem limbArr_zero (n:Nat):madeCells #[Value.int .u32 0] n=limbArr (List.replicate n 0):=by
 apply Array.toList_inj.1
 rw [toList_madeCells_one]
 simp [limbArr]
theorem limbArr_set (k q:Nat) (qs:List Nat):(limbArr (List.replicate (k+1) 0++qs)).setIfInBounds k (.int .u32 (q:Int))=limbArr (List.replicate k 0++q :: qs):=by
 apply Array.toList_inj.1
 rw [List.replicate_succ']
 simp [limbArr,List.set_append_right]
theorem lim_blk {w:World} {g n:Nat} {l:List Nat} (h:Blk w g 142 (limbArr l)) (hl:l.length=n) (hn:n≤maxLen) (hx:∀ x∈l,x<4294967296):Lim w w.heap.size (some ⟨g,0,none⟩) n l:=by
 refine ⟨hl,hn,hx,by rw [List.length_map,hl,Nat.mul_one],fun _=>⟨_,rfl,h.lt,fun j u hu=>?_⟩⟩
 have c:=h.cell j
 unfold limbArr at c
 rw [List.getElem?_toArray,hu] at c
 have e:(⟨g,0,none⟩:Addr).add j=⟨g,j,none⟩:=by
  unfold Addr.add
  split
  ·rename_i h0;rw [h0]
  ·simp
 rw [e]
 exact c
structure ShI (w:World) (a:List Nat) (d n j r:Nat) (qs:List Nat) (wr:World):Prop where
 bel:Below w.heap.size w wr
 blk:Blk wr w.heap.size 142 (limbArr (List.replicate j 0++qs))
 len:qs.length=n-j
 lt:∀ x∈qs,x<4294967296
 val:valL (a.drop j)=valL qs*d+r
 rd:r<d
def ShortPost (w:World) (N d n:Nat) (e:Ending) (w':World):Prop :=
 ∃ qs,e=.returned (.tuple #[.slice (some ⟨w.heap.size,0,none⟩) n n,.int .u32 ((N % d:Nat):Int)])∧Blk w' w.heap.size 142 (limbArr qs)∧qs.length=n∧(∀ x∈qs,x<4294967296)∧valL qs=N / d∧Below w.heap.size w w'
set_option maxHeartbeats 2000000 in
theorem short_any (A:Option Addr) (n c d:Nat) (xs:List Nat) (w:World) (h:Lim w w.heap.size A n xs) (hd:0<d) (hd2:d<4294967296) (hn:n≤1000000) :
  Calls Tryz.prog 61 #[.slice A n c,.int .u32 (d:Int)] w (ShortPost w (valL xs) d n):=by
 obtain ⟨i0,hi,hz0,hz1,hz2⟩:=info_parts limbInfo
 have hmk:=run_make (P:=Tryz.prog) w 54 142 i0 (.int .u32 0) Tryz.underlying54 hi hz0 .i64 .i64 (n:Int) (n:Int) (by omega) (Int.le_refl _) (by rw [hz2];omega) (by omega)
 rw [hz1,Nat.mul_one,Int.toNat_natCast,show (Value.int .u32 0).cells=#[Value.int .u32 0] from rfl,limbArr_zero] at hmk
 have HI:=hide h
 have HL:=Lib.hid h.1
 have HS:=hide (show ShI w xs d n n 0 [] (w.alloc (.cells (limbArr (List.replicate n 0)) 142)) from ⟨(Below.refl w.heap.size w).alloc (Nat.le_refl _) _,by rw [List.append_nil];exact Blk.new _ _ _,by simp,by simp,by rw [List.drop_eq_nil_of_le (Nat.le_of_eq h.1)];simp [valL],hd⟩)
 clear h hi hz0 hz1 hz2
 go_enter Tryz.func61,Tryz.ntmps61
 go_wp2
 generalize (w.alloc (.cells (limbArr (List.replicate n 0)) 142))=w1 at HS ⊢
 go_loopw [7,8] (fun rv iv wr=>∃ (j r:Nat) (qs:List Nat),j≤n∧iv=.int .i64 ((j:Int)-1)∧rv=.int .u32 (r:Int)∧Hid (ShI w xs d n j r qs wr)) (fun _ iv _=>(intOf iv+1).toNat)
 case atStart=>exact ⟨n,0,[],Nat.le_refl _,rfl,rfl,HS⟩
 case round =>
  clear HS hmk
  obtain ⟨j,r,qs,hj,rfl,rfl,hS⟩:=hrel
  rcases Nat.eq_zero_or_pos j with h0 | h0
  ·subst h0
   have HQ:=Lib.hid (show valL xs / d=valL qs∧valL xs % d=r by
    have:=hS.out.val
    rw [List.drop_zero] at this
    exact (Nat.div_mod_unique hd).2 ⟨by rw [this,Nat.mul_comm,Nat.add_comm],hS.out.rd⟩)
   have hbk:=hS.out.blk
   have HLM:=hide (show Blk wr w.heap.size 142 (limbArr qs) by simpa using hbk)
   clear hbk
   go_wp2
   go_ret2
   exact ⟨qs,by rw [HQ.out.2];rfl,HLM.out,(by have:=hS.out.len;omega),hS.out.lt,HQ.out.1.symm,hS.out.bel⟩
  ·obtain ⟨k,rfl⟩:∃ k,j=k+1:=⟨j-1,by omega⟩
   obtain ⟨ad,rfl,hb,hcell,hx⟩:=HI.out.at_ (k:=k) (by omega)
   have hc2:=(hS.out.bel.cell (by rw [block_of_add];exact hb)).trans hcell
   have hq:=short_step (q:=(r*4294967296+xs.getD k 0) / d) (s:=(r*4294967296+xs.getD k 0) % d) hd hS.out.rd hx hS.out.val rfl rfl
   rw [←valL_drop (by rw [HL.out];omega)] at hq
   have HQ:=hide hq
   have HDV:=hide (div32_any r (xs.getD k 0) d wr hS.out.rd hd2 hx)
   have o0:=(hS.out.blk.cell k).trans (limbArr_at (by simp;omega))
   have o1:=hS.out.blk.frozen k
   have HBK:=hide hS.out.blk
   have HBE:=hide hS.out.bel
   have HLE:=Lib.hid hS.out.len
   have HLT:=hide hS.out.lt
   clear hcell hq hS
   generalize xs.getD k 0=x at hc2 hx HQ HDV
   unfold DivPost at HDV
   generalize (r*4294967296+x) / d=q at HQ HDV
   generalize (r*4294967296+x) % d=s at HQ HDV
   go_wp2_with fail
   refine (HDV.out).mono ?_
   rintro e w3 ⟨rfl,hb3,hh3⟩
   have HK3:=hide (show Blk w3 w.heap.size 142 (limbArr (List.replicate (k+1) 0++qs)) by unfold Blk;rw [hh3];exact HBK.out)
   have HB3:=hide (HBE.out.trans (hb3.mono HBE.out.size))
   have p0:=(HK3.out.cell k).trans (limbArr_at (by simp;omega))
   have p1:=HK3.out.frozen k
   have HK4:=hide (HK3.out.set_ k (.int .u32 (q:Int)))
   rw [limbArr_set] at HK4
   clear o0 o1 hb3 hh3 hc2
   go_wp2
   go_roundw
   case rel=>exact ⟨k,s,q :: qs,by omega,by first | go_num | (congr 1;omega),rfl,hide ⟨HB3.out.setCell (p:=⟨w.heap.size,k,none⟩) (Nat.le_refl _) _,HK4.out,by rw [List.length_cons];have:=HLE.out;omega,fun y hy=>by
    rcases List.mem_cons.1 hy with e | e
    ·rw [e];exact HQ.out.2.2
    ·exact HLT.out y e,HQ.out.1,HQ.out.2.1⟩⟩
   case measure=>simp [intOf];try omega
end Go.Proofs.YtojgbcmhdnappaaGreatDoor
