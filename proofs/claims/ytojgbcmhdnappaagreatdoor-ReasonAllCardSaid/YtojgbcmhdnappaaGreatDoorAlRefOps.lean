/-
  A part of the proof: RefOps. Conditions: none.
-/
import Derived.Test.YtojgbcmhdnappaaGreatDoorAlRgText
import Derived.Test.YtojgbcmhdnappaaGreatDoorAlOwnIs
namespace Go.Proofs.YtojgbcmhdnappaaGreatDoor
open Go.RowKit
def flatI (l:List (Nat×Nat)):List Int:=(flat l).map fun x:Nat=>(x:Int)
theorem flatI_len (l:List (Nat×Nat)):(flatI l).length=(flat l).length:=by unfold flatI;simp
def RrP (w:World) (l:List (Nat×Nat)) (e:Ending) (w':World):Prop:=∃ v,e=.returned v∧OwnI w' w.heap.size v (flatI l)∧Below w.heap.size w w'
theorem ownI_pair (w:World) (base:Nat) (hb:base≤w.heap.size) (a b:Int):OwnI (w.alloc (.cells #[.int .i64 a,.int .i64 b] 3)) base (.slice (some ⟨w.heap.size,0,none⟩) 2 2) [a,b] :=
 ⟨rfl,.inr ⟨w.heap.size,2,#[.int .i64 a,.int .i64 b],rfl,hb,Blk.new w _ _,Nat.le_refl _,by simp [maxLen],rfl,rfl⟩⟩
theorem row_any (f t:Nat) (w:World):Calls Tryz.prog 121 #[.int .i64 (f:Int),.int .i64 (t:Int)] w (RrP w (rowC f t)):=by
 by_cases h:f<t
 ·have hz:¬(t:Int)≤(f:Int):=by omega
  have hfl:flatI (rowC f t)=[(f:Int),(t:Int)]:=by unfold flatI;rw [row_flat,if_pos h];rfl
  have HO:=hide (ownI_pair w w.heap.size (Nat.le_refl _) (f:Int) (t:Int))
  rw [←hfl] at HO
  clear hfl
  go_enter Tryz.func121,Tryz.ntmps121
  go_wp2_with fail
  go_ret
  exact ⟨_,rfl,HO.out,(Below.refl w.heap.size w).alloc (Nat.le_refl _) _⟩
 ·have hz:(t:Int)≤(f:Int):=by omega
  have hfl:flatI (rowC f t)=[]:=by unfold flatI;rw [row_flat,if_neg h];rfl
  have HO:=hide (show OwnI w w.heap.size (.slice none 0 0) (flatI (rowC f t)) by rw [hfl];exact ownI_nil _ _)
  clear hfl
  go_enter Tryz.func121,Tryz.ntmps121
  go_wp2_with fail
  go_ret
  exact ⟨_,rfl,HO.out,Below.refl _ _⟩
theorem count_prefix {r:List Nat} {n k:Nat} (hr:r.Pairwise (· < ·)) (hk:k≤r.length) (h1:∀ j,(hj:j<k)→r.getD j 0≤n) (h2:k=r.length∨n<r.getD k 0):r.countP (fun x=>decide (x≤n))=k:=by
  have e:r=r.take k++r.drop k:=(List.take_append_drop k r).symm
  have a:(r.take k).countP (fun x=>decide (x≤n))=k:=by
    rw [List.countP_eq_length.2]
    · simp;omega
    · intro x hx
      obtain ⟨j,hj,rfl⟩:=List.getElem_of_mem hx
      have hj2:j<k:=by simp at hj;omega
      have:=h1 j hj2
      rw [List.getD_eq_getElem?_getD,List.getElem?_eq_getElem (by omega)] at this
      simpa using this
  have b:(r.drop k).countP (fun x=>decide (x≤n))=0:=by
    rw [List.countP_eq_zero]
    intro x hx
    rcases h2 with rfl | h2
    · simp at hx
    · have hkl:k<r.length:=by
        rcases Nat.lt_or_ge k r.length with h | h
        · exact h
        · rw [List.drop_eq_nil_of_le h] at hx;cases hx
      rw [List.getD_eq_getElem?_getD,List.getElem?_eq_getElem hkl] at h2
      rw [List.drop_eq_getElem_cons hkl] at hx
      rcases List.mem_cons.1 hx with rfl | hx
      · simp at h2 ⊢;omega
      · have hp:=hr
        rw [e,List.drop_eq_getElem_cons hkl,List.pairwise_append] at hp
        have:=(List.pairwise_cons.1 hp.2.1).1 x hx
        simp at h2 ⊢;omega
  conv=>lhs;rw [e]
  rw [List.countP_append,a,b,Nat.add_zero]
theorem par_is (C:Nat):((C:Int) % 2==1)=decide (C % 2=1):=by
 by_cases h:C % 2=1
 ·rw [decide_eq_true h];exact beq_iff_eq.2 (by omega)
 ·rw [decide_eq_false h];exact beq_eq_false_iff_ne.2 (by omega)
def InP (l:List (Nat×Nat)) (n:Nat) (w:World) (e:Ending) (w':World):Prop:=e=.returned (.bool (setS l n))∧w'=w
set_option maxRecDepth 100000 in
theorem in_any (v:Value) (l:List (Nat×Nat)) (n:Nat) (w:World) (h:OwnI w 0 v (flatI l)) (hl:CanF 0 l):Calls Tryz.prog 197 #[v,.int .i64 (n:Int)] w (InP l n w):=by
 have hlen:=flatI_len l
 have hrise:=Lib.hid (flat_rise hl)
 have hin:=in_flat hl n
 have hget:∀ j,j<(flat l).length→(flatI l).getD j 0=((flat l).getD j 0:Nat):=fun j hj=>by
  unfold flatI
  rw [List.getD_eq_getElem?_getD,List.getElem?_map,List.getD_eq_getElem?_getD,List.getElem?_eq_getElem hj]
  rfl
 have HG:=Lib.hid hget
 obtain ⟨A,c,rfl⟩:=h.len
 have HR:=hide h.row
 unfold InP
 rw [←hin]
 unfold inF
 clear hin hl hget
 have hsz:(flat l).length≤9223372036854775807:=by
  rcases h.2 with ⟨_,h0⟩ | ⟨g,cap,cur,_,_,_,h1,h2,_⟩
  ·omega
  ·simp only [maxLen] at h2;omega
 clear h
 rw [hlen] at HR ⊢
 generalize flat l=r at hrise HG HR hsz ⊢
 generalize hC:r.countP (fun x=>decide (x≤n))=C
 have HC:=Lib.hid hC
 clear hC hlen
 go_enter Tryz.func197,Tryz.ntmps197
 go_wp2_with fail
 go_loopw [5] (fun v5 wr=>∃ k:Nat,k≤r.length∧v5=.int .i64 k∧wr=w∧Hid (∀ j,(hj:j<k)→r.getD j 0≤n)) (fun v5 _=>r.length-(intOf v5).toNat)
 case atStart=>exact ⟨0,Nat.zero_le _,rfl,rfl,hide (fun j hj=>absurd hj (Nat.not_lt_zero _))⟩
 case round =>
  obtain ⟨k,hk,rfl,hw,HK⟩:=hrel
  subst hw
  by_cases hlt:k<r.length
  ·have hltz:(k:Int)<(r.length:Int):=by omega
   obtain ⟨ad,u,rfl,_,e1,e2⟩:=HR.out.2.at_ hlt
   rw [intsV_at (by rw [HR.out.1];exact hlt),HG.out k hlt] at e1
   injection e1 with e1
   subst e1
   by_cases hle:r.getD k 0≤n
   ·have hlez:((r.getD k 0:Nat):Int)≤(n:Int):=by omega
    have HK2:=hide (show ∀ j,(hj:j<k+1)→r.getD j 0≤n from fun j hj=>by
     rcases Nat.lt_or_ge j k with h | h
     ·exact HK.out j h
     ·obtain rfl:j=k:=by omega
      exact hle)
    generalize r.getD k 0=y at e2 hlez
    go_wp2_with fail
    go_round
    case rel=>exact ⟨k+1,by omega,by go_num,trivial,HK2⟩
    case measure=>simp [intOf];omega
   ·have hlez:¬((r.getD k 0:Nat):Int)≤(n:Int):=by omega
    have hc:=count_prefix hrise.out hk HK.out (.inr (by omega))
    generalize r.getD k 0=y at e2 hlez
    obtain rfl:C=k:=HC.out.symm.trans hc
    go_wp2_with fail
    go_ret
    exact ⟨ret_bool (par_is _),rfl⟩
  ·obtain rfl:k=r.length:=by omega
   have hltz:¬(r.length:Int)<(r.length:Int):=by omega
   have hc:=count_prefix hrise.out hk HK.out (.inl rfl)
   obtain rfl:C=r.length:=HC.out.symm.trans hc
   go_wp2_with fail
   go_ret
   exact ⟨ret_bool (par_is _),rfl⟩
end Go.Proofs.YtojgbcmhdnappaaGreatDoor
namespace Go.Proofs.YtojgbcmhdnappaaGreatDoor
open Go.RowKit
def insI (zs:List Int) (n:Int):List Int:=zs.takeWhile (fun z=>decide (z≤n))++n :: zs.dropWhile (fun z=>decide (z≤n))
def RiseI (zs:List Int):Prop:=zs.Pairwise (· ≤ ·)
theorem ins_perm (zs:List Int) (n:Int):(insI zs n).Perm (n :: zs):=by
 unfold insI
 refine List.perm_middle.trans ?_
 rw [List.takeWhile_append_dropWhile]
theorem ins_rise {zs:List Int} (h:RiseI zs) (n:Int):RiseI (insI zs n):=by
 induction zs with
 | nil=>simp [insI,RiseI]
 | cons a r ih =>
  have hr:RiseI r:=(List.pairwise_cons.1 h).2
  have ha:=(List.pairwise_cons.1 h).1
  by_cases e:a≤n
  ·have e1:insI (a :: r) n=a :: insI r n:=by simp [insI,e]
   rw [e1]
   refine List.pairwise_cons.2 ⟨fun x hx=>?_,ih hr⟩
   rcases List.mem_cons.1 ((ins_perm r n).mem_iff.1 hx) with rfl | hx
   ·exact e
   ·exact ha x hx
  ·have e1:insI (a :: r) n=n :: a :: r:=by simp [insI,e]
   rw [e1]
   refine List.pairwise_cons.2 ⟨fun x hx=>?_,h⟩
   rcases List.mem_cons.1 hx with rfl | hx
   ·omega
   ·have:=ha x hx;omega
theorem ins_at {zs:List Int} {n:Int} {i:Nat} (h:RiseI zs) (hi:i≤zs.length) (h1:∀ j,i≤j→j<zs.length→n<zs.getD j 0) (h2:i=0∨zs.getD (i-1) 0≤n):insI zs n=zs.take i++n :: zs.drop i:=by
 have ht:∀ x∈zs.take i,decide (x≤n)=true:=by
  intro x hx
  rcases h2 with rfl | h2
  ·simp at hx
  ·obtain ⟨j,hj,rfl⟩:=List.getElem_of_mem hx
   have hj2:j<i:=by simp at hj;omega
   rw [List.getD_eq_getElem?_getD,List.getElem?_eq_getElem (by omega)] at h2
   simp only [Option.getD_some] at h2
   have:zs[j]≤zs[i-1]:=by
    rcases Nat.lt_or_ge j (i-1) with h3 | h3
    ·exact (List.pairwise_iff_getElem.1 h) j (i-1) (by omega) (by omega) h3
    ·have:j=i-1:=by omega
     subst this
     exact Int.le_refl _
   simp
   omega
 have hd:∀ x r,zs.drop i=x :: r→¬x≤n:=by
  intro x r e
  have hil:i<zs.length:=by
   rcases Nat.lt_or_ge i zs.length with h3 | h3
   ·exact h3
   ·rw [List.drop_eq_nil_of_le h3] at e;cases e
  have:=h1 i (Nat.le_refl _) hil
  rw [List.drop_eq_getElem_cons hil] at e
  injection e with e _
  rw [List.getD_eq_getElem?_getD,List.getElem?_eq_getElem hil] at this
  simp only [Option.getD_some] at this
  omega
 unfold insI
 have e:zs=zs.take i++zs.drop i:=(List.take_append_drop i zs).symm
 conv=>lhs;rw [e]
 rw [List.takeWhile_append_of_pos ht,List.dropWhile_append_of_pos ht]
 cases hq:zs.drop i with
 | nil=>simp
 | cons x r =>
  have:=hd x r hq
  rw [List.takeWhile_cons_of_neg (by simpa using this),List.dropWhile_cons_of_neg (by simpa using this),List.append_nil]
theorem Blk.setCells2 {g:Nat} {t:TypeId}:∀ (vs:List Value) (o:Nat) (w:World) (cs:Array Value),Blk w g t cs→o+vs.length≤cs.size →
  ∃ cs',Blk (w.setCells g o vs) g t cs'∧cs'.size=cs.size∧(∀ j,j<o→cs'[j]?=cs[j]?)∧∀ j,j<vs.length→cs'[o+j]?=vs[j]?
 | [],o,w,cs,h,_=>⟨cs,h,rfl,fun _ _=>rfl,fun j hj=>absurd hj (Nat.not_lt_zero _)⟩
 | v :: r,o,w,cs,h,hl=>by
  obtain ⟨cs',hk,hs,h1,h2⟩:=Blk.setCells2 r (o+1) _ _ (h.set_ o v) (by simp at hl ⊢;omega)
  refine ⟨cs',hk,by simpa using hs,fun j hj=>?_,fun j hj=>?_⟩
  ·rw [h1 j (by omega),Array.getElem?_setIfInBounds,if_neg (by omega)]
  ·cases j with
   | zero =>
    rw [Nat.add_zero,h1 o (by omega),Array.getElem?_setIfInBounds,if_pos rfl,if_pos (by simp at hl;omega)]
    rfl
   | succ j =>
    have:=h2 j (by simpa using hj)
    rw [show o+(j+1)=o+1+j by omega,this]
    rfl
theorem grown_setCells (g:Nat):∀ (vs:List Value) (o:Nat) (w:World),w.grownBy (w.setCells g o vs) (some g)
 | [],o,w=>⟨rfl,rfl,rfl,Nat.le_refl _,fun _ _ _=>rfl⟩
 | v :: r,o,w=>by
  have g1:w.grownBy (w.setCell ⟨g,o,none⟩ v) (some g):=only_setCell ⟨rfl,rfl,rfl,Nat.le_refl _,fun _ _ _=>rfl⟩ (.inl rfl) v
  have g2:=grown_setCells g r (o+1) (w.setCell ⟨g,o,none⟩ v)
  exact ⟨g2.os.trans g1.os,g2.tape.trans g1.tape,g2.output.trans g1.output,Nat.le_trans g1.size g2.size,fun i hi hne=>(g2.block i (Nat.lt_of_lt_of_le hi g1.size) hne).trans (g1.block i hi hne)⟩
theorem OwnI.insert {w:World} {base g cap:Nat} {zs:List Int} (h:OwnI w base (.slice (some ⟨g,0,none⟩) (zs.length+1) cap) (zs++[0])) {i:Nat} (hi:i≤zs.length) (n:Int) :
  OwnI ((w.setCells g (i+1) (intsV (zs.drop i))).setCell ⟨g,i,none⟩ (.int .i64 n)) base (.slice (some ⟨g,0,none⟩) (zs.length+1) cap) (zs.take i++n :: zs.drop i):=by
 have hll:(zs.take i++n :: zs.drop i).length=zs.length+1:=by simp;omega
 rcases h.2 with ⟨h9,_⟩ | ⟨g',cap',cur,e,hg,hgc,hle,hcm,hcs,hct⟩
 ·cases h9
 ·injection e with e1 _ e2
  injection e1 with e1
  injection e1 with e1
  subst e1 e2
  have hk:Blk w g 3 cur:=hgc
  rw [List.length_append,List.length_singleton] at hle hct
  obtain ⟨cs',hk',hs',h1,h2⟩:=Blk.setCells2 (intsV (zs.drop i)) (i+1) w cur hk (by unfold intsV;simp;omega)
  have hcur:∀ j,j<zs.length→cur[j]?=some (.int .i64 (zs.getD j 0)):=fun j hj=>by
   have h3:=congrArg (fun z:List Value=>z[j]?) hct
   simp only [List.getElem?_take_of_lt (show j<(zs.length+1)*1 by omega),Array.getElem?_toList] at h3
   rw [h3,intsV_at (by simp;omega),List.getD_eq_getElem?_getD,List.getElem?_append_left hj,List.getD_eq_getElem?_getD]
  unfold OwnI
  rw [hll]
  refine ⟨by unfold intsV;simp;omega,.inr ⟨g,cap,_,rfl,hg,hk'.set_ i (.int .i64 n),hle,hcm,by simpa [hs'] using hcs,?_⟩⟩
  apply List.ext_getElem?
  intro j
  by_cases hj:j<zs.length+1
  ·rw [List.getElem?_take_of_lt (by omega),Array.getElem?_toList,Array.getElem?_setIfInBounds,intsV_at (by omega)]
   by_cases e1:i=j
   ·subst e1
    rw [if_pos rfl,if_pos (by omega),List.getD_eq_getElem?_getD,List.getElem?_append_right (by simp;omega)]
    simp [Nat.min_eq_left hi]
   ·rw [if_neg e1]
    rcases Nat.lt_or_ge j i with h3 | h3
    ·rw [h1 j (by omega),hcur j (by omega),List.getD_eq_getElem?_getD,List.getD_eq_getElem?_getD,List.getElem?_append_left (by simp;omega),List.getElem?_take_of_lt h3]
    ·obtain ⟨q,rfl⟩:∃ q,j=i+1+q:=⟨j-(i+1),by omega⟩
     rw [h2 q (by unfold intsV;simp;omega),intsV_at (by simp;omega),List.getD_eq_getElem?_getD,List.getD_eq_getElem?_getD,List.getElem?_append_right (by simp;omega)]
     simp [Nat.min_eq_left hi,show i+1+q-i=q+1 by omega]
  ·rw [List.getElem?_eq_none (by simp;omega),List.getElem?_eq_none (by unfold intsV;simp;omega)]
end Go.Proofs.YtojgbcmhdnappaaGreatDoor
namespace Go.Proofs.YtojgbcmhdnappaaGreatDoor
open Go.RowKit
set_option maxRecDepth 100000
structure MixI (wS:World) (done:List Int) (v:Value) (wr:World):Prop where
 is:∃ zs,OwnI wr wS.heap.size v zs∧RiseI zs∧zs.Perm done
 bel:Below wS.heap.size wS wr
def rows3 (L0 a b:List Int):Nat→List Int
 | 0=>[]
 | 1=>L0
 | 2=>L0++a
 | _=>L0++a++b
theorem rows3_len (L0 a b:List Int) (i:Nat):(rows3 L0 a b i).length≤L0.length+a.length+b.length:=by
 match i with
 | 0=>simp [rows3]
 | 1=>simp [rows3];omega
 | 2=>simp [rows3]
 | n+3=>simp [rows3];omega
theorem flatI_max {a:List (Nat×Nat)} (h:CanF 0 a):(flatI a).length≤2000000000:=by
 have:=can_len h
 have e:endR=1000000000:=rfl
 rw [e] at this
 rw [flatI_len,flat_len]
 omega
theorem copy_run {w:World} {base g cap:Nat} {zs:List Int} (h:OwnI w base (.slice (some ⟨g,0,none⟩) (zs.length+1) cap) (zs++[0])) {i:Nat} (hi:i≤zs.length) (x y dc sc:Nat) (hx:x=zs.length-i) (hy:y=zs.length+1-i) (ty:TypeId) :
  (Builtin.copy_ #[31,31] ty #[.slice (some ⟨g,i+1,none⟩) x dc,.slice (some ⟨g,i,none⟩) y sc]).run Tryz.prog w=.ok (goInt ((zs.length-i:Nat):Int)) (w.setCells g (i+1) (intsV (zs.drop i))):=by
 have hcl:(intsV (zs.drop i)).length=zs.length-i:=by unfold intsV;simp
 rcases h.2 with ⟨h9,_⟩ | ⟨g',cap',cur,e,hg,hgc,hle,hcm,hcs,hct⟩
 ·injection h9 with h9
  cases h9
 ·injection e with e1 _ e2
  injection e1 with e1
  injection e1 with e1
  subst e1 e2
  have hk:Blk w g 3 cur:=hgc
  rw [List.length_append,List.length_singleton] at hle hct
  have hsm:∀ j,j<cap→(w.cell? ⟨g,j,none⟩).isSome=true:=fun j hj=>by rw [hk.cell j,Array.getElem?_eq_getElem (by omega)];rfl
  have hr:=run_copy_cells (P:=Tryz.prog) w 31 31 ty 3 g (i+1) x dc ⟨g,i,none⟩ y sc (intsV (zs.drop i)) (by kernel_rfl) (by kernel_rfl) (by rw [hcl,hx,hy];exact (Nat.min_eq_right (by omega)).symm)
   (fun j v hv=>by
    have hj:j<zs.length-i:=by
     rcases Nat.lt_or_ge j (zs.length-i) with h3 | h3
     ·exact h3
     ·rw [List.getElem?_eq_none (by rw [hcl];exact h3)] at hv;cases hv
    rw [intsV_at (by simp;omega)] at hv
    injection hv with hv
    subst hv
    have ea:(⟨g,i,none⟩:Addr).add j=⟨g,i+j,none⟩:=Addr.add_lit _ _ _
    have h3:=congrArg (fun z:List Value=>z[i+j]?) hct
    simp only [List.getElem?_take_of_lt (show i+j<(zs.length+1)*1 by omega),Array.getElem?_toList] at h3
    rw [ea,hk.cell,h3,intsV_at (by simp;omega),List.getD_eq_getElem?_getD,List.getElem?_append_left (by omega),List.getD_eq_getElem?_getD,List.getElem?_drop])
   (fun j hj=>hsm _ (by omega)) (fun j _=>hk.frozen _) (by intro v hv;obtain ⟨z,_,rfl⟩:=List.mem_map.1 hv;rfl)
  rw [hcl] at hr
  exact hr
theorem OwnI.base_le {w:World} {base:Nat} {v:Value} {l:List Int} (h:OwnI w base v l):∀ b,v.ownBlock=some b→base≤b∧b<w.heap.size:=fun b e=>World.ownsRow.lt h b e
theorem copy_at {w:World} {base g cap:Nat} {zs:List Int} (h:OwnI w base (.slice (some ⟨g,0,none⟩) (zs.length+1) cap) (zs++[0])) {i:Nat} (hi:i≤zs.length) (hc:zs.length+1≤cap) (x y dc sc:Nat) (hx:x=zs.length-i) (hy:y=zs.length+1-i) (ty:TypeId) :
  (Builtin.copy_ #[31,31] ty #[.slice (if cap=i+1 then some ⟨g,0,none⟩ else some ⟨g,i+1,none⟩) x dc,.slice (some ⟨g,i,none⟩) y sc]).run Tryz.prog w=.ok (goInt ((zs.length-i:Nat):Int)) (w.setCells g (i+1) (intsV (zs.drop i))):=by
 by_cases e:cap=i+1
 ·obtain rfl:i=zs.length:=by omega
  rw [if_pos e,List.drop_length,show intsV []=[] from rfl,Nat.sub_self]
  exact run_copy_none (P:=Tryz.prog) w 31 31 ty 3 _ _ x dc y sc (by kernel_rfl) (by kernel_rfl) (by rw [hx,Nat.sub_self];exact Nat.min_zero _)
 ·rw [if_neg e]
  exact copy_run h hi x y dc sc hx hy ty
theorem ins_cell {w:World} {base g cap:Nat} {zs:List Int} (h:OwnI w base (.slice (some ⟨g,0,none⟩) (zs.length+1) cap) (zs++[0])) {i:Nat} (hi:i≤zs.length) :
  ∃ u,(w.setCells g (i+1) (intsV (zs.drop i))).cell? ⟨g,i,none⟩=some u∧(w.setCells g (i+1) (intsV (zs.drop i))).frozen? ⟨g,i,none⟩=false:=by
 obtain ⟨g',cap',cur,e,hg,hk,hc,hcur⟩:=h.form (by simp)
 injection e with e1 _ e2
 injection e1 with e1
 injection e1 with e1
 subst e1 e2
 refine ⟨_,(World.cell?_setCells_out g _ _ _ ⟨g,i,none⟩ fun _ _=>.inl (by show i<i+1;omega)).trans ((hk.cell i).trans (hcur i (by simp;omega))),?_⟩
 rw [World.frozen?_setCells]
 exact hk.frozen i
theorem MixI.ins {wS w:World} {done:List Int} {g cap i:Nat} {zs:List Int} {n:Int} (h:OwnI w wS.heap.size (.slice (some ⟨g,0,none⟩) (zs.length+1) cap) (zs++[0])) (hb:Below wS.heap.size wS w) (hi:i≤zs.length) (hr:RiseI zs) (hp:zs.Perm done) (he:insI zs n=zs.take i++n :: zs.drop i) :
  MixI wS (done++[n]) (.slice (some ⟨g,0,none⟩) (zs.length+1) cap) ((w.setCells g (i+1) (intsV (zs.drop i))).setCell ⟨g,i,none⟩ (.int .i64 n)):=by
 have hg:=(World.ownsRow.lt h g rfl).1
 have g1:=grown_setCells g (intsV (zs.drop i)) (i+1) w
 refine ⟨⟨insI zs n,by rw [he];exact h.insert hi n,ins_rise hr n,(ins_perm zs n).trans ((List.Perm.cons n hp).trans (List.perm_append_singleton n done).symm)⟩,(hb.grown g1 hb.size fun k hk=>by have e2:g=k:=Option.some.inj hk;omega).setCell hg _⟩
structure MixO (wS:World) (p:Nat→Bool) (zn:List Nat) (v7:Value) (i:Nat) (v:Value) (is:Bool) (wr:World):Prop where
 own:∃ out:List Nat,OwnI wr wS.heap.size v (out.map fun x:Nat=>(x:Int))∧out++turns p is (zn.drop i)=turns p false zn∧out.length≤i
 row:OwnI wr 0 v7 (zn.map fun x:Nat=>(x:Int))
 low:∀ k,v7.ownBlock=some k→v.ownBlock≠some k
 bel:Below wS.heap.size wS wr
theorem nat_list {zs:List Int} {X:List Nat} (h:zs.Perm (X.map fun x:Nat=>(x:Int))) (hr:RiseI zs):∃ zn:List Nat,zs=(zn.map fun x:Nat=>(x:Int))∧zn.Perm X∧zn.Pairwise (· ≤ ·):=by
  have hz:zs=(zs.map Int.toNat).map (fun x:Nat=>(x:Int)):=by
    rw [List.map_map]
    conv=>lhs;rw [←List.map_id zs]
    refine List.map_congr_left fun x hx=>?_
    obtain ⟨y,_,rfl⟩:=List.mem_map.1 (h.mem_iff.1 hx)
    simp
  refine ⟨zs.map Int.toNat,hz,?_,?_⟩
  · have h2:=h.map Int.toNat
    rw [List.map_map] at h2
    have e:(Int.toNat ∘ fun x:Nat=>(x:Int))=id:=by funext x;simp
    rw [e,List.map_id] at h2
    exact h2
  · unfold RiseI at hr
    rw [List.pairwise_map]
    refine hr.imp fun h=>by omega
section
variable {wS wr w9:World} {p:Nat→Bool} {zn:List Nat} {v7 v v9:Value} {i n:Nat} {is:Bool}
theorem MixO.same (h:MixO wS p zn v7 i v is wr) (hd:zn.drop i=n :: zn.drop (i+1)) (hp:p n=is):MixO wS p zn v7 (i+1) v is wr:=by
 obtain ⟨out,ho,hs,hl⟩:=h.own
 refine ⟨⟨out,ho,?_,by omega⟩,h.row,h.low,h.bel⟩
 rw [hd,turns,if_pos hp] at hs
 exact hs
theorem MixO.turn {out:List Nat} (h:MixO wS p zn v7 i v is wr) (hs:out++turns p is (zn.drop i)=turns p false zn) (hl:out.length≤i) (hd:zn.drop i=n :: zn.drop (i+1)) (hp:p n≠is)
  {wa:World} (ho:OwnI w9 wS.heap.size v9 (out.map (fun x:Nat=>(x:Int))++[(n:Int)])) (hrow:OwnI wa 0 v7 (zn.map fun x:Nat=>(x:Int))) (hg:wa.grownBy w9 v.ownBlock) (hor:v9.ownBlock=v.ownBlock∨v9.ownBlock=some wa.heap.size) (hb:Below wS.heap.size wS w9):MixO wS p zn v7 (i+1) v9 (p n) w9:=by
 refine ⟨⟨out++[n],by rw [List.map_append];exact ho,?_,by simp;omega⟩,hrow.kept hg ?_,fun k e=>?_,hb⟩
 rotate_left
 ·cases e:v7.ownBlock with
  | none=>exact .inl rfl
  | some k=>exact .inr fun e2=>h.low k e e2.symm
 ·rcases hor with e2 | e2
  ·rw [e2];exact h.low k e
  ·rw [e2]
   intro e3
   have e4:wa.heap.size=k:=Option.some.inj e3
   have:=(hrow.base_le k e).2
   omega
 rw [hd,turns,if_neg hp] at hs
 rw [←hs]
 simp
end
def MixB (wS:World) (p:Nat→Bool) (zn:List Nat) (v7:Value) (i:Nat) (v b:Value) (wr:World):Prop:=∃ is,b=.bool is∧MixO wS p zn v7 i v is wr
set_option maxHeartbeats 4000000 in
theorem mix_all (g:Bool→Bool→Bool) (fr:Nat) (v1 v2:Value) (a b:List (Nat×Nat)) (w:World) (h1:OwnI w 0 v1 (flatI a)) (h2:OwnI w 0 v2 (flatI b)) (ha:CanF 0 a) (hb:CanF 0 b)
    (eg:∀ args w,(callFunc fr args).run Tryz.prog w=.ok (.enter fr args) w) (hg:∀ x y W,Calls Tryz.prog fr #[.bool x,.bool y] W (fun e w'=>e=.returned (.bool (g x y))∧w'=W)) (l:List (Nat×Nat))
    (hls:∀ zs:List Nat,zs.Pairwise (· ≤ ·)→zs.Perm ([0,endR]++flat a++flat b)→turns (mixP g (flat a) (flat b)) false zs=flat l) :
    Calls Tryz.prog 172 #[v1,v2,.func (.func fr) #[] #[]] w (RrP w l):=by
  have hk:=Blk.new (w.alloc (.cells #[.int .i64 0,.int .i64 1000000000] 3)) 32 #[.slice (some ⟨w.heap.size,0,none⟩) 2 2,v1,v2]
  have b1:=((Below.refl w.heap.size w).alloc (Nat.le_refl _) (.cells #[.int .i64 0,.int .i64 1000000000] 3)).alloc (by simp) (.cells #[.slice (some ⟨w.heap.size,0,none⟩) 2 2,v1,v2] 32)
  simp only [World.size_alloc] at hk
  have HK:=hide hk
  have HB:=hide b1
  have H1:=hide (h1.below b1)
  have H2:=hide (h2.below b1)
  have H0:=hide ((ownI_pair w 0 (Nat.zero_le _) 0 1000000000).below ((Below.refl _ _).alloc (Nat.le_refl _) (.cells #[.slice (some ⟨w.heap.size,0,none⟩) 2 2,v1,v2] 32)))
  have HS:=Lib.hid hls
  have HGG:=Lib.hid hg
  have HA:=Lib.hid ha
  have HBB:=Lib.hid hb
  obtain ⟨A1,c1,rfl⟩:=h1.len
  obtain ⟨A2,c2,rfl⟩:=h2.len
  clear h1 h2 hk b1 hls hg ha hb
  go_enter Tryz.func172,Tryz.ntmps172
  go_wp2_with fail
  generalize ((w.alloc (.cells #[.int .i64 0,.int .i64 1000000000] 3)).alloc (.cells #[.slice (some ⟨w.heap.size,0,none⟩) 2 2,.slice A1 (flatI a).length c1,.slice A2 (flatI b).length c2] 32))=wS at HK HB H1 H2 H0 ⊢
  go_loopw [7,9,11,12,23] (fun v7 _ _ _ iv wr=>∃ i:Nat,i≤3∧iv=.int .i64 i∧Hid (MixI wS (rows3 [0,1000000000] (flatI a) (flatI b) i) v7 wr)) (fun _ _ _ _ iv _=>3-(intOf iv).toNat)
  case atStart=>exact ⟨0,by omega,rfl,hide ⟨⟨[],ownI_nil _ _,List.Pairwise.nil,.refl _⟩,Below.refl _ _⟩⟩
  case round =>
    obtain ⟨i,hi,rfl,HM⟩:=hrel
    by_cases hlt:i<3
    · have hltz:(i:Int)<3:=by omega
      obtain ⟨A,n,c,L,hcell,hL,hpre⟩:∃ A n c L,wr.cell? ⟨w.heap.size+1,i,none⟩=some (.slice A n c)∧OwnI wS 0 (.slice A n c) L∧rows3 [0,1000000000] (flatI a) (flatI b) (i+1)=rows3 [0,1000000000] (flatI a) (flatI b) i++L:=by
        have hk:=HK.out.below HM.out.bel HK.out.lt
        rcases (show i=0∨i=1∨i=2 by omega) with rfl | rfl | rfl
        · exact ⟨_,_,_,_,hk.cell 0,H0.out,rfl⟩
        · exact ⟨_,_,_,_,hk.cell 1,H1.out,rfl⟩
        · exact ⟨_,_,_,_,hk.cell 2,H2.out,rfl⟩
      have HPR:=Lib.hid hpre
      have HL:=hide hL
      obtain ⟨A',c',hv⟩:=hL.len
      injection hv with e1 e2 e3
      subst e1 e2 e3
      have hLb:L.length≤5000000000:=by
        have h3:=rows3_len [0,1000000000] (flatI a) (flatI b) (i+1)
        have h4:=flatI_max HA.out
        have h5:=flatI_max HBB.out
        rw [hpre] at h3
        simp at h3
        omega
      clear hL hpre
      generalize rows3 [0,1000000000] (flatI a) (flatI b) i=pre at HM HPR
      have HM0:=hide (show MixI wS (pre++L.take 0) u7 wr by simpa using HM.out)
      clear HM
      go_wp2_with fail
      go_loopw [7,11,12,29] (fun v7 _ _ jv w2=>∃ j:Nat,j≤L.length∧jv=.int .i64 j∧Hid (MixI wS (pre++L.take j) v7 w2)) (fun _ _ _ jv _=>L.length-(intOf jv).toNat)
      case atStart=>exact ⟨0,Nat.zero_le _,rfl,HM0⟩
      case round =>
        clear HM0 hcell
        obtain ⟨j,hj,rfl,HM⟩:=hrel
        by_cases hjl:j<L.length
        · have hrow:=(HL.out.below HM.out.bel).row
          obtain ⟨ad,u,hA,_,e1,e2⟩:=hrow.2.at_ hjl
          subst hA
          rw [intsV_at hjl] at e1
          injection e1 with e1
          subst e1
          have hnx:L.take (j+1)=L.take j++[L.getD j 0]:=by
            rw [List.take_succ_eq_append_getElem hjl,List.getD_eq_getElem?_getD,List.getElem?_eq_getElem hjl]
            rfl
          have HNX:=Lib.hid hnx
          clear hnx hrow
          generalize L.getD j 0=n at e2 HNX
          obtain ⟨⟨zs,how,hri,hpe⟩,hbl⟩:=HM.out
          obtain ⟨A7,c7,hv7⟩:=how.len
          subst hv7
          have HOW0:=hide how
          have HBW0:=hide hbl
          have HPE:=Lib.hid hpe
          have hzl:zs.length≤5000000000:=by
            have h3:=rows3_len [0,1000000000] (flatI a) (flatI b) (i+1)
            have h4:=flatI_max HA.out
            have h5:=flatI_max HBB.out
            have h6:=HPE.out.length_eq
            rw [HPR.out] at h3
            simp at h3 h6
            omega
          clear how hbl hpe HM
          have hjz:(j:Int)<(L.length:Int):=by omega
          go_wp2_with fail
          go_loopw [12] (fun v12 w3=>∃ i3:Nat,i3≤zs.length∧v12=.int .i64 i3∧Hid (OwnI w3 wS.heap.size (.slice A7 zs.length c7) zs)∧Hid (Below wS.heap.size wS w3)∧Hid (∀ q,i3≤q→q<zs.length→n<zs.getD q 0)) (fun v12 _=>(intOf v12).toNat)
          case atStart=>exact ⟨zs.length,Nat.le_refl _,rfl,HOW0,HBW0,hide (fun q h1 h2=>absurd h2 (by omega))⟩
          case round =>
            obtain ⟨i3,hii,rfl,HOW,HBW,HGT⟩:=hrel
            clear HOW0 HBW0
            rcases Nat.eq_zero_or_pos i3 with h0 | h0
            · subst h0
              have HINS:=Lib.hid (ins_at hri hii HGT.out (.inl rfl))
              have ba:=(Below.refl wr.heap.size wr).alloc (Nat.le_refl _) (.cells #[.int .i64 0] 3)
              have HO3:=hide (HOW.out.below ba)
              have HR3:=hide (blk_reads (zs:=[0]) (Blk.new wr 3 #[.int .i64 0]))
              have HB3:=hide (HBW.out.trans (ba.mono HBW.out.size))
              have HSZ:=Lib.hid (show wS.heap.size≤(wr.alloc (.cells #[.int .i64 0] 3)).heap.size by have:=HBW.out.size;simp only [World.size_alloc];omega)
              clear ba
              go_wp2_with (at_builtin;refine appI _ rfl _ _ _ rfl wS.heap.size Tryz.underlying31 _ zs rfl HO3.out (wr.heap.size+1) (some ⟨wr.heap.size,0,none⟩) 1 1 [0] rfl HR3.out rfl (by omega) HSZ.out ?_;intro v9 w9 ho9 hg9 hor9;have HB9:=hide (HB3.out.grown hg9 HSZ.out (fun k hk=>(HO3.out.base_le k hk).1));clear hg9 hor9;have HO9:=hide ho9;obtain ⟨g9,c9,cur9,rfl,hb9,hk9,hcap9,hcur9⟩:=ho9.form (by simp);rw [List.length_append,List.length_singleton] at HO9 hcap9 ⊢)
              have HO9':=hide (HO9.out.below (Below.refl _ _).drew)
              have hcp:=copy_at HO9'.out hii hcap9 zs.length (zs.length+1) (c9-1) c9 rfl rfl
              simp only [Nat.zero_add,Nat.sub_zero,List.drop_zero] at hcp
              have hw1:(0:Int)+1≤(zs.length:Int)+1:=by omega
              go_region
              have HBD:=HB9.out.drew
              obtain ⟨uc,zc,fc⟩:=ins_cell HO9'.out hii
              have HNW:=hide (MixI.ins HO9'.out HBD hii hri HPE.out HINS.out)
              rw [List.append_assoc,←HNX.out] at HNW
              simp only [Nat.zero_add,List.drop_zero] at zc fc HNW
              clear HO9 HO9' HB9 HO3 HR3 HB3 HSZ hcp
              go_wp2_with fail
              go_round
              case rel=>exact ⟨j+1,by omega,by go_num,HNW⟩
              case measure=>simp [intOf];omega
            · obtain ⟨m3,rfl⟩:∃ m3,i3=m3+1:=⟨i3-1,by omega⟩
              have hz3:((m3+1:Nat):Int) > 0:=by omega
              obtain ⟨gz,cz,cur,hvz,hbz,hkz,hcz,hcur⟩:=HOW.out.form (by omega)
              injection hvz with hvz _ hcz2
              subst hvz hcz2
              have z0:=(hkz.cell m3).trans (hcur m3 (by omega))
              by_cases hgt:n<zs.getD m3 0
              · have HG2:=hide (show ∀ q,m3≤q→q<zs.length→n<zs.getD q 0 from fun q h1 h2=>by
                  rcases Nat.lt_or_ge m3 q with h3 | h3
                  · exact HGT.out q h3 h2
                  · obtain rfl:q=m3:=by omega
                    exact hgt)
                generalize zs.getD m3 0=y at z0 hgt
                go_wp2_with fail
                go_round
                case rel=>exact ⟨m3,by omega,by go_num,HOW,HBW,HG2⟩
                case measure=>simp [intOf]
              · have hgz:zs.getD m3 0≤n:=by omega
                have HLE:=Lib.hid hgz
                generalize zs.getD m3 0=y at z0 hgt hgz
                have HINS:=Lib.hid (ins_at hri hii HGT.out (.inr (by simpa using HLE.out)))
                have ba:=(Below.refl wr.heap.size wr).alloc (Nat.le_refl _) (.cells #[.int .i64 0] 3)
                have HO3:=hide (HOW.out.below ba)
                have HR3:=hide (blk_reads (zs:=[0]) (Blk.new wr 3 #[.int .i64 0]))
                have HB3:=hide (HBW.out.trans (ba.mono HBW.out.size))
                have HSZ:=Lib.hid (show wS.heap.size≤(wr.alloc (.cells #[.int .i64 0] 3)).heap.size by have:=HBW.out.size;simp only [World.size_alloc];omega)
                clear ba
                go_wp2_with (at_builtin;refine appI _ rfl _ _ _ rfl wS.heap.size Tryz.underlying31 _ zs rfl HO3.out (wr.heap.size+1) (some ⟨wr.heap.size,0,none⟩) 1 1 [0] rfl HR3.out rfl (by omega) HSZ.out ?_;intro v9 w9 ho9 hg9 hor9;have HB9:=hide (HB3.out.grown hg9 HSZ.out (fun k hk=>(HO3.out.base_le k hk).1));clear hg9 hor9;have HO9:=hide ho9;obtain ⟨g9,c9,cur9,rfl,hb9,hk9,hcap9,hcur9⟩:=ho9.form (by simp);rw [List.length_append,List.length_singleton] at HO9 hcap9 ⊢)
                have HO9':=hide (HO9.out.below (Below.refl _ _).drew)
                have hcp:=copy_at HO9'.out hii hcap9 (zs.length+1-(m3+1+1)) (zs.length-m3) (c9-(m3+1+1)) (c9-(m3+1)) (by omega) (by omega)
                have hcp2:=copy_at HO9'.out hii hcap9 (zs.length-(m3+1)) (zs.length-m3) (c9-(m3+1+1)) (c9-(m3+1)) rfl (by omega)
                have hw1:(m3:Int)+1+1≤(zs.length:Int)+1:=by omega
                go_region
                have HBD:=HB9.out.drew
                obtain ⟨uc,zc,fc⟩:=ins_cell HO9'.out hii
                have HNW:=hide (MixI.ins HO9'.out HBD hii hri HPE.out HINS.out)
                rw [List.append_assoc,←HNX.out] at HNW
                clear HO9 HO9' HB9 HO3 HR3 HB3 HSZ hcp
                go_wp2_with fail
                go_round
                case rel=>exact ⟨j+1,by omega,by go_num,HNW⟩
                case measure=>simp [intOf];omega
        · obtain rfl:j=L.length:=by omega
          have hjz:¬(L.length:Int)<(L.length:Int):=by omega
          go_wp2_with fail
          go_round
          case rel=>exact ⟨i+1,by omega,by go_num,hide (by rw [HPR.out];have:=HM.out;rwa [List.take_length] at this)⟩
          case measure=>simp [intOf];omega
    · obtain rfl:i=3:=by omega
      obtain ⟨zs,how,hri,hpe⟩:=HM.out.is
      have hbl:=HM.out.bel
      obtain ⟨zn,rfl,hpn,hrn⟩:=nat_list (X:=[0,endR]++flat a++flat b) (by
        refine hpe.trans (List.Perm.of_eq ?_)
        show [0,1000000000]++flatI a++flatI b=_
        unfold flatI
        rw [List.map_append,List.map_append]
        rfl) hri
      have HTU:=Lib.hid (HS.out zn hrn hpn)
      have hzn:zn.length≤5000000000:=by
        have h4:=flatI_max HA.out
        have h5:=flatI_max HBB.out
        rw [flatI_len] at h4 h5
        have h6:=hpn.length_eq
        simp at h6
        omega
      have HST:=hide (show MixO wS (mixP g (flat a) (flat b)) zn u7 0 (.slice none 0 0) false wr from ⟨⟨[],ownI_nil _ _,rfl,Nat.le_refl _⟩,how.mono (Nat.zero_le _),fun k hk e=>by simp [Value.ownBlock] at e,hbl⟩)
      obtain ⟨A7,c7,hv7⟩:=how.len
      rw [List.length_map] at hv7
      subst hv7
      clear how hri hpe hbl HM hrn hpn
      rw [show ((3:Nat):Int)=(3:Int) from rfl]
      go_wp2_with fail
      go_loopw [13,14,16,17,67] (fun v13 v14 _ _ iv w2=>∃ i2:Nat,i2≤zn.length∧iv=.int .i64 i2∧Hid (MixB wS (mixP g (flat a) (flat b)) zn (.slice A7 zn.length c7) i2 v13 v14 w2)) (fun _ _ _ _ iv _=>zn.length-(intOf iv).toNat)
      case atStart=>exact ⟨0,Nat.zero_le _,rfl,hide ⟨false,rfl,HST.out⟩⟩
      case round =>
        clear HST
        obtain ⟨i2,hi2,rfl,HMB⟩:=hrel
        obtain ⟨is,rfl,hmo⟩:=HMB.out
        have HM:=hide hmo
        clear HMB hmo
        by_cases hl2:i2<zn.length
        · have hz2:(i2:Int)<(zn.length:Int):=by omega
          obtain ⟨out,how,hst,hol⟩:=HM.out.own
          have hrow:=HM.out.row.row
          obtain ⟨ad,u,hA,_,e1,e2⟩:=hrow.2.at_ hl2
          subst hA
          rw [intsV_at (by simpa using hl2)] at e1
          injection e1 with e1
          subst e1
          have hget:(zn.map fun x:Nat=>(x:Int)).getD i2 0=((zn[i2]:Nat):Int):=by
            rw [List.getD_eq_getElem?_getD,List.getElem?_map,List.getElem?_eq_getElem hl2]
            rfl
          rw [hget] at e2
          have HD:=Lib.hid (List.drop_eq_getElem_cons hl2)
          generalize zn[i2]=n at e2 HD
          have hbw:Below wS.heap.size wS wr:=HM.out.bel
          have HIA:=hide (fun (args:Array Value) (e:args=#[.slice A1 (flatI a).length c1,.int .i64 (n:Int)])=>show Calls Tryz.prog 197 args wr (InP a n wr) from e ▸ in_any _ a n wr (H1.out.below hbw) HA.out)
          have HIB:=hide (fun (args:Array Value) (e:args=#[.slice A2 (flatI b).length c2,.int .i64 (n:Int)])=>show Calls Tryz.prog 197 args wr (InP b n wr) from e ▸ in_any _ b n wr (H2.out.below hbw) HBB.out)
          have hp:mixP g (flat a) (flat b) n=(decide (n<endR)&&g (setS a n) (setS b n)):=by unfold mixP;rw [in_flat HA.out,in_flat HBB.out]
          have HOWN:=hide how
          have HST2:=Lib.hid hst
          have HRW:=hide HM.out.row
          have hla:out.length≤5000000000:=by omega
          have ba:=(Below.refl wr.heap.size wr).alloc (Nat.le_refl _) (.cells #[.int .i64 (n:Int)] 3)
          have HO3:=hide (how.below ba)
          have HR3:=hide (blk_reads (zs:=[(n:Int)]) (Blk.new wr 3 #[.int .i64 (n:Int)]))
          have HRW3:=hide (HM.out.row.below ba)
          have HB3:=hide (hbw.trans (ba.mono hbw.size))
          have HSZ:=Lib.hid (show wS.heap.size≤(wr.alloc (.cells #[.int .i64 (n:Int)] 3)).heap.size by have:=hbw.size;simp only [World.size_alloc];omega)
          have HAPART:=Lib.hid (fun k hk=>(how.base_le k hk).1)
          clear how hst hrow hbw ba
          obtain ⟨A13,c13,hv13⟩:=HOWN.out.len
          rw [List.length_map] at hv13
          subst hv13
          by_cases hne:n<endR
          · have hnz:(n:Int)<1000000000:=by unfold endR at hne;omega
            rw [decide_eq_true hne,Bool.true_and] at hp
            have HGX:=hide (fun W=>HGG.out (setS a n) (setS b n) W)
            generalize g (setS a n) (setS b n)=nw at hp HGX
            have HP:=Lib.hid hp
            clear hp
            cases nw <;> cases is
            all_goals
              go_wp2_with (first | (go_at_call 197;refine (HIA.out _ (by exact rfl)).mono ?_;rintro e w9 ⟨rfl,rfl⟩) | (go_at_call 197;refine (HIB.out _ (by exact rfl)).mono ?_;rintro e w9 ⟨rfl,rfl⟩) | (go_at_fn fr;refine (HGX.out _).mono ?_;rintro e w9 ⟨rfl,rfl⟩) | (at_builtin;refine appI _ rfl _ _ _ rfl wS.heap.size Tryz.underlying32 _ (out.map fun x:Nat=>(x:Int)) rfl HO3.out (w9.heap.size+1) (some ⟨w9.heap.size,0,none⟩) 1 1 [(n:Int)] rfl HR3.out rfl (by simp;omega) HSZ.out ?_;intro v9 w10 ho9 hg9 hor9;have HN9:=hide (HM.out.turn HST2.out hol HD.out (by rw [HP.out];decide) ho9 HRW3.out hg9 hor9 (HB3.out.grown hg9 HSZ.out HAPART.out));rw [HP.out] at HN9;clear ho9 hg9 hor9))
            all_goals
              go_round
              case measure=>simp [intOf];omega
              case rel =>
                first
                  | exact ⟨i2+1,by omega,by go_num,hide ⟨_,rfl,HN9.out⟩⟩
                  | exact ⟨i2+1,by omega,by go_num,hide ⟨_,rfl,HM.out.same HD.out HP.out⟩⟩
          · have hnz:¬(n:Int)<1000000000:=by unfold endR at hne;omega
            rw [decide_eq_false hne,Bool.false_and] at hp
            have HP:=Lib.hid hp
            clear hp
            cases is
            all_goals
              go_wp2_with (at_builtin;refine appI _ rfl _ _ _ rfl wS.heap.size Tryz.underlying32 _ (out.map fun x:Nat=>(x:Int)) rfl HO3.out (wr.heap.size+1) (some ⟨wr.heap.size,0,none⟩) 1 1 [(n:Int)] rfl HR3.out rfl (by simp;omega) HSZ.out ?_;intro v9 w10 ho9 hg9 hor9;have HN9:=hide (HM.out.turn HST2.out hol HD.out (by rw [HP.out];decide) ho9 HRW3.out hg9 hor9 (HB3.out.grown hg9 HSZ.out HAPART.out));rw [HP.out] at HN9;clear ho9 hg9 hor9)
            all_goals
              go_round
              case measure=>simp [intOf];omega
              case rel =>
                first
                  | exact ⟨i2+1,by omega,by go_num,hide ⟨_,rfl,HN9.out⟩⟩
                  | exact ⟨i2+1,by omega,by go_num,hide ⟨_,rfl,HM.out.same HD.out HP.out⟩⟩
        · obtain rfl:i2=zn.length:=by omega
          have hz2:¬(zn.length:Int)<(zn.length:Int):=by omega
          obtain ⟨out,how,hst,_⟩:=HM.out.own
          have HRES:=hide how
          have hout:out.map (fun x:Nat=>(x:Int))=flatI l:=by
            rw [List.drop_length,show turns (mixP g (flat a) (flat b)) is []=[] from rfl,List.append_nil,HTU.out] at hst
            rw [hst]
            rfl
          rw [hout] at HRES
          have HBL:=hide HM.out.bel
          clear how hst hout HM
          go_wp2_with fail
          go_ret
          exact ⟨_,rfl,HRES.out.mono HB.out.size,HB.out.trans (HBL.out.mono HB.out.size)⟩
end Go.Proofs.YtojgbcmhdnappaaGreatDoor
namespace Go.Proofs.YtojgbcmhdnappaaGreatDoor
open Go.RowKit
def RuleP (b:Bool) (W:World) (e:Ending) (w':World):Prop:=e=.returned (.bool b)∧w'=W
theorem ruleOr_any (x y:Bool) (W:World):Calls Tryz.prog 174 #[.bool x,.bool y] W (RuleP (x||y) W):=by
 cases x <;> cases y
 all_goals
  go_enter Tryz.func174,Tryz.ntmps174
  go_wp2
  go_ret
  exact ⟨rfl,rfl⟩
theorem ruleAnd_any (x y:Bool) (W:World):Calls Tryz.prog 173 #[.bool x,.bool y] W (RuleP (x&&y) W):=by
 cases x <;> cases y
 all_goals
  go_enter Tryz.func173,Tryz.ntmps173
  go_wp2
  go_ret
  exact ⟨rfl,rfl⟩
theorem ruleNot_any (x y:Bool) (W:World):Calls Tryz.prog 219 #[.bool x,.bool y] W (RuleP (!x) W):=by
 cases x <;> cases y
 all_goals
  go_enter Tryz.func219,Tryz.ntmps219
  go_wp2
  go_ret
  exact ⟨rfl,rfl⟩
theorem enters_ruleOr:∀ args w,(callFunc 174 args).run Tryz.prog w=.ok (.enter 174 args) w:=enters_of Tryz.func174 (by kernel_rfl) rfl
theorem enters_ruleAnd:∀ args w,(callFunc 173 args).run Tryz.prog w=.ok (.enter 173 args) w:=enters_of Tryz.func173 (by kernel_rfl) rfl
theorem enters_ruleNot:∀ args w,(callFunc 219 args).run Tryz.prog w=.ok (.enter 219 args) w:=enters_of Tryz.func219 (by kernel_rfl) rfl
theorem turns_can (g:Bool→Bool→Bool) {a b l:List (Nat×Nat)} (ha:CanF 0 a) (hb:CanF 0 b) (hl:CanF 0 l) (hs:∀ n,n<endR→setS l n=g (setS a n) (setS b n)) :
    ∀ zs:List Nat,zs.Pairwise (· ≤ ·)→zs.Perm ([0,endR]++flat a++flat b)→turns (mixP g (flat a) (flat b)) false zs=flat l:=by
  intro zs h1 h2
  obtain ⟨l',ht,hc,hq⟩:=mix_spec g a b ha hb zs h1 h2
  have e:l'=l:=can_same _ _ 0 hc hl fun n _ hn=>(hq n hn).trans (hs n hn).symm
  rw [ht,e]
theorem refOr_any (v1 v2:Value) (a b:List (Nat×Nat)) (w:World) (h1:OwnI w 0 v1 (flatI a)) (h2:OwnI w 0 v2 (flatI b)) (ha:CanF 0 a) (hb:CanF 0 b):Calls Tryz.prog 124 #[v1,v2] w (RrP w (orC a b)):=by
 have sp:=or_spec ha hb
 have hm:=mix_all (fun x y=>x||y) _ v1 v2 a b w h1 h2 ha hb enters_ruleOr (fun x y W=>ruleOr_any x y W) (orC a b) (turns_can _ ha hb sp.1 sp.2)
 clear sp
 go_enter Tryz.func124,Tryz.ntmps124
 go_wp2_with (go_at_call 172;refine hm.mono ?_;rintro e w9 ⟨v,rfl,ho,hb9⟩)
 go_ret
 exact ⟨_,rfl,ho,hb9⟩
theorem refAnd_any (v1 v2:Value) (a b:List (Nat×Nat)) (w:World) (h1:OwnI w 0 v1 (flatI a)) (h2:OwnI w 0 v2 (flatI b)) (ha:CanF 0 a) (hb:CanF 0 b):Calls Tryz.prog 123 #[v1,v2] w (RrP w (andC a b)):=by
 have sp:=and_spec ha hb
 have hm:=mix_all (fun x y=>x&&y) _ v1 v2 a b w h1 h2 ha hb enters_ruleAnd (fun x y W=>ruleAnd_any x y W) (andC a b) (turns_can _ ha hb sp.1 sp.2)
 clear sp
 go_enter Tryz.func123,Tryz.ntmps123
 go_wp2_with (go_at_call 172;refine hm.mono ?_;rintro e w9 ⟨v,rfl,ho,hb9⟩)
 go_ret
 exact ⟨_,rfl,ho,hb9⟩
theorem refNot_any (v1:Value) (a:List (Nat×Nat)) (w:World) (h1:OwnI w 0 v1 (flatI a)) (ha:CanF 0 a):Calls Tryz.prog 171 #[v1] w (RrP w (notC a)):=by
 have sp:=not_spec ha
 have hn:CanF 0 []:=trivial
 have hm:=mix_all (fun x _=>!x) _ v1 (.slice none 0 0) a [] w h1 (ownI_nil _ _) ha hn enters_ruleNot (fun x y W=>ruleNot_any x y W) (notC a) (turns_can (fun x _=>!x) ha hn sp.1 sp.2)
 clear sp
 go_enter Tryz.func171,Tryz.ntmps171
 go_wp2_with (go_at_call 172;refine hm.mono ?_;rintro e w9 ⟨v,rfl,ho,hb9⟩)
 go_ret
 exact ⟨_,rfl,ho,hb9⟩
end Go.Proofs.YtojgbcmhdnappaaGreatDoor
