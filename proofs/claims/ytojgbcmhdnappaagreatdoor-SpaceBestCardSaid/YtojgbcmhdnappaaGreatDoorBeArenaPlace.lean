/-
  A part of the proof: ArenaPlace. Conditions: none.
-/
import Derived.Test.YtojgbcmhdnappaaGreatDoorBeOwnIs
import Derived.Test.YtojgbcmhdnappaaGreatDoorBeRowK
import Derived.Deep.QuietTactic
import Derived.BigQuiet
import Derived.BigRegion
import Derived.IntWalk
import Derived.Deep.LoopGhost
namespace Go.Proofs.YtojgbcmhdnappaaGreatDoor
open Go.RowKit
def hashN (n:Nd):Nat:=(n.var*2654435761+n.low*2246822519+n.high*3266489917).toNat
def arB (B gn gu gt:Nat) (k:Nat):Prop:=k=B∨k=gn∨k=gu∨k=gt
structure ArM (w:World) (B gn gu gt:Nat) (A:Ar):Prop where
 is:∃ ns us tab,ArT hashN A ns us tab∧Blk w B 212 #[.slice (some ⟨gn,0,none⟩) A.length A.length,.slice (some ⟨gu,0,none⟩) A.length A.length,.slice (some ⟨gt,0,none⟩) (2*A.length+1) (2*A.length+1),.int .i64 (cntA A:Int)] ∧
  Blk w gn 214 (nodeArr ns)∧Blk w gu 4 (boolArr us)∧Blk w gt 3 (intArr tab)
 room:A.length≤4000
section
variable {w w':World} {B gn gu gt:Nat} {A:Ar}
theorem ArM.keep (h:ArM w B gn gu gt A) (hk:∀ k,arB B gn gu gt k→w'.heap[k]?=w.heap[k]?):ArM w' B gn gu gt A:=by
 obtain ⟨ns,us,tab,h1,h2,h3,h4,h5⟩:=h.is
 exact ⟨⟨ns,us,tab,h1,(hk B (.inl rfl)).trans h2,(hk gn (.inr (.inl rfl))).trans h3,(hk gu (.inr (.inr (.inl rfl)))).trans h4,(hk gt (.inr (.inr (.inr rfl)))).trans h5⟩,h.room⟩
theorem ArM.lt (h:ArM w B gn gu gt A) {k:Nat} (hk:arB B gn gu gt k):k<w.heap.size:=by
 obtain ⟨ns,us,tab,h1,h2,h3,h4,h5⟩:=h.is
 rcases hk with rfl | rfl | rfl | rfl
 ·exact h2.lt
 ·exact h3.lt
 ·exact h4.lt
 ·exact h5.lt
theorem ArM.below (h:ArM w B gn gu gt A) {C:Nat} (hb:Below C w w') (hC:∀ k,arB B gn gu gt k→k<C):ArM w' B gn gu gt A:=h.keep fun k hk=>hb.block k (hC k hk)
end
theorem hasA_of {A:Ar} {ns:List Nd} {us:List Bool} (h:ArS A ns us) (x:Int):hasA A x=(x==0||(x==1||(decide (2≤x)&&(decide (x-2<(A.length:Int))&&us.getD (x-2).toNat false)))):=by
 unfold hasA
 congr 2
 cases e:gotA A x with
 | some n =>
  obtain ⟨h1,h2,_⟩:=h.got.1 e
  have hl:=gotA_is e
  obtain ⟨k,hk,hk2,_⟩:=hl
  rw [decide_eq_true h1,decide_eq_true (by omega),h2];rfl
 | none =>
  by_cases h1:2≤x
  ·by_cases h2:us.getD (x-2).toNat false=true
   ·have:=h.got.2 ⟨h1,h2,rfl⟩
    rw [e] at this
    cases this
   ·rw [Bool.eq_false_iff.2 h2];simp
  ·rw [decide_eq_false h1];rfl
set_option maxHeartbeats 1000000 in
theorem arHas_any (B gn gu gt:Nat) (A:Ar) (x:Int) (w:World) (h:ArM w B gn gu gt A) (hx:I64 x) :
  Calls Tryz.prog 56 #[.pointer (some ⟨B,0,none⟩),.int .i64 x] w (fun e w'=>e=.returned (.bool (hasA A x))∧w=w'):=by
 obtain ⟨ns,us,tab,hT,kB,kn,ku,kt⟩:=h.is
 have hr:=h.room
 have b0:=kB.cell 0
 have b1:=kB.cell 1
 have HH:=Lib.hid (hasA_of hT.s x)
 have hul:=hT.s.u
 unfold I64 at hx
 rcases (show x=0∨x=1∨x<0∨(2≤x∧(A.length:Int)≤x-2)∨(2≤x∧x-2<(A.length:Int)) by omega) with e | e | e | ⟨e,e2⟩ | ⟨e,e2⟩
 ·subst e
  go_enter Tryz.func56,Tryz.ntmps56
  go_wp2
  go_ret
  exact ⟨by rw [HH.out];rfl,rfl⟩
 ·subst e
  go_enter Tryz.func56,Tryz.ntmps56
  go_wp2
  go_ret
  exact ⟨by rw [HH.out];rfl,rfl⟩
 ·have h1:(x==0)=false:=beq_eq_false_iff_ne.2 (by omega)
  have h2:(x==1)=false:=beq_eq_false_iff_ne.2 (by omega)
  have h3:decide ((2:Int)≤x)=false:=decide_eq_false (by omega)
  go_enter Tryz.func56,Tryz.ntmps56
  go_wp2
  go_ret
  exact ⟨by rw [HH.out,h1,h2,h3];rfl,rfl⟩
 ·have h1:(x==0)=false:=beq_eq_false_iff_ne.2 (by omega)
  have h2:(x==1)=false:=beq_eq_false_iff_ne.2 (by omega)
  have h3:decide ((2:Int)≤x)=true:=decide_eq_true (by omega)
  have h4:decide (x-2<(A.length:Int))=false:=decide_eq_false (by omega)
  go_enter Tryz.func56,Tryz.ntmps56
  go_wp2
  go_ret
  exact ⟨by rw [HH.out,h1,h2,h3,h4];rfl,rfl⟩
 ·obtain ⟨k,rfl⟩:∃ k:Nat,x=(k:Int)+2:=⟨(x-2).toNat,by omega⟩
  have h1:((k:Int)+2==0)=false:=beq_eq_false_iff_ne.2 (by omega)
  have h2:((k:Int)+2==1)=false:=beq_eq_false_iff_ne.2 (by omega)
  have h3:decide ((2:Int)≤(k:Int)+2)=true:=decide_eq_true (by omega)
  have h5:(k:Int)+2-2=(k:Int):=by omega
  rw [h5] at e2
  have h4:decide ((k:Int)<(A.length:Int))=true:=decide_eq_true e2
  have u0:=(ku.cell k).trans (boolArr_at (by rw [hul];omega))
  have HG:=Lib.hid (show hasA A ((k:Int)+2)=us.getD k false by rw [HH.out,h1,h2,h3,h5,h4];simp)
  generalize us.getD k false=ub at u0 HG
  go_enter Tryz.func56,Tryz.ntmps56
  go_wp2
  go_ret
  exact ⟨by rw [HG.out];rfl,rfl⟩
end Go.Proofs.YtojgbcmhdnappaaGreatDoor
namespace Go.Proofs.YtojgbcmhdnappaaGreatDoor
open Go.RowKit
def GetPost (w:World) (A:Ar) (x:Int) (e:Ending) (w':World):Prop:=e=.returned (.tuple #[nodeV ((gotA A x).getD nd0),.bool (gotA A x).isSome])∧Below w.heap.size w w'
theorem gotA_has {A:Ar} {x:Int} (hx:2≤x):hasA A x=(gotA A x).isSome:=by
 unfold hasA
 rw [beq_eq_false_iff_ne.2 (show x≠0 by omega),beq_eq_false_iff_ne.2 (show x≠1 by omega)]
 rfl
theorem gotA_low {A:Ar} {x:Int} (hx:x<2):gotA A x=none:=by
 unfold gotA
 rw [if_neg (by omega)]
set_option maxHeartbeats 1000000 in
theorem arGet_any (B gn gu gt:Nat) (A:Ar) (x:Int) (w:World) (h:ArM w B gn gu gt A) (hx:I64 x) :
  Calls Tryz.prog 110 #[.pointer (some ⟨B,0,none⟩),.int .i64 x] w (GetPost w A x):=by
 have HB:=hide ((Below.refl w.heap.size w).alloc (Nat.le_refl _) (.cells #[.int .i64 0,.int .i64 0,.int .i64 0] 214))
 have HM:=hide (h.below HB.out (fun k hk=>h.lt hk))
 have HHS:=hide (arHas_any B gn gu gt A x _ HM.out hx)
 by_cases h2:x<2
 ·have HG:=Lib.hid (gotA_low (A:=A) h2)
  go_enter Tryz.func110,Tryz.ntmps110
  go_wp2
  exact bodyPost_ret (v:=.tuple #[nodeV nd0,.bool false]) (by simp [results,Tryz.results110,go_sem,nodeV,nd0]) rfl ⟨by rw [HG.out];rfl,HB.out⟩
 ·have h2b:decide (x<2)=false:=decide_eq_false (by omega)
  rw [gotA_has (by omega)] at HHS
  cases hg:gotA A x with
  | none =>
   have HG:=Lib.hid hg
   rw [hg] at HHS
   go_enter Tryz.func110,Tryz.ntmps110
   go_wp2_with fail
   refine (HHS.out).mono ?_
   rintro e w1 ⟨rfl,rfl⟩
   go_wp2
   exact bodyPost_ret (v:=.tuple #[nodeV nd0,.bool false]) (by simp [results,Tryz.results110,go_sem,nodeV,nd0]) rfl ⟨by rw [HG.out];rfl,HB.out⟩
  | some n =>
   have HG:=Lib.hid hg
   rw [hg] at HHS
   obtain ⟨k,rfl,hk,_⟩:=gotA_is hg
   obtain ⟨ns,us,tab,hT,kB,kn,ku,kt⟩:=HM.out.is
   have hr:=HM.out.room
   have hnl:=hT.s.n
   obtain ⟨_,_,hn⟩:=hT.s.got.1 hg
   rw [show ((k:Int)+2-2).toNat=k by omega] at hn
   obtain ⟨m0,m1,m2⟩:=nodeArr_at (ns:=ns) (k:=k) (by rw [hnl];exact hk)
   rw [hn] at m0 m1 m2
   have b0:=kB.cell 0
   have n0:=(kn.cell (k*3)).trans m0
   have n1:=(kn.cell (k*3+1)).trans m1
   have n2:=(kn.cell (k*3+2)).trans m2
   have hk5:(k:Int)+2-2=(k:Int):=by omega
   have hkI:(k:Int)<(A.length:Int):=by omega
   clear hT kB kn ku kt m0 m1 m2 hg HM
   go_enter Tryz.func110,Tryz.ntmps110
   go_wp2_with fail
   refine (HHS.out).mono ?_
   rintro e w1 ⟨rfl,rfl⟩
   go_wp2
   exact bodyPost_ret (v:=.tuple #[nodeV n,.bool true]) (by simp [results,Tryz.results110,go_sem,nodeV]) rfl ⟨by rw [HG.out];rfl,(Below.refl w.heap.size w).alloc (Nat.le_refl _) _⟩
theorem arGet_none (B gn gu gt:Nat) (A:Ar) (x:Int) (w:World) (h:ArM w B gn gu gt A) (hx:I64 x) (hg:gotA A x=none) :
  Calls Tryz.prog 110 #[.pointer (some ⟨B,0,none⟩),.int .i64 x] w (fun e w'=>e=.returned (.tuple #[.agg #[.int .i64 0,.int .i64 0,.int .i64 0],.bool false])∧Below w.heap.size w w') :=
 (arGet_any B gn gu gt A x w h hx).mono (by rintro e w' ⟨rfl,hb⟩;rw [hg];exact ⟨rfl,hb⟩)
theorem arGet_some (B gn gu gt:Nat) (A:Ar) (x:Int) (n:Nd) (w:World) (h:ArM w B gn gu gt A) (hx:I64 x) (hg:gotA A x=some n) :
  Calls Tryz.prog 110 #[.pointer (some ⟨B,0,none⟩),.int .i64 x] w (fun e w'=>e=.returned (.tuple #[.agg #[.int .i64 n.var,.int .i64 n.low,.int .i64 n.high],.bool true])∧Below w.heap.size w w') :=
 (arGet_any B gn gu gt A x w h hx).mono (by rintro e w' ⟨rfl,hb⟩;rw [hg];exact ⟨rfl,hb⟩)
def TopPost (w:World) (A:Ar) (x:Int) (e:Ending) (w':World):Prop:=e=.returned (.int .i64 (topA A x))∧Below w.heap.size w w'
set_option maxHeartbeats 1000000 in
theorem arTop_any (B gn gu gt:Nat) (A:Ar) (x:Int) (w:World) (h:ArM w B gn gu gt A) (hx:I64 x) :
  Calls Tryz.prog 59 #[.pointer (some ⟨B,0,none⟩),.int .i64 x] w (TopPost w A x):=by
 cases hg:gotA A x with
 | none =>
  have HGT:=hide (arGet_none B gn gu gt A x w h hx hg)
  have HTP:=Lib.hid (show topA A x=24 by unfold topA;rw [hg])
  clear h hx hg
  go_enter Tryz.func59,Tryz.ntmps59
  go_wp2_with fail
  refine (HGT.out).mono ?_
  rintro e w1 ⟨rfl,hb⟩
  go_wp2
  go_ret
  exact ⟨by rw [HTP.out];rfl,hb.alloc hb.size _⟩
 | some n =>
  have HGT:=hide (arGet_some B gn gu gt A x n w h hx hg)
  have HTP:=Lib.hid (show topA A x=n.var by unfold topA;rw [hg])
  clear h hx hg
  go_enter Tryz.func59,Tryz.ntmps59
  go_wp2_with fail
  refine (HGT.out).mono ?_
  rintro e w1 ⟨rfl,hb⟩
  go_wp2
  go_ret
  exact ⟨by rw [HTP.out];rfl,hb.alloc hb.size _⟩
def idxI:Option Nat→Int
 | some k=>(k:Int)
 | none => -1
def IdxPost (w:World) (o:Option Nat) (e:Ending) (w':World):Prop:=e=.returned (.int .i64 (idxI o))∧w=w'
theorem index_any (g:Nat) (us:List Bool) (n c:Nat) (w:World) (k0:Blk w g 4 (boolArr us)) (hn:us.length=n) (hn2:n≤1000000) :
  Calls Tryz.prog 247 #[.slice (some ⟨g,0,none⟩) n c,.bool false] w (IdxPost w (us.findIdx? (fun b=>b==false))):=by
 have HK:=hide k0
 clear k0
 go_enter Tryz.func247,Tryz.ntmps247
 go_wp2
 go_loopw [8] (fun iv wr=>∃ i:Nat,i≤n∧iv=.int .i64 i∧wr=w∧Hid (∀ j,j<i→us.getD j false=true)) (fun iv _=>n-(intOf iv).toNat)
 case atStart=>exact ⟨0,Nat.zero_le _,rfl,rfl,hide (fun j hj=>absurd hj (Nat.not_lt_zero _))⟩
 case round =>
  obtain ⟨i,hi,rfl,rfl,hR⟩:=hrel
  by_cases hlt:i<n
  ·have u0:=(HK.out.cell i).trans (boolArr_at (by rw [hn];exact hlt))
   by_cases hu:us.getD i false=true
   ·rw [hu] at u0
    have HN:=hide (show ∀ j,j<i+1→us.getD j false=true from fun j hj=>by
     rcases Nat.lt_or_ge j i with h | h
     ·exact hR.out j h
     ·rw [show j=i by omega];exact hu)
    clear hu
    go_wp2
    go_roundw
    case rel=>exact ⟨i+1,by omega,by go_num,by first | rfl | trivial,HN⟩
    case measure=>simp [intOf];omega
   ·have hu':=Bool.eq_false_iff.2 hu
    rw [hu'] at u0
    have HF:=Lib.hid (show us.findIdx? (fun b=>b==false)=some i from List.findIdx?_eq_some_iff_getElem.2 ⟨by omega,by
     have:=getD_of (l:=us) (k:=i) (d:=false) (by omega)
     rw [hu',List.getElem?_eq_getElem (by omega)] at this
     rw [Option.some.inj this];rfl,fun j hj=>by
     have h1:=getD_of (l:=us) (k:=j) (d:=false) (by omega)
     rw [hR.out j hj,List.getElem?_eq_getElem (by omega)] at h1
     rw [Option.some.inj h1];decide⟩)
    clear hu hu'
    go_wp2
    go_ret
    exact ⟨by rw [HF.out];rfl,rfl⟩
  ·obtain rfl:i=n:=by omega
   have HF:=Lib.hid (show us.findIdx? (fun b=>b==false)=none from List.findIdx?_eq_none_iff.2 fun x hx=>by
    obtain ⟨j,hj,rfl⟩:=List.getElem_of_mem hx
    have h1:=getD_of (l:=us) (k:=j) (d:=false) hj
    rw [hR.out j (by omega),List.getElem?_eq_getElem hj] at h1
    rw [Option.some.inj h1];rfl)
   go_wp2
   go_ret
   exact ⟨by rw [HF.out];rfl,rfl⟩
end Go.Proofs.YtojgbcmhdnappaaGreatDoor
namespace Go.Proofs.YtojgbcmhdnappaaGreatDoor
open Go.RowKit
structure NdOk (n:Nd):Prop where
 var:0≤n.var∧n.var≤24
 low:0≤n.low∧n.low≤5000
 high:0≤n.high∧n.high≤5000
structure PlM (w:World) (B gn gt L:Nat) (u:Value) (z:Value) (ns:List Nd) (tab:List Int):Prop where
 kB:Blk w B 212 #[.slice (some ⟨gn,0,none⟩) L L,u,.slice (some ⟨gt,0,none⟩) (2*L+1) (2*L+1),z]
 kn:Blk w gn 214 (nodeArr ns)
 kt:Blk w gt 3 (intArr tab)
 nl:ns.length=L
 tl:tab.length=2*L+1
 nz:∀ i,i<tab.length→tab.getD i 0≠0→∃ k:Nat,k<L∧tab.getD i 0=(k:Int)+2
 zero:∃ z,z<tab.length∧tab.getD z 0=0
theorem PlM.below {w w':World} {B gn gt L:Nat} {u z:Value} {ns:List Nd} {tab:List Int} (h:PlM w B gn gt L u z ns tab) (hb:Below w.heap.size w w'):PlM w' B gn gt L u z ns tab :=
 ⟨h.kB.below hb h.kB.lt,h.kn.below hb h.kn.lt,h.kt.below hb h.kt.lt,h.nl,h.tl,h.nz,h.zero⟩
def SeatPost (w:World) (ns:List Nd) (tab:List Int) (n:Nd) (e:Ending) (w':World):Prop:=∃ i:Nat,e=.returned (.int .i64 i)∧Place hashN ns tab n i∧Below w.heap.size w w'
theorem seek_next {ns:List Nd} {tab:List Int} {n:Nd} {j:Nat} (h:Seek hashN ns tab n j) (h1:tab.getD ((hashN n+j) % tab.length) 0≠0) (h2:ns.getD (tab.getD ((hashN n+j) % tab.length) 0-2).toNat nd0≠n):Seek hashN ns tab n (j+1) :=
 ⟨fun e he=>by
  rcases Nat.lt_or_ge e j with h3 | h3
  ·exact h.past e h3
  ·rw [show e=j by omega];exact ⟨h1,h2⟩⟩
theorem nd_ne {m n:Nd} (h:¬m=n):m.var≠n.var∨(m.var=n.var∧m.low≠n.low)∨(m.var=n.var∧m.low=n.low∧m.high≠n.high):=by
 by_cases h1:m.var=n.var
 ·by_cases h2:m.low=n.low
  ·refine .inr (.inr ⟨h1,h2,fun h3=>h ?_⟩)
   cases m;cases n
   simp at h1 h2 h3
   rw [h1,h2,h3]
  ·exact .inr (.inl ⟨h1,h2⟩)
 ·exact .inl h1
theorem hashN_is {n:Nd} (h:NdOk n):(hashN n:Int)=n.var*2654435761+n.low*2246822519+n.high*3266489917:=by
 unfold hashN
 have h1:=h.var
 have h2:=h.low
 have h3:=h.high
 omega
set_option maxHeartbeats 4000000 in
theorem place_any (B gn gt L:Nat) (u z:Value) (ns:List Nd) (tab:List Int) (n:Nd) (w:World) (h:PlM w B gn gt L u z ns tab) (hn:NdOk n) (hL:L≤4000) :
  Calls Tryz.prog 162 #[.pointer (some ⟨B,0,none⟩),.agg #[.int .i64 n.var,.int .i64 n.low,.int .i64 n.high]] w (SeatPost w ns tab n):=by
 have HB:=hide ((Below.refl w.heap.size w).alloc (Nat.le_refl _) (.cells #[.int .i64 n.var,.int .i64 n.low,.int .i64 n.high] 214))
 have HM:=hide (h.below HB.out)
 have HK:=hide (Blk.new w 214 #[.int .i64 n.var,.int .i64 n.low,.int .i64 n.high])
 have HH:=Lib.hid (hashN_is hn)
 have v1:=hn.var
 have v2:=hn.low
 have v3:=hn.high
 have b2:=HM.out.kB.cell 2
 have q0:=HK.out.cell 0
 have q1:=HK.out.cell 1
 have q2:=HK.out.cell 2
 clear h hn
 go_enter Tryz.func162,Tryz.ntmps162
 have HJ:=Lib.hid (show wrap64 ((n.var*2654435761+n.low*2246822519+n.high*3266489917) % (2*(L:Int)+1))=(((hashN n+0) % tab.length:Nat):Int) by
  rw [←HH.out,HM.out.tl,Nat.add_zero,Int.natCast_emod,Int.natCast_add,Int.natCast_mul]
  have h1:(hashN n:Int) % (((2:Nat):Int)*(L:Int)+((1:Nat):Int))<((2:Nat):Int)*(L:Int)+((1:Nat):Int):=Int.emod_lt_of_pos _ (by omega)
  have h2:0≤(hashN n:Int) % (((2:Nat):Int)*(L:Int)+((1:Nat):Int)):=Int.emod_nonneg _ (by omega)
  generalize (hashN n:Int) % (((2:Nat):Int)*(L:Int)+((1:Nat):Int))=y at h1 h2
  unfold wrap64
  omega)
 obtain ⟨x0,HX0⟩:∃ x0,Hid ((hashN n+0) % tab.length=x0):=⟨_,Lib.hid rfl⟩
 rw [HX0.out] at HJ
 go_wp2
 rw [HJ.out]
 clear HJ b2 q0 q1 q2 HH
 obtain ⟨T,HT⟩:∃ T,Hid (tab.length=T):=⟨_,Lib.hid rfl⟩
 rw [HT.out] at HX0
 have hT:T=2*L+1:=HT.out.symm.trans HM.out.tl
 have HST:=hide (show Seek hashN ns tab n 0 from ⟨fun e he=>absurd he (Nat.not_lt_zero _)⟩)
 generalize (w.alloc (.cells #[.int .i64 n.var,.int .i64 n.low,.int .i64 n.high] 214))=w1 at HB HM HK ⊢
 generalize w.heap.size=g at HK ⊢
 go_loopg [6] T (fun gk iv wr=>∃ j q:Nat,j+gk=T∧iv=.int .i64 (((hashN n+j) % T:Nat):Int)∧wr=w1.drewN q∧Hid (Seek hashN ns tab n j))
 case atStart=>exact ⟨0,0,by omega,by rw [HX0.out],rfl,HST⟩
 case round =>
  clear HST
  obtain ⟨j,q,hj,rfl,rfl,hS⟩:=hrel
  have hjT:=seek_stop HM.out.zero hS.out
  rw [HT.out] at hjT
  obtain ⟨gz,rfl⟩:∃ gz,gk=gz+1:=⟨gk-1,by omega⟩
  obtain ⟨x,HX⟩:∃ x,Hid ((hashN n+j) % T=x):=⟨_,Lib.hid rfl⟩
  have hx:x<T:=by rw [←HX.out];exact Nat.mod_lt _ (by omega)
  have HSN:=hide (fun (a1:tab.getD x 0≠0) (a2:ns.getD (tab.getD x 0-2).toNat nd0≠n)=>seek_next hS.out (by rw [HT.out,HX.out];exact a1) (by rw [HT.out,HX.out];exact a2))
  have HPL:=hide (fun (a:tab.getD x 0=0∨ns.getD (tab.getD x 0-2).toNat nd0=n)=>show Place hashN ns tab n x from ⟨by rw [HT.out];exact hx,j,by rw [HT.out,HX.out],hS.out,a⟩)
  have hnz:=HM.out.nz x (by rw [HT.out];exact hx)
  have HY:=Lib.hid (show ((x:Int)+1) % (2*(L:Int)+1)=(((hashN n+(j+1)) % T:Nat):Int) by
   rw [←Nat.add_assoc,←Nat.mod_add_mod,HX.out,hT,Int.natCast_emod]
   rfl)
  rw [HX.out]
  have b0:=HM.out.kB.cell 0
  have b2:=HM.out.kB.cell 2
  have t0:=(HM.out.kt.cell x).trans (intArr_at (by rw [HT.out];exact hx))
  have q0:=HK.out.cell 0
  have q1:=HK.out.cell 1
  have q2:=HK.out.cell 2
  have hxI:(x:Int)<2*(L:Int)+1:=by omega
  clear hS hjT
  by_cases hz:tab.getD x 0=0
  ·have HP:=hide (HPL.out (.inl hz))
   rw [hz] at t0
   clear hnz HSN HPL hz
   go_wp2
   go_quiet (fail)
   go_wp2
   go_ret
   exact ⟨x,rfl,HP.out,by first | exact below_drewN HB.out _ | exact below_drewN (below_drewN HB.out _) _⟩
  ·obtain ⟨k,hk,ek⟩:=hnz hz
   rw [ek] at t0 HSN HPL
   rw [show ((k:Int)+2-2).toNat=k by omega] at HSN HPL
   obtain ⟨m0,m1,m2⟩:=nodeArr_at (ns:=ns) (k:=k) (by rw [HM.out.nl];exact hk)
   have n0:=(HM.out.kn.cell (k*3)).trans m0
   have n1:=(HM.out.kn.cell (k*3+1)).trans m1
   have n2:=(HM.out.kn.cell (k*3+2)).trans m2
   have hk5:(k:Int)+2-2=(k:Int):=by omega
   have hkI:(k:Int)<(L:Int):=by omega
   have hw1:IntKind.i64.wrap (k:Int)=(k:Int):=IntWalk.i64_in (k:Int) ⟨by omega,by omega⟩
   have hzb:((k:Int)+2==0)=false:=beq_eq_false_iff_ne.2 (by omega)
   clear m0 m1 m2 ek hz hnz
   generalize ns.getD k nd0=m at n0 n1 n2 HSN HPL
   by_cases hmn:m=n
   ·subst hmn
    have HP:=hide (HPL.out (.inr rfl))
    clear HSN HPL
    go_wp2
    go_quiet (fail)
    go_wp2
    go_ret
    exact ⟨x,rfl,HP.out,by first | exact below_drewN HB.out _ | exact below_drewN (below_drewN HB.out _) _⟩
   ·have HSM:=hide (HSN.out (by omega) hmn)
    clear HSN HPL
    rcases nd_ne hmn with e1 | ⟨e1,e2⟩ | ⟨e1,e2,e3⟩
    case' inl=>have hne:=beq_eq_false_iff_ne.2 e1
    case' inr.inl =>
     rw [e1] at n0
     have hne:=beq_eq_false_iff_ne.2 e2
    case' inr.inr =>
     rw [e1] at n0
     rw [e2] at n1
     have hne:=beq_eq_false_iff_ne.2 e3
    all_goals
     go_wp2
     go_quiet (fail)
     go_wp2
     go_roundg gz
     case rel=>exact ⟨j+1,_,by omega,by rw [HY.out],by first | rfl | exact World.drewN_drewN ..,HSM⟩
     case measure=>omega
end Go.Proofs.YtojgbcmhdnappaaGreatDoor
