/-
  A part of the proof: RefItems. Conditions: none.
-/
import Derived.Test.YtojgbcmhdnappaaGreatDoorAlCalm
import Derived.Test.YtojgbcmhdnappaaGreatDoorAlRefOps
import Derived.Test.YtojgbcmhdnappaaGreatDoorAlReaPure
import Derived.Deep.Cut
import Derived.Deep.CutRange
namespace Go
variable {P:Program}
theorem run_copy_cellsK (K:Nat) (w:World) (dT sT ty elem:TypeId) (b o dLen dCap:Nat) (a:Addr) (sLen sCap:Nat) (cs:List Value)
  (hu:P.underlying dT=some (.slice elem)) (hs:(P.info? elem).map (·.size)=some K) (hn:cs.length=Nat.min sLen dLen*K)
  (hsrc:∀ j v,cs[j]?=some v→w.cell? (a.add j)=some v) (hc:∀ j,j<cs.length→(w.cell? ⟨b,o+j,none⟩).isSome=true) (hf:∀ j,j<cs.length→w.frozen? ⟨b,o+j,none⟩=false) (h1:∀ v∈cs,v.oneCell'=true) :
  (Builtin.copy_ #[dT,sT] ty #[.slice (some ⟨b,o,none⟩) dLen dCap,.slice (some a) sLen sCap]).run P w=.ok (goInt (Nat.min sLen dLen:Nat)) (w.setCells b o cs):=by
 have hl:=run_loadCells_list (P:=P) w a cs hsrc
 have hst:=run_storeCells_cells (P:=P) b o cs 0 w (by simpa using hc) (by simpa using hf) h1
 cases hq:P.info? elem with
 | none=>simp [hq] at hs
 | some i =>
  have hi:i.size=K:=by simpa [hq] using hs
  rw [hn] at hl
  simp [Builtin.copy_,run_underlying hu,Builtin.lenOf,Builtin.firstCells,sizeOf,typeInfo,hq,hi,hl,hst]
theorem run_copy_noneK (w:World) (dT sT ty elem:TypeId) (d a:Option Addr) (dLen dCap sLen sCap:Nat) (hu:P.underlying dT=some (.slice elem)) (hs:(P.info? elem).isSome=true) (hn:Nat.min sLen dLen=0) :
  (Builtin.copy_ #[dT,sT] ty #[.slice d dLen dCap,.slice a sLen sCap]).run P w=.ok (goInt 0) w:=by
 cases hq:P.info? elem with
 | none=>simp [hq] at hs
 | some i =>
  have hl:∀ (x:Addr),(loadCells x 0).run P w=.ok #[] w:=fun x=>by simpa using run_loadCells_list (P:=P) w x [] (by simp)
  cases d <;> cases a <;> simp [Builtin.copy_,run_underlying hu,Builtin.lenOf,Builtin.firstCells,sizeOf,typeInfo,hq,hn,storeCells,hl]
end Go
namespace Go.Proofs.YtojgbcmhdnappaaGreatDoor
open Go.RowKit
set_option maxRecDepth 100000
section
variable {α:Type} {E:ElK α} {w:World} {base g cap:Nat} {zs:List α} {z:α}
theorem ElK.row_take (E:ElK α):∀ (l:List α) (k:Nat),(E.row l).take (k*E.K)=E.row (l.take k)
 | [],k=>by simp [ElK.row]
 | a :: l,0=>by simp [ElK.row]
 | a :: l,k+1=>by
  have e:(k+1)*E.K=E.K+k*E.K:=by rw [Nat.succ_mul];omega
  rw [E.row_cons,e,List.take_succ_cons,E.row_cons,←ElK.row_take E l k,List.take_append,E.len,List.take_of_length_le (by rw [E.len];omega),Nat.add_sub_cancel_left]
theorem OwnK.cells (h:OwnK E w base (.slice (some ⟨g,0,none⟩) (zs.length+1) cap) (zs++[z])):∃ cur,base≤g∧Blk w g E.t cur∧zs.length+1≤cap∧cap≤maxLen∧cur.size=cap*E.K∧∀ j,j<(zs.length+1)*E.K→cur[j]?=(E.row (zs++[z]))[j]?:=by
 rcases h.2 with ⟨h9,_⟩ | ⟨g',cap',cur,e,hg,hgc,hle,hcm,hcs,hct⟩
 ·cases h9
 ·injection e with e1 _ e2
  injection e1 with e1
  injection e1 with e1
  subst e1 e2
  rw [List.length_append,List.length_singleton] at hle hct
  refine ⟨cur,hg,hgc,hle,hcm,hcs,fun j hj=>?_⟩
  rw [←hct,List.getElem?_take_of_lt hj,Array.getElem?_toList]
theorem copyK_at (h:OwnK E w base (.slice (some ⟨g,0,none⟩) (zs.length+1) cap) (zs++[z])) {i:Nat} (hi:i≤zs.length) (x y dc sc:Nat) (hx:x=zs.length-i) (hy:y=zs.length+1-i) (sT ty:TypeId) (hu:Tryz.prog.underlying sT=some (.slice E.t)) (hs:(Tryz.prog.info? E.t).map (·.size)=some E.K) (o q:Nat) (ho:o=(i+1)*E.K) (hq:q=i*E.K) :
  (Builtin.copy_ #[sT,sT] ty #[.slice (if cap=i+1 then some ⟨g,0,none⟩ else some ⟨g,o,none⟩) x dc,.slice (some ⟨g,q,none⟩) y sc]).run Tryz.prog w=.ok (goInt ((zs.length-i:Nat):Int)) (w.setCells g o (E.row (zs.drop i))):=by
 obtain ⟨cur,hg,hk,hle,hcm,hcs,hct⟩:=h.cells
 have hpos:=E.pos
 have hss:(Tryz.prog.info? E.t).isSome=true:=by
  cases e:Tryz.prog.info? E.t with
  | none=>rw [e] at hs;cases hs
  | some _=>rfl
 by_cases e:cap=i+1
 ·obtain rfl:i=zs.length:=by omega
  rw [if_pos e,List.drop_length,E.row_nil,Nat.sub_self]
  exact run_copy_noneK w sT sT ty E.t _ _ x dc y sc hu hss (by rw [hx,Nat.sub_self];exact Nat.min_zero _)
 ·rw [if_neg e]
  have hmin:Nat.min y x=zs.length-i:=by rw [hx,hy];exact Nat.min_eq_right (by omega)
  have hlen:(E.row (zs.drop i)).length=(zs.length-i)*E.K:=by rw [E.row_len,List.length_drop]
  have hcl:(zs.length-i)*E.K+i*E.K=zs.length*E.K:=by rw [←Nat.add_mul];congr 1;omega
  have hz1:(zs.length+1)*E.K=zs.length*E.K+E.K:=Nat.succ_mul _ _
  have hi1:(i+1)*E.K=i*E.K+E.K:=Nat.succ_mul _ _
  have hcap:(zs.length+1)*E.K≤cap*E.K:=Nat.mul_le_mul_right _ hle
  have hr:=run_copy_cellsK (P:=Tryz.prog) E.K w sT sT ty E.t g o x dc ⟨g,q,none⟩ y sc (E.row (zs.drop i)) hu hs (by rw [hlen,hmin])
   (fun j v hv=>by
    have hj:j<(zs.length-i)*E.K:=by
     rcases Nat.lt_or_ge j ((zs.length-i)*E.K) with h3 | h3
     ·exact h3
     ·rw [List.getElem?_eq_none (by rw [hlen];exact h3)] at hv;cases hv
    have ea:(⟨g,q,none⟩:Addr).add j=⟨g,q+j,none⟩:=Addr.add_lit _ _ _
    rw [ea,hk.cell,hct _ (by omega),E.row_app,List.getElem?_append_left (by rw [E.row_len];omega),←hv,←E.row_drop,List.getElem?_drop,hq])
   (fun j hj=>by rw [hk.cell,Array.getElem?_eq_getElem (by rw [hlen] at hj;omega)];rfl) (fun j _=>hk.frozen _) (E.row_oneCell _)
  rw [hmin] at hr
  exact hr
theorem OwnK.insert (h:OwnK E w base (.slice (some ⟨g,0,none⟩) (zs.length+1) cap) (zs++[z])) {i:Nat} (hi:i≤zs.length) (n:α) (o q:Nat) (ho:o=(i+1)*E.K) (hq:q=i*E.K) :
  OwnK E ((w.setCells g o (E.row (zs.drop i))).setCells g q (E.f n)) base (.slice (some ⟨g,0,none⟩) (zs.length+1) cap) (zs.take i++n :: zs.drop i):=by
 obtain ⟨cur,hg,hk,hle,hcm,hcs,hct⟩:=h.cells
 have hll:(zs.take i++n :: zs.drop i).length=zs.length+1:=by simp;omega
 have hlen:(E.row (zs.drop i)).length=(zs.length-i)*E.K:=by rw [E.row_len,List.length_drop]
 have hcl:(zs.length-i)*E.K+i*E.K=zs.length*E.K:=by rw [←Nat.add_mul];congr 1;omega
 have hz1:(zs.length+1)*E.K=zs.length*E.K+E.K:=Nat.succ_mul _ _
 have hi1:(i+1)*E.K=i*E.K+E.K:=Nat.succ_mul _ _
 have hcap:(zs.length+1)*E.K≤cap*E.K:=Nat.mul_le_mul_right _ hle
 obtain ⟨c1,hk1,hs1,h1,h2⟩:=Blk.setCells2 (E.row (zs.drop i)) o w cur hk (by rw [hlen];omega)
 obtain ⟨c2,hk2,hs2,h3,h4⟩:=Blk.setCells2 (E.f n) q _ c1 hk1 (by rw [E.len];omega)
 have h5:∀ j,q+E.K≤j→c2[j]?=c1[j]?:=by
  intro j hj
  have hc:=(hk2.cell j).symm.trans ((World.cell?_setCells_out g (E.f n) q _ ⟨g,j,none⟩ fun _ _=>.inr (by rw [E.len];exact hj)).trans (hk1.cell j))
  exact hc
 unfold OwnK
 rw [hll]
 refine ⟨by rw [E.row_len,hll],.inr ⟨g,cap,c2,rfl,hg,hk2,hle,hcm,by rw [hs2,hs1,hcs],?_⟩⟩
 apply List.ext_getElem?
 intro j
 by_cases hj:j<(zs.length+1)*E.K
 ·rw [List.getElem?_take_of_lt hj,Array.getElem?_toList,E.row_app,E.row_cons,←E.row_take,←E.row_drop]
  have htl:((E.row zs).take (i*E.K)).length=i*E.K:=by rw [List.length_take,E.row_len];omega
  rcases Nat.lt_or_ge j (i*E.K) with h6 | h6
  ·rw [h3 j (by omega),h1 j (by omega),hct j (by omega),E.row_app,List.getElem?_append_left (by rw [E.row_len];omega),List.getElem?_append_left (by omega),List.getElem?_take_of_lt h6]
  ·rw [List.getElem?_append_right (by omega),htl]
   rcases Nat.lt_or_ge j (i*E.K+E.K) with h7 | h7
   ·rw [List.getElem?_append_left (by rw [E.len];omega),←h4 (j-i*E.K) (by rw [E.len];omega)]
    congr 1;omega
   ·rw [h5 j (by omega),List.getElem?_append_right (by rw [E.len];omega),E.len]
    have:=h2 (j-i*E.K-E.K) (by rw [hlen];omega)
    rw [show o+(j-i*E.K-E.K)=j by omega] at this
    rw [this,E.row_drop]
 ·rw [List.getElem?_eq_none (by simp;omega),List.getElem?_eq_none (by rw [E.row_len,hll];omega)]
theorem grown_two {w:World} {g:Nat} (a b:List Value) (o q:Nat):w.grownBy ((w.setCells g o a).setCells g q b) (some g):=by
 have g1:=grown_setCells g a o w
 have g2:=grown_setCells g b q (w.setCells g o a)
 exact ⟨g2.os.trans g1.os,g2.tape.trans g1.tape,g2.output.trans g1.output,Nat.le_trans g1.size g2.size,fun i hi hne=>(g2.block i (Nat.lt_of_lt_of_le hi g1.size) hne).trans (g1.block i hi hne)⟩
end
end Go.Proofs.YtojgbcmhdnappaaGreatDoor
namespace Go.Proofs.YtojgbcmhdnappaaGreatDoor
open Go.RowKit
open Classical
set_option maxRecDepth 100000
def ItsP (ls:List LnR) (w:World) (e:Ending) (w':World):Prop:=∃ v,e=.returned v∧OwnK elI w' w.heap.size v (itemsF ls)∧Below w.heap.size w w'
theorem items_step {ls:List LnR} {i:Nat} (h:i<ls.length):(ls[i].k=1→itemsF (ls.take (i+1))=insT (itemsF (ls.take i)) (itL ls[i]))∧(ls[i].k≠1→itemsF (ls.take (i+1))=itemsF (ls.take i)):=by
 unfold itemsF onesL srtI
 rw [List.take_succ_eq_append_getElem h,List.filter_append,List.map_append,List.foldl_append]
 refine ⟨fun e=>?_,fun e=>?_⟩
 ·simp [e]
 ·simp [e]
theorem itemsF_rise (ls:List LnR):RiseT (itemsF ls):=(srtI_spec _).1
theorem itemsF_len (ls:List LnR):(itemsF ls).length≤ls.length:=by
 rw [(itemsF_perm ls).length_eq]
 unfold onesL
 rw [List.length_map]
 exact List.length_filter_le _ _
def goB (x:ItR) (zs:List ItR):Nat→Bool
 | 0=>false
 | m+1=>match zs[m]? with
  | some z=>ltI x z
  | none=>false
theorem goB_at {x:ItR} {zs:List ItR} {m:Nat} (h:m<zs.length):goB x zs (m+1)=ltI x zs[m]:=by
 rw [goB,List.getElem?_eq_getElem h]
theorem ltI_a {x z:ItR} (h:Op.bytesLess x.1.toList z.1.toList=true):ltI x z=true:=by
 unfold ltI cfI cmpS
 rw [h]
 simp
theorem ltI_b {x z:ItR} (h:Op.bytesLess x.1.toList z.1.toList=false) (hn:z.1≠x.1):ltI x z=false:=by
 unfold ltI cfI cmpS
 rw [h]
 have h2:Op.bytesLess z.1.toList x.1.toList=true:=by
  rw [bytes_less] at h ⊢
  rw [decide_eq_false_iff_not] at h
  rw [decide_eq_true_eq]
  rcases lists_tri x.1.data.toList z.1.data.toList with k | k | k
  ·exact absurd k h
  ·exact absurd (ByteArray.ext (Array.ext' k.symm)) hn
  ·exact k
 rw [h2]
 simp
theorem less_not {a b:ByteArray} (h:Op.bytesLess a.toList b.toList=true):Op.bytesLess b.toList a.toList=false∧(b.toList==a.toList)=false:=by
 rw [bytes_less] at h ⊢
 have h1:=of_decide_eq_true h
 refine ⟨decide_eq_false fun k=>List.lt_irrefl _ (List.lt_trans h1 k),beq_eq_false_iff_ne.2 fun e=>?_⟩
 rw [ByteArray.toList_eq,ByteArray.toList_eq] at e
 rw [e] at h1
 exact List.lt_irrefl _ h1
theorem less_rev {a b:ByteArray} (h:Op.bytesLess a.toList b.toList=false) (hn:b≠a):Op.bytesLess b.toList a.toList=true:=by
 rw [bytes_less] at h ⊢
 rw [decide_eq_false_iff_not] at h
 rw [decide_eq_true_eq]
 rcases lists_tri a.data.toList b.data.toList with k | k | k
 ·exact absurd k h
 ·exact absurd (ByteArray.ext (Array.ext' k.symm)) hn
 ·exact k
theorem ltI_c {x z:ItR} (hn:z.1=x.1):ltI x z=decide (cmpV (itV z) (itV x)<0):=by
 have h1:Op.bytesLess x.1.toList z.1.toList=false:=by
  rw [bytes_less,hn]
  exact decide_eq_false (List.lt_irrefl _)
 have h2:Op.bytesLess z.1.toList x.1.toList=false:=by
  rw [bytes_less,hn]
  exact decide_eq_false (List.lt_irrefl _)
 unfold ltI cfI cmpS
 rw [h1,h2]
 simp
theorem OwnK.insert4 {w:World} {base g cap:Nat} {zs:List ItR} {z:ItR} (h:OwnK elI w base (.slice (some ⟨g,0,none⟩) (zs.length+1) cap) (zs++[z])) {i:Nat} (hi:i≤zs.length) (n:ItR) :
  OwnK elI (((((w.setCells g ((i+1)*4) (elI.row (zs.drop i))).setCell ⟨g,i*4,none⟩ (.string n.1)).setCell ⟨g,i*4+1,none⟩ (.int .i64 n.2.1)).setCell ⟨g,i*4+2,none⟩ (.int .i64 n.2.2.1)).setCell ⟨g,i*4+3,none⟩ (.int .i64 n.2.2.2)) base (.slice (some ⟨g,0,none⟩) (zs.length+1) cap) (zs.take i++n :: zs.drop i) :=
 h.insert hi n ((i+1)*4) (i*4) rfl rfl
theorem grown4 (w:World) (g o q:Nat) (a:List Value) (n:ItR):w.grownBy (((((w.setCells g o a).setCell ⟨g,q,none⟩ (.string n.1)).setCell ⟨g,q+1,none⟩ (.int .i64 n.2.1)).setCell ⟨g,q+2,none⟩ (.int .i64 n.2.2.1)).setCell ⟨g,q+3,none⟩ (.int .i64 n.2.2.2)) (some g):=grown_two (w:=w) (g:=g) a (itF n) o q
theorem insK_cell {w:World} {base g cap:Nat} {zs:List ItR} {z:ItR} (h:OwnK elI w base (.slice (some ⟨g,0,none⟩) (zs.length+1) cap) (zs++[z])) {i:Nat} (hi:i≤zs.length) {j:Nat} (hj:j<4) :
  ∃ u,(w.setCells g ((i+1)*4) (elI.row (zs.drop i))).cell? ⟨g,i*4+j,none⟩=some u∧(w.setCells g ((i+1)*4) (elI.row (zs.drop i))).frozen? ⟨g,i*4+j,none⟩=false:=by
 obtain ⟨cur,hg,hk,hle,hcm,hcs,hct⟩:=h.cells
 have hs:i*4+j<cur.size:=by
  rw [hcs]
  have:=Nat.mul_le_mul_right 4 hle
  show _<cap*4
  omega
 refine ⟨cur[i*4+j],(World.cell?_setCells_out g _ _ _ ⟨g,i*4+j,none⟩ fun _ _=>.inl (by show i*4+j<(i+1)*4;omega)).trans ((hk.cell _).trans (Array.getElem?_eq_getElem hs)),?_⟩
 rw [World.frozen?_setCells]
 exact hk.frozen _
def it0:ItR:=(⟨#[]⟩,0,0,0)
set_option maxHeartbeats 8000000 in
theorem refItems_any (v:Value) (qs:List LnQ) (w:World) (h:LnsR w 0 v qs) (hl:qs.length≤1000000):Calls Tryz.prog 45 #[v] w (ItsP (qs.map (·.1)) w):=by
 have HO:=hide h.1
 obtain ⟨A,c,rfl,_⟩:=HO.out.len
 clear h
 go_enter Tryz.func45,Tryz.ntmps45
 go_wp2_with fail
 go_loopw [3,9] (fun v3 iv wr=>∃ i:Nat,i≤qs.length∧iv=.int .i64 i∧Hid (OwnK elI wr w.heap.size v3 (itemsF ((qs.map (·.1)).take i)))∧Hid (Below w.heap.size w wr)) (fun _ iv _=>qs.length-(intOf iv).toNat)
 case atStart=>exact ⟨0,Nat.zero_le _,rfl,hide (ownK_nil _ _ _),hide (Below.refl _ _)⟩
 case round =>
  obtain ⟨i,hi,rfl,HOU,HW⟩:=hrel
  by_cases hlt:i<qs.length
  ·have hltz:(i:Int)<(qs.length:Int):=by omega
   obtain ⟨gq,rfl,hrow⟩:=(HO.out.below HW.out).rowAt hlt
   obtain ⟨y0,y1,y2,y3,y4,y5,y6⟩:=row7 rfl rfl hrow hlt
   have hst:=items_step (ls:=qs.map (·.1)) (i:=i) (by simpa using hlt)
   rw [List.getElem_map] at hst
   clear hrow
   generalize qs[i]=q at y0 y1 y2 y3 y4 y5 y6 hst
   obtain ⟨x,Aq,nq,cq⟩:=q
   simp only [] at y0 y1 y2 y3 y4 y5 y6 hst
   by_cases hk:x.k=1
   ·have hk0:(x.k==1)=true:=by rw [hk];rfl
    have hk1:(!(x.k==1))=false:=by rw [hk];rfl
    have HST:=Lib.hid (hst.1 hk)
    have hal:=(Below.refl wr.heap.size wr).alloc (Nat.le_refl _) (.cells #[.int .i64 x.k,.string x.name,.int .i64 (x.ver 0),.int .i64 (x.ver 1),.int .i64 (x.ver 2),.string x.other,.slice Aq nq cq] 34)
    have HK:=hide (Blk.new wr 34 #[.int .i64 x.k,.string x.name,.int .i64 (x.ver 0),.int .i64 (x.ver 1),.int .i64 (x.ver 2),.string x.other,.slice Aq nq cq])
    have HO0:=hide (HOU.out.below hal)
    have HB0:=hide (HW.out.trans (hal.mono HW.out.size))
    have hzl:(itemsF ((qs.map (·.1)).take i)).length≤1000000:=Nat.le_trans (itemsF_len _) (by simp;omega)
    have hri:=itemsF_rise ((qs.map (·.1)).take i)
    generalize itemsF ((qs.map (·.1)).take i)=zs at HO0 HST hzl hri HOU
    obtain ⟨A3,c3,rfl,_⟩:=HO0.out.len
    have HRI:=Lib.hid hri
    clear hal hst hri HOU hk
    go_wp2_with fail
    generalize World.alloc _ (.cells #[.int .i64 x.k,.string x.name,.int .i64 (x.ver 0),.int .i64 (x.ver 1),.int .i64 (x.ver 2),.string x.other,.slice Aq nq cq] 34)=wa at HK HO0 HB0 ⊢
    clear HW
    generalize wr.heap.size=bx at HK ⊢
    go_loopw [6] (fun v6 w3=>∃ i3:Nat,i3≤zs.length∧v6=.int .i64 i3∧Hid (Below wa.heap.size wa w3)∧Hid (∀ j (hj:j<zs.length),i3≤j→ltI (itL x) zs[j]=true)) (fun v6 _=>(intOf v6).toNat)
    case atStart=>exact ⟨zs.length,Nat.le_refl _,rfl,hide (Below.refl _ _),hide (fun j hj h=>absurd h (by omega))⟩
    case round =>
     obtain ⟨i3,hi3,rfl,HW3,HGT⟩:=hrel
     have k0:=(HK.out.below HW3.out HK.out.lt).cell 0
     have k1:=(HK.out.below HW3.out HK.out.lt).cell 1
     have k2:=(HK.out.below HW3.out HK.out.lt).cell 2
     have k3:=(HK.out.below HW3.out HK.out.lt).cell 3
     have k4:=(HK.out.below HW3.out HK.out.lt).cell 4
     go_upto_region 7 with fail
     go_cut [53] from 18 to 55 (fun s53 wc=>s53=.bool (goB (itL x) zs i3)∧Hid (Below wa.heap.size wa wc))
     case first=>as_aux_lemma =>
      rcases Nat.eq_zero_or_pos i3 with h0 | h0
      ·subst h0
       go_wp2_with fail
       go_quiet (fail)
       go_wp2_with fail
       go_meet
       case rel=>exact ⟨rfl,hide (below_drewN HW3.out _)⟩
      ·obtain ⟨m,rfl⟩:∃ m,i3=m+1:=⟨i3-1,by omega⟩
       have hmz:((m+1:Nat):Int) > 0:=by omega
       have hm:m<zs.length:=by omega
       have hgo:=goB_at (x:=itL x) hm
       obtain ⟨g3,hA3,hr3⟩:=(HO0.out.below HW3.out).rowAt hm
       subst hA3
       obtain ⟨z0,z1,z2,z3⟩:=row4 rfl rfl hr3 hm
       have lg3:=hr3.lt
       have lbx:=(HK.out.below HW3.out HK.out.lt).lt
       clear hr3 HGT
       generalize zs[m]=z at z0 z1 z2 z3 hgo
       obtain ⟨zn,za,zb,zc⟩:=z
       simp only [] at z0 z1 z2 z3
       have a1:=fun c:Calm wr=>(c.cell (i:=1) lbx).trans k1
       have a2:=fun c:Calm wr=>(c.cell (i:=2) lbx).trans k2
       have a3:=fun c:Calm wr=>(c.cell (i:=3) lbx).trans k3
       have a4:=fun c:Calm wr=>(c.cell (i:=4) lbx).trans k4
       have b0:=fun c:Calm wr=>(c.cell (i:=m*4) lg3).trans z0
       have b1:=fun c:Calm wr=>(c.cell (i:=m*4+1) lg3).trans z1
       have b2:=fun c:Calm wr=>(c.cell (i:=m*4+2) lg3).trans z2
       have b3:=fun c:Calm wr=>(c.cell (i:=m*4+3) lg3).trans z3
       by_cases hb:Op.bytesLess x.name.toList zn.toList=true
       ·have HGO:=Lib.hid (hgo.trans (ltI_a (x:=itL x) (z:=(zn,za,zb,zc)) hb))
        obtain ⟨hL,hne⟩:=less_not hb
        clear hgo hb
        go_wp2_with fail
        refine wp_region_calm (by kernel_rfl) (by kernel_rfl) ?_
        repeat (go_big_quiet_step (fail))
        refine wpQuiet_nil ?_
        rintro _ ⟨cw,rfl⟩
        have HX:=hide (HW3.out.trans (cw.bel.mono HW3.out.size))
        go_wp2_with fail
        go_meet
        case rel=>exact ⟨by rw [HGO.out],HX⟩
       ·have hb':Op.bytesLess x.name.toList zn.toList=false:=by simpa using hb
        by_cases hn:zn=x.name
        ·have HGO:=Lib.hid (hgo.trans (ltI_c (x:=itL x) (z:=(zn,za,zb,zc)) hn))
         have hne:(zn.toList==x.name.toList)=true:=by rw [hn];exact beq_self_eq_true _
         have HVC:=hide (fun c:Calm wr=>refVerCmp_any (itV (zn,za,zb,zc)) (itV (itL x)) c.val)
         unfold CmpB verArr at HVC
         generalize cmpV (itV (zn,za,zb,zc)) (itV (itL x))=cv at HVC HGO
         clear hgo hn hb
         go_wp2_with fail
         refine wp_region_calm (by kernel_rfl) (by kernel_rfl) ?_
         repeat (go_big_quiet_step (fail))
         go_big_quiet_want
         go_big_quiet_op
         go_big_quiet_call ((go_at_call 95;refine (HVC.out _).mono ?_;rintro e w2 ⟨rfl,hb0⟩;exact ⟨rfl,Calm.on _ hb0⟩))
         repeat (go_big_quiet_step (fail))
         refine wpQuiet_nil ?_
         rintro _ ⟨cw,rfl⟩
         have HX:=hide (HW3.out.trans (cw.bel.mono HW3.out.size))
         go_wp2_with fail
         go_meet
         case rel=>exact ⟨by rw [HGO.out],HX⟩
        ·have HGO:=Lib.hid (hgo.trans (ltI_b (x:=itL x) (z:=(zn,za,zb,zc)) hb' hn))
         have hne:(zn.toList==x.name.toList)=false:=beq_eq_false_iff_ne.2 fun e=>hn (by
          rw [ByteArray.toList_eq,ByteArray.toList_eq] at e
          exact ByteArray.ext (Array.ext' e))
         have hL:=less_rev hb' hn
         clear hgo hn hb hb'
         go_wp2_with fail
         refine wp_region_calm (by kernel_rfl) (by kernel_rfl) ?_
         repeat (go_big_quiet_step (fail))
         refine wpQuiet_nil ?_
         rintro _ ⟨cw,rfl⟩
         have HX:=hide (HW3.out.trans (cw.bel.mono HW3.out.size))
         go_wp2_with fail
         go_meet
         case rel=>exact ⟨by rw [HGO.out],HX⟩
     case rest=>as_aux_lemma =>
      obtain ⟨rfl,HWC⟩:=hcut
      clear HW3 k0 k1 k2 k3 k4
      cases hg:goB (itL x) zs i3 with
      | true =>
       obtain ⟨m,rfl⟩:∃ m,i3=m+1:=⟨i3-1,by
        cases i3 with
        | zero=>cases hg
        | succ n=>omega⟩
       rw [goB_at (show m<zs.length by omega)] at hg
       have HG2:=hide (show ∀ j (hj:j<zs.length),m≤j→ltI (itL x) zs[j]=true from fun j hj h2=>by
        rcases Nat.lt_or_ge m j with h3 | h3
        ·exact HGT.out j hj h3
        ·obtain rfl:j=m:=by omega
         exact hg)
       clear hg HGT
       go_wp2_with fail
       go_round
       case rel=>exact ⟨m,by omega,by go_num,HWC,HG2⟩
       case measure=>simp [intOf]
      | false =>
       have HINS:=Lib.hid (insT_at HRI.out hi3 (fun j hj h2=>HGT.out j hj h2) (show i3=0∨∃ hj:i3-1<zs.length,ltI (itL x) zs[i3-1]=false by
        cases i3 with
        | zero=>exact .inl rfl
        | succ n =>
         rw [goB_at (show n<zs.length by omega)] at hg
         exact .inr ⟨by omega,hg⟩))
       have hal2:=(Below.refl wc.heap.size wc).alloc (Nat.le_refl _) (.cells #[.string ⟨#[]⟩,.int .i64 0,.int .i64 0,.int .i64 0] 162)
       have hwa:=HWC.out.trans (hal2.mono HWC.out.size)
       have HO3:=hide (HO0.out.below hwa)
       have HK3:=hide (Blk.new wc 162 #[.string ⟨#[]⟩,.int .i64 0,.int .i64 0,.int .i64 0])
       have HKX:=hide (HK.out.below hwa HK.out.lt)
       have HB3:=hide (HB0.out.trans (hwa.mono HB0.out.size))
       have HSZ:=Lib.hid (show w.heap.size≤(wc.alloc (.cells #[.string ⟨#[]⟩,.int .i64 0,.int .i64 0,.int .i64 0] 162)).heap.size from HB3.out.size)
       clear hg HGT hal2 hwa
       go_wp2_with (at_builtin;refine appK1 elI _ itemIInfo rfl (by decide) rfl _ _ _ rfl w.heap.size Tryz.underlying109 _ zs rfl HO3.out wc.heap.size 1 it0 rfl HK3.out (by omega) HSZ.out ?_;intro v9 w9 ho9 hg9 hor9;have HB9:=hide (HB3.out.grown hg9 HB3.out.size (fun k hk=>(HO3.out.lt k hk).1));have HKX9:=hide (show Blk w9 bx 34 _ from (hg9.block bx HKX.out.lt (fun e=>HO3.out.ne_blk HKX.out (by decide) e.symm)).trans HKX.out);clear hg9 hor9;obtain ⟨g9,c9,rfl,hb9,hcap9,hm9,hr9⟩:=ho9.form.resolve_left (fun h0=>by simp at h0);rw [List.length_append,List.length_singleton] at ho9 hcap9 ⊢;have HO9:=hide ho9;clear ho9 hr9)
       have HO9':=hide (HO9.out.below (Below.refl _ _).drew)
       have hcp:=fun ty=>copyK_at HO9'.out hi3 (zs.length-i3) (zs.length+1-i3) (c9-(i3+1)) (c9-i3) rfl rfl 109 ty (by kernel_rfl) (by kernel_rfl) ((i3+1)*4) (i3*4) rfl rfl
       have hw1:(i3:Int)+1≤(zs.length:Int)+1:=by omega
       have hw2:(i3:Int)≤(zs.length:Int)+1:=by omega
       have hw3:(i3:Int)<(zs.length:Int)+1:=by omega
       have hw4:i3<zs.length+1:=by omega
       go_region
       have HBD:=HB9.out.drew
       have hgx:bx≠g9:=fun e=>HO9'.out.ne_blk HKX9.out.drew (by decide) (congrArg some e.symm)
       obtain ⟨u0,c0,f0⟩:=insK_cell HO9'.out hi3 (j:=0) (by omega)
       obtain ⟨u1,c1,f1⟩:=insK_cell HO9'.out hi3 (j:=1) (by omega)
       obtain ⟨u2,c2,f2⟩:=insK_cell HO9'.out hi3 (j:=2) (by omega)
       obtain ⟨u3,c3',f3⟩:=insK_cell HO9'.out hi3 (j:=3) (by omega)
       have xc:∀ j v,w9.cell? ⟨bx,j,none⟩=some v→(w9.drew.setCells g9 ((i3+1)*4) (elI.row (zs.drop i3))).cell? ⟨bx,j,none⟩=some v:=fun j v h=>(World.cell?_setCells_out g9 _ _ _ ⟨bx,j,none⟩ fun e=>absurd e hgx).trans h
       have x1:=xc 1 _ (HKX9.out.cell 1)
       have x2:=xc 2 _ (HKX9.out.cell 2)
       have x3:=xc 3 _ (HKX9.out.cell 3)
       have x4:=xc 4 _ (HKX9.out.cell 4)
       simp only [Nat.add_zero] at c0 f0
       have HNW:=hide (OwnK.insert4 HO9'.out hi3 (itL x))
       have HNB:=hide (HBD.grown (grown4 w9.drew g9 ((i3+1)*4) (i3*4) (elI.row (zs.drop i3)) (itL x)) HBD.size (fun k e=>by rw [←Option.some.inj e];exact hb9))
       rw [←HINS.out,←HST.out] at HNW
       unfold itL at HNW HNB
       clear HO9 HO9' HB9 HO3 HK3 HKX HKX9 HB3 HSZ hcp HBD xc hgx hb9
       go_wp2_with fail
       go_round
       case rel=>exact ⟨i+1,by omega,by go_num,HNW,HNB⟩
       case measure=>simp [intOf];omega
   ·have hk0:(x.k==1)=false:=beq_eq_false_iff_ne.2 hk
    have hk1:(!(x.k==1))=true:=by rw [hk0];rfl
    have HST:=Lib.hid (hst.2 hk)
    have hal:=(Below.refl wr.heap.size wr).alloc (Nat.le_refl _) (.cells #[.int .i64 x.k,.string x.name,.int .i64 (x.ver 0),.int .i64 (x.ver 1),.int .i64 (x.ver 2),.string x.other,.slice Aq nq cq] 34)
    have HO0:=hide (HOU.out.below hal)
    have HB0:=hide (HW.out.trans (hal.mono HW.out.size))
    rw [←HST.out] at HO0
    clear hal hst hk HOU HW
    go_wp2_with fail
    go_round
    case rel=>exact ⟨i+1,by omega,by go_num,HO0,HB0⟩
    case measure=>simp [intOf];omega
  ·have hltz:¬(i:Int)<(qs.length:Int):=by omega
   have hfin:=HOU.out
   rw [List.take_of_length_le (by simp;omega)] at hfin
   have HV:=hide hfin
   clear hfin
   go_wp2_with fail
   exact bodyPost_ret (v:=u3) (by simp [results,Tryz.results45,go_sem]) rfl ⟨u3,rfl,HV.out,HW.out⟩
end Go.Proofs.YtojgbcmhdnappaaGreatDoor
