/-
  A part of the proof: NatD, LawOfs. Conditions: none.
-/
import Derived.Test.YtojgbcmhdnappaaGreatDoorInNatC
import Derived.BigRegion
import Derived.Deep.LoopGhost
import Derived.Test.YtojgbcmhdnappaaGreatDoorInPcs
import Derived.Test.YtojgbcmhdnappaaGreatDoorInAt
namespace Go.Proofs.YtojgbcmhdnappaaGreatDoor
open Go.RowKit
def byteV (d:Nat):Value:=.int .u8 ((48+d:Nat):Int)
def swapF (l:List Nat) (m k p:Nat):Nat:=if p<k∨m-k≤p then l.getD (m-1-p) 0 else l.getD p 0
structure RevI (w:World) (g:Nat) (l:List Nat) (m k:Nat) (cap:Nat) (wr:World):Prop where
 gr:w.grownBy wr (some g)
 mem:∃ cur:Array Value,Blk wr g 5 cur∧cur.size=cap∧∀ p,p<m→cur[p]?=some (byteV (swapF l m k p))
def RevPost (w:World) (g:Nat) (l:List Nat) (m cap:Nat) (e:Ending) (w':World):Prop :=
 e=.returned (.tuple #[])∧w.grownBy w' (some g)∧∃ cur:Array Value,Blk w' g 5 cur∧cur.size=cap∧∀ p,p<m→cur[p]?=some (byteV (l.getD (m-1-p) 0))
set_option maxHeartbeats 4000000 in
theorem reverse_any (g m cap:Nat) (l:List Nat) (cur:Array Value) (w:World) (hb:Blk w g 5 cur) (hs:cur.size=cap) (hm:m≤cap) (hm1:m≤100000000) (hc:∀ p,p<m→cur[p]?=some (byteV (l.getD p 0))) :
  Calls Tryz.prog 63 #[.slice (some ⟨g,0,none⟩) m cap] w (RevPost w g l m cap):=by
 have HS:=hide (show RevI w g l m 0 cap w from ⟨World.grownBy.refl w _,cur,hb,hs,fun p hp=>by unfold swapF;rw [if_neg (by omega)];exact hc p hp⟩)
 clear hb hc hs
 go_enter Tryz.func63,Tryz.ntmps63
 go_wp2
 go_loopw [2,3] (fun iv jv wr=>∃ k:Nat,k≤m∧iv=.int .i64 k∧jv=.int .i64 ((m:Int)-1-k)∧Hid (RevI w g l m k cap wr)) (fun iv _ _=>m-(intOf iv).toNat)
 case atStart=>exact ⟨0,Nat.zero_le _,rfl,by simp,HS⟩
 case round =>
  clear HS
  obtain ⟨k,hk,rfl,rfl,hR⟩:=hrel
  by_cases hlt:(k:Int)<(m:Int)-1-k
  ·obtain ⟨j,hj⟩:∃ j:Nat,j=m-1-k:=⟨_,rfl⟩
   have hji:((m:Int)-1-k)=(j:Int):=by omega
   rw [hji] at hlt ⊢
   have hkj:k<j:=by omega
   have hjm:j<m:=by omega
   obtain ⟨cur,hbk,hsz,hcl⟩:=hR.out.mem
   have HJ:=Lib.hid hj
   have hkI:(k:Int)<(m:Int):=by omega
   have hjI:(j:Int)<(m:Int):=by omega
   have hk0:(0:Int)≤(k:Int):=by omega
   have hj0:(0:Int)≤(j:Int):=by omega
   have c1:wr.cell? ⟨g,k,none⟩=some (byteV (l.getD k 0)):=by
    rw [hbk.cell k,hcl k (by omega)];unfold swapF;rw [if_neg (by omega)]
   have c2:wr.cell? ⟨g,j,none⟩=some (byteV (l.getD j 0)):=by
    rw [hbk.cell j,hcl j (by omega)];unfold swapF;rw [if_neg (by omega)]
   have f1:=hbk.frozen k
   have f2:=hbk.frozen j
   have hne:j≠k:=by omega
   have hne2:k≠j:=by omega
   have HNX:=hide (show RevI w g l m (k+1) cap ((wr.setCell ⟨g,k,none⟩ (byteV (l.getD j 0))).setCell ⟨g,j,none⟩ (byteV (l.getD k 0))) from by
    refine ⟨only_setCell (only_setCell hR.out.gr (.inl rfl) _) (.inl rfl) _,_,(hbk.set_ k _).set_ j _,by simp [hsz],fun p hp=>?_⟩
    rw [Array.getElem?_setIfInBounds,Array.getElem?_setIfInBounds]
    unfold swapF
    have hp2:=hcl p hp
    unfold swapF at hp2
    by_cases h1:j=p
    ·subst h1
     rw [if_pos rfl,if_pos (by simp [hsz];omega),if_pos (by omega),show m-1-j=k by omega]
    ·rw [if_neg h1]
     by_cases h2:k=p
     ·subst h2
      rw [if_pos rfl,if_pos (by omega),if_pos (by omega),←hj]
     ·rw [if_neg h2,hp2]
      by_cases h3:p<k∨m-k≤p
      ·rw [if_pos h3,if_pos (by omega)]
      ·rw [if_neg h3,if_neg (by omega)])
   have HGR:=hide hR.out.gr
   have HBK:=hide hbk
   clear hcl hR hbk hsz hj hji
   unfold byteV at c1 c2 HNX
   generalize l.getD k 0=x at c1 HNX
   generalize l.getD j 0=y at c2 HNX
   go_wp2
   go_region
   all_goals
    go_wp2
    refine ⟨⟨k+1,by omega,by go_num,by congr 1;have:=HJ.out;omega,?_⟩,by simp [intOf];omega⟩
    rw [Int.natCast_add 48 x,Int.natCast_add 48 y] at HNX
    obtain ⟨cu,q1,q2,q3⟩:=HNX.out.mem
    exact hide ⟨only_drew HNX.out.gr,cu,q1.drew,q2,q3⟩
  ·have hge:¬((k:Int)<(m:Int)-1-k):=hlt
   go_wp2
   (try simp only [Exit.inBlock,Exit.then]);refine bodyPost_ret (results_none rfl _ _ _) rfl ?_
   obtain ⟨cur,hbk,hsz,hcl⟩:=hR.out.mem
   refine ⟨rfl,hR.out.gr,cur,hbk,hsz,fun p hp=>?_⟩
   rw [hcl p hp]
   unfold swapF
   by_cases h3:p<k∨m-k≤p
   ·rw [if_pos h3]
   ·rw [if_neg h3,show m-1-p=p by omega]
end Go.Proofs.YtojgbcmhdnappaaGreatDoor
namespace Go.Proofs.YtojgbcmhdnappaaGreatDoor
open Go.RowKit
def OwnB (w:World) (base:Nat) (v:Value) (ds:List Nat):Prop:=w.ownsRow base 5 1 v ds.length (ds.map byteV)
theorem byteInfo:(Tryz.prog.info? 5).map (fun i=>(i.zero,i.size,i.bytes))=some (some (.int .u8 0),1,1):=by kernel_rfl
theorem one_newsB (w:World) (u:Value) (g:Nat) (hc:w.cell? ⟨g,0,none⟩=some u):Reads w (g+1) 1 (some ⟨g,0,none⟩) 1 [u]:=by
 refine ⟨rfl,fun _=>⟨_,rfl,Nat.lt_succ_self _,fun j x hx=>?_⟩⟩
 match j,hx with
 | 0,hx=>simp at hx;subst hx;simpa [Addr.add] using hc
theorem appB (w:World) {ops:Array Oper} {rest:List Oper} {o:Oper} {a:Act} {Q:Exit→Act→World→Prop} (hgd:o.guard=none) (s x:Operand) (t:TypeId)
  (ho:o.op=.call { callee:=.builtin .append,args:=#[s,x],argTypes:=#[t,t] }) (base:Nat) (ht:Tryz.prog.underlying t=some (.slice 5))
  (v:Value) (ds:List Nat) (hs:a.eval s=v) (hown:OwnB w base v ds) (g c:Nat) (hx:a.eval x=.slice (some ⟨g,0,none⟩) 1 c) (d:Nat) (hc:w.cell? ⟨g,0,none⟩=some (byteV d))
  (hl:ds.length≤100000000) (hbase:base≤w.heap.size)
  (h:∀ v' w',OwnB w' base v' (ds++[d])→w.grownBy w' v.ownBlock→(v'.ownBlock=v.ownBlock∨v'.ownBlock=some w.heap.size)→wpList Tryz.prog ops Q rest (a.put o.dst v') w'):wpList Tryz.prog ops Q (o :: rest) a w:=by
 obtain ⟨i0,hi,hz0,hz1,hz2⟩:=info_parts byteInfo
 refine wpList_append_any w hgd s x t ho base 5 i0 (.int .u8 0) 1 1 ht hi hz0 hz1 hz2 rfl (by decide) v ds.length _ hs hown (g+1) (some ⟨g,0,none⟩) 1 c [byteV d] hx (one_newsB w _ g hc) (by simp;rfl) (by simp only [maxLen];omega) (by omega) hbase ?_
 intro v' w' ho' hg' hor
 refine h v' w' ?_ hg' hor
 unfold OwnB
 rw [List.length_append,List.length_singleton,List.map_append]
 exact ho'
theorem OwnB.below {w w':World} {base:Nat} {v:Value} {ds:List Nat} (h:OwnB w base v ds) (hb:Below w.heap.size w w'):OwnB w' base v ds :=
 World.ownsRow.kept h (row:=none) ⟨hb.os,hb.tape,hb.output,hb.size,fun i hi _=>hb.block i hi⟩ (by cases v.ownBlock <;> simp)
theorem field_nat (A:Option Addr) (m n:Nat) (w:World):(Instr.field 56 (.agg #[.slice A m n]) 0).run Tryz.prog w=.ok (.slice A m n) w:=by kernel_rfl
structure TxI (w0:World) (N n0 T g:Nat) (vo vl:Value) (w:World):Prop where
 bel:Below w0.heap.size w0 w
 mem:∃ (A:Option Addr) (n c t:Nat) (xs ds:List Nat),vl=.slice A n c∧n≤c∧n≤n0∧Lim w w.heap.size A n xs∧TrimL xs∧OwnB w w0.heap.size vo ds∧(∀ d∈ds,d<10)∧ds.length=9*t∧N=valL xs*10 ^ (9*t)+decL ds∧valL xs≤g∧t≤T
structure TyI (w1:World) (base g:Nat) (qs ds:List Nat) (R i:Nat) (vo:Value) (w:World):Prop where
 bel:Below base w1 w
 blk:Blk w g 142 (limbArr qs)
 own:OwnB w base vo (ds++digs i R)
def TextPost (w:World) (N:Nat) (e:Ending) (w':World):Prop:=e=.returned (.string ⟨(Lib.decDigits N).toArray⟩)∧Below w.heap.size w w'
set_option maxRecDepth 100000 in
set_option maxHeartbeats 4000000 in
theorem text_any (v:Value) (N T n0:Nat) (w:World) (h:NatV w v N) (hT:N<10 ^ (9*T)) (hT2:T≤1000000) (hn0:∀ A n c,v=.agg #[.slice A n c]→n≤n0) (hn1:n0≤1000000):Calls Tryz.prog 17 #[v] w (TextPost w N):=by
 obtain ⟨A,n,c,xs,rfl,hnc,hl,ht,hv⟩:=h.is
 have hnn:=hn0 A n c rfl
 have HBX:=hide ((Below.refl w.heap.size w).alloc (Nat.le_refl _) (.cells #[.slice A n c] 56))
 have HBK:=hide (Blk.new w 56 #[.slice A n c])
 have HZ:=hide (zero_any (.agg #[.slice A n c]) N _ (h.below HBX.out))
 have HI:=hide hl
 have HTR:=hide ht
 have HV:=Lib.hid hv
 clear h hl ht hv hn0
 by_cases h0:N=0
 ·rw [decide_eq_true h0] at HZ
  have HD:=Lib.hid (show Lib.decDigits N=[48] by rw [h0,Lib.decDigits];rfl)
  go_enter Tryz.func17,Tryz.ntmps17
  go_wp2_with fail
  refine (HZ.out).mono ?_
  rintro e w1 ⟨rfl,hb1⟩
  go_wp2
  go_ret
  exact ⟨by rw [HD.out];rfl,HBX.out.trans (hb1.mono HBX.out.size)⟩
 ·rw [decide_eq_false h0] at HZ
  have a0:=HBK.out.cell 0
  go_enter Tryz.func17,Tryz.ntmps17
  go_wp2_with fail
  refine (HZ.out).mono ?_
  rintro e w1 ⟨rfl,hb1⟩
  have b0:=(HBK.out.below hb1 HBK.out.lt).cell 0
  have HB1:=hide (HBX.out.trans (hb1.mono HBX.out.size))
  clear hb1 a0
  obtain ⟨G,HG⟩:∃ G,Hid (N=G):=⟨_,Lib.hid rfl⟩
  have HST:=hide (show TxI w N n0 T G (.slice none 0 0) (.slice A n c) w1 from ⟨HB1.out,A,n,c,0,xs,[],rfl,hnc,hnn,(HI.out.below HB1.out).more HB1.out.size,HTR.out,World.ownsRow_nil _ _ _ _,by simp,rfl,by rw [HV.out];simp [decL],(by rw [HV.out,HG.out];exact Nat.le_refl _),Nat.zero_le _⟩)
  go_wp2
  go_loopg [3,4] G (fun gg vo vl wr=>Hid (TxI w N n0 T gg vo vl wr))
  case atStart=>exact HST
  case round =>
   clear HST HI HTR HV b0 HBX HBK HB1
   obtain ⟨A,n,c,t,xs,ds,rfl,hnc,hnn,hl,ht,hob,hd10,hdl,hN,hgk,htT⟩:=hrel.out.mem
   have HB:=hide hrel.out.bel
   have HI:=hide hl
   have HTR:=hide ht
   have HOB:=hide hob
   have HD10:=hide hd10
   have HDL:=Lib.hid hdl
   have HN:=Lib.hid hN
   clear hl ht hob hd10 hdl hN hrel
   rcases Nat.eq_zero_or_pos n with hn | hn
   ·subst hn
    obtain rfl:xs=[]:=List.eq_nil_of_length_eq_zero HI.out.1
    have HNE:=Lib.hid (show decL ds=N by have:=HN.out;simp [valL] at this;exact this.symm)
    have hob:=HOB.out
    have hlen:ds.length≤100000000:=by have:=HDL.out;omega
    rcases hob.2 with ⟨rfl,h9⟩ | ⟨g,cap,cur,rfl,hg,hgc,hle,hcm,hcs,hct⟩
    ·exact absurd (show N=0 by rw [←HNE.out,List.eq_nil_of_length_eq_zero h9];rfl) h0
    ·have HBL:=hide (show Blk wr g 5 cur from hgc)
     have HCL:=hide (fun p (hp:p<ds.length)=>show cur[p]?=some (byteV (ds.getD p 0)) from by
      have h1:(cur.toList.take (ds.length*1))[p]?=some (byteV (ds.getD p 0)):=by
       rw [hct,List.getElem?_map,List.getElem?_eq_getElem hp,List.getD_eq_getElem?_getD,List.getElem?_eq_getElem hp]
       rfl
      rw [List.getElem?_take_of_lt (by omega)] at h1
      simpa using h1)
     obtain ⟨L,HLL⟩:∃ L,Hid (ds.length=L):=⟨_,Lib.hid rfl⟩
     rw [HLL.out] at HCL hlen hle ⊢
     clear hob hgc hct HOB
     go_wp2
     go_loopw [3] (fun vo wi=>∃ m:Nat,m≤L∧vo=.slice (some ⟨g,0,none⟩) m cap∧wi=wr∧Hid (∀ i,m≤i→i<ds.length→ds.getD i 0=0)) (fun vo _=>lenV vo)
     case atStart=>exact ⟨L,Nat.le_refl _,rfl,rfl,hide fun i h1 h2=>by have:=HLL.out;omega⟩
     case round =>
      obtain ⟨m,hm,rfl,e,hZ⟩:=hrel
      subst e
      rcases Nat.eq_zero_or_pos m with hm0 | hm0
      ·subst hm0
       exact absurd (show N=0 by rw [←HNE.out,←decL_take hZ.out];rfl) h0
      ·obtain ⟨k,rfl⟩:∃ k,m=k+1:=⟨m-1,by omega⟩
       have hc:=(HBL.out.cell k).trans (HCL.out k (by omega))
       by_cases hz:ds.getD k 0=0
       ·rw [hz] at hc
        have hc2:wr.cell? ⟨g,k,none⟩=some (.int .u8 48):=hc
        have HZ2:=hide (show ∀ i,k≤i→i<ds.length→ds.getD i 0=0 from fun i h1 h2=>by
         rcases Nat.lt_or_ge k i with h3 | h3
         ·exact hZ.out i h3 h2
         ·obtain rfl:i=k:=by omega
          exact hz)
        clear hc hz
        go_wp2
        go_roundw
        case rel=>exact ⟨k,by omega,by simp,by first | rfl | trivial,HZ2⟩
        case measure=>simp [lenV]
       ·have HDT:=Lib.hid (show (((ds.take (k+1)).map fun d=>UInt8.ofNat (48+d)).reverse)=Lib.decDigits N by
         rw [←HNE.out,←decL_take hZ.out]
         refine (digits_text _ (fun d hd=>HD10.out d (List.mem_of_mem_take hd)) (fun e=>?_) ?_).symm
         ·have e2:=congrArg List.length e
          have e3:=HLL.out
          rw [List.length_take,List.length_nil] at e2
          omega
         ·rw [List.length_take,Nat.min_eq_left (by have:=HLL.out;omega),Nat.add_sub_cancel,List.getD_eq_getElem?_getD,List.getElem?_take_of_lt (by omega),←List.getD_eq_getElem?_getD]
          exact hz)
        have HRV:=hide (reverse_any g (k+1) cap ds cur wr HBL.out (by omega) (by omega) (by omega) (fun p hp=>HCL.out p (by omega)))
        unfold byteV at hc
        have hdl:ds.getD k 0<10:=by
         rw [List.getD_eq_getElem?_getD,List.getElem?_eq_getElem (by have:=HLL.out;omega)]
         exact HD10.out _ (List.getElem_mem _)
        have HDX:=hide (fun p (hp:p<k+1)=>show ds.getD p 0<10 from by
         rw [List.getD_eq_getElem?_getD,List.getElem?_eq_getElem (by have:=HLL.out;omega)]
         exact HD10.out _ (List.getElem_mem _))
        generalize hdk:ds.getD k 0=d at hc hz hdl
        have hdb:(((48+d:Nat):Int)==48)=false:=by simp;omega
        have hdb2:((48+(d:Int))==48)=false:=by simp;omega
        clear hdk
        go_wp2_with fail
        refine (HRV.out).mono ?_
        rintro e w5 ⟨rfl,hg5,cu5,hk5,hs5,hc5⟩
        have hcv:=run_convert_bytes_back (P:=Tryz.prog) w5 141 9 5 ⟨g,0,none⟩ cap (Lib.decDigits N) Tryz.underlying141 Tryz.underlying5 Tryz.underlying9 (fun j hj=>by
         have hln:(Lib.decDigits N).length=k+1:=by rw [←HDT.out,List.length_reverse,List.length_map,List.length_take];have:=HLL.out;omega
         have hjk:j<k+1:=by omega
         have e1:((⟨g,0,none⟩:Addr).add j)=⟨g,j,none⟩:=by
          unfold Addr.add
          split
          ·rename_i h9;rw [h9]
          ·simp
         rw [e1,hk5.cell j,hc5 j hjk]
         have hd9:=HDX.out (k+1-1-j) (by omega)
         have e2:(Lib.decDigits N)[j]=UInt8.ofNat (48+ds.getD (k+1-1-j) 0):=by
          have e3:(Lib.decDigits N)[j]?=some (UInt8.ofNat (48+ds.getD (k+1-1-j) 0)):=by
           rw [←HDT.out,List.getElem?_reverse (by rw [List.length_map,List.length_take];have:=HLL.out;omega),List.getElem?_map,List.length_map,List.length_take,Nat.min_eq_left (by have:=HLL.out;omega),List.getElem?_take_of_lt (by omega),List.getElem?_eq_getElem (by have:=HLL.out;omega),List.getD_eq_getElem?_getD,List.getElem?_eq_getElem (by have:=HLL.out;omega)]
           rfl
          rw [List.getElem?_eq_getElem hj] at e3
          exact Option.some.inj e3
         rw [e2]
         unfold byteV
         congr 2
         rw [UInt8.toNat_ofNat']
         omega)
        rw [show (Lib.decDigits N).length=k+1 by rw [←HDT.out,List.length_reverse,List.length_map,List.length_take];have:=HLL.out;omega] at hcv
        have HBF:=hide (HB.out.grown hg5 HB.out.size (fun i hi=>by cases hi;exact hg))
        clear hg5 hk5 hs5 hc5
        go_wp2
        go_ret
        exact ⟨rfl,HBF.out⟩
   ·have hvp:=HTR.out.pos (fun e=>by have:=HI.out.1;rw [e] at this;simp at this;omega)
    obtain ⟨g,rfl⟩:∃ g,gk=g+1:=⟨gk-1,by omega⟩
    have HS:=hide (short_any A n c 1000000000 xs wr HI.out (by omega) (by omega) (by omega))
    obtain ⟨R,HR⟩:∃ R,Hid (valL xs % 1000000000=R):=⟨_,Lib.hid rfl⟩
    unfold ShortPost at HS
    rw [HR.out] at HS
    have hR:R<1000000000:=by rw [←HR.out];exact Nat.mod_lt _ (by omega)
    have hfd:=field_nat
    obtain ⟨gq,HGQ⟩:∃ gq,Hid (wr.heap.size=gq):=⟨_,Lib.hid rfl⟩
    go_wp2_with fail
    refine (HS.out).mono ?_
    rintro e w2 ⟨qs,rfl,hkq,hlq,hxq,hvq,hb2⟩
    have HLQ:=hide (lim_blk hkq hlq (by simp only [maxLen];omega) hxq)
    have HM:=hide (natMade_any (some ⟨wr.heap.size,0,none⟩) n n qs w2 HLQ.out (Nat.le_refl _))
    go_wp2_with fail
    refine (HM.out).mono ?_
    rintro e w3 ⟨m,hm,rfl,htr,hval,hb3⟩
    have HB3:=hide (HB.out.trans ((hb2.trans (hb3.mono hb2.size)).mono HB.out.size))
    have HO3:=hide ((HOB.out.below hb2).below hb3)
    have HK3:=hide (show Blk w3 gq 142 (limbArr qs) by rw [←HGQ.out];exact hkq.below hb3 hkq.lt)
    have HXQ:=hide hxq
    have HLN:=Lib.hid hlq
    have hts:t<T:=(Nat.mul_lt_mul_left (by omega:0<9)).1 ((Nat.pow_lt_pow_iff_right (by omega:1<10)).1 (Nat.lt_of_le_of_lt (show 10 ^ (9*t)≤N by have h1:=Nat.le_mul_of_pos_left (10 ^ (9*t)) hvp;have h2:=HN.out;omega) hT))
    have HVQ:=Lib.hid (hval.trans hvq)
    have HTQ:=hide htr
    have hmn:m≤n:=by rw [←HLQ.out.1];exact hm
    clear hb2 hb3 hkq hlq hxq hvq hm htr hval HM HLQ HS
    go_wp2
    go_loopw [3,6,22] (fun vo rv iv wi=>∃ i:Nat,i≤9∧iv=.int .i64 i∧rv=.int .u32 ((R / 10 ^ i:Nat):Int)∧Hid (TyI w3 w.heap.size gq qs ds R i vo wi)) (fun _ _ iv _=>9-(intOf iv).toNat)
    case atStart=>exact ⟨0,Nat.zero_le _,rfl,by simp,hide ⟨Below.refl _ _ |>.mono HB3.out.size,HK3.out,by rw [digs,List.append_nil];exact HO3.out⟩⟩
    case round =>
     obtain ⟨i,hi,rfl,rfl,hY⟩:=hrel
     by_cases hlt:i<9
     ·obtain ⟨x,HX⟩:∃ x,Hid (R / 10 ^ i=x):=⟨_,Lib.hid rfl⟩
      have hx:x<1000000000:=by rw [←HX.out];exact Nat.lt_of_le_of_lt (Nat.div_le_self _ _) hR
      rw [HX.out]
      have HD:=Lib.hid (show digs (i+1) R=digs i R++[x % 10] by rw [digs_snoc,HX.out])
      have HX2:=Lib.hid (show R / 10 ^ (i+1)=x / 10 by rw [Nat.pow_succ,←Nat.div_div_eq_div_mul,HX.out])
      have HLE:=Lib.hid (show (ds++digs i R).length≤100000000 by rw [List.length_append,digs_len];have:=HDL.out;omega)
      have HOA:=hide (hY.out.own.below ((Below.refl wr.heap.size wr).alloc (Nat.le_refl _) (.cells #[.int .u8 (48+(x:Int) % 10)] 5)))
      have HBA:=hide (hY.out.bel.alloc (Nat.le_trans HB3.out.size hY.out.bel.size) (.cells #[.int .u8 (48+(x:Int) % 10)] 5))
      have HKA:=hide (hY.out.blk.alloc (.cells #[.int .u8 (48+(x:Int) % 10)] 5))
      have HCA:=Lib.hid (show (wr.alloc (.cells #[.int .u8 (48+(x:Int) % 10)] 5)).cell? ⟨wr.heap.size,0,none⟩=some (byteV (x % 10)) by
       have e:(48+(x:Int) % 10)=((48+x % 10:Nat):Int):=by omega
       unfold byteV
       rw [e]
       simp)
      have HSZ:=Lib.hid (Nat.le_trans HB3.out.size HBA.out.size)
      have HLT:=hide (World.ownsRow.lt HOA.out)
      go_wp2_with (at_builtin;refine appB _ rfl _ _ 141 rfl w.heap.size Tryz.underlying141 _ (ds++digs i R) rfl HOA.out wr.heap.size 1 rfl (x % 10) HCA.out HLE.out HSZ.out ?_;intro v9 w9 ho9 hg9 hor9;have HO9:=hide ho9;have HB9:=hide (HBA.out.grown hg9 HSZ.out (fun k hk=>(HLT.out k hk).1));have HK9:=hide (HKA.out.grown hg9 (fun e=>own_blk_ne HOA.out HKA.out (by decide) e.symm));clear ho9 hg9 hor9)
      go_roundw
      case rel=>exact ⟨i+1,by omega,by go_num,by rw [HX2.out];simp,hide ⟨HB9.out,HK9.out,by rw [HD.out,←List.append_assoc];exact HO9.out⟩⟩
      case measure=>simp [intOf];omega
     ·obtain rfl:i=9:=by omega
      have HNX:=hide (show TxI w N n0 T g u3 (.slice (some ⟨gq,0,none⟩) m n) wr from by
       refine ⟨HB3.out.trans hY.out.bel,some ⟨gq,0,none⟩,m,n,t+1,qs.take m,ds++digs 9 R,rfl,hmn,Nat.le_trans hmn hnn,(lim_blk hY.out.blk HLN.out (by simp only [maxLen];omega) HXQ.out).take hmn,HTQ.out,hY.out.own,fun d hd=>?_,by rw [List.length_append,digs_len,HDL.out];omega,?_,?_,hts⟩
       ·rcases List.mem_append.1 hd with hd | hd
        ·exact HD10.out d hd
        ·exact digs_lt 9 R d hd
       ·have h1:=HN.out
        have h2:=Nat.div_add_mod (valL xs) 1000000000
        rw [HR.out,←HVQ.out] at h2
        rw [decL_append,digs_val 9 R (by omega),HDL.out,h1,←h2,show 9*(t+1)=9*t+9 by omega,Nat.pow_add]
        generalize 10 ^ (9*t)=P
        generalize valL (qs.take m)=q
        rw [Nat.add_mul]
        have e1:1000000000*q*P=q*(P*10 ^ 9):=by rw [Nat.mul_comm 1000000000 q,Nat.mul_assoc,Nat.mul_comm 1000000000 P]
        have e2:R*P=P*R:=Nat.mul_comm _ _
        omega
       ·rw [HVQ.out]
        omega)
      rw [HGQ.out]
      go_wp2
      go_roundg g
      case rel=>exact HNX
      case measure=>omega
end Go.Proofs.YtojgbcmhdnappaaGreatDoor
namespace Go.Proofs.YtojgbcmhdnappaaGreatDoor
open Go.RowKit
theorem NatV.two {w:World} {v:Value} {N:Nat} (h:NatV w v N) (hN:N<18446744073709551616):∀ A n c,v=.agg #[.slice A n c]→n≤2:=by
 obtain ⟨A',n',c',xs,rfl,_,hl,ht,hv⟩:=h.is
 intro A n c e
 have e2:n'=n:=by
  injection e with e
  have:=congrArg (fun a=>a[0]?) e
  simp at this
  exact this.2.1
 rw [←e2]
 rcases Nat.lt_or_ge 2 n' with h2 | h2
 ·have:=valL_big ht (by rw [hl.1];exact h2)
  omega
 ·exact h2
theorem text_one (N:Nat):textF [(N:Int)]=Lib.decDigits N:=by
 rw [text_cons,if_pos rfl,List.append_nil,Lib.itoa_nonneg]
theorem one_int (w:World) (z:Int) (hz:I64 z):Ints (w.alloc (.cells #[.int .i64 z] 3)) (w.alloc (.cells #[.int .i64 z] 3)).heap.size (some ⟨w.heap.size,0,none⟩) 1 [z]:=by
 refine ⟨rfl,by simp [maxLen],fun x hx=>by rw [List.mem_singleton.1 hx];exact hz,rfl,fun _=>⟨_,rfl,by simp,fun j u hu=>?_⟩⟩
 match j,hu with
 | 0,hu=>simp at hu;subst hu;simp [Addr.add]
end Go.Proofs.YtojgbcmhdnappaaGreatDoor
