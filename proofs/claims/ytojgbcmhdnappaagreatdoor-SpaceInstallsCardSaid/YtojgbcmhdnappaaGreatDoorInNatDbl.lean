/-
  A part of the proof: NatMul, NatDbl. Conditions: none.
-/
import Derived.Test.YtojgbcmhdnappaaGreatDoorInNatC
import Derived.Deep.RegionWith
import Derived.Lib.MinMax
namespace Go.Proofs.YtojgbcmhdnappaaGreatDoor
open Go.RowKit
theorem gr_bel {B g:Nat} {x y:World} (h:x.grownBy y (some g)) (h1:B≤g) (h2:B≤x.heap.size):Below B x y :=
 ⟨h.os,h.tape,h.output,h.size,fun i hi=>h.block i (Nat.lt_of_lt_of_le hi h2) (fun e=>by cases e;omega)⟩
theorem gr_set {x y:World} {g:Nat} (h:x.grownBy y (some g)) (i:Nat) (u:Value):x.grownBy (y.setCell ⟨g,i,none⟩ u) (some g):=only_setCell h (.inl rfl) u
theorem valL_ge {xs:List Nat} {n:Nat} (hl:xs.length=n+1) (ht:TrimL xs):4294967296 ^ n≤valL xs:=by
 have h1:=valL_succ (l:=xs) (k:=n) (by omega)
 rw [List.take_of_length_le (by omega)] at h1
 rcases ht with e | ht
 ·rw [e] at hl;simp at hl
 ·rw [hl,Nat.add_sub_cancel] at ht
  have:=Nat.le_mul_of_pos_left (4294967296 ^ n) (show 0<xs.getD n 0 by omega)
  omega
theorem NatV.len {w:World} {v:Value} {N k:Nat} (h:NatV w v N) (hN:N<4294967296 ^ k):∃ A n c xs,v=.agg #[.slice A n c]∧n≤c∧Lim w w.heap.size A n xs∧TrimL xs∧valL xs=N∧n≤k:=by
 obtain ⟨A,n,c,xs,e,hc,hl,ht,hv⟩:=h.is
 refine ⟨A,n,c,xs,e,hc,hl,ht,hv,?_⟩
 rcases Nat.lt_or_ge k n with hk | hk
 ·have h1:=valL_ge (n:=n-1) (by have:=hl.1;omega) ht
  have h2:4294967296 ^ k≤4294967296 ^ (n-1):=Nat.pow_le_pow_right (by omega) (by omega)
  omega
 ·exact hk
theorem limbArr_setAt {l:List Nat} {p v:Nat}:(limbArr l).setIfInBounds p (.int .u32 (v:Int))=limbArr (l.set p v):=by
 apply Array.toList_inj.1
 simp [limbArr,List.map_set]
theorem getD_lt {l:List Nat} (h:∀ y∈l,y<4294967296) (p:Nat):l.getD p 0<4294967296:=by
 rcases Nat.lt_or_ge p l.length with hp | hp
 ·rw [List.getD_eq_getElem?_getD,List.getElem?_eq_getElem hp];exact h _ (List.getElem_mem _)
 ·rw [List.getD_eq_getElem?_getD,List.getElem?_eq_none hp];simp
structure NmI (w4:World) (g:Nat) (P:List Nat→Prop) (wr:World):Prop where
 gr:w4.grownBy wr (some g)
 mem:∃ out,Blk wr g 142 (limbArr out)∧P out
theorem run_mk (w:World) (n:Nat) (hn:n≤1000000) (l:Int) (hl:l=n):(Instr.makeSlice 54 (.int .i64 l) (.int .i64 l)).run Tryz.prog w=.ok (.slice (some ⟨w.heap.size,0,none⟩) n n) (w.alloc (.cells (limbArr (List.replicate n 0)) 142)):=by
 subst hl
 obtain ⟨i0,hi,hz0,hz1,hz2⟩:=info_parts limbInfo
 have hmk:=run_make (P:=Tryz.prog) w 54 142 i0 (.int .u32 0) Tryz.underlying54 hi hz0 .i64 .i64 (n:Int) (n:Int) (by omega) (Int.le_refl _) (by rw [hz2];omega) (by omega)
 rw [hz1,Nat.mul_one,Int.toNat_natCast,show (Value.int .u32 0).cells=#[Value.int .u32 0] from rfl,limbArr_zero] at hmk
 exact hmk
set_option maxRecDepth 100000 in
set_option maxHeartbeats 4000000 in
theorem natMul_any (v1 v2:Value) (N M:Nat) (w:World) (h1:NatV w v1 N) (h2:NatV w v2 M) (hN:N<4294967296 ^ 1000) (hM:M<4294967296 ^ 1000) :
  Calls Tryz.prog 113 #[v1,v2] w (OfPost w (N*M)):=by
 obtain ⟨A,n,c,xs,rfl,_,hl,_,hv,hn⟩:=h1.len hN
 obtain ⟨A2,n2,c2,ys,rfl,_,hl2,_,hv2,hn2⟩:=h2.len hM
 have HI:=hide hl
 have HJ:=hide hl2
 have HXL:=Lib.hid hl.1
 have HYL:=Lib.hid hl2.1
 have HV:=Lib.hid (show N*M=valL xs*valL ys by rw [hv,hv2])
 have hmk:=run_mk (((w.alloc (.cells #[.slice A n c] 56)).alloc (.cells #[.slice A2 n2 c2] 56)).alloc (.cells #[.slice none 0 0] 56)) (n+n2) (by omega) ((n:Int)+(n2:Int)) (by omega)
 clear hl hl2 hv hv2 h1 h2 hN hM
 have k1:=Blk.new w 56 #[.slice A n c]
 have k2:=Blk.new (w.alloc (.cells #[.slice A n c] 56)) 56 #[.slice A2 n2 c2]
 have k3:=Blk.new ((w.alloc (.cells #[.slice A n c] 56)).alloc (.cells #[.slice A2 n2 c2] 56)) 56 #[.slice none 0 0]
 have k4:=Blk.new (((w.alloc (.cells #[.slice A n c] 56)).alloc (.cells #[.slice A2 n2 c2] 56)).alloc (.cells #[.slice none 0 0] 56)) 142 (limbArr (List.replicate (n+n2) 0))
 rw [sizeAl] at k2
 rw [sizeAl,sizeAl] at k3
 rw [sizeAl,sizeAl,sizeAl] at k4
 have K1:=hide (((k1.alloc (.cells #[.slice A2 n2 c2] 56)).alloc (.cells #[.slice none 0 0] 56)).alloc (.cells (limbArr (List.replicate (n+n2) 0)) 142))
 have K2:=hide ((k2.alloc (.cells #[.slice none 0 0] 56)).alloc (.cells (limbArr (List.replicate (n+n2) 0)) 142))
 have K3:=hide (k3.alloc (.cells (limbArr (List.replicate (n+n2) 0)) 142))
 have K4:=hide k4
 have HBW:=hide (((((Below.refl w.heap.size w).alloc (Nat.le_refl _) (.cells #[.slice A n c] 56)).alloc (by simp) (.cells #[.slice A2 n2 c2] 56)).alloc (by simp;omega) (.cells #[.slice none 0 0] 56)).alloc (by simp;omega) (.cells (limbArr (List.replicate (n+n2) 0)) 142))
 rw [sizeAl,sizeAl,sizeAl] at hmk
 clear k1 k2 k3 k4
 go_enter Tryz.func113,Tryz.ntmps113
 go_wp2
 generalize ((((w.alloc (.cells #[.slice A n c] 56)).alloc (.cells #[.slice A2 n2 c2] 56)).alloc (.cells #[.slice none 0 0] 56)).alloc (.cells (limbArr (List.replicate (n+n2) 0)) 142))=w4 at K1 K2 K3 K4 HBW ⊢
 clear hmk
 obtain ⟨g,HGG⟩:∃ g,Hid (w.heap.size+1+1+1=g):=⟨_,Lib.hid rfl⟩
 rw [HGG.out] at K4
 simp only [HGG.out]
 have hgs:w.heap.size+2<g:=by rw [←HGG.out];omega
 have HST:=hide (show NmI w4 g (MulO xs ys 0) w4 from ⟨World.grownBy.refl w4 _,_,K4.out,by have:=MulO.start xs ys;rw [HXL.out,HYL.out] at this;exact this⟩)
 go_loopw [23] (fun iv wr=>∃ i:Nat,i≤n∧iv=.int .i64 i∧Hid (NmI w4 g (MulO xs ys i) wr)) (fun iv _=>n-(intOf iv).toNat)
 case atStart=>exact ⟨0,Nat.zero_le _,rfl,HST⟩
 case round =>
  clear HST
  obtain ⟨i,hi,rfl,hR⟩:=hrel
  obtain ⟨out,hbk,hO⟩:=hR.out.mem
  have HGR:=hide hR.out.gr
  have HBK:=hide hbk
  have HO:=hide hO
  clear hR hbk hO
  have HBR:=hide (HBW.out.trans (gr_bel HGR.out (by omega) HBW.out.size))
  have HQ2:=hide (K2.out.grown HGR.out (fun e=>by cases e;omega))
  have HQ3:=hide (K3.out.grown HGR.out (fun e=>by cases e;omega))
  by_cases hlt:i<n
  ·obtain ⟨ad,rfl,hb,hcell,hx⟩:=HI.out.at_ hlt
   have hc2:=(HBR.out.cell (by rw [block_of_add];exact hb)).trans hcell
   clear hcell
   generalize hgx:xs.getD i 0=x at hc2 hx
   have HX:=Lib.hid hgx
   clear hgx
   have b0:=HQ2.out.cell 0
   go_wp2
   go_loopw [8,31] (fun cv kv wi=>∃ (k cc:Nat),k≤n2∧kv=.int .i64 k∧cv=.int .u64 (cc:Int)∧Hid (NmI w4 g (fun out'=>MulI ys out x i k out' cc) wi)) (fun _ kv _=>n2-(intOf kv).toNat)
   case atStart=>exact ⟨0,0,Nat.zero_le _,rfl,rfl,hide ⟨HGR.out,out,HBK.out,HO.out.inner x⟩⟩
   case round =>
    clear HBR HQ2 HQ3 hc2 b0 HGR HBK
    obtain ⟨k,cc,hk,rfl,rfl,hR⟩:=hrel
    obtain ⟨out',hbk,hI⟩:=hR.out.mem
    have HGR:=hide hR.out.gr
    have HBK:=hide hbk
    have HMI:=hide hI
    clear hR hbk hI
    have HBR:=hide (HBW.out.trans (gr_bel HGR.out (by omega) HBW.out.size))
    have HOL:=Lib.hid (show out'.length=n+n2 by rw [HMI.out.len,HO.out.len,HXL.out,HYL.out])
    have hcc:=HMI.out.cl
    by_cases hkl:k<n2
    ·obtain ⟨ad2,rfl,hb2,hcell2,hy⟩:=HJ.out.at_ hkl
     have hc3:=(HBR.out.cell (by rw [block_of_add];exact hb2)).trans hcell2
     have ho:=getD_lt HMI.out.lt (i+k)
     have o0:=(HBK.out.cell (i+k)).trans (limbArr_at (by rw [HOL.out];omega))
     have o1:=HBK.out.frozen (i+k)
     have HNX:=hide (HMI.out.next (t:=x*ys.getD k 0+cc+out'.getD (i+k) 0) (by rw [HYL.out];exact hkl) (by rw [HOL.out];omega) hx hy rfl)
     clear hcell2
     generalize ys.getD k 0=y at hc3 hy HNX
     generalize out'.getD (i+k) 0=o at ho o0 HNX
     have hpr:=limb_prod hx hy
     have hxy0:(0:Int)≤(x:Int)*(y:Int):=Int.mul_nonneg (by omega) (by omega)
     have hxy1:(x:Int)*(y:Int)≤18446744065119617025:=by
      have:((x*y:Nat):Int)≤18446744065119617025:=by omega
      rwa [Int.natCast_mul] at this
     obtain ⟨t,HT⟩:∃ t,Hid (x*y+cc+o=t):=⟨_,Lib.hid rfl⟩
     rw [HT.out] at HNX
     have et:((t:Nat):Int)=(x:Int)*(y:Int)+(o:Int)+(cc:Int):=by
      rw [←HT.out,Int.natCast_add,Int.natCast_add,Int.natCast_mul]
      omega
     have HE1:=Lib.hid (show ((x:Int)*(y:Int)+(o:Int)+(cc:Int)) % 4294967296=((t % 4294967296:Nat):Int) by rw [←et];omega)
     have HE2:=Lib.hid (show ((x:Int)*(y:Int)+(o:Int)+(cc:Int)) / 4294967296=((t / 4294967296:Nat):Int) by rw [←et];omega)
     have hik0:(0:Int)≤(i:Int)+(k:Int):=by omega
     have hik1:(i:Int)+(k:Int)<(n:Int)+(n2:Int):=by omega
     clear et
     go_wp2
     refine ⟨⟨k+1,t / 4294967296,by omega,by go_num,by rw [HE2.out],?_⟩,by simp [intOf];omega⟩
     rw [HE1.out]
     exact hide ⟨gr_set HGR.out _ _,_,by rw [←limbArr_setAt];exact HBK.out.set_ (i+k) _,HNX.out⟩
    ·obtain rfl:k=n2:=by omega
     have hmi:=HMI.out
     rw [←HYL.out] at hmi
     have HDN:=hide (hmi.done HO.out (by rw [HXL.out];exact hlt) HX.out.symm)
     rw [HYL.out] at HDN
     clear hmi
     have o0:=(HBK.out.cell (i+k)).trans (limbArr_at (by rw [HOL.out];omega))
     have o1:=HBK.out.frozen (i+k)
     have hcm:(cc:Int) % 4294967296=(cc:Int):=by omega
     have HQ2:=hide (K2.out.grown HGR.out (fun e=>by cases e;omega))
     have b0:=HQ2.out.cell 0
     have hik0:(0:Int)≤(i:Int)+(k:Int):=by omega
     have hik1:(i:Int)+(k:Int)<(n:Int)+(k:Int):=by omega
     go_wp2
     go_roundw
     case rel=>exact ⟨i+1,by omega,by go_num,hide ⟨gr_set HGR.out _ _,_,by rw [←limbArr_setAt];exact HBK.out.set_ (i+k) _,HDN.out⟩⟩
     case measure=>simp [intOf];omega
  ·obtain rfl:i=n:=by omega
   have HOL:=Lib.hid (show out.length=i+n2 by rw [HO.out.len,HXL.out,HYL.out])
   have HFI:=Lib.hid (show valL out=N*M by
    have:=HO.out
    rw [←HXL.out] at this
    rw [this.fine,HV.out])
   have HLM:=hide (lim_blk HBK.out HOL.out (by simp only [maxLen];omega) HO.out.lt)
   have HMD:=hide (natMade_any (some ⟨g,0,none⟩) (i+n2) (i+n2) out wr HLM.out (Nat.le_refl _))
   go_wp2_with fail
   refine (HMD.out).mono ?_
   rintro e w6 ⟨m,hm,rfl,htr,hval,hb6⟩
   have HQ6:=hide (HQ3.out.below hb6 HQ3.out.lt)
   have HB6:=hide (HBR.out.trans (hb6.mono HBR.out.size))
   have c0:=HQ6.out.cell 0
   have f0:=HQ6.out.frozen 0
   have hmo:m≤i+n2:=by rw [←HOL.out];exact hm
   have HLX:=hide ((HLM.out.take hmo).below hb6 |>.more hb6.size)
   have HP0:=(HQ6.out.set_ 0 (.slice (some ⟨g,0,none⟩) m (i+n2))).cell 0
   have HNV:=hide (show NatV (w6.setCell ⟨w.heap.size+1+1,0,none⟩ (.slice (some ⟨g,0,none⟩) m (i+n2))) (.agg #[.slice (some ⟨g,0,none⟩) m (i+n2)]) (N*M) from ⟨_,m,i+n2,_,rfl,hmo,by rw [sizeSet];exact lim_set HLX.out (show g≠w.heap.size+1+1 by omega) _,htr,by rw [hval,HFI.out]⟩)
   clear hb6 htr hval
   go_wp2
   exact bodyPost_ret (v:=.agg #[.slice (some ⟨g,0,none⟩) m (i+n2)]) (by simp [results,Tryz.results113,go_sem,HP0]) rfl ⟨_,rfl,HNV.out,HB6.out.setCell (p:=⟨w.heap.size+1+1,0,none⟩) (show w.heap.size≤w.heap.size+1+1 by omega) _⟩
end Go.Proofs.YtojgbcmhdnappaaGreatDoor
namespace Go.Proofs.YtojgbcmhdnappaaGreatDoor
open Go.RowKit
theorem NatV.form {w:World} {v:Value} {N:Nat} (h:NatV w v N):∃ A n c,v=.agg #[.slice A n c]:=by
 obtain ⟨A,n,c,_,e,_⟩:=h.is
 exact ⟨A,n,c,e⟩
theorem natV_set {w:World} {g N:Nat} {v u u0:Value} (h:NatV w v N) (hs:w.cell? ⟨g,0,none⟩=some u0) (hu:∀ i,u0≠.int .u32 i):NatV (w.setCell ⟨g,0,none⟩ u) v N:=by
 obtain ⟨A,n,c,xs,e,hc,hl,ht,hv⟩:=h.is
 refine ⟨A,n,c,xs,e,hc,?_,ht,hv⟩
 rw [sizeSet]
 refine ⟨hl.1,hl.2.1,hl.2.2.1,hl.2.2.2.1,fun h0=>?_⟩
 obtain ⟨ad,e3,hb,hcl⟩:=hl.2.2.2.2 h0
 refine ⟨ad,e3,hb,fun j x hx=>?_⟩
 have h1:=hcl j x hx
 refine (World.cell?_setCell_other _ _ _ _ (fun e4=>?_)).trans h1
 rw [←e4,hs] at h1
 injection h1 with h1
 rw [List.getElem?_map] at hx
 cases hq:xs[j]? with
 | none=>rw [hq] at hx;cases hx
 | some q =>
  rw [hq] at hx
  simp at hx
  exact hu _ (h1.trans hx.symm)
structure BoxN (w:World) (g N:Nat):Prop where
 is:∃ A n c,Blk w g 56 #[.slice A n c]∧NatV w (.agg #[.slice A n c]) N
theorem BoxN.below {w w':World} {g N:Nat} (h:BoxN w g N) (hb:Below w.heap.size w w'):BoxN w' g N:=by
 obtain ⟨A,n,c,h1,h2⟩:=h.is
 exact ⟨A,n,c,h1.below hb h1.lt,h2.below hb⟩
theorem BoxN.put {w:World} {g N M:Nat} {A:Option Addr} {n c:Nat} (h:BoxN w g N) (hv:NatV w (.agg #[.slice A n c]) M):BoxN (w.setCell ⟨g,0,none⟩ (.slice A n c)) g M:=by
 obtain ⟨A0,n0,c0,h1,h2⟩:=h.is
 exact ⟨A,n,c,h1.set_ 0 _,natV_set hv (h1.cell 0) (fun i e=>by cases e)⟩
end Go.Proofs.YtojgbcmhdnappaaGreatDoor
namespace Go.Proofs.YtojgbcmhdnappaaGreatDoor
open Go.RowKit Go.Shelf Go.Lib
theorem one_nat (w:World) (p:Nat) (x:Int) (hx:x=p) (h0:0<p) (hp:p<4294967296):NatV (w.alloc (.cells #[.int .u32 x] 142)) (.agg #[.slice (some ⟨w.heap.size,0,none⟩) 1 1]) p:=by
 subst hx
 refine ⟨_,1,1,[p],rfl,Nat.le_refl _,⟨rfl,by simp [maxLen],fun y hy=>by rw [List.mem_singleton.1 hy];exact hp,rfl,fun _=>⟨_,rfl,by simp,fun j u hu=>?_⟩⟩,.inr (by simp;omega),by simp [valL]⟩
 match j,hu with
 | 0,hu=>simp at hu;subst hu;simp [Addr.add]
structure DblI (w:World) (g:Nat) (R:Nat) (z:Int) (wr:World):Prop where
 bel:Below w.heap.size w wr
 out:∃ u,Blk wr (g+1) 56 #[u]∧∀ i,u≠.int .u32 i
 acc:∃ V,BoxN wr g V∧V*2 ^ z.toNat=R
theorem dbl_bel {wr wa:World} {o:Obj} (h:Below (wr.alloc o).drew.heap.size (wr.alloc o).drew wa):Below wr.heap.size wr wa :=
 ((Below.refl wr.heap.size wr).alloc (Nat.le_refl _) o).drew.trans (h.mono ((Below.refl wr.heap.size wr).alloc (Nat.le_refl _) o).drew.size)
theorem limb_boundK {p:Nat} (k:Nat) (hk:1≤k) (h:p<4294967296):p<4294967296 ^ k:=by
 have h1:4294967296 ^ 1≤4294967296 ^ k:=Nat.pow_le_pow_right (by omega) hk
 rw [Nat.pow_one] at h1
 exact Nat.lt_of_lt_of_le h h1
theorem limb_bound {p:Nat} (h:p<4294967296):p<4294967296 ^ 1000:=limb_boundK 1000 (by omega) h
theorem DblI.step {w wr wa:World} {g R s p V:Nat} {t:Int} {A:Option Addr} {n c:Nat} (h:DblI w g R t wr) (hg:w.heap.size≤g) (hV:BoxN wr g V) (hVR:V*2 ^ t.toNat=R) (hb:Below wr.heap.size wr wa) (hv:NatV wa (.agg #[.slice A n c]) (V*p)) (hp:2 ^ s=p) (hs:(s:Int)≤t) :
  DblI w g R (t-s) (wa.setCell ⟨g,0,none⟩ (.slice A n c)):=by
 obtain ⟨u,hu,hun⟩:=h.out
 obtain ⟨A1,n1,c1,hk,_⟩:=hV.is
 refine ⟨(h.bel.trans (hb.mono h.bel.size)).setCell (p:=⟨g,0,none⟩) hg _,⟨u,(hu.below hb hu.lt).far (show g+1≠g from Nat.succ_ne_self g) _,hun⟩,V*p,(hV.below hb).put hv,?_⟩
 rw [←hVR,←hp,Nat.mul_assoc,←Nat.pow_add]
 congr 2
 omega
set_option maxRecDepth 100000 in
set_option maxHeartbeats 4000000 in
theorem double_any (v:Value) (N K:Nat) (z:Int) (w:World) (h:NatV w v N) (hK:K=(max 0 (min z 1000)).toNat) (hN:Hid (N*2 ^ K<4294967296 ^ 1000)) (hz : -9223372036854775808≤z∧z≤9223372036854775807) :
  Calls Tryz.prog 58 #[v,.int .i64 z] w (OfPost w (N*2 ^ K)):=by
 obtain ⟨A,n,c,rfl⟩:=h.form
 obtain ⟨T,HT⟩:∃ T:Int,Hid (T=min z 1000):=⟨_,Lib.hid rfl⟩
 have hK2:K=T.toNat:=by rw [hK,HT.out];omega
 have hT1:T≤1000:=by rw [HT.out];omega
 have HB:=hide (((Below.refl w.heap.size w).alloc (Nat.le_refl _) (.cells #[.slice A n c] 56)).alloc (by simp) (.cells #[.slice none 0 0] 56))
 have k1:=(Blk.new w 56 #[.slice A n c]).alloc (.cells #[.slice none 0 0] 56)
 have k2:=Blk.new (w.alloc (.cells #[.slice A n c] 56)) 56 #[.slice none 0 0]
 rw [sizeAl] at k2
 have HST:=hide (show DblI w w.heap.size (N*2 ^ K) T ((w.alloc (.cells #[.slice A n c] 56)).alloc (.cells #[.slice none 0 0] 56)) from ⟨HB.out,⟨_,k2,fun i e=>by cases e⟩,N,⟨A,n,c,k1,h.below HB.out⟩,by rw [hK2]⟩)
 obtain ⟨R,HR⟩:∃ R,Hid (N*2 ^ K=R):=⟨_,Lib.hid rfl⟩
 rw [HR.out] at HST hN ⊢
 clear h k1 k2 HB hK
 go_enter Tryz.func58,Tryz.ntmps58
 go_wp2
 rw [←HT.out]
 generalize (w.alloc (.cells #[.slice A n c] 56)).alloc (.cells #[.slice none 0 0] 56)=w1 at HST ⊢
 obtain ⟨g,HGG⟩:∃ g,Hid (w.heap.size=g):=⟨_,Lib.hid rfl⟩
 simp only [HGG.out] at HST ⊢
 have hgw:w.heap.size≤g:=by rw [←HGG.out];omega
 go_loopw [1] (fun iv wr=>∃ t:Int,t≤1000∧iv=.int .i64 t∧Hid (DblI w g R t wr)) (fun iv _=>(RowKit.intOf iv).toNat)
 case atStart=>exact ⟨T,hT1,rfl,HST⟩
 case round =>
  clear HST
  obtain ⟨t,ht,rfl,hR⟩:=hrel
  by_cases h0:0<t
  ·obtain ⟨s,hs⟩:∃ s:Nat,s=(min t 31).toNat:=⟨_,rfl⟩
   have hsm:min t 31=(s:Int):=by omega
   have hs31:s≤31:=by omega
   have hs1:1≤s:=by omega
   obtain ⟨V,hV,hVR⟩:=hR.out.acc
   obtain ⟨A4,n4,d4,hk4,hv4⟩:=hV.is
   have q4:=hk4.cell 0
   have f4:=hk4.frozen 0
   have l4:=hk4.lt
   obtain ⟨p,HP⟩:∃ p,Hid (2 ^ s=p):=⟨_,Lib.hid rfl⟩
   have hp0:0<p:=by rw [←HP.out];exact Nat.two_pow_pos s
   have hp4:p<4294967296:=by rw [←HP.out];exact Nat.lt_of_le_of_lt (Nat.pow_le_pow_right (by omega) hs31) (by decide)
   have e1:(2:Int) ^ s=(p:Int):=by rw [←HP.out,Int.natCast_pow];rfl
   have e2:IntKind.u32.wrap (2 ^ s)=(p:Int):=by rw [e1,IntKind.wrap_u32'];omega
   have e3:IntKind.u32.wrap (p:Int)=(p:Int):=by rw [IntKind.wrap_u32'];omega
   have hs0:(0:Int)≤(s:Int):=by omega
   have HMU:=hide (fun (w':World) (v2:Value) (hb:Below wr.heap.size wr w') (h2:NatV w' v2 p)=>natMul_any _ v2 V p w' (hv4.below hb) h2 (by
    refine Nat.lt_of_le_of_lt ?_ hN.out
    rw [←hVR]
    exact Nat.le_mul_of_pos_right _ (Nat.two_pow_pos _)) (limb_bound hp4))
   have hst:(s:Int)≤t:=by omega
   clear hs
   go_wp2
   go_region_with (go_at_call 113;refine (HMU.out _ _ (((Below.refl wr.heap.size wr).alloc (Nat.le_refl _) _).drew) ((one_nat wr p _ rfl hp0 hp4).below (Below.refl _ _).drew)).mono ?_;rintro e wa ⟨va,rfl,hva,hba⟩;obtain ⟨A6,n6,d6,e6⟩:=hva.form;subst e6;have hbA:=dbl_bel hba;have f6:=(hbA.frozen (p:=⟨g,0,none⟩) l4).trans f4;have c6:=(hbA.cell (p:=⟨g,0,none⟩) l4).trans q4)
   all_goals
    have HNX:=hide (hR.out.step hgw hV hVR hbA hva HP.out hst)
    clear hR hV hVR hk4 hv4 q4 f4 hva hba hbA f6 c6 HMU
    go_wp2
    go_roundw
    case rel=>exact ⟨_,by omega,rfl,HNX⟩
    case measure=>simp [RowKit.intOf];omega
  ·obtain ⟨u,hku,hun⟩:=hR.out.out
   obtain ⟨V,hV,hVR⟩:=hR.out.acc
   obtain ⟨A4,n4,d4,hk4,hv4⟩:=hV.is
   have HBX:=hide hR.out.bel
   have q4:=hk4.cell 0
   have f2:=hku.frozen 0
   have c2:=hku.cell 0
   rw [show V=R by rw [←hVR,show t.toNat=0 by omega];simp] at hv4
   have HVV:=hide (natV_set (u:=.slice A4 n4 d4) hv4 (hku.cell 0) hun)
   have HBY:=hide (HBX.out.setCell (p:=⟨g+1,0,none⟩) (Nat.le_succ_of_le hgw) (.slice A4 n4 d4))
   have d0:=(hku.set_ 0 (.slice A4 n4 d4)).cell 0
   clear hR hku hun hk4 hv4 hV hVR
   go_wp2
   exact bodyPost_ret (v:=.agg #[.slice A4 n4 d4]) (by simp [results,Tryz.results58,go_sem,d0]) rfl ⟨_,rfl,HVV.out,HBY.out⟩
end Go.Proofs.YtojgbcmhdnappaaGreatDoor
