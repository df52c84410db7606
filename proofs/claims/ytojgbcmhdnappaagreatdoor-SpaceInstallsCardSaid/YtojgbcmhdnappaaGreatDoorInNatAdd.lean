/-
  A part of the proof: NatAdd. Conditions: none.
-/
import Derived.Test.YtojgbcmhdnappaaGreatDoorInNatDbl
namespace Go.Proofs.YtojgbcmhdnappaaGreatDoor
open Go.RowKit
def limbV (x:Nat):Value:=.int .u32 (x:Int)
def OwnL (w:World) (base:Nat) (v:Value) (l:List Nat):Prop:=w.ownsRow base 142 1 v l.length (l.map limbV)
theorem one_newsL (w:World) (u:Value) (g:Nat) (hc:w.cell? ⟨g,0,none⟩=some u):Reads w (g+1) 1 (some ⟨g,0,none⟩) 1 [u]:=by
 refine ⟨rfl,fun _=>⟨_,rfl,Nat.lt_succ_self _,fun j x hx=>?_⟩⟩
 match j,hx with
 | 0,hx=>simp at hx;subst hx;simpa [Addr.add] using hc
theorem appL (w:World) {ops:Array Oper} {rest:List Oper} {o:Oper} {a:Act} {Q:Exit→Act→World→Prop} (hgd:o.guard=none) (s x:Operand) (t:TypeId)
  (ho:o.op=.call { callee:=.builtin .append,args:=#[s,x],argTypes:=#[t,t] }) (base:Nat) (ht:Tryz.prog.underlying t=some (.slice 142))
  (v:Value) (l:List Nat) (hs:a.eval s=v) (hown:OwnL w base v l) (g c:Nat) (hx:a.eval x=.slice (some ⟨g,0,none⟩) 1 c) (d:Nat) (hc:w.cell? ⟨g,0,none⟩=some (limbV d))
  (hl:l.length≤100000000) (hbase:base≤w.heap.size)
  (h:∀ v' w',OwnL w' base v' (l++[d])→w.grownBy w' v.ownBlock→(v'.ownBlock=v.ownBlock∨v'.ownBlock=some w.heap.size)→wpList Tryz.prog ops Q rest (a.put o.dst v') w'):wpList Tryz.prog ops Q (o :: rest) a w:=by
 obtain ⟨i0,hi,hz0,hz1,hz2⟩:=info_parts limbInfo
 refine wpList_append_any w hgd s x t ho base 142 i0 (.int .u32 0) 1 4 ht hi hz0 hz1 hz2 rfl (by decide) v l.length _ hs hown (g+1) (some ⟨g,0,none⟩) 1 c [limbV d] hx (one_newsL w _ g hc) (by simp;rfl) (by simp only [maxLen];omega) (by omega) hbase ?_
 intro v' w' ho' hg' hor
 refine h v' w' ?_ hg' hor
 unfold OwnL
 rw [List.length_append,List.length_singleton,List.map_append]
 exact ho'
structure HeldL (p:Prop):Prop where
 go:p
theorem appLH (w:World) {ops:Array Oper} {rest:List Oper} {o:Oper} {a:Act} {Q:Exit→Act→World→Prop} (hgd:o.guard=none) (s x:Operand) (t:TypeId)
  (ho:o.op=.call { callee:=.builtin .append,args:=#[s,x],argTypes:=#[t,t] }) (base:Nat) (ht:Tryz.prog.underlying t=some (.slice 142))
  (v:Value) (l:List Nat) (hs:a.eval s=v) (hown:OwnL w base v l) (g c:Nat) (hx:a.eval x=.slice (some ⟨g,0,none⟩) 1 c) (d:Nat) (hc:w.cell? ⟨g,0,none⟩=some (limbV d))
  (hl:l.length≤100000000) (hbase:base≤w.heap.size)
  (h:∀ v' w',OwnL w' base v' (l++[d])→w.grownBy w' v.ownBlock→(v'.ownBlock=v.ownBlock∨v'.ownBlock=some w.heap.size)→HeldL (wpList Tryz.prog ops Q rest (a.put o.dst v') w')):wpList Tryz.prog ops Q (o :: rest) a w :=
 appL w hgd s x t ho base ht v l hs hown g c hx d hc hl hbase fun v' w' h1 h2 h3=>(h v' w' h1 h2 h3).go
theorem OwnL.below {w w':World} {base:Nat} {v:Value} {l:List Nat} (h:OwnL w base v l) (hb:Below w.heap.size w w'):OwnL w' base v l :=
 World.ownsRow.kept h (row:=none) ⟨hb.os,hb.tape,hb.output,hb.size,fun i hi _=>hb.block i hi⟩ (by cases v.ownBlock <;> simp)
theorem OwnL.lim {w:World} {base:Nat} {v:Value} {l:List Nat} (h:OwnL w base v l) (hl:l.length≤maxLen) (hx:∀ x∈l,x<4294967296):∃ A c,v=.slice A l.length c∧l.length≤c∧Lim w w.heap.size A l.length l:=by
 rcases h.2 with ⟨rfl,h0⟩ | ⟨g,cap,cur,rfl,_,_,hc,_⟩
 ·refine ⟨none,0,by rw [h0],by omega,rfl,hl,hx,?_⟩
  have:=Reads.of_own (show w.ownsRow base 142 1 (.slice none l.length 0) l.length (l.map limbV) by rw [h0];have:=h;unfold OwnL at this;rw [h0] at this;exact this)
  exact this
 ·exact ⟨_,_,rfl,hc,rfl,hl,hx,Reads.of_own h⟩
def Add32Post (w:World) (t:Nat) (e:Ending) (w':World):Prop:=e=.returned (.tuple #[.int .u32 ((t % 4294967296:Nat):Int),.int .u32 ((t / 4294967296:Nat):Int)])∧w=w'
theorem add32_any (x y c:Nat) (w:World) (hx:x<4294967296) (hy:y<4294967296) (hc:c≤1) :
  Calls Tryz.prog 163 #[.int .u32 (x:Int),.int .u32 (y:Int),.int .u32 (c:Int)] w (Add32Post w (x+y+c)):=by
 go_enter Tryz.func163,Tryz.ntmps163
 go_wp2
 go_ret2
 exact ⟨show Ending.returned (.tuple #[.int .u32 (((x:Int)+(y:Int)+(c:Int)) % 4294967296),.int .u32 (((x:Int)+(y:Int)+(c:Int)) / 4294967296)])=_ by congr <;> omega,rfl⟩
theorem lim_setA {w:World} {B n g:Nat} {A:Option Addr} {xs:List Nat} (h:Lim w B A n xs) (hg:∀ ad,A=some ad→ad.block≠g) (u:Value):Lim (w.setCell ⟨g,0,none⟩ u) B A n xs:=by
 refine ⟨h.1,h.2.1,h.2.2.1,h.2.2.2.1,fun hn=>?_⟩
 obtain ⟨ad',e,hb,hc⟩:=h.2.2.2.2 hn
 exact ⟨ad',e,hb,fun j u hu=>(World.cell?_setCell_other _ _ _ _ (fun e2=>hg ad' e (by rw [←block_of_add ad' j,←e2]))).trans (hc j u hu)⟩
structure NaI (w3:World) (base:Nat) (xs ys:List Nat) (i c:Nat) (vo:Value) (wr:World):Prop where
 bel:Below base w3 wr
 mem:∃ out,OwnL wr base vo out∧AddI xs ys i out c
set_option maxRecDepth 100000 in
set_option maxHeartbeats 4000000 in
theorem natAdd_ge (A A2:Option Addr) (n c n2 c2:Nat) (xs ys:List Nat) (w:World) (hl:Lim w w.heap.size A n xs) (hl2:Lim w w.heap.size A2 n2 ys) (hlen:n2≤n) (hn:n≤1000) :
  Calls Tryz.prog 112 #[.agg #[.slice A n c],.agg #[.slice A2 n2 c2]] w (OfPost w (valL xs+valL ys)):=by
 have HI:=hide hl
 have HJ:=hide hl2
 have HXL:=Lib.hid hl.1
 have HYL:=Lib.hid hl2.1
 clear hl hl2
 have k1:=Blk.new w 56 #[.slice A n c]
 have k2:=Blk.new (w.alloc (.cells #[.slice A n c] 56)) 56 #[.slice A2 n2 c2]
 have k3:=Blk.new ((w.alloc (.cells #[.slice A n c] 56)).alloc (.cells #[.slice A2 n2 c2] 56)) 56 #[.slice none 0 0]
 rw [sizeAl] at k2
 rw [sizeAl,sizeAl] at k3
 have K1:=hide ((k1.alloc (.cells #[.slice A2 n2 c2] 56)).alloc (.cells #[.slice none 0 0] 56))
 have K2:=hide (k2.alloc (.cells #[.slice none 0 0] 56))
 have K3:=hide k3
 have HBW:=hide ((((Below.refl w.heap.size w).alloc (Nat.le_refl _) (.cells #[.slice A n c] 56)).alloc (by simp) (.cells #[.slice A2 n2 c2] 56)).alloc (by simp;omega) (.cells #[.slice none 0 0] 56))
 have hss:(((w.alloc (.cells #[.slice A n c] 56)).alloc (.cells #[.slice A2 n2 c2] 56)).alloc (.cells #[.slice none 0 0] 56)).heap.size=w.heap.size+3:=by simp
 obtain ⟨i0,hi0,hz0,hz1,hz2⟩:=info_parts limbInfo
 obtain ⟨wm,hmk,hom,hgm⟩:=run_make_own (P:=Tryz.prog) (((w.alloc (.cells #[.slice A n c] 56)).alloc (.cells #[.slice A2 n2 c2] 56)).alloc (.cells #[.slice none 0 0] 56)) (w.heap.size+3) 54 142 i0 (.int .u32 0) 1 Tryz.underlying54 hi0 hz0 hz1 .i64 .i64 (n+1) (by rw [hz2];omega) (by simp only [maxLen];omega) (by rw [hss];exact Nat.le_refl _)
 rw [hss,Int.natCast_add n 1] at hmk
 rw [hss] at hom
 have hmk2:=hmk
 change (Instr.makeSlice 54 (.int .i64 0) (.int .i64 ((n:Int)+1))).run Tryz.prog _=_ at hmk2
 have HGM:=hide (show Below (w.heap.size+3) (((w.alloc (.cells #[.slice A n c] 56)).alloc (.cells #[.slice A2 n2 c2] 56)).alloc (.cells #[.slice none 0 0] 56)) wm from ⟨hgm.os,hgm.tape,hgm.output,hgm.size,fun i hi=>hgm.block i (by rw [hss];exact hi) (by simp)⟩)
 have HOM:=hide (show OwnL wm (w.heap.size+3) (.slice (some ⟨w.heap.size+3,0,none⟩) 0 (n+1)) [] from hom)
 have HKA:=hide (K1.out.below HGM.out (by omega))
 have HKB:=hide (K2.out.below HGM.out (by omega))
 have HKC:=hide (K3.out.below HGM.out (by omega))
 have HBM:=hide (HBW.out.trans (HGM.out.mono (by omega)))
 have hsm:w.heap.size+3≤wm.heap.size:=by have:=hgm.size;rw [hss] at this;exact this
 have a0:=HKA.out.cell 0
 clear k1 k2 k3 hom hgm hi0 hz0 hz1 hz2 hmk
 go_enter Tryz.func112,Tryz.ntmps112
 go_wp2
 clear hmk2 a0
 rw [show decide (n<n2)=false by simpa using hlen]
 go_loopw [5,6,27] (fun vo cv iv wr=>∃ (i cc:Nat),i≤n∧iv=.int .i64 i∧cv=.int .u32 (cc:Int)∧Hid (NaI wm (w.heap.size+3) xs ys i cc vo wr)) (fun _ _ iv _=>n-(intOf iv).toNat)
 case atStart=>exact ⟨0,0,Nat.zero_le _,rfl,rfl,hide ⟨Below.refl _ _ |>.mono hsm,[],HOM.out,.start xs ys⟩⟩
 case round =>
  obtain ⟨i,cc,hi,rfl,rfl,hR⟩:=hrel
  obtain ⟨out,hob,hA⟩:=hR.out.mem
  have HBE:=hide hR.out.bel
  have HOB:=hide hob
  have HAI:=hide hA
  have hcc:=hA.cl
  have hol:=Lib.hid hA.len
  clear hR hob hA
  have HBR:=hide (HBM.out.trans (HBE.out.mono (by omega)))
  have HQB:=hide (HKB.out.below HBE.out (by omega))
  have HQC:=hide (HKC.out.below HBE.out (by omega))
  have hsr:w.heap.size+3≤wr.heap.size:=Nat.le_trans hsm HBE.out.size
  have b0:=HQB.out.cell 0
  by_cases hlt:i<n
  ·obtain ⟨ad,rfl,hb,hcell,hx⟩:=HI.out.at_ hlt
   have hc2:=(HBR.out.cell (by rw [block_of_add];exact hb)).trans hcell
   have hy:=getD_lt HJ.out.2.2.1 i
   have HNX:=hide (HAI.out.next (t:=xs.getD i 0+ys.getD i 0+cc) hx hy rfl)
   have HCY:=hide (fun (h:i<n2)=>show ∃ ad2,A2=some ad2∧wr.cell? (ad2.add i)=some (.int .u32 ((ys.getD i 0:Nat):Int)) from by
    obtain ⟨ad2,e,hb2,hcell2,_⟩:=HJ.out.at_ h
    exact ⟨ad2,e,(HBR.out.cell (by rw [block_of_add];exact hb2)).trans hcell2⟩)
   have HZY:=hide (fun (h:¬i<n2)=>show ys.getD i 0=0 by rw [List.getD_eq_getElem?_getD,List.getElem?_eq_none (by rw [HYL.out];omega)];rfl)
   clear hcell
   generalize xs.getD i 0=x at hc2 hx HNX
   generalize ys.getD i 0=y at hy HNX HCY HZY
   have HAD:=hide (add32_any x y cc wr hx hy hcc)
   unfold Add32Post at HAD
   generalize x+y+cc=t at HAD HNX
   have HOA:=hide (HOB.out.below ((Below.refl wr.heap.size wr).alloc (Nat.le_refl _) (.cells #[.int .u32 ((t % 4294967296:Nat):Int)] 142)))
   have HBA:=hide (HBE.out.alloc hsr (.cells #[.int .u32 ((t % 4294967296:Nat):Int)] 142))
   have HCA:=Lib.hid (show (wr.alloc (.cells #[.int .u32 ((t % 4294967296:Nat):Int)] 142)).cell? ⟨wr.heap.size,0,none⟩=some (limbV (t % 4294967296)) by simp [limbV])
   have HSZ:=Lib.hid (Nat.le_trans hsm HBA.out.size)
   have HLT:=hide (World.ownsRow.lt HOA.out)
   generalize t % 4294967296=lo at HAD HNX HOA HBA HCA HSZ HLT
   generalize t / 4294967296=hi2 at HAD HNX
   by_cases hy2:i<n2
   ·obtain ⟨ad2,rfl,hc3⟩:=HCY.out hy2
    go_wp2_with fail
    refine (HAD.out).mono ?_
    rintro e w5 ⟨rfl,rfl⟩
    go_wp2_with (at_builtin;refine appL _ rfl _ _ 54 rfl (w.heap.size+3) Tryz.underlying54 _ out rfl HOA.out wr.heap.size 1 rfl lo HCA.out (by have:=hol.out;omega) HSZ.out ?_;intro v9 w9 ho9 hg9 hor9;have HO9:=hide ho9;have HB9:=hide (HBA.out.grown hg9 HSZ.out (fun k hk=>(HLT.out k hk).1));clear ho9 hg9 hor9)
    go_roundw
    case rel=>exact ⟨i+1,hi2,by omega,by go_num,rfl,hide ⟨HB9.out,_,HO9.out,HNX.out⟩⟩
    case measure=>simp [intOf];omega
   ·obtain rfl:=HZY.out hy2
    have HAD2:=hide (show Calls Tryz.prog 163 #[.int .u32 (x:Int),.int .u32 0,.int .u32 (cc:Int)] wr _ from HAD.out)
    clear HAD
    go_wp2_with fail
    refine (HAD2.out).mono ?_
    rintro e w5 ⟨rfl,rfl⟩
    go_wp2_with (at_builtin;refine appL _ rfl _ _ 54 rfl (w.heap.size+3) Tryz.underlying54 _ out rfl HOA.out wr.heap.size 1 rfl lo HCA.out (by have:=hol.out;omega) HSZ.out ?_;intro v9 w9 ho9 hg9 hor9;have HO9:=hide ho9;have HB9:=hide (HBA.out.grown hg9 HSZ.out (fun k hk=>(HLT.out k hk).1));clear ho9 hg9 hor9)
    go_roundw
    case rel=>exact ⟨i+1,hi2,by omega,by go_num,rfl,hide ⟨HB9.out,_,HO9.out,HNX.out⟩⟩
    case measure=>simp [intOf];omega
  ·obtain rfl:i=n:=by omega
   have HFI:=Lib.hid (show valL (out++[cc])=valL xs+valL ys by
    have:=HAI.out
    rw [←HXL.out] at this
    exact this.fine (by rw [HXL.out,HYL.out];omega))
   have HLT2:=hide (show ∀ z∈out++[cc],z<4294967296 from fun z hz=>by
    rcases List.mem_append.1 hz with hz | hz
    ·exact HAI.out.lt z hz
    ·rw [List.mem_singleton.1 hz];omega)
   have HOA:=hide (HOB.out.below ((Below.refl wr.heap.size wr).alloc (Nat.le_refl _) (.cells #[.int .u32 (cc:Int)] 142)))
   have HBA:=hide (HBE.out.alloc hsr (.cells #[.int .u32 (cc:Int)] 142))
   have HCA:=Lib.hid (show (wr.alloc (.cells #[.int .u32 (cc:Int)] 142)).cell? ⟨wr.heap.size,0,none⟩=some (limbV cc) by simp [limbV])
   have HSZ:=Lib.hid (Nat.le_trans hsm HBA.out.size)
   have HLT:=hide (World.ownsRow.lt HOA.out)
   go_wp2_with (at_builtin;refine appLH _ rfl _ _ 54 rfl (w.heap.size+3) Tryz.underlying54 _ out rfl HOA.out wr.heap.size 1 rfl cc HCA.out (by have:=hol.out;omega) HSZ.out ?_)
   intro v9 w9 ho9 hg9 hor9
   have HB9:=hide (HBA.out.grown hg9 HSZ.out (fun k hk=>(HLT.out k hk).1))
   obtain ⟨A9,c9,e9,hc9,hl9⟩:=ho9.lim (by rw [List.length_append,List.length_singleton];simp only [maxLen];have:=hol.out;omega) HLT2.out
   subst e9
   have HNE:=Lib.hid (show ∀ ad,A9=some ad→ad.block≠w.heap.size+1+1 from fun ad e=>by
    have:=(ho9.lt ad.block (by rw [e];rfl)).1
    omega)
   have HBX:=hide (HBM.out.trans (HB9.out.mono (by omega)))
   have HKX:=hide (HKC.out.below HB9.out (by omega))
   have HL9:=hide hl9
   clear ho9 hg9 hor9 hl9
   generalize hnn:(out++[cc]).length=nn at HL9 hc9 ⊢
   have HMD:=hide (natMade_any A9 nn c9 (out++[cc]) w9 HL9.out hc9)
   refine ⟨?_⟩
   go_wp2_with fail
   refine (HMD.out).mono ?_
   rintro e w6 ⟨m,hm,rfl,htr,hval,hb6⟩
   rw [hnn] at hm
   have HL6:=hide ((HL9.out.take hm).below hb6 |>.more hb6.size)
   have HB6:=hide (HBX.out.trans (hb6.mono HBX.out.size))
   have HQ6:=hide (HKX.out.below hb6 HKX.out.lt)
   have c0:=HQ6.out.cell 0
   have f0:=HQ6.out.frozen 0
   have HP0:=(HQ6.out.set_ 0 (.slice A9 m c9)).cell 0
   have hmc:m≤c9:=Nat.le_trans hm hc9
   have HNV:=hide (show NatV (w6.setCell ⟨w.heap.size+1+1,0,none⟩ (.slice A9 m c9)) (.agg #[.slice A9 m c9]) (valL xs+valL ys) from ⟨A9,m,c9,_,rfl,hmc,by rw [sizeSet];exact lim_setA HL6.out HNE.out _,htr,by rw [hval,HFI.out]⟩)
   clear hb6 htr hval
   go_wp2
   exact bodyPost_ret (v:=.agg #[.slice A9 m c9]) (by simp [results,Tryz.results112,go_sem,HP0]) rfl ⟨_,rfl,HNV.out,HB6.out.setCell (p:=⟨w.heap.size+1+1,0,none⟩) (show w.heap.size≤w.heap.size+1+1 by omega) _⟩
set_option maxRecDepth 100000 in
set_option maxHeartbeats 4000000 in
theorem natAdd_lt (A A2:Option Addr) (n c n2 c2:Nat) (xs ys:List Nat) (w:World) (hl:Lim w w.heap.size A n xs) (hl2:Lim w w.heap.size A2 n2 ys) (hlen:n2<n) (hn:n≤1000) :
  Calls Tryz.prog 112 #[.agg #[.slice A2 n2 c2],.agg #[.slice A n c]] w (OfPost w (valL xs+valL ys)):=by
 have HI:=hide hl
 have HJ:=hide hl2
 have HXL:=Lib.hid hl.1
 have HYL:=Lib.hid hl2.1
 clear hl hl2
 have k1:=Blk.new w 56 #[.slice A n c]
 have k2:=Blk.new (w.alloc (.cells #[.slice A n c] 56)) 56 #[.slice A2 n2 c2]
 have k3:=Blk.new ((w.alloc (.cells #[.slice A n c] 56)).alloc (.cells #[.slice A2 n2 c2] 56)) 56 #[.slice none 0 0]
 rw [sizeAl] at k2
 rw [sizeAl,sizeAl] at k3
 have K1:=hide ((k1.alloc (.cells #[.slice A2 n2 c2] 56)).alloc (.cells #[.slice none 0 0] 56))
 have K2:=hide (k2.alloc (.cells #[.slice none 0 0] 56))
 have K3:=hide k3
 have HBW:=hide ((((Below.refl w.heap.size w).alloc (Nat.le_refl _) (.cells #[.slice A n c] 56)).alloc (by simp) (.cells #[.slice A2 n2 c2] 56)).alloc (by simp;omega) (.cells #[.slice none 0 0] 56))
 have hss:(((w.alloc (.cells #[.slice A n c] 56)).alloc (.cells #[.slice A2 n2 c2] 56)).alloc (.cells #[.slice none 0 0] 56)).heap.size=w.heap.size+3:=by simp
 obtain ⟨i0,hi0,hz0,hz1,hz2⟩:=info_parts limbInfo
 obtain ⟨wm,hmk,hom,hgm⟩:=run_make_own (P:=Tryz.prog) (((w.alloc (.cells #[.slice A n c] 56)).alloc (.cells #[.slice A2 n2 c2] 56)).alloc (.cells #[.slice none 0 0] 56)) (w.heap.size+3) 54 142 i0 (.int .u32 0) 1 Tryz.underlying54 hi0 hz0 hz1 .i64 .i64 (n+1) (by rw [hz2];omega) (by simp only [maxLen];omega) (by rw [hss];exact Nat.le_refl _)
 rw [hss,Int.natCast_add n 1] at hmk
 rw [hss] at hom
 have hmk2:=hmk
 change (Instr.makeSlice 54 (.int .i64 0) (.int .i64 ((n:Int)+1))).run Tryz.prog _=_ at hmk2
 have HGM:=hide (show Below (w.heap.size+3) (((w.alloc (.cells #[.slice A n c] 56)).alloc (.cells #[.slice A2 n2 c2] 56)).alloc (.cells #[.slice none 0 0] 56)) wm from ⟨hgm.os,hgm.tape,hgm.output,hgm.size,fun i hi=>hgm.block i (by rw [hss];exact hi) (by simp)⟩)
 have HOM:=hide (show OwnL wm (w.heap.size+3) (.slice (some ⟨w.heap.size+3,0,none⟩) 0 (n+1)) [] from hom)
 have HKA:=hide (K1.out.below HGM.out (by omega))
 have HKB:=hide (K2.out.below HGM.out (by omega))
 have HKC:=hide (K3.out.below HGM.out (by omega))
 have HBM:=hide (HBW.out.trans (HGM.out.mono (by omega)))
 have hsm:w.heap.size+3≤wm.heap.size:=by have:=hgm.size;rw [hss] at this;exact this
 have a0:=HKA.out.cell 0
 clear k1 k2 k3 hom hgm hi0 hz0 hz1 hz2 hmk
 go_enter Tryz.func112,Tryz.ntmps112
 go_wp2
 clear hmk2 a0
 go_loopw [5,6,27] (fun vo cv iv wr=>∃ (i cc:Nat),i≤n∧iv=.int .i64 i∧cv=.int .u32 (cc:Int)∧Hid (NaI wm (w.heap.size+3) xs ys i cc vo wr)) (fun _ _ iv _=>n-(intOf iv).toNat)
 case atStart=>exact ⟨0,0,Nat.zero_le _,rfl,rfl,hide ⟨Below.refl _ _ |>.mono hsm,[],HOM.out,.start xs ys⟩⟩
 case round =>
  obtain ⟨i,cc,hi,rfl,rfl,hR⟩:=hrel
  obtain ⟨out,hob,hA⟩:=hR.out.mem
  have HBE:=hide hR.out.bel
  have HOB:=hide hob
  have HAI:=hide hA
  have hcc:=hA.cl
  have hol:=Lib.hid hA.len
  clear hR hob hA
  have HBR:=hide (HBM.out.trans (HBE.out.mono (by omega)))
  have HQB:=hide (HKB.out.below HBE.out (by omega))
  have HQC:=hide (HKC.out.below HBE.out (by omega))
  have hsr:w.heap.size+3≤wr.heap.size:=Nat.le_trans hsm HBE.out.size
  have b0:=HQB.out.cell 0
  by_cases hlt:i<n
  ·obtain ⟨ad,rfl,hb,hcell,hx⟩:=HI.out.at_ hlt
   have hc2:=(HBR.out.cell (by rw [block_of_add];exact hb)).trans hcell
   have hy:=getD_lt HJ.out.2.2.1 i
   have HNX:=hide (HAI.out.next (t:=xs.getD i 0+ys.getD i 0+cc) hx hy rfl)
   have HCY:=hide (fun (h:i<n2)=>show ∃ ad2,A2=some ad2∧wr.cell? (ad2.add i)=some (.int .u32 ((ys.getD i 0:Nat):Int)) from by
    obtain ⟨ad2,e,hb2,hcell2,_⟩:=HJ.out.at_ h
    exact ⟨ad2,e,(HBR.out.cell (by rw [block_of_add];exact hb2)).trans hcell2⟩)
   have HZY:=hide (fun (h:¬i<n2)=>show ys.getD i 0=0 by rw [List.getD_eq_getElem?_getD,List.getElem?_eq_none (by rw [HYL.out];omega)];rfl)
   clear hcell
   generalize xs.getD i 0=x at hc2 hx HNX
   generalize ys.getD i 0=y at hy HNX HCY HZY
   have HAD:=hide (add32_any x y cc wr hx hy hcc)
   unfold Add32Post at HAD
   generalize x+y+cc=t at HAD HNX
   have HOA:=hide (HOB.out.below ((Below.refl wr.heap.size wr).alloc (Nat.le_refl _) (.cells #[.int .u32 ((t % 4294967296:Nat):Int)] 142)))
   have HBA:=hide (HBE.out.alloc hsr (.cells #[.int .u32 ((t % 4294967296:Nat):Int)] 142))
   have HCA:=Lib.hid (show (wr.alloc (.cells #[.int .u32 ((t % 4294967296:Nat):Int)] 142)).cell? ⟨wr.heap.size,0,none⟩=some (limbV (t % 4294967296)) by simp [limbV])
   have HSZ:=Lib.hid (Nat.le_trans hsm HBA.out.size)
   have HLT:=hide (World.ownsRow.lt HOA.out)
   generalize t % 4294967296=lo at HAD HNX HOA HBA HCA HSZ HLT
   generalize t / 4294967296=hi2 at HAD HNX
   by_cases hy2:i<n2
   ·obtain ⟨ad2,rfl,hc3⟩:=HCY.out hy2
    go_wp2_with fail
    refine (HAD.out).mono ?_
    rintro e w5 ⟨rfl,rfl⟩
    go_wp2_with (at_builtin;refine appL _ rfl _ _ 54 rfl (w.heap.size+3) Tryz.underlying54 _ out rfl HOA.out wr.heap.size 1 rfl lo HCA.out (by have:=hol.out;omega) HSZ.out ?_;intro v9 w9 ho9 hg9 hor9;have HO9:=hide ho9;have HB9:=hide (HBA.out.grown hg9 HSZ.out (fun k hk=>(HLT.out k hk).1));clear ho9 hg9 hor9)
    go_roundw
    case rel=>exact ⟨i+1,hi2,by omega,by go_num,rfl,hide ⟨HB9.out,_,HO9.out,HNX.out⟩⟩
    case measure=>simp [intOf];omega
   ·obtain rfl:=HZY.out hy2
    have HAD2:=hide (show Calls Tryz.prog 163 #[.int .u32 (x:Int),.int .u32 0,.int .u32 (cc:Int)] wr _ from HAD.out)
    clear HAD
    go_wp2_with fail
    refine (HAD2.out).mono ?_
    rintro e w5 ⟨rfl,rfl⟩
    go_wp2_with (at_builtin;refine appL _ rfl _ _ 54 rfl (w.heap.size+3) Tryz.underlying54 _ out rfl HOA.out wr.heap.size 1 rfl lo HCA.out (by have:=hol.out;omega) HSZ.out ?_;intro v9 w9 ho9 hg9 hor9;have HO9:=hide ho9;have HB9:=hide (HBA.out.grown hg9 HSZ.out (fun k hk=>(HLT.out k hk).1));clear ho9 hg9 hor9)
    go_roundw
    case rel=>exact ⟨i+1,hi2,by omega,by go_num,rfl,hide ⟨HB9.out,_,HO9.out,HNX.out⟩⟩
    case measure=>simp [intOf];omega
  ·obtain rfl:i=n:=by omega
   have HFI:=Lib.hid (show valL (out++[cc])=valL xs+valL ys by
    have:=HAI.out
    rw [←HXL.out] at this
    exact this.fine (by rw [HXL.out,HYL.out];omega))
   have HLT2:=hide (show ∀ z∈out++[cc],z<4294967296 from fun z hz=>by
    rcases List.mem_append.1 hz with hz | hz
    ·exact HAI.out.lt z hz
    ·rw [List.mem_singleton.1 hz];omega)
   have HOA:=hide (HOB.out.below ((Below.refl wr.heap.size wr).alloc (Nat.le_refl _) (.cells #[.int .u32 (cc:Int)] 142)))
   have HBA:=hide (HBE.out.alloc hsr (.cells #[.int .u32 (cc:Int)] 142))
   have HCA:=Lib.hid (show (wr.alloc (.cells #[.int .u32 (cc:Int)] 142)).cell? ⟨wr.heap.size,0,none⟩=some (limbV cc) by simp [limbV])
   have HSZ:=Lib.hid (Nat.le_trans hsm HBA.out.size)
   have HLT:=hide (World.ownsRow.lt HOA.out)
   go_wp2_with (at_builtin;refine appLH _ rfl _ _ 54 rfl (w.heap.size+3) Tryz.underlying54 _ out rfl HOA.out wr.heap.size 1 rfl cc HCA.out (by have:=hol.out;omega) HSZ.out ?_)
   intro v9 w9 ho9 hg9 hor9
   have HB9:=hide (HBA.out.grown hg9 HSZ.out (fun k hk=>(HLT.out k hk).1))
   obtain ⟨A9,c9,e9,hc9,hl9⟩:=ho9.lim (by rw [List.length_append,List.length_singleton];simp only [maxLen];have:=hol.out;omega) HLT2.out
   subst e9
   have HNE:=Lib.hid (show ∀ ad,A9=some ad→ad.block≠w.heap.size+1+1 from fun ad e=>by
    have:=(ho9.lt ad.block (by rw [e];rfl)).1
    omega)
   have HBX:=hide (HBM.out.trans (HB9.out.mono (by omega)))
   have HKX:=hide (HKC.out.below HB9.out (by omega))
   have HL9:=hide hl9
   clear ho9 hg9 hor9 hl9
   generalize hnn:(out++[cc]).length=nn at HL9 hc9 ⊢
   have HMD:=hide (natMade_any A9 nn c9 (out++[cc]) w9 HL9.out hc9)
   refine ⟨?_⟩
   go_wp2_with fail
   refine (HMD.out).mono ?_
   rintro e w6 ⟨m,hm,rfl,htr,hval,hb6⟩
   rw [hnn] at hm
   have HL6:=hide ((HL9.out.take hm).below hb6 |>.more hb6.size)
   have HB6:=hide (HBX.out.trans (hb6.mono HBX.out.size))
   have HQ6:=hide (HKX.out.below hb6 HKX.out.lt)
   have c0:=HQ6.out.cell 0
   have f0:=HQ6.out.frozen 0
   have HP0:=(HQ6.out.set_ 0 (.slice A9 m c9)).cell 0
   have hmc:m≤c9:=Nat.le_trans hm hc9
   have HNV:=hide (show NatV (w6.setCell ⟨w.heap.size+1+1,0,none⟩ (.slice A9 m c9)) (.agg #[.slice A9 m c9]) (valL xs+valL ys) from ⟨A9,m,c9,_,rfl,hmc,by rw [sizeSet];exact lim_setA HL6.out HNE.out _,htr,by rw [hval,HFI.out]⟩)
   clear hb6 htr hval
   go_wp2
   exact bodyPost_ret (v:=.agg #[.slice A9 m c9]) (by simp [results,Tryz.results112,go_sem,HP0]) rfl ⟨_,rfl,HNV.out,HB6.out.setCell (p:=⟨w.heap.size+1+1,0,none⟩) (show w.heap.size≤w.heap.size+1+1 by omega) _⟩
theorem natAdd_any (A A2:Option Addr) (n c n2 c2:Nat) (xs ys:List Nat) (w:World) (hl:Lim w w.heap.size A n xs) (hl2:Lim w w.heap.size A2 n2 ys) (hn:n≤1000) (hn2:n2≤1000) :
  Calls Tryz.prog 112 #[.agg #[.slice A n c],.agg #[.slice A2 n2 c2]] w (OfPost w (valL xs+valL ys)):=by
 by_cases h:n2≤n
 ·exact natAdd_ge A A2 n c n2 c2 xs ys w hl hl2 h hn
 ·rw [Nat.add_comm]
  exact natAdd_lt A2 A n2 c2 n c ys xs w hl2 hl (by omega) hn2
end Go.Proofs.YtojgbcmhdnappaaGreatDoor
