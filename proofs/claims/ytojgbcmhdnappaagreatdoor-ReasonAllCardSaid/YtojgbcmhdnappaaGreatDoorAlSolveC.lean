/-
  A part of the proof: SolveC. Conditions: none.
-/
import Derived.Test.YtojgbcmhdnappaaGreatDoorAlSolveM
import Derived.Laws.BitsAllLaws
import Derived.IntWalk
namespace Go.Proofs.YtojgbcmhdnappaaGreatDoor
open Go.RowKit
noncomputable def solveP (m:Nat) (ls:List (List Int)) (G:Nat):SolRes×(Int×Int) :=
 if checkF m ls=(0,-1) then (solveF m ls G [] [] [],if (solveF m ls G [] [] []).2.2 then (0,-1) else (4,-1)) else (((false,0),([],true)),checkF m ls)
theorem solveP_ok {m:Nat} {ls:List (List Int)} {G:Nat} (h:checkF m ls=(0,-1)):solveP m ls G=(solveF m ls G [] [] [],if (solveF m ls G [] [] []).2.2 then (0,-1) else (4,-1)):=by unfold solveP;rw [if_pos h]
def SolvePost (w:World) (r:SolRes×(Int×Int)) (e:Ending) (w':World):Prop :=
 ∃ A n c v,e=.returned (.tuple #[.agg #[.bool r.1.1.1,.int .u64 r.1.1.2,.slice A n c],v])∧Cls w' w'.heap.size A n r.1.2.1∧IsErr w' v r.2∧Below w.heap.size w w'
theorem cls_nil (w:World) (B:Nat):Cls w B none 0 []:=by
 refine ⟨rfl,Nat.zero_le _,[],⟨rfl,fun h=>absurd h (Nat.lt_irrefl _)⟩,fun k hk=>absurd hk (Nat.not_lt_zero _)⟩
abbrev put3 (w:World) (g:Nat) (u0 u1 u2:Value):World:=((w.setCell ⟨g,0,none⟩ u0).setCell ⟨g,1,none⟩ u1).setCell ⟨g,2,none⟩ u2
theorem put3_blk {w:World} {g:Nat} {a0 a1 a2:Value} (h:Blk w g 198 #[a0,a1,a2]) (u0 u1 u2:Value):Blk (put3 w g u0 u1 u2) g 198 #[u0,u1,u2]:=((h.set_ 0 u0).set_ 1 u1).set_ 2 u2
theorem put3_below {w0 w:World} {B g:Nat} (h:Below B w0 w) (hg:B≤g) (u0 u1 u2:Value):Below B w0 (put3 w g u0 u1 u2) :=
 ((h.setCell (p:=⟨g,0,none⟩) hg u0).setCell (p:=⟨g,1,none⟩) hg u1).setCell (p:=⟨g,2,none⟩) hg u2
theorem cls_none {w:World} {B n:Nat} {A:Option Addr} {ls:List (List Int)} (h:Cls w B A n ls) (e:A=none):n=0:=by
 rcases Nat.eq_zero_or_pos n with h0 | h0
 ·exact h0
 ·obtain ⟨ad,_,_,_,e2,_⟩:=h.at_ h0
  rw [e] at e2
  cases e2
theorem SolM.start {w1 w2:World} {B0:Nat} {vl:Value} {ls:List (List Int)} {cs:Array Value} (hcs:cs=stCells [] (.slice none 0 0)) (hB:B0≤w1.heap.size) (hb:Below w1.heap.size w1 w2) (hl:OwnC w2 w1.heap.size (· < B0) vl ls) :
    SolM w1 B0 (· < w2.heap.size) (· < B0) w2.heap.size (.slice none 0 0) (.slice none 0 0) (.slice none 0 0) vl [] [] [] ls (w2.alloc (.cells cs 270)):=by
  subst hcs
  have hsz:=hb.size
  have hlt:=hl.lt
  refine ⟨⟨Cons.nil,Blk.new w2 _ _,Own.nil _ _,fun i hi=>⟨by simp;omega,by have:i<w2.heap.size:=hi;omega,by simp [Value.ownBlock]⟩,by simp;omega⟩,Own.nil _ _,ownC_nil _ _ _,?_,by simp [Value.ownBlock],by simp [Value.ownBlock],fun k e=>(hlt k e).2,by simp [Value.ownBlock],fun i hi=>⟨Nat.lt_of_lt_of_le hi (Nat.le_trans hB hsz),by simp [Value.ownBlock],by simp [Value.ownBlock],fun e=>Nat.lt_irrefl _ (Nat.lt_of_lt_of_le hi (Nat.le_trans hB (hlt i e).1))⟩,fun i hi=>.inl hi,fun i hi=>Nat.lt_of_lt_of_le hi hsz,hb.alloc hsz _⟩
  exact hl.below ((Below.refl w2.heap.size w2).alloc (Nat.le_refl _) _) (fun i hi=>Nat.lt_of_lt_of_le hi (Nat.le_trans hB hsz))
theorem put3_keep {w:World} {T:Nat→Prop} {g:Nat} (hT:¬T g) (u0 u1 u2:Value):Keep T w (put3 w g u0 u1 u2) :=
 ((Keep.setCell (p:=⟨g,0,none⟩) hT u0).trans (Keep.setCell (p:=⟨g,1,none⟩) hT u1)).trans (Keep.setCell (p:=⟨g,2,none⟩) hT u2)
theorem OwnC.clsT {w:World} {base n c:Nat} {T D:Nat→Prop} {A:Option Addr} {ls:List (List Int)} (h:OwnC w base T (.slice A n c) ls) (hA:∀ k,(Value.slice A n c).ownBlock=some k→D k) (hT:∀ i,T i→D i):ClsP w D A n ls:=by
 have hn:n=ls.length:=by
  obtain ⟨A',c',e,_⟩:=h.form
  cases e
  rfl
 subst hn
 obtain ⟨h1,vs,h2,h3⟩:=h
 refine ⟨rfl,h1,vs,h3.1,fun hn=>?_,fun k hk=>?_⟩
 ·obtain ⟨ad,e,hb,hc⟩:=(Reads.of_own h2).2 hn
  exact ⟨ad,e,hA _ (by rw [e];rfl),hc⟩
 ·obtain ⟨A',n',c',e,hc,hi⟩:=h3.2 k hk
  exact ⟨A',n',c',e,hc,hi.mono hT⟩
structure SolB (w1:World) (B0:Nat) (b:Nat) (vt vd vp vl:Value) (m:Nat) (ls:List (List Int)) (R:SolRes) (g:Nat) (tr:List Int) (st:Decs) (pf:List (List Int)) (w:World):Prop where
 mem:∃ S T,SolM w1 B0 S T b vt vd vp vl tr (lensF st) pf (ls++pf) w
 ok:SolOk m ls tr st pf
 go:solveF m ls g tr st pf=R
theorem or_bit (a k:Nat) (ha:a<2 ^ 24) (hk:k<24):bits BinOp.or IntKind.u64 (a:Int) (IntKind.u64.wrap (2 ^ k))=((a ||| 1 <<< k:Nat):Int):=by
 have h2:2 ^ k<2 ^ 24:=Nat.pow_lt_pow_right (by decide) hk
 have e:((2:Int) ^ k)=((2 ^ k:Nat):Int):=by simp
 rw [e,Nat.shiftLeft_eq,Nat.one_mul]
 generalize 2 ^ k=p at h2
 rw [IntWalk.u64_in (p:Int) ⟨by omega,by omega⟩,u64_or_nat a p (by omega) (by omega)]
structure ValI (wo:World) (now:List Int) (k:Nat) (w:World):Prop where
 bel:Below wo.heap.size wo w
 blk:Blk w wo.heap.size 198 #[.bool true,.int .u64 (bitsF now k:Nat),.slice none 0 0]
structure NegI (wo:World) (st:Decs) (k:Nat) (v:Value) (w:World):Prop where
 bel:Below wo.heap.size wo w
 own:Own w wo.heap.size v ((negsF st).take k)
theorem answer_blk {w w1 w2:World} {u0 u1 u2:Value} (h:Blk w1 w.heap.size 198 #[u0,u1,u2]) (hb:Below w1.heap.size w1 w2):Blk w2 w.heap.size 198 #[u0,u1,u2]:=h.below hb h.lt
theorem slice_vars (a:Addr) (m:Nat) (hm:m≤24) (w:World):(Instr.sliceAt 268 (.pointer (some a)) none (some (.int .i64 (m:Int))) none).run Tryz.prog w=.ok (.slice (some a) m 24) w:=by
 rw [run_sliceAt_array_h (P:=Tryz.prog) w 268 a (by kernel_rfl) .i64 (m:Int) (by omega) (show (m:Int)≤((Tryz.prog.arrayLen 268:Nat):Int) by
  rw [show Tryz.prog.arrayLen 268=24 by kernel_rfl];omega)]
 rw [show Tryz.prog.arrayLen 268=24 by kernel_rfl,show ((sizeOf (Tryz.prog.elem 268)).run Tryz.prog w)=.ok 1 w by kernel_rfl]
 simp [slicedAt,Result.andThen,Addr.add]
set_option maxRecDepth 100000 in
set_option maxHeartbeats 8000000 in
theorem solve_ok (m:Nat) (A:Option Addr) (n c:Nat) (ls:List (List Int)) (w:World) (G:Nat) (hG:solMu [] []≤G) (hcl:Cls w w.heap.size A n ls) (hck:checkF m ls=(0,-1)) :
  Calls Tryz.prog 100 #[.int .i64 m,.slice A n c] w (SolvePost w (solveP m ls G)):=by
 have HB0:=hide ((Below.refl w.heap.size w).alloc (Nat.le_refl _) (.cells #[.bool false,.int .u64 0,.slice none 0 0] 198))
 have HK:=hide (check_any m A n c ls (w.alloc (.cells #[.bool false,.int .u64 0,.slice none 0 0] 198)) ((hcl.below HB0.out).more HB0.out.size))
 rw [hck] at HK
 have HOK:=hide (checkF_ok hck)
 have HRP:=Lib.hid (solveP_ok (G:=G) hck)
 have HC:=hide (hcl.below HB0.out)
 have hm:m≤24:=by have:=HOK.out.v1;omega
 have HN:=hide (cls_none hcl)
 have hn200:n≤200:=by have:=HOK.out.many;have:=hcl.len;omega
 have HRNG:=hide HOK.out.rng
 clear hcl hck
 obtain ⟨R,HRR⟩:∃ R,Hid (solveF m ls G [] [] []=R):=⟨_,Lib.hid rfl⟩
 rw [HRR.out] at HRP
 go_enter Tryz.func100,Tryz.ntmps100
 go_wp2_with fail
 refine (HK.out).mono ?_
 rintro e w1 ⟨ve,rfl,hE,hb1⟩
 obtain rfl:ve=.nilIface:=by
  rcases hE with ⟨_,h⟩ | ⟨_,h,_⟩ | ⟨b,_,h,_⟩
  ·exact h
  ·simp at h
  ·simp at h
 clear hE
 have HA:=hide ((Blk.new w 198 #[.bool false,.int .u64 0,.slice none 0 0]).below hb1 (by simp))
 have HB1:=hide (HB0.out.trans (hb1.mono HB0.out.size))
 have HCL:=hide (clone_any A n c w.heap.size ls w1 (HC.out.below (hb1.mono (by simp))) HB1.out.size (by omega) HN.out)
 clear hb1
 go_wp2_with fail
 refine (HCL.out).mono ?_
 rintro e w2 ⟨v2,rfl,ho2,hb2⟩
 have HM:=hide (SolM.start stCells_nil.symm HB1.out.size hb2 ho2)
 clear hb2 ho2
 go_wp2
 go_loopg [1,8,9] G (fun gg vl vd vp wr=>∃ (tr:List Int) (st:Decs) (pf:List (List Int)) (vt:Value),Hid (SolB w1 w.heap.size w2.heap.size vt vd vp vl m ls R gg tr st pf wr)∧solMu tr pf≤gg)
 case atStart=>exact ⟨[],[],[],_,hide ⟨⟨_,_,by rw [List.append_nil];exact HM.out⟩,SolOk.start HRNG.out,HRR.out⟩,hG⟩
 case round =>
  obtain ⟨tr,st,pf,vt,hR,hmu⟩:=hrel
  obtain ⟨S,T,hM⟩:=hR.out.mem
  have HM2:=hide hM
  obtain ⟨Al,cl,rfl,_⟩:=hM.l.form
  have HOKR:=hide (hR.out.ok.rows.ok hm)
  have HS:=hide (spread_any S w2.heap.size w1.heap.size vt tr Al (ls++pf).length cl (ls++pf) wr hM.st hM.clsP HOKR.out)
  clear hM
  obtain ⟨now,bd,HSP⟩:∃ now bd,Hid (spreadR (ls++pf) tr=(now,bd)):=⟨_,_,Lib.hid rfl⟩
  rw [HSP.out] at HS
  have HLN:=Lib.hid (show (ls++pf).length=ls.length+pf.length by rw [List.length_append])
  generalize (ls++pf).length=nl at HS HLN HM2 ⊢
  go_wp2_with fail
  refine (HS.out).mono ?_
  rintro e w3 ⟨rfl,vt3,hst3,hkp3⟩
  have HM3:=hide (HM2.out.step hst3 hkp3)
  have HOK3:=hide (hR.out.ok.spread hm HSP.out)
  clear hst3 hkp3 HM2 HS
  obtain ⟨g,rfl⟩:∃ g,gk=g+1:=⟨gk-1,by have:=solMu_pos hR.out.ok;omega⟩
  obtain ⟨Ad,cd,rfl,hcd⟩:=HM3.out.d.form
  have HND:=Lib.hid (lens_len st)
  have HCD:=hide hcd
  clear hcd
  generalize (lensF st).length=nd at HM3 HND HCD
  obtain ⟨Ap,cp,rfl,hcp⟩:=HM3.out.p.form
  have HCP:=hide hcp
  clear hcp
  obtain ⟨np,HNP⟩:∃ np,Hid (pf.length=np):=⟨_,Lib.hid rfl⟩
  rw [HNP.out] at HM3 HCP ⊢
  by_cases hbd:0≤bd
  ·have hb:=HM3.out.st.blk.lt
   have cT3:=(HM3.out.st.blk.cell 24).trans (stCells_last now vt3)
   have hst24:st.length≤24:=Nat.le_trans (lens_le HOK3.out.ch) HOK3.out.cons.len
   go_wp2
   go_loopw [10,12,31] (fun cv _ i wi=>∃ k:Nat,k≤nd∧i=.int .i64 k∧Hid (NegI w3 st k cv wi)) (fun _ _ i _=>nd-(intOf i).toNat)
   case atStart=>exact ⟨0,Nat.zero_le _,rfl,hide ⟨Below.refl _ _,Own.nil _ _⟩⟩
   case round =>
    obtain ⟨k,hk,rfl,hI⟩:=hrel
    have HMI:=hide (HM3.out.below hI.out.bel)
    by_cases hlt:k<nd
    ·have hks:k<st.length:=by have:=HND.out;omega
     obtain ⟨q,hq1,hq2,hq3⟩:=chain_at HOK3.out.ch k hks
     obtain ⟨gt,ct,rfl,_⟩:=HM3.out.st.own.row (by intro e;rw [e] at hq2;cases hq2)
     obtain ⟨ad,rfl,hbd1,hcd1⟩:=HMI.out.d.ints.at_ hlt
     obtain ⟨adt,e,hbt1,hct1⟩:=HMI.out.st.own.ints.at_ hq2
     cases e
     rw [show (⟨gt,0,none⟩:Addr).add q=⟨gt,q,none⟩ by unfold Addr.add;split <;> simp [*]] at hct1
     rw [hq1] at hcd1
     have HQ3:=Lib.hid hq3
     have cTi:=(HMI.out.st.blk.cell 24).trans (stCells_last now (.slice (some ⟨gt,0,none⟩) now.length ct))
     have hyl:=HOK3.out.cons.1 (now.getD q 0) (by
      rw [List.getD_eq_getElem?_getD,List.getElem?_eq_getElem hq2];exact List.getElem_mem hq2)
     clear hq1 hq3
     generalize now.getD q 0=y at hct1 HQ3 hyl
     generalize now.length=nn at *
     have HXI:=Lib.hid (show I64 (-y) by unfold I64;rcases hyl with h | h <;> omega)
     have hy24 : -24≤y∧y≤24:=by rcases hyl with h | h <;> omega
     clear hyl
     obtain ⟨Ac,cc,hcv,hcc⟩:=hI.out.own.form
     have HNT:=Lib.hid (show (negsF st).take (k+1)=(negsF st).take k++[-y] by rw [take_snoc _ k 0 (by rw [negs_len];exact hks),HQ3.out])
     have HOA:=hide (hI.out.own.alloc (.cells #[.int .i64 (-y)] 3))
     have HCA:=Lib.hid (show (wr.alloc (.cells #[.int .i64 (-y)] 3)).cell? ⟨wr.heap.size,0,none⟩=some (.int .i64 (-y)) by simp)
     have HBA:=Lib.hid (show w3.heap.size≤(wr.alloc (.cells #[.int .i64 (-y)] 3)).heap.size by have:=hI.out.bel.size;simp;omega)
     have HLT:=hide (hI.out.own.lt)
     have HLL:=Lib.hid (show ((negsF st).take k).length≤30 by rw [List.length_take,negs_len];omega)
     clear hcv
     go_wp2_with (at_builtin;refine app1 _ rfl _ _ 125 rfl w3.heap.size Tryz.underlying125 _ ((negsF st).take k) rfl HOA.out wr.heap.size 1 (-y) rfl HCA.out HXI.out (by have:=HLL.out;omega) HBA.out ?_;intro v' w1' ho1 hg1 hor;have HO1:=hide ho1;have HG1:=hide hg1;clear ho1 hg1 hor)
     go_roundw
     case rel=>exact ⟨k+1,by omega,by go_num,hide ⟨(hI.out.bel.alloc hI.out.bel.size _).grown HG1.out HBA.out (fun k hk=>(HLT.out k hk).1),by rw [HNT.out];exact HO1.out⟩⟩
     case measure=>simp [intOf];omega
    ·obtain rfl:k=nd:=by omega
     have HIO:=hide (show Own wr w3.heap.size _ (negsF st) by
      have:=hI.out.own
      rw [List.take_of_length_le (by rw [negs_len];have:=HND.out;omega)] at this
      exact this)
     have HMG:=hide (HM3.out.grow hI.out.bel)
     obtain ⟨Ac,cc,rfl,hcc⟩:=HIO.out.form
     have HCCC:=hide hcc
     have HCZ:=hide (intsP_of_ints (D:=fun i=>T i∨(w3.heap.size≤i∧i<wr.heap.size)) HIO.out.ints (fun hn ad e=>by
      subst e
      have:=HIO.out.lt ad.block rfl
      exact .inr this))
     clear hcc
     obtain ⟨nc,HNC⟩:∃ nc,Hid ((negsF st).length=nc):=⟨_,Lib.hid rfl⟩
     have HNS:=Lib.hid (show nc=st.length by rw [←HNC.out,negs_len])
     rw [HNC.out] at HCZ HCCC
     simp only [HNC.out]
     have HMA:=hide (HMG.out.below ((Below.refl wr.heap.size wr).alloc (Nat.le_refl _) (.cells #[.slice Ac nc cc] 125)))
     have HCZA:=hide (HCZ.out.keep (Keep.of_below (fun i hi=>HMG.out.lt (HMG.out.TS i hi).1) ((Below.refl wr.heap.size wr).alloc (Nat.le_refl _) (.cells #[.slice Ac nc cc] 125))))
     have HCA:=Lib.hid (show (wr.alloc (.cells #[.slice Ac nc cc] 125)).cell? ⟨wr.heap.size,0,none⟩=some (.slice Ac nc cc) by simp)
     have HFW:=hide HOK3.out.few
     go_wp2_with (at_builtin;refine appC1H _ rfl _ _ _ rfl w1.heap.size _ Tryz.underlying26 _ pf rfl HMA.out.p wr.heap.size 1 rfl Ac nc cc (negsF st) HCA.out HCCC.out HCZA.out (by have:=HFW.out;omega) HMA.out.bel.size (fun i hi=>⟨HMA.out.lt (HMA.out.TS i hi).1,(HMA.out.TS i hi).2.2.1⟩) ?_)
     intro vp4 w4 ho4 hg4 hor4
     have HM4:=hide (HMA.out.putP ho4 hg4 (by rw [World.size_alloc'];exact hor4))
     have HCZ4:=hide (HCZA.out.keep (keepT HMA.out hg4 fun i hi=>(HMA.out.TS i hi).2.2.1))
     obtain ⟨Ap4,cp4,hvp4,hcp4⟩:=ho4.form
     have HCP4:=hide hcp4
     have HNP4:=Lib.hid (show (pf++[negsF st]).length=np+1 by rw [List.length_append,List.length_singleton,HNP.out])
     rw [HNP4.out] at hvp4 HCP4
     clear ho4 hg4 hor4 hcp4
     subst hvp4
     rcases st with _ | ⟨⟨t,v⟩,r⟩
     ·obtain rfl:nc=0:=by rw [HNS.out];rfl
      have HA4:=hide (answer_blk HA.out HM4.out.bel)
      have c0:=HA4.out.cell 0
      have c1:=HA4.out.cell 1
      have c2:=HA4.out.cell 2
      have f0:=HA4.out.frozen 0
      have f1:=HA4.out.frozen 1
      have f2:=HA4.out.frozen 2
      have HRE:=Lib.hid (show R=((false,0),(pf++[[]],true)) by rw [←hR.out.go];exact solve_end HSP.out hbd)
      have HCLS:=hide (show Cls (put3 w4 w.heap.size (.bool false) (.int .u64 0) (.slice Ap4 (np+1) cp4)) (put3 w4 w.heap.size (.bool false) (.int .u64 0) (.slice Ap4 (np+1) cp4)).heap.size Ap4 (np+1) (pf++[[]]) from by
       have hb14:=HM4.out.bel.size
       have hb01:=HA.out.lt
       have:=HM4.out.p.clsT (D:=fun i=>i<w4.heap.size∧i≠w.heap.size) (fun k e=>⟨(HM4.out.p.lt k e).2,fun e2=>by have:=(HM4.out.p.lt k e).1;omega⟩) (fun i hi=>⟨HM4.out.lt (HM4.out.TS i hi).1,fun e2=>by rcases HM4.out.lo i hi with h | h <;> omega⟩)
       exact (this.keep (put3_keep (fun h=>h.2 rfl) _ _ _)).cls fun i hi=>by rw [size_setCell,size_setCell,size_setCell];exact hi.1)
      have HP0:=(put3_blk HA4.out (.bool false) (.int .u64 0) (.slice Ap4 (np+1) cp4)).cell 0
      have HP1:=(put3_blk HA4.out (.bool false) (.int .u64 0) (.slice Ap4 (np+1) cp4)).cell 1
      have HP2:=(put3_blk HA4.out (.bool false) (.int .u64 0) (.slice Ap4 (np+1) cp4)).cell 2
      have HBW:=hide (put3_below (g:=w.heap.size) (HB1.out.trans (HM4.out.bel.mono HB1.out.size)) (Nat.le_refl _) (.bool false) (.int .u64 0) (.slice Ap4 (np+1) cp4))
      refine ⟨?_⟩
      go_wp2
      rw [HRP.out,HRE.out]
      exact bodyPost_ret (v:=.tuple #[.agg #[.bool false,.int .u64 0,.slice Ap4 (np+1) cp4],.nilIface]) (by simp [results,Tryz.results100,go_sem,HP0,HP1,HP2]) rfl ⟨Ap4,np+1,cp4,.nilIface,rfl,HCLS.out,.inl ⟨rfl,rfl⟩,HBW.out⟩
     ·have hnz:(((nc:Nat):Int)==0)=false:=by
       have:=HNS.out
       simp only [List.length_cons] at this
       simp;omega
      by_cases hlim:2000≤pf.length+1
      ·have HRE:=Lib.hid (show R=((false,0),([],false)) by rw [←hR.out.go];exact solve_limit HSP.out hbd hlim)
       obtain rfl:np=1999:=by have:=HNP.out;have:=HFW.out;omega
       have HA4:=hide (answer_blk HA.out HM4.out.bel)
       have c0:=HA4.out.cell 0
       have c1:=HA4.out.cell 1
       have c2:=HA4.out.cell 2
       have f0:=HA4.out.frozen 0
       have f1:=HA4.out.frozen 1
       have f2:=HA4.out.frozen 2
       have HP0:=(put3_blk HA4.out (.bool false) (.int .u64 0) (.slice none 0 0)).cell 0
       have HP1:=(put3_blk HA4.out (.bool false) (.int .u64 0) (.slice none 0 0)).cell 1
       have HP2:=(put3_blk HA4.out (.bool false) (.int .u64 0) (.slice none 0 0)).cell 2
       have HBW:=hide (put3_below (g:=w.heap.size) (HB1.out.trans (HM4.out.bel.mono HB1.out.size)) (Nat.le_refl _) (.bool false) (.int .u64 0) (.slice none 0 0))
       refine ⟨?_⟩
       go_wp2
       rw [HRP.out,HRE.out]
       exact bodyPost_ret (v:=.tuple #[.agg #[.bool false,.int .u64 0,.slice none 0 0],_]) (by simp [results,Tryz.results100,go_sem,HP0,HP1,HP2]) rfl ⟨none,0,0,_,rfl,cls_nil _ _,isErr_code (c:=4) (by omega) (by omega),HBW.out⟩
      ·have hnl:(((np+1:Nat):Int)==2000)=false:=by have:=HNP.out;simp;omega
       have HNDR:=Lib.hid (show k=r.length+1 by have:=HND.out;simpa using this)
       have HMB:=hide (HM4.out.below ((Below.refl w4.heap.size w4).alloc (Nat.le_refl _) (.cells #[.slice Ac nc cc] 125)))
       have HCZB:=hide (HCZ4.out.keep (Keep.of_below (fun i hi=>HM4.out.lt (HM4.out.TS i hi).1) ((Below.refl w4.heap.size w4).alloc (Nat.le_refl _) (.cells #[.slice Ac nc cc] 125))))
       have HCB:=Lib.hid (show (w4.alloc (.cells #[.slice Ac nc cc] 125)).cell? ⟨w4.heap.size,0,none⟩=some (.slice Ac nc cc) by simp)
       have HLL:=Lib.hid (show (ls++pf).length≤1000000 by have:=HLN.out;have:=HOK.out.many;have:=HFW.out;rw [List.length_append];omega)
       have hM4pl:=HM4.out.pl
       refine ⟨?_⟩
       go_wp2_with (at_builtin;refine appC1H _ rfl _ _ _ rfl w1.heap.size _ Tryz.underlying26 _ (ls++pf) rfl HMB.out.l w4.heap.size 1 rfl Ac nc cc (negsF ((t,v) :: r)) HCB.out HCCC.out HCZB.out (by have:=HLL.out;omega) HMB.out.bel.size (fun i hi=>⟨HMB.out.lt (HMB.out.TS i hi).1,(HMB.out.TS i hi).2.2.2⟩) ?_)
       intro vl5 w5 ho5 hg5 hor5
       have HM5:=hide (HMB.out.putL ho5 hg5 (by rw [World.size_alloc'];exact hor5))
       clear ho5 hg5 hor5 hM4pl
       obtain ⟨htl,_,htk⟩:=prefix_getD HOK3.out.ch.1
       have HBK:=hide (back_any _ w2.heap.size w1.heap.size t.length vt3 now w5 HM5.out.st htl)
       rw [htk] at HBK
       obtain ⟨ad,rfl,hbd1,hcd1⟩:=HM5.out.d.ints.at_ (k:=r.length) (by have:=HNDR.out;omega)
       rw [show (lensF ((t,v) :: r)).getD r.length 0=(t.length:Int) by
        rw [lens_snoc,List.getD_eq_getElem?_getD,List.getElem?_append_right (by rw [lens_len];exact Nat.le_refl _),lens_len,Nat.sub_self];rfl] at hcd1
       obtain rfl:=HNDR.out
       have hcd9:=HCD.out
       have hr24:r.length≤24:=by simp only [List.length_cons] at hst24;omega
       clear htl htk
       refine ⟨?_⟩
       go_wp2_with fail
       refine (HBK.out).mono ?_
       rintro e w6 ⟨rfl,vt6,hst6,hkp6⟩
       have HM6:=hide ((HM5.out.step hst6 hkp6).cutD (m:=r.length) (by omega))
       rw [show (lensF ((t,v) :: r)).take r.length=lensF r by rw [lens_snoc,List.take_left' (lens_len r)]] at HM6
       try rw [show ls++pf++[negsF ((t,v) :: r)]=ls++(pf++[negsF ((t,v) :: r)]) by rw [List.append_assoc]] at HM6
       have HGO:=Lib.hid (show solveF m ls g t r (pf++[negsF ((t,v) :: r)])=R by rw [←hR.out.go];exact (solve_back HSP.out hbd hlim).symm)
       clear hst6 hkp6
       go_wp2
       go_roundg g
       case measure=>omega
       case rel=>exact ⟨t,r,pf++[negsF ((t,v) :: r)],vt6,hide ⟨⟨_,_,HM6.out⟩,HOK3.out.back hlim,HGO.out⟩,by have:=solMu_back (t:=t) (c:=negsF ((t,v) :: r)) hR.out.ok.cons.len HFW.out;omega⟩
  ·have hb:=HM3.out.st.blk.lt
   have cT3:=(HM3.out.st.blk.cell 24).trans (stCells_last now vt3)
   have HIX:=hide (index0_any 24 m now vt3 w2.heap.size w3 HM3.out.st.blk hm)
   have hsv:=slice_vars ⟨w2.heap.size,0,none⟩ m hm
   have hbn:bd<0:=by omega
   have h1f:=(freeF_bd m now).1
   by_cases hfr:freeF m now≤m
   ·obtain ⟨F,HF⟩:∃ F:Nat,freeF m now=F+1:=⟨freeF m now-1,by omega⟩
    have HNO:=hide (freeF_none hfr)
    have HNX:=hide (HOK3.out.next hm hfr)
    have HGO:=Lib.hid (show solveF m ls g (now++[(freeF m now:Int)]) ((now,(freeF m now:Int)) :: st) pf=R by rw [←hR.out.go];exact (solve_next HSP.out hbn hfr).symm)
    rw [idxF_in hfr] at HIX
    rw [HF,show (((F+1:Nat)):Int)=(F:Int)+1 by omega] at HNO HNX HGO
    rw [HF,show (((F+1:Nat)):Int)-1=(F:Int) by omega] at HIX
    have hFm:F<24:=by omega
    obtain ⟨At,ct,rfl,_⟩:=HM3.out.st.own.form
    have hn24:=HOK3.out.cons.len
    have HPX:=hide (spread_ok hm hR.out.ok.rows hR.out.ok.cons hR.out.ok.rng HSP.out).1
    have HMA:=hide (HM3.out.below ((Below.refl w3.heap.size w3).alloc (Nat.le_refl _) (.cells #[.int .i64 now.length] 3)))
    have HCA:=Lib.hid (show (w3.alloc (.cells #[.int .i64 now.length] 3)).cell? ⟨w3.heap.size,0,none⟩=some (.int .i64 now.length) by simp)
    have HXI:=Lib.hid (show I64 (now.length:Int) by unfold I64;omega)
    have HLL:=Lib.hid (show (lensF st).length≤100 by rw [lens_len];have:=lens_le HOK3.out.ch;omega)
    clear hfr HF h1f
    go_wp2_with (first | (go_at_call 155;refine (HIX.out).mono ?_;rintro e w' ⟨rfl,rfl⟩) | (at_builtin;refine app1H _ rfl _ _ 31 rfl w1.heap.size Tryz.underlying31 _ (lensF st) rfl HMA.out.d w3.heap.size 1 now.length rfl HCA.out HXI.out (by have:=HLL.out;omega) HMA.out.bel.size ?_))
    intro vd4 w4 ho4 hg4 hor4
    have HM4:=hide (HMA.out.putD ho4 hg4 (by rw [World.size_alloc'];exact hor4))
    clear ho4 hg4 hor4
    have HS4:=hide (set_any _ ((F:Int)+1) w2.heap.size w1.heap.size _ now w4 HM4.out.st (.inl ⟨by omega,by omega⟩) HNO.out.1 HNO.out.2)
    refine ⟨?_⟩
    go_wp2_with fail
    refine (HS4.out).mono ?_
    rintro e w5 ⟨rfl,vt5,hst5,hkp5⟩
    have HM5:=hide (HM4.out.step hst5 hkp5)
    clear hst5 hkp5
    have HLS:=Lib.hid (lens_snoc (now,(F:Int)+1) st)
    go_wp2
    go_roundg g
    case measure=>omega
    case rel=>exact ⟨now++[(F:Int)+1],(now,(F:Int)+1) :: st,pf,vt5,hide ⟨⟨_,_,by rw [HLS.out];exact HM5.out⟩,HNX.out,HGO.out⟩,by have:=solMu_next (pf:=pf) (x:=(F:Int)+1) HPX.out HNX.out.cons.len;omega⟩
   ·have hfo:m<freeF m now:=by omega
    have HRE:=Lib.hid (show R=((true,valsF now),([],true)) by rw [←hR.out.go];exact solve_done HSP.out hbn hfo)
    rw [idxF_out hfo] at HIX
    clear hfr hfo h1f
    go_wp2_with (go_at_call 155;refine (HIX.out).mono ?_;rintro e w' ⟨rfl,rfl⟩)
    go_wp2
    go_loopw [16,91] (fun _ i wi=>∃ k:Nat,k≤m∧i=.int .i64 k∧Hid (ValI w3 now k wi)) (fun _ i _=>m-(intOf i).toNat)
    case atStart=>exact ⟨0,Nat.zero_le _,rfl,hide ⟨(Below.refl w3.heap.size w3).alloc (Nat.le_refl _) _,Blk.new _ _ _⟩⟩
    case round =>
     obtain ⟨k,hk,rfl,hV⟩:=hrel
     by_cases hlt:k<m
     ·have hc:wr.cell? ⟨w2.heap.size,k,none⟩=some (.int .i64 (litT now (k+1))):=(hV.out.bel.cell hb).trans ((HM3.out.st.blk.cell k).trans (stCells_at now vt3 k (by omega)))
      have c1:=hV.out.blk.cell 1
      have f1:=hV.out.blk.frozen 1
      have HBS:=Lib.hid (bitsF_succ now k)
      have hbl:=bitsF_lt now k
      have hk24:k<24:=by omega
      have hbd:=litT_bd now (k+1)
      generalize litT now ((k:Int)+1)=y at hc HBS hbd
      by_cases hy:y=1
      ·subst hy
       rw [if_pos rfl] at HBS
       go_wp2
       go_region
       all_goals
        go_wp2
        go_roundw
        case rel =>
         refine ⟨k+1,by omega,by go_num,hide ⟨(hV.out.bel.setCell (p:=⟨w3.heap.size,1,none⟩) (Nat.le_refl _) _).drew,?_⟩⟩
         rw [or_bit _ _ (Nat.lt_of_lt_of_le hbl (Nat.pow_le_pow_right (by decide) (Nat.le_of_lt hk24))) hk24,HBS.out]
         exact (hV.out.blk.set_ 1 _).drew
        case measure=>simp [intOf];omega
      ·have hy1:(y==1)=false:=by simp [hy]
       rw [if_neg hy] at HBS
       go_wp2
       go_roundw
       case rel=>exact ⟨k+1,by omega,by go_num,hide ⟨hV.out.bel,by rw [HBS.out];exact hV.out.blk⟩⟩
       case measure=>simp [intOf];omega
     ·obtain rfl:k=m:=by omega
      have HVB:=Lib.hid (vals_bits HOK3.out.rng)
      have HA3:=hide (answer_blk HA.out (HM3.out.bel.trans (hV.out.bel.mono HM3.out.bel.size)))
      have a0:=hV.out.blk.cell 0
      have a1:=hV.out.blk.cell 1
      have a2:=hV.out.blk.cell 2
      have c0:=HA3.out.cell 0
      have c1:=HA3.out.cell 1
      have c2:=HA3.out.cell 2
      have f0:=HA3.out.frozen 0
      have f1:=HA3.out.frozen 1
      have f2:=HA3.out.frozen 2
      rw [HVB.out] at a1
      have HP0:=(put3_blk HA3.out (.bool true) (.int .u64 (valsF now:Nat)) (.slice none 0 0)).cell 0
      have HP1:=(put3_blk HA3.out (.bool true) (.int .u64 (valsF now:Nat)) (.slice none 0 0)).cell 1
      have HP2:=(put3_blk HA3.out (.bool true) (.int .u64 (valsF now:Nat)) (.slice none 0 0)).cell 2
      have HBW:=hide (put3_below (g:=w.heap.size) (HB1.out.trans ((HM3.out.bel.trans (hV.out.bel.mono HM3.out.bel.size)).mono HB1.out.size)) (Nat.le_refl _) (.bool true) (.int .u64 (valsF now:Nat)) (.slice none 0 0))
      go_wp2
      rw [HRP.out,HRE.out]
      exact bodyPost_ret (v:=.tuple #[.agg #[.bool true,.int .u64 (valsF now:Nat),.slice none 0 0],.nilIface]) (by simp [results,Tryz.results100,go_sem,HP0,HP1,HP2]) rfl ⟨none,0,0,.nilIface,rfl,cls_nil _ _,.inl ⟨rfl,rfl⟩,HBW.out⟩
end Go.Proofs.YtojgbcmhdnappaaGreatDoor
