/-
  A part of the proof: RefSolve. Conditions: none.
-/
import Derived.Test.YtojgbcmhdnappaaGreatDoorAlRefSolM
import Derived.IntWalk
import Derived.Laws.BitsAllLaws
namespace Go.Proofs.YtojgbcmhdnappaaGreatDoor
open Go.RowKit
theorem or_bit' (a k:Nat) (ha:a<2 ^ 24) (hk:k<24):bits BinOp.or IntKind.u64 (a:Int) (IntKind.u64.wrap (2 ^ k))=((a ||| 1 <<< k:Nat):Int):=by
 have h2:2 ^ k<2 ^ 24:=Nat.pow_lt_pow_right (by decide) hk
 have e:((2:Int) ^ k)=((2 ^ k:Nat):Int):=by simp
 rw [e,Nat.shiftLeft_eq,Nat.one_mul]
 generalize 2 ^ k=p at h2
 rw [IntWalk.u64_in (p:Int) ⟨by omega,by omega⟩,u64_or_nat a p (by omega) (by omega)]
def RefSolvePost (w:World) (r:SolRes) (e:Ending) (w':World):Prop :=
 ∃ A n c,e=.returned (.tuple #[.bool r.1.1,.int .u64 r.1.2,.slice A n c,.bool r.2.2])∧Cls w' w'.heap.size A n r.2.1∧Below w.heap.size w w'
theorem cls_nil' (w:World) (B:Nat):Cls w B none 0 [] :=
 ⟨rfl,Nat.zero_le _,[],⟨rfl,fun h=>absurd h (Nat.lt_irrefl _)⟩,fun _ hk=>absurd hk (Nat.not_lt_zero _)⟩
structure RefB (w0:World) (vl vd vm vp:Value) (At:Option Addr) (nt ct m:Nat) (ls:List (List Int)) (R:SolRes) (g:Nat) (tr:List Int) (st:Decs) (pf:List (List Int)) (w:World):Prop where
 mem:∃ T,RefM w0 T vl vd vm vp At nt ct (ls++pf) (toldF st) (madeF st) pf tr w
 ok:SolOk m ls tr st pf
 go:solveF m ls g tr st pf=R
structure NegR (wo:World) (st:Decs) (k:Nat) (v:Value) (w:World):Prop where
 bel:Below wo.heap.size wo w
 own:Own w wo.heap.size v ((negsF st).take k)
set_option maxRecDepth 100000 in
set_option maxHeartbeats 8000000 in
theorem refSolve_any (m:Nat) (A:Option Addr) (n c:Nat) (ls:List (List Int)) (w:World) (G:Nat) (hG:solMu [] []≤G) (hcl:Cls w w.heap.size A n ls) (hck:checkF m ls=(0,-1)) :
    Calls Tryz.prog 102 #[.int .i64 m,.slice A n c] w (RefSolvePost w (solveF m ls G [] [] [])):=by
  have HOK:=hide (checkF_ok hck)
  have hm:m≤24:=by have:=HOK.out.v1;omega
  have hn200:n≤200:=by have:=HOK.out.many;have:=hcl.len;omega
  have hlen:=Lib.hid hcl.len
  have HRNG:=hide HOK.out.rng
  obtain ⟨us,hr,hu⟩:=hcl.cells
  have Hr:=hide hr
  have Hu:=hide hu
  have hmk:=hide (ownC_empty w w.heap.size (· < w.heap.size) (Nat.le_refl _))
  clear hcl hck hr hu
  obtain ⟨R,HRR⟩:∃ R,Hid (solveF m ls G [] [] []=R):=⟨_,Lib.hid rfl⟩
  go_enter Tryz.func102,Tryz.ntmps102
  go_wp2_with (at_builtin;refine appC _ rfl _ _ _ rfl w.heap.size (· < w.heap.size) Tryz.underlying26 _ [] rfl hmk.out w.heap.size _ n c us ls rfl (Hr.out.alloc (Nat.le_refl _) _) (Hu.out.keep (.alloc (fun i hi=>hi) _)) (by have:=hlen.out;simp;omega) (by simp) (fun i hi=>hi) ?_;intro v' w1 ho hg hor;have HO:=hide ho;have HG:=hide hg;clear ho hg hor)
  have HB1:=hide (((Below.refl w.heap.size w).alloc (Nat.le_refl _) (.cells #[] 125)).grown HG.out (by simp) (fun j hj=>by cases hj;exact Nat.le_refl _))
  go_loopg [8,9,10,11,12] G (fun gg vl vt vd vm vp wr=>∃ (tr:List Int) (st:Decs) (pf:List (List Int)) (At:Option Addr) (nt ct:Nat),vt=.slice At nt ct∧Hid (RefB w vl vd vm vp At nt ct m ls R gg tr st pf wr)∧solMu tr pf≤gg)
  case atStart =>
    refine ⟨[],[],[],none,0,0,rfl,hide ⟨⟨(· < w.heap.size),⟨?_,ownD_nil _ _ _,Own.nil _ _,ownC_nil _ _ _,⟨rfl,Nat.zero_le _,by simp,fun h=>absurd h (Nat.lt_irrefl _)⟩,Nat.le_refl _,by simp [Value.ownBlock],fun i hi=>⟨Nat.lt_of_lt_of_le hi HB1.out.size,?_,by simp [Value.ownBlock],by simp [Value.ownBlock],by simp [Value.ownBlock]⟩,HB1.out⟩⟩,SolOk.start HRNG.out,HRR.out⟩,hG⟩
    · rw [List.append_nil];exact HO.out
    · intro e
      exact Nat.lt_irrefl _ (Nat.lt_of_lt_of_le hi (HO.out.lt i e).1)
  case round =>
    clear HO HG HB1 hmk Hr Hu
    obtain ⟨tr,st,pf,At,nt,ct,rfl,hR,hmu⟩:=hrel
    obtain ⟨T,hM⟩:=hR.out.mem
    have HM:=hide hM
    obtain ⟨Al,cl,rfl,_⟩:=hM.l.form
    have HOKR:=hide (hR.out.ok.rows.ok hm)
    have HS:=hide (refSpread_anyD T tr Al At (ls++pf).length cl nt ct (ls++pf) wr (hM.l.cls hM.lT) (hM.t.ints hM.lT) hM.tc hR.out.ok.cons HOKR.out hM.dT)
    clear hM
    obtain ⟨now,bd,HSP⟩:∃ now bd,Hid (spreadR (ls++pf) tr=(now,bd)):=⟨_,_,Lib.hid rfl⟩
    rw [HSP.out] at HS
    have HLN:=Lib.hid (show (ls++pf).length=ls.length+pf.length by rw [List.length_append])
    generalize (ls++pf).length=nl at HS HLN HM ⊢
    go_wp2_with fail
    refine (HS.out).mono ?_
    rintro e w3 ⟨A3,n3,c3,rfl,hc3,hi3,_,hb3,hd3⟩
    have HMo:=hide (HM.out.grow hb3)
    have HM3:=hide (HMo.out.tell (ct':=c3) (intsP_of_ints hi3 (fun hn ad e=>by
      rcases hd3 hn ad e with h | h
      · exact .inl h
      · exact .inr ⟨h,ints_lt hi3 hn e⟩)) hc3)
    have HOK3:=hide (hR.out.ok.spread hm HSP.out)
    clear hb3 hc3 hi3 hd3 HM HS
    generalize (fun i=>T i∨(wr.heap.size≤i∧i<w3.heap.size))=T3 at HMo HM3
    obtain ⟨g,rfl⟩:∃ g,gk=g+1:=⟨gk-1,by have:=solMu_pos hR.out.ok;omega⟩
    obtain ⟨Am,cm,rfl,hcm⟩:=HM3.out.m.form
    have HCM:=hide hcm
    clear hcm
    have HND:=Lib.hid (made_len st)
    generalize (madeF st).length=nd at HM3 HMo HND HCM ⊢
    obtain ⟨Ap,cp,rfl,_⟩:=HM3.out.p.form
    obtain ⟨np,HNP⟩:∃ np,Hid (pf.length=np):=⟨_,Lib.hid rfl⟩
    rw [HNP.out] at HM3 HMo ⊢
    have HFW:=hide HOK3.out.few
    by_cases hbd:0≤bd
    · clear HM3
      have hst24:st.length≤24:=Nat.le_trans (lens_le HOK3.out.ch) HOK3.out.cons.len
      go_wp2
      go_loopw [15,17,35] (fun cv _ i wi=>∃ k:Nat,k≤nd∧i=.int .i64 k∧Hid (NegR w3 st k cv wi)) (fun _ _ i _=>nd-(intOf i).toNat)
      case atStart=>exact ⟨0,Nat.zero_le _,rfl,hide ⟨Below.refl _ _,Own.nil _ _⟩⟩
      case round =>
        obtain ⟨k,hk,rfl,hI⟩:=hrel
        have HMI:=hide (HMo.out.below hI.out.bel)
        by_cases hlt:k<nd
        · have hks:k<st.length:=by have:=HND.out;omega
          obtain ⟨ad,rfl,hbd1,hcd1⟩:=HMI.out.m.ints.at_ hlt
          have HQ3:=Lib.hid (made_neg st k hks)
          have hyl:=made_bd HOK3.out.ch ((madeF st).getD k 0) (by
            have hl:k<(madeF st).length:=by rw [made_len];exact hks
            rw [List.getD_eq_getElem?_getD,List.getElem?_eq_getElem hl];exact List.getElem_mem hl)
          generalize (madeF st).getD k 0=y at hcd1 HQ3 hyl
          have HXI:=Lib.hid (show I64 (-y) by unfold I64;omega)
          obtain ⟨Ac,cc,hcv,hcc⟩:=hI.out.own.form
          have HNT:=Lib.hid (show (negsF st).take (k+1)=(negsF st).take k++[-y] by rw [take_snoc _ k 0 (by rw [negs_len];exact hks),HQ3.out])
          have HOA:=hide (hI.out.own.alloc (.cells #[.int .i64 (-y)] 3))
          have HCA:=Lib.hid (show (wr.alloc (.cells #[.int .i64 (-y)] 3)).cell? ⟨wr.heap.size,0,none⟩=some (.int .i64 (-y)) by simp)
          have HBA:=Lib.hid (show w3.heap.size≤(wr.alloc (.cells #[.int .i64 (-y)] 3)).heap.size by have:=hI.out.bel.size;simp;omega)
          have HLT:=hide (hI.out.own.lt)
          have HLL:=Lib.hid (show ((negsF st).take k).length≤30 by rw [List.length_take,negs_len];omega)
          clear hcv hcc
          go_wp2_with (at_builtin;refine app1 _ rfl _ _ 125 rfl w3.heap.size Tryz.underlying125 _ ((negsF st).take k) rfl HOA.out wr.heap.size 1 (-y) rfl HCA.out HXI.out (by have:=HLL.out;omega) HBA.out ?_;intro v' w1' ho1 hg1 hor;have HO1:=hide ho1;have HG1:=hide hg1;clear ho1 hg1 hor)
          go_roundw
          case rel=>exact ⟨k+1,by omega,by go_num,hide ⟨(hI.out.bel.alloc hI.out.bel.size _).grown HG1.out HBA.out (fun k hk=>(HLT.out k hk).1),by rw [HNT.out];exact HO1.out⟩⟩
          case measure=>simp [intOf];omega
        · obtain rfl:k=nd:=by omega
          have HIO:=hide (show Own wr w3.heap.size _ (negsF st) by
            have:=hI.out.own
            rw [List.take_of_length_le (by rw [negs_len];have:=HND.out;omega)] at this
            exact this)
          have HMG:=hide (HMo.out.grow hI.out.bel)
          obtain ⟨Ac,cc,rfl,hcc⟩:=HIO.out.form
          have HCCC:=hide hcc
          have HCZ:=hide (intsP_of_ints (D:=fun i=>T3 i∨(w3.heap.size≤i∧i<wr.heap.size)) HIO.out.ints (fun hn ad e=>by
            subst e
            have:=HIO.out.lt ad.block rfl
            exact .inr this))
          clear hcc
          generalize (fun i=>T3 i∨(w3.heap.size≤i∧i<wr.heap.size))=T4 at HMG HCZ
          obtain ⟨nc,HNC⟩:∃ nc,Hid ((negsF st).length=nc):=⟨_,Lib.hid rfl⟩
          rw [HNC.out] at HCZ HCCC
          simp only [HNC.out]
          have HMA:=hide (HMG.out.below ((Below.refl wr.heap.size wr).alloc (Nat.le_refl _) (.cells #[.slice Ac nc cc] 125)))
          have HCZA:=hide (HCZ.out.keep (Keep.of_below HMG.out.lT ((Below.refl wr.heap.size wr).alloc (Nat.le_refl _) (.cells #[.slice Ac nc cc] 125))))
          have HCA:=Lib.hid (show (wr.alloc (.cells #[.slice Ac nc cc] 125)).cell? ⟨wr.heap.size,0,none⟩=some (.slice Ac nc cc) by simp)
          have HLL:=Lib.hid (show (ls++pf).length≤1000000 by have:=HOK.out.many;have:=HFW.out;rw [List.length_append];omega)
          go_wp2_with (at_builtin;refine appC1H _ rfl _ _ _ rfl w.heap.size _ Tryz.underlying26 _ (ls++pf) rfl HMA.out.l wr.heap.size 1 rfl Ac nc cc (negsF st) HCA.out HCCC.out HCZA.out (by have:=HLL.out;omega) HMA.out.bel.size (fun i hi=>⟨(HMA.out.TS i hi).1,(HMA.out.TS i hi).2.1⟩) ?_)
          intro vl4 w4 ho4 hg4 hor4
          have HM4:=hide (HMA.out.putL ho4 hg4 (by rw [World.size_alloc'];exact hor4))
          have HCZ4:=hide (HCZA.out.keep (HMA.out.kT hg4 fun i hi=>(HMA.out.TS i hi).2.1))
          clear ho4 hg4 hor4
          have HMB:=hide (HM4.out.below ((Below.refl w4.heap.size w4).alloc (Nat.le_refl _) (.cells #[.slice Ac nc cc] 125)))
          have HCZB:=hide (HCZ4.out.keep (Keep.of_below HM4.out.lT ((Below.refl w4.heap.size w4).alloc (Nat.le_refl _) (.cells #[.slice Ac nc cc] 125))))
          have HCB:=Lib.hid (show (w4.alloc (.cells #[.slice Ac nc cc] 125)).cell? ⟨w4.heap.size,0,none⟩=some (.slice Ac nc cc) by simp)
          refine ⟨?_⟩
          go_wp2_with (at_builtin;refine appC1H _ rfl _ _ _ rfl w.heap.size _ Tryz.underlying26 _ pf rfl HMB.out.p w4.heap.size 1 rfl Ac nc cc (negsF st) HCB.out HCCC.out HCZB.out (by have:=HFW.out;omega) HMB.out.bel.size (fun i hi=>⟨(HMB.out.TS i hi).1,(HMB.out.TS i hi).2.2.2.2⟩) ?_)
          intro vp5 w5 ho5 hg5 hor5
          have HM5:=hide (HMB.out.putP ho5 hg5 (by rw [World.size_alloc'];exact hor5))
          obtain ⟨Ap5,cp5,hvp5,hcp5⟩:=ho5.form
          have HCP5:=hide hcp5
          have HNP5:=Lib.hid (show (pf++[negsF st]).length=np+1 by rw [List.length_append,List.length_singleton,HNP.out])
          rw [HNP5.out] at hvp5 HCP5
          clear ho5 hg5 hor5 hcp5
          subst hvp5
          rcases st with _ | ⟨⟨t,v⟩,r⟩
          · obtain rfl:k=0:=HND.out
            have HRE:=Lib.hid (show R=((false,0),(pf++[[]],true)) by rw [←hR.out.go];exact solve_end HSP.out hbd)
            have HCLS:=hide (show Cls w5 w5.heap.size Ap5 (np+1) (pf++[[]]) from HM5.out.p.cls HM5.out.lT)
            refine ⟨?_⟩
            go_wp2
            rw [HRR.out,HRE.out]
            exact bodyPost_ret (v:=.tuple #[.bool false,.int .u64 0,.slice Ap5 (np+1) cp5,.bool true]) (by simp [results,Tryz.results102]) rfl ⟨Ap5,np+1,cp5,rfl,HCLS.out,HM5.out.bel⟩
          · have HNDR:=Lib.hid (show k=r.length+1 by have:=HND.out;simpa using this)
            have hr24:r.length≤24:=by simp only [List.length_cons] at hst24;omega
            obtain rfl:=HNDR.out
            by_cases hlim:2000≤pf.length+1
            · have HRE:=Lib.hid (show R=((false,0),([],false)) by rw [←hR.out.go];exact solve_limit HSP.out hbd hlim)
              obtain rfl:np=1999:=by have:=HNP.out;have:=HFW.out;omega
              refine ⟨?_⟩
              go_wp2
              rw [HRR.out,HRE.out]
              exact bodyPost_ret (v:=.tuple #[.bool false,.int .u64 0,.slice none 0 0,.bool false]) (by simp [results,Tryz.results102]) rfl ⟨none,0,0,rfl,cls_nil' _ _,HM5.out.bel⟩
            · have hnl:np+1<2000:=by have:=HNP.out;omega
              obtain ⟨ad,cd,A6,n6,c6,hvd,hcd,hcd1,hc6,hi6⟩:=HM5.out.d.at_ (k:=r.length) (by rw [told_len];simp)
              rw [told_len,List.length_cons] at hvd hcd
              subst hvd
              rw [show (toldF ((t,v) :: r)).getD r.length []=t by
                rw [told_snoc,List.getD_eq_getElem?_getD,List.getElem?_append_right (by rw [told_len];exact Nat.le_refl _),told_len,Nat.sub_self];rfl] at hi6
              have HM6:=hide (HM5.out.tell (ct':=c6) hi6 hc6)
              have hcm:=HCM.out
              have hw0:(0:Int)≤(r.length:Int):=by omega
              have hw3:(r.length:Int)≤(cd:Int):=by omega
              have hw4:(r.length:Int)≤(cm:Int):=by omega
              have hw1:IntKind.i64.wrap ((r.length:Int)+1-1)=(r.length:Int):=by rw [Int.add_sub_cancel];exact IntWalk.i64_in _ ⟨by omega,by omega⟩
              clear hi6 hc6
              refine ⟨?_⟩
              go_wp2
              go_quiet (fail)
              go_wp2
              have HM7:=hide (((HM6.out.cutD (k:=r.length) (by omega)).cutM (k:=r.length) (by omega)).drewN nq)
              rw [show (toldF ((t,v) :: r)).take r.length=toldF r by rw [told_snoc,List.take_left' (told_len r)],show (madeF ((t,v) :: r)).take r.length=madeF r by rw [made_snoc,List.take_left' (made_len r)]] at HM7
              try rw [show ls++pf++[negsF ((t,v) :: r)]=ls++(pf++[negsF ((t,v) :: r)]) by rw [List.append_assoc]] at HM7
              have HGO:=Lib.hid (show solveF m ls g t r (pf++[negsF ((t,v) :: r)])=R by rw [←hR.out.go];exact (solve_back HSP.out hbd hlim).symm)
              go_roundg g
              case measure=>omega
              case rel=>exact ⟨t,r,pf++[negsF ((t,v) :: r)],A6,n6,c6,rfl,hide ⟨⟨_,HM7.out⟩,HOK3.out.back hlim,HGO.out⟩,by have:=solMu_back (t:=t) (c:=negsF ((t,v) :: r)) hR.out.ok.cons.len HFW.out;omega⟩
    · clear HMo
      have hbn:bd<0:=by omega
      have HI3:=hide (HM3.out.t.ints HM3.out.lT)
      have HH:=hide (fun x=>hasL_any x A3 n3 c3 now w3 HI3.out)
      go_wp2
      go_loop [18] (fun i=>∃ k:Nat,1≤k∧k≤m+1∧i=.int .i64 k∧Hid (freeGo now (m+1-k) k=freeF m now)) (fun i=>m+1-(intOf i).toNat)
      case atStart=>exact ⟨1,Nat.le_refl _,by omega,rfl,Lib.hid (by rw [Nat.add_sub_cancel];rfl)⟩
      case round =>
        obtain ⟨k,hk1,hk2,rfl,hF⟩:=hrel
        by_cases hkm:k≤m
        · have H1:=hide (HH.out (k:Int))
          have H2:=hide (HH.out (-(k:Int)))
          by_cases h1:((k:Int))∈now
          · rw [decide_eq_true h1] at H1
            have HN:=Lib.hid (show freeGo now (m+1-(k+1)) (k+1)=freeF m now by rw [←hF.out];exact (freeGo_next hkm (by rw [litT_mem h1];decide)).symm)
            clear h1 H2
            go_wp2_with fail
            refine (H1.out).mono ?_
            rintro e w' ⟨rfl,rfl⟩
            go_wp2
            go_round
            case rel=>exact ⟨k+1,by omega,by omega,by go_num,HN⟩
            case measure=>simp [intOf];omega
          · rw [decide_eq_false h1] at H1
            by_cases h2 : -((k:Int))∈now
            · rw [decide_eq_true h2] at H2
              have HN:=Lib.hid (show freeGo now (m+1-(k+1)) (k+1)=freeF m now by rw [←hF.out];exact (freeGo_next hkm (by rw [litT_neg h1 h2];decide)).symm)
              clear h1 h2
              go_wp2_with fail
              refine (H1.out).mono ?_
              rintro e w' ⟨rfl,rfl⟩
              go_wp2_with fail
              refine (H2.out).mono ?_
              rintro e w' ⟨rfl,rfl⟩
              go_wp2
              go_round
              case rel=>exact ⟨k+1,by omega,by omega,by go_num,HN⟩
              case measure=>simp [intOf];omega
            · rw [decide_eq_false h2] at H2
              have HFK:=Lib.hid (show freeF m now=k by rw [←hF.out];exact freeGo_hit hkm (litT_none h1 h2))
              clear h1 h2
              go_wp2_with fail
              refine (H1.out).mono ?_
              rintro e w' ⟨rfl,rfl⟩
              go_wp2_with fail
              refine (H2.out).mono ?_
              rintro e w' ⟨rfl,rfl⟩
              have hfr:freeF m now≤m:=by rw [HFK.out];exact hkm
              have HNX:=hide (HOK3.out.next hm hfr)
              have HGO:=Lib.hid (show solveF m ls g (now++[(freeF m now:Int)]) ((now,(freeF m now:Int)) :: st) pf=R by rw [←hR.out.go];exact (solve_next HSP.out hbn hfr).symm)
              rw [HFK.out] at HNX HGO
              have hn24:=HOK3.out.cons.len
              have hst24:st.length≤24:=Nat.le_trans (lens_le HOK3.out.ch) hn24
              have HPX:=hide (spread_ok hm hR.out.ok.rows hR.out.ok.cons hR.out.ok.rng HSP.out).1
              have HTC:=hide HM3.out.tc
              have HMA:=hide (HM3.out.below ((Below.refl w3.heap.size w3).alloc (Nat.le_refl _) (.cells #[.slice A3 n3 c3] 31)))
              have HCA:=Lib.hid (show (w3.alloc (.cells #[.slice A3 n3 c3] 31)).cell? ⟨w3.heap.size,0,none⟩=some (.slice A3 n3 c3) by simp)
              have HLL:=Lib.hid (show (toldF st).length≤100 by rw [told_len];omega)
              have HLM:=Lib.hid (show (madeF st).length≤100 by rw [made_len];omega)
              have HXI:=Lib.hid (show I64 (k:Int) by unfold I64;omega)
              have hkv:¬(m:Int)<(k:Int):=by omega
              clear hfr
              go_wp2_with (at_builtin;refine appD1H _ rfl _ _ _ rfl w.heap.size T3 Tryz.underlying273 _ (toldF st) rfl HMA.out.d w3.heap.size 1 rfl A3 n3 c3 now HCA.out HTC.out HMA.out.t (by have:=HLL.out;omega) HMA.out.bel.size (fun i hi=>⟨(HMA.out.TS i hi).1,(HMA.out.TS i hi).2.2.1⟩) ?_)
              intro vd4 w4 ho4 hg4 hor4
              have HM4:=hide (HMA.out.putD ho4 hg4 (by rw [World.size_alloc'];exact hor4))
              clear ho4 hg4 hor4
              have HMB:=hide (HM4.out.below ((Below.refl w4.heap.size w4).alloc (Nat.le_refl _) (.cells #[.int .i64 (k:Int)] 3)))
              have HCB:=Lib.hid (show (w4.alloc (.cells #[.int .i64 (k:Int)] 3)).cell? ⟨w4.heap.size,0,none⟩=some (.int .i64 (k:Int)) by simp)
              refine ⟨?_⟩
              go_wp2_with (at_builtin;refine app1H _ rfl _ _ 31 rfl w.heap.size Tryz.underlying31 _ (madeF st) rfl HMB.out.m w4.heap.size 1 k rfl HCB.out HXI.out (by have:=HLM.out;omega) HMB.out.bel.size ?_)
              intro vm5 w5 ho5 hg5 hor5
              have HM5:=hide (HMB.out.putM ho5 hg5 (by rw [World.size_alloc'];exact hor5))
              clear ho5 hg5 hor5
              have HB5:=hide ((Below.refl w5.heap.size w5).alloc (Nat.le_refl _) (.cells #[] 3))
              have HE5:=hide (own_empty w5 w5.heap.size (Nat.le_refl _))
              have HI5:=hide ((HM5.out.below HB5.out).t.ints (HM5.out.below HB5.out).lT)
              refine ⟨?_⟩
              go_wp2_with (at_builtin;refine appSH _ rfl _ _ 31 rfl w5.heap.size Tryz.underlying31 _ [] rfl HE5.out A3 n3 c3 now rfl HI5.out (by simp;omega) HB5.out.size ?_)
              intro v6 w6 ho6 hg6 hor6
              have HB6:=hide (HB5.out.grown hg6 HB5.out.size (fun j hj=>by cases hj;exact Nat.le_refl _))
              have HO6:=hide (show Own w6 w5.heap.size v6 now by simpa using ho6)
              clear ho6 hg6 hor6
              have HB6a:=hide (HB6.out.alloc HB6.out.size (.cells #[.int .i64 (k:Int)] 3))
              have HC6:=Lib.hid (show (w6.alloc (.cells #[.int .i64 (k:Int)] 3)).cell? ⟨w6.heap.size,0,none⟩=some (.int .i64 (k:Int)) by simp)
              refine ⟨?_⟩
              go_wp2_with (at_builtin;refine app1H _ rfl _ _ 31 rfl w5.heap.size Tryz.underlying31 _ now rfl (HO6.out.alloc _) w6.heap.size 1 k rfl HC6.out HXI.out (by omega) HB6a.out.size ?_)
              intro v7 w7 ho7 hg7 hor7
              have HB7:=hide (HB6a.out.grown hg7 HB6a.out.size (fun j hj=>(HO6.out.lt j hj).1))
              obtain ⟨A7,c7,rfl,hc7⟩:=ho7.form
              have HM7:=hide ((HM5.out.grow HB7.out).tell (ct':=c7) (intsP_of_ints ho7.ints (fun _ ad e=>by
                subst e
                exact .inr (ho7.lt ad.block rfl))) hc7)
              clear ho7 hg7 hor7 hc7
              rw [show (now++[(k:Int)]).length=now.length+1 by rw [List.length_append,List.length_singleton]] at HM7
              have HTS:=Lib.hid (told_snoc (now,(k:Int)) st)
              have HMS:=Lib.hid (made_snoc (now,(k:Int)) st)
              refine ⟨?_⟩
              go_wp2
              go_roundg g
              case measure=>omega
              case rel=>exact ⟨now++[(k:Int)],(now,(k:Int)) :: st,pf,A7,now.length+1,c7,rfl,hide ⟨⟨_,by rw [HTS.out,HMS.out];exact HM7.out⟩,HNX.out,HGO.out⟩,by have:=solMu_next (pf:=pf) (x:=(k:Int)) HPX.out HNX.out.cons.len;omega⟩
        · obtain rfl:k=m+1:=by omega
          have HFK:=Lib.hid (show freeF m now=m+1 by rw [←hF.out];exact freeGo_end rfl)
          have HRE:=Lib.hid (show R=((true,valsF now),([],true)) by rw [←hR.out.go];exact solve_done HSP.out hbn (by rw [HFK.out];omega))
          have hn3:=Lib.hid HI3.out.len
          have hn24:=Lib.hid HOK3.out.cons.len
          have hn3m:=HI3.out.le
          go_wp2
          go_loop [19,21,98] (fun v _ i=>∃ j:Nat,j≤n3∧i=.int .i64 j∧v=.int .u64 (valsF (now.take j):Nat)) (fun _ _ i=>n3-(intOf i).toNat)
          case atStart=>exact ⟨0,Nat.zero_le _,rfl,rfl⟩
          case round =>
            obtain ⟨j,hj,rfl,rfl⟩:=hrel
            by_cases hlt:j<n3
            · obtain ⟨ad,rfl,hb1,hc1⟩:=HI3.out.at_ hlt
              have hjl:=Lib.hid (show j<now.length by rw [hn3.out];exact hlt)
              have HVS:=Lib.hid (show valsF (now.take (j+1))=if 0<now.getD j 0 then valsF (now.take j) ||| 1 <<< (now.getD j 0-1).toNat else valsF (now.take j) by rw [take_snoc now j 0 hjl.out,valsF_snoc])
              have hvl:=Lib.hid (valsF_lt (l:=now.take j) fun x hx=>HOK3.out.cons.1 x (List.mem_of_mem_take hx))
              have hx:=HOK3.out.cons.1 (now.getD j 0) (by
                rw [List.getD_eq_getElem?_getD,List.getElem?_eq_getElem hjl.out];exact List.getElem_mem hjl.out)
              generalize now.getD j 0=x at hc1 HVS hx
              rcases hx with hx | hx
              · obtain ⟨i,rfl⟩:∃ i:Nat,x=(i:Int)+1:=⟨(x-1).toNat,by omega⟩
                have hi24:i<24:=by omega
                have HOB:=Lib.hid (or_bit' (valsF (now.take j)) i hvl.out hi24)
                rw [if_pos (by omega),show (((i:Int)+1-1)).toNat=i by omega] at HVS
                generalize valsF (now.take j)=V at *
                go_wp2
                go_round
                case rel=>exact ⟨j+1,by omega,by go_num,by rw [HVS.out,←HOB.out]⟩
                case measure=>simp [intOf];omega
              · rw [if_neg (by omega)] at HVS
                have hx0:¬0<x:=by omega
                generalize valsF (now.take j)=V at *
                go_wp2
                go_round
                case rel=>exact ⟨j+1,by omega,by go_num,by rw [HVS.out]⟩
                case measure=>simp [intOf];omega
            · obtain rfl:j=n3:=by omega
              have HTK:=Lib.hid (show now.take j=now by rw [List.take_of_length_le];have:=hn3.out;omega)
              rw [HTK.out]
              go_wp2
              rw [HRR.out,HRE.out]
              exact bodyPost_ret (v:=.tuple #[.bool true,.int .u64 (valsF now:Nat),.slice none 0 0,.bool true]) (by simp [results,Tryz.results102]) rfl ⟨none,0,0,rfl,cls_nil' _ _,HM3.out.bel⟩
end Go.Proofs.YtojgbcmhdnappaaGreatDoor
