/-
  All: for every input the law returns true, and each argument reads as it read before; and its tied card. Conditions: none beyond the row's own (the listed package-level variables hold what the program's text lays).
-/
import Derived.Test.YtojgbcmhdnappaaGreatDoorAlOwnU
import Derived.Test.YtojgbcmhdnappaaGreatDoorAlBoth
import Derived.Test.YtojgbcmhdnappaaGreatDoorRows
import Derived.Test.YtojgbcmhdnappaaGreatDoorAlAt
import Derived.ProofKit
import Derived.LaidMore
import Derived.LaidHandle
import Derived.OpenShut
import Derived.LaidLaws
import Derived.Stop.Joined
import Derived.Deep.Matrix
import Derived.JoinedOf
import Derived.RowKitTokens
import Derived.Test.YtojgbcmhdnappaaGreatDoorAlVerB
import Derived.Lay
import Derived.Lib.LaidTab
import Derived.Stop.LaidErr
import Derived.Shelf.Vars
import Derived.Handed
import Derived.Test.YtojgbcmhdnappaaGreatDoorAlCatLine
import Derived.ChangeArms
import Derived.ChangeSlices
import Derived.Test.YtojgbcmhdnappaaGreatDoorCards
import Derived.Test.YtojgbcmhdnappaaGreatDoorTie
import Derived.SevenTiedAt
namespace Go.Proofs.YtojgbcmhdnappaaGreatDoor
open Go.RowKit
set_option maxRecDepth 100000
theorem bareN_any (c:Int) (w:World) (hG:GlobE w) (h1:1≤c) (h2:c≤13):Calls Tryz.prog 10 #[.iface 41 (.int .i64 c),.int .i64 c] w (AtPost w true):=by
 have HB:=hide ((Below.refl w.heap.size w).alloc (Nat.le_refl _) (.cells #[.int .i64 c,.int .i64 (-1)] 80))
 have hi:IsErr w (.iface 41 (.int .i64 c)) (c,-1):=.inr (.inl ⟨rfl,h1,h2,rfl⟩)
 have HAT:=hide (at_anyE (.iface 41 (.int .i64 c)) (c,-1) (c,-1) (w.alloc (.cells #[.int .i64 c,.int .i64 (-1)] 80)) (hG.below HB.out) (errBelowB hi HB.out))
 unfold faultV at HAT
 rw [atB_self] at HAT
 clear hi hG
 go_enter Tryz.func10,Tryz.ntmps10
 go_wp2_with (go_at_call 35;refine (bare_any c _).mono ?_;rintro e w' ⟨rfl,rfl⟩)
 refine (HAT.out).mono ?_
 rintro e w4 ⟨rfl,hb4⟩
 go_wp2
 go_ret
 exact ⟨rfl,HB.out.trans (hb4.mono HB.out.size)⟩
theorem elU_row (zs:List Nat):elU.row zs=uintsV zs:=by
 induction zs with
 | nil=>rfl
 | cons a r ih=>rw [ElK.row_cons,ih];rfl
theorem ownU_ofK {w:World} {base:Nat} {v:Value} {zs:List Nat} (h:OwnK elU w base v zs):OwnU w base v zs:=by
 unfold OwnK at h
 rw [elU_row] at h
 exact h
theorem same_one (w:World) (b1 b2:Nat) (va vb:Value) (l:List Nat) (h1:OwnK elU w b1 va l) (h2:OwnK elU w b2 vb l) (hl:l.length≤1000000):Calls Tryz.prog 12 #[va,vb] w (AtPost w true):=by
 refine (sameSets_any b1 b2 va vb l l w (ownU_ofK h1) (ownU_ofK h2) hl).mono fun e w' h=>?_
 obtain ⟨h3,q,h4⟩:=h
 rw [decide_eq_true rfl] at h3
 exact ⟨h3,by rw [h4];exact below_drewN (Below.refl _ _) q⟩
theorem pow_few {m:Nat} (h:m≤10):2 ^ m≤1000000:=Nat.le_trans (Nat.pow_le_pow_right (n:=2) (by decide) h) (by decide)
set_option maxHeartbeats 16000000 in
theorem lawAll_walk (t:ByteArray) (w:World) (hG:GlobV w) (hF:FineP w) (hK:KindsP w) (hs:t.size≤9223372036854775807):Calls Tryz.prog 3 #[.string t] w (AtPost w true):=by
 have HBT:=hide (both_any t w hG hF hK hs)
 have HGE:=hide hG.e
 clear hG hF hK
 go_enter Tryz.func3,Tryz.ntmps3
 go_wp2_with fail
 refine HBT.out.mono ?_
 rintro e w1 (⟨_,rfl,hb1⟩ | ⟨vw,g,qs,qs',its0,_,_,hqq,hcr,rfl,hl,hco,hb1⟩)
 ·have HB:=hide hb1
  clear hb1 HBT
  go_wp2_with fail
  go_ret
  exact ⟨rfl,HB.out⟩
 ·have HB:=hide hb1
  have HL:=hide hl
  have HCO:=hide hco
  obtain ⟨Aw,cw,rfl,_⟩:=hl.1.len
  have HSM:=hide (small_any _ qs its0 10 w1 (hl.mono (Nat.zero_le _)) hcr)
  unfold SmallP at HSM
  by_cases h30:qs.length≤30
  case neg =>
   have hz:(30:Int)<(qs.length:Int):=by omega
   clear hl hco hb1 HBT HSM
   go_wp2_with fail
   go_ret
   exact ⟨rfl,HB.out⟩
  have hz30:¬(30:Int)<(qs.length:Int):=by omega
  have HCR:=Lib.hid (fun (W:World) (h:CatO W w.heap.size g qs') (hn:(itemsF (qs.map (·.1))).length≤10) (hl:(rulesF (itemsF (qs.map (·.1))) (qs.map (·.1))).length≤200)=>cores_any g w.heap.size qs' its0 W h (by rw [hqq];exact hcr) (by rw [hqq];exact hn) (by rw [hqq];exact hl))
  rw [hqq] at HCR
  have HRC:=Lib.hid (fun (W:World) (h:LnsR W 0 (.slice Aw qs.length cw) qs) (hn:(itemsF (qs.map (·.1))).length≤10) (hl:(rulesF (itemsF (qs.map (·.1))) (qs.map (·.1))).length≤200) (h10:(saysF (qs.map (·.1)) 0).length≤10)=>refCores_any (.slice Aw qs.length cw) qs its0 W h hcr hn hl h10)
  unfold CoresP at HCR
  unfold RCrsP at HRC
  have hst:=fun (j:Nat) (hj:j<qs.length)=>saysF_take (l:=qs.map (·.1)) (j:=j) (by simpa using hj)
  have hsl:=fun (j:Nat)=>(show (saysF ((qs.map (·.1)).take j) 0).length≤j from Nat.le_trans (saysF_len _ _) (by rw [List.length_take];exact Nat.min_le_left _ _))
  have HST:=Lib.hid hst
  have HSL:=Lib.hid hsl
  have htk:(qs.map (·.1)).take qs.length=qs.map (·.1):=List.take_of_length_le (by rw [List.length_map];exact Nat.le_refl _)
  have HTK:=Lib.hid htk
  clear hl hco hb1 HBT hqq hcr hst hsl htk
  generalize okF (qs.map (·.1))=ok at HCR HRC
  generalize (itemsF (qs.map (·.1)))=its at HSM HCR HRC
  generalize rulesF its (qs.map (·.1))=R at HSM HCR HRC
  generalize its.length=n at HSM HCR HRC
  go_wp2_with fail
  refine HSM.out.mono ?_
  rintro e w2 ⟨A2,c2,rfl,hck,hb2⟩
  have HL2:=hide (HL.out.below hb2)
  have HB2:=hide (HB.out.trans (hb2.mono HB.out.size))
  have HCO2:=hide (HCO.out.below hb2)
  clear hck hb2 HSM HCO HB HL
  by_cases hfit:R.length≤200∧n≤10
  case neg =>
   rw [show (decide (R.length≤200)&&decide (n≤10))=false by
    by_cases h1:R.length≤200
    ·rw [decide_eq_false (fun h2=>hfit ⟨h1,h2⟩),Bool.and_false]
    ·rw [decide_eq_false h1,Bool.false_and]]
   go_wp2_with fail
   go_ret
   exact ⟨rfl,HB2.out⟩
  obtain ⟨h200,hn10⟩:=hfit
  rw [show (decide (R.length≤200)&&decide (n≤10))=true by rw [decide_eq_true h200,decide_eq_true hn10];rfl]
  have HCW:=HCR
  have HRC2:=Lib.hid (fun (W:World) (h:LnsR W 0 (.slice Aw qs.length cw) qs)=>HRC.out W h hn10 h200)
  clear HCR HRC
  go_wp2_with fail
  go_loopw [9,10] (fun sv iv wr=>∃ i q:Nat,i≤qs.length∧iv=.int .i64 i∧sv=.int .i64 (((saysF ((qs.map (·.1)).take i) 0).length:Nat):Int)∧wr=w2.drewN q) (fun _ iv _=>qs.length-(intOf iv).toNat)
  case atStart=>exact ⟨0,0,Nat.zero_le _,rfl,rfl,rfl⟩
  case round =>
   obtain ⟨i,q,hi,rfl,rfl,rfl⟩:=hrel
   by_cases hlt:i<qs.length
   ·have hltz:(i:Int)<(qs.length:Int):=by omega
    obtain ⟨gq,rfl,hrow⟩:=HL2.out.1.rowAt hlt
    obtain ⟨y0,y1,y2,y3,y4,y5,y6⟩:=row7 rfl rfl hrow hlt
    have hst:=HST.out i hlt
    have hsl:=HSL.out i
    rw [List.getElem_map] at hst
    clear hrow y1 y2 y3 y4 y5 y6
    generalize qs[i].1.k=kk at y0 hst
    generalize saysF ((qs.map (·.1)).take i) 0=s1 at hst hsl
    generalize hm1:s1.length=m1 at hsl
    by_cases hk:kk=1
    ·have hk1:(kk != 1)=false:=by rw [hk];rfl
     rw [if_pos hk] at hst
     have HS2:=Lib.hid (show (saysF ((qs.map (·.1)).take (i+1)) 0).length=m1 by rw [hst,hm1])
     clear hk hst hm1
     go_wp2_with fail
     go_round
     case rel=>exact ⟨i+1,q,by omega,by go_num,by rw [HS2.out],rfl⟩
     case measure=>simp [intOf];omega
    ·have hk1:(kk != 1)=true:=by simpa using hk
     rw [if_neg hk] at hst
     have HS2:=Lib.hid (show (saysF ((qs.map (·.1)).take (i+1)) 0).length=m1+1 by rw [hst,List.length_append,hm1];rfl)
     clear hk hst hm1
     go_wp2_with fail
     go_round
     case rel=>exact ⟨i+1,q,by omega,by go_num,by rw [HS2.out];go_num,rfl⟩
     case measure=>simp [intOf];omega
   ·have hltz:¬(i:Int)<(qs.length:Int):=by omega
    have hie:i=qs.length:=by omega
    rw [hie,HTK.out]
    have hsl:=HSL.out qs.length
    rw [HTK.out] at hsl
    obtain ⟨m,HM⟩:∃ m,Hid ((saysF (qs.map (·.1)) 0).length=m):=⟨_,Lib.hid rfl⟩
    rw [HM.out] at hsl HRC2 ⊢
    have hqd:=below_drewN (Below.refl w2.heap.size w2) q
    have HBQ:=hide (HB2.out.trans (hqd.mono HB2.out.size))
    have HLQ:=hide (HL2.out.below hqd)
    have HCQ:=Lib.hid (fun W (h:CatO W w.heap.size g qs')=>HCW.out W h hn10 h200)
    have HC3:=hide (HCQ.out (w2.drewN q) (HCO2.out.below hqd))
    rw [HM.out] at HC3
    have HGQ:=hide (HGE.out.below HBQ.out)
    clear hqd HL2 HB2 HCO2 HST HSL HTK HCQ HCW HGE
    generalize w2.drewN q=w3 at HBQ HLQ HC3 HGQ ⊢
    go_wp2_with fail
    refine HC3.out.mono ?_
    rintro e w4 ⟨hb4,⟨hm,rfl⟩ | ⟨hm,va,vb,rfl,hcr⟩⟩
    ·have hmz:(10:Int)<(m:Int):=by omega
     have HB4:=hide (HBQ.out.trans (hb4.mono HBQ.out.size))
     have HBE:=hide (bareN_any 4 w4 (HGQ.out.below hb4) (by decide) (by decide))
     clear hb4 HC3 HBQ HGQ HLQ HRC2
     go_wp2_with fail
     refine HBE.out.mono ?_
     rintro e w5 ⟨rfl,hb5⟩
     have HB5:=hide (HB4.out.trans (hb5.mono HB4.out.size))
     clear hb5 HBE
     go_wp2_with fail
     go_ret
     exact ⟨rfl,HB5.out⟩
    ·have hmz:¬(10:Int)<(m:Int):=by omega
     obtain ⟨hca,hcb⟩:=hcr
     obtain ⟨Aa,ca,rfl,_⟩:=hca.len
     obtain ⟨Ab,cb,rfl,_⟩:=hcb.len
     have HA:=hide hca
     have HBb:=hide hcb
     have HB4:=hide (HBQ.out.trans (hb4.mono HBQ.out.size))
     have HR4:=hide (HRC2.out w4 ((HLQ.out.below hb4).mono (Nat.zero_le _)) hm)
     have hp:=pow_few hm
     have HLA:=Lib.hid (Nat.le_trans (coresF_len ok m (2 ^ m)) hp)
     have HLB:=Lib.hid (Nat.le_trans (fixesF_len ok m (2 ^ m)) hp)
     unfold CrsP at HR4
     generalize coresF ok m (2 ^ m)=la at HA HLA HR4 ⊢
     generalize fixesF ok m (2 ^ m)=lb at HBb HLB HR4 ⊢
     clear hca hcb hb4 HC3 HBQ HGQ HLQ HRC2 hp
     by_cases h7:m≤7
     ·have hz7:¬(7:Int)<(m:Int):=by omega
      go_wp2_with fail
      refine HR4.out.mono ?_
      rintro e w5 ⟨xa,xb,rfl,⟨hxa,hxb⟩,hb5⟩
      have HS1:=hide (same_one w5 _ _ _ _ la (HA.out.below hb5) hxa HLA.out)
      have HB5:=hide (HB4.out.trans (hb5.mono HB4.out.size))
      have HXB:=hide hxb
      have HBX:=hide (HBb.out.below hb5)
      clear hxa hxb hb5 HR4 HA HBb
      go_wp2_with fail
      refine HS1.out.mono ?_
      rintro e w6 ⟨rfl,hb6⟩
      have HS2:=hide (same_one w6 _ _ _ _ lb (HBX.out.below hb6) (HXB.out.below hb6) HLB.out)
      have HB6:=hide (HB5.out.trans (hb6.mono HB5.out.size))
      clear hb6 HS1 HXB HBX
      go_wp2_with fail
      refine HS2.out.mono ?_
      rintro e w7 ⟨rfl,hb7⟩
      have HB7:=hide (HB6.out.trans (hb7.mono HB6.out.size))
      clear hb7 HS2
      go_wp2_with fail
      go_ret
      exact ⟨rfl,HB7.out⟩
     ·have hz7:(7:Int)<(m:Int):=by omega
      clear HR4
      go_wp2_with fail
      go_ret
      exact ⟨rfl,HB4.out⟩
end Go.Proofs.YtojgbcmhdnappaaGreatDoor
namespace Go.Proofs.YtojgbcmhdnappaaGreatDoor
open Go.ChangeShapes Go.WideShapes Go.ChangeAt Go.WideElems Go.RowKit Go.Deep
theorem own:ownKnob Tryz.prog.godebug=none:=by kernel_rfl
theorem gErr:Tryz.prog.globalNamed "errors.errorType" = some 3:=by kernel_rfl
theorem rtRow:(Tryz.prog.cutTypes.find? (·.1== "internal/reflectlite.rtype")).map (·.2)=some 351:=by kernel_rfl
theorem oneRow:((List.range 441).filter fun t=>Tryz.prog.rowNamed t [101,114,114,111,114])=[37]:=by kernel_rfl
theorem tsize:Tryz.prog.types.size=441:=by kernel_rfl
theorem laidOut:laidOutB Tryz.prog=true:=by kernel_rfl
theorem cell_of_handle {W:World} {l:List (String×DataW Unit)} (h:handlesMet Tryz.prog l W) (hm:("errors.errorType",Rows.laid_errors_errorType)∈l) :
  W.cell? ⟨3,0,none⟩=some (.iface 351 (.agg #[.pointer (some ⟨12,37,none⟩)])):=by
 obtain ⟨name,u,ty,e1,e2,e3,e4,e5⟩:=h _ hm
 have en:name=[101,114,114,111,114]:=(Option.some.inj e1).symm
 subst en
 obtain rfl:=Option.some.inj (rtRow.symm.trans e2)
 have hmm:ty∈(List.range 441).filter fun t=>Tryz.prog.rowNamed t [101,114,114,111,114]:=List.mem_filter.2 ⟨List.mem_range.2 (by rw [←tsize];exact e3),e4⟩
 rw [oneRow] at hmm
 obtain rfl:=List.mem_singleton.1 hmm
 have hh:typeHandle Tryz.prog 37=.pointer (some ⟨12,37,none⟩):=by kernel_rfl
 rw [hh] at e5
 simpa using World.var?_cell gErr e5 0
section
variable {H:Type} {enc:TypeId×Value→H} {W:World}
theorem trodAll_below {ts:List TypeId}:∀ {vs:List Value} {ds:List (DataW H)} {ps:List MemPlace} {W':World},(ts.all fun t=>Tryz.prog.readableRec t&&decide (t<Tryz.prog.types.size))=true →
  DataW.TrodAll enc Tryz.prog W 0 (fun _=>true) true ts vs ds ps→Below W.heap.size W W'→(∀ x∈ps,x.block<W.heap.size)→DataW.TrodAll enc Tryz.prog W' 0 (fun b=>decide (b<W.heap.size)) true ts vs ds ps:=by
 induction ts with
 | nil =>
  intro vs ds ps W' _ h _ _
  obtain ⟨rfl,rfl,rfl⟩:=trodAll_nil h
  exact trodAll_mk0
 | cons t ts ih =>
  intro vs ds ps W' hr h hb hlt
  obtain ⟨v,vs',d,ds',p,q,rfl,rfl,rfl,hd,hrest⟩:=trodAll_cons h
  rw [List.all_cons,Bool.and_eq_true,Bool.and_eq_true] at hr
  exact trodAll_cons_mk (Below.trod laidOut hr.1.1 (of_decide_eq_true hr.1.2) hd hb fun x hx=>hlt x (List.mem_append.2 (.inl hx)))
   (ih hr.2 hrest hb fun x hx=>hlt x (List.mem_append.2 (.inr hx)))
theorem law_post {f:Func} {s:ChangeSpec} {W':World} {args:Array Value} {ds gs:List (DataW H)} {before:List MemPlace} (hres:f.resultTypes.toList=[4]) (hsz:f.resultTypes.size=1)
  (hv:s.vars=[]) (hW:DataW.Whole enc Tryz.prog f.params.toList s.vars false W args.toList ds gs before) (hfn:s.fn H ds={ results:=[.lit (.bool true)],args:=ds })
  (hall:(f.params.toList.all fun t=>Tryz.prog.readableRec t&&decide (t<Tryz.prog.types.size))=true) (hb:Below W.heap.size W W') :
  s.post enc Tryz.prog f false true false false W args (.bool true) W':=by
 have hlt:∀ p∈before,p.block<W.heap.size:=fun p hp=>hW.lt p hp
 have hW0:=hW
 obtain ⟨p,q,hA,hV,rfl,_,_⟩:=hW
 rw [hv] at hV
 obtain ⟨rfl,rfl⟩:gs=[]∧q=[]:=by
  cases gs with
  | nil=>exact ⟨rfl,hV⟩
  | cons g r=>exact absurd hV (by intro h;cases h)
 rw [List.append_nil] at hlt
 refine ⟨ds,[],_,[],p,[],hW0,?_,?_,?_,?_,fun h=>by cases h⟩
 ·rw [List.append_nil,hfn,hres,hsz]
  exact trodAll_mk1 (shut_bool Tryz.underlying4 true)
 ·rw [List.append_nil,hfn]
  exact trodAll_below hall hA hb hlt
 ·rw [List.append_nil,hfn,hv]
  rfl
 ·exact hb.frame _
end
end Go.Proofs.YtojgbcmhdnappaaGreatDoor
namespace Go.Proofs.YtojgbcmhdnappaaGreatDoor
open Go.ChangeShapes Go.WideShapes Go.ChangeAt Go.WideElems Go.RowKit Go.Deep
theorem gPowV:Tryz.prog.globalNamed "internal/strconv.uint64pow10" = some 4:=by kernel_rfl
theorem tPowV:(Tryz.prog.globals[4]?).map (·.type)=some 366:=by kernel_rfl
theorem dPowV:(Rows.laid_internal_strconv_uint64pow10:DataW Unit)=Lib.tabData .u64 Lib.pow10Tab:=by kernel_rfl
theorem cellsU64V:Tryz.prog.cellsOf 279=1:=by kernel_rfl
theorem cellsPowV:Tryz.prog.cellsOf 366=20:=by kernel_rfl
theorem gRngV:Tryz.prog.globalNamed "strconv.ErrRange" = some 9:=by kernel_rfl
theorem tRngV:(Tryz.prog.globals[9]?).map (·.type)=some 37:=by kernel_rfl
theorem gSynV:Tryz.prog.globalNamed "strconv.ErrSyntax" = some 8:=by kernel_rfl
theorem tSynV:(Tryz.prog.globals[8]?).map (·.type)=some 37:=by kernel_rfl
theorem cell_of_sentinel {n nm:String} {d:DataW Unit} {r:List (String×DataW Unit)} {W:World} {g:Nat} (h:laidMet Tryz.prog ((n,.iface nm d) :: r) W) (hg:Tryz.prog.globalNamed n=some g) (ht:(Tryz.prog.globals[g]?).map (·.type)=some 37) :
  ∃ tp p,W.cell? ⟨g,0,none⟩=some (.iface tp p):=by
 obtain ⟨ps,⟨g0,t0,cs0,f0,p0,q0,hg0,ht0,hv0,hd0,_,e0⟩,_,hrows⟩:=h
 obtain rfl:=Option.some.inj (hg.symm.trans hg0)
 obtain rfl:=Option.some.inj (ht.symm.trans ht0)
 obtain ⟨f1,u,v,hcs,_,_⟩:=iface_of_trod Tryz.underlying37 hd0
 refine ⟨u,v,?_⟩
 rw [World.var?_cell hg0 hv0 0,←Array.getElem?_toList,hcs]
 rfl
theorem globT_of_head {r:List (String×DataW Unit)} {W:World} (h:laidMet Tryz.prog (("internal/strconv.uint64pow10",Rows.laid_internal_strconv_uint64pow10) :: r) W):GlobT W:=by
 obtain ⟨ps,⟨g2,t2,cs2,f2,p2,q2,hg2,ht2,hv2,hd2,_,_⟩,_,_⟩:=h
 obtain rfl:=Option.some.inj (gPowV.symm.trans hg2)
 obtain rfl:=Option.some.inj (tPowV.symm.trans ht2)
 rw [dPowV] at hd2
 refine ⟨?_⟩
 unfold Lib.TabIs
 rw [hv2,←Lib.cells_of_tab Tryz.underlying366 Tryz.underlying279 cellsU64V cellsPowV hd2]
theorem shape_max {W:World} (h:W.ShapedOpen Tryz.prog):∃ m,W.cell? ⟨5,0,none⟩=some (.int .i64 m) :=
 cell_of_shapedOpen_int h (t:=3) (zero:=#[.int .i64 0]) (of_decide_eq_true (by kernel_rfl)) (by kernel_rfl) rfl (by kernel_rfl) (by kernel_rfl) Tryz.underlying3
theorem returns_shaped {H:Type} {enc:TypeId×Value→H} {a:Assume} {C:Checked} {os:Os} {f:FuncId} {fn:Func} {s:ChangeSpec} {conds:List PathCond} {apart fresh handsOn again:Bool} {X:World→Array Value→Prop}
    (hX:∀ (w w':World) (args:Array Value),w.heap=w'.heap→X w args→X w' args)
    (own:ownKnob C.prog.godebug=none) (started:os.Started) (noInit:C.prog.inits.idxOf? f=none) (hfn:C.prog.funcs[f]?=some fn)
    (witness:∃ (w:World) (tape:Tape) (i:Input),w.os=os∧(w.forCall tape i).Shaped C.prog∧i.vars=[]∧Input.okWide C.prog (w.forCall tape i) .any w.heap.size f i ∧
      ((s.pre enc C.prog fn conds apart (w.forCall tape i).memory i.args∧X (w.forCall tape i).memory i.args)∧sizedMet enc C.prog fn (OpenSpec.ofChange s) apart (w.forCall tape i).memory i.args)∧a.holds C.prog (lone (Frame.enter C.prog f i.args .normal) [] (w.forCall tape i)))
    (contract:∀ (W:World) (base:Nat) (args:Array Value) (ds gs:List (DataW H)) (before:List MemPlace),
      (∀ (j:Nat) t v,fn.params[j]?=some t→args[j]?=some v→Value.okWide C.prog W .any base t v) →
      DataW.Whole enc C.prog fn.params.toList s.vars apart W args.toList ds gs before →
      (DataW.weightsEach C.prog (fn.params.toList++s.plain.varTypes C.prog) (ds++gs)).all (· ≤ reachBytes)=true→X W args→W.ShapedOpen C.prog →
      Calls C.prog f args W fun e W'=>∃ v,e=.returned v∧s.post enc C.prog fn apart fresh handsOn again W args v W') :
    ReturnsInHanded a C os f .any (fun w args=>(s.pre enc C.prog fn conds apart w args∧X w args)∧sizedMet enc C.prog fn (OpenSpec.ofChange s) apart w args) (s.post enc C.prog fn apart fresh handsOn again):=by
  refine returnsInHanded_of_calls own started noInit witness ?_
  intro w tape i _ hsh _ hok hpre _
  obtain ⟨_,_,_,fn',hfn',_,_,_,_,hval⟩:=hok
  have e:fn'=fn:=Option.some.inj (hfn'.symm.trans hfn)
  subst e
  obtain ⟨⟨⟨ds,gs,before,hw,_⟩,hx⟩,hz⟩:=hpre
  have hw':=DataW.Whole.of_heap (w':=w.forCall tape i) (by rfl) hw
  refine (contract (w.forCall tape i) w.heap.size i.args ds gs before hval hw' (hz.weights hw) (hX _ _ _ (by rfl) hx) hsh).mono fun e W' ⟨v,he,hp⟩=>?_
  subst he
  exact ChangeSpec.post_blind hp
end Go.Proofs.YtojgbcmhdnappaaGreatDoor
namespace Go.Proofs.YtojgbcmhdnappaaGreatDoor
open Go.ChangeShapes Go.WideShapes Go.ChangeAt Go.WideElems Go.RowKit Go.Deep
def laidC:List (String×DataW Unit):=[("math/bits.deBruijn32tab",Rows.laid_math_bits_deBruijn32tab),("math/bits.deBruijn64tab",Rows.laid_math_bits_deBruijn64tab),("internal/strconv.uint64pow10",Rows.laid_internal_strconv_uint64pow10),("unicode/utf8.acceptRanges",Rows.laid_unicode_utf8_acceptRanges),("errors.errorType",Rows.laid_errors_errorType),("strconv.ErrRange",Rows.laid_strconv_ErrRange),("strconv.ErrSyntax",Rows.laid_strconv_ErrSyntax),("solspace/solspaceref.kinds",Rows.laid_solspace_solspaceref_kinds),("solspace/solspaceref.Fine",Rows.laid_solspace_solspaceref_Fine),("unicode/utf8.first",Rows.laid_unicode_utf8_first)]
def laidC2:List (String×DataW Unit):=[("math/bits.deBruijn32tab",Rows.laid_math_bits_deBruijn32tab),("math/bits.deBruijn64tab",Rows.laid_math_bits_deBruijn64tab),("internal/strconv.uint64pow10",Rows.laid_internal_strconv_uint64pow10),("unicode/utf8.acceptRanges",Rows.laid_unicode_utf8_acceptRanges),("strconv.ErrRange",Rows.laid_strconv_ErrRange),("strconv.ErrSyntax",Rows.laid_strconv_ErrSyntax),("solspace/solspaceref.kinds",Rows.laid_solspace_solspaceref_kinds),("solspace/solspaceref.Fine",Rows.laid_solspace_solspaceref_Fine),("unicode/utf8.first",Rows.laid_unicode_utf8_first)]
noncomputable def startC (os:Os):World:=(World.doorLaid Tryz.prog 400 os).layVars Tryz.prog laidC2
theorem startC_two (os:Os) (args:Array Value):laidMet Tryz.prog laidC2 ((startC os).forCall (fun _ _=>0) ⟨#[],args,[]⟩).memory:=by
 have e1:(laidC2.filter fun x=>(laidC2.map (·.1)).contains x.1)=laidC2:=by kernel_rfl
 have e2:(laidC2.filter fun x=>!(laidC2.map (·.1)).contains x.1)=[]:=by kernel_rfl
 have h:laidMet Tryz.prog laidC2 (startC os):=laidMet_layVars (w0:=World.doorLaid Tryz.prog 400 os) (laidC2.map (·.1)) [] (by rw [e1];rfl) (by rw [e1];kernel_rfl) (by rw [e1];kernel_rfl) (by rw [e2];exact LaidIn.none)
 exact h.of_heap (by simp [World.memory,World.forCall,Input.heap])
theorem startC_met (os:Os) (args:Array Value):laidMetH Tryz.prog laidC ((startC os).forCall (fun _ _=>0) ⟨#[],args,[]⟩).memory :=
 laidMetH_of_parts (startC_two os args) (by kernel_rfl)
theorem gFineC:Tryz.prog.globalNamed "solspace/solspaceref.Fine" = some 0:=by kernel_rfl
theorem tFineC:(Tryz.prog.globals[0]?).map (·.type)=some 80:=by kernel_rfl
theorem cellsFaultC:Tryz.prog.cellsOf 80=2:=by kernel_rfl
theorem cellsErrnoC:Tryz.prog.cellsOf 41=1:=by kernel_rfl
theorem cellsIntC:Tryz.prog.cellsOf 3=1:=by kernel_rfl
set_option maxRecDepth 100000 in
theorem fineC_of_head {r:List (String×DataW Unit)} {W:World} (h:laidMet Tryz.prog (("solspace/solspaceref.Fine",Rows.laid_solspace_solspaceref_Fine) :: r) W):FineP W:=by
 obtain ⟨ps,⟨g0,t0,cs0,f0,p0,q0,hg0,ht0,hv0,hd0,_,_⟩,_,_⟩:=h
 obtain rfl:=Option.some.inj (gFineC.symm.trans hg0)
 obtain rfl:=Option.some.inj (tFineC.symm.trans ht0)
 obtain ⟨y0,y1,n,hx,hl,h0,h1⟩:=trod_struct2 Tryz.underlying80 hd0
 rw [cellsFaultC] at hl
 obtain ⟨l⟩:=cs0
 match l,hl with
 | [c0,c1],_ =>
  rw [cellsErrnoC] at h0
  rw [cellsIntC] at h1
  obtain ⟨a,ea,rfl,_⟩:=DataW.trod_int Tryz.underlying41 h0
  obtain ⟨b,eb,rfl,_⟩:=DataW.trod_int Tryz.underlying3 h1
  simp at ea eb
  subst ea eb
  simp only [Rows.laid_solspace_solspaceref_Fine,Prod.mk.injEq,DataW.agg.injEq,List.cons.injEq,DataW.lit.injEq,Lit.int.injEq] at hx
  obtain ⟨⟨⟨_,rfl⟩,⟨_,rfl⟩,_⟩,_⟩:=hx
  have c0:=World.var?_cell hg0 hv0 0
  have c1:=World.var?_cell hg0 hv0 1
  exact ⟨by simpa using c0,by simpa using c1⟩
theorem gKindsC:Tryz.prog.globalNamed "solspace/solspaceref.kinds" = some 1:=by kernel_rfl
theorem tKindsC:(Tryz.prog.globals[1]?).map (·.type)=some 147:=by kernel_rfl
theorem cellsStrC:Tryz.prog.cellsOf 9=1:=by kernel_rfl
set_option maxRecDepth 100000 in
theorem kinds_of_head {r:List (String×DataW Unit)} {W:World} (h:laidMet Tryz.prog (("solspace/solspaceref.kinds",Rows.laid_solspace_solspaceref_kinds) :: r) W):KindsP W:=by
 obtain ⟨ps,⟨g0,t0,cs0,f0,p0,q0,hg0,ht0,hv0,hd0,_,_⟩,_,_⟩:=h
 obtain rfl:=Option.some.inj (gKindsC.symm.trans hg0)
 obtain rfl:=Option.some.inj (tKindsC.symm.trans ht0)
 obtain ⟨l0⟩:=cs0
 rcases DataW.trod_slice Tryz.underlying147 hd0 with ⟨_,hx⟩ | ⟨a,len,cap,elems,rest,n,_,hcs,hx,_,hlc,_,hel,hcell,_,_⟩
 ·have h9:=congrArg Prod.fst hx
  simp only [Rows.laid_solspace_solspaceref_kinds] at h9
  cases h9
 ·have h9:DataW.slice [DataW.lit (.string []),.lit (.string [112,97,99,107,97,103,101]),.lit (.string [110,101,101,100,115]),.lit (.string [99,108,97,115,104,101,115]),.lit (.string [114,111,111,116])] []=DataW.slice (elems.map (·.1)) (rest.map (·.1)):=congrArg Prod.fst hx
  injection h9 with h8 _
  have h5:len=5:=by rw [←hel];have:=congrArg List.length h8;simp at this;omega
  subst h5
  have c0:=World.var?_cell hg0 hv0 0
  obtain rfl:l0=[.slice (some a) 5 cap]:=by simpa using hcs
  have each:∀ k,k<5→W.cell? (a.add k)=some (.string (kindB.getD k ByteArray.empty)):=by
   intro k hk
   have hk':k<elems.length:=by omega
   have h1:=hcell k hk
   rw [cellsStrC,Nat.mul_one,List.getElem?_eq_getElem hk'] at h1
   cases hc:W.cells? 0 (a.add k) 1 with
   | none=>rw [hc] at h1;cases h1
   | some cs =>
    rw [hc] at h1
    obtain ⟨s,rfl,hd,_⟩:=DataW.trod_string Tryz.underlying9 h1
    have h2:=cell_of_cells?_one hc
    rw [h2]
    have h3:(elems[k]).1=.lit (.string s.data.toList):=by rw [hd]
    have h4:(elems.map (·.1))[k]?=some (.lit (.string s.data.toList)):=by rw [List.getElem?_map,List.getElem?_eq_getElem hk',Option.map_some,h3]
    rw [←h8] at h4
    rcases (show k=0∨k=1∨k=2∨k=3∨k=4 by omega) with rfl | rfl | rfl | rfl | rfl <;>
    ·simp only [List.getElem?_cons_zero,List.getElem?_cons_succ,Option.some.injEq,DataW.lit.injEq,Lit.string.injEq] at h4
     exact congrArg (fun z=>some (Value.string z)) (bytes_back _ s h4).symm
  obtain ⟨b,off,spot⟩:=a
  have hsp:spot=none:=by
   have h1:=each 0 (by omega)
   unfold Addr.add at h1
   rw [if_pos rfl] at h1
   cases spot with
   | none=>rfl
   | some sp =>
    unfold World.cell? at h1
    split at h1 <;> simp at h1
  subst hsp
  refine ⟨b,off,cap,by simpa using c0,fun k hk=>?_⟩
  have:=each k hk
  rwa [Addr.add_lit] at this
theorem globV_of_laidC {W:World} (h:laidMetH Tryz.prog laidC W) (hs:W.ShapedOpen Tryz.prog):GlobV W∧FineP W∧KindsP W:=by
 have h':laidMet Tryz.prog laidC2 W∧handlesMet Tryz.prog [("errors.errorType",Rows.laid_errors_errorType)] W:=h
 have h3:=laidMet.tail (laidMet.tail h'.1)
 have h5:=laidMet.tail (laidMet.tail h3)
 exact ⟨⟨⟨cell_of_handle h'.2 (List.mem_singleton.2 rfl)⟩,globT_of_head h3,shape_max hs,cell_of_sentinel (laidMet.tail h5) gSynV tSynV,cell_of_sentinel h5 gRngV tRngV⟩,fineC_of_head (laidMet.tail (laidMet.tail (laidMet.tail h5))),kinds_of_head (laidMet.tail (laidMet.tail h5))⟩
end Go.Proofs.YtojgbcmhdnappaaGreatDoor
namespace Go.Proofs.YtojgbcmhdnappaaGreatDoor
open Go.ChangeShapes Go.WideShapes Go.ChangeAt Go.WideElems Go.RowKit Go.Deep
set_option maxRecDepth 100000 in
theorem reasonAll_lifted (os:Os) (started:os.Started) (H:Type) (enc:TypeId×Value→H) :
  ReturnsInHanded {} Tryz.checked os 3 .any (fun w args=>(Rows.reasonAllSpec.pre enc Tryz.prog Tryz.f3 [] false w args∧laidMetH Tryz.prog laidC w)∧sizedMet enc Tryz.prog Tryz.f3 (OpenSpec.ofChange Rows.reasonAllSpec) false w args)
   (Rows.reasonAllSpec.post enc Tryz.prog Tryz.f3 false true false false):=by
 refine returns_shaped (C:=Tryz.checked) (X:=fun w _=>laidMetH Tryz.prog laidC w) (fun _ _ _ hh h=>h.of_heap hh) own started (by kernel_rfl) Tryz.func3
  (ChangeSpec.witness_shaped (enc:=enc) (C:=Tryz.checked) (os:=os) (X:=fun w _=>laidMetH Tryz.prog laidC w) false (startC os) #[.string (ByteArray.mk #[])] 8 rfl (World.shaped_of_RefB (by kernel_rfl) (by kernel_rfl)) (by kernel_rfl) (by kernel_rfl) (by kernel_rfl) (startC_met os _)) ?_
 intro W base args ds gs before hval0 hW _ hL hS
 have hval:∀ (j:Nat) t v,Tryz.f3.params[j]?=some t→args[j]?=some v→Value.okWide Tryz.prog W .any base t v:=hval0
 have hW':=hW
 obtain ⟨p,q,hA0,hV,rfl,hfz,hnd⟩:=hW
 have hA:DataW.TrodAll enc Tryz.prog W 0 (fun _=>true) true Tryz.f3.params.toList args.toList ds p:=hA0
 rw [Tryz.params3] at hA hval
 obtain ⟨v0,d0,rfl,rfl,h0⟩:=trodAll_one hA
 obtain ⟨s0,rfl,rfl,rfl,hs0⟩:=Go.ChangeMaps.open_string Tryz.underlying9 (hval 0 9 v0 rfl rfl) h0
 have hgl:=globV_of_laidC hL hS
 refine (lawAll_walk s0 W hgl.1 hgl.2.1 hgl.2.2 hs0).mono fun e W' ⟨he,hb⟩=>?_
 subst he
 exact ⟨_,rfl,law_post (by kernel_rfl) (by kernel_rfl) rfl hW' rfl (by kernel_rfl) hb⟩
theorem andT {a b:Bool} (ha:a=true) (hb:b=true):(a&&b)=true:=by rw [ha,hb];rfl
set_option maxHeartbeats 4000000 in
theorem reasonAll_closed:joinedFacts Tryz.prog 3 Tryz.f3 Rows.reasonAllSpec Rows.reasonAllRow=true:=by
 unfold joinedFacts
 repeat' (with_reducible refine andT ?_ ?_)
 all_goals as_aux_lemma=>kernel_rfl
theorem reasonAll_func:Tryz.prog.funcNamed Rows.reasonAllRow.func=some 3:=by kernel_rfl
theorem reasonAll_row:Rows.ReasonAllSaid :=
 OpenClaim.holds_of_wide 3 Tryz.f3 rfl rfl rfl rfl rfl rfl rfl ⟨rfl,rfl,rfl,rfl,rfl⟩ rfl rfl rfl rfl rfl reasonAll_func Tryz.func3 reasonAll_closed
  (of_decide_eq_true (by kernel_rfl)) (by unfold Func.isWrapper;first | (rw [if_pos (by decide +kernel)];kernel_rfl) | (rw [if_neg (by decide +kernel)];exact ⟨rfl,rfl⟩))
  (fun os started H enc _=>reasonAll_lifted os started H enc)
theorem reasonAll_wf:Rows.reasonAllRow.wfByText (OpenSpec.ofChange Rows.reasonAllSpec)=true:=by kernel_rfl
theorem reasonAll_looks:Rows.reasonAllCard.stood.looks=Tryz.prog.looks []:=by kernel_rfl
theorem reasonAll_goes:false=Rows.reasonAllRow.goesBy Tryz.prog:=by kernel_rfl
theorem reasonAll_main:Tryz.checked.prog.mainIs=some (Rows.reasonAllCard.stood.harness.1,Rows.reasonAllCard.stood.harness.2.toList):=by kernel_rfl
theorem reasonAll_card:Rows.ReasonAllCardSaid :=
 Claim7.holds_tied_plain_at .later [] [.data,.data,.data,.data,.handle,.sentinel,.sentinel,.data,.data,.pinned] true Rows.reasonAllCard.stood.harness Rows.reasonAllCard.stood.looks
  reasonAll_row (fun _ h=>by cases h) reasonAll_wf (fun _ h=>by cases h) reasonAll_row_tie rfl ⟨rfl,rfl⟩ reasonAll_main rfl
  (fun f fn hf hfn=>by
   obtain rfl:f=3:=Option.some.inj (reasonAll_func.symm.trans hf) |>.symm
   obtain rfl:fn=Tryz.f3:=(Option.some.inj (Tryz.func3.symm.trans hfn)).symm
   exact ⟨reasonAll_looks,fun j t ht=>by
    rw [Tryz.params3] at ht
    have hm:t∈[9]:=by simpa using Array.mem_of_getElem? ht
    have hall:([9].all fun u=>!Tryz.prog.wantsStandIn u)=true:=by as_aux_lemma=>kernel_rfl
    exact (show Tryz.prog.wantsStandIn t=false by simpa using List.all_eq_true.1 hall t hm)⟩)
  reasonAll_goes
end Go.Proofs.YtojgbcmhdnappaaGreatDoor
