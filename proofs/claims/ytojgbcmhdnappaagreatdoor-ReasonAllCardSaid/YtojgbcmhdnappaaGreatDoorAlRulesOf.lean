/-
  A part of the proof: RulesOf. Conditions: none.
-/
import Derived.Test.YtojgbcmhdnappaaGreatDoorAlRuSame
import Derived.Test.YtojgbcmhdnappaaGreatDoorAlRefItems
import Derived.Test.YtojgbcmhdnappaaGreatDoorAlSays
import Derived.BigQuiet
namespace Go.Proofs.YtojgbcmhdnappaaGreatDoor
open Go.RowKit
open Classical
set_option maxRecDepth 100000
theorem chkL_kinds {x:LnR} (h:chkL x=0):x.k=1∨x.k=2∨x.k=3∨x.k=4:=by
 unfold chkL at h
 split at h
 ·cases h
 ·omega
theorem catNum_of (g base:Nat) (qs:List LnQ) (x:ItR) (w:World) (h:CatO w base g qs) (hl:(itemsF (qs.map (·.1))).length≤1000000):Calls Tryz.prog 98 #[.pointer (some ⟨g,0,none⟩),.string x.1,.agg #[.int .i64 x.2.1,.int .i64 x.2.2.1,.int .i64 x.2.2.2]] w (PosP (itemsF (qs.map (·.1))) x w):=by
 obtain ⟨vl,vi,h1,h2,h3⟩:=h.is
 exact catNum_any g vl vi _ x w ⟨h1,h3.mono (Nat.zero_le _)⟩ hl
theorem map_snoc1 (out:List RuR) (c:List Int) (f:Int):(out++[(c,f)]).map (·.1)=out.map (·.1)++[c]:=by rw [List.map_append];rfl
theorem map_snoc2 (out:List RuR) (c:List Int) (f:Int):(out++[(c,f)]).map (·.2)=out.map (·.2)++[f]:=by rw [List.map_append];rfl
theorem ownI_one (w:World) (base:Nat) (hb:base≤w.heap.size) (a:Int):OwnI (w.alloc (.cells #[.int .i64 a] 3)) base (.slice (some ⟨w.heap.size,0,none⟩) 1 1) [a] :=
 World.ownsRow_lit w #[.int .i64 a] 1 hb (by decide) rfl
def RefRuP (R:List RuR) (w:World) (e:Ending) (w':World):Prop:=∃ v2 v3,e=.returned (.tuple #[v2,v3,.bool (decide ((R.length:Int)≤200))])∧RuM w' w.heap.size v2 v3 (R.map (·.1)) (R.map (·.2))∧Below w.heap.size w w'
theorem posN_rng (its:List ItR) (x:ItR) (h:its.length≤24) : -1≤posN its x∧posN its x≤24:=by
 rcases posF_cases x its 0 with ⟨_,h2,h3⟩ | ⟨_,h2⟩
 ·unfold posN;omega
 ·unfold posN;omega
theorem few_out {out r T:List RuR} (h:out++r=T) (hT:T.length≤100000):out.length≤100000:=by
 rw [←h,List.length_append] at hT
 omega
theorem rulesF_len {its:List ItR} {ls:List LnR} (h:its.length≤24) (h2:ls.length≤100):(rulesF its ls).length≤100000:=by
 unfold rulesF
 have h3:=twinsR_len its its 0
 have h4:=rusL_len its ls 0
 have h5:its.length*its.length≤24*24:=Nat.mul_le_mul h h
 have h6:ls.length*(its.length+1)≤100*25:=Nat.mul_le_mul h2 (by omega)
 rw [List.length_append]
 omega
theorem upF_snoc (zs:List Int) {j:Nat} (h:j<zs.length):upF (zs.take (j+1))=upF (zs.take j)++[zs[j]+1]:=by
 unfold upF
 rw [List.take_succ_eq_append_getElem h,List.map_append]
 rfl
theorem clash_snoc (zs:List Int) (ow:Int) (n:Nat) {j:Nat} (h:j<zs.length):(zs.take (j+1)).map (fun z=>(([ow,-z-1]:List Int),(n:Int)))=(zs.take j).map (fun z=>(([ow,-z-1]:List Int),(n:Int)))++[([ow,-zs[j]-1],(n:Int))]:=by
 rw [List.take_succ_eq_append_getElem h,List.map_append]
 rfl
set_option maxHeartbeats 16000000 in
theorem refRules_any (v:Value) (qs:List LnQ) (its0:List ItR) (w:World) (h:LnsR w 0 v qs) (hc:catR (qs.map (·.1))=.inr its0) :
  Calls Tryz.prog 44 #[v] w (RefRuP (rulesF (itemsF (qs.map (·.1))) (qs.map (·.1))) w):=by
 have hq100:qs.length≤100:=by have:=(catR_ok hc).2.2.2.1;simpa using this
 have HCK:=Lib.hid (catR_ok hc).2.2.2.2
 obtain ⟨h24,_⟩:=catR_few hc
 have HRL:=Lib.hid (rulesF_len (ls:=qs.map (·.1)) h24 (by simpa using hq100))
 have HIT:=hide (refItems_any v qs w h (by omega))
 have HL:=hide h
 obtain ⟨A,c,rfl,_⟩:=h.1.len
 unfold ItsP at HIT
 generalize hits:itemsF (qs.map (·.1))=its at HIT h24 HRL ⊢
 clear h hc hits
 go_enter Tryz.func44,Tryz.ntmps44
 go_wp2_with fail
 refine HIT.out.mono ?_
 rintro e w1 ⟨v5,rfl,ho,hb1⟩
 have HO:=hide (ho.mono (Nat.zero_le _))
 have HL1:=hide (HL.out.below hb1)
 have HB1:=hide hb1
 obtain ⟨A5,c5,rfl,_⟩:=HO.out.len
 clear ho hb1 HIT HL
 have HT:=Lib.hid (show (twinsR its its 0).length≤100000 from few_out (r:=rusL its (qs.map (·.1)) 0) (T:=rulesF its (qs.map (·.1))) rfl HRL.out)
 go_wp2_with fail
 go_loopw [6,7,23] (fun v6 v7 kv wr=>∃ (k:Nat) (out:List RuR),k≤its.length∧kv=.int .i64 k∧Hid (RuM wr w1.heap.size v6 v7 (out.map (·.1)) (out.map (·.2)))∧Hid (Below w1.heap.size w1 wr)∧Hid (out++twinsR its (its.drop k) k=twinsR its its 0)) (fun _ _ kv _=>its.length-(intOf kv).toNat)
 case atStart=>exact ⟨0,[],Nat.zero_le _,rfl,hide (RuM.nil _ _),hide (Below.refl _ _),Lib.hid rfl⟩
 case round =>
  obtain ⟨k,out,hk,rfl,HM,HW,HP⟩:=hrel
  by_cases hlt:k<its.length
  ·have hltz:(k:Int)<(its.length:Int):=by omega
   have HST:=Lib.hid (twinsR_step hlt HP.out)
   obtain ⟨nk,HNK⟩:∃ nk,Hid (its[k].1=nk):=⟨_,Lib.hid rfl⟩
   rw [HNK.out] at HST
   have HHF:=Lib.hid (fun (out2:List RuR) (i:Nat) (h:out2++twinR nk k ((its.take k).drop i) i=out++twinR nk k (its.take k) 0)=>show out2++(twinR nk k ((its.take k).drop i) i++twinsR its (its.drop (k+1)) (k+1))=twinsR its its 0 by rw [←List.append_assoc,h];exact HST.out)
   clear HP
   go_wp2_with fail
   go_loopw [6,7,27] (fun v6 v7 iv wr=>∃ (i:Nat) (out2:List RuR),i≤k∧iv=.int .i64 i∧Hid (RuM wr w1.heap.size v6 v7 (out2.map (·.1)) (out2.map (·.2)))∧Hid (Below w1.heap.size w1 wr)∧Hid (out2++twinR nk k ((its.take k).drop i) i=out++twinR nk k (its.take k) 0)) (fun _ _ iv _=>k-(intOf iv).toNat)
   case atStart=>exact ⟨0,out,Nat.zero_le _,rfl,HM,HW,Lib.hid rfl⟩
   case round =>
    clear HM HW
    obtain ⟨i,out2,hi,rfl,HM,HW,HP⟩:=hrel
    by_cases hil:i<k
    ·have hilz:(i:Int)<(k:Int):=by omega
     have hilz2:(i:Int)<(its.length:Int):=by omega
     have hin:i<its.length:=by omega
     obtain ⟨hh,hm⟩:=twinR_step (l:=its.take k) (i:=i) (by rw [List.length_take];omega) HP.out
     rw [List.getElem_take] at hh hm
     obtain ⟨g5,hA,hrow⟩:=(HO.out.below HW.out).rowAt hin
     subst hA
     have yi:=(row4 rfl rfl hrow hin).1
     have yk:=(row4 rfl rfl hrow hlt).1
     rw [HNK.out] at yk
     have HHH:=Lib.hid hh
     have HHM:=Lib.hid hm
     have hfew:out2.length≤100000:=few_out (HHF.out out2 i HP.out) HT.out
     clear hrow hh hm HP
     generalize its[i].1=ni at yi HHH HHM
     by_cases hn:ni=nk
     ·have HN:=Lib.hid (HHH.out hn)
      have hne:(ni.toList==nk.toList)=true:=by rw [hn];exact beq_self_eq_true _
      clear HHH HHM hn
      go_wp2_with fail
      go_quiet (fail)
      obtain ⟨v6,HV6⟩:∃ v6,Hid (u6=v6):=⟨_,Lib.hid rfl⟩
      have HMD:=hide (HM.out.below (below_drewN (Below.refl _ _) nq))
      have HWD:=hide (below_drewN HW.out nq)
      have hal1:=(Below.refl (wr.drewN nq).heap.size (wr.drewN nq)).alloc (Nat.le_refl _) (.cells #[.int .i64 (-((i:Int)+1)),.int .i64 (-((k:Int)+1))] 3)
      have hzx0:OwnX ((wr.drewN nq).alloc (.cells #[.int .i64 (-((i:Int)+1)),.int .i64 (-((k:Int)+1))] 3)) (wr.drewN nq).heap.size u7 (.slice (some ⟨wr.heap.size,0,none⟩) 2 2) [-((i:Int)+1),-((k:Int)+1)]:=RuM.fresh HMD.out (ownI_pair (wr.drewN nq) _ (Nat.le_refl _) (-((i:Int)+1)) (-((k:Int)+1)))
      have hal2:=(Below.refl ((wr.drewN nq).alloc (.cells #[.int .i64 (-((i:Int)+1)),.int .i64 (-((k:Int)+1))] 3)).heap.size ((wr.drewN nq).alloc (.cells #[.int .i64 (-((i:Int)+1)),.int .i64 (-((k:Int)+1))] 3))).alloc (Nat.le_refl _) (.cells #[.slice (some ⟨wr.heap.size,0,none⟩) 2 2] 125)
      have hal:=hal1.trans (hal2.mono hal1.size)
      have HMA:=hide (HMD.out.below hal)
      have HZX:=hide (OwnX.mono (hzx0.below hal2) HW.out.size)
      have hkb:=Blk.new ((wr.drewN nq).alloc (.cells #[.int .i64 (-((i:Int)+1)),.int .i64 (-((k:Int)+1))] 3)) 125 #[.slice (some ⟨wr.heap.size,0,none⟩) 2 2]
      rw [World.size_alloc] at hkb
      have HKB:=hide hkb
      clear hkb
      have HWA:=hide (HWD.out.trans (hal.mono HWD.out.size))
      have hl1:(out2.map (·.1)).length≤90000000:=by rw [List.length_map];omega
      have hl2:(out2.map (·.2)).length≤90000000:=by rw [List.length_map];omega
      have HLA:=Lib.hid hl1
      have HLB:=Lib.hid hl2
      clear hal hal1 hal2 hzx0 hl1 hl2 
      go_wp2_with (first | (at_builtin;refine appRu _ rfl _ _ _ rfl w1.heap.size Tryz.underlying26 _ _ _ _ rfl HMA.out ((wr.drewN nq).heap.size+1) 1 _ _ _ [-((i:Int)+1),-((k:Int)+1)] rfl HKB.out HZX.out HLA.out HWA.out.size ?_;intro v8 w8 hr8 hx8 hk8 hb8;have HR8:=hide (hr8.below ((Below.refl w8.heap.size w8).alloc (Nat.le_refl _) (.cells #[.int .i64 (-1)] 3)));have HB8:=hide (HWA.out.trans (hb8.mono (Nat.le_refl _)));have HX8:=Lib.hid hx8;clear hr8 hx8 hk8 hb8) | (at_builtin;refine appRf _ rfl _ _ _ rfl w1.heap.size Tryz.underlying31 _ _ _ _ rfl HR8.out w8.heap.size 1 (-1) rfl (Blk.new w8 3 #[.int .i64 (-1)]) HLB.out (Nat.le_trans HB8.out.size (by simp)) ?_;intro v9 w9 hr9 hx9 hk9 hb9;have HR9:=hide hr9;have HB9:=hide ((HB8.out.alloc HB8.out.size (.cells #[.int .i64 (-1)] 3)).trans (hb9.mono (Nat.le_refl _)));have HX9:=Lib.hid hx9;clear hr9 hx9 hk9 hb9))
      have hze:([-((i:Int)+1),-((k:Int)+1)]:List Int)=[-(i:Int)-1,-(k:Int)-1]:=by rw [show -((i:Int)+1) = -(i:Int)-1 by omega,show -((k:Int)+1) = -(k:Int)-1 by omega]
      have HRX:=hide (show RuM w9 w1.heap.size v8 v9 ((out2++[([-(i:Int)-1,-(k:Int)-1],-1)]:List RuR).map (·.1)) ((out2++[([-(i:Int)-1,-(k:Int)-1],-1)]:List RuR).map (·.2)) by rw [map_snoc1,map_snoc2,←hze];exact HR9.out)
      clear hze HR9
      go_round
      case rel=>exact ⟨i+1,_,by omega,by go_num,HRX,HB9,HN⟩
      case measure=>simp [intOf];omega
     ·have HN:=Lib.hid (HHM.out hn)
      have hne:(ni.toList==nk.toList)=false:=beq_eq_false_iff_ne.2 fun e=>hn (by
       rw [ByteArray.toList_eq,ByteArray.toList_eq] at e
       exact ByteArray.ext (Array.ext' e))
      clear HHH HHM hn
      go_wp2_with fail
      go_quiet (fail)
      have HMD:=hide (HM.out.below (below_drewN (Below.refl _ _) nq))
      go_wp2_with fail
      go_round
      case rel=>exact ⟨i+1,out2,by omega,by go_num,HMD,hide (below_drewN HW.out _),HN⟩
      case measure=>simp [intOf];omega
    ·have hilz:¬(i:Int)<(k:Int):=by omega
     have hp:=HP.out
     rw [List.drop_eq_nil_of_le (by rw [List.length_take];omega),twinR,List.append_nil] at hp
     have HN:=Lib.hid (show out2++twinsR its (its.drop (k+1)) (k+1)=twinsR its its 0 by rw [hp];exact HST.out)
     clear hp HP
     go_wp2_with fail
     go_round
     case rel=>exact ⟨k+1,out2,by omega,by go_num,HM,HW,HN⟩
     case measure=>simp [intOf];omega
  ·have hltz:¬(k:Int)<(its.length:Int):=by omega
   have hp:=HP.out
   rw [List.drop_eq_nil_of_le (by omega),twinsR,List.append_nil] at hp
   have HO2:=Lib.hid hp
   clear hp HP
   have HRS:=Lib.hid (show out++rusL its (qs.map (·.1)) 0=rulesF its (qs.map (·.1)) by rw [HO2.out];rfl)
   go_wp2_with fail
   go_loopw [6,7,58] (fun v6 v7 nv wr=>∃ (n:Nat) (out:List RuR),n≤qs.length∧nv=.int .i64 n∧Hid (RuM wr w1.heap.size v6 v7 (out.map (·.1)) (out.map (·.2)))∧Hid (Below w1.heap.size w1 wr)∧Hid (out++rusL its ((qs.map (·.1)).drop n) n=rulesF its (qs.map (·.1)))) (fun _ _ nv _=>qs.length-(intOf nv).toNat)
   case atStart=>exact ⟨0,out,Nat.zero_le _,rfl,HM,HW,HRS⟩
   case round =>
    clear HM HW HRS HO2 hltz hk
    obtain ⟨n,out,hn,rfl,HM,HW,HP⟩:=hrel
    by_cases hnl:n<qs.length
    ·have hnlz:(n:Int)<(qs.length:Int):=by omega
     have hst:=rusL_step (its:=its) (ls:=qs.map (·.1)) (n:=n) (by simpa using hnl) HP.out
     have hfew:out.length≤100000:=few_out HP.out HRL.out
     rw [List.getElem_map] at hst
     obtain ⟨gq,hA,hrow⟩:=(HL1.out.1.below HW.out).rowAt hnl
     subst hA
     obtain ⟨y0,y1,y2,y3,y4,y5,y6⟩:=row7 rfl rfl hrow hnl
     have hmem:qs[n].1∈qs.map (·.1):=List.mem_map.2 ⟨_,List.getElem_mem hnl,rfl⟩
     have HKD:=Lib.hid (chkL_kinds (HCK.out _ hmem))
     obtain ⟨hrv,hok⟩:=HL1.out.2 _ (List.getElem_mem hnl)
     have hrv2:=hrv.below HW.out
     have hcan:=hok.can
     clear hrow hmem hrv hok HP
     generalize qs[n]=q at y0 y1 y2 y3 y4 y5 y6 hst HKD hrv2 hcan
     obtain ⟨x,Aq,nq,cq⟩:=q
     simp only [slQ] at y0 y1 y2 y3 y4 y5 y6 hst HKD hrv2 hcan
     have hal:=(Below.refl wr.heap.size wr).alloc (Nat.le_refl _) (.cells #[.int .i64 x.k,.string x.name,.int .i64 (x.ver 0),.int .i64 (x.ver 1),.int .i64 (x.ver 2),.string x.other,.slice Aq nq cq] 34)
     have HKX:=hide (Blk.new wr 34 #[.int .i64 x.k,.string x.name,.int .i64 (x.ver 0),.int .i64 (x.ver 1),.int .i64 (x.ver 2),.string x.other,.slice Aq nq cq])
     have HBA:=hide (HW.out.trans (hal.mono HW.out.size))
     have HMA0:=hide (HM.out.below hal)
     have HRV:=hide (hrv2.below hal)
     have HCAN:=Lib.hid hcan
     have HST:=Lib.hid hst
     have HNM:=hide (refNum_at (.slice A5 its.length c5) its (itL x) (wr.alloc (.cells #[.int .i64 x.k,.string x.name,.int .i64 (x.ver 0),.int .i64 (x.ver 1),.int .i64 (x.ver 2),.string x.other,.slice Aq nq cq] 34)) (HO.out.below HBA.out) (by omega))
     unfold itA itL PosP at HNM
     simp only [] at HNM
     have how:=posN_rng its (x.name,x.ver 0,x.ver 1,x.ver 2) h24
     obtain ⟨ow,HOW⟩:∃ ow,Hid (posN its (x.name,x.ver 0,x.ver 1,x.ver 2)=ow):=⟨_,Lib.hid rfl⟩
     rw [HOW.out] at HNM how
     clear hal hrv2 hcan hst HM
     go_wp2_with fail
     generalize World.alloc _ (.cells #[.int .i64 x.k,.string x.name,.int .i64 (x.ver 0),.int .i64 (x.ver 1),.int .i64 (x.ver 2),.string x.other,.slice Aq nq cq] 34)=wA at HKX HBA HMA0 HRV HNM ⊢
     generalize wr.heap.size=bx at HKX ⊢
     clear HW y0 y1 y2 y3 y4 y5 y6
     refine HNM.out.mono ?_
     rintro e w2 ⟨rfl,hb2⟩
     have HM2:=hide (HMA0.out.below hb2)
     have HB2:=hide (HBA.out.trans (hb2.mono HBA.out.size))
     have HKX2:=hide (HKX.out.below hb2 HKX.out.lt)
     have HRV2:=hide (HRV.out.below hb2)
     clear hb2 HNM HMA0 HBA HKX HRV
     have x0:=HKX2.out.cell 0
     have x1:=HKX2.out.cell 1
     have x5:=HKX2.out.cell 5
     have x6:=HKX2.out.cell 6
     rcases HKD.out with h1 | h2 | h3 | h4
     ·have q2:(x.k==2)=false:=by rw [h1];rfl
      have q3:(x.k==3)=false:=by rw [h1];rfl
      have q4:(x.k==4)=false:=by rw [h1];rfl
      have HN:=Lib.hid (show out++rusL its ((qs.map (·.1)).drop (n+1)) (n+1)=rulesF its (qs.map (·.1)) by have:=HST.out;rwa [ruL_none (by omega) (by omega) (by omega),List.append_nil] at this)
      go_wp2_with fail
      go_round
      case rel=>exact ⟨n+1,out,by omega,by go_num,HM2,HB2,HN⟩
      case measure=>simp [intOf];omega
     ·have q2:(x.k==2)=true:=by rw [h2];rfl
      have q3:(x.k==3)=false:=by rw [h2];rfl
      have q4:(x.k==4)=false:=by rw [h2];rfl
      have HK2:=Lib.hid h2
      clear h2
      go_upto_region 24 with fail
      have hnw : -1≤ow+1∧ow+1≤25:=by omega
      have lbx:=HKX2.out.lt
      go_region
      have hw3:=((Below.refl w2.heap.size w2).alloc (Nat.le_refl _) (.cells #[.int .i64 (-(ow+1))] 3)).drew
      have HB3:=hide (HB2.out.trans (hw3.mono HB2.out.size))
      have HRV3:=hide (HRV2.out.below hw3)
      have HOC:=hide (show OwnI (w2.alloc (.cells #[.int .i64 (-(ow+1))] 3)).drew w2.heap.size (.slice (some ⟨w2.heap.size,0,none⟩) 1 1) [-(ow+1)] from (ownI_one w2 _ (Nat.le_refl _) _).below (Below.refl _ _).drew)
      have HKX3:=hide (HKX2.out.below hw3 HKX2.out.lt)
      have z6:=HKX3.out.cell 6
      have HAM:=hide (refAm_any (.slice A5 its.length c5) its x.other (.slice Aq nq cq) x.rg (w2.alloc (.cells #[.int .i64 (-(ow+1))] 3)).drew (HO.out.below HB3.out) HRV3.out HCAN.out (by omega))
      have hrz:=amF_range x.other x.rg its 0
      have hzl:=amF_len x.other x.rg its 0
      unfold AmP at HAM
      obtain ⟨zs,HZS⟩:∃ zs,Hid (amF x.other x.rg its 0=zs):=⟨_,Lib.hid rfl⟩
      rw [HZS.out] at HAM hrz hzl
      have HRZ:=Lib.hid (show ∀ z∈zs,0≤z∧z≤64 from fun z hz=>by have:=hrz z hz;omega)
      clear hrz
      have HW23:=hide hw3
      clear hw3 x0 x1 x5 x6
      go_wp2_with fail
      generalize World.drew (World.alloc _ (.cells #[.int .i64 (-(ow+1))] 3))=w3 at HW23 HB3 HRV3 HOC HKX3 HAM ⊢
      refine HAM.out.mono ?_
      rintro e w4 ⟨vz,rfl,hoz,hb4⟩
      have HW4:=hide ((show Below w2.heap.size w2 w3 from HW23.out).trans (hb4.mono HW23.out.size))
      have HXZ:=hide (OwnX.of_lt (vF:=.slice (some ⟨w2.heap.size,0,none⟩) 1 1) (hoz.mono (Nat.le_refl _)) (fun k e=>(World.ownsRow.lt HOC.out k e).2))
      have HB4:=hide (HB3.out.trans (hb4.mono HB3.out.size))
      have HOC4:=hide (HOC.out.below hb4)
      obtain ⟨Az,cz,rfl⟩:=hoz.len
      clear hoz hb4 HAM HB3 HOC
      go_wp2_with fail
      go_loopw [13,92] (fun v13 jv wr=>∃ j:Nat,j≤zs.length∧jv=.int .i64 j∧Hid (OwnI wr w2.heap.size v13 ([-(ow+1)]++upF (zs.take j)))∧Hid (OwnX wr 0 v13 (.slice Az zs.length cz) zs)∧Hid (Below w2.heap.size w2 wr)) (fun _ jv _=>zs.length-(intOf jv).toNat)
      case atStart=>exact ⟨0,Nat.zero_le _,rfl,by simpa [upF] using HOC4,hide (HXZ.out.mono (Nat.zero_le _)),HW4⟩
      case round =>
       clear HOC4 HXZ HW4 HB4
       obtain ⟨j,hj,rfl,HOC,HXZ,HW4⟩:=hrel
       obtain ⟨A13,c13,h13⟩:=HOC.out.len
       subst h13
       obtain ⟨n13,HN13⟩:∃ n13,Hid ((([-(ow+1)]:List Int)++upF (zs.take j)).length=n13):=⟨_,Lib.hid rfl⟩
       rw [HN13.out] at HOC HXZ ⊢
       by_cases hjl:j<zs.length
       ·have hjlz:(j:Int)<(zs.length:Int):=by omega
        obtain ⟨gz,capz,cur,e9,_,hkz,_,hcz⟩:=HXZ.out.1.form (by omega)
        injection e9 with e1 e2 e3
        subst e1
        have u0:=(hkz.cell j).trans (hcz j hjl)
        rw [List.getD_eq_getElem?_getD,List.getElem?_eq_getElem hjl,Option.getD_some] at u0
        have hr:=HRZ.out _ (List.getElem_mem hjl)
        have HUS:=Lib.hid (upF_snoc zs hjl)
        generalize zs[j]=z at u0 hr HUS
        have hl1:([-(ow+1)]++upF (zs.take j)).length+1≤10000000000:=by simp [upF];omega
        have HLA:=Lib.hid hl1
        have hal:=(Below.refl wr.heap.size wr).alloc (Nat.le_refl _) (.cells #[.int .i64 (z+1)] 3)
        have HOA:=hide (HOC.out.below hal)
        have HXA:=hide (HXZ.out.below hal)
        have HWA:=hide (HW4.out.trans (hal.mono HW4.out.size))
        have HKA:=hide (Blk.new wr 3 #[.int .i64 (z+1)])
        clear hkz hcz e2 e3 hl1 hal HOC HXZ
        go_wp2_with (at_builtin;(refine appI _ rfl _ _ _ rfl w2.heap.size Tryz.underlying125 (.slice A13 n13 c13) _ rfl HOA.out (wr.heap.size+1) (some ⟨wr.heap.size,0,none⟩) 1 1 [z+1] rfl (blk_reads (zs:=[z+1]) HKA.out) rfl HLA.out HWA.out.size ?_;intro v9 w9 ho9 hg9 hor9;have HX9:=hide (HXA.out.push hg9 hor9);have HO9:=hide ho9;have HW9:=hide (HWA.out.grown hg9 HWA.out.size (fun k hk=>(World.ownsRow.lt HOA.out k hk).1));clear ho9 hg9 hor9))
        rw [List.append_assoc,←HUS.out] at HO9
        go_round
        case rel=>exact ⟨j+1,by omega,by go_num,HO9,HX9,HW9⟩
        case measure=>simp [intOf];omega
       ·have hjlz:¬(j:Int)<(zs.length:Int):=by omega
        have hoc:=HOC.out
        rw [List.take_of_length_le (show zs.length≤j by omega)] at hoc
        have HMW:=hide (HM2.out.below HW4.out)
        have HWW:=hide (HB2.out.trans (HW4.out.mono HB2.out.size))
        have HCX:=hide (RuM.fresh HM2.out hoc)
        have HN:=Lib.hid (show (out++[(([-(ow+1)]++upF zs),(n:Int))])++rusL its ((qs.map (·.1)).drop (n+1)) (n+1)=rulesF its (qs.map (·.1)) by have:=HST.out;rw [ruL_needs HK2.out,HZS.out,show itL x=(x.name,x.ver 0,x.ver 1,x.ver 2) from rfl,HOW.out] at this;exact this)
        clear hoc HOC HXZ HST
        have hal1:=Below.refl wr.heap.size wr
        have hzx0:=HCX.out
        have hal2:=(Below.refl wr.heap.size wr).alloc (Nat.le_refl _) (.cells #[.slice A13 n13 c13] 125)
        have hal:=hal1.trans (hal2.mono hal1.size)
        have HMA:=hide (HMW.out.below hal)
        have HZX:=hide (OwnX.mono (hzx0.below hal2) HB2.out.size)
        have HKB:=hide (Blk.new wr 125 #[.slice A13 n13 c13])
        have HWA:=hide (HWW.out.trans (hal.mono HWW.out.size))
        have hl1:(out.map (·.1)).length≤90000000:=by rw [List.length_map];omega
        have hl2:(out.map (·.2)).length≤90000000:=by rw [List.length_map];omega
        have HLA:=Lib.hid hl1
        have HLB:=Lib.hid hl2
        clear hal hal1 hal2 hzx0 hl1 hl2 
        go_wp2_with (first | (at_builtin;refine appRu _ rfl _ _ _ rfl w1.heap.size Tryz.underlying26 _ _ _ _ rfl HMA.out wr.heap.size 1 _ _ _ ([-(ow+1)]++upF zs) rfl HKB.out HZX.out HLA.out HWA.out.size ?_;intro v8 w8 hr8 hx8 hk8 hb8;have HR8:=hide (hr8.below ((Below.refl w8.heap.size w8).alloc (Nat.le_refl _) (.cells #[.int .i64 (n:Int)] 3)));have HB8:=hide (HWA.out.trans (hb8.mono (Nat.le_refl _)));have HX8:=Lib.hid hx8;clear hr8 hx8 hk8 hb8) | (at_builtin;refine appRf _ rfl _ _ _ rfl w1.heap.size Tryz.underlying31 _ _ _ _ rfl HR8.out w8.heap.size 1 (n:Int) rfl (Blk.new w8 3 #[.int .i64 (n:Int)]) HLB.out (Nat.le_trans HB8.out.size (by simp)) ?_;intro v9 w9 hr9 hx9 hk9 hb9;have HR9:=hide hr9;have HB9:=hide ((HB8.out.alloc HB8.out.size (.cells #[.int .i64 (n:Int)] 3)).trans (hb9.mono (Nat.le_refl _)));have HX9:=Lib.hid hx9;clear hr9 hx9 hk9 hb9))
        have HRX:=hide (show RuM w9 w1.heap.size v8 v9 ((out++[(([-(ow+1)]++upF zs),(n:Int))]:List RuR).map (·.1)) ((out++[(([-(ow+1)]++upF zs),(n:Int))]:List RuR).map (·.2)) by rw [map_snoc1,map_snoc2];exact HR9.out)
        go_round
        case rel=>exact ⟨n+1,_,by omega,by go_num,HRX,HB9,HN⟩
        case measure=>simp [intOf];omega
     ·have q2:(x.k==2)=false:=by rw [h3];rfl
      have q3:(x.k==3)=true:=by rw [h3];rfl
      have q4:(x.k==4)=false:=by rw [h3];rfl
      have HK3:=Lib.hid h3
      clear h3
      have HAM:=hide (refAm_any (.slice A5 its.length c5) its x.other (.slice Aq nq cq) x.rg w2 (HO.out.below HB2.out) HRV2.out HCAN.out (by omega))
      have hrz:=amF_range x.other x.rg its 0
      have hzl:=amF_len x.other x.rg its 0
      unfold AmP at HAM
      obtain ⟨zs,HZS⟩:∃ zs,Hid (amF x.other x.rg its 0=zs):=⟨_,Lib.hid rfl⟩
      rw [HZS.out] at HAM hrz hzl
      have HRZ:=Lib.hid (show ∀ z∈zs,0≤z∧z≤64 from fun z hz=>by have:=hrz z hz;omega)
      clear hrz
      go_wp2_with fail
      refine HAM.out.mono ?_
      rintro e w4 ⟨vz,rfl,hoz,hb4⟩
      have HM4:=hide (HM2.out.below hb4)
      have HXZ:=hide (RuM.fresh HM2.out hoz)
      have HB4:=hide (HB2.out.trans (hb4.mono HB2.out.size))
      obtain ⟨Az,cz,rfl⟩:=hoz.len
      clear hoz hb4 HAM HM2
      go_wp2_with fail
      go_loopw [6,7,119] (fun v6 v7 jv wr=>∃ j:Nat,j≤zs.length∧jv=.int .i64 j∧Hid (RuM wr w1.heap.size v6 v7 ((out++(zs.take j).map (fun z=>(([-(ow+1),-z-1]:List Int),(n:Int)))).map (·.1)) ((out++(zs.take j).map (fun z=>(([-(ow+1),-z-1]:List Int),(n:Int)))).map (·.2)))∧Hid (OwnX wr w2.heap.size v7 (.slice Az zs.length cz) zs)∧Hid (Below w1.heap.size w1 wr)) (fun _ _ jv _=>zs.length-(intOf jv).toNat)
      case atStart=>exact ⟨0,Nat.zero_le _,rfl,by simpa using HM4,HXZ,HB4⟩
      case round =>
       clear HM4 HXZ HB4
       obtain ⟨j,hj,rfl,HM,HXZ,HW⟩:=hrel
       by_cases hjl:j<zs.length
       ·have hjlz:(j:Int)<(zs.length:Int):=by omega
        obtain ⟨gz,capz,cur,e9,_,hkz,_,hcz⟩:=HXZ.out.1.form (by omega)
        injection e9 with e1 e2 e3
        subst e1
        have u0:=(hkz.cell j).trans (hcz j hjl)
        rw [List.getD_eq_getElem?_getD,List.getElem?_eq_getElem hjl,Option.getD_some] at u0
        have hr:=HRZ.out _ (List.getElem_mem hjl)
        have HUS:=Lib.hid (clash_snoc zs (-(ow+1)) n hjl)
        generalize zs[j]=z at u0 hr HUS
        obtain ⟨out3,HO3⟩:∃ out3,Hid (out++(zs.take j).map (fun z=>(([-(ow+1),-z-1]:List Int),(n:Int)))=out3):=⟨_,Lib.hid rfl⟩
        rw [HO3.out] at HM
        have hfew3:out3.length≤200000:=by rw [←HO3.out];simp;omega
        clear hkz hcz e2 e3
        have hal1:=(Below.refl wr.heap.size wr).alloc (Nat.le_refl _) (.cells #[.int .i64 (-(ow+1)),.int .i64 (-(z+1))] 3)
        have hzx0:OwnX (wr.alloc (.cells #[.int .i64 (-(ow+1)),.int .i64 (-(z+1))] 3)) wr.heap.size u7 (.slice (some ⟨wr.heap.size,0,none⟩) 2 2) [-(ow+1),-(z+1)]:=RuM.fresh HM.out (ownI_pair wr _ (Nat.le_refl _) (-(ow+1)) (-(z+1)))
        have hal2:=(Below.refl (wr.alloc (.cells #[.int .i64 (-(ow+1)),.int .i64 (-(z+1))] 3)).heap.size (wr.alloc (.cells #[.int .i64 (-(ow+1)),.int .i64 (-(z+1))] 3))).alloc (Nat.le_refl _) (.cells #[.slice (some ⟨wr.heap.size,0,none⟩) 2 2] 125)
        have hal:=hal1.trans (hal2.mono hal1.size)
        have HMA:=hide (HM.out.below hal)
        have HZX:=hide (OwnX.mono (hzx0.below hal2) HW.out.size)
        have hkb:=Blk.new (wr.alloc (.cells #[.int .i64 (-(ow+1)),.int .i64 (-(z+1))] 3)) 125 #[.slice (some ⟨wr.heap.size,0,none⟩) 2 2]
        rw [World.size_alloc] at hkb
        have HKB:=hide hkb
        clear hkb
        have HWA:=hide (HW.out.trans (hal.mono HW.out.size))
        have hl1:(out3.map (·.1)).length≤90000000:=by rw [List.length_map];omega
        have hl2:(out3.map (·.2)).length≤90000000:=by rw [List.length_map];omega
        have HLA:=Lib.hid hl1
        have HLB:=Lib.hid hl2
        have HXA:=hide (HXZ.out.below hal)
        clear hal hal1 hal2 hzx0 hl1 hl2 
        go_wp2_with (first | (at_builtin;refine appRu _ rfl _ _ _ rfl w1.heap.size Tryz.underlying26 _ _ _ _ rfl HMA.out (wr.heap.size+1) 1 _ _ _ [-(ow+1),-(z+1)] rfl HKB.out HZX.out HLA.out HWA.out.size ?_;intro v8 w8 hr8 hx8 hk8 hb8;have HR8:=hide (hr8.below ((Below.refl w8.heap.size w8).alloc (Nat.le_refl _) (.cells #[.int .i64 (n:Int)] 3)));have HB8:=hide (HWA.out.trans (hb8.mono (Nat.le_refl _)));have HX8:=Lib.hid hx8;clear hr8 hx8 hk8 hb8) | (at_builtin;refine appRf _ rfl _ _ _ rfl w1.heap.size Tryz.underlying31 _ _ _ _ rfl HR8.out w8.heap.size 1 (n:Int) rfl (Blk.new w8 3 #[.int .i64 (n:Int)]) HLB.out (Nat.le_trans HB8.out.size (by simp)) ?_;intro v9 w9 hr9 hx9 hk9 hb9;have HR9:=hide hr9;have HB9:=hide ((HB8.out.alloc HB8.out.size (.cells #[.int .i64 (n:Int)] 3)).trans (hb9.mono (Nat.le_refl _)));have HX9:=Lib.hid hx9;clear hr9 hx9 hk9 hb9))
        have hze:([-(ow+1),-(z+1)]:List Int)=[-(ow+1),-z-1]:=by rw [show -(z+1) = -z-1 by omega]
        have hoe:out++(zs.take (j+1)).map (fun z=>(([-(ow+1),-z-1]:List Int),(n:Int)))=out3++[([-(ow+1),-z-1],(n:Int))]:=by rw [HUS.out,←HO3.out,List.append_assoc]
        have HRX:=hide (show RuM w9 w1.heap.size v8 v9 ((out++(zs.take (j+1)).map (fun z=>(([-(ow+1),-z-1]:List Int),(n:Int)))).map (·.1)) ((out++(zs.take (j+1)).map (fun z=>(([-(ow+1),-z-1]:List Int),(n:Int)))).map (·.2)) by rw [hoe,map_snoc1,map_snoc2,←hze];exact HR9.out)
        have HXZ9:=hide (HX9.out _ _ _ ((HX8.out _ _ _ HXA.out).below ((Below.refl w8.heap.size w8).alloc (Nat.le_refl _) (.cells #[.int .i64 (n:Int)] 3))))
        clear hze hoe HR9 HX8 HX9 HXA
        go_round
        case rel=>exact ⟨j+1,by omega,by go_num,HRX,HXZ9,HB9⟩
        case measure=>simp [intOf];omega
       ·have hjlz:¬(j:Int)<(zs.length:Int):=by omega
        have hm:=HM.out
        rw [List.take_of_length_le (show zs.length≤j by omega)] at hm
        have HMF:=hide hm
        have HN:=Lib.hid (show (out++zs.map (fun z=>(([-(ow+1),-z-1]:List Int),(n:Int))))++rusL its ((qs.map (·.1)).drop (n+1)) (n+1)=rulesF its (qs.map (·.1)) by have:=HST.out;rw [ruL_clash HK3.out,HZS.out,show itL x=(x.name,x.ver 0,x.ver 1,x.ver 2) from rfl,HOW.out] at this;exact this)
        clear hm HM HXZ HST
        go_wp2_with fail
        go_round
        case rel=>exact ⟨n+1,_,by omega,by go_num,HMF,HW,HN⟩
        case measure=>simp [intOf];omega
     ·have q2:(x.k==2)=false:=by rw [h4];rfl
      have q3:(x.k==3)=false:=by rw [h4];rfl
      have q4:(x.k==4)=true:=by rw [h4];rfl
      have HK4:=Lib.hid h4
      clear h4
      have HAM:=hide (refAm_any (.slice A5 its.length c5) its x.name (.slice Aq nq cq) x.rg w2 (HO.out.below HB2.out) HRV2.out HCAN.out (by omega))
      have hrz:=amF_range x.name x.rg its 0
      have hzl:=amF_len x.name x.rg its 0
      unfold AmP at HAM
      obtain ⟨zs,HZS⟩:∃ zs,Hid (amF x.name x.rg its 0=zs):=⟨_,Lib.hid rfl⟩
      rw [HZS.out] at HAM hrz hzl
      have HRZ:=Lib.hid (show ∀ z∈zs,0≤z∧z≤64 from fun z hz=>by have:=hrz z hz;omega)
      clear hrz
      have HB3:=HB2
      have HOC:=hide (ownI_nil w2 w2.heap.size)
      go_wp2_with fail
      refine HAM.out.mono ?_
      rintro e w4 ⟨vz,rfl,hoz,hb4⟩
      have HW4:=hide hb4
      have HXZ:=hide (OwnX.of_lt (vF:=.slice none 0 0) hoz (fun k e=>by cases e))
      have HB4:=hide (HB3.out.trans (hb4.mono HB3.out.size))
      have HOC4:=hide (HOC.out.below hb4)
      obtain ⟨Az,cz,rfl⟩:=hoz.len
      clear hoz hb4 HAM HB3 HOC
      go_wp2_with fail
      go_loopw [13,92] (fun v13 jv wr=>∃ j:Nat,j≤zs.length∧jv=.int .i64 j∧Hid (OwnI wr w2.heap.size v13 ([]++upF (zs.take j)))∧Hid (OwnX wr 0 v13 (.slice Az zs.length cz) zs)∧Hid (Below w2.heap.size w2 wr)) (fun _ jv _=>zs.length-(intOf jv).toNat)
      case atStart=>exact ⟨0,Nat.zero_le _,rfl,by simpa [upF] using HOC4,hide (HXZ.out.mono (Nat.zero_le _)),HW4⟩
      case round =>
       clear HOC4 HXZ HW4 HB4
       obtain ⟨j,hj,rfl,HOC,HXZ,HW4⟩:=hrel
       obtain ⟨A13,c13,h13⟩:=HOC.out.len
       subst h13
       obtain ⟨n13,HN13⟩:∃ n13,Hid ((([]:List Int)++upF (zs.take j)).length=n13):=⟨_,Lib.hid rfl⟩
       rw [HN13.out] at HOC HXZ ⊢
       by_cases hjl:j<zs.length
       ·have hjlz:(j:Int)<(zs.length:Int):=by omega
        obtain ⟨gz,capz,cur,e9,_,hkz,_,hcz⟩:=HXZ.out.1.form (by omega)
        injection e9 with e1 e2 e3
        subst e1
        have u0:=(hkz.cell j).trans (hcz j hjl)
        rw [List.getD_eq_getElem?_getD,List.getElem?_eq_getElem hjl,Option.getD_some] at u0
        have hr:=HRZ.out _ (List.getElem_mem hjl)
        have HUS:=Lib.hid (upF_snoc zs hjl)
        generalize zs[j]=z at u0 hr HUS
        have hl1:([]++upF (zs.take j)).length+1≤10000000000:=by simp [upF];omega
        have HLA:=Lib.hid hl1
        have hal:=(Below.refl wr.heap.size wr).alloc (Nat.le_refl _) (.cells #[.int .i64 (z+1)] 3)
        have HOA:=hide (HOC.out.below hal)
        have HXA:=hide (HXZ.out.below hal)
        have HWA:=hide (HW4.out.trans (hal.mono HW4.out.size))
        have HKA:=hide (Blk.new wr 3 #[.int .i64 (z+1)])
        clear hkz hcz e2 e3 hl1 hal HOC HXZ
        go_wp2_with (at_builtin;(refine appI _ rfl _ _ _ rfl w2.heap.size Tryz.underlying125 (.slice A13 n13 c13) _ rfl HOA.out (wr.heap.size+1) (some ⟨wr.heap.size,0,none⟩) 1 1 [z+1] rfl (blk_reads (zs:=[z+1]) HKA.out) rfl HLA.out HWA.out.size ?_;intro v9 w9 ho9 hg9 hor9;have HX9:=hide (HXA.out.push hg9 hor9);have HO9:=hide ho9;have HW9:=hide (HWA.out.grown hg9 HWA.out.size (fun k hk=>(World.ownsRow.lt HOA.out k hk).1));clear ho9 hg9 hor9))
        rw [List.append_assoc,←HUS.out] at HO9
        go_round
        case rel=>exact ⟨j+1,by omega,by go_num,HO9,HX9,HW9⟩
        case measure=>simp [intOf];omega
       ·have hjlz:¬(j:Int)<(zs.length:Int):=by omega
        have hoc:=HOC.out
        rw [List.take_of_length_le (show zs.length≤j by omega)] at hoc
        have HMW:=hide (HM2.out.below HW4.out)
        have HWW:=hide (HB2.out.trans (HW4.out.mono HB2.out.size))
        have HCX:=hide (RuM.fresh HM2.out hoc)
        have HN:=Lib.hid (show (out++[(([]++upF zs),(n:Int))])++rusL its ((qs.map (·.1)).drop (n+1)) (n+1)=rulesF its (qs.map (·.1)) by have:=HST.out;rw [ruL_root HK4.out,HZS.out] at this;exact this)
        clear hoc HOC HXZ HST
        have hal1:=Below.refl wr.heap.size wr
        have hzx0:=HCX.out
        have hal2:=(Below.refl wr.heap.size wr).alloc (Nat.le_refl _) (.cells #[.slice A13 n13 c13] 125)
        have hal:=hal1.trans (hal2.mono hal1.size)
        have HMA:=hide (HMW.out.below hal)
        have HZX:=hide (OwnX.mono (hzx0.below hal2) HB2.out.size)
        have HKB:=hide (Blk.new wr 125 #[.slice A13 n13 c13])
        have HWA:=hide (HWW.out.trans (hal.mono HWW.out.size))
        have hl1:(out.map (·.1)).length≤90000000:=by rw [List.length_map];omega
        have hl2:(out.map (·.2)).length≤90000000:=by rw [List.length_map];omega
        have HLA:=Lib.hid hl1
        have HLB:=Lib.hid hl2
        clear hal hal1 hal2 hzx0 hl1 hl2 
        go_wp2_with (first | (at_builtin;refine appRu _ rfl _ _ _ rfl w1.heap.size Tryz.underlying26 _ _ _ _ rfl HMA.out wr.heap.size 1 _ _ _ ([]++upF zs) rfl HKB.out HZX.out HLA.out HWA.out.size ?_;intro v8 w8 hr8 hx8 hk8 hb8;have HR8:=hide (hr8.below ((Below.refl w8.heap.size w8).alloc (Nat.le_refl _) (.cells #[.int .i64 (n:Int)] 3)));have HB8:=hide (HWA.out.trans (hb8.mono (Nat.le_refl _)));have HX8:=Lib.hid hx8;clear hr8 hx8 hk8 hb8) | (at_builtin;refine appRf _ rfl _ _ _ rfl w1.heap.size Tryz.underlying31 _ _ _ _ rfl HR8.out w8.heap.size 1 (n:Int) rfl (Blk.new w8 3 #[.int .i64 (n:Int)]) HLB.out (Nat.le_trans HB8.out.size (by simp)) ?_;intro v9 w9 hr9 hx9 hk9 hb9;have HR9:=hide hr9;have HB9:=hide ((HB8.out.alloc HB8.out.size (.cells #[.int .i64 (n:Int)] 3)).trans (hb9.mono (Nat.le_refl _)));have HX9:=Lib.hid hx9;clear hr9 hx9 hk9 hb9))
        have HRX:=hide (show RuM w9 w1.heap.size v8 v9 ((out++[(([]++upF zs),(n:Int))]:List RuR).map (·.1)) ((out++[(([]++upF zs),(n:Int))]:List RuR).map (·.2)) by rw [map_snoc1,map_snoc2];exact HR9.out)
        go_round
        case rel=>exact ⟨n+1,_,by omega,by go_num,HRX,HB9,HN⟩
        case measure=>simp [intOf];omega
    ·have hnlz:¬(n:Int)<(qs.length:Int):=by omega
     have hfin:=HP.out
     rw [List.drop_eq_nil_of_le (by simp;omega),rusL,List.append_nil] at hfin
     have HV:=Lib.hid hfin
     obtain ⟨Av,cv,Af,cf,e6,e7⟩:=HM.out.form
     rw [List.length_map] at e6 e7
     subst e6 e7
     have HMF:=hide (HM.out.mono HB1.out.size)
     have HE:=hide (HB1.out.trans (HW.out.mono HB1.out.size))
     clear hfin HM
     go_wp2_with fail
     exact bodyPost_ret (v:=.tuple #[.slice Av out.length cv,.slice Af out.length cf,.bool (decide ((out.length:Int)≤200))]) (by simp [results,Tryz.results44,go_sem]) rfl ⟨_,_,by rw [←HV.out],by rw [←HV.out];exact HMF.out,HE.out⟩
end Go.Proofs.YtojgbcmhdnappaaGreatDoor
namespace Go.Proofs.YtojgbcmhdnappaaGreatDoor
open Go.RowKit
open Classical
set_option maxRecDepth 100000
structure OfZ (w2:World) (b5:Nat) (n:Int) (out:List RuR) (u:Value) (us:List Int) (wr:World):Prop where
 is:∃ v vF,Blk wr b5 112 #[.int .i64 n,v,vF]∧RuM wr b5 v vF (out.map (·.1)) (out.map (·.2))∧OwnX wr 0 vF u us
 bel:Below b5 w2 wr
 ge:b5≤wr.heap.size
abbrev OfI (w2:World) (b5:Nat) (n:Int) (out:List RuR) (wr:World):Prop:=OfZ w2 b5 n out (.slice none 0 0) [] wr
theorem OfZ.below {w2 wr w':World} {b5:Nat} {n:Int} {out:List RuR} {u:Value} {us:List Int} (h:OfZ w2 b5 n out u us wr) (hb:Below wr.heap.size wr w'):OfZ w2 b5 n out u us w':=by
 obtain ⟨v,vF,h1,h2,h3⟩:=h.is
 exact ⟨⟨v,vF,h1.below hb h1.lt,h2.below hb,h3.below hb⟩,h.bel.trans (hb.mono h.ge),Nat.le_trans h.ge hb.size⟩
theorem OfZ.toI {w2 wr:World} {b5:Nat} {n:Int} {out:List RuR} {u:Value} {us:List Int} (h:OfZ w2 b5 n out u us wr):OfI w2 b5 n out wr:=by
 obtain ⟨v,vF,h1,h2,_⟩:=h.is
 exact ⟨⟨v,vF,h1,h2,ownI_nil _ _,.inl rfl⟩,h.bel,h.ge⟩
theorem OfZ.row {w2 W W':World} {b5:Nat} {n:Int} {out:List RuR} {u:Value} {us:List Int} (h:OfI w2 b5 n out W) (hb:Below W.heap.size W W') (hu:OwnI W' W.heap.size u us):OfZ w2 b5 n out u us W':=by
 obtain ⟨v,vF,h1,h2,_⟩:=h.is
 exact ⟨⟨v,vF,h1.below hb h1.lt,h2.below hb,(RuM.fresh h2 hu).mono (Nat.zero_le _)⟩,h.bel.trans (hb.mono h.ge),Nat.le_trans h.ge hb.size⟩
theorem OfZ.add {w2 W0 W:World} {b5:Nat} {n:Int} {out:List RuR} {u:Value} {us:List Int} (h:OfZ w2 b5 n out u us W0) (hb:Below W0.heap.size W0 W) {A:Option Addr} {m c:Nat} {zs:List Int} (f:Int) (hz:OwnI W W0.heap.size (.slice A m c) zs) (hl:out.length≤200000) :
  Calls Tryz.prog 97 #[.int .i64 f,.slice A m c,.pointer (some ⟨b5,0,none⟩)] W (fun e w'=>e=.returned (.tuple #[])∧OfZ w2 b5 n (out++[(zs,f)]) u us w'∧KeepT W w'):=by
 obtain ⟨v,vF,h1,h2,h3⟩:=h.is
 refine (add_any b5 b5 _ v vF _ _ A m c zs f W (h1.below hb h1.lt) (h2.below hb) ((RuM.fresh h2 hz).mono h.ge) (Nat.le_refl _) (by rw [List.length_map];omega) (by rw [List.length_map];omega)).mono ?_
 rintro e w' ⟨rfl,v',vF',hr⟩
 have hr2:=hr.rum
 rw [←map_snoc1 out zs f,←map_snoc2 out zs f] at hr2
 exact ⟨rfl,⟨⟨v',vF',hr.box,hr2,hr.own _ _ _ (h3.below hb)⟩,(h.bel.trans (hb.mono h.ge)).trans hr.bel,Nat.le_trans h.ge (Nat.le_trans hb.size hr.bel.size)⟩,hr.keep⟩
theorem rum_ret {wr:World} {base b2:Nat} {v vF c0 c1 c2:Value} {cs:List (List Int)} {fs:List Int} (hk:Blk wr b2 112 #[c0,c1,c2]) (hr:RuM wr base v vF cs fs) (a0 a1 a2:Value) :
  Blk (((wr.setCell ⟨b2,0,none⟩ a0).setCell ⟨b2,1,none⟩ a1).setCell ⟨b2,2,none⟩ a2) b2 112 #[a0,a1,a2]∧RuM (((wr.setCell ⟨b2,0,none⟩ a0).setCell ⟨b2,1,none⟩ a1).setCell ⟨b2,2,none⟩ a2) base v vF cs fs:=by
 have g0:wr.grownBy (wr.setCell ⟨b2,0,none⟩ a0) (some b2):=only_setCell (p:=⟨b2,0,none⟩) (World.grownBy.refl wr _) (.inl rfl) a0
 have g1:wr.grownBy ((wr.setCell ⟨b2,0,none⟩ a0).setCell ⟨b2,1,none⟩ a1) (some b2):=only_setCell (p:=⟨b2,1,none⟩) g0 (.inl rfl) a1
 have hg:wr.grownBy (((wr.setCell ⟨b2,0,none⟩ a0).setCell ⟨b2,1,none⟩ a1).setCell ⟨b2,2,none⟩ a2) (some b2):=only_setCell (p:=⟨b2,2,none⟩) g1 (.inl rfl) a2
 have ap:∀ (t0:TypeId),t0≠112→∀ k,some b2=some k→∃ t cs,Blk wr k t cs∧t0≠t:=fun t0 hne k e=>by obtain rfl:=Option.some.inj e;exact ⟨_,_,hk,hne⟩
 obtain ⟨qs,h1,h2,h3⟩:=hr.is
 exact ⟨((hk.set_ 0 a0).set_ 1 a1).set_ 2 a2,⟨qs,h1,h2.kept hg (ownT_apart h2 (ap _ (by decide))),fun _ hq=>⟨OwnI.kept (h3 _ hq).1 hg (ownT_apart (h3 _ hq).1 (ap _ (by decide))),(h3 _ hq).2⟩⟩,OwnI.kept hr.fro hg (ownT_apart hr.fro (ap _ (by decide)))⟩
theorem grown_nil {w w':World} (h:w.grownBy w' (Value.slice none 0 0).ownBlock):Below w.heap.size w w':=⟨h.os,h.tape,h.output,h.size,fun i hi=>h.block i hi (fun e=>by cases e)⟩
def OfP (n:Nat) (R:List RuR) (w:World) (e:Ending) (w':World):Prop :=
 (R.length≤200∧∃ v vF,e=.returned (.tuple #[.agg #[.int .i64 (n:Int),v,vF],.nilIface])∧RuM w' w.heap.size v vF (R.map (·.1)) (R.map (·.2))∧Below w.heap.size w w') ∨
 (200<R.length∧e=.returned (.tuple #[.agg #[.int .i64 0,.slice none 0 0,.slice none 0 0],.iface 41 (.int .i64 4)])∧Below w.heap.size w w')
set_option maxHeartbeats 16000000 in
theorem rulesOf_any (g base:Nat) (qs:List LnQ) (its0:List ItR) (w:World) (h:CatO w base g qs) (hc:catR (qs.map (·.1))=.inr its0) :
  Calls Tryz.prog 46 #[.pointer (some ⟨g,0,none⟩)] w (OfP (itemsF (qs.map (·.1))).length (rulesF (itemsF (qs.map (·.1))) (qs.map (·.1))) w):=by
 have hq100:qs.length≤100:=by have:=(catR_ok hc).2.2.2.1;simpa using this
 have HCK:=Lib.hid (catR_ok hc).2.2.2.2
 obtain ⟨h24,_⟩:=catR_few hc
 have HRL:=Lib.hid (rulesF_len (ls:=qs.map (·.1)) h24 (by simpa using hq100))
 have HCI:=hide (fun W (h:CatO W base g qs)=>catItems_any g base qs W h (by omega))
 have HCL:=hide (fun W (h:CatO W base g qs)=>catLines_any g base qs W h (by omega))
 have HCA:=hide (fun W nm rv rg (h:CatO W base g qs) (hr:OwnP W 0 rv rg) (hrl:rg.length≤1000000000)=>catAm_any g base qs nm rv rg W h hr hrl (by omega))
 have HCN:=hide (fun W x (h:CatO W base g qs)=>catNum_of g base qs x W h (by omega))
 unfold CloneK at HCI
 unfold CatLinesP at HCL
 unfold AmP at HCA
 unfold PosP at HCN
 have HLQ:=Lib.hid (show ∀ q∈qs,OwnP w 0 (slQ q) q.1.rg∧LnOk q.1 from by
  obtain ⟨vl,vi,_,h2,_⟩:=h.is
  exact h2.2)
 have hal:=(Below.refl w.heap.size w).alloc (Nat.le_refl _) (.cells #[.int .i64 0,.slice none 0 0,.slice none 0 0] 112)
 have HK2:=hide (Blk.new w 112 #[.int .i64 0,.slice none 0 0,.slice none 0 0])
 have HB:=hide hal
 have HC0:=hide h
 generalize hits:itemsF (qs.map (·.1))=its at HCI HCA HCN h24 HRL ⊢
 clear h hal hc hits
 go_enter Tryz.func46,Tryz.ntmps46
 go_wp2_with fail
 generalize w.alloc (.cells #[.int .i64 0,.slice none 0 0,.slice none 0 0] 112)=w0 at HK2 HB ⊢
 refine (HCI.out w0 (HC0.out.below HB.out)).mono ?_
 generalize hb0:w.heap.size=b2 at HK2 ⊢
 rintro e w2 ⟨v4,rfl,ho,hb1⟩
 have HO:=hide (ho.mono (Nat.zero_le _))
 have HK2':=hide (HK2.out.below hb1 HK2.out.lt)
 have HB2:=hide (HB.out.trans (hb1.mono HB.out.size))
 have HC2:=hide (HC0.out.below HB2.out)
 obtain ⟨A4,c4,rfl,hc4⟩:=HO.out.len
 clear ho hb1 HCI HK2 HB HC0
 have HLQ2:=Lib.hid (fun q hq=>((HLQ.out q hq).1.below HB2.out))
 have HT:=Lib.hid (show (twinsR its its 0).length≤100000 from few_out (r:=rusL its (qs.map (·.1)) 0) (T:=rulesF its (qs.map (·.1))) rfl HRL.out)
 have hal:=(Below.refl w2.heap.size w2).alloc (Nat.le_refl _) (.cells #[.int .i64 (its.length:Int),.slice none 0 0,.slice none 0 0] 112)
 have HI0:=hide (show OfI w2 w2.heap.size (its.length:Int) [] (w2.alloc (.cells #[.int .i64 (its.length:Int),.slice none 0 0,.slice none 0 0] 112)) from ⟨⟨_,_,Blk.new w2 _ _,RuM.nil _ _,ownI_nil _ _,.inl rfl⟩,hal,hal.size⟩)
 clear hal
 go_wp2_with fail
 generalize World.alloc _ (.cells #[.int .i64 (its.length:Int),.slice none 0 0,.slice none 0 0] 112)=wS at HI0 ⊢
 obtain ⟨b5,HB5⟩:∃ b5,Hid (w2.heap.size=b5):=⟨_,Lib.hid rfl⟩
 rw [HB5.out] at HI0 ⊢
 have HOW:=Lib.hid (fun (W:World) (hb:Below b5 w2 W)=>show OwnK elJ W 0 (.slice A4 its.length c4) its from HO.out.below (by rw [HB5.out];exact hb))
 have HCW:=Lib.hid (fun (W:World) (hb:Below b5 w2 W)=>show CatO W base g qs from HC2.out.below (by rw [HB5.out];exact hb))
 have HKW:=Lib.hid (fun (W:World) (hb:Below b5 w2 W)=>show Blk W b2 112 _ from HK2'.out.below hb (by rw [←HB5.out];exact HK2'.out.lt))
 have HQW:=Lib.hid (fun (W:World) (hb:Below b5 w2 W) q (hq:q∈qs)=>show OwnP W 0 (slQ q) q.1.rg from (HLQ2.out q hq).below (by rw [HB5.out];exact hb))
 have HOK:=Lib.hid (fun q (hq:q∈qs)=>(HLQ.out q hq).2)
 clear HO HC2 HK2' HLQ2 HLQ
 go_loopw [29] (fun kv wr=>∃ (k:Nat) (out:List RuR),k≤its.length∧kv=.int .i64 k∧Hid (OfI w2 b5 (its.length:Int) out wr)∧Hid (out++twinsR its (its.drop k) k=twinsR its its 0)) (fun kv _=>its.length-(intOf kv).toNat)
 case atStart=>exact ⟨0,[],Nat.zero_le _,rfl,HI0,Lib.hid rfl⟩
 case round =>
  clear HI0
  obtain ⟨k,out,hk,rfl,HM,HP⟩:=hrel
  by_cases hlt:k<its.length
  ·have hltz:(k:Int)<(its.length:Int):=by omega
   have HST:=Lib.hid (twinsR_step hlt HP.out)
   obtain ⟨g4,hA,hrow⟩:=(HOW.out _ HM.out.bel).rowAt hlt
   subst hA
   obtain ⟨y0,y1,y2,y3⟩:=row4 rfl rfl hrow hlt
   clear hrow
   obtain ⟨nk,ka,kb,kc,hik⟩:∃ nk ka kb kc,its[k]=(nk,ka,kb,kc):=⟨_,_,_,_,rfl⟩
   rw [hik] at y0 y1 y2 y3 HST
   simp only [] at y0 y1 y2 y3 HST
   have HHF:=Lib.hid (fun (out2:List RuR) (i:Nat) (h:out2++twinR nk k ((its.take k).drop i) i=out++twinR nk k (its.take k) 0)=>show out2++(twinR nk k ((its.take k).drop i) i++twinsR its (its.drop (k+1)) (k+1))=twinsR its its 0 by rw [←List.append_assoc,h];exact HST.out)
   have hal:=(Below.refl wr.heap.size wr).alloc (Nat.le_refl _) (.cells #[.string nk,.int .i64 ka,.int .i64 kb,.int .i64 kc] 194)
   have HKA:=hide (Blk.new wr 194 #[.string nk,.int .i64 ka,.int .i64 kb,.int .i64 kc])
   have HMA:=hide (HM.out.below hal)
   have hkc:k≤c4:=by omega
   clear hal HP HM hik
   go_wp2_with fail
   generalize World.alloc _ (.cells #[.string nk,.int .i64 ka,.int .i64 kb,.int .i64 kc] 194)=wa at HKA HMA ⊢
   generalize wr.heap.size=ba at HKA ⊢
   clear y0 y1 y2 y3
   go_loopw [38] (fun iv wr=>∃ (i:Nat) (out2:List RuR),i≤k∧iv=.int .i64 i∧Hid (OfI w2 b5 (its.length:Int) out2 wr)∧Hid (Blk wr ba 194 #[.string nk,.int .i64 ka,.int .i64 kb,.int .i64 kc])∧Hid (out2++twinR nk k ((its.take k).drop i) i=out++twinR nk k (its.take k) 0)) (fun iv _=>k-(intOf iv).toNat)
   case atStart=>exact ⟨0,out,Nat.zero_le _,rfl,HMA,HKA,Lib.hid rfl⟩
   case round =>
    clear HMA HKA
    obtain ⟨i,out2,hi,rfl,HM,HKA,HP⟩:=hrel
    by_cases hil:i<k
    ·have hilz:(i:Int)<(k:Int):=by omega
     have hin:i<its.length:=by omega
     obtain ⟨hh,hm⟩:=twinR_step (l:=its.take k) (i:=i) (by rw [List.length_take];omega) HP.out
     rw [List.getElem_take] at hh hm
     obtain ⟨g5,hA,hrow⟩:=(HOW.out _ HM.out.bel).rowAt hin
     injection hA with hA
     injection hA with hA
     subst hA
     obtain ⟨z0,z1,z2,z3⟩:=row4 rfl rfl hrow hin
     have HHH:=Lib.hid hh
     have HHM:=Lib.hid hm
     have hfew:out2.length≤100000:=few_out (HHF.out out2 i HP.out) HT.out
     clear hrow hh hm HP
     generalize its[i]=ai at z0 z1 z2 z3 HHH HHM
     obtain ⟨ni,ia,ib,ic⟩:=ai
     simp only [] at z0 z1 z2 z3 HHH HHM
     have hal:=(Below.refl wr.heap.size wr).alloc (Nat.le_refl _) (.cells #[.string ni,.int .i64 ia,.int .i64 ib,.int .i64 ic] 194)
     have HMB:=hide (HM.out.below hal)
     have HKB:=hide (HKA.out.below hal HKA.out.lt)
     have k0:=HKA.out.cell 0
     have lba:=HKA.out.lt
     clear HM HKA
     by_cases hn:ni=nk
     ·have HN:=Lib.hid (HHH.out hn)
      have hne:(ni.toList==nk.toList)=true:=by rw [hn];exact beq_self_eq_true _
      have hal2:=(Below.refl (wr.alloc (.cells #[.string ni,.int .i64 ia,.int .i64 ib,.int .i64 ic] 194)).heap.size (wr.alloc (.cells #[.string ni,.int .i64 ia,.int .i64 ib,.int .i64 ic] 194))).alloc (Nat.le_refl _) (.cells #[.int .i64 (-(i:Int)-1),.int .i64 (-(k:Int)-1)] 3)
      have hoz:=ownI_pair (wr.alloc (.cells #[.string ni,.int .i64 ia,.int .i64 ib,.int .i64 ic] 194)) _ (Nat.le_refl _) (-(i:Int)-1) (-(k:Int)-1)
      rw [World.size_alloc] at hoz
      have HAD:=hide (HMB.out.add hal2 (A:=some ⟨wr.heap.size+1,0,none⟩) (m:=2) (c:=2) (zs:=[-(i:Int)-1,-(k:Int)-1]) (-1) (by rw [World.size_alloc];exact hoz) (by omega))
      have HKB2:=hide (HKB.out.below hal2 HKB.out.lt)
      clear hal hal2 hoz HHH HHM hn HMB HKB
      go_wp2_with fail
      refine HAD.out.mono ?_
      rintro e w7 ⟨rfl,hm7,hk7⟩
      have HM7:=hide hm7
      have HK7:=hide (hk7 _ _ _ HKB2.out (by decide) (by decide) (by decide))
      clear hm7 hk7 HAD HKB2
      go_wp2_with fail
      go_round
      case rel=>exact ⟨i+1,_,by omega,by go_num,HM7,HK7,HN⟩
      case measure=>simp [intOf];omega
     ·have HN:=Lib.hid (HHM.out hn)
      have hne:(ni.toList==nk.toList)=false:=beq_eq_false_iff_ne.2 fun e=>hn (by
       rw [ByteArray.toList_eq,ByteArray.toList_eq] at e
       exact ByteArray.ext (Array.ext' e))
      clear hal HHH HHM hn
      go_wp2_with fail
      go_round
      case rel=>exact ⟨i+1,out2,by omega,by go_num,HMB,HKB,HN⟩
      case measure=>simp [intOf];omega
    ·have hilz:¬(i:Int)<(k:Int):=by omega
     have hp:=HP.out
     rw [List.drop_eq_nil_of_le (by rw [List.length_take];omega),twinR,List.append_nil] at hp
     have HN:=Lib.hid (show out2++twinsR its (its.drop (k+1)) (k+1)=twinsR its its 0 by rw [hp];exact HST.out)
     clear hp HP
     go_wp2_with fail
     go_round
     case rel=>exact ⟨k+1,out2,by omega,by go_num,HM,HN⟩
     case measure=>simp [intOf];omega
  ·have hltz:¬(k:Int)<(its.length:Int):=by omega
   have hp:=HP.out
   rw [List.drop_eq_nil_of_le (by omega),twinsR,List.append_nil] at hp
   have HRS:=Lib.hid (show out++rusL its (qs.map (·.1)) 0=rulesF its (qs.map (·.1)) by rw [hp];rfl)
   clear hp HP
   go_wp2_with fail
   refine (HCL.out _ (HCW.out _ HM.out.bel)).mono ?_
   rintro e w3 ⟨vl,rfl,hln,hb3⟩
   have HM3:=hide (HM.out.below hb3)
   have HL3:=hide (hln.1.mono (Nat.zero_le _))
   obtain ⟨Al,cl,hvl,_⟩:=HL3.out.len
   subst hvl
   clear hln hb3 HM HCL
   go_wp2_with fail
   go_loopw [62] (fun nv wr=>∃ (n:Nat) (out:List RuR),n≤qs.length∧nv=.int .i64 n∧Hid (OfI w2 b5 (its.length:Int) out wr)∧Hid (OwnK elP wr 0 (.slice Al qs.length cl) qs)∧Hid (out++rusL its ((qs.map (·.1)).drop n) n=rulesF its (qs.map (·.1)))) (fun nv _=>qs.length-(intOf nv).toNat)
   case atStart=>exact ⟨0,out,Nat.zero_le _,rfl,HM3,HL3,HRS⟩
   case round =>
    clear HM3 HL3 HRS hltz hk
    obtain ⟨n,out,hn,rfl,HM,HL,HP⟩:=hrel
    by_cases hnl:n<qs.length
    ·have hnlz:(n:Int)<(qs.length:Int):=by omega
     have hst:=rusL_step (its:=its) (ls:=qs.map (·.1)) (n:=n) (by simpa using hnl) HP.out
     have hfew:out.length≤100000:=few_out HP.out HRL.out
     rw [List.getElem_map] at hst
     obtain ⟨gq,hA,hrow⟩:=HL.out.rowAt hnl
     subst hA
     obtain ⟨y0,y1,y2,y3,y4,y5,y6⟩:=row7 rfl rfl hrow hnl
     have hmem:qs[n].1∈qs.map (·.1):=List.mem_map.2 ⟨_,List.getElem_mem hnl,rfl⟩
     have HKD:=Lib.hid (chkL_kinds (HCK.out _ hmem))
     have HRVW:=Lib.hid (fun W hb=>HQW.out W hb _ (List.getElem_mem hnl))
     have hrl:=(HOK.out _ (List.getElem_mem hnl)).len
     clear hrow hmem HP
     generalize qs[n]=q at y0 y1 y2 y3 y4 y5 y6 hst HKD HRVW hrl
     obtain ⟨x,Aq,nq,cq⟩:=q
     simp only [slQ] at y0 y1 y2 y3 y4 y5 y6 hst HKD HRVW hrl
     have hal:=(Below.refl wr.heap.size wr).alloc (Nat.le_refl _) (.cells #[.int .i64 x.k,.string x.name,.int .i64 (x.ver 0),.int .i64 (x.ver 1),.int .i64 (x.ver 2),.string x.other,.slice Aq nq cq] 90)
     have HKX:=hide (Blk.new wr 90 #[.int .i64 x.k,.string x.name,.int .i64 (x.ver 0),.int .i64 (x.ver 1),.int .i64 (x.ver 2),.string x.other,.slice Aq nq cq])
     have HMA:=hide (HM.out.below hal)
     have HLA:=hide (HL.out.below hal)
     have HRLX:=Lib.hid hrl
     have HST:=Lib.hid hst
     have HNM:=hide (HCN.out (wr.alloc (.cells #[.int .i64 x.k,.string x.name,.int .i64 (x.ver 0),.int .i64 (x.ver 1),.int .i64 (x.ver 2),.string x.other,.slice Aq nq cq] 90)) (x.name,x.ver 0,x.ver 1,x.ver 2) (HCW.out _ HMA.out.bel))
     simp only [] at HNM
     have how:=posN_rng its (x.name,x.ver 0,x.ver 1,x.ver 2) h24
     obtain ⟨ow,HOWN⟩:∃ ow,Hid (posN its (x.name,x.ver 0,x.ver 1,x.ver 2)=ow):=⟨_,Lib.hid rfl⟩
     rw [HOWN.out] at HNM how
     clear hal hrl hst HM HL
     go_wp2_with fail
     generalize World.alloc _ (.cells #[.int .i64 x.k,.string x.name,.int .i64 (x.ver 0),.int .i64 (x.ver 1),.int .i64 (x.ver 2),.string x.other,.slice Aq nq cq] 90)=wA at HKX HMA HLA HNM ⊢
     generalize wr.heap.size=bx at HKX ⊢
     clear y0 y1 y2 y3 y4 y5 y6
     refine HNM.out.mono ?_
     rintro e w6 ⟨rfl,hb6⟩
     have HM6:=hide (HMA.out.below hb6)
     have HL6:=hide (HLA.out.below hb6)
     have HKX6:=hide (HKX.out.below hb6 HKX.out.lt)
     clear hb6 HNM HMA HLA HKX
     have x0:=HKX6.out.cell 0
     have x1:=HKX6.out.cell 1
     have x5:=HKX6.out.cell 5
     have x6:=HKX6.out.cell 6
     rcases HKD.out with h1 | h2 | h3 | h4
     ·have q2:(x.k==2)=false:=by rw [h1];rfl
      have q3:(x.k==3)=false:=by rw [h1];rfl
      have q4:(x.k==4)=false:=by rw [h1];rfl
      have HN:=Lib.hid (show out++rusL its ((qs.map (·.1)).drop (n+1)) (n+1)=rulesF its (qs.map (·.1)) by have:=HST.out;rwa [ruL_none (by omega) (by omega) (by omega),List.append_nil] at this)
      go_wp2_with fail
      go_round
      case rel=>exact ⟨n+1,out,by omega,by go_num,HM6,HL6,HN⟩
      case measure=>simp [intOf];omega
     ·have q2:(x.k==2)=true:=by rw [h2];rfl
      have q3:(x.k==3)=false:=by rw [h2];rfl
      have q4:(x.k==4)=false:=by rw [h2];rfl
      have HK2:=Lib.hid h2
      clear h2
      have hnw : -1≤ow+1∧ow+1≤25:=by omega
      have hal:=(Below.refl w6.heap.size w6).alloc (Nat.le_refl _) (.cells #[.int .i64 (-(ow+1))] 3)
      have HRD:=hide (blk_reads (zs:=[-(ow+1)]) (Blk.new w6 3 #[.int .i64 (-(ow+1))]))
      have HOA:=hide (ownI_nil (w6.alloc (.cells #[.int .i64 (-(ow+1))] 3)) w6.heap.size)
      have HB7:=hide hal
      have HM7:=hide (HM6.out.below hal)
      have HKX7:=hide (HKX6.out.below hal HKX6.out.lt)
      clear hal
      go_wp2_with (at_builtin;(refine appI _ rfl _ _ _ rfl w6.heap.size Tryz.underlying31 (.slice none 0 0) [] rfl HOA.out (w6.heap.size+1) (some ⟨w6.heap.size,0,none⟩) 1 1 [-(ow+1)] rfl HRD.out rfl (by simp) HB7.out.size ?_;intro v9 w9 ho9 hg9 hor9;have HO9:=hide ho9;have hb9:=grown_nil hg9;have HB9:=hide (HB7.out.trans (hb9.mono HB7.out.size));have HM9:=hide (HM7.out.below hb9);have HKX9:=hide (HKX7.out.below hb9 HKX7.out.lt);obtain ⟨A13,c13,e13⟩:=ho9.len;subst e13;have x0:=HKX9.out.cell 0;have x5:=HKX9.out.cell 5;have x6:=HKX9.out.cell 6;clear ho9 hg9 hor9 hb9))
      have HAM:=hide (HCA.out w9 x.other (.slice Aq nq cq) x.rg (HCW.out _ HM9.out.bel) (HRVW.out _ HM9.out.bel) HRLX.out)
      have hrz:=amF_range x.other x.rg its 0
      have hzl:=amF_len x.other x.rg its 0
      obtain ⟨zs,HZS⟩:∃ zs,Hid (amF x.other x.rg its 0=zs):=⟨_,Lib.hid rfl⟩
      rw [HZS.out] at HAM hrz hzl
      have HRZ:=Lib.hid (show ∀ z∈zs,0≤z∧z≤64 from fun z hz=>by have:=hrz z hz;omega)
      clear hrz
      go_wp2_with fail
      refine HAM.out.mono ?_
      rintro e w8 ⟨vz,rfl,hoz,hb8⟩
      have HW8:=hide (HB9.out.trans (hb8.mono HB9.out.size))
      have HXZ:=hide (OwnX.of_lt (vF:=.slice A13 _ c13) hoz (fun k e=>(World.ownsRow.lt HO9.out k e).2))
      have HOC:=hide (HO9.out.below hb8)
      have HL8:=hide (HL6.out.keepT (KeepT.of_below HW8.out) (by decide) (by decide) (by decide))
      obtain ⟨Az,cz,rfl⟩:=hoz.len
      clear hoz hb8 HAM
      go_wp2_with fail
      go_loopw [13,113] (fun v13 jv wr=>∃ j:Nat,j≤zs.length∧jv=.int .i64 j∧Hid (OwnI wr w6.heap.size v13 ([-(ow+1)]++upF (zs.take j)))∧Hid (OwnX wr 0 v13 (.slice Az zs.length cz) zs)∧Hid (Below w6.heap.size w6 wr)) (fun _ jv _=>zs.length-(intOf jv).toNat)
      case atStart=>exact ⟨0,Nat.zero_le _,rfl,by simpa [upF] using HOC,hide (HXZ.out.mono (Nat.zero_le _)),HW8⟩
      case round =>
       clear HOC HXZ HW8 HL8
       obtain ⟨j,hj,rfl,HOC,HXZ,HW4⟩:=hrel
       obtain ⟨A14,c14,h13⟩:=HOC.out.len
       subst h13
       obtain ⟨n13,HN13⟩:∃ n13,Hid ((([-(ow+1)]:List Int)++upF (zs.take j)).length=n13):=⟨_,Lib.hid rfl⟩
       rw [HN13.out] at HOC HXZ ⊢
       by_cases hjl:j<zs.length
       ·have hjlz:(j:Int)<(zs.length:Int):=by omega
        obtain ⟨gz,capz,cur,e9,_,hkz,_,hcz⟩:=HXZ.out.1.form (by omega)
        injection e9 with e1 e2 e3
        subst e1
        have u0:=(hkz.cell j).trans (hcz j hjl)
        rw [List.getD_eq_getElem?_getD,List.getElem?_eq_getElem hjl,Option.getD_some] at u0
        have hr:=HRZ.out _ (List.getElem_mem hjl)
        have HUS:=Lib.hid (upF_snoc zs hjl)
        generalize zs[j]=z at u0 hr HUS
        have hl1:([-(ow+1)]++upF (zs.take j)).length+1≤10000000000:=by simp [upF];omega
        have HLA:=Lib.hid hl1
        have hal:=(Below.refl wr.heap.size wr).alloc (Nat.le_refl _) (.cells #[.int .i64 (z+1)] 3)
        have HOA:=hide (HOC.out.below hal)
        have HXA:=hide (HXZ.out.below hal)
        have HWA:=hide (HW4.out.trans (hal.mono HW4.out.size))
        have HKA:=hide (Blk.new wr 3 #[.int .i64 (z+1)])
        clear hkz hcz e2 e3 hl1 hal HOC HXZ
        go_wp2_with (at_builtin;(refine appI _ rfl _ _ _ rfl w6.heap.size Tryz.underlying31 (.slice A14 n13 c14) _ rfl HOA.out (wr.heap.size+1) (some ⟨wr.heap.size,0,none⟩) 1 1 [z+1] rfl (blk_reads (zs:=[z+1]) HKA.out) rfl HLA.out HWA.out.size ?_;intro v9 w9 ho9 hg9 hor9;have HX9:=hide (HXA.out.push hg9 hor9);have HO9:=hide ho9;have HW9:=hide (HWA.out.grown hg9 HWA.out.size (fun k hk=>(World.ownsRow.lt HOA.out k hk).1));clear ho9 hg9 hor9))
        rw [List.append_assoc,←HUS.out] at HO9
        go_round
        case rel=>exact ⟨j+1,by omega,by go_num,HO9,HX9,HW9⟩
        case measure=>simp [intOf];omega
       ·have hjlz:¬(j:Int)<(zs.length:Int):=by omega
        have hoc:=HOC.out
        rw [List.take_of_length_le (show zs.length≤j by omega)] at hoc
        have HN:=Lib.hid (show (out++[(([-(ow+1)]++upF zs),(n:Int))])++rusL its ((qs.map (·.1)).drop (n+1)) (n+1)=rulesF its (qs.map (·.1)) by have:=HST.out;rw [ruL_needs HK2.out,HZS.out,show itL x=(x.name,x.ver 0,x.ver 1,x.ver 2) from rfl,HOWN.out] at this;exact this)
        have HAD:=hide (HM6.out.add HW4.out (zs:=([-(ow+1)]++upF zs)) (n:Int) hoc (by omega))
        have HLW:=hide (HL6.out.keepT (KeepT.of_below HW4.out) (by decide) (by decide) (by decide))
        clear hoc HOC HXZ HST
        go_wp2_with fail
        refine HAD.out.mono ?_
        rintro e w7 ⟨rfl,hm7,hk7⟩
        have HM7:=hide hm7
        have HL7:=hide (HLW.out.keepT hk7 (by decide) (by decide) (by decide))
        clear hm7 hk7 HAD HLW
        go_wp2_with fail
        go_round
        case rel=>exact ⟨n+1,_,by omega,by go_num,HM7,HL7,HN⟩
        case measure=>simp [intOf];omega
     ·have q2:(x.k==2)=false:=by rw [h3];rfl
      have q3:(x.k==3)=true:=by rw [h3];rfl
      have q4:(x.k==4)=false:=by rw [h3];rfl
      have HK3:=Lib.hid h3
      clear h3
      have HAM:=hide (HCA.out w6 x.other (.slice Aq nq cq) x.rg (HCW.out _ HM6.out.bel) (HRVW.out _ HM6.out.bel) HRLX.out)
      have hrz:=amF_range x.other x.rg its 0
      have hzl:=amF_len x.other x.rg its 0
      obtain ⟨zs,HZS⟩:∃ zs,Hid (amF x.other x.rg its 0=zs):=⟨_,Lib.hid rfl⟩
      rw [HZS.out] at HAM hrz hzl
      have HRZ:=Lib.hid (show ∀ z∈zs,0≤z∧z≤64 from fun z hz=>by have:=hrz z hz;omega)
      clear hrz
      go_wp2_with fail
      refine HAM.out.mono ?_
      rintro e w8 ⟨vz,rfl,hoz,hb8⟩
      have HZ8:=hide (OfZ.row HM6.out hb8 hoz)
      have HL8:=hide (HL6.out.below hb8)
      obtain ⟨Az,cz,rfl⟩:=hoz.len
      clear hoz hb8 HAM HM6 HL6
      go_wp2_with fail
      go_loopw [136] (fun jv wr=>∃ j:Nat,j≤zs.length∧jv=.int .i64 j∧Hid (OfZ w2 b5 (its.length:Int) (out++(zs.take j).map (fun z=>(([-(ow+1),-z-1]:List Int),(n:Int)))) (.slice Az zs.length cz) zs wr)∧Hid (OwnK elP wr 0 (.slice (some ⟨gq,0,none⟩) qs.length cl) qs)) (fun jv _=>zs.length-(intOf jv).toNat)
      case atStart=>exact ⟨0,Nat.zero_le _,rfl,by simpa using HZ8,HL8⟩
      case round =>
       clear HZ8 HL8
       obtain ⟨j,hj,rfl,HM,HL⟩:=hrel
       by_cases hjl:j<zs.length
       ·have hjlz:(j:Int)<(zs.length:Int):=by omega
        obtain ⟨_,_,_,_,hxz⟩:=HM.out.is
        obtain ⟨gz,capz,cur,e9,_,hkz,_,hcz⟩:=hxz.1.form (by omega)
        injection e9 with e1 e2 e3
        subst e1
        have u0:=(hkz.cell j).trans (hcz j hjl)
        rw [List.getD_eq_getElem?_getD,List.getElem?_eq_getElem hjl,Option.getD_some] at u0
        have hr:=HRZ.out _ (List.getElem_mem hjl)
        have HUS:=Lib.hid (clash_snoc zs (-(ow+1)) n hjl)
        generalize zs[j]=z at u0 hr HUS
        obtain ⟨out3,HO3⟩:∃ out3,Hid (out++(zs.take j).map (fun z=>(([-(ow+1),-z-1]:List Int),(n:Int)))=out3):=⟨_,Lib.hid rfl⟩
        rw [HO3.out] at HM
        have hfew3:out3.length≤200000:=by rw [←HO3.out];simp;omega
        have hal:=(Below.refl wr.heap.size wr).alloc (Nat.le_refl _) (.cells #[.int .i64 (-(ow+1)),.int .i64 (-z-1)] 3)
        have HAD:=hide (HM.out.add hal (zs:=[-(ow+1),-z-1]) (n:Int) (ownI_pair wr _ (Nat.le_refl _) (-(ow+1)) (-z-1)) hfew3)
        have HLW:=hide (HL.out.below hal)
        clear hkz hcz e2 e3 hal hxz HM HL
        go_wp2_with fail
        refine HAD.out.mono ?_
        rintro e w7 ⟨rfl,hm7,hk7⟩
        have HM7:=hide (show OfZ w2 b5 (its.length:Int) (out++(zs.take (j+1)).map (fun z=>(([-(ow+1),-z-1]:List Int),(n:Int)))) (.slice (some ⟨gz,0,none⟩) zs.length cz) zs w7 by rw [HUS.out,←List.append_assoc,HO3.out];exact hm7)
        have HL7:=hide (HLW.out.keepT hk7 (by decide) (by decide) (by decide))
        clear hm7 hk7 HAD HLW
        go_wp2_with fail
        go_round
        case rel=>exact ⟨j+1,by omega,by go_num,HM7,HL7⟩
        case measure=>simp [intOf];omega
       ·have hjlz:¬(j:Int)<(zs.length:Int):=by omega
        have hm:=HM.out.toI
        rw [List.take_of_length_le (show zs.length≤j by omega)] at hm
        have HMF:=hide hm
        have HN:=Lib.hid (show (out++zs.map (fun z=>(([-(ow+1),-z-1]:List Int),(n:Int))))++rusL its ((qs.map (·.1)).drop (n+1)) (n+1)=rulesF its (qs.map (·.1)) by have:=HST.out;rw [ruL_clash HK3.out,HZS.out,show itL x=(x.name,x.ver 0,x.ver 1,x.ver 2) from rfl,HOWN.out] at this;exact this)
        clear hm HM HST
        go_wp2_with fail
        go_round
        case rel=>exact ⟨n+1,_,by omega,by go_num,HMF,HL,HN⟩
        case measure=>simp [intOf];omega
     ·have q2:(x.k==2)=false:=by rw [h4];rfl
      have q3:(x.k==3)=false:=by rw [h4];rfl
      have q4:(x.k==4)=true:=by rw [h4];rfl
      have HK4:=Lib.hid h4
      clear h4
      have HAM:=hide (HCA.out w6 x.name (.slice Aq nq cq) x.rg (HCW.out _ HM6.out.bel) (HRVW.out _ HM6.out.bel) HRLX.out)
      have hrz:=amF_range x.name x.rg its 0
      have hzl:=amF_len x.name x.rg its 0
      obtain ⟨zs,HZS⟩:∃ zs,Hid (amF x.name x.rg its 0=zs):=⟨_,Lib.hid rfl⟩
      rw [HZS.out] at HAM hrz hzl
      have HRZ:=Lib.hid (show ∀ z∈zs,0≤z∧z≤64 from fun z hz=>by have:=hrz z hz;omega)
      clear hrz
      go_wp2_with fail
      refine HAM.out.mono ?_
      rintro e w8 ⟨vz,rfl,hoz,hb8⟩
      have HW8:=hide hb8
      have HXZ:=hide (OwnX.of_lt (vF:=.slice none 0 0) hoz (fun k e=>by cases e))
      have HOC:=hide (ownI_nil w8 w6.heap.size)
      have HL8:=hide (HL6.out.keepT (KeepT.of_below HW8.out) (by decide) (by decide) (by decide))
      obtain ⟨Az,cz,rfl⟩:=hoz.len
      clear hoz hb8 HAM
      go_wp2_with fail
      go_loopw [13,85] (fun v13 jv wr=>∃ j:Nat,j≤zs.length∧jv=.int .i64 j∧Hid (OwnI wr w6.heap.size v13 ([]++upF (zs.take j)))∧Hid (OwnX wr 0 v13 (.slice Az zs.length cz) zs)∧Hid (Below w6.heap.size w6 wr)) (fun _ jv _=>zs.length-(intOf jv).toNat)
      case atStart=>exact ⟨0,Nat.zero_le _,rfl,by simpa [upF] using HOC,hide (HXZ.out.mono (Nat.zero_le _)),HW8⟩
      case round =>
       clear HOC HXZ HW8 HL8
       obtain ⟨j,hj,rfl,HOC,HXZ,HW4⟩:=hrel
       obtain ⟨A14,c14,h13⟩:=HOC.out.len
       subst h13
       obtain ⟨n13,HN13⟩:∃ n13,Hid ((([]:List Int)++upF (zs.take j)).length=n13):=⟨_,Lib.hid rfl⟩
       rw [HN13.out] at HOC HXZ ⊢
       by_cases hjl:j<zs.length
       ·have hjlz:(j:Int)<(zs.length:Int):=by omega
        obtain ⟨gz,capz,cur,e9,_,hkz,_,hcz⟩:=HXZ.out.1.form (by omega)
        injection e9 with e1 e2 e3
        subst e1
        have u0:=(hkz.cell j).trans (hcz j hjl)
        rw [List.getD_eq_getElem?_getD,List.getElem?_eq_getElem hjl,Option.getD_some] at u0
        have hr:=HRZ.out _ (List.getElem_mem hjl)
        have HUS:=Lib.hid (upF_snoc zs hjl)
        generalize zs[j]=z at u0 hr HUS
        have hl1:([]++upF (zs.take j)).length+1≤10000000000:=by simp [upF];omega
        have HLA:=Lib.hid hl1
        have hal:=(Below.refl wr.heap.size wr).alloc (Nat.le_refl _) (.cells #[.int .i64 (z+1)] 3)
        have HOA:=hide (HOC.out.below hal)
        have HXA:=hide (HXZ.out.below hal)
        have HWA:=hide (HW4.out.trans (hal.mono HW4.out.size))
        have HKA:=hide (Blk.new wr 3 #[.int .i64 (z+1)])
        clear hkz hcz e2 e3 hl1 hal HOC HXZ
        go_wp2_with (at_builtin;(refine appI _ rfl _ _ _ rfl w6.heap.size Tryz.underlying31 (.slice A14 n13 c14) _ rfl HOA.out (wr.heap.size+1) (some ⟨wr.heap.size,0,none⟩) 1 1 [z+1] rfl (blk_reads (zs:=[z+1]) HKA.out) rfl HLA.out HWA.out.size ?_;intro v9 w9 ho9 hg9 hor9;have HX9:=hide (HXA.out.push hg9 hor9);have HO9:=hide ho9;have HW9:=hide (HWA.out.grown hg9 HWA.out.size (fun k hk=>(World.ownsRow.lt HOA.out k hk).1));clear ho9 hg9 hor9))
        rw [List.append_assoc,←HUS.out] at HO9
        go_round
        case rel=>exact ⟨j+1,by omega,by go_num,HO9,HX9,HW9⟩
        case measure=>simp [intOf];omega
       ·have hjlz:¬(j:Int)<(zs.length:Int):=by omega
        have hoc:=HOC.out
        rw [List.take_of_length_le (show zs.length≤j by omega)] at hoc
        have HN:=Lib.hid (show (out++[(([]++upF zs),(n:Int))])++rusL its ((qs.map (·.1)).drop (n+1)) (n+1)=rulesF its (qs.map (·.1)) by have:=HST.out;rw [ruL_root HK4.out,HZS.out] at this;exact this)
        have HAD:=hide (HM6.out.add HW4.out (zs:=([]++upF zs)) (n:Int) hoc (by omega))
        have HLW:=hide (HL6.out.keepT (KeepT.of_below HW4.out) (by decide) (by decide) (by decide))
        clear hoc HOC HXZ HST
        go_wp2_with fail
        refine HAD.out.mono ?_
        rintro e w7 ⟨rfl,hm7,hk7⟩
        have HM7:=hide hm7
        have HL7:=hide (HLW.out.keepT hk7 (by decide) (by decide) (by decide))
        clear hm7 hk7 HAD HLW
        go_wp2_with fail
        go_round
        case rel=>exact ⟨n+1,_,by omega,by go_num,HM7,HL7,HN⟩
        case measure=>simp [intOf];omega
    ·have hnlz:¬(n:Int)<(qs.length:Int):=by omega
     have hfin:=HP.out
     rw [List.drop_eq_nil_of_le (by simp;omega),rusL,List.append_nil] at hfin
     have HV:=Lib.hid hfin
     obtain ⟨v,vF,hk5,hr5,_⟩:=HM.out.is
     obtain ⟨Av,cv,Af,cf,e6,e7⟩:=hr5.form
     rw [List.length_map] at e6 e7
     subst e6 e7
     have hbw:Below w.heap.size w wr:=HB2.out.trans ((show Below w2.heap.size w2 wr by rw [HB5.out];exact HM.out.bel).mono HB2.out.size)
     have HE:=hide hbw
     have HR:=hide (hr5.mono (show w.heap.size≤b5 by rw [←HB5.out];exact HB2.out.size))
     have k2:=(HKW.out _ HM.out.bel)
     have HK2:=hide k2
     have z1:=hk5.cell 1
     have z2:=hk5.cell 2
     have z0:=hk5.cell 0
     have c0:=k2.cell 0
     have f0:=k2.frozen 0
     have c1:=k2.cell 1
     have f1:=k2.frozen 1
     have c2:=k2.cell 2
     have f2:=k2.frozen 2
     have l2:b2<wr.heap.size:=k2.lt
     have HS:=hide (fun a0 a1 a2=>rum_ret k2 hr5 a0 a1 a2)
     have HBS:=hide (fun a0 a1 a2=>((HE.out.setCell (p:=⟨b2,0,none⟩) (show w.heap.size≤b2 by omega) a0).setCell (p:=⟨b2,1,none⟩) (show w.heap.size≤b2 by omega) a1).setCell (p:=⟨b2,2,none⟩) (show w.heap.size≤b2 by omega) a2)
     clear hfin hbw hk5 hr5 k2 HP
     by_cases h200:200<out.length
     ·have h2z:(out.length:Int) > 200:=by omega
      go_wp2_with fail
      obtain ⟨hkr,_⟩:=HS.out (.int .i64 0) (.slice none 0 0) (.slice none 0 0)
      have p0:=hkr.cell 0
      have p1:=hkr.cell 1
      have p2:=hkr.cell 2
      exact bodyPost_ret (v:=.tuple #[.agg #[.int .i64 0,.slice none 0 0,.slice none 0 0],.iface 41 (.int .i64 4)]) (by simp [results,Tryz.results46,go_sem,p0,p1,p2]) rfl (.inr ⟨by rw [←HV.out];exact h200,rfl,HBS.out _ _ _⟩)
     ·have h2z:¬(out.length:Int) > 200:=by omega
      go_wp2_with fail
      obtain ⟨hkr,hrr⟩:=HS.out (.int .i64 (its.length:Int)) (.slice Av out.length cv) (.slice Af out.length cf)
      have p0:=hkr.cell 0
      have p1:=hkr.cell 1
      have p2:=hkr.cell 2
      exact bodyPost_ret (v:=.tuple #[.agg #[.int .i64 (its.length:Int),.slice Av out.length cv,.slice Af out.length cf],.nilIface]) (by simp [results,Tryz.results46,go_sem,p0,p1,p2]) rfl (.inl ⟨by rw [←HV.out];omega,_,_,rfl,by rw [←HV.out];exact hrr.mono (by rw [←HB5.out];exact HB2.out.size),HBS.out _ _ _⟩)
end Go.Proofs.YtojgbcmhdnappaaGreatDoor
