/-
  A part of the proof: LawBest. Conditions: none.
-/
import Derived.Test.YtojgbcmhdnappaaGreatDoorBeRefCheap
import Derived.Test.YtojgbcmhdnappaaGreatDoorBeSmall
import Derived.Test.YtojgbcmhdnappaaGreatDoorBeLawInst
namespace Go.Proofs.YtojgbcmhdnappaaGreatDoor
open Go.RowKit Go.Maps
set_option maxRecDepth 100000
theorem bareE_any (c:Int) (w:World) (hG:GlobE w) (h1:1≤c) (h2:c≤13):Calls Tryz.prog 10 #[.iface 41 (.int .i64 c),.int .i64 c] w (AtPost w true):=by
 have HB:=hide ((Below.refl w.heap.size w).alloc (Nat.le_refl _) (.cells #[.int .i64 c,.int .i64 (-1)] 80))
 have hi:IsErr w (.iface 41 (.int .i64 c)) (c,-1):=.inr (.inl ⟨rfl,h1,h2,rfl⟩)
 have HAT:=hide (at_anyE (.iface 41 (.int .i64 c)) (c,-1) (c,-1) (w.alloc (.cells #[.int .i64 c,.int .i64 (-1)] 80)) (hG.below HB.out) (errBelowB hi HB.out))
 unfold faultV at HAT
 rw [atB_self] at HAT
 clear hi hG
 go_enter Tryz.func10,Tryz.ntmps10
 go_wp2_with (go_at_call 35;refine (bare_any c _).mono ?_;rintro e w' ⟨rfl,rfl⟩)
 refine (HAT.out).mono ?_
 rintro e w4 ⟨rfl,hb4⟩
 go_wp2
 go_ret
 exact ⟨ret_bool (by simp),HB.out.trans (hb4.mono HB.out.size)⟩
section
variable (w:World) (n:Nat)
theorem cost_law2:CostB w n 26 #[] cOne:=fun v b W _ _=>by
 show Calls Tryz.prog 26 #[.int .i64 (v:Int),.bool b] W _
 cases b with
 | true =>
  go_enter Tryz.func26,Tryz.ntmps26
  go_wp2
  go_ret
  exact ⟨rfl,Below.refl _ _⟩
 | false =>
  go_enter Tryz.func26,Tryz.ntmps26
  go_wp2
  go_ret
  exact ⟨rfl,Below.refl _ _⟩
theorem cost_law3 (now g:Nat) (hn:now<18446744073709551616) (h8:n≤8) (hg:g<w.heap.size) (hc:w.cell? ⟨g,0,none⟩=some (.int .u64 (now:Int))):CostB w n 27 #[.pointer (some ⟨g,0,none⟩)] (cNow now):=fun v b W hb hv=>by
 show Calls Tryz.prog 27 #[.int .i64 (v:Int),.bool b,.pointer (some ⟨g,0,none⟩)] W _
 have y0:=(hb.cell (p:=⟨g,0,none⟩) hg).trans hc
 have hmn:min v 64=v:=by omega
 have hs:=shrC now v hn
 have HR:=Lib.hid (show cNow now v b=if now.testBit v==b then 0 else 1 from rfl)
 generalize cNow now v b=r at HR ⊢
 generalize now.testBit v=tb at hs HR
 clear hc hb
 rcases tb with _ | _ <;> rcases b with _ | _
 all_goals
  go_enter Tryz.func27,Tryz.ntmps27
  go_wp2
  go_ret
  exact ⟨by rw [HR.out];rfl,Below.refl _ _⟩
theorem cost_law4 (zs:List Int) (g nc cc:Nat) (A:Option Addr) (hg:g<w.heap.size) (hc:w.cell? ⟨g,0,none⟩=some (.slice A nc cc)) (hz:Ints w w.heap.size A nc zs) (h0:∀ z∈zs,0≤z):CostB w n 29 #[.pointer (some ⟨g,0,none⟩)] (cTold zs):=fun v b W hb hv=>by
 show Calls Tryz.prog 29 #[.int .i64 (v:Int),.bool b,.pointer (some ⟨g,0,none⟩)] W _
 have y0:=(hb.cell (p:=⟨g,0,none⟩) hg).trans hc
 have hl:zs.length=nc:=hz.len
 cases b with
 | false =>
  have HR:=Lib.hid (show cTold zs v false=0 from rfl)
  clear hc hb hz h0
  go_enter Tryz.func29,Tryz.ntmps29
  go_wp2
  go_ret
  exact ⟨by rw [HR.out];rfl,Below.refl _ _⟩
 | true =>
  by_cases hlt:v<nc
  ·have hvz:(v:Int)<(nc:Int):=by omega
   have hp:0≤zs.getD v 0:=h0 _ (by rw [List.getD_eq_getElem?_getD,List.getElem?_eq_getElem (by omega)];exact List.getElem_mem _)
   have HR:=Lib.hid (show ((cTold zs v true:Nat):Int)=zs.getD v 0 from by unfold cTold;rw [if_pos (by rw [decide_eq_true (by omega)];rfl)];omega)
   obtain ⟨ad,rfl,_,x0⟩:=(hz.below hb).at_ hlt
   generalize zs.getD v 0=z at x0 HR
   clear hc hb hz h0 hp
   go_enter Tryz.func29,Tryz.ntmps29
   go_wp2
   go_ret
   exact ⟨by rw [HR.out];rfl,Below.refl _ _⟩
  ·have hvz:¬(v:Int)<(nc:Int):=by omega
   have HR:=Lib.hid (show cTold zs v true=0 from by unfold cTold;rw [if_neg (by rw [decide_eq_false (by omega)];decide)])
   clear hc hb hz h0
   go_enter Tryz.func29,Tryz.ntmps29
   go_wp2
   go_ret
   exact ⟨by rw [HR.out];rfl,Below.refl _ _⟩
end
def BestV (o:Option (Nat×Nat)) (x:Nat) (ev:Value):Prop:=x=(o.getD (0,0)).2∧ev=if o.isSome then .nilIface else .iface 41 (.int .i64 8)
set_option maxHeartbeats 2000000 in
theorem one_any (n base b15 b11 fc x:Nat) (lb:Array Value) (c:Nat→Bool→Nat) (eg:∀ args w,(callFunc fc args).run Tryz.prog w=.ok (.enter fc args) w) (hcc:∀ v b,c v b≤1000000) (o:Option (Nat×Nat)) (ev:Value) (A:Option Addr) (ci:Nat) (L:List Nat) (w:World) (hG:GlobE w)
  (h15:w.cell? ⟨b15,0,none⟩=some (.slice A L.length ci)) (h11:w.cell? ⟨b11,0,none⟩=some (.int .i64 (n:Int))) (hL:OwnK elU w base (.slice A L.length ci) L) (hn:n≤8) (hlt:∀ x∈L,x<2 ^ n) (hll:L.length≤1000000) (hc:CostB w n fc lb c) (ho:cheapF (cstF c n) L=o) (hv:BestV o x ev) :
  Calls Tryz.prog 22 #[.int .u64 (x:Int),ev,.func (.func fc) #[] lb,.pointer (some ⟨b15,0,none⟩),.pointer (some ⟨b11,0,none⟩)] w (AtPost w true):=by
 have HCH:=hide (refCheapest_any n base fc lb c eg hcc (.slice A L.length ci) L w hL hn hlt hll hc)
 rw [ho] at HCH
 unfold CheapP at HCH
 have HG:=hide hG
 obtain ⟨rfl,rfl⟩:=hv
 clear hL hc ho hG hlt
 cases o with
 | none =>
  have HBE:=Lib.hid (fun W (h:GlobE W)=>bareE_any 8 W h (by decide) (by decide))
  go_enter Tryz.func22,Tryz.ntmps22
  go_wp2_with fail
  refine HCH.out.mono ?_
  rintro e w1 ⟨rfl,hb⟩
  have HB:=hide hb
  have HBB:=hide (HBE.out w1 (HG.out.below hb))
  clear hb HCH HBE
  go_wp2_with fail
  refine HBB.out.mono ?_
  rintro e w2 ⟨rfl,hb2⟩
  have HB2:=hide (HB.out.trans (hb2.mono HB.out.size))
  clear hb2 HBB
  go_wp2
  go_ret
  exact ⟨rfl,HB2.out⟩
 | some p =>
  obtain ⟨pc,px⟩:=p
  go_enter Tryz.func22,Tryz.ntmps22
  go_wp2_with fail
  refine HCH.out.mono ?_
  rintro e w1 ⟨rfl,hb⟩
  have HB:=hide hb
  have hxx:((((some (pc,px)).getD (0,0)).2:Nat):Int)=(((chV (some (pc,px))).2:Nat):Int):=rfl
  clear hb HCH hxx
  simp only [Option.getD_some,Option.isSome_some,chV]
  go_wp2
  go_ret
  exact ⟨ret_bool (by simp),HB.out⟩
structure BoxB (w:World) (b now nc cc:Nat) (A0:Option Addr) (zs:List Int) (W:World):Prop where
 k4:Blk W b 61 #[.int .u64 (now:Int)]
 k5:Blk W (b+1) 31 #[.slice A0 nc cc]
 zz:Ints W W.heap.size A0 nc zs
 bel:Below w.heap.size w W
theorem BoxB.below {w W W':World} {b now nc cc:Nat} {A0:Option Addr} {zs:List Int} (h:BoxB w b now nc cc A0 zs W) (hb:Below W.heap.size W W'):BoxB w b now nc cc A0 zs W' :=
 ⟨h.k4.below hb h.k4.lt,h.k5.below hb h.k5.lt,(h.zz.below hb).more hb.size,h.bel.trans (hb.mono h.bel.size)⟩
structure BsI (w:World) (b now nc cc:Nat) (A0:Option Addr) (zs:List Int) (b11 b15 n P base1 base2:Nat) (Ai:Option Addr) (ci:Nat) (L:List Nat) (cs:List (List Int)) (W:World):Prop where
 bx:BoxB w b now nc cc A0 zs W
 sp:SpcO W base1 P n cs
 ow:OwnK elU W base2 (.slice Ai L.length ci) L
 k11:Blk W b11 3 #[.int .i64 (n:Int)]
 k15:Blk W b15 35 #[.slice Ai L.length ci]
 ge:GlobE W
theorem BsI.below {w W W':World} {b now nc cc:Nat} {A0:Option Addr} {zs:List Int} {b11 b15 n P base1 base2:Nat} {Ai:Option Addr} {ci:Nat} {L:List Nat} {cs:List (List Int)} (h:BsI w b now nc cc A0 zs b11 b15 n P base1 base2 Ai ci L cs W) (hb:Below W.heap.size W W'):BsI w b now nc cc A0 zs b11 b15 n P base1 base2 Ai ci L cs W' :=
 ⟨h.bx.below hb,h.sp.below hb,h.ow.below hb,h.k11.below hb h.k11.lt,h.k15.below hb h.k15.lt,h.ge.below hb⟩
theorem cheap_is (c:Nat→Bool→Nat) (cs:List (List Int)) (n:Nat) (hl:∀ z∈cs,LitsIn n z):cheapF (cstF c n) (instL cs n)=wayF c n 0 (allV cs) :=
 cheap_way c (allV cs) (allV_pos cs (fun z hz x hx=>((hl z hz).1 x hx).1)) n
theorem best_v {w w':World} {o:Option (Nat×Nat)} {e:Ending} (h:BestP o w e w'):∃ x ev,e=.returned (.tuple #[.int .u64 ((x:Nat):Int),ev])∧BestV o x ev∧Below w.heap.size w w':=⟨_,_,h.1,⟨rfl,rfl⟩,h.2⟩
theorem cheap_v {n:Nat} {cs:List (List Int)} {zs:List Int} {w w':World} {e:Ending} (h:CheapQ n cs zs w e w'):∃ x ev,e=.returned (.tuple #[.int .u64 ((x:Nat):Int),ev])∧(zs.all costOk=true→BestV (wayF (cTold zs) n 0 (allV cs)) x ev)∧(zs.all costOk=false→x=0∧ev=.iface 41 (.int .i64 2))∧Below w.heap.size w w':=by
 rcases h with ⟨h1,h2⟩ | ⟨h1,h2,h3⟩
 ·obtain ⟨x,ev,h4,h5,h6⟩:=best_v h2
  exact ⟨x,ev,h4,fun _=>h5,fun e=>(by rw [h1] at e;cases e),h6⟩
 ·exact ⟨0,_,h2,fun e=>(by rw [h1] at e;cases e),fun _=>⟨rfl,rfl⟩,h3⟩
set_option maxHeartbeats 16000000 in
theorem lawBest_core (t:ByteArray) (now:Nat) (A0:Option Addr) (nc cc:Nat) (zs:List Int) (w:World) (hG:GlobV w) (hF:FineP w) (hK:KindsP w) (hs:t.size≤9223372036854775807) (hnow:now<18446744073709551616) (hz:Ints w w.heap.size A0 nc zs) :
  Calls Tryz.prog 5 #[.string t,.int .u64 (now:Int),.slice A0 nc cc] w (AtPost w true):=by
 have hal:=((Below.refl w.heap.size w).alloc (Nat.le_refl _) (.cells #[.int .u64 (now:Int)] 61)).alloc (by simp) (.cells #[.slice A0 nc cc] 31)
 have HX:=hide (show BoxB w w.heap.size now nc cc A0 zs ((w.alloc (.cells #[.int .u64 (now:Int)] 61)).alloc (.cells #[.slice A0 nc cc] 31)) from ⟨(Blk.new w _ _).alloc _,blk_2nd w _,(hz.below hal).more hal.size,hal⟩)
 have HBT:=hide (both_any t _ (hG.below hal) (hF.below hal) (hK.below hal) hs)
 have HGE:=hide ((hG.below hal).e)
 clear hG hF hK hz hal
 go_enter Tryz.func5,Tryz.ntmps5
 go_upto_region 1 with fail
 obtain ⟨b,HGB⟩:∃ b,Hid (w.heap.size=b):=⟨_,Lib.hid rfl⟩
 have HX1:=HX
 rw [HGB.out] at HX1
 generalize ((w.alloc (.cells #[.int .u64 (now:Int)] 61)).alloc (.cells #[.slice A0 nc cc] 31))=w0 at HX HX1 HBT HGE ⊢
 clear HX
 rw [HGB.out]
 have HX:=hide (show BoxB w b now nc cc A0 zs w0 from by have:=HX1.out;exact this)
 clear HX1
 go_wp2_with fail
 refine HBT.out.mono ?_
 rintro e w1 (⟨_,rfl,hb1⟩ | ⟨vw,g,qs,qs',its0,_,_,hqq,hcr,rfl,hl,hco,hb1⟩)
 ·have HB:=hide ((HX.out.below hb1).bel)
  clear hb1 HBT
  go_wp2_with fail
  go_ret
  exact ⟨rfl,HB.out⟩
 ·have HX1:=hide (HX.out.below hb1)
  have HG1:=hide (HGE.out.below hb1)
  have y5:=HX1.out.k5.cell 0
  by_cases h40:nc > 40
  ·have h40z:(nc:Int) > 40:=by omega
   clear hl hco hb1 HBT hcr hqq HX HGE
   go_wp2_with fail
   go_ret
   exact ⟨rfl,HX1.out.bel⟩
  ·have h40z:¬(nc:Int) > 40:=by omega
   have HSM:=hide (small_any vw qs its0 8 w1 (hl.mono (Nat.zero_le _)) hcr)
   unfold SmallP at HSM
   have HCO:=hide hco
   have HOF:=hide (fun W (h:CatO W w0.heap.size g qs') (h8:(itemsF (qs'.map (·.1))).length≤8)=>spaceOf_any g w0.heap.size qs' its0 W h (by rw [hqq];exact hcr) h8)
   rw [hqq] at HOF
   unfold SpcP at HOF
   have hlit:=rules_lits hcr
   generalize (itemsF (qs.map (·.1))).length=n at HSM HOF hlit
   generalize rulesF (itemsF (qs.map (·.1))) (qs.map (·.1))=R at HSM HOF hlit
   obtain ⟨cs,HCS⟩:∃ cs,Hid (R.map (·.1)=cs):=⟨_,Lib.hid rfl⟩
   have HLI:=Lib.hid (show ∀ z∈cs,LitsIn n z from fun z hz=>by rw [←HCS.out] at hz;obtain ⟨c,h1,rfl⟩:=List.mem_map.1 hz;exact hlit c h1)
   have hcl:cs.length=R.length:=by rw [←HCS.out,List.length_map]
   rw [HCS.out,←hcl] at HSM
   rw [HCS.out] at HOF
   have HCLN:=Lib.hid hcl
   clear hcl
   clear hl hco hb1 HBT hlit hcr hqq HX HGE
   go_wp2_with fail
   refine HSM.out.mono ?_
   rintro e w2 ⟨A2,c2,rfl,hck,hb2⟩
   have hal2:=hb2.alloc hb2.size (.cells #[.int .i64 (n:Int)] 3)
   have HCK:=hide (hck.below ((Below.refl _ _).alloc (Nat.le_refl _) (.cells #[.int .i64 (n:Int)] 3)))
   have HX2:=hide (HX1.out.below hal2)
   have HG2:=hide (HG1.out.below hal2)
   have HCO2:=hide (HCO.out.below hal2)
   have HK11:=hide (Blk.new w2 3 #[.int .i64 (n:Int)])
   clear hck hb2 hal2 HSM HCO HX1 HG1 y5
   by_cases hfit:cs.length≤200∧n≤8
   ·obtain ⟨h200,h8⟩:=hfit
    rw [show (decide (cs.length≤200)&&decide (n≤8))=true by rw [decide_eq_true h200,decide_eq_true h8];rfl]
    have HO:=hide (HOF.out _ HCO2.out h8)
    clear HOF HCO2
    go_wp2_with fail
    obtain ⟨b11,HB11⟩:∃ b11,Hid (w2.heap.size=b11):=⟨_,Lib.hid rfl⟩
    rw [HB11.out] at HK11 ⊢
    generalize (w2.alloc (.cells #[.int .i64 (n:Int)] 3))=w2b at HCK HX2 HG2 HK11 HO ⊢
    refine HO.out.mono ?_
    rintro e w3 (⟨_,P,rfl,ho3,hb3⟩ | ⟨hno,_⟩)
    ·have HO3:=hide ho3
     have HX3:=hide (HX2.out.below hb3)
     have HG3:=hide (HG2.out.below hb3)
     have hk11:=HK11.out.below hb3 HK11.out.lt
     have y11:=hk11.cell 0
     have HK3:=hide hk11
     have HIN:=hide (insts_any n A2 c2 cs w3 _ (HCK.out.below hb3) HLI.out h8)
     clear ho3 hb3 hk11 HO HCK HX2 HG2 HK11
     go_wp2_with fail
     refine HIN.out.mono ?_
     rintro e w5 ⟨vi,rfl,hoi,hb5⟩
     have hL:=instL_len cs h8
     have HCH:=Lib.hid (fun c=>cheap_is c cs n HLI.out)
     have HLT:=Lib.hid (show ∀ x∈instL cs n,x<2 ^ n from fun x hx=>(mem_inst.1 hx).1)
     generalize instL cs n=L at hoi hL HCH HLT
     obtain ⟨Ai,ci,rfl,_⟩:=hoi.len
     have hal5:=hb5.alloc hb5.size (.cells #[.slice Ai L.length ci] 35)
     have HO5:=hide (hoi.below ((Below.refl _ _).alloc (Nat.le_refl _) (.cells #[.slice Ai L.length ci] 35)))
     have HX5:=hide (HX3.out.below hal5)
     have HG5:=hide (HG3.out.below hal5)
     have HS5:=hide (HO3.out.below hal5)
     have HK5:=hide (HK3.out.below hal5 HK3.out.lt)
     have HK15:=hide (Blk.new w5 35 #[.slice Ai L.length ci])
     clear hoi hb5 hal5 HIN HO3 HX3 HG3 HK3 y11
     have HLE:=Lib.hid (fun W (h:SpcO W w2b.heap.size P n cs)=>bLeast_any P n w2b.heap.size cs W h)
     have HNE:=Lib.hid (fun W (h:SpcO W w2b.heap.size P n cs)=>bNear_any P n w2b.heap.size now cs W h h8 hnow)
     have HCE:=Lib.hid (fun W (h:SpcO W w2b.heap.size P n cs) (hz:Ints W W.heap.size A0 nc zs)=>bCheap_any P n w2b.heap.size nc cc A0 zs cs W h hz (by omega))
     have HL5:=hide (HLE.out _ HS5.out)
     clear HLE
     go_wp2_with fail
     obtain ⟨b15,HB15⟩:∃ b15,Hid (w5.heap.size=b15):=⟨_,Lib.hid rfl⟩
     rw [HB15.out] at HK15 ⊢
     generalize (w5.alloc (.cells #[.slice Ai L.length ci] 35))=w6 at HO5 HX5 HG5 HS5 HK5 HK15 HL5 ⊢
     have HI6:=hide (show BsI w b now nc cc A0 zs b11 b15 n P w2b.heap.size w3.heap.size Ai ci L cs w6 from ⟨HX5.out,HS5.out,HO5.out,HK5.out,HK15.out,HG5.out⟩)
     clear HO5 HX5 HG5 HS5 HK5 HK15
     have HON:=Lib.hid (fun (W:World) (hI:BsI w b now nc cc A0 zs b11 b15 n P w2b.heap.size w3.heap.size Ai ci L cs W) (fc x:Nat) (lb:Array Value) (c:Nat→Bool→Nat) (eg:∀ args w,(callFunc fc args).run Tryz.prog w=.ok (.enter fc args) w) (hcc:∀ v b,c v b≤1000000) (ev:Value) (hc:CostB W n fc lb c) (hv:BestV (wayF c n 0 (allV cs)) x ev) =>
      one_any n w3.heap.size b15 b11 fc x lb c eg hcc (wayF c n 0 (allV cs)) ev Ai ci L W hI.ge (hI.k15.cell 0) (hI.k11.cell 0) hI.ow h8 HLT.out (by omega) hc (HCH.out c) hv)
     refine HL5.out.mono ?_
     intro e w7 hq
     obtain ⟨x1,ev1,rfl,hv1,hb7⟩:=best_v hq
     have HV1:=Lib.hid hv1
     have HI7:=hide (HI6.out.below hb7)
     have HN7:=hide (HNE.out w7 HI7.out.sp)
     have y4:=HI7.out.bx.k4.cell 0
     clear hq hv1 hb7 HL5 HNE HI6
     go_wp2_with fail
     refine HN7.out.mono ?_
     intro e w8 hq
     obtain ⟨x2,ev2,rfl,hv2,hb8⟩:=best_v hq
     have HV2:=Lib.hid hv2
     have HI8:=hide (HI7.out.below hb8)
     have HO8:=hide (HON.out w8 HI8.out 26 x1 #[] cOne (enters_of Tryz.func26 (by kernel_rfl) rfl) cOne_le ev1 (cost_law2 w8 n) HV1.out)
     clear hq hv2 hb8 HN7 HI7 y4 HV1
     go_wp2_with fail
     refine HO8.out.mono ?_
     rintro e w9 ⟨rfl,hb9⟩
     have HI9:=hide (HI8.out.below hb9)
     have HO9:=hide (HON.out w9 HI9.out 27 x2 #[.pointer (some ⟨b,0,none⟩)] (cNow now) (enters_of Tryz.func27 (by kernel_rfl) rfl) (cNow_le now) ev2 (cost_law3 w9 n now b hnow h8 HI9.out.bx.k4.lt (HI9.out.bx.k4.cell 0)) HV2.out)
     clear hb9 HO8 HI8 HV2
     go_wp2_with fail
     refine HO9.out.mono ?_
     rintro e w10 ⟨rfl,hb10⟩
     have HI10:=hide (HI9.out.below hb10)
     have HC10:=hide (HCE.out w10 HI10.out.sp HI10.out.bx.zz)
     have y5:=HI10.out.bx.k5.cell 0
     clear hb10 HO9 HI9 HCE
     go_wp2_with fail
     refine HC10.out.mono ?_
     intro e w11 hq
     obtain ⟨x3,ev3,rfl,hv3,hv4,hb11⟩:=cheap_v hq
     have HV3:=Lib.hid hv3
     have HV4:=Lib.hid hv4
     have HI11:=hide (HI10.out.below hb11)
     clear hq hv3 hv4 hb11 HC10 HI10 y5
     have y5:=HI11.out.bx.k5.cell 0
     have hzl:zs.length=nc:=HI11.out.bx.zz.len
     have HZL:=Lib.hid hzl
     clear hzl
     go_wp2_with fail
     go_loopw [23] (fun iv wr=>∃ i:Nat,i≤nc∧iv=.int .i64 i∧Hid ((zs.take i).all costOk=true)∧wr=w11) (fun iv _=>nc-(intOf iv).toNat)
     case atStart=>exact ⟨0,Nat.zero_le _,rfl,Lib.hid rfl,rfl⟩
     case round=>as_aux_lemma =>
      obtain ⟨i,hi,rfl,HO,rfl⟩:=hrel
      by_cases hlt:i<nc
      ·have hltz:(i:Int)<(nc:Int):=by omega
       obtain ⟨ad,rfl,_,x0⟩:=HI11.out.bx.zz.at_ hlt
       have hil:i<zs.length:=by rw [HZL.out];exact hlt
       have HST:=Lib.hid (all_snoc hil)
       have HNT:=Lib.hid (all_not hil)
       generalize zs.getD i 0=z at x0 HST HNT
       clear hil
       have HBE:=hide (bareE_any 2 wr HI11.out.ge (by decide) (by decide))
       by_cases h0:z<0
       ·obtain ⟨rfl,rfl⟩:=HV4.out (HNT.out (by unfold costOk;rw [decide_eq_false (by omega)];rfl))
        clear HV3 HV4 HST HNT HO HON
        go_wp2_with fail
        refine HBE.out.mono ?_
        rintro e w12 ⟨rfl,hb12⟩
        have HB12:=hide ((HI11.out.below hb12).bx.bel)
        clear hb12 HBE
        go_wp2
        go_ret
        exact ⟨rfl,HB12.out⟩
       ·by_cases h1:z > 1000000
        ·obtain ⟨rfl,rfl⟩:=HV4.out (HNT.out (by unfold costOk;rw [decide_eq_false (show ¬z≤1000000 by omega),Bool.and_false]))
         clear HV3 HV4 HST HNT HO HON
         go_wp2_with fail
         refine HBE.out.mono ?_
         rintro e w12 ⟨rfl,hb12⟩
         have HB12:=hide ((HI11.out.below hb12).bx.bel)
         clear hb12 HBE
         go_wp2
         go_ret
         exact ⟨rfl,HB12.out⟩
        ·have HO2:=Lib.hid (show (zs.take (i+1)).all costOk=true by rw [HST.out,HO.out];unfold costOk;rw [decide_eq_true (show 0≤z by omega),decide_eq_true (show z≤1000000 by omega)];rfl)
         clear HV3 HV4 HST HNT HO HON HBE
         go_wp2_with fail
         go_round
         case rel=>exact ⟨i+1,by omega,by go_num,HO2,trivial⟩
         case measure=>simp [intOf];omega
      ·have hltz:¬(i:Int)<(nc:Int):=by omega
       have htk:zs.take i=zs:=List.take_of_length_le (by have:=HZL.out;omega)
       have hok:zs.all costOk=true:=by rw [←htk];exact HO.out
       have HO3:=hide (HON.out wr HI11.out 29 x3 #[.pointer (some ⟨b+1,0,none⟩)] (cTold zs) (enters_of Tryz.func29 (by kernel_rfl) rfl) (cTold_le (costOk_all hok)) ev3 (cost_law4 wr n zs (b+1) nc cc A0 HI11.out.bx.k5.lt (HI11.out.bx.k5.cell 0) HI11.out.bx.zz (fun z hz=>(costOk_all hok z hz).1)) (HV3.out hok))
       clear htk hok HO HV3 HV4 HON
       go_wp2_with fail
       refine HO3.out.mono ?_
       rintro e w12 ⟨rfl,hb12⟩
       have HB12:=hide ((HI11.out.below hb12).bx.bel)
       clear hb12 HO3
       go_wp2
       go_ret
       exact ⟨rfl,HB12.out⟩
    ·exact absurd h200 (by have:=HCLN.out;omega)
   ·rw [show (decide (cs.length≤200)&&decide (n≤8))=false by rw [←Bool.decide_and];exact decide_eq_false hfit]
    go_wp2_with fail
    go_ret
    exact ⟨rfl,HX2.out.bel⟩
theorem lawBest_walk (t:ByteArray) (x:Int) (A0:Option Addr) (nc cc:Nat) (zs:List Int) (w:World) (hG:GlobV w) (hF:FineP w) (hK:KindsP w) (hs:t.size≤9223372036854775807) (h0:0≤x) (h1:x≤18446744073709551615) (hz:Ints w w.heap.size A0 nc zs) :
  Calls Tryz.prog 5 #[.string t,.int .u64 x,.slice A0 nc cc] w (AtPost w true):=by
 obtain ⟨now,rfl⟩:=Int.eq_ofNat_of_zero_le h0
 exact lawBest_core t now A0 nc cc zs w hG hF hK hs (by omega) hz
end Go.Proofs.YtojgbcmhdnappaaGreatDoor
