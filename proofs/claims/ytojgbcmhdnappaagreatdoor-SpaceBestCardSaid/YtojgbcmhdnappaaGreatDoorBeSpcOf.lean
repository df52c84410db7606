/-
  A part of the proof: Holds, SpcLaw, SpcOf. Conditions: none.
-/
import Derived.Test.YtojgbcmhdnappaaGreatDoorBeAt
import Derived.Test.YtojgbcmhdnappaaGreatDoorBeEvCount
import Derived.Test.YtojgbcmhdnappaaGreatDoorBeSpcCls
import Derived.Laws.Bits64b
import Derived.Test.YtojgbcmhdnappaaGreatDoorBeRulesOf
import Derived.Test.YtojgbcmhdnappaaGreatDoorBeEvCnt
namespace Go.Proofs.YtojgbcmhdnappaaGreatDoor
open Go.RowKit
def posB (v x:Int):Bool:=bits BinOp.and IntKind.u64 (v / 2 ^ (x.toNat-1)) 1==1
def negB (v x:Int):Bool:=bits BinOp.and IntKind.u64 (v / 2 ^ ((-x).toNat-1)) 1==0
def holdsLit (v x:Int):Bool:=if 0<x then posB v x else negB v x
def holdsC (v:Int) (zs:List Int):Bool:=zs.any (holdsLit v)
theorem right_lit {zs:List Int} (h:rightB zs=true) {x:Int} (hx:x∈zs):(1≤x∧x≤24)∨(-24≤x∧x ≤ -1):=by
 unfold rightB at h
 rw [Bool.and_eq_true,List.all_eq_true] at h
 have:=h.1 x hx
 unfold badB at this
 simp at this
 omega
set_option maxHeartbeats 1000000 in
theorem refHolds_any (v:Int) (A:Option Addr) (n c:Nat) (zs:List Int) (w:World) (h:Ints w w.heap.size A n zs) (hr:rightB zs=true) (_hv0:0≤v) (_hv1:v≤18446744073709551615) :
  Calls Tryz.prog 109 #[.slice A n c,.int .u64 v] w fun e w'=>e=.returned (.bool (holdsC v zs))∧w=w':=by
 have hn:=h.le
 have hlen:=Lib.hid h.len
 have HR:=Lib.hid hr
 clear hr
 go_enter Tryz.func109,Tryz.ntmps109
 go_wp2
 go_loop [6,9] (fun _ i=>∃ k:Nat,k≤n∧i=.int .i64 k∧Hid ((zs.take k).any (holdsLit v)=false)) (fun _ i=>n-(intOf i).toNat)
 case atStart=>exact ⟨0,Nat.zero_le _,rfl,Lib.hid rfl⟩
 case round =>
  obtain ⟨k,hk,rfl,hd⟩:=hrel
  by_cases hlt:k<n
  ·obtain ⟨ad,rfl,hb,hc⟩:=h.at_ hlt
   have hkl:=Lib.hid (show k<zs.length by rw [hlen.out];exact hlt)
   have hmem:zs.getD k 0∈zs:=by
    rw [List.getD_eq_getElem?_getD,List.getElem?_eq_getElem hkl.out];exact List.getElem_mem hkl.out
   have hx2:=right_lit HR.out hmem
   clear hmem
   obtain ⟨x,hx⟩:∃ x,zs.getD k 0=x:=⟨_,rfl⟩
   rw [hx] at hc hx2
   have HX:=Lib.hid hx
   clear hx
   rcases hx2 with ⟨h0,h1⟩ | ⟨h0,h1⟩
   ·have HF:=Lib.hid (show holdsLit v x=posB v x by unfold holdsLit;rw [if_pos (by omega)])
    rcases hp:posB v x with _ | _
    ·have hp':=hp
     unfold posB at hp'
     have HP:=Lib.hid hp
     clear hp
     go_wp2
     go_round
     case rel=>exact ⟨k+1,by omega,by go_num,Lib.hid (any_false_take _ zs k 0 hkl.out hd.out (by rw [HX.out,HF.out];exact HP.out))⟩
     case measure=>simp [intOf];omega
    ·have hp':=hp
     unfold posB at hp'
     have HP:=Lib.hid hp
     clear hp
     go_wp2
     go_ret
     exact ⟨ret_bool (by symm;exact any_true_at _ zs k 0 hkl.out (by rw [HX.out,HF.out];exact HP.out)),rfl⟩
   ·have HF:=Lib.hid (show holdsLit v x=negB v x by unfold holdsLit;rw [if_neg (by omega)])
    rcases hp:negB v x with _ | _
    ·have hp':=hp
     unfold negB at hp'
     have HP:=Lib.hid hp
     clear hp
     go_wp2
     go_round
     case rel=>exact ⟨k+1,by omega,by go_num,Lib.hid (any_false_take _ zs k 0 hkl.out hd.out (by rw [HX.out,HF.out];exact HP.out))⟩
     case measure=>simp [intOf];omega
    ·have hp':=hp
     unfold negB at hp'
     have HP:=Lib.hid hp
     clear hp
     go_wp2
     go_ret
     exact ⟨ret_bool (by symm;exact any_true_at _ zs k 0 hkl.out (by rw [HX.out,HF.out];exact HP.out)),rfl⟩
  ·go_wp2
   go_ret
   exact ⟨ret_bool (by symm;rw [take_all zs k (by have:=hlen.out;omega)] at hd;exact hd.out),rfl⟩
def allB (v:Int) (ls:List (List Int)):Bool:=ls.all (holdsC v)
set_option maxHeartbeats 1000000 in
theorem refAllHold_any (v:Int) (A:Option Addr) (n c:Nat) (ls:List (List Int)) (w:World) (h:Cls w w.heap.size A n ls) (hr:∀ k,k<n→rightB (ls.getD k [])=true) (hv0:0≤v) (hv1:v≤18446744073709551615) :
  Calls Tryz.prog 55 #[.slice A n c,.int .u64 v] w fun e w'=>e=.returned (.bool (allB v ls))∧w=w':=by
 have hn:=h.le
 have hlen:=Lib.hid h.len
 have HR:=hide hr
 clear hr
 go_enter Tryz.func55,Tryz.ntmps55
 go_wp2
 go_loop [6,9] (fun _ i=>∃ k:Nat,k≤n∧i=.int .i64 k∧Hid ((ls.take k).all (holdsC v)=true)) (fun _ i=>n-(intOf i).toNat)
 case atStart=>exact ⟨0,Nat.zero_le _,rfl,Lib.hid rfl⟩
 case round =>
  obtain ⟨k,hk,rfl,hd⟩:=hrel
  by_cases hlt:k<n
  ·obtain ⟨ad,A',n',c',rfl,hb,hc,hcc,hi⟩:=h.at_ hlt
   have hkl:=Lib.hid (show k<ls.length by rw [hlen.out];exact hlt)
   have hcall:=refHolds_any v A' n' c' (ls.getD k []) w hi (HR.out k hlt) hv0 hv1
   clear hi
   obtain ⟨x,hx⟩:∃ x,ls.getD k []=x:=⟨_,rfl⟩
   rw [hx] at hcall
   have HX:=Lib.hid hx
   clear hx
   rcases hpx:holdsC v x with _ | _
   ·rw [hpx] at hcall
    have HPX:=Lib.hid hpx
    clear hpx
    have HC:=hide hcall
    clear hcall
    go_wp2_with (go_at_call 109;refine (HC.out).mono ?_;rintro e w1 ⟨rfl,rfl⟩)
    go_ret
    exact ⟨ret_bool (all_false_at _ ls k [] hkl.out (by rw [HX.out];exact HPX.out)).symm,rfl⟩
   ·rw [hpx] at hcall
    have HPX:=Lib.hid hpx
    clear hpx
    have HC:=hide hcall
    clear hcall
    go_wp2_with (go_at_call 109;refine (HC.out).mono ?_;rintro e w1 ⟨rfl,rfl⟩)
    go_round
    case rel=>exact ⟨k+1,by omega,by go_num,Lib.hid (all_of_take _ ls k [] hkl.out hd.out (by rw [HX.out];exact HPX.out))⟩
    case measure=>simp [intOf];omega
  ·go_wp2
   go_ret
   exact ⟨ret_bool (by symm;rw [take_all ls k (by have:=hlen.out;omega)] at hd;exact hd.out),rfl⟩
end Go.Proofs.YtojgbcmhdnappaaGreatDoor
namespace Go.Proofs.YtojgbcmhdnappaaGreatDoor
open Go.RowKit
def allV (cs:List (List Int)) (v:Int→Bool):Bool:=cs.all fun zs=>clB zs v
theorem allV_snoc (cs:List (List Int)) (z:List Int) (v:Int→Bool):allV (cs++[z]) v=(allV cs v&&clB z v):=by
 unfold allV
 rw [List.all_append,List.all_cons,List.all_nil,Bool.and_true]
theorem shrU (v x:Nat) (hv:v<18446744073709551616):bits BinOp.and IntKind.u64 ((v:Int) / 2 ^ x) 1=if v.testBit x then 1 else 0:=by
 have e:((v:Int) / 2 ^ x)=((v / 2 ^ x:Nat):Int):=by norm_cast
 have hl:v / 2 ^ x<18446744073709551616:=Nat.lt_of_le_of_lt (Nat.div_le_self _ _) hv
 rw [e,show (1:Int)=((1:Nat):Int) from rfl,bits_and_u64_nat _ _ hl (by omega),Nat.and_one_is_mod,Nat.testBit_eq_decide_div_mod_eq]
 have h1:v / 2 ^ x % 2=0∨v / 2 ^ x % 2=1:=by omega
 rcases h1 with h1 | h1 <;> rw [h1] <;> rfl
theorem lit_val {x:Int} {q:Nat} (hx:x≠0) (hq:q<18446744073709551616):holdsLit (q:Int) x=(valV q ((x.natAbs:Int)-1)==decide (0<x)):=by
 unfold holdsLit valV
 by_cases h:0<x
 ·rw [if_pos h,decide_eq_true h,decide_eq_true (show (0:Int)≤(x.natAbs:Int)-1 by omega),Bool.true_and]
  unfold posB
  rw [shrU _ _ hq,show ((x.natAbs:Int)-1).toNat=x.toNat-1 by omega]
  cases q.testBit (x.toNat-1) <;> rfl
 ·rw [if_neg h,decide_eq_false h,decide_eq_true (show (0:Int)≤(x.natAbs:Int)-1 by omega),Bool.true_and]
  unfold negB
  rw [shrU _ _ hq,show ((x.natAbs:Int)-1).toNat=(-x).toNat-1 by omega]
  cases q.testBit ((-x).toNat-1) <;> rfl
theorem all_val {cs:List (List Int)} {q:Nat} (hq:q<18446744073709551616) (h:∀ z∈cs,∀ x∈z,x≠0):allB (q:Int) cs=allV cs (valV q):=by
 unfold allB allV
 refine Bool.eq_iff_iff.2 ?_
 rw [List.all_eq_true,List.all_eq_true]
 refine forall_congr' fun z=>forall_congr' fun hz=>?_
 unfold holdsC clB
 rw [List.any_eq_true,List.any_eq_true]
 refine exists_congr fun x=>and_congr_right fun hx=>?_
 rw [lit_val (h z hz x hx) hq]
theorem instR_same {F G:Nat→Bool} {n:Nat} (h:∀ q,q<2 ^ n→F q=G q):∀ m,instR F n m=instR G n m
 | 0=>rfl
 | m+1=>by
  rw [instR,instR,instR_same h m,h _ (revB_lt n m)]
theorem allV_pos (cs:List (List Int)) (h:∀ z∈cs,∀ x∈z,x≠0) (v v':Int→Bool) (hv:∀ y:Int,0≤y→v y=v' y):allV cs v=allV cs v':=by
 unfold allV
 refine Bool.eq_iff_iff.2 ?_
 rw [List.all_eq_true,List.all_eq_true]
 refine forall_congr' fun z=>forall_congr' fun hz=>?_
 unfold clB
 rw [List.any_eq_true,List.any_eq_true]
 refine exists_congr fun x=>and_congr_right fun hx=>?_
 rw [hv _ (by have:=h z hz x hx;omega)]
section
variable {A:Ar} {vn:Nat}
end
end Go.Proofs.YtojgbcmhdnappaaGreatDoor
namespace Go.Proofs.YtojgbcmhdnappaaGreatDoor
open Go.RowKit Go.Maps
set_option maxRecDepth 100000
structure SpcM (w:World) (S B gn gu gt gc n:Nat) (A:Ar) (m:Nat) (all:Int) (cs:List (List Int)):Prop where
 sp:SpM w S B gn gu gt gc (n:Int) A m
 has:hasA A all=true
 den:∀ v,Go.Proofs.YtojgbcmhdnappaaGreatDoor.den A all v=allV cs v
structure SpcO (w:World) (base P n:Nat) (cs:List (List Int)):Prop where
 is:∃ S B gn gu gt gc all A m,Blk w P 52 #[.pointer (some ⟨S,0,none⟩),.int .i64 all]∧SpcM w S B gn gu gt gc n A m all cs∧(∀ k,spB B gn gu gt gc k∨k=S→base≤k)
 ge:base≤P
def SpcP (n:Nat) (R:List RuR) (w:World) (e:Ending) (w':World):Prop :=
 (R.length≤200∧∃ P,e=.returned (.tuple #[.pointer (some ⟨P,0,none⟩),.nilIface])∧SpcO w' w.heap.size P n (R.map (·.1))∧Below w.heap.size w w') ∨
 (200<R.length∧e=.returned (.tuple #[.pointer none,.iface 41 (.int .i64 4)])∧Below w.heap.size w w')
structure OfL (wD:World) (S B gn gu gt gc n:Nat) (cs:List (List Int)) (i:Nat) (y:Int) (A:Ar) (wr:World):Prop where
 sp:SpcM wr S B gn gu gt gc n A 0 y (cs.take i)
 low:low3 A≤31
 bel:Below wD.heap.size wD wr
theorem OfL.next {wD w6:World} {S B gn gu gt gc n i cl:Nat} {cs:List (List Int)} {z:Int} {A A0:Ar} (hi:i<cs.length)
  (h2:StpA A0 A (n:Int) cl 0 z (fun v=>allV (cs.take i) v&&clB (cs.getD i []) v)) (h6:SpM w6 S B gn gu gt gc (n:Int) (sweepA A [z]) 0) (hb:Below wD.heap.size wD w6) :
  OfL wD S B gn gu gt gc n cs (i+1) z (sweepA A [z]) w6:=by
 have hm:z∈[z]:=List.mem_singleton.2 rfl
 refine ⟨⟨h6,sweep_has hm h2.has,fun v=>?_⟩,low3_sweep h2.sp.wf,hb⟩
 rw [sweep_den h2.sp hm h2.has,h2.den,List.take_add_one,List.getElem?_eq_getElem hi,Option.toList_some,allV_snoc,List.getD_eq_getElem?_getD,List.getElem?_eq_getElem hi,Option.getD_some]
set_option maxHeartbeats 8000000 in
theorem spaceOf_any (g base:Nat) (qs:List LnQ) (its0:List ItR) (w:World) (h:CatO w base g qs) (hc:catR (qs.map (·.1))=.inr its0) (h8:(itemsF (qs.map (·.1))).length≤8) :
  Calls Tryz.prog 13 #[.pointer (some ⟨g,0,none⟩),.int .i64 4000] w (SpcP (itemsF (qs.map (·.1))).length (rulesF (itemsF (qs.map (·.1))) (qs.map (·.1))) w):=by
 have HOF:=hide (rulesOf_any g base qs its0 w h hc)
 unfold OfP at HOF
 have hlit:=rules_lits hc
 generalize (itemsF (qs.map (·.1))).length=n at HOF h8 hlit ⊢
 generalize rulesF (itemsF (qs.map (·.1))) (qs.map (·.1))=R at HOF hlit ⊢
 obtain ⟨cs,HCS⟩:∃ cs,Hid (R.map (·.1)=cs):=⟨_,Lib.hid rfl⟩
 have HLI:=Lib.hid (show ∀ z∈cs,LitsIn n z from fun z hz=>by rw [←HCS.out] at hz;obtain ⟨c,h1,rfl⟩:=List.mem_map.1 hz;exact hlit c h1)
 have hcl:cs.length=R.length:=by rw [←HCS.out,List.length_map]
 have HCL:=Lib.hid hcl
 clear h hc hlit hcl
 go_enter Tryz.func13,Tryz.ntmps13
 go_wp2_with fail
 refine HOF.out.mono ?_
 rintro e w1 (⟨h200,v,vF,rfl,hr1,hb1⟩ | ⟨h200,rfl,hb1⟩)
 ·have hal:=(Below.refl w1.heap.size w1).alloc (Nat.le_refl _) (.cells #[.int .i64 (n:Int),v,vF] 112)
  have hck:=(hr1.cl.mono (Nat.zero_le _)).below hal
  rw [HCS.out] at hck
  obtain ⟨Av,cv,Af,cf,e1,e2⟩:=hr1.form
  rw [List.length_map] at e1 e2
  rw [←HCL.out] at e1
  subst e1 e2
  have HC:=hide hck
  have HK:=hide (Blk.new w1 112 #[.int .i64 (n:Int),.slice Av cs.length cv,.slice Af R.length cf])
  have HB:=hide (hb1.trans (hal.mono hb1.size))
  have HNW:=Lib.hid (fun W=>bdNew_any n h8 W)
  unfold SpNewP at HNW
  have hcl200:cs.length≤200:=by rw [HCL.out];exact h200
  clear hck hal hr1 hb1 HOF
  go_wp2_with fail
  generalize w1.heap.size=b at HK ⊢
  generalize (w1.alloc (.cells #[.int .i64 (n:Int),.slice Av cs.length cv,.slice Af R.length cf] 112))=wD at HC HK HB ⊢
  refine (HNW.out wD).mono ?_
  rintro e w2 ⟨S,B,gn,gu,gt,gc,rfl,hn⟩
  have hK2:=HK.out.below hn.bel HK.out.lt
  have y1:=hK2.cell 1
  have HI0:=hide (show OfL wD S B gn gu gt gc n cs 0 1 (emptyA 4000) w2 from ⟨⟨hn.sp,has_ends.2,fun v=>den_one _ v⟩,by rw [low3_empty];exact Nat.zero_le _,hn.bel⟩)
  have HOW:=Lib.hid hn.own
  clear hn hK2 HNW HK
  go_wp2_with fail
  go_loopw [9,35] (fun av iv wr=>∃ (i:Nat) (y:Int) (A:Ar),i≤cs.length∧iv=.int .i64 i∧av=.int .i64 y∧Hid (OfL wD S B gn gu gt gc n cs i y A wr)) (fun _ iv _=>cs.length-(intOf iv).toNat)
  case atStart=>exact ⟨0,1,_,Nat.zero_le _,rfl,rfl,HI0⟩
  case round =>
   clear HI0
   obtain ⟨i,y,A,hi,rfl,rfl,HL⟩:=hrel
   by_cases hlt:i<cs.length
   ·have hltz:(i:Int)<(cs.length:Int):=by omega
    obtain ⟨gv,A',n',c',rfl,gl,k3,k4⟩:=HC.out.at2 hlt
    have z1:=(HL.out.bel.cell (p:=⟨gv,i,none⟩) gl).trans k3
    have hlw:=HLI.out cs[i] (List.getElem_mem hlt)
    have hI64:∀ z∈cs[i],I64 z:=fun z hz=>by have:=hlw.1 z hz;unfold I64;omega
    have hn12:n'≤10:=by have h1:=(k4.ints hI64).2.len;have h2:=hlw.2;omega
    have hln:cs[i].length=n':=(k4.ints hI64).2.len
    have hal:=(Below.refl wr.heap.size wr).alloc (Nat.le_refl _) (.cells #[.slice A' n' c'] 125)
    have hbw:=HL.out.bel.trans (hal.mono HL.out.bel.size)
    have HIN:=hide ((k4.ints hI64).2.below hbw)
    have HKB:=hide (Blk.new wr 125 #[.slice A' n' c'])
    have HSP:=hide (HL.out.sp.sp.below hal)
    have HBW:=hide hbw
    have hgd:cs.getD i []=cs[i]:=by rw [List.getD_eq_getElem?_getD,List.getElem?_eq_getElem hlt];rfl
    have HCLS:=hide (spcClauses_any S B gn gu gt gc 0 wD.heap.size wr.heap.size (n:Int) A A' n' c' cs[i] _ HSP.out (fun k hk=>HOW.out k (.inl hk)) hbw.size HIN.out HKB.out hlw.1 (by omega) (by have:=HL.out.low;omega) (by omega))
    unfold ClsQ at HCLS
    rw [←hgd,show (cs.getD i []).length=n' by rw [hgd];exact hln] at HCLS
    clear k3 k4 hal hbw hlw hI64 hgd
    go_wp2_with fail
    generalize (wr.alloc (.cells #[.slice A' n' c'] 125))=wc at HIN HKB HSP HBW HCLS ⊢
    refine HCLS.out.mono ?_
    rintro e w3 ⟨z,rfl,hst⟩
    have HAN:=hide (hst.and_ (G:=fun v=>allV (cs.take i) v) HSP.out.sp HL.out.sp.has HL.out.sp.den (by have:=HL.out.low;omega) (by omega))
    clear hst HCLS HKB HIN
    go_wp2_with fail
    refine HAN.out.mono ?_
    rintro e w4 ⟨z4,rfl,hst⟩
    obtain ⟨A4,m4,q1,q2,q3,q4⟩:=hst
    have hal:=(Below.refl w4.heap.size w4).alloc (Nat.le_refl _) (.cells #[.int .i64 z4] 3)
    have hb4:Below wD.heap.size wD w4:=HBW.out.trans (q4.to_below HBW.out.size (fun k hk hs=>by have:=HOW.out k (.inl hs);omega))
    have HQ2:=hide q2
    have HB5:=hide (hb4.trans (hal.mono hb4.size))
    have HFE:=hide (bdFree_any S B gn gu gt gc m4 (n:Int) A4 _ (some ⟨w4.heap.size,0,none⟩) 1 1 [z4] (q1.below hal) (ownI_one w4 0 (Nat.zero_le _) z4).row (fun x hx=>by rw [List.mem_singleton.1 hx];exact q2.sp.i64 q2.has) (by decide) (fun e=>by cases e))
    unfold FreeP at HFE
    clear q1 q2 q3 q4 hal hb4 HAN
    go_wp2_with fail
    generalize (w4.alloc (.cells #[.int .i64 z4] 3))=w5 at HB5 HFE ⊢
    refine HFE.out.mono ?_
    rintro e w6 ⟨⟨zf,rfl⟩,hs6,hf6⟩
    have HN:=hide (show OfL wD S B gn gu gt gc n cs (i+1) z4 (sweepA A4 [z4]) w6 from OfL.next hlt HQ2.out hs6 (HB5.out.trans (hf6.to_below HB5.out.size (fun k hk hs=>by have:=HOW.out k (.inl hs);omega))))
    clear hs6 hf6 HFE HQ2
    go_wp2_with fail
    go_round
    case rel=>exact ⟨i+1,z4,_,by omega,by go_num,rfl,HN⟩
    case measure=>simp [intOf];omega
   ·have hltz:¬(i:Int)<(cs.length:Int):=by omega
    have hfin:=HL.out
    have htk:cs.take i=cs:=List.take_of_length_le (by omega)
    have hal:=(Below.refl wr.heap.size wr).alloc (Nat.le_refl _) (.cells #[.pointer (some ⟨S,0,none⟩),.int .i64 y] 52)
    have hs7:SpcM (wr.alloc (.cells #[.pointer (some ⟨S,0,none⟩),.int .i64 y] 52)) S B gn gu gt gc n A 0 y cs:=⟨hfin.sp.sp.below hal,hfin.sp.has,by rw [←htk];exact hfin.sp.den⟩
    have hbr:Below w.heap.size w wr:=HB.out.trans (hfin.bel.mono HB.out.size)
    have HR:=hide (show SpcP n R w (.returned (.tuple #[.pointer (some ⟨wr.heap.size,0,none⟩),.nilIface])) (wr.alloc (.cells #[.pointer (some ⟨S,0,none⟩),.int .i64 y] 52)) from
     .inl ⟨h200,_,rfl,⟨⟨S,B,gn,gu,gt,gc,y,A,0,Blk.new wr _ _,by rw [HCS.out];exact hs7,fun k hk=>Nat.le_trans HB.out.size (HOW.out k hk)⟩,hbr.size⟩,hbr.trans (hal.mono hbr.size)⟩)
    clear hfin htk hal hs7 hbr HL
    go_wp2_with fail
    go_ret2
    exact HR.out
 ·have HB:=hide hb1
  clear hb1 HOF
  go_wp2_with fail
  go_ret2
  exact .inr ⟨h200,rfl,(HB.out.alloc HB.out.size _)⟩
end Go.Proofs.YtojgbcmhdnappaaGreatDoor
