/-
  A part of the proof: SpcCost, Small. Conditions: none.
-/
import Derived.Test.YtojgbcmhdnappaaGreatDoorBeRefCheap
import Derived.Test.YtojgbcmhdnappaaGreatDoorBeRulesOf
import Derived.Test.YtojgbcmhdnappaaGreatDoorBeRefItems
import Derived.Test.YtojgbcmhdnappaaGreatDoorBeEvCnt
namespace Go.Proofs.YtojgbcmhdnappaaGreatDoor
open Go.RowKit Go.Maps
set_option maxRecDepth 100000
theorem shrC (v x:Nat) (hv:v<18446744073709551616):(bits BinOp.and IntKind.u64 ((v:Int) / 2 ^ x) 1==1)=v.testBit x:=by
 rw [shrU v x hv]
 cases v.testBit x <;> rfl
def cOne:Nat→Bool→Nat:=fun _ b=>if b then 1 else 0
def cNow (now:Nat):Nat→Bool→Nat:=fun v b=>if now.testBit v==b then 0 else 1
def cTold (zs:List Int):Nat→Bool→Nat:=fun v b=>if b&&decide (v<zs.length) then (zs.getD v 0).toNat else 0
theorem cOne_le:∀ v b,cOne v b≤1000000:=fun _ b=>by unfold cOne;split <;> decide
theorem cNow_le (now:Nat):∀ v b,cNow now v b≤1000000:=fun v b=>by unfold cNow;split <;> decide
theorem cTold_le {zs:List Int} (h:∀ z∈zs,0≤z∧z≤1000000):∀ v b,cTold zs v b≤1000000:=fun v b=>by
 unfold cTold
 split
 ·rename_i hc
  rw [Bool.and_eq_true,decide_eq_true_eq] at hc
  have:=h _ (show zs.getD v 0∈zs by rw [List.getD_eq_getElem?_getD,List.getElem?_eq_getElem hc.2];exact List.getElem_mem hc.2)
  omega
 ·exact Nat.zero_le _
section
variable (w:World) (n:Nat)
theorem cost_least1:CostB w n 68 #[] cOne:=fun v b W _ _=>by
 show Calls Tryz.prog 68 #[.int .i64 (v:Int),.bool b] W _
 cases b with
 | true =>
  go_enter Tryz.func68,Tryz.ntmps68
  go_wp2
  go_ret
  exact ⟨rfl,Below.refl _ _⟩
 | false =>
  go_enter Tryz.func68,Tryz.ntmps68
  go_wp2
  go_ret
  exact ⟨rfl,Below.refl _ _⟩
theorem cost_near1 (now g:Nat) (hn:now<18446744073709551616) (h8:n≤8) (hg:g<w.heap.size) (hc:w.cell? ⟨g,0,none⟩=some (.int .u64 (now:Int))):CostB w n 69 #[.pointer (some ⟨g,0,none⟩)] (cNow now):=fun v b W hb hv=>by
 show Calls Tryz.prog 69 #[.int .i64 (v:Int),.bool b,.pointer (some ⟨g,0,none⟩)] W _
 have y0:=(hb.cell (p:=⟨g,0,none⟩) hg).trans hc
 have hmn:min v 64=v:=by omega
 have hs:=shrC now v hn
 have HR:=Lib.hid (show cNow now v b=if now.testBit v==b then 0 else 1 from rfl)
 generalize cNow now v b=r at HR ⊢
 generalize now.testBit v=tb at hs HR
 clear hc hb
 rcases tb with _ | _ <;> rcases b with _ | _
 all_goals
  go_enter Tryz.func69,Tryz.ntmps69
  go_wp2
  go_ret
  exact ⟨by rw [HR.out];rfl,Below.refl _ _⟩
theorem cost_cheap1 (zs:List Int) (g nc cc:Nat) (A:Option Addr) (hg:g<w.heap.size) (hc:w.cell? ⟨g,0,none⟩=some (.slice A nc cc)) (hz:Ints w w.heap.size A nc zs) (h0:∀ z∈zs,0≤z):CostB w n 70 #[.pointer (some ⟨g,0,none⟩)] (cTold zs):=fun v b W hb hv=>by
 show Calls Tryz.prog 70 #[.int .i64 (v:Int),.bool b,.pointer (some ⟨g,0,none⟩)] W _
 have y0:=(hb.cell (p:=⟨g,0,none⟩) hg).trans hc
 have hl:zs.length=nc:=hz.len
 cases b with
 | false =>
  have HR:=Lib.hid (show cTold zs v false=0 from rfl)
  clear hc hb hz h0
  go_enter Tryz.func70,Tryz.ntmps70
  go_wp2
  go_ret
  exact ⟨by rw [HR.out];rfl,Below.refl _ _⟩
 | true =>
  by_cases hlt:v<nc
  ·have hvz:(v:Int)<(nc:Int):=by omega
   have hp:0≤zs.getD v 0:=h0 _ (by rw [List.getD_eq_getElem?_getD,List.getElem?_eq_getElem (by omega)];exact List.getElem_mem _)
   have HR:=Lib.hid (show ((cTold zs v true:Nat):Int)=zs.getD v 0 from by unfold cTold;rw [if_pos (by rw [decide_eq_true (by omega)];rfl)];omega)
   obtain ⟨ad,rfl,_,x0⟩:=(hz.below hb).at_ hlt
   generalize zs.getD v 0=z at x0 HR
   clear hc hb hz h0 hp
   go_enter Tryz.func70,Tryz.ntmps70
   go_wp2
   go_ret
   exact ⟨by rw [HR.out];rfl,Below.refl _ _⟩
  ·have hvz:¬(v:Int)<(nc:Int):=by omega
   have HR:=Lib.hid (show cTold zs v true=0 from by unfold cTold;rw [if_neg (by rw [decide_eq_false (by omega)];decide)])
   clear hc hb hz h0
   go_enter Tryz.func70,Tryz.ntmps70
   go_wp2
   go_ret
   exact ⟨by rw [HR.out];rfl,Below.refl _ _⟩
end
theorem best_of {w w':World} {o:Option (Nat×Nat)} {e:Ending} (h:BestP o w e w'):∃ x ev,e=.returned (.tuple #[.int .u64 ((x:Nat):Int),ev])∧x=(o.getD (0,0)).2∧ev=(if o.isSome then .nilIface else .iface 41 (.int .i64 8))∧Below w.heap.size w w':=⟨_,_,h.1,rfl,rfl,h.2⟩
theorem bLeast_any (P n base:Nat) (cs:List (List Int)) (w:World) (h:SpcO w base P n cs) :
  Calls Tryz.prog 24 #[.pointer (some ⟨P,0,none⟩)] w (BestP (wayF cOne n 0 (allV cs)) w):=by
 have HF:=hide (find_any P n base 68 #[] cOne (enters_of Tryz.func68 (by kernel_rfl) rfl) cOne_le cs w h (cost_least1 w n))
 clear h
 go_enter Tryz.func24,Tryz.ntmps24
 go_wp2_with fail
 refine HF.out.mono ?_
 intro e w' hb
 obtain ⟨x,ev,rfl,rfl,h2,h3⟩:=best_of hb
 have HQ:=Lib.hid h2
 have HB:=hide h3
 clear hb h2 h3
 go_wp2
 go_ret2
 exact ⟨by rw [HQ.out];rfl,HB.out⟩
theorem bNear_any (P n base now:Nat) (cs:List (List Int)) (w:World) (h:SpcO w base P n cs) (h8:n≤8) (hn:now<18446744073709551616) :
  Calls Tryz.prog 25 #[.pointer (some ⟨P,0,none⟩),.int .u64 (now:Int)] w (BestP (wayF (cNow now) n 0 (allV cs)) w):=by
 have hal:=(Below.refl w.heap.size w).alloc (Nat.le_refl _) (.cells #[.int .u64 (now:Int)] 61)
 have hk:=Blk.new w 61 #[.int .u64 (now:Int)]
 have HF:=hide (find_any P n base 69 #[.pointer (some ⟨w.heap.size,0,none⟩)] (cNow now) (enters_of Tryz.func69 (by kernel_rfl) rfl) (cNow_le now) cs _ (h.below hal) (cost_near1 _ n now w.heap.size hn h8 hk.lt (hk.cell 0)))
 have HA:=hide hal
 clear h hal hk
 go_enter Tryz.func25,Tryz.ntmps25
 go_wp2_with fail
 refine HF.out.mono ?_
 intro e w' hb
 obtain ⟨x,ev,rfl,rfl,h2,h3⟩:=best_of hb
 have HQ:=Lib.hid h2
 have HB:=hide (HA.out.trans (h3.mono HA.out.size))
 clear hb h2 h3
 go_wp2
 go_ret2
 exact ⟨by rw [HQ.out];rfl,HB.out⟩
def costOk (z:Int):Bool:=decide (0≤z)&&decide (z≤1000000)
def CheapQ (n:Nat) (cs:List (List Int)) (zs:List Int) (w:World) (e:Ending) (w':World):Prop :=
 (zs.all costOk=true∧BestP (wayF (cTold zs) n 0 (allV cs)) w e w')∨(zs.all costOk=false∧e=.returned (.tuple #[.int .u64 0,.iface 41 (.int .i64 2)])∧Below w.heap.size w w')
theorem costOk_all {zs:List Int} (h:zs.all costOk=true):∀ z∈zs,0≤z∧z≤1000000:=fun z hz=>by
 have:=List.all_eq_true.1 h z hz
 unfold costOk at this
 rw [Bool.and_eq_true,decide_eq_true_eq,decide_eq_true_eq] at this
 exact this
theorem all_snoc {zs:List Int} {k:Nat} (h:k<zs.length):(zs.take (k+1)).all costOk=((zs.take k).all costOk&&costOk (zs.getD k 0)):=by
 rw [List.take_add_one,List.getElem?_eq_getElem h,Option.toList_some,List.all_append,List.all_cons,List.all_nil,Bool.and_true,List.getD_eq_getElem?_getD,List.getElem?_eq_getElem h]
 rfl
theorem all_not {zs:List Int} {k:Nat} (h:k<zs.length) (hb:costOk (zs.getD k 0)=false):zs.all costOk=false:=by
 rw [List.all_eq_false]
 rw [List.getD_eq_getElem?_getD,List.getElem?_eq_getElem h] at hb
 exact ⟨zs[k],List.getElem_mem h,by rw [show zs[k]=(some zs[k]).getD 0 from rfl,hb];decide⟩
set_option maxHeartbeats 2000000 in
theorem bCheap_any (P n base nc cc:Nat) (A:Option Addr) (zs:List Int) (cs:List (List Int)) (w:World) (h:SpcO w base P n cs) (hz:Ints w w.heap.size A nc zs) (hn:nc≤1000000) :
  Calls Tryz.prog 28 #[.pointer (some ⟨P,0,none⟩),.slice A nc cc] w (CheapQ n cs zs w):=by
 have hal:=(Below.refl w.heap.size w).alloc (Nat.le_refl _) (.cells #[.slice A nc cc] 31)
 have hk:=Blk.new w 31 #[.slice A nc cc]
 have hz1:=(hz.below hal).more hal.size
 have HF:=Lib.hid (fun (hok:zs.all costOk=true)=>find_any P n base 70 #[.pointer (some ⟨w.heap.size,0,none⟩)] (cTold zs) (enters_of Tryz.func70 (by kernel_rfl) rfl) (cTold_le (costOk_all hok)) cs _ (h.below hal) (cost_cheap1 _ n zs w.heap.size nc cc A hk.lt (hk.cell 0) hz1 (fun z hz=>(costOk_all hok z hz).1)))
 have HA:=hide hal
 have HZ:=hide hz1
 have hl:zs.length=nc:=hz.len
 have HK:=hide hk
 clear h hal hk hz hz1
 go_enter Tryz.func28,Tryz.ntmps28
 obtain ⟨g,HG⟩:∃ g,Hid (w.heap.size=g):=⟨_,Lib.hid rfl⟩
 go_wp2_with fail
 rw [HG.out] at HF HK ⊢
 generalize (w.alloc (.cells #[.slice A nc cc] 31))=w1 at HF HA HZ HK ⊢
 have y0:=HK.out.cell 0
 have HL:=Lib.hid hl
 clear hl
 go_wp2_with fail
 go_loopw [10] (fun iv wr=>∃ i:Nat,i≤nc∧iv=.int .i64 i∧Hid ((zs.take i).all costOk=true)∧wr=w1) (fun iv _=>nc-(intOf iv).toNat)
 case atStart=>exact ⟨0,Nat.zero_le _,rfl,Lib.hid rfl,rfl⟩
 case round =>
  obtain ⟨i,hi,rfl,HO,rfl⟩:=hrel
  by_cases hlt:i<nc
  ·have hltz:(i:Int)<(nc:Int):=by omega
   obtain ⟨ad,rfl,_,x0⟩:=HZ.out.at_ hlt
   have hil:i<zs.length:=by rw [HL.out];exact hlt
   have HST:=Lib.hid (all_snoc hil)
   have HNT:=Lib.hid (all_not hil)
   generalize zs.getD i 0=z at x0 HST HNT
   clear hil
   by_cases h0:z<0
   ·have HQ:=hide (show CheapQ n cs zs w (.returned (.tuple #[.int .u64 0,.iface 41 (.int .i64 2)])) wr from .inr ⟨HNT.out (by unfold costOk;rw [decide_eq_false (by omega)];rfl),rfl,HA.out⟩)
    clear HF HST HNT HO
    go_wp2_with fail
    go_ret2
    exact HQ.out
   ·by_cases h1:z > 1000000
    ·have HQ:=hide (show CheapQ n cs zs w (.returned (.tuple #[.int .u64 0,.iface 41 (.int .i64 2)])) wr from .inr ⟨HNT.out (by unfold costOk;rw [decide_eq_false (show ¬z≤1000000 by omega),Bool.and_false]),rfl,HA.out⟩)
     clear HF HST HNT HO
     go_wp2_with fail
     go_ret2
     exact HQ.out
    ·have HO2:=Lib.hid (show (zs.take (i+1)).all costOk=true by rw [HST.out,HO.out];unfold costOk;rw [decide_eq_true (show 0≤z by omega),decide_eq_true (show z≤1000000 by omega)];rfl)
     clear HF HST HNT HO
     go_wp2_with fail
     go_round
     case rel=>exact ⟨i+1,by omega,by go_num,HO2,trivial⟩
     case measure=>simp [intOf];omega
  ·have hltz:¬(i:Int)<(nc:Int):=by omega
   have htk:zs.take i=zs:=List.take_of_length_le (by have:=HL.out;omega)
   have hok:zs.all costOk=true:=by rw [←htk];exact HO.out
   have HF2:=hide (HF.out hok)
   have HOK:=Lib.hid hok
   clear htk hok HF HO
   go_wp2_with fail
   refine HF2.out.mono ?_
   intro e w' hb
   obtain ⟨x,ev,rfl,rfl,h2,h3⟩:=best_of hb
   have HQ:=Lib.hid h2
   have HB:=hide (HA.out.trans (h3.mono HA.out.size))
   clear hb h2 h3
   go_wp2
   go_ret2
   exact .inl ⟨HOK.out,by rw [HQ.out];rfl,HB.out⟩
end Go.Proofs.YtojgbcmhdnappaaGreatDoor
namespace Go.Proofs.YtojgbcmhdnappaaGreatDoor
open Go.RowKit
set_option maxRecDepth 100000
theorem LitsIn.right {n:Nat} {z:List Int} (h:LitsIn n z) (hn:n≤24):rightB z=true:=by
 unfold rightB
 rw [Bool.and_eq_true,List.all_eq_true]
 refine ⟨fun x hx=>?_,decide_eq_true (by have:=h.2;omega)⟩
 have:=h.1 x hx
 unfold badB
 simp
 omega
def SmallP (R:List RuR) (n most:Nat) (w:World) (e:Ending) (w':World):Prop :=
 ∃ A c,e=.returned (.tuple #[.slice A R.length c,.int .i64 (n:Int),.bool (decide (R.length≤200)&&decide (n≤most))])∧ClK w' w.heap.size (.slice A R.length c) (R.map (·.1))∧Below w.heap.size w w'
set_option maxHeartbeats 2000000 in
theorem small_any (v:Value) (qs:List LnQ) (its0:List ItR) (most:Nat) (w:World) (h:LnsR w 0 v qs) (hc:catR (qs.map (·.1))=.inr its0) :
  Calls Tryz.prog 8 #[v,.int .i64 (most:Int)] w (SmallP (rulesF (itemsF (qs.map (·.1))) (qs.map (·.1))) (itemsF (qs.map (·.1))).length most w):=by
 have hq100:qs.length≤100:=by have:=(catR_ok hc).2.2.2.1;simpa using this
 have HRR:=hide (refRules_any v qs its0 w h hc)
 have HIT:=Lib.hid (fun W (h:LnsR W 0 v qs)=>refItems_any v qs W h (by omega))
 have HL:=hide h
 unfold ItsP at HIT
 unfold RefRuP at HRR
 generalize itemsF (qs.map (·.1))=its at HRR HIT ⊢
 generalize rulesF its (qs.map (·.1))=R at HRR ⊢
 obtain ⟨Av,cv,rfl,_⟩:=h.1.len
 clear h hc
 go_enter Tryz.func8,Tryz.ntmps8
 go_wp2_with fail
 refine HRR.out.mono ?_
 rintro e w2 ⟨v2,v3,rfl,hr2,hb2⟩
 have hck:=hr2.cl
 obtain ⟨A2,c2,rfl⟩:=hck.len
 rw [List.length_map] at hck ⊢
 have HCK:=hide hck
 have HB2:=hide hb2
 have HI:=hide (HIT.out w2 (HL.out.below hb2))
 clear hr2 hb2 hck HRR HIT HL
 go_wp2_with fail
 refine HI.out.mono ?_
 rintro e w3 ⟨vi,rfl,ho,hb3⟩
 obtain ⟨Ai,ci,rfl,_⟩:=ho.len
 have HB3:=hide (HB2.out.trans (hb3.mono HB2.out.size))
 have HC3:=hide (HCK.out.below hb3)
 clear ho hb3 HI HB2 HCK
 by_cases h200:R.length≤200
 ·have hd:decide ((R.length:Int)≤200)=true:=decide_eq_true (by omega)
  have hd2:decide (R.length≤200)=true:=decide_eq_true h200
  have hd3:decide ((its.length:Int)≤(most:Int))=decide (its.length≤most):=decide_eq_decide.2 (by omega)
  go_wp2_with fail
  exact bodyPost_ret (v:=.tuple #[.slice A2 R.length c2,.int .i64 (its.length:Int),.bool (decide (its.length≤most))]) (by simp [results,Tryz.results8,go_sem]) rfl ⟨A2,c2,by rw [hd2,Bool.true_and],HC3.out,HB3.out⟩
 ·have hd:decide ((R.length:Int)≤200)=false:=decide_eq_false (by omega)
  have hd2:decide (R.length≤200)=false:=decide_eq_false h200
  go_wp2_with fail
  exact bodyPost_ret (v:=.tuple #[.slice A2 R.length c2,.int .i64 (its.length:Int),.bool false]) (by simp [results,Tryz.results8,go_sem]) rfl ⟨A2,c2,by rw [hd2,Bool.false_and],HC3.out,HB3.out⟩
end Go.Proofs.YtojgbcmhdnappaaGreatDoor
