/-
  A part of the proof: CatAm, Says. Conditions: none.
-/
import Derived.Test.YtojgbcmhdnappaaGreatDoorAlCatNew
import Derived.Test.YtojgbcmhdnappaaGreatDoorAlReaPure
import Derived.Laws.Bits64b
import Derived.Test.YtojgbcmhdnappaaGreatDoorAlRefItems
import Derived.Deep.Cut
namespace Go.Proofs.YtojgbcmhdnappaaGreatDoor
open Go.RowKit
open Classical
set_option maxRecDepth 100000
theorem catItems_any (g base:Nat) (qs:List LnQ) (w:World) (h:CatO w base g qs) (hl:(itemsF (qs.map (·.1))).length≤1000000):Calls Tryz.prog 96 #[.pointer (some ⟨g,0,none⟩)] w (CloneK elJ (itemsF (qs.map (·.1))) w):=by
 obtain ⟨vl,vi,h1,h2,h3⟩:=h.is
 have HC:=hide (cloneIt_any vi (itemsF (qs.map (·.1))) w (h3.mono (Nat.zero_le _)) hl)
 have y:=h1.cell 1
 obtain ⟨A,c,rfl,_⟩:=h3.len
 clear h h1 h2 h3
 go_enter Tryz.func96,Tryz.ntmps96
 go_wp2_with fail
 refine HC.out.mono ?_
 rintro e w1 ⟨v,rfl,ho,hb⟩
 have HO:=hide ho
 have HB:=hide hb
 clear ho hb HC
 go_wp2_with fail
 exact bodyPost_ret (v:=v) (by simp [results,Tryz.results96,go_sem]) rfl ⟨v,rfl,HO.out,HB.out⟩
def CatLinesP (qs:List LnQ) (w:World) (e:Ending) (w':World):Prop:=∃ v,e=.returned v∧LnsP w' w.heap.size v qs∧Below w.heap.size w w'
theorem catLines_any (g base:Nat) (qs:List LnQ) (w:World) (h:CatO w base g qs) (hl:qs.length≤1000000):Calls Tryz.prog 81 #[.pointer (some ⟨g,0,none⟩)] w (CatLinesP qs w):=by
 obtain ⟨vl,vi,h1,h2,h3⟩:=h.is
 have HC:=hide (cloneLn_any vl qs w (h2.1.mono (Nat.zero_le _)) hl)
 have HL:=hide h2
 have y:=h1.cell 0
 obtain ⟨A,c,rfl,_⟩:=h2.1.len
 clear h h1 h2 h3
 go_enter Tryz.func81,Tryz.ntmps81
 go_wp2_with fail
 refine HC.out.mono ?_
 rintro e w1 ⟨v,rfl,ho,hb⟩
 have HO:=hide (show LnsP w1 w.heap.size v qs from ⟨ho,fun q hq=>⟨(HL.out.2 q hq).1.below hb,(HL.out.2 q hq).2⟩⟩)
 have HB:=hide hb
 clear ho hb HC
 go_wp2_with fail
 exact bodyPost_ret (v:=v) (by simp [results,Tryz.results81,go_sem]) rfl ⟨v,rfl,HO.out,HB.out⟩
end Go.Proofs.YtojgbcmhdnappaaGreatDoor
namespace Go.Proofs.YtojgbcmhdnappaaGreatDoor
open Go.RowKit
open Classical
set_option maxRecDepth 100000
def AmP (nm:ByteArray) (rg:List (Nat×Nat)) (its:List ItR) (w:World) (e:Ending) (w':World):Prop:=∃ v,e=.returned v∧OwnI w' w.heap.size v (amF nm rg its 0)∧Below w.heap.size w w'
theorem amF_step {nm:ByteArray} {rg:List (Nat×Nat)} {its:List ItR} {out:List Int} {i:Nat} (h:i<its.length) (hp:out++amF nm rg (its.drop i) i=amF nm rg its 0) :
  (its[i].1=nm∧hasB rg (itV its[i])=true→(out++[(i:Int)])++amF nm rg (its.drop (i+1)) (i+1)=amF nm rg its 0)∧(¬(its[i].1=nm∧hasB rg (itV its[i])=true)→out++amF nm rg (its.drop (i+1)) (i+1)=amF nm rg its 0):=by
 rw [List.drop_eq_getElem_cons h] at hp
 rw [show amF nm rg (its[i] :: its.drop (i+1)) i=if its[i].1=nm∧hasB rg (itV its[i])=true then (i:Int) :: amF nm rg (its.drop (i+1)) (i+1) else amF nm rg (its.drop (i+1)) (i+1) from rfl] at hp
 refine ⟨fun hc=>?_,fun hc=>?_⟩
 ·rw [if_pos hc] at hp
  rw [←hp,List.append_assoc]
  rfl
 ·rw [if_neg hc] at hp
  exact hp
set_option maxHeartbeats 4000000 in
theorem catAm_any (g base:Nat) (qs:List LnQ) (nm:ByteArray) (rv:Value) (rg:List (Nat×Nat)) (w:World) (h:CatO w base g qs) (hr:OwnP w 0 rv rg) (hrl:rg.length≤1000000000) (hl:(itemsF (qs.map (·.1))).length≤1000000) :
  Calls Tryz.prog 99 #[.pointer (some ⟨g,0,none⟩),.string nm,.agg #[rv]] w (AmP nm rg (itemsF (qs.map (·.1))) w):=by
 have hal:=(Below.refl w.heap.size w).alloc (Nat.le_refl _) (.cells #[rv] 88)
 have HB:=hide hal
 have HCI:=hide (catItems_any g base qs (w.alloc (.cells #[rv] 88)) (h.below hal) hl)
 have HK:=hide (Blk.new w 88 #[rv])
 have HR:=hide (hr.below hal)
 obtain ⟨Ar,cr,rfl⟩:=hr.len
 clear h hr hal
 generalize itemsF (qs.map (·.1))=its at HCI hl ⊢
 go_enter Tryz.func99,Tryz.ntmps99
 go_wp2_with fail
 refine HCI.out.mono ?_
 rintro e w1 ⟨v,rfl,ho,hb1⟩
 have HB1:=hide (HB.out.trans (hb1.mono HB.out.size))
 have HK1:=hide (HK.out.below hb1 HK.out.lt)
 have HR1:=hide (HR.out.below hb1)
 have HO:=hide ho
 clear HB HK HR HCI ho hb1
 obtain ⟨Ai,ci,rfl,_⟩:=HO.out.len
 generalize w.heap.size=bx at HK1 ⊢
 go_wp2_with fail
 go_loopw [7,13] (fun v7 iv wr=>∃ (i:Nat) (out:List Int),i≤its.length∧iv=.int .i64 i∧Hid (OwnI wr w1.heap.size v7 out)∧Hid (out++amF nm rg (its.drop i) i=amF nm rg its 0)∧Hid (Below w1.heap.size w1 wr)∧out.length≤i) (fun _ iv _=>its.length-(intOf iv).toNat)
 case atStart=>exact ⟨0,[],Nat.zero_le _,rfl,hide (ownI_nil _ _),Lib.hid rfl,hide (Below.refl _ _),Nat.le_refl _⟩
 case round =>
  obtain ⟨i,out,hi,rfl,HOU,HP,HW,hol⟩:=hrel
  by_cases hlt:i<its.length
  ·have hltz:(i:Int)<(its.length:Int):=by omega
   obtain ⟨gi,rfl,hrow⟩:=(HO.out.below HW.out).rowAt hlt
   obtain ⟨y0,y1,y2,y3⟩:=row4 rfl rfl hrow hlt
   obtain ⟨hh,hm⟩:=amF_step hlt HP.out
   clear hrow
   generalize its[i]=y at y0 y1 y2 y3 hh hm
   obtain ⟨yn,ya,yb,yc⟩:=y
   simp only [] at y0 y1 y2 y3
   have HIT:=hide (HW.out.alloc HW.out.size (.cells #[.string yn,.int .i64 ya,.int .i64 yb,.int .i64 yc] 194))
   have hal:=(Below.refl wr.heap.size wr).alloc (Nat.le_refl _) (.cells #[.string yn,.int .i64 ya,.int .i64 yb,.int .i64 yc] 194)
   have HOU2:=hide (HOU.out.below hal)
   have kx:=(HK1.out.below (HW.out.trans (hal.mono HW.out.size)) HK1.out.lt).cell 0
   have HHA:=hide (has_any (.slice Ar rg.length cr) rg (itV (yn,ya,yb,yc)) (wr.alloc (.cells #[.string yn,.int .i64 ya,.int .i64 yb,.int .i64 yc] 194)) (HR1.out.below (HW.out.trans (hal.mono HW.out.size))) hrl)
   rw [itV_arr] at HHA
   by_cases hn:yn=nm
   ·subst hn
    have HM:=Lib.hid hm
    have HH:=Lib.hid hh
    clear hh hm hal
    go_wp2_with fail
    refine HHA.out.mono ?_
    rintro e w2 ⟨rfl,hb2⟩
    have HHI:=hide (HIT.out.trans (hb2.mono HIT.out.size))
    have HOU3:=hide (HOU2.out.below hb2)
    clear HHA hb2 HIT HOU2
    cases hb:hasB rg (itV (yn,ya,yb,yc)) with
    | false =>
     have HN:=Lib.hid (HM.out (fun e=>by have:=e.2;rw [hb] at this;cases this))
     clear hb
     go_wp2_with fail
     go_round
     case rel=>exact ⟨i+1,out,by omega,by go_num,HOU3,HN,HHI,by omega⟩
     case measure=>simp [intOf];omega
    | true =>
     have HN:=Lib.hid (HH.out (by first | exact ⟨rfl,hb⟩ | exact ⟨trivial,hb⟩ | exact hb))
     clear hb
     have HSZ:=Lib.hid (show w1.heap.size≤w2.heap.size+1 from Nat.le_trans HHI.out.size (by simp))
     have HOA:=hide (HOU3.out.below ((Below.refl w2.heap.size w2).alloc (Nat.le_refl _) (.cells #[.int .i64 (i:Int)] 3)))
     have HBA:=hide (HHI.out.alloc HHI.out.size (.cells #[.int .i64 (i:Int)] 3))
     have HRA:=hide (blk_reads (zs:=[(i:Int)]) (Blk.new w2 3 #[.int .i64 (i:Int)]))
     have hol2:out.length+1≤10000000000:=by omega
     have HOL:=Lib.hid hol2
     go_wp2_with (at_builtin;refine appI _ rfl _ _ _ rfl w1.heap.size Tryz.underlying31 _ out rfl HOA.out (w2.heap.size+1) (some ⟨w2.heap.size,0,none⟩) 1 1 [(i:Int)] rfl HRA.out rfl HOL.out HBA.out.size ?_;intro v9 w9 ho9 hg9 _;have HO9:=hide ho9;have HB9:=hide (HBA.out.grown hg9 HBA.out.size (fun k hk=>(World.ownsRow.lt HOA.out k hk).1));clear ho9 hg9)
     go_round
     case rel=>exact ⟨i+1,out++[(i:Int)],by omega,by go_num,HO9,HN,HB9,by simp;omega⟩
     case measure=>simp [intOf];omega
   ·have HN:=Lib.hid (hm (fun e=>hn e.1))
    clear hh hm hal
    have hnb:(yn.toList==nm.toList)=false:=beq_eq_false_iff_ne.2 fun e=>hn (by
     rw [ByteArray.toList_eq,ByteArray.toList_eq] at e
     exact ByteArray.ext (Array.ext' e))
    go_wp2_with fail
    go_round
    case rel=>exact ⟨i+1,out,by omega,by go_num,HOU2,HN,HIT,by omega⟩
    case measure=>simp [intOf];omega
  ·have hltz:¬(i:Int)<(its.length:Int):=by omega
   have hie:its.drop i=[]:=List.drop_eq_nil_of_le (by omega)
   have hfin:=HP.out
   rw [hie,show amF nm rg [] i=[] from rfl,List.append_nil] at hfin
   subst hfin
   have HV:=hide (HOU.out.mono HB1.out.size)
   have HE:=hide (HB1.out.trans (HW.out.mono HB1.out.size))
   go_wp2_with fail
   exact bodyPost_ret (v:=u7) (by simp [results,Tryz.results99,go_sem]) rfl ⟨u7,rfl,HV.out,HE.out⟩
end Go.Proofs.YtojgbcmhdnappaaGreatDoor
namespace Go.Proofs.YtojgbcmhdnappaaGreatDoor
open Go.RowKit
open Classical
set_option maxRecDepth 100000
set_option maxHeartbeats 4000000 in
theorem refAm_any (v:Value) (its:List ItR) (nm:ByteArray) (rv:Value) (rg:List (Nat×Nat)) (w:World) (h:OwnK elI w 0 v its) (hr:OwnI w 0 rv (flatI rg)) (hrl:CanF 0 rg) (hl:its.length≤1000000) :
  Calls Tryz.prog 94 #[v,.string nm,rv] w (AmP nm rg its w):=by
 have HR1:=hide hr
 have HRL:=Lib.hid hrl
 have HO:=hide h
 obtain ⟨Ai,ci,rfl,_⟩:=HO.out.len
 clear h hr hrl
 go_enter Tryz.func94,Tryz.ntmps94
 go_wp2_with fail
 go_loopw [7,12] (fun v7 iv wr=>∃ (i:Nat) (out:List Int),i≤its.length∧iv=.int .i64 i∧Hid (OwnI wr w.heap.size v7 out)∧Hid (out++amF nm rg (its.drop i) i=amF nm rg its 0)∧Hid (Below w.heap.size w wr)∧out.length≤i) (fun _ iv _=>its.length-(intOf iv).toNat)
 case atStart=>exact ⟨0,[],Nat.zero_le _,rfl,hide (ownI_nil _ _),Lib.hid rfl,hide (Below.refl _ _),Nat.le_refl _⟩
 case round =>
  obtain ⟨i,out,hi,rfl,HOU,HP,HW,hol⟩:=hrel
  by_cases hlt:i<its.length
  ·have hltz:(i:Int)<(its.length:Int):=by omega
   obtain ⟨gi,rfl,hrow⟩:=(HO.out.below HW.out).rowAt hlt
   obtain ⟨y0,y1,y2,y3⟩:=row4 rfl rfl hrow hlt
   obtain ⟨hh,hm⟩:=amF_step hlt HP.out
   clear hrow
   generalize its[i]=y at y0 y1 y2 y3 hh hm
   obtain ⟨yn,ya,yb,yc⟩:=y
   simp only [] at y0 y1 y2 y3
   have HIT:=hide (HW.out.alloc HW.out.size (.cells #[.string yn,.int .i64 ya,.int .i64 yb,.int .i64 yc] 162))
   have hal:=(Below.refl wr.heap.size wr).alloc (Nat.le_refl _) (.cells #[.string yn,.int .i64 ya,.int .i64 yb,.int .i64 yc] 162)
   have HOU2:=hide (HOU.out.below hal)
   have HHA:=hide (refHas_any rv rg (itV (yn,ya,yb,yc)) (wr.alloc (.cells #[.string yn,.int .i64 ya,.int .i64 yb,.int .i64 yc] 162)) (HR1.out.below (HW.out.trans (hal.mono HW.out.size))) HRL.out)
   rw [itV_arr] at HHA
   by_cases hn:yn=nm
   ·subst hn
    have HM:=Lib.hid hm
    have HH:=Lib.hid hh
    clear hh hm hal
    go_wp2_with fail
    refine HHA.out.mono ?_
    rintro e w2 ⟨rfl,hb2⟩
    have HHI:=hide (HIT.out.trans (hb2.mono HIT.out.size))
    have HOU3:=hide (HOU2.out.below hb2)
    clear HHA hb2 HIT HOU2
    cases hb:hasB rg (itV (yn,ya,yb,yc)) with
    | false =>
     have HN:=Lib.hid (HM.out (fun e=>by have:=e.2;rw [hb] at this;cases this))
     clear hb
     go_wp2_with fail
     go_round
     case rel=>exact ⟨i+1,out,by omega,by go_num,HOU3,HN,HHI,by omega⟩
     case measure=>simp [intOf];omega
    | true =>
     have HN:=Lib.hid (HH.out (by first | exact ⟨rfl,hb⟩ | exact ⟨trivial,hb⟩ | exact hb))
     clear hb
     have HSZ:=Lib.hid (show w.heap.size≤w2.heap.size+1 from Nat.le_trans HHI.out.size (by simp))
     have HOA:=hide (HOU3.out.below ((Below.refl w2.heap.size w2).alloc (Nat.le_refl _) (.cells #[.int .i64 (i:Int)] 3)))
     have HBA:=hide (HHI.out.alloc HHI.out.size (.cells #[.int .i64 (i:Int)] 3))
     have HRA:=hide (blk_reads (zs:=[(i:Int)]) (Blk.new w2 3 #[.int .i64 (i:Int)]))
     have hol2:out.length+1≤10000000000:=by omega
     have HOL:=Lib.hid hol2
     go_wp2_with (at_builtin;refine appI _ rfl _ _ _ rfl w.heap.size Tryz.underlying31 _ out rfl HOA.out (w2.heap.size+1) (some ⟨w2.heap.size,0,none⟩) 1 1 [(i:Int)] rfl HRA.out rfl HOL.out HBA.out.size ?_;intro v9 w9 ho9 hg9 _;have HO9:=hide ho9;have HB9:=hide (HBA.out.grown hg9 HBA.out.size (fun k hk=>(World.ownsRow.lt HOA.out k hk).1));clear ho9 hg9)
     go_round
     case rel=>exact ⟨i+1,out++[(i:Int)],by omega,by go_num,HO9,HN,HB9,by simp;omega⟩
     case measure=>simp [intOf];omega
   ·have HN:=Lib.hid (hm (fun e=>hn e.1))
    clear hh hm hal
    have hnb:(yn.toList==nm.toList)=false:=beq_eq_false_iff_ne.2 fun e=>hn (by
     rw [ByteArray.toList_eq,ByteArray.toList_eq] at e
     exact ByteArray.ext (Array.ext' e))
    go_wp2_with fail
    go_round
    case rel=>exact ⟨i+1,out,by omega,by go_num,HOU2,HN,HIT,by omega⟩
    case measure=>simp [intOf];omega
  ·have hltz:¬(i:Int)<(its.length:Int):=by omega
   have hie:its.drop i=[]:=List.drop_eq_nil_of_le (by omega)
   have hfin:=HP.out
   rw [hie,show amF nm rg [] i=[] from rfl,List.append_nil] at hfin
   subst hfin
   have HV:=hide HOU.out
   have HE:=hide (HW.out)
   go_wp2_with fail
   exact bodyPost_ret (v:=u7) (by simp [results,Tryz.results94,go_sem]) rfl ⟨u7,rfl,HV.out,HE.out⟩
end Go.Proofs.YtojgbcmhdnappaaGreatDoor
namespace Go.Proofs.YtojgbcmhdnappaaGreatDoor
open Go.RowKit
set_option maxRecDepth 100000
end Go.Proofs.YtojgbcmhdnappaaGreatDoor
namespace Go.Proofs.YtojgbcmhdnappaaGreatDoor
open Go.RowKit
open Classical
set_option maxRecDepth 100000
def natI (l:List Nat):List Int:=l.map fun n:Nat=>(n:Int)
theorem natI_snoc (l:List Nat) (n:Nat):natI (l++[n])=natI l++[(n:Int)]:=by unfold natI;rw [List.map_append];rfl
theorem natI_len (l:List Nat):(natI l).length=l.length:=by unfold natI;rw [List.length_map]
def SaysP (ls:List LnR) (w:World) (e:Ending) (w':World):Prop:=∃ v,e=.returned v∧OwnI w' w.heap.size v (natI (saysF ls 0))∧Below w.heap.size w w'
set_option maxHeartbeats 4000000 in
theorem refSays_any (v:Value) (qs:List LnQ) (w:World) (h:LnsR w 0 v qs) (hl:qs.length≤1000000):Calls Tryz.prog 49 #[v] w (SaysP (qs.map (·.1)) w):=by
 have HO:=hide h.1
 obtain ⟨A,c,rfl,_⟩:=HO.out.len
 clear h
 go_enter Tryz.func49,Tryz.ntmps49
 go_wp2_with fail
 go_loopw [3,8] (fun v3 iv wr=>∃ i:Nat,i≤qs.length∧iv=.int .i64 i∧Hid (OwnI wr w.heap.size v3 (natI (saysF ((qs.map (·.1)).take i) 0)))∧Hid (Below w.heap.size w wr)) (fun _ iv _=>qs.length-(intOf iv).toNat)
 case atStart=>exact ⟨0,Nat.zero_le _,rfl,hide (ownI_nil _ _),hide (Below.refl _ _)⟩
 case round =>
  obtain ⟨i,hi,rfl,HOU,HW⟩:=hrel
  by_cases hlt:i<qs.length
  ·have hltz:(i:Int)<(qs.length:Int):=by omega
   obtain ⟨gq,rfl,hrow⟩:=(HO.out.below HW.out).rowAt hlt
   obtain ⟨y0,y1,y2,y3,y4,y5,y6⟩:=row7 rfl rfl hrow hlt
   have hst:=saysF_take (l:=qs.map (·.1)) (j:=i) (by simpa using hlt)
   rw [List.getElem_map] at hst
   clear hrow
   generalize qs[i]=q at y0 y1 y2 y3 y4 y5 y6 hst
   obtain ⟨x,Aq,nq,cq⟩:=q
   simp only [] at y0 y1 y2 y3 y4 y5 y6 hst
   have hal:=(Below.refl wr.heap.size wr).alloc (Nat.le_refl _) (.cells #[.int .i64 x.k,.string x.name,.int .i64 (x.ver 0),.int .i64 (x.ver 1),.int .i64 (x.ver 2),.string x.other,.slice Aq nq cq] 34)
   have HO0:=hide (HOU.out.below hal)
   have HB0:=hide (HW.out.trans (hal.mono HW.out.size))
   by_cases hk:x.k=1
   ·have hk0:(x.k==1)=true:=by rw [hk];rfl
    have hk1:(x.k != 1)=false:=by rw [hk];rfl
    rw [if_pos hk] at hst
    have HN:=hide (show OwnI _ w.heap.size u3 (natI (saysF ((qs.map (·.1)).take (i+1)) 0)) by rw [hst];exact HO0.out)
    clear hk hal HOU HO0 hst
    go_wp2_with fail
    go_round
    case rel=>exact ⟨i+1,by omega,by go_num,HN,HB0⟩
    case measure=>simp [intOf];omega
   ·have hk0:(x.k==1)=false:=beq_eq_false_iff_ne.2 hk
    have hk1:(x.k != 1)=true:=by simpa using hk
    rw [if_neg hk] at hst
    have hsl:(saysF ((qs.map (·.1)).take i) 0).length≤i:=Nat.le_trans (saysF_len _ _) (by rw [List.length_take];exact Nat.min_le_left _ _)
    have HST:=Lib.hid (show natI (saysF ((qs.map (·.1)).take (i+1)) 0)=natI (saysF ((qs.map (·.1)).take i) 0)++[(i:Int)] by rw [hst,natI_snoc])
    have hol:(natI (saysF ((qs.map (·.1)).take i) 0)).length+1≤10000000000:=by rw [natI_len];omega
    have HOL:=Lib.hid hol
    clear hk hal HOU hst hsl hol
    generalize natI (saysF ((qs.map (·.1)).take i) 0)=out at HO0 HST HOL
    generalize hWA:World.alloc wr (.cells #[.int .i64 x.k,.string x.name,.int .i64 (x.ver 0),.int .i64 (x.ver 1),.int .i64 (x.ver 2),.string x.other,.slice Aq nq cq] 34)=wa at HO0 HB0
    have HWA:=Lib.hid hWA
    have HOA:=hide (HO0.out.below ((Below.refl wa.heap.size wa).alloc (Nat.le_refl _) (.cells #[.int .i64 (i:Int)] 3)))
    have HBA:=hide (HB0.out.alloc HB0.out.size (.cells #[.int .i64 (i:Int)] 3))
    have HRA:=hide (blk_reads (zs:=[(i:Int)]) (Blk.new wa 3 #[.int .i64 (i:Int)]))
    clear hWA
    go_upto_region 6 with fail
    rw [HWA.out]
    go_wp2_with (at_builtin;refine appI _ rfl _ _ _ rfl w.heap.size Tryz.underlying31 _ out rfl HOA.out (wa.heap.size+1) (some ⟨wa.heap.size,0,none⟩) 1 1 [(i:Int)] rfl HRA.out rfl HOL.out HBA.out.size ?_;intro v9 w9 ho9 hg9 _;have HO9:=hide ho9;have HB9:=hide (HBA.out.grown hg9 HBA.out.size (fun k hk=>(World.ownsRow.lt HOA.out k hk).1));clear ho9 hg9)
    go_round
    case rel=>exact ⟨i+1,by omega,by go_num,hide (by rw [HST.out];exact HO9.out),HB9⟩
    case measure=>simp [intOf];omega
  ·have hltz:¬(i:Int)<(qs.length:Int):=by omega
   have hte:(qs.map (·.1)).take i=qs.map (·.1):=List.take_of_length_le (by rw [List.length_map];omega)
   have HV:=hide (show OwnI wr w.heap.size u3 (natI (saysF (qs.map (·.1)) 0)) from by rw [←hte];exact HOU.out)
   have HE:=hide (HW.out)
   clear HOU HW hte
   go_wp2_with fail
   exact bodyPost_ret (v:=u3) (by simp [results,Tryz.results49,go_sem]) rfl ⟨u3,rfl,HV.out,HE.out⟩
set_option maxHeartbeats 4000000 in
theorem reaLines_any (g base:Nat) (qs:List LnQ) (w:World) (h:CatO w base g qs) (hl:qs.length≤1000000):Calls Tryz.prog 47 #[.pointer (some ⟨g,0,none⟩)] w (SaysP (qs.map (·.1)) w):=by
 have HC:=hide (catLines_any g base qs w h hl)
 clear h
 go_enter Tryz.func47,Tryz.ntmps47
 go_wp2_with fail
 refine HC.out.mono ?_
 rintro e w1 ⟨v,rfl,ho,hb⟩
 have HO:=hide (ho.1.mono (Nat.zero_le _))
 have HB1:=hide hb
 clear ho hb HC
 obtain ⟨A,c,rfl,_⟩:=HO.out.len
 go_wp2_with fail
 go_loopw [3,9] (fun v3 iv wr=>∃ i:Nat,i≤qs.length∧iv=.int .i64 i∧Hid (OwnI wr w1.heap.size v3 (natI (saysF ((qs.map (·.1)).take i) 0)))∧Hid (Below w1.heap.size w1 wr)) (fun _ iv _=>qs.length-(intOf iv).toNat)
 case atStart=>exact ⟨0,Nat.zero_le _,rfl,hide (ownI_nil _ _),hide (Below.refl _ _)⟩
 case round =>
  obtain ⟨i,hi,rfl,HOU,HW⟩:=hrel
  by_cases hlt:i<qs.length
  ·have hltz:(i:Int)<(qs.length:Int):=by omega
   obtain ⟨gq,rfl,hrow⟩:=(HO.out.below HW.out).rowAt hlt
   obtain ⟨y0,y1,y2,y3,y4,y5,y6⟩:=row7 rfl rfl hrow hlt
   have hst:=saysF_take (l:=qs.map (·.1)) (j:=i) (by simpa using hlt)
   rw [List.getElem_map] at hst
   clear hrow
   generalize qs[i]=q at y0 y1 y2 y3 y4 y5 y6 hst
   obtain ⟨x,Aq,nq,cq⟩:=q
   simp only [] at y0 y1 y2 y3 y4 y5 y6 hst
   have hal:=(Below.refl wr.heap.size wr).alloc (Nat.le_refl _) (.cells #[.int .i64 x.k,.string x.name,.int .i64 (x.ver 0),.int .i64 (x.ver 1),.int .i64 (x.ver 2),.string x.other,.slice Aq nq cq] 90)
   have HO0:=hide (HOU.out.below hal)
   have HB0:=hide (HW.out.trans (hal.mono HW.out.size))
   by_cases hk:x.k=1
   ·have hk0:(x.k==1)=true:=by rw [hk];rfl
    have hk1:(x.k != 1)=false:=by rw [hk];rfl
    rw [if_pos hk] at hst
    have HN:=hide (show OwnI _ w1.heap.size u3 (natI (saysF ((qs.map (·.1)).take (i+1)) 0)) by rw [hst];exact HO0.out)
    clear hk hal HOU HO0 hst
    go_wp2_with fail
    go_round
    case rel=>exact ⟨i+1,by omega,by go_num,HN,HB0⟩
    case measure=>simp [intOf];omega
   ·have hk0:(x.k==1)=false:=beq_eq_false_iff_ne.2 hk
    have hk1:(x.k != 1)=true:=by simpa using hk
    rw [if_neg hk] at hst
    have hsl:(saysF ((qs.map (·.1)).take i) 0).length≤i:=Nat.le_trans (saysF_len _ _) (by rw [List.length_take];exact Nat.min_le_left _ _)
    have HST:=Lib.hid (show natI (saysF ((qs.map (·.1)).take (i+1)) 0)=natI (saysF ((qs.map (·.1)).take i) 0)++[(i:Int)] by rw [hst,natI_snoc])
    have hol:(natI (saysF ((qs.map (·.1)).take i) 0)).length+1≤10000000000:=by rw [natI_len];omega
    have HOL:=Lib.hid hol
    clear hk hal HOU hst hsl hol
    generalize natI (saysF ((qs.map (·.1)).take i) 0)=out at HO0 HST HOL
    generalize hWA:World.alloc wr (.cells #[.int .i64 x.k,.string x.name,.int .i64 (x.ver 0),.int .i64 (x.ver 1),.int .i64 (x.ver 2),.string x.other,.slice Aq nq cq] 90)=wa at HO0 HB0
    have HWA:=Lib.hid hWA
    have HOA:=hide (HO0.out.below ((Below.refl wa.heap.size wa).alloc (Nat.le_refl _) (.cells #[.int .i64 (i:Int)] 3)))
    have HBA:=hide (HB0.out.alloc HB0.out.size (.cells #[.int .i64 (i:Int)] 3))
    have HRA:=hide (blk_reads (zs:=[(i:Int)]) (Blk.new wa 3 #[.int .i64 (i:Int)]))
    clear hWA
    go_upto_region 6 with fail
    rw [HWA.out]
    go_wp2_with (at_builtin;refine appI _ rfl _ _ _ rfl w1.heap.size Tryz.underlying31 _ out rfl HOA.out (wa.heap.size+1) (some ⟨wa.heap.size,0,none⟩) 1 1 [(i:Int)] rfl HRA.out rfl HOL.out HBA.out.size ?_;intro v9 w9 ho9 hg9 _;have HO9:=hide ho9;have HB9:=hide (HBA.out.grown hg9 HBA.out.size (fun k hk=>(World.ownsRow.lt HOA.out k hk).1));clear ho9 hg9)
    go_round
    case rel=>exact ⟨i+1,by omega,by go_num,hide (by rw [HST.out];exact HO9.out),HB9⟩
    case measure=>simp [intOf];omega
  ·have hltz:¬(i:Int)<(qs.length:Int):=by omega
   have hte:(qs.map (·.1)).take i=qs.map (·.1):=List.take_of_length_le (by rw [List.length_map];omega)
   have HV:=hide (show OwnI wr w.heap.size u3 (natI (saysF (qs.map (·.1)) 0)) from by rw [←hte];exact HOU.out.mono HB1.out.size)
   have HE:=hide (HB1.out.trans (HW.out.mono HB1.out.size))
   clear HOU HW hte
   go_wp2_with fail
   exact bodyPost_ret (v:=u3) (by simp [results,Tryz.results47,go_sem]) rfl ⟨u3,rfl,HV.out,HE.out⟩
end Go.Proofs.YtojgbcmhdnappaaGreatDoor
