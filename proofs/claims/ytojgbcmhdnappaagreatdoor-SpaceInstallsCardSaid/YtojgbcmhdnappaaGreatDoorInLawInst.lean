/-
  A part of the proof: LawInst. Conditions: none.
-/
import Derived.Test.YtojgbcmhdnappaaGreatDoorInRefInst
import Derived.Test.YtojgbcmhdnappaaGreatDoorInBoth
import Derived.Test.YtojgbcmhdnappaaGreatDoorInLawOfs
import Derived.Deep.RegionWith
import Derived.Deep.Cut
namespace Go.Proofs.YtojgbcmhdnappaaGreatDoor
open Go.RowKit Go.Maps
set_option maxRecDepth 100000
def instL (cs:List (List Int)) (n:Nat):List Nat:=instR (fun q=>allV cs (valV q)) n (2 ^ n)
theorem instR_len (F:Nat→Bool) (n:Nat):∀ m,(instR F n m).length≤m
 | 0=>Nat.le_refl _
 | m+1=>by
  have:=instR_len F n m
  rw [instR,List.length_append]
  split
  ·rw [List.length_singleton];omega
  ·rw [List.length_nil];omega
theorem instL_len (cs:List (List Int)) {n:Nat} (h:n≤8):(instL cs n).length≤256 :=
 Nat.le_trans (instR_len _ _ _) (Nat.pow_le_pow_right (n:=2) (by decide) h)
theorem instL_lt {cs:List (List Int)} {n x:Nat} (h:n≤8) (hx:x∈instL cs n):x<256 :=
 Nat.lt_of_lt_of_le (mem_inst.1 hx).1 (Nat.pow_le_pow_right (n:=2) (by decide) h)
theorem insts_any (n:Nat) (A:Option Addr) (c:Nat) (cs:List (List Int)) (w:World) (base:Nat) (h:ClK w base (.slice A cs.length c) cs) (hl:∀ z∈cs,LitsIn n z) (hn:n≤8) :
  Calls Tryz.prog 15 #[.int .i64 (n:Int),.slice A cs.length c] w (fun e w'=>∃ v,e=.returned v∧OwnK elU w' w.heap.size v (instL cs n)∧Below w.heap.size w w'):=by
 have hI:∀ z∈cs,∀ x∈z,I64 x:=fun z hz x hx=>by have:=(hl z hz).1 x hx;unfold I64;omega
 have e:instL cs n=instR (fun x=>allB (x:Int) cs) n (2 ^ n):=instR_same (fun q hq=>(all_val (Nat.lt_of_lt_of_le hq (Nat.le_trans (Nat.pow_le_pow_right (n:=2) (by decide) hn) (by decide))) (fun z hz x hx=>((hl z hz).1 x hx).1)).symm) _
 rw [e]
 exact refInstalls_any n A cs.length c cs w (h.cls hI) (fun k hk=>by
  rw [List.getD_eq_getElem?_getD,List.getElem?_eq_getElem hk]
  exact (hl _ (List.getElem_mem hk)).right (by omega)) (by omega)
theorem SpcO.count {w:World} {base P n:Nat} {cs:List (List Int)} (h:SpcO w base P n cs) (hl:∀ z∈cs,LitsIn n z):∃ S all,w.cell? ⟨P,0,none⟩=some (.pointer (some ⟨S,0,none⟩))∧w.cell? ⟨P,1,none⟩=some (.int .i64 all)∧P<w.heap.size ∧
  (∀ W,Below w.heap.size w W→Calls Tryz.prog 14 #[.pointer (some ⟨S,0,none⟩)] W (fun e w'=>e=.returned (.int .i64 (n:Int))∧W=w')) ∧
  ∀ W,Below w.heap.size w W→Calls Tryz.prog 16 #[.pointer (some ⟨S,0,none⟩),.int .i64 all] W (CountP W (instL cs n).length):=by
 obtain ⟨S,B,gn,gu,gt,gc,all,A,m,h1,h2,_⟩:=h.is
 have h8:n≤8:=by have:=h2.sp.v6.2;omega
 have e:(instL cs n).length=cA A n all*2 ^ (min (topA A all) (n:Int)).toNat:=inst_count h2.sp.sp.wf h2.sp.sp.var (by omega) h2.den (allV_pos cs (fun z hz x hx=>((hl z hz).1 x hx).1))
 rw [e]
 exact ⟨S,all,h1.cell 0,h1.cell 1,h1.lt,fun W hb=>bdVars_any S B gn gu gt gc m (n:Int) A W (h2.sp.below hb),fun W hb=>bdCount_any S B gn gu gt gc (n:Int) A W all (h2.sp.below hb).toB h2.sp.toN h2.has⟩
def allT (l:List Nat) (v:Nat) (is:Bool):Bool:=l.all fun x=>x.testBit v==is
theorem allT_snoc {l:List Nat} {k:Nat} (h:k<l.length) (v:Nat) (is:Bool):allT (l.take (k+1)) v is=(allT (l.take k) v is&&(l[k].testBit v==is)):=by
 unfold allT
 rw [List.take_add_one,List.getElem?_eq_getElem h,Option.toList_some,List.all_append,List.all_cons,List.all_nil,Bool.and_true]
theorem allT_has (cs:List (List Int)) (n v:Nat) (is:Bool):(!hasI cs n is v)=allT (instL cs n) v (!is):=by
 unfold hasI allT instL
 rw [List.not_any_eq_all_not]
 congr 1
 funext x
 cases x.testBit v <;> cases is <;> rfl
theorem always_all (P n base:Nat) (cs:List (List Int)) (w:World) (h:SpcO w base P n cs) (hc:∀ z∈cs,LitsIn n z) :
  Calls Tryz.prog 19 #[.pointer (some ⟨P,0,none⟩)] w (FixP (fixL (fun v=>allT (instL cs n) v true) n) w):=by
 rw [show (fun v=>allT (instL cs n) v true)=fun v=>!hasI cs n false v from funext fun v=>(allT_has cs n v false).symm]
 exact always_any P n base cs w h hc
theorem never_all (P n base:Nat) (cs:List (List Int)) (w:World) (h:SpcO w base P n cs) (hc:∀ z∈cs,LitsIn n z) :
  Calls Tryz.prog 20 #[.pointer (some ⟨P,0,none⟩)] w (FixP (fixL (fun v=>allT (instL cs n) v false) n) w):=by
 rw [show (fun v=>allT (instL cs n) v false)=fun v=>!hasI cs n true v from funext fun v=>(allT_has cs n v true).symm]
 exact never_any P n base cs w h hc
theorem shrU1 (v x:Nat) (hv:v<18446744073709551616):(bits BinOp.and IntKind.u64 ((v:Int) / 2 ^ x) 1==1)=v.testBit x:=by
 rw [shrU v x hv]
 cases v.testBit x <;> rfl
theorem shrU0 (v x:Nat) (hv:v<18446744073709551616):(bits BinOp.and IntKind.u64 ((v:Int) / 2 ^ x) 1==0)=!v.testBit x:=by
 rw [shrU v x hv]
 cases v.testBit x <;> rfl
structure InW (w:World) (za zn:List Int) (va vn:Value) (wr:World):Prop where
 ra:OwnI wr w.heap.size va za
 rn:OwnI wr w.heap.size vn zn
 ne:va.ownBlock=none∨vn.ownBlock=none∨va.ownBlock≠vn.ownBlock
 bel:Below w.heap.size w wr
theorem InW.apart {w:World} {za zn:List Int} {va vn:Value} {wr:World} (h:InW w za zn va vn wr):(vn.ownBlock=none∨vn.ownBlock≠va.ownBlock)∧(va.ownBlock=none∨va.ownBlock≠vn.ownBlock):=by
 rcases h.ne with e | e | e
 ·refine ⟨?_,.inl e⟩
  by_cases h0:vn.ownBlock=none
  ·exact .inl h0
  ·exact .inr (by rw [e];exact h0)
 ·refine ⟨.inl e,?_⟩
  by_cases h0:va.ownBlock=none
  ·exact .inl h0
  ·exact .inr (by rw [e];exact h0)
 ·exact ⟨.inr (Ne.symm e),.inr e⟩
theorem InW.below {w w':World} {za zn:List Int} {va vn:Value} {wr:World} (h:InW w za zn va vn wr) (hb:Below wr.heap.size wr w'):InW w za zn va vn w':=⟨h.ra.below hb,h.rn.below hb,h.ne,h.bel.trans (hb.mono h.bel.size)⟩
theorem InW.pushA {w wa W:World} {za zn:List Int} {va vn v:Value} {x:Int} (h:InW w za zn va vn wa) (ho:OwnI W w.heap.size v (za++[x])) (hg:wa.grownBy W va.ownBlock) (hor:v.ownBlock=va.ownBlock∨v.ownBlock=some wa.heap.size):InW w (za++[x]) zn v vn W:=by
 refine ⟨ho,OwnI.kept h.rn hg h.apart.1,?_,h.bel.grown hg h.bel.size (fun k hk=>(World.ownsRow.lt h.ra k hk).1)⟩
 rcases hor with e | e
 ·rw [e];exact h.ne
 ·right
  cases e2:vn.ownBlock with
  | none=>exact .inl rfl
  | some k=>exact .inr (by rw [e];intro e3;injection e3 with e3;have:=(World.ownsRow.lt h.rn k e2).2;omega)
theorem InW.pushN {w wa W:World} {za zn:List Int} {va vn v:Value} {x:Int} (h:InW w za zn va vn wa) (ho:OwnI W w.heap.size v (zn++[x])) (hg:wa.grownBy W vn.ownBlock) (hor:v.ownBlock=vn.ownBlock∨v.ownBlock=some wa.heap.size):InW w za (zn++[x]) va v W:=by
 refine ⟨OwnI.kept h.ra hg h.apart.2,ho,?_,h.bel.grown hg h.bel.size (fun k hk=>(World.ownsRow.lt h.rn k hk).1)⟩
 rcases hor with e | e
 ·rw [e];exact h.ne
 ·cases e2:va.ownBlock with
  | none=>exact .inl rfl
  | some k=>exact .inr (.inr (by rw [e];intro e3;injection e3 with e3;have:=(World.ownsRow.lt h.ra k e2).2;omega))
def InJ (L:List Nat) (i k:Nat) (xv yv:Value):Prop:=xv=.bool (allT (L.take k) i true)∧yv=.bool (allT (L.take k) i false)
structure CnI (wr:World) (N g12:Nat) (wc:World):Prop where
 is:∃ A n c,Blk wc g12 56 #[.slice A n c]∧NatV wc (.agg #[.slice A n c]) N
 bel:Below wr.heap.size wr wc
theorem belowSet {C g j:Nat} {w w':World} (h:Below C w w') (hg:C≤g) (u:Value):Below C w (w'.setCell ⟨g,j,none⟩ u):=h.setCell (p:=⟨g,j,none⟩) hg u
theorem cn_alloc {wr wt:World} {N n c:Nat} {A:Option Addr} (hv:NatV wt (.agg #[.slice A n c]) N) (hb:Below wr.heap.size wr wt):CnI wr N wt.heap.size (wt.alloc (.cells #[.slice A n c] 56)) :=
 ⟨⟨A,n,c,Blk.new wt _ _,hv.below ((Below.refl _ _).alloc (Nat.le_refl _) _)⟩,hb.alloc hb.size _⟩
theorem cn_set {wr wt:World} {N n c g:Nat} {A:Option Addr} (hx:Blk wt g 56 #[.slice none 0 0]) (hg:wr.heap.size≤g) (hv:NatV wt (.agg #[.slice A n c]) N) (hb:Below wr.heap.size wr wt):CnI wr N g (wt.setCell ⟨g,0,none⟩ (.slice A n c)) :=
 ⟨⟨A,n,c,hx.set_ 0 _,natV_set (u:=.slice A n c) hv (hx.cell 0) (fun i e=>by cases e)⟩,hb.setCell (p:=⟨g,0,none⟩) hg _⟩
set_option maxHeartbeats 16000000 in
theorem lawInst_walk (t:ByteArray) (w:World) (hG:GlobV w) (hF:FineP w) (hK:KindsP w) (hs:t.size≤9223372036854775807):Calls Tryz.prog 4 #[.string t] w (AtPost w true):=by
 have HBT:=hide (both_any t w hG hF hK hs)
 have HGT:=hide hG.t
 clear hG hF hK
 go_enter Tryz.func4,Tryz.ntmps4
 go_wp2_with fail
 refine HBT.out.mono ?_
 rintro e w1 (⟨_,rfl,hb1⟩ | ⟨vw,g,qs,qs',its0,_,_,hqq,hcr,rfl,hl,hco,hb1⟩)
 ·have HB:=hide hb1
  clear hb1 HBT
  go_wp2_with fail
  go_ret
  exact ⟨rfl,HB.out⟩
 ·have HB:=hide hb1
  have HSM:=hide (small_any vw qs its0 8 w1 (hl.mono (Nat.zero_le _)) hcr)
  unfold SmallP at HSM
  have HCO:=hide hco
  have HOF:=hide (fun W (h:CatO W w.heap.size g qs') (h8:(itemsF (qs'.map (·.1))).length≤8)=>spaceOf_any g w.heap.size qs' its0 W h (by rw [hqq];exact hcr) h8)
  rw [hqq] at HOF
  unfold SpcP at HOF
  have hlit:=rules_lits hcr
  generalize (itemsF (qs.map (·.1))).length=n at HSM HOF hlit
  generalize rulesF (itemsF (qs.map (·.1))) (qs.map (·.1))=R at HSM HOF hlit
  obtain ⟨cs,HCS⟩:∃ cs,Hid (R.map (·.1)=cs):=⟨_,Lib.hid rfl⟩
  have HLI:=Lib.hid (show ∀ z∈cs,LitsIn n z from fun z hz=>by rw [←HCS.out] at hz;obtain ⟨c,h1,rfl⟩:=List.mem_map.1 hz;exact hlit c h1)
  have hcl:cs.length=R.length:=by rw [←HCS.out,List.length_map]
  rw [HCS.out,←hcl] at HSM
  rw [HCS.out] at HOF
  have HCLN:=Lib.hid hcl
  clear hcl
  clear hl hco hb1 HBT hlit hcr hqq
  go_wp2_with fail
  refine HSM.out.mono ?_
  rintro e w2 ⟨A2,c2,rfl,hck,hb2⟩
  have HCK:=hide hck
  have HB2:=hide (HB.out.trans (hb2.mono HB.out.size))
  have HCO2:=hide (HCO.out.below hb2)
  clear hck hb2 HSM HCO HB
  by_cases hfit:cs.length≤200∧n≤8
  ·obtain ⟨h200,h8⟩:=hfit
   rw [show (decide (cs.length≤200)&&decide (n≤8))=true by rw [decide_eq_true h200,decide_eq_true h8];rfl]
   have HO:=hide (HOF.out w2 HCO2.out h8)
   clear HOF HCO2
   go_wp2_with fail
   refine HO.out.mono ?_
   rintro e w3 (⟨_,P,rfl,ho3,hb3⟩ | ⟨hno,_⟩)
   ·obtain ⟨S,all,p0,p1,pl,hva,hcn⟩:=ho3.count HLI.out
    have HO3:=hide ho3
    have HB3:=hide (HB2.out.trans (hb3.mono HB2.out.size))
    have HV3:=hide (hva w3 (Below.refl _ _))
    have HCN:=Lib.hid hcn
    have HIN:=hide (insts_any n A2 c2 cs w3 _ (HCK.out.below hb3) HLI.out h8)
    have hnn:(!((n:Int)==(n:Int)))=false:=by simp
    clear ho3 hb3 hva hcn HO HCK HB2
    go_wp2_with fail
    refine HV3.out.mono ?_
    rintro e w4 ⟨rfl,rfl⟩
    clear HV3
    go_wp2_with fail
    refine HIN.out.mono ?_
    rintro e w5 ⟨vi,rfl,hoi,hb5⟩
    have hL:=instL_len cs h8
    have HLT:=Lib.hid (fun (k:Nat) (hk:k<(instL cs n).length)=>instL_lt h8 (List.getElem_mem hk))
    have HFA:=Lib.hid (fun W (h:SpcO W w2.heap.size P n cs)=>always_all P n w2.heap.size cs W h HLI.out)
    have HFN:=Lib.hid (fun W (h:SpcO W w2.heap.size P n cs)=>never_all P n w2.heap.size cs W h HLI.out)
    generalize instL cs n=L at hoi HCN hL HLT HFA HFN
    obtain ⟨Ai,ci,rfl,_⟩:=hoi.len
    have HO5:=hide hoi
    have HB5:=hide (HB3.out.trans (hb5.mono HB3.out.size))
    have HS5:=hide (HO3.out.below hb5)
    have HCC:=Lib.hid (fun W (hb:Below w5.heap.size w5 W)=>HCN.out W (hb5.trans (hb.mono hb5.size)))
    unfold CountP at HCC
    have r0:=(hb5.cell (p:=⟨P,0,none⟩) pl).trans p0
    have r1:=(hb5.cell (p:=⟨P,1,none⟩) pl).trans p1
    have r2:P<w5.heap.size:=Nat.lt_of_lt_of_le pl hb5.size
    have l5:w.heap.size≤w5.heap.size:=Nat.le_trans HB3.out.size hb5.size
    clear hoi hb5 HIN HO3 HB3 HCN p0 p1
    go_upto_region 11 with fail
    go_cut [10,12] from 23 (fun s10 s12 wc=>s10=.nilIface∧∃ g12,s12=.pointer (some ⟨g12,0,none⟩)∧Hid (CnI w5 L.length g12 wc))
    case first=>as_aux_lemma =>
     have HKP:=Lib.hid (fun (W:World) (hb:Below w5.heap.size w5 W)=>show W.cell? ⟨P,0,none⟩=some (.pointer (some ⟨S,0,none⟩))∧W.cell? ⟨P,1,none⟩=some (.int .i64 all) from ⟨(hb.cell (p:=⟨P,0,none⟩) r2).trans r0,(hb.cell (p:=⟨P,1,none⟩) r2).trans r1⟩)
     go_region_held3 (fun w'=>w'.cell? ⟨P,0,none⟩=some (.pointer (some ⟨S,0,none⟩))∧w'.cell? ⟨P,1,none⟩=some (.int .i64 all))
      (first | assumption | exact ⟨r0,r1⟩ | (refine HKP.out _ ?_;(repeat (first | exact Below.refl _ _ | exact (Below.refl _ _).drew | exact hbr | refine below_al ?_ _ | refine below_dr ?_ | refine belowSet ?_ (Nat.le_refl _) _));done))
      (first | (go_at_call 16;refine (HCC.out _ ?_).mono ?_;(focus ((repeat (first | exact Below.refl _ _ | exact (Below.refl _ _).drew | refine below_al ?_ _ | refine below_dr ?_));done));rintro e wt ⟨v9,rfl,hv9,hbt⟩;obtain ⟨Av,nv,cv,ev⟩:=hv9.form;subst ev;(refine (fun (hbr:Below w5.heap.size w5 wt)=>?_) ?_;rotate_left;(focus (refine below_then ?_ hbt;(repeat (first | exact Below.refl _ _ | exact (Below.refl _ _).drew | refine below_al ?_ _ | refine below_dr ?_));done)));(first | have hx:Blk wt w5.heap.size 56 #[.slice none 0 0]:=Blk.below (Blk.new w5.drew _ _) hbt (Blk.lt (Blk.new _ _ _)) | have hx:Blk wt w5.heap.size 56 #[.slice none 0 0]:=Blk.below (Blk.drew (Blk.new w5 _ _)) hbt (Blk.lt (Blk.drew (Blk.new _ _ _))) | skip);(first | have cx:wt.cell? ⟨w5.heap.size,0,none⟩=some (.slice none 0 0):=Blk.cell hx 0 | skip);(first | have fx:wt.frozen? ⟨w5.heap.size,0,none⟩=false:=Blk.frozen hx 0 | skip)))
     all_goals
      first
       | (have HH:=hide (cn_set hx (by first | exact Nat.le_refl _ | simp) hv9 hbr);clear hv9 hbr hbt;go_wp2;go_meet;case rel=>exact ⟨rfl,_,rfl,HH⟩)
       | (have HH:=hide (cn_alloc hv9 hbr);clear hv9 hbr hbt;go_wp2;go_meet;case rel=>exact ⟨rfl,_,rfl,HH⟩)
    case rest =>
     obtain ⟨rfl,g12,rfl,HC⟩:=hcut
     obtain ⟨An,nn,cn,hkn,hvn⟩:=HC.out.is
     have HB6:=hide (HB5.out.trans (HC.out.bel.mono HB5.out.size))
     have HO6:=hide (HO5.out.below HC.out.bel)
     have HS6:=hide (HS5.out.below HC.out.bel)
     have m0:=hkn.cell 0
     have HTX:=hide (text_any (.agg #[.slice An nn cn]) L.length 3 2 wc hvn (Nat.lt_of_le_of_lt hL (by decide)) (by omega) (hvn.two (by omega)) (by omega))
     unfold TextPost at HTX
     clear hkn hvn HC HB5 HO5 HS5 HCC r0 r1
     go_wp2_with fail
     refine HTX.out.mono ?_
     rintro e w7 ⟨rfl,hb7⟩
     have hal:=(Below.refl w7.heap.size w7).alloc (Nat.le_refl _) (.cells #[.int .i64 (L.length:Int)] 3)
     have HB8:=hide ((HB6.out.trans (hb7.mono HB6.out.size)).trans (hal.mono (Nat.le_trans HB6.out.size hb7.size)))
     have HO8:=hide ((HO6.out.below hb7).below hal)
     have HS8:=hide ((HS6.out.below hb7).below hal)
     have HTD:=hide (textW_any (some ⟨w7.heap.size,0,none⟩) 1 1 [(L.length:Int)] _ (HGT.out.below HB8.out) (one_int w7 (L.length:Int) (by unfold I64;omega)) (by omega))
     unfold ToldPost at HTD
     rw [text_one] at HTD
     clear hb7 hal HB6 HO6 HS6 HTX
     generalize (⟨(Lib.decDigits L.length).toArray⟩:ByteArray)=s at HTD ⊢
     go_wp2_with fail
     refine (HTD.out).mono ?_
     rintro e w9 ⟨rfl,hb9⟩
     have HB9:=hide (HB8.out.trans (hb9.mono HB8.out.size))
     have HO9:=hide (HO8.out.below hb9)
     have HS9:=hide (HS8.out.below hb9)
     clear hb9 HB8 HO8 HS8 HTD
     have hn8:n≤8:=h8
     have HIW:=hide (show InW w9 (fixL (fun v=>allT L v true) 0) (fixL (fun v=>allT L v false) 0) (.slice none 0 0) (.slice none 0 0) w9 from ⟨ownI_nil _ _,ownI_nil _ _,.inl rfl,Below.refl _ _⟩)
     go_wp2_with fail
     go_loopw [13,14,15] (fun av nv iv wr=>∃ i:Nat,i≤n∧iv=.int .i64 i∧Hid (InW w9 (fixL (fun v=>allT L v true) i) (fixL (fun v=>allT L v false) i) av nv wr)) (fun _ _ iv _=>n-(intOf iv).toNat)
     case atStart=>exact ⟨0,Nat.zero_le _,rfl,HIW⟩
     case round=>as_aux_lemma =>
      clear HIW
      obtain ⟨i,hi,rfl,HI⟩:=hrel
      by_cases hlt:i<n
      ·have hltz:(i:Int)<(n:Int):=by omega
       have HJ0:=Lib.hid (show InJ L i 0 (.bool true) (.bool true) from ⟨rfl,rfl⟩)
       have hmn:min i 64=i:=by omega
       go_wp2_with fail
       go_loopw [16,17,18] (fun xv yv kv wj=>∃ k:Nat,k≤L.length∧kv=.int .i64 k∧Hid (InJ L i k xv yv)∧wj=wr) (fun _ _ kv _=>L.length-(intOf kv).toNat)
       case atStart=>exact ⟨0,Nat.zero_le _,rfl,HJ0,rfl⟩
       case round =>
        clear HJ0
        obtain ⟨k,hk,rfl,HJ,rfl⟩:=hrel
        obtain ⟨rfl,rfl⟩:=HJ.out
        by_cases hkl:k<L.length
        ·have hklz:(k:Int)<(L.length:Int):=by omega
         obtain ⟨gq,rfl,hrow⟩:=(HO9.out.below HI.out.bel).rowAt hkl
         have y0:wr.cell? ⟨gq,k*1+0,none⟩=some (.int .u64 ((L[k]:Nat):Int)):=hrow.cell hkl (j:=0) (by decide)
         rw [show k*1+0=k by omega] at y0
         have hx:=HLT.out k hkl
         have HJ1:=Lib.hid (show InJ L i (k+1) (.bool (allT (L.take k) i true&&(L[k].testBit i==true))) (.bool (allT (L.take k) i false&&(L[k].testBit i==false))) from ⟨by rw [allT_snoc hkl],by rw [allT_snoc hkl]⟩)
         have hs1:=shrU1 L[k] i (by omega)
         have hs0:=shrU0 L[k] i (by omega)
         clear hrow HJ
         generalize allT (L.take k) i true=b1 at HJ1
         generalize allT (L.take k) i false=b2 at HJ1
         generalize L[k].testBit i=tb at HJ1 hs1 hs0
         generalize L[k]=x at y0 hx hs1 hs0
         rcases b1 with _ | _ <;> rcases b2 with _ | _ <;> rcases tb with _ | _
         all_goals
          simp only [Bool.not_false,Bool.not_true] at hs0
          go_wp2_with fail
          go_round
          case rel=>exact ⟨k+1,by omega,by go_num,HJ1,trivial⟩
          case measure=>simp [intOf];omega
        ·have hklz:¬(k:Int)<(L.length:Int):=by omega
         have htk:L.take k=L:=List.take_of_length_le (by omega)
         rw [htk]
         have hfa:=fixL_succ (fun v=>allT L v true) i
         have hfn:=fixL_succ (fun v=>allT L v false) i
         have hla:(fixL (fun v=>allT L v true) i).length+1≤10000000000:=by have:=fixL_len (fun v=>allT L v true) i;omega
         have hln:(fixL (fun v=>allT L v false) i).length+1≤10000000000:=by have:=fixL_len (fun v=>allT L v false) i;omega
         generalize fixL (fun v=>allT L v true) i=za at HI hfa hla
         generalize fixL (fun v=>allT L v false) i=zn at HI hfn hln
         generalize allT L i true=b1 at hfa
         generalize allT L i false=b2 at hfn
         have HFA2:=Lib.hid hfa
         have HFN2:=Lib.hid hfn
         have HLA:=Lib.hid hla
         have HLN:=Lib.hid hln
         clear hfa hfn hla hln htk
         have hal:=(Below.refl wr.heap.size wr).alloc (Nat.le_refl _) (.cells #[.int .i64 (i:Int)] 3)
         have HA1:=hide (HI.out.below hal)
         have HRA:=hide (blk_reads (zs:=[(i:Int)]) (Blk.new wr 3 #[.int .i64 (i:Int)]))
         clear hal
         rcases b1 with _ | _
         ·rcases b2 with _ | _
          ·go_wp2_with fail
           go_round
           case rel=>exact ⟨i+1,by omega,by go_num,hide (by rw [HFA2.out,HFN2.out];exact HI.out)⟩
           case measure=>simp [intOf];omega
          ·go_wp2_with (at_builtin;refine appI _ rfl _ _ _ rfl w9.heap.size Tryz.underlying31 _ zn rfl HA1.out.rn (wr.heap.size+1) (some ⟨wr.heap.size,0,none⟩) 1 1 [(i:Int)] rfl HRA.out rfl HLN.out HA1.out.bel.size ?_;intro v9 w8 ho9 hg9 hor9;have HN9:=hide (HA1.out.pushN ho9 hg9 hor9);clear ho9 hg9 hor9)
           go_round
           case rel=>exact ⟨i+1,by omega,by go_num,hide (by rw [HFA2.out,HFN2.out];exact HN9.out)⟩
           case measure=>simp [intOf];omega
         ·rcases b2 with _ | _
          ·go_wp2_with (at_builtin;refine appI _ rfl _ _ _ rfl w9.heap.size Tryz.underlying31 _ za rfl HA1.out.ra (wr.heap.size+1) (some ⟨wr.heap.size,0,none⟩) 1 1 [(i:Int)] rfl HRA.out rfl HLA.out HA1.out.bel.size ?_;intro v9 w8 ho9 hg9 hor9;have HN9:=hide (HA1.out.pushA ho9 hg9 hor9);clear ho9 hg9 hor9)
           go_round
           case rel=>exact ⟨i+1,by omega,by go_num,hide (by rw [HFA2.out,HFN2.out];exact HN9.out)⟩
           case measure=>simp [intOf];omega
          ·go_wp2_with (first
            | (at_builtin;refine appI _ rfl _ _ _ rfl w9.heap.size Tryz.underlying31 _ za rfl HA1.out.ra (wr.heap.size+1) (some ⟨wr.heap.size,0,none⟩) 1 1 [(i:Int)] rfl HRA.out rfl HLA.out HA1.out.bel.size ?_;intro v9 w8 ho9 hg9 hor9;have HN9:=hide (HA1.out.pushA ho9 hg9 hor9);clear ho9 hg9 hor9;have hal8:=(Below.refl w8.heap.size w8).alloc (Nat.le_refl _) (.cells #[.int .i64 (i:Int)] 3);have HA8:=hide (HN9.out.below hal8);have HR8:=hide (blk_reads (zs:=[(i:Int)]) (Blk.new w8 3 #[.int .i64 (i:Int)]));clear hal8)
            | (at_builtin;refine appI _ rfl _ _ _ rfl w9.heap.size Tryz.underlying31 _ zn rfl HA8.out.rn (w8.heap.size+1) (some ⟨w8.heap.size,0,none⟩) 1 1 [(i:Int)] rfl HR8.out rfl HLN.out HA8.out.bel.size ?_;intro v7 w7 ho9 hg9 hor9;have HN7:=hide (HA8.out.pushN ho9 hg9 hor9);clear ho9 hg9 hor9))
           go_round
           case rel=>exact ⟨i+1,by omega,by go_num,hide (by rw [HFA2.out,HFN2.out];exact HN7.out)⟩
           case measure=>simp [intOf];omega
      ·have hltz:¬(i:Int)<(n:Int):=by omega
       have hin:i=n:=by omega
       have HI9:=hide (show InW w9 (fixL (fun v=>allT L v true) n) (fixL (fun v=>allT L v false) n) u13 u14 wr from by rw [←hin];exact HI.out)
       have HA:=hide (HFA.out wr (HS9.out.below HI9.out.bel))
       unfold FixP at HA HFN
       have HLA:=fixL_len (fun v=>allT L v true) n
       have HLN:=fixL_len (fun v=>allT L v false) n
       generalize fixL (fun v=>allT L v true) n=za at HI9 HA HLA
       generalize fixL (fun v=>allT L v false) n=zn at HI9 HFN HLN
       clear HI HFA
       go_wp2_with fail
       refine HA.out.mono ?_
       rintro e wb ⟨ua,rfl,hua,hbb⟩
       have HUA:=hide hua
       have HI10:=hide (HI9.out.below hbb)
       have HN:=hide (HFN.out wb (HS9.out.below HI10.out.bel))
       clear hua hbb HA HI9 HFN
       go_wp2_with fail
       refine HN.out.mono ?_
       rintro e wc2 ⟨un,rfl,hun,hbc⟩
       have HI11:=hide (HI10.out.below hbc)
       have HQ1:=hide (sameOwn_any ua u13 za wc2 ((HUA.out.below hbc).mono (Nat.zero_le _)) (HI11.out.ra.mono (Nat.zero_le _)) (by omega))
       have HQ2:=Lib.hid (fun W (hb:Below wc2.heap.size wc2 W)=>sameOwn_any un u14 zn W ((hun.below hb).mono (Nat.zero_le _)) ((HI11.out.rn.below hb).mono (Nat.zero_le _)) (by omega))
       unfold SameQ at HQ1 HQ2
       clear hun hbc HN HI10 HUA
       go_wp2_with fail
       refine HQ1.out.mono ?_
       rintro e wd ⟨rfl,q,rfl⟩
       have HQ:=hide (HQ2.out _ (below_drewN (Below.refl wc2.heap.size wc2) q))
       clear HQ1 HQ2
       go_wp2_with fail
       refine HQ.out.mono ?_
       rintro e we ⟨rfl,q2,rfl⟩
       go_wp2_with fail
       go_ret
       exact ⟨rfl,(HB9.out.trans (HI11.out.bel.mono HB9.out.size)).trans ((below_drewN (Below.refl wc2.heap.size wc2) (q+q2)).mono (Nat.le_trans HB9.out.size HI11.out.bel.size))⟩
   ·exact absurd h200 (by have:=HCLN.out;omega)
  ·rw [show (decide (cs.length≤200)&&decide (n≤8))=false by rw [←Bool.decide_and];exact decide_eq_false hfit]
   go_wp2_with fail
   go_ret
   exact ⟨rfl,HB2.out⟩
end Go.Proofs.YtojgbcmhdnappaaGreatDoor
