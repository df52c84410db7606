/-
  A part of the proof: SpcCan, Small, RefInst. Conditions: none.
-/
import Derived.Test.YtojgbcmhdnappaaGreatDoorInMapG
import Derived.Deep.Cut
import Derived.Test.YtojgbcmhdnappaaGreatDoorInRulesOf
import Derived.Test.YtojgbcmhdnappaaGreatDoorInRefItems
import Derived.Test.YtojgbcmhdnappaaGreatDoorInEvCnt
import Derived.Test.YtojgbcmhdnappaaGreatDoorInSpcCls
import Derived.Test.YtojgbcmhdnappaaGreatDoorInRowK
import Derived.Laws.Bits64b
namespace Go.Proofs.YtojgbcmhdnappaaGreatDoor
open Go.RowKit Go.Maps
set_option maxRecDepth 100000
theorem SpM.toB {w:World} {S B gn gu gt gc m:Nat} {vars:Int} {A:Ar} (h:SpM w S B gn gu gt gc vars A m):SpB w S B gn gu gt gc vars A:=⟨h.kS,h.ar,h.sp.wf⟩
theorem SpM.toN {w:World} {S B gn gu gt gc m:Nat} {vars:Int} {A:Ar} (h:SpM w S B gn gu gt gc vars A m):CtN A vars:=⟨h.sp.wf,h.sp.var,h.v6.1,by have:=h.v6.2;omega⟩
theorem mapBool:Tryz.prog.underlying 121=some (.map 3 4):=Tryz.underlying121
abbrev MapJ (w:World) (gd:Nat) (f:Int→Option Value) (m:Nat):Prop:=MapG 3 keyL I64 w gd f m
structure CanI (w:World) (S B gn gu gt gc P vn:Nat) (A:Ar) (all:Value) (v:Nat) (is:Bool) (gd:Nat) (f:Int→Option Value) (m:Nat):Prop where
 sp:SpB w S B gn gu gt gc (vn:Int) A
 kP:Blk w P 52 #[.pointer (some ⟨S,0,none⟩),all]
 map:MapJ w gd f m
 vals:∀ h z,f h=some z→∃ b:Bool,z=.bool b∧(b=true↔CanB A v is h)
def CanQ (w:World) (S B gn gu gt gc P vn:Nat) (A:Ar) (all:Value) (v:Nat) (is:Bool) (gd m:Nat) (h:Int) (e:Ending) (w':World):Prop :=
 ∃ (b:Bool) (f':Int→Option Value) (m':Nat),e=.returned (.bool b)∧(b=true↔CanB A v is h)∧CanI w' S B gn gu gt gc P vn A all v is gd f' m'∧m'+1≤m+2 ^ dep A h∧Fr (fun k=>k=gd) w w'
section
variable {w w' wr:World} {S B gn gu gt gc P vn v gd m:Nat} {A:Ar} {all:Value} {is:Bool} {f:Int→Option Value} {h:Int}
theorem CanI.below (h:CanI w S B gn gu gt gc P vn A all v is gd f m) (hb:Below w.heap.size w w'):CanI w' S B gn gu gt gc P vn A all v is gd f m :=
 ⟨h.sp.below hb,h.kP.below hb h.kP.lt,h.map.below hb,h.vals⟩
theorem mapG_ne {kt:TypeId} {α:Type} {lit:α→Lit} {ok:α→Prop} {F:α→Option Value} {t:TypeId} {g:Nat} {cs:Array Value} (h:MapG kt lit ok w gd F m) (hk:Blk w g t cs):g≠gd:=fun e=>by
 obtain ⟨es,c,hm⟩:=h.isM
 subst e
 cases hk.symm.trans hm
theorem CanI.store {b:Bool} (hI:CanI w S B gn gu gt gc P vn A all v is gd f m) (hm:MapJ w' gd (fun y=>if y=h then some (.bool b) else f y) (m+1)) (hg:w.grownBy w' (some gd)) (hb:b=true↔CanB A v is h) :
  CanI w' S B gn gu gt gc P vn A all v is gd (fun y=>if y=h then some (.bool b) else f y) (m+1)∧Fr (fun k=>k=gd) w w':=by
 have hf:Fr (fun k=>k=gd) w w':=(Fr.refl _ w).grown hg (fun k e=>by cases e;rfl)
 refine ⟨⟨spB_fr S B gn gu gt gc (vn:Int) A hI.sp hf hI.map.isM,hI.kP.fr hf (mapG_ne hI.map hI.kP),hm,fun y z e=>?_⟩,hf⟩
 split at e
 ·rename_i hy
  cases e
  exact ⟨b,rfl,by rw [hy];exact hb⟩
 ·exact hI.vals y z e
def CanR (wr:World) (S B gn gu gt gc P vn:Nat) (A:Ar) (all:Value) (v:Nat) (is:Bool) (gd m:Nat) (h:Int) (x:Value) (wc:World):Prop :=
 ∃ (b:Bool) (f':Int→Option Value) (m':Nat),x=.bool b∧(b=true↔CanB A v is h)∧CanI wc S B gn gu gt gc P vn A all v is gd f' m'∧m'+2≤m+2 ^ dep A h∧Fr (fun k=>k=gd) wr wc
end
theorem canEnd_any {S B gn gu gt gc P vn gd v m:Nat} {A:Ar} {all:Value} {is:Bool} {x:Int} {f:Int→Option Value} {w:World} (hI:CanI w S B gn gu gt gc P vn A all v is gd f m) (hx:hasA A x=true) (hg:gotA A x=none) :
  Calls Tryz.prog 117 #[.pointer (some ⟨P,0,none⟩),.int .i64 x,.int .i64 (v:Int),.bool is,.map (some gd)] w (CanQ w S B gn gu gt gc P vn A all v is gd m x):=by
 have p0:=hI.kP.cell 0
 have s0:=hI.sp.kS.cell 0
 have HGT:=hide (arGet_none B gn gu gt A x _ hI.sp.ar (has_i64 hI.sp.ar hx) hg)
 have HI:=hide hI
 have HE:=Lib.hid (can_none (v:=(v:Int)) (is:=is) hg)
 clear hI
 go_enter Tryz.func117,Tryz.ntmps117
 go_wp2_with fail
 refine (HGT.out).mono ?_
 rintro e w2 ⟨rfl,hb2⟩
 have hb3:=hb2.alloc hb2.size (.cells #[.int .i64 0,.int .i64 0,.int .i64 0] 214)
 have HQ:=hide (show CanQ w S B gn gu gt gc P vn A all v is gd m x (.returned (.bool (x==1))) _ from ⟨_,f,m,rfl,by rw [HE.out];exact beq_iff_eq,HI.out.below hb3,by have:=Nat.one_le_two_pow (n:=dep A x);omega,.of_below hb3 (Nat.le_refl _)⟩)
 clear hb2 hb3
 go_wp2
 go_ret
 exact HQ.out
set_option maxHeartbeats 8000000 in
theorem can_all (S B gn gu gt gc P vn gd v:Nat) (A:Ar) (all:Value) (is:Bool) (hN:CtN A (vn:Int)):∀ (n:Nat) (x:Int) (m:Nat) (f:Int→Option Value) (w:World),dep A x≤n→hasA A x=true→CanI w S B gn gu gt gc P vn A all v is gd f m→m+2 ^ dep A x≤1000000000 →
  Calls Tryz.prog 117 #[.pointer (some ⟨P,0,none⟩),.int .i64 x,.int .i64 (v:Int),.bool is,.map (some gd)] w (CanQ w S B gn gu gt gc P vn A all v is gd m x):=by
 intro n
 induction n with
 | zero =>
  intro x m f w hd hx hI hm
  have hg:gotA A x=none:=by
   cases e:gotA A x with
   | none=>rfl
   | some d=>have:=hN.wf.dep e;unfold dep at hd;omega
  exact canEnd_any hI hx hg
 | succ n ih =>
  intro x m f w hd hx hI hm
  cases hg:gotA A x with
  | none=>exact canEnd_any hI hx hg
  | some d =>
   obtain ⟨dv,dl,dh⟩:=d
   have hi:=has_i64 hI.sp.ar hx
   have p0:=hI.kP.cell 0
   have s0:=hI.sp.kS.cell 0
   have HGT:=hide (arGet_some B gn gu gt A x ⟨dv,dl,dh⟩ _ hI.sp.ar hi hg)
   have HI:=hide hI
   clear hI
   go_enter Tryz.func117,Tryz.ntmps117
   go_wp2_with fail
   refine (HGT.out).mono ?_
   rintro e w2 ⟨rfl,hb2⟩
   have hb3:=hb2.alloc hb2.size (.cells #[.int .i64 dv,.int .i64 dl,.int .i64 dh] 214)
   have HI3:=hide (HI.out.below hb3)
   have HB3:=hide hb3
   have HK:=hide (Blk.new w2 214 #[.int .i64 dv,.int .i64 dl,.int .i64 dh])
   have hlk:=HI3.out.map.look keyS_int mapBool (z0:=.bool false) (fun w=>zeroBool w) x hi
   clear hb2 hb3 HGT p0 s0
   cases hfx:f x with
   | some v0 =>
    obtain ⟨b,rfl,hb⟩:=HI3.out.vals x v0 hfx
    rw [hfx] at hlk
    have HQ:=hide (show CanQ w S B gn gu gt gc P vn A all v is gd m x (.returned (.bool b)) _ from ⟨b,f,m,rfl,hb,HI3.out,by have:=Nat.one_le_two_pow (n:=dep A x);omega,.of_below HB3.out (Nat.le_refl _)⟩)
    clear hb
    go_wp2
    go_ret
    exact HQ.out
   | none =>
    rw [hfx] at hlk
    obtain ⟨hkl,hkl2⟩:=hN.wf.low _ _ hg
    obtain ⟨hkh,hkh2⟩:=hN.wf.high _ _ hg
    have hdv:=hN.var _ _ hg
    have hdw:=hN.wf.var _ _ hg
    have htx:=top_some hg
    simp only at hkl hkl2 hkh hkh2 hdv hdw htx
    have hpw:∀ y,dv<topA A y→dep A y+1≤dep A x:=fun y hy=>by unfold dep;omega
    have hpl:=Nat.pow_le_pow_right (n:=2) (by decide) (hpw dl hkl2)
    have hph:=Nat.pow_le_pow_right (n:=2) (by decide) (hpw dh hkh2)
    rw [Nat.pow_succ] at hpl hph
    have HLO:=Lib.hid (fun (m:Nat) (f:Int→Option Value) (w':World) (h:CanI w' S B gn gu gt gc P vn A all v is gd f m) (hm:m+2 ^ dep A dl≤1000000000)=>ih dl m f w' (by have:=hpw dl hkl2;omega) hkl h hm)
    have HHI:=Lib.hid (fun (m:Nat) (f:Int→Option Value) (w':World) (h:CanI w' S B gn gu gt gc P vn A all v is gd f m) (hm:m+2 ^ dep A dh≤1000000000)=>ih dh m f w' (by have:=hpw dh hkh2;omega) hkh h hm)
    unfold CanQ at HLO HHI
    have HCS:=Lib.hid (can_some (v:=(v:Int)) (is:=is) hN.wf hg)
    simp only at HCS
    clear ih hkl2 hkh2 hpw htx hg
    go_upto_region 7 with fail
    obtain ⟨g7,HG7⟩:∃ g7,Hid (w2.heap.size=g7):=⟨_,Lib.hid rfl⟩
    rw [HG7.out] at HK ⊢
    have c0:=HK.out.cell 0
    have c1:=HK.out.cell 1
    have c2:=HK.out.cell 2
    generalize (w2.alloc (.cells #[.int .i64 dv,.int .i64 dl,.int .i64 dh] 214))=wr at HI3 HB3 HK c0 c1 c2 ⊢
    clear hlk
    have HN7:=Lib.hid (mapG_ne HI3.out.map HK.out)
    go_cut [15] from 16 (fun s15 wc=>Hid (CanR wr S B gn gu gt gc P vn A all v is gd m x s15 wc))
    case first =>
     by_cases hvv:dv=(v:Int)
     ·subst hvv
      have hne0:(!((v:Int)==(v:Int)))=false:=by simp
      have hne1:((v:Int)==(v:Int))=true:=by simp
      cases is with
      | true =>
       have HCS2:=Lib.hid (show CanB A v true x↔CanB A v true dh from HCS.out.trans ⟨fun h=>h.elim (·.2) (fun h=>h.1.elim (fun g=>absurd rfl g) (fun g=>by cases g)),fun h=>.inl ⟨.inr rfl,h⟩⟩)
       have HCL:=hide (HHI.out m f wr HI3.out (by omega))
       clear HLO HHI HCS
       go_wp2_with fail
       refine (HCL.out).mono ?_
       rintro e w5 ⟨b,f5,m5,rfl,hb5,hI5,hm5,hf5⟩
       have HQ:=hide (show CanR wr S B gn gu gt gc P vn A all v true gd m x (.bool b) w5 from ⟨b,f5,m5,rfl,hb5.trans HCS2.out.symm,hI5,by have:=Nat.one_le_two_pow (n:=dep A dh);omega,hf5⟩)
       have d0:=(HK.out.fr hf5 HN7.out).cell 0
       clear hb5 hI5 hm5 hf5 HCL
       cases b with
       | true =>
        go_wp2
        go_meet
        case rel=>exact HQ
       | false =>
        go_wp2
        go_meet
        case rel=>exact HQ
      | false =>
       have HCS2:=Lib.hid (show CanB A v false x↔CanB A v false dl from HCS.out.trans ⟨fun h=>h.elim (fun h=>h.1.elim (fun g=>absurd rfl g) (fun g=>by cases g)) (·.2),fun h=>.inr ⟨.inr rfl,h⟩⟩)
       have HCL:=hide (HLO.out m f wr HI3.out (by omega))
       clear HLO HHI HCS
       go_wp2_with fail
       refine (HCL.out).mono ?_
       rintro e w5 ⟨b,f5,m5,rfl,hb5,hI5,hm5,hf5⟩
       have HQ:=hide (show CanR wr S B gn gu gt gc P vn A all v false gd m x (.bool b) w5 from ⟨b,f5,m5,rfl,hb5.trans HCS2.out.symm,hI5,by have:=Nat.one_le_two_pow (n:=dep A dl);omega,hf5⟩)
       clear hb5 hI5 hm5 hf5 HCL
       go_wp2
       go_meet
       case rel=>exact HQ
     ·have hne2:(dv != (v:Int))=true:=by simpa using hvv
      have hne1:(dv==(v:Int))=false:=by simpa using hvv
      have HCS2:=Lib.hid (show CanB A v is x↔CanB A v is dh∨CanB A v is dl from HCS.out.trans ⟨fun h=>h.imp (·.2) (·.2),fun h=>h.imp (fun h=>⟨.inl hvv,h⟩) (fun h=>⟨.inl hvv,h⟩)⟩)
      have HCL:=hide (HHI.out m f wr HI3.out (by omega))
      clear HHI HCS hvv
      go_wp2_with fail
      refine (HCL.out).mono ?_
      rintro e w5 ⟨b,f5,m5,rfl,hb5,hI5,hm5,hf5⟩
      have hK5:=HK.out.fr hf5 HN7.out
      have d0:=hK5.cell 0
      have d1:=hK5.cell 1
      clear hK5 HCL
      cases b with
      | true =>
       have HQ:=hide (show CanR wr S B gn gu gt gc P vn A all v is gd m x (.bool true) w5 from ⟨true,f5,m5,rfl,⟨fun _=>HCS2.out.2 (.inl (hb5.1 rfl)),fun _=>rfl⟩,hI5,by have:=Nat.one_le_two_pow (n:=dep A dh);omega,hf5⟩)
       clear hb5 hI5 hm5 hf5 HLO
       go_wp2
       go_meet
       case rel=>exact HQ
      | false =>
       have HCL:=hide (HLO.out m5 f5 w5 hI5 (by omega))
       have HF5:=hide hf5
       have HNB:=Lib.hid (show ¬CanB A v is dh from fun h=>by cases hb5.2 h)
       clear HLO hI5 hb5 hf5
       go_wp2_with fail
       refine (HCL.out).mono ?_
       rintro e w6 ⟨b,f6,m6,rfl,hb6,hI6,hm6,hf6⟩
       have HQ:=hide (show CanR wr S B gn gu gt gc P vn A all v is gd m x (.bool b) w6 from ⟨b,f6,m6,rfl,⟨fun e=>HCS2.out.2 (.inr (hb6.1 e)),fun h=>hb6.2 ((HCS2.out.1 h).resolve_left HNB.out)⟩,hI6,by omega,HF5.out.trans hf6⟩)
       clear hb6 hI6 hm6 hf6 HCL
       go_wp2
       go_meet
       case rel=>exact HQ
    case rest =>
     obtain ⟨b,f5,m5,rfl,hb5,hI5,hm5,hf5⟩:=hcut.out
     have HI5:=hide hI5
     have HF5:=hide hf5
     have HB5:=Lib.hid hb5
     have hs5:m5≤1000000000:=by omega
     have HS5:=Lib.hid hs5
     clear hb5 hI5 hf5 hs5 hcut HLO HHI
     go_wp2_with (first | (refine storeG keyS_int rfl _ _ _ _ _ rfl mapBool rfl HI5.out.map x (.bool b) rfl rfl hi HS5.out ?_;intro w9 hm9 hg9;have hst:=HI5.out.store hm9 hg9 HB5.out;have HST:=hide hst;clear hst hm9 hg9) | fail)
     go_ret
     exact ⟨b,_,_,rfl,HB5.out,HST.out.1,by omega,(Fr.of_below HB3.out (Nat.le_refl _)).trans (HF5.out.trans HST.out.2)⟩
def FixP (l:List Int) (w:World) (e:Ending) (w':World):Prop:=∃ u,e=.returned (.tuple #[u,.nilIface])∧OwnI w' w.heap.size u l∧Below w.heap.size w w'
def hasI (cs:List (List Int)) (n:Nat) (is:Bool) (v:Nat):Bool:=(instR (fun q=>allV cs (valV q)) n (2 ^ n)).any fun x=>x.testBit v==is
theorem hasI_can {A:Ar} {h:Int} {n:Nat} {cs:List (List Int)} (hc:∀ z∈cs,LitsIn n z) (hd:∀ u,den A h u=allV cs u) {v:Nat} (hv:v<n) (is:Bool):CanB A v is h↔hasI cs n is v=true:=by
 rw [can_iff (fun z hz=>(hc z hz).1) hd hv is]
 unfold hasI
 rw [List.any_eq_true]
 exact exists_congr fun x=>and_congr_right fun _=>beq_iff_eq.symm
theorem SpcO.below {w w':World} {base P n:Nat} {cs:List (List Int)} (h:SpcO w base P n cs) (hb:Below w.heap.size w w'):SpcO w' base P n cs:=by
 obtain ⟨S,B,gn,gu,gt,gc,all,A,m,h1,h2,h3⟩:=h.is
 exact ⟨⟨S,B,gn,gu,gt,gc,all,A,m,h1.below hb h1.lt,⟨h2.sp.below hb,h2.has,h2.den⟩,h3⟩,h.ge⟩
set_option maxHeartbeats 4000000 in
theorem fixed_any (P n base:Nat) (cs:List (List Int)) (is:Bool) (w:World) (h:SpcO w base P n cs) (hc:∀ z∈cs,LitsIn n z) :
  Calls Tryz.prog 66 #[.pointer (some ⟨P,0,none⟩),.bool is] w (FixP (fixL (fun v=>!hasI cs n is v) n) w):=by
 obtain ⟨S,B,gn,gu,gt,gc,all,A,m,hkP,hsp,_⟩:=h.is
 have h24:n≤8:=by have:=hsp.sp.v6.2;omega
 have HK:=hide hkP
 have HB:=hide hsp.sp.toB
 have HN:=Lib.hid hsp.sp.toN
 have HH:=Lib.hid hsp.has
 have HCN:=Lib.hid (fun (v:Nat) (hv:v<n)=>hasI_can hc hsp.den hv is)
 have HVA:=hide (fun W (hb:Below w.heap.size w W)=>(bdVars_any S B gn gu gt gc m (n:Int) A W (hsp.sp.below hb)))
 have hdp:dep A all≤24:=by unfold dep;have:=(hsp.sp.sp.wf.topR all).1;omega
 have hpp:=Nat.pow_le_pow_right (n:=2) (by decide) hdp
 have hp24:(2:Nat) ^ 24=16777216:=by decide
 have HCA:=hide (fun (v gd:Nat) (hv:v<n) (W:World) (hI:CanI W S B gn gu gt gc P n A (.int .i64 all) v is gd (fun _=>none) 0)=>can_all S B gn gu gt gc P n gd v A (.int .i64 all) is hsp.sp.toN _ all 0 (fun _=>none) W (Nat.le_refl _) hsp.has hI (by omega))
 unfold CanQ at HCA
 have p0:=hkP.cell 0
 have hmm:=@run_makeMap Tryz.prog
 clear h hkP hsp hpp hp24 hdp hc
 go_enter Tryz.func66,Tryz.ntmps66
 go_wp2_with fail
 refine (HVA.out w (Below.refl _ _)).mono ?_
 rintro e w2 ⟨rfl,rfl⟩
 clear HVA
 go_wp2_with fail
 go_loopw [6,16] (fun ov iv wr=>∃ i:Nat,i≤n∧iv=.int .i64 i∧Hid (OwnI wr w.heap.size ov (fixL (fun v=>!hasI cs n is v) i))∧Hid (Below w.heap.size w wr)) (fun _ iv _=>n-(intOf iv).toNat)
 case atStart=>exact ⟨0,Nat.zero_le _,rfl,hide (ownI_nil _ _),hide (Below.refl _ _)⟩
 case round =>
  obtain ⟨i,hi,rfl,HO,HW⟩:=hrel
  by_cases hlt:i<n
  ·have hltz:(i:Int)<(n:Int):=by omega
   have hal:=(Below.refl wr.heap.size wr).alloc (Nat.le_refl _) (.map #[] 0)
   have hb1:=HW.out.trans (hal.mono HW.out.size)
   have q1:=(HK.out.below hb1 HK.out.lt)
   have p0:=(HK.out.below HW.out HK.out.lt).cell 0
   have p1:=(HK.out.below HW.out HK.out.lt).cell 1
   have q0:=q1.cell 0
   have HCL:=hide (HCA.out i wr.heap.size hlt _ ⟨HB.out.below hb1,q1,mapG_made wr,fun _ _ e=>by cases e⟩)
   have HOA:=hide (HO.out.below hal)
   have HB1:=hide hb1
   have hws:w.heap.size≤wr.heap.size:=HW.out.size
   have HLT:=Lib.hid (fun k hk=>(World.ownsRow.lt HO.out k hk).2)
   clear hal hb1 q1 HO
   go_wp2_with fail
   refine (HCL.out).mono ?_
   rintro e w5 ⟨b,f5,m5,rfl,hb5,hI5,_,hf5⟩
   have hfb:Below wr.heap.size (wr.alloc (.map #[] 0)) w5:=hf5.to_below (by simp) (fun k hk e=>by omega)
   have HB5:=hide (HB1.out.trans (hfb.mono hws))
   have HO5:=hide (HOA.out.toK.fr hf5 (fun k hk e=>by have:=HLT.out k hk;omega)).toI
   have hst:=fixL_succ (fun v=>!hasI cs n is v) i
   have hbb:hasI cs n is i=b:=Bool.eq_iff_iff.2 ((HCN.out i hlt).symm.trans hb5.symm)
   rw [hbb] at hst
   have HST:=Lib.hid hst
   have hol:(fixL (fun v=>!hasI cs n is v) i).length+1≤10000000000:=by have:=fixL_len (fun v=>!hasI cs n is v) i;omega
   have HOL:=Lib.hid hol
   clear hb5 hI5 hf5 hfb HCL HLT HOA HB1 hst hbb hol
   cases b with
   | true =>
    go_wp2_with fail
    go_round
    case rel=>exact ⟨i+1,by omega,by go_num,hide (by rw [HST.out];exact HO5.out),HB5⟩
    case measure=>simp [intOf];omega
   | false =>
    have HNX:=Lib.hid (show fixL (fun v=>!hasI cs n is v) (i+1)=fixL (fun v=>!hasI cs n is v) i++[(i:Int)] from HST.out)
    generalize fixL (fun v=>!hasI cs n is v) i=out at HO5 HNX HOL
    have hal5:=(Below.refl w5.heap.size w5).alloc (Nat.le_refl _) (.cells #[.int .i64 (i:Int)] 3)
    have HOA:=hide (HO5.out.below hal5)
    have HBA:=hide (HB5.out.trans (hal5.mono HB5.out.size))
    have HRA:=hide (blk_reads (zs:=[(i:Int)]) (Blk.new w5 3 #[.int .i64 (i:Int)]))
    clear hal5
    go_wp2_with (at_builtin;refine appI _ rfl _ _ _ rfl w.heap.size Tryz.underlying31 _ out rfl HOA.out (w5.heap.size+1) (some ⟨w5.heap.size,0,none⟩) 1 1 [(i:Int)] rfl HRA.out rfl HOL.out HBA.out.size ?_;intro v9 w9 ho9 hg9 _;have HO9:=hide ho9;have HB9:=hide (HBA.out.grown hg9 HBA.out.size (fun k hk=>(World.ownsRow.lt HOA.out k hk).1));clear ho9 hg9)
    go_round
    case rel=>exact ⟨i+1,by omega,by go_num,hide (by rw [HNX.out];exact HO9.out),HB9⟩
    case measure=>simp [intOf];omega
  ·have hltz:¬(i:Int)<(n:Int):=by omega
   have hin:n=i:=by omega
   subst hin
   go_wp2_with fail
   go_ret2
   exact ⟨_,rfl,HO.out,HW.out⟩
theorem always_any (P n base:Nat) (cs:List (List Int)) (w:World) (h:SpcO w base P n cs) (hc:∀ z∈cs,LitsIn n z) :
  Calls Tryz.prog 19 #[.pointer (some ⟨P,0,none⟩)] w (FixP (fixL (fun v=>!hasI cs n false v) n) w):=by
 have HF:=hide (fixed_any P n base cs false w h hc)
 clear h
 go_enter Tryz.func19,Tryz.ntmps19
 go_wp2_with fail
 refine (HF.out).mono ?_
 rintro e w2 ⟨u,rfl,ho,hb⟩
 have HQ:=hide (show FixP (fixL (fun v=>!hasI cs n false v) n) w (.returned (.tuple #[u,.nilIface])) w2 from ⟨u,rfl,ho,hb⟩)
 clear ho hb
 go_wp2
 go_ret2
 exact HQ.out
theorem never_any (P n base:Nat) (cs:List (List Int)) (w:World) (h:SpcO w base P n cs) (hc:∀ z∈cs,LitsIn n z) :
  Calls Tryz.prog 20 #[.pointer (some ⟨P,0,none⟩)] w (FixP (fixL (fun v=>!hasI cs n true v) n) w):=by
 have HF:=hide (fixed_any P n base cs true w h hc)
 clear h
 go_enter Tryz.func20,Tryz.ntmps20
 go_wp2_with fail
 refine (HF.out).mono ?_
 rintro e w2 ⟨u,rfl,ho,hb⟩
 have HQ:=hide (show FixP (fixL (fun v=>!hasI cs n true v) n) w (.returned (.tuple #[u,.nilIface])) w2 from ⟨u,rfl,ho,hb⟩)
 clear ho hb
 go_wp2
 go_ret2
 exact HQ.out
end Go.Proofs.YtojgbcmhdnappaaGreatDoor
namespace Go.Proofs.YtojgbcmhdnappaaGreatDoor
open Go.RowKit
set_option maxRecDepth 100000
theorem LitsIn.right {n:Nat} {z:List Int} (h:LitsIn n z) (hn:n≤24):rightB z=true:=by
 unfold rightB
 rw [Bool.and_eq_true,List.all_eq_true]
 refine ⟨fun x hx=>?_,decide_eq_true (by have:=h.2;omega)⟩
 have:=h.1 x hx
 unfold badB
 simp
 omega
def SmallP (R:List RuR) (n most:Nat) (w:World) (e:Ending) (w':World):Prop :=
 ∃ A c,e=.returned (.tuple #[.slice A R.length c,.int .i64 (n:Int),.bool (decide (R.length≤200)&&decide (n≤most))])∧ClK w' w.heap.size (.slice A R.length c) (R.map (·.1))∧Below w.heap.size w w'
set_option maxHeartbeats 2000000 in
theorem small_any (v:Value) (qs:List LnQ) (its0:List ItR) (most:Nat) (w:World) (h:LnsR w 0 v qs) (hc:catR (qs.map (·.1))=.inr its0) :
  Calls Tryz.prog 8 #[v,.int .i64 (most:Int)] w (SmallP (rulesF (itemsF (qs.map (·.1))) (qs.map (·.1))) (itemsF (qs.map (·.1))).length most w):=by
 have hq100:qs.length≤100:=by have:=(catR_ok hc).2.2.2.1;simpa using this
 have HRR:=hide (refRules_any v qs its0 w h hc)
 have HIT:=Lib.hid (fun W (h:LnsR W 0 v qs)=>refItems_any v qs W h (by omega))
 have HL:=hide h
 unfold ItsP at HIT
 unfold RefRuP at HRR
 generalize itemsF (qs.map (·.1))=its at HRR HIT ⊢
 generalize rulesF its (qs.map (·.1))=R at HRR ⊢
 obtain ⟨Av,cv,rfl,_⟩:=h.1.len
 clear h hc
 go_enter Tryz.func8,Tryz.ntmps8
 go_wp2_with fail
 refine HRR.out.mono ?_
 rintro e w2 ⟨v2,v3,rfl,hr2,hb2⟩
 have hck:=hr2.cl
 obtain ⟨A2,c2,rfl⟩:=hck.len
 rw [List.length_map] at hck ⊢
 have HCK:=hide hck
 have HB2:=hide hb2
 have HI:=hide (HIT.out w2 (HL.out.below hb2))
 clear hr2 hb2 hck HRR HIT HL
 go_wp2_with fail
 refine HI.out.mono ?_
 rintro e w3 ⟨vi,rfl,ho,hb3⟩
 obtain ⟨Ai,ci,rfl,_⟩:=ho.len
 have HB3:=hide (HB2.out.trans (hb3.mono HB2.out.size))
 have HC3:=hide (HCK.out.below hb3)
 clear ho hb3 HI HB2 HCK
 by_cases h200:R.length≤200
 ·have hd:decide ((R.length:Int)≤200)=true:=decide_eq_true (by omega)
  have hd2:decide (R.length≤200)=true:=decide_eq_true h200
  have hd3:decide ((its.length:Int)≤(most:Int))=decide (its.length≤most):=decide_eq_decide.2 (by omega)
  go_wp2_with fail
  exact bodyPost_ret (v:=.tuple #[.slice A2 R.length c2,.int .i64 (its.length:Int),.bool (decide (its.length≤most))]) (by simp [results,Tryz.results8,go_sem]) rfl ⟨A2,c2,by rw [hd2,Bool.true_and],HC3.out,HB3.out⟩
 ·have hd:decide ((R.length:Int)≤200)=false:=decide_eq_false (by omega)
  have hd2:decide (R.length≤200)=false:=decide_eq_false h200
  go_wp2_with fail
  exact bodyPost_ret (v:=.tuple #[.slice A2 R.length c2,.int .i64 (its.length:Int),.bool false]) (by simp [results,Tryz.results8,go_sem]) rfl ⟨A2,c2,by rw [hd2,Bool.false_and],HC3.out,HB3.out⟩
end Go.Proofs.YtojgbcmhdnappaaGreatDoor
namespace Go.Proofs.YtojgbcmhdnappaaGreatDoor
open Go.RowKit
set_option maxRecDepth 100000
def elU:ElK Nat:=⟨61,1,fun x=>[.int .u64 (x:Int)],by decide,fun _=>rfl,fun _ u hu=>by rw [List.mem_singleton.1 hu];rfl⟩
theorem uintInfoU:(Tryz.prog.info? 61).map (fun i=>(i.zero,i.size,i.bytes))=some (some (.int .u64 0),1,8):=by kernel_rfl
theorem bits_and_i64_nat (a b:Nat) (ha:a<4611686018427387904) (hb:b<4611686018427387904):bits .and .i64 (a:Int) (b:Int)=((a &&& b:Nat):Int):=by
 have hx:a &&& b≤a:=Nat.and_le_left
 have h1:(BitVec.ofInt 64 (a:Int)).toNat=a:=by
  rw [BitVec.ofInt_natCast,BitVec.toNat_ofNat];exact Nat.mod_eq_of_lt (by omega)
 have h2:(BitVec.ofInt 64 (b:Int)).toNat=b:=by
  rw [BitVec.ofInt_natCast,BitVec.toNat_ofNat];exact Nat.mod_eq_of_lt (by omega)
 show IntKind.i64.wrap ((BitVec.ofInt 64 (a:Int) &&& BitVec.ofInt 64 (b:Int)).toNat:Int)=_
 rw [BitVec.toNat_and,h1,h2,IntKind.wrap_i64]
 omega
theorem shr_bitI (k m:Nat) (hk:k<4611686018427387904):(bits BinOp.and IntKind.i64 ((k:Int) / 2 ^ m) 1==1)=k.testBit m:=by
 have e:((k:Int) / 2 ^ m)=((k / 2 ^ m:Nat):Int):=by norm_cast
 have hl:k / 2 ^ m≤k:=Nat.div_le_self _ _
 rw [e,show (1:Int)=((1:Nat):Int) from rfl,bits_and_i64_nat _ _ (by omega) (by omega),Nat.and_one_is_mod,Nat.testBit_eq_decide_div_mod_eq]
 have h1:k / 2 ^ m % 2=0∨k / 2 ^ m % 2=1:=by omega
 rcases h1 with h1 | h1 <;> rw [h1] <;> rfl
theorem revB_step {n v:Nat} (k:Nat) (h:v<n):revB (v+1) (k >>> (n-(v+1)))=revB v (k >>> (n-v))+(if k.testBit (n-1-v)=true then 2 ^ v else 0):=by
 have e:n-v=(n-(v+1))+1:=by omega
 have e2:n-1-v=n-(v+1):=by omega
 rw [revB,e,Nat.shiftRight_succ,e2,Nat.testBit_eq_decide_div_mod_eq,Nat.shiftRight_eq_div_pow]
 congr 1
 by_cases hb:k / 2 ^ (n-(v+1)) % 2=1
 ·rw [if_pos hb,if_pos (decide_eq_true hb)]
 ·rw [if_neg hb,if_neg (by rw [decide_eq_false hb];decide)]
def InstP (ls:List (List Int)) (n:Nat) (w:World) (e:Ending) (w':World):Prop:=∃ v,e=.returned v∧OwnK elU w' w.heap.size v (instR (fun x=>allB (x:Int) ls) n (2 ^ n))∧Below w.heap.size w w'
set_option maxHeartbeats 4000000 in
theorem refInstalls_any (n:Nat) (A:Option Addr) (nc cc:Nat) (ls:List (List Int)) (w:World) (h:Cls w w.heap.size A nc ls) (hr:∀ k,k<nc→rightB (ls.getD k [])=true) (hn:n≤20) :
  Calls Tryz.prog 15 #[.int .i64 (n:Int),.slice A nc cc] w (InstP ls n w):=by
 have HC:=hide h
 have HR:=Lib.hid hr
 have hp20:2 ^ n≤2 ^ 20:=Nat.pow_le_pow_right (by decide) hn
 have hp1:1≤2 ^ n:=Nat.one_le_two_pow
 obtain ⟨T,HT⟩:∃ T,Hid (instR (fun x=>allB (x:Int) ls) n (2 ^ n)=T):=⟨_,Lib.hid rfl⟩
 unfold InstP
 rw [HT.out]
 clear h hr
 go_enter Tryz.func15,Tryz.ntmps15
 have hs0:(2:Int) ^ n=((2 ^ n:Nat):Int):=by norm_cast
 have hs1:wrap64 ((2:Int) ^ n)=((2 ^ n:Nat):Int):=by rw [hs0];unfold wrap64;omega
 have hs2:wrap64 (((2 ^ n:Nat):Int)-1)=((2 ^ n:Nat):Int)-1:=by unfold wrap64;omega
 clear hs0
 have HS:=Lib.hid hs1
 have HS2:=Lib.hid hs2
 generalize hP:2 ^ n=P at HT hs1 hs2 hp20 hp1 HS HS2
 have HPn:=Lib.hid hP
 clear hP
 go_wp2_with fail
 go_loopw [5,6] (fun ov kv wr=>∃ (r:Nat) (out:List Nat),r≤P∧kv=.int .i64 ((r:Int)-1)∧Hid (OwnK elU wr w.heap.size ov out)∧Hid (out++instR (fun x=>allB (x:Int) ls) n r=T)∧Hid (Below w.heap.size w wr)∧out.length+r≤P) (fun _ kv _=>(intOf kv+1).toNat)
 case atStart=>exact ⟨P,[],Nat.le_refl _,rfl,hide (ownK_nil _ _ _),HT,hide (Below.refl _ _),by simp⟩
 case round =>
  obtain ⟨r,out,hr',rfl,HO,HI,HB,hol⟩:=hrel
  by_cases hr0:1≤r
  ·obtain ⟨k,rfl⟩:∃ k,r=k+1:=⟨r-1,by omega⟩
   rw [show (((k+1:Nat):Int)-1)=(k:Int) by omega]
   have hk0:(0:Int)≤(k:Int):=by omega
   clear hs1 hs2
   go_wp2_with fail
   go_loopw [7,17] (fun xv vv wj=>∃ v:Nat,v≤n∧vv=.int .i64 v∧xv=.int .u64 ((revB v (k >>> (n-v)):Nat):Int)∧wj=wr) (fun _ vv _=>n-(intOf vv).toNat)
   case atStart=>exact ⟨0,Nat.zero_le _,rfl,rfl,rfl⟩
   case round =>
    obtain ⟨v,hv,rfl,rfl,rfl⟩:=hrel
    by_cases hvn:v<n
    ·have hvz:(v:Int)<(n:Int):=by omega
     have hw1:wrap64 ((n:Int)-1)=(n:Int)-1:=by unfold wrap64;omega
     have hw2:wrap64 ((n:Int)-1-(v:Int))=((n-1-v:Nat):Int):=by unfold wrap64;omega
     have hmn:min (n-1-v) 64=n-1-v:=by omega
     have hsb:=shr_bitI k (n-1-v) (by omega)
     have HST:=Lib.hid (revB_step k hvn)
     have hrl:=revB_lt v (k >>> (n-v))
     have hp2:2 ^ v≤2 ^ 20:=Nat.pow_le_pow_right (by decide) (by omega)
     have HOR:=Lib.hid (show bits BinOp.or IntKind.u64 ((revB v (k >>> (n-v)):Nat):Int) (IntKind.u64.wrap ((2:Int) ^ v))=((revB v (k >>> (n-v))+2 ^ v:Nat):Int) by
      have e:IntKind.u64.wrap ((2:Int) ^ v)=((2 ^ v:Nat):Int):=by
       rw [show (2:Int) ^ v=((2 ^ v:Nat):Int) by norm_cast,IntKind.wrap_u64];omega
      rw [e,bits_or_u64_nat _ _ (by omega) (by omega)]
      congr 1
      refine Nat.eq_of_testBit_eq fun j=>?_
      rw [Nat.testBit_or,Nat.testBit_two_pow,bit_add hrl,Bool.or_comm]
      congr 1
      exact decide_eq_decide.2 eq_comm)
     have HHB:=Lib.hid hsb
     clear hsb hrl hp2
     cases hbt:k.testBit (n-1-v) with
     | false =>
      have hsb:=HHB.out
      rw [hbt] at hsb
      have hstp:=HST.out
      rw [if_neg (by rw [hbt];decide)] at hstp
      rw [Nat.add_zero] at hstp
      have HSP:=Lib.hid hstp
      clear hstp hbt
      go_wp2_with fail
      go_round
      case rel=>exact ⟨v+1,by omega,by go_num,by rw [HSP.out,Nat.add_zero],trivial⟩
      case measure=>simp [intOf];omega
     | true =>
      have hsb:=HHB.out
      rw [hbt] at hsb
      have hstp:=HST.out
      rw [if_pos hbt] at hstp
      have HSP:=Lib.hid hstp
      clear hstp hbt
      go_wp2_with fail
      go_round
      case rel=>exact ⟨v+1,by omega,by go_num,by rw [HSP.out,HOR.out],trivial⟩
      case measure=>simp [intOf];omega
    ·have hvz:¬(v:Int)<(n:Int):=by omega
     have hvn2:n=v:=by omega
     subst hvn2
     rw [show k >>> (n-n)=k by rw [Nat.sub_self];rfl]
     have hrl:=revB_lt n k
     have hpp:=HPn.out
     have HAH:=hide (refAllHold_any ((revB n k:Nat):Int) A nc cc ls wr ((HC.out.below HB.out).more HB.out.size) HR.out (by omega) (by omega))
     have hw3:wrap64 ((k:Int)-1)=(k:Int)-1:=by unfold wrap64;omega
     have hin:instR (fun x=>allB (x:Int) ls) n (k+1)=(if allB ((revB n k:Nat):Int) ls then [revB n k] else [])++instR (fun x=>allB (x:Int) ls) n k:=rfl
     have HIN:=Lib.hid hin
     clear hin
     generalize hq:revB n k=q at HAH HIN hrl
     clear hq hpp
     go_wp2_with fail
     refine HAH.out.mono ?_
     rintro e w1 ⟨rfl,rfl⟩
     clear HAH
     cases ha:allB (q:Int) ls with
     | false =>
      have HI2:=Lib.hid (show out++instR (fun x=>allB (x:Int) ls) n k=T by rw [←HI.out,HIN.out,ha];rfl)
      clear ha HIN HI
      go_wp2_with fail
      go_round
      case rel=>exact ⟨k,out,by omega,by go_num,HO,HI2,HB,by omega⟩
      case measure=>simp [intOf]
     | true =>
      have HI2:=Lib.hid (show (out++[q])++instR (fun x=>allB (x:Int) ls) n k=T by rw [←HI.out,HIN.out,ha,List.append_assoc];rfl)
      clear ha HIN HI
      have hal:=(Below.refl wr.heap.size wr).alloc (Nat.le_refl _) (.cells #[.int .u64 (q:Int)] 61)
      have HOA:=hide (HO.out.below hal)
      have HBA:=hide (HB.out.trans (hal.mono HB.out.size))
      have HKA:=hide (Blk.new wr 61 #[.int .u64 (q:Int)])
      have hol2:out.length≤90000000:=by omega
      have HOL:=Lib.hid hol2
      clear hal hol2
      go_wp2_with (at_builtin;refine appK1 elU _ uintInfoU rfl (by decide) rfl _ _ _ rfl w.heap.size Tryz.underlying35 _ out rfl HOA.out wr.heap.size 1 q rfl HKA.out HOL.out HBA.out.size ?_;intro v9 w9 ho9 hg9 _;have HO9:=hide ho9;have HB9:=hide (HBA.out.grown hg9 HBA.out.size (fun k hk=>(HOA.out.lt k hk).1));clear ho9 hg9)
      go_round
      case rel=>exact ⟨k,out++[q],by omega,by go_num,HO9,HI2,HB9,by simp;omega⟩
      case measure=>simp [intOf]
  ·have hrz:r=0:=by omega
   subst hrz
   have hT:out=T:=by have:=HI.out;rw [instR,List.append_nil] at this;exact this
   subst hT
   rw [show (((0:Nat):Int)-1)=(-1:Int) from rfl]
   go_wp2_with fail
   exact bodyPost_ret (v:=u5) (by simp [results,Tryz.results15,go_sem]) rfl ⟨u5,rfl,HO.out,HB.out⟩
end Go.Proofs.YtojgbcmhdnappaaGreatDoor
