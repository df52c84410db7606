/-
  A part of the proof: VerD. Conditions: none.
-/
import Derived.Test.YtojgbcmhdnappaaGreatDoorAlVerB
import Derived.Deep.RegionHeld3
namespace Go.Proofs.YtojgbcmhdnappaaGreatDoor
open Go.RowKit
def VerP (s:ByteArray) (w:World) (e:Ending) (w':World):Prop:=∃ v,e=.returned (.tuple #[.agg (verArr (verV s)),v])∧IsErr w' v (verE s,-1)∧Below w.heap.size w w'
def RefVerP (s:ByteArray) (w:World) (e:Ending) (w':World):Prop:=e=.returned (.tuple #[.agg (verArr (verV s)),.int .i64 (verE s)])∧Below w.heap.size w w'
structure VerI (w:World) (s:ByteArray) (t:TypeId) (g gv gs i:Nat) (wr:World):Prop where
 v:Blk wr gv t (verArr (valI s i))
 r:Blk wr g t (verArr fun _=>0)
 c:∀ j,j<3→wr.cell? ⟨gs,j,none⟩=some (.string (dotP s j))
 ok:okTo s i
 bel:Below w.heap.size w wr
 ge:w.heap.size≤gv∧w.heap.size≤g
 ne:gs≠gv∧g≠gv
 lt:gs<wr.heap.size
section
variable {w wr wr':World} {s:ByteArray} {t:TypeId} {g gv gs i:Nat}
theorem VerI.below (h:VerI w s t g gv gs i wr) (hb:Below wr.heap.size wr wr'):VerI w s t g gv gs i wr' :=
 ⟨h.v.below hb h.v.lt,h.r.below hb h.r.lt,fun j hj=>(hb.cell (p:=⟨gs,j,none⟩) h.lt).trans (h.c j hj),h.ok,h.bel.trans (hb.mono h.bel.size),h.ge,h.ne,Nat.lt_of_lt_of_le h.lt hb.size⟩
theorem VerI.put (h:VerI w s t g gv gs i wr) (hi:i<3) (hp:partE (dotB s i)=0):VerI w s t g gv gs (i+1) (wr.setCell ⟨gv,i,none⟩ (.int .i64 (partV (dotB s i)))) :=
 ⟨by rw [←verArr_set s hi];exact h.v.set_ i _,h.r.far h.ne.2 _,fun j hj=>(World.cell?_setCell_other _ _ _ _ (fun e=>h.ne.1 (by injection e with e1;exact e1.symm))).trans (h.c j hj),fun j hj=>by
  rcases Nat.lt_or_ge j i with e | e
  ·exact h.ok j e
  ·obtain rfl:j=i:=by omega
   exact hp,h.bel.setCell (p:=⟨gv,i,none⟩) h.ge.1 _,h.ge,h.ne,by rw [show (wr.setCell ⟨gv,i,none⟩ (.int .i64 (partV (dotB s i)))).heap.size=wr.heap.size by simp [World.setCell]];exact h.lt⟩
end
theorem verI_start {w w':World} {s:ByteArray} {t:TypeId} {g gv gs:Nat} (h1:Blk w' gv t (verArr fun _=>0)) (h2:Blk w' g t (verArr fun _=>0)) (hc:∀ j,j<3→w'.cell? ⟨gs,j,none⟩=some (.string (dotP s j))) (hb:Below w.heap.size w w')
  (hge:w.heap.size≤gv∧w.heap.size≤g) (hne:gs≠gv∧g≠gv) (hlt:gs<w'.heap.size):VerI w s t g gv gs 0 w' :=
 ⟨by rw [show verArr (valI s 0)=verArr fun _=>0 by simp [verArr,valI]];exact h1,h2,hc,fun j hj=>absurd hj (Nat.not_lt_zero _),hb,hge,hne,hlt⟩
theorem blk_three {w:World} {g:Nat} {t:TypeId} {f:Nat→Int} (h:Blk w g t (verArr f)) (a b c:Value):Blk (((w.setCell ⟨g,0,none⟩ a).setCell ⟨g,1,none⟩ b).setCell ⟨g,2,none⟩ c) g t #[a,b,c]:=((h.set_ 0 a).set_ 1 b).set_ 2 c
theorem below_three {w w':World} {g:Nat} (h:Below w.heap.size w w') (hg:w.heap.size≤g) (a b c:Value):Below w.heap.size w (((w'.setCell ⟨g,0,none⟩ a).setCell ⟨g,1,none⟩ b).setCell ⟨g,2,none⟩ c) :=
 ((h.setCell (p:=⟨g,0,none⟩) hg a).setCell (p:=⟨g,1,none⟩) hg b).setCell (p:=⟨g,2,none⟩) hg c
set_option maxRecDepth 100000 in
set_option maxHeartbeats 4000000 in
theorem verParse_any (s:ByteArray) (w:World) (hG:GlobV w) (hs:s.size≤21000):Calls Tryz.prog 127 #[.string s] w (VerP s w):=by
 have HG:=hide hG
 clear hG
 have ha:=(Below.refl w.heap.size w).alloc (Nat.le_refl _) (.cells #[.int .i64 0,.int .i64 0,.int .i64 0] 85)
 have hb:=ha.alloc ha.size (.cells #[.int .i64 0,.int .i64 0,.int .i64 0] 85)
 have HB:=hide hb
 have hk2:=(Blk.new w 85 #[.int .i64 0,.int .i64 0,.int .i64 0]).alloc (.cells #[.int .i64 0,.int .i64 0,.int .i64 0] 85)
 have hk4:=Blk.new (w.alloc (.cells #[.int .i64 0,.int .i64 0,.int .i64 0] 85)) 85 #[.int .i64 0,.int .i64 0,.int .i64 0]
 rw [show (w.alloc (.cells #[.int .i64 0,.int .i64 0,.int .i64 0] 85)).heap.size=w.heap.size+1 by simp] at hk4
 have HK2:=hide hk2
 have HK4:=hide hk4
 have HSP:=hide (split_any s _ (HG.out.below hb) hs)
 clear ha hb hk2 hk4
 go_enter Tryz.func127,Tryz.ntmps127
 go_wp2_with fail
 generalize ((w.alloc (.cells #[.int .i64 0,.int .i64 0,.int .i64 0] 85)).alloc (.cells #[.int .i64 0,.int .i64 0,.int .i64 0] 85))=w1 at HB HK2 HK4 HSP ⊢
 obtain ⟨g,HGG⟩:∃ g,Hid (w.heap.size=g):=⟨_,Lib.hid rfl⟩
 rw [HGG.out] at HK2 HK4 ⊢
 refine (HSP.out).mono ?_
 rintro e w2 ⟨rfl,hc,hlt,hb2⟩
 have HL2:=HK2.out.lt
 have HL4:=HK4.out.lt
 have HB2:=hide (HB.out.trans (hb2.mono HB.out.size))
 have HR2:=hide (HK2.out.below hb2 HK2.out.lt)
 have HV2:=hide (HK4.out.below hb2 HK4.out.lt)
 have HCC:=Lib.hid hc
 have HLT:=Lib.hid hlt
 obtain ⟨gs,HGS⟩:∃ gs,Hid (w1.heap.size=gs):=⟨_,Lib.hid rfl⟩
 rw [HGS.out] at HCC HLT ⊢
 have hngs:gs≠g∧gs≠g+1:=by have:=HGS.out;omega
 clear hc hlt hb2 HSP HB HK2 HK4
 by_cases hl:(dotL s).length=3
 case neg =>
  have HE:=Lib.hid (verE_len hl)
  have HAR:=Lib.hid (verArr_no (s:=s) (by rw [HE.out];decide))
  have hlI:((dotL s).length:Int)≠3:=by omega
  have r0:w2.cell? ⟨g,0,none⟩=some (.int .i64 0):=HR2.out.cell 0
  have r1:w2.cell? ⟨g,1,none⟩=some (.int .i64 0):=HR2.out.cell 1
  have r2:w2.cell? ⟨g,2,none⟩=some (.int .i64 0):=HR2.out.cell 2
  have f0:=HR2.out.frozen 0
  have f1:=HR2.out.frozen 1
  have f2:=HR2.out.frozen 2
  have HN:=hide (blk_three (f:=fun _=>0) HR2.out (.int .i64 0) (.int .i64 0) (.int .i64 0))
  have n0:=HN.out.cell 0
  have n1:=HN.out.cell 1
  have n2:=HN.out.cell 2
  have HBE:=hide (below_three HB2.out (by rw [HGG.out];exact Nat.le_refl _) (.int .i64 0) (.int .i64 0) (.int .i64 0))
  rw [HGG.out] at HBE
  generalize (dotL s).length=L at hlI ⊢
  go_wp2
  exact bodyPost_ret (v:=.tuple #[.agg (verArr fun _=>0),.iface 41 (.int .i64 3)]) (by simp [results,Tryz.results127,go_sem,n0,n1,n2];rfl) rfl ⟨_,by rw [HAR.out],by rw [HE.out];exact .inr (.inl ⟨rfl,by omega,by omega,rfl⟩),by rw [HGG.out];exact HBE.out⟩
 have HLN:=Lib.hid hl
 have HST:=hide (show VerI w s 85 g (g+1) gs 0 w2 from verI_start HV2.out HR2.out (fun j hj=>HCC.out j (by omega)) HB2.out (by have:=HGG.out;omega) ⟨hngs.2,by omega⟩ HLT.out)
 rw [hl]
 clear HV2 HR2 HB2 HCC HLT hl
 go_wp2
 go_loopw [19] (fun iv wr=>∃ i:Nat,i≤3∧iv=.int .i64 (i:Int)∧Hid (VerI w s 85 g (g+1) gs i wr)) (fun iv _=>3-(intOf iv).toNat)
 case atStart=>exact ⟨0,by omega,rfl,HST⟩
 case round =>
  clear HST
  obtain ⟨i,hi,rfl,hI⟩:=hrel
  by_cases hlt:i<3
  ·have hiI:(i:Int)<3:=by omega
   have hci:=hI.out.c i hlt
   have HAT:=hide (atoi_any (dotP s i) wr (HG.out.below hI.out.bel) (Nat.le_trans (dotP_size s i) hs))
   have HOK:=Lib.hid hI.out.ok
   go_wp2_with fail
   refine (HAT.out).mono ?_
   rintro e w3 ⟨hr,hb3⟩
   have HI3:=hide (hI.out.below hb3)
   have HG3:=hide (HG.out.below HI3.out.bel)
   clear hb3 HAT hI hci
   rcases hr with ⟨v,hok,hv,rfl⟩ | ⟨hn,x,tx,px,rfl⟩
   ·have HT:=hide (itoa_any v w3 HG3.out.t hv)
    unfold TextP at HT
    by_cases he:Lib.itoa v=dotB s i
    ·have HNF:=Lib.hid (show numF (dotB s i)=some v by unfold dotB at he ⊢;rw [numF_ok hok,if_pos he])
     rw [bytes_back _ (dotP s i) he] at HT
     have hss:((dotP s i).toList==(dotP s i).toList)=true:=by simp
     have hsn:(!((dotP s i).toList==(dotP s i).toList))=false:=by simp
     clear hok he
     generalize dotP s i=q at HT hss hsn
     go_wp2_with fail
     refine (HT.out).mono ?_
     rintro e w4 ⟨rfl,hb4⟩
     have HI4:=hide (HI3.out.below hb4)
     clear hb4 HT HI3 HG3
     by_cases hneg:v<0
     ·have HE:=Lib.hid ((verE_at HLN.out hlt HOK.out (by rw [partE_neg HNF.out hneg];decide)).trans (partE_neg HNF.out hneg))
      have HAR:=Lib.hid (verArr_no (s:=s) (by rw [HE.out];decide))
      have r0:w4.cell? ⟨g,0,none⟩=some (.int .i64 0):=HI4.out.r.cell 0
      have r1:w4.cell? ⟨g,1,none⟩=some (.int .i64 0):=HI4.out.r.cell 1
      have r2:w4.cell? ⟨g,2,none⟩=some (.int .i64 0):=HI4.out.r.cell 2
      have f0:=HI4.out.r.frozen 0
      have f1:=HI4.out.r.frozen 1
      have f2:=HI4.out.r.frozen 2
      have HN:=hide (blk_three HI4.out.r (.int .i64 0) (.int .i64 0) (.int .i64 0))
      have n0:=HN.out.cell 0
      have n1:=HN.out.cell 1
      have n2:=HN.out.cell 2
      have HBE:=hide (below_three HI4.out.bel (by rw [HGG.out];exact Nat.le_refl _) (.int .i64 0) (.int .i64 0) (.int .i64 0))
      go_wp2
      exact bodyPost_ret (v:=.tuple #[.agg (verArr fun _=>0),.iface 41 (.int .i64 3)]) (by simp [results,Tryz.results127,go_sem,n0,n1,n2];rfl) rfl ⟨_,by rw [HAR.out],by rw [HE.out];exact .inr (.inl ⟨rfl,by omega,by omega,rfl⟩),HBE.out⟩
     ·by_cases hbig:999<v
      ·have HE:=Lib.hid ((verE_at HLN.out hlt HOK.out (by rw [partE_big HNF.out hneg hbig];decide)).trans (partE_big HNF.out hneg hbig))
       have HAR:=Lib.hid (verArr_no (s:=s) (by rw [HE.out];decide))
       have r0:w4.cell? ⟨g,0,none⟩=some (.int .i64 0):=HI4.out.r.cell 0
       have r1:w4.cell? ⟨g,1,none⟩=some (.int .i64 0):=HI4.out.r.cell 1
       have r2:w4.cell? ⟨g,2,none⟩=some (.int .i64 0):=HI4.out.r.cell 2
       have f0:=HI4.out.r.frozen 0
       have f1:=HI4.out.r.frozen 1
       have f2:=HI4.out.r.frozen 2
       have HN:=hide (blk_three HI4.out.r (.int .i64 0) (.int .i64 0) (.int .i64 0))
       have n0:=HN.out.cell 0
       have n1:=HN.out.cell 1
       have n2:=HN.out.cell 2
       have HBE:=hide (below_three HI4.out.bel (by rw [HGG.out];exact Nat.le_refl _) (.int .i64 0) (.int .i64 0) (.int .i64 0))
       go_wp2
       exact bodyPost_ret (v:=.tuple #[.agg (verArr fun _=>0),.iface 41 (.int .i64 2)]) (by simp [results,Tryz.results127,go_sem,n0,n1,n2];rfl) rfl ⟨_,by rw [HAR.out],by rw [HE.out];exact .inr (.inl ⟨rfl,by omega,by omega,rfl⟩),HBE.out⟩
      ·obtain ⟨hp0,hp1⟩:=partE_fine HNF.out hneg hbig
       have HI5:=HI4.out.put hlt hp0
       rw [hp1] at HI5
       have HI5:=hide HI5
       have c0:∃ u,w4.cell? ⟨g+1,i,none⟩=some u:=by
        rcases (show i=0∨i=1∨i=2 by omega) with rfl | rfl | rfl
        ·exact ⟨_,HI4.out.v.cell 0⟩
        ·exact ⟨_,HI4.out.v.cell 1⟩
        ·exact ⟨_,HI4.out.v.cell 2⟩
       obtain ⟨u,c0⟩:=c0
       have f0:=HI4.out.v.frozen i
       clear hp0 hp1 HI4
       go_wp2
       go_roundw
       case rel=>exact ⟨i+1,by omega,by go_num,HI5⟩
       case measure=>simp [intOf];omega
    ·have HNF:=Lib.hid (show numF (dotB s i)=none by unfold dotB at he ⊢;rw [numF_ok hok,if_neg he])
     have hq:=bytes_bne (s:=dotP s i) he
     generalize (⟨(Lib.itoa v).toArray⟩:ByteArray)=q at HT hq
     generalize dotP s i=q2 at hq
     have hqn:(!(q.toList==q2.toList))=true:=by rw [hq];rfl
     have HE:=Lib.hid ((verE_at HLN.out hlt HOK.out (by rw [partE_none HNF.out];decide)).trans (partE_none HNF.out))
     clear hok he
     go_wp2_with fail
     refine (HT.out).mono ?_
     rintro e w4 ⟨rfl,hb4⟩
     have HI4:=hide (HI3.out.below hb4)
     clear hb4 HT HI3 HG3
     have HAR:=Lib.hid (verArr_no (s:=s) (by rw [HE.out];decide))
     have r0:w4.cell? ⟨g,0,none⟩=some (.int .i64 0):=HI4.out.r.cell 0
     have r1:w4.cell? ⟨g,1,none⟩=some (.int .i64 0):=HI4.out.r.cell 1
     have r2:w4.cell? ⟨g,2,none⟩=some (.int .i64 0):=HI4.out.r.cell 2
     have f0:=HI4.out.r.frozen 0
     have f1:=HI4.out.r.frozen 1
     have f2:=HI4.out.r.frozen 2
     have HN:=hide (blk_three HI4.out.r (.int .i64 0) (.int .i64 0) (.int .i64 0))
     have n0:=HN.out.cell 0
     have n1:=HN.out.cell 1
     have n2:=HN.out.cell 2
     have HBE:=hide (below_three HI4.out.bel (by rw [HGG.out];exact Nat.le_refl _) (.int .i64 0) (.int .i64 0) (.int .i64 0))
     go_wp2
     exact bodyPost_ret (v:=.tuple #[.agg (verArr fun _=>0),.iface 41 (.int .i64 3)]) (by simp [results,Tryz.results127,go_sem,n0,n1,n2];rfl) rfl ⟨_,by rw [HAR.out],by rw [HE.out];exact .inr (.inl ⟨rfl,by omega,by omega,rfl⟩),HBE.out⟩
   ·have hn:numF (dotB s i)=none:=hn
    have HE:=Lib.hid ((verE_at HLN.out hlt HOK.out (by rw [partE_none hn];decide)).trans (partE_none hn))
    clear hn HG3
    have HAR:=Lib.hid (verArr_no (s:=s) (by rw [HE.out];decide))
    have r0:w3.cell? ⟨g,0,none⟩=some (.int .i64 0):=HI3.out.r.cell 0
    have r1:w3.cell? ⟨g,1,none⟩=some (.int .i64 0):=HI3.out.r.cell 1
    have r2:w3.cell? ⟨g,2,none⟩=some (.int .i64 0):=HI3.out.r.cell 2
    have f0:=HI3.out.r.frozen 0
    have f1:=HI3.out.r.frozen 1
    have f2:=HI3.out.r.frozen 2
    have HN:=hide (blk_three HI3.out.r (.int .i64 0) (.int .i64 0) (.int .i64 0))
    have n0:=HN.out.cell 0
    have n1:=HN.out.cell 1
    have n2:=HN.out.cell 2
    have HBE:=hide (below_three HI3.out.bel (by rw [HGG.out];exact Nat.le_refl _) (.int .i64 0) (.int .i64 0) (.int .i64 0))
    go_wp2
    exact bodyPost_ret (v:=.tuple #[.agg (verArr fun _=>0),.iface 41 (.int .i64 3)]) (by simp [results,Tryz.results127,go_sem,n0,n1,n2];rfl) rfl ⟨_,by rw [HAR.out],by rw [HE.out];exact .inr (.inl ⟨rfl,by omega,by omega,rfl⟩),HBE.out⟩
  ·obtain rfl:i=3:=by omega
   have HE:=Lib.hid (verE_ok HLN.out hI.out.ok)
   have HAR:=Lib.hid (verArr_end HE.out)
   have v0:wr.cell? ⟨g+1,0,none⟩=some (.int .i64 (valI s 3 0)):=hI.out.v.cell 0
   have v1:wr.cell? ⟨g+1,1,none⟩=some (.int .i64 (valI s 3 1)):=hI.out.v.cell 1
   have v2:wr.cell? ⟨g+1,2,none⟩=some (.int .i64 (valI s 3 2)):=hI.out.v.cell 2
   have f0:=hI.out.r.frozen 0
   have f1:=hI.out.r.frozen 1
   have f2:=hI.out.r.frozen 2
   have r0:wr.cell? ⟨g,0,none⟩=some (.int .i64 0):=hI.out.r.cell 0
   have r1:wr.cell? ⟨g,1,none⟩=some (.int .i64 0):=hI.out.r.cell 1
   have r2:wr.cell? ⟨g,2,none⟩=some (.int .i64 0):=hI.out.r.cell 2
   have HN:=hide (blk_three hI.out.r (.int .i64 (valI s 3 0)) (.int .i64 (valI s 3 1)) (.int .i64 (valI s 3 2)))
   have n0:=HN.out.cell 0
   have n1:=HN.out.cell 1
   have n2:=HN.out.cell 2
   have HBE:=hide (below_three hI.out.bel (by rw [HGG.out];exact Nat.le_refl _) (.int .i64 (valI s 3 0)) (.int .i64 (valI s 3 1)) (.int .i64 (valI s 3 2)))
   go_wp2
   exact bodyPost_ret (v:=.tuple #[.agg (verArr (valI s 3)),.nilIface]) (by simp [results,Tryz.results127,go_sem,n0,n1,n2];rfl) rfl ⟨_,by rw [HAR.out],by rw [HE.out];exact .inl ⟨rfl,rfl⟩,HBE.out⟩
set_option maxRecDepth 100000 in
set_option maxHeartbeats 4000000 in
theorem refVerParse_any (s:ByteArray) (w:World) (hG:GlobV w) (hs:s.size≤21000):Calls Tryz.prog 72 #[.string s] w (RefVerP s w):=by
 have HG:=hide hG
 clear hG
 have hb:=(Below.refl w.heap.size w).alloc (Nat.le_refl _) (.cells #[.int .i64 0,.int .i64 0,.int .i64 0] 30)
 have HB:=hide hb
 have HK2:=hide (Blk.new w 30 #[.int .i64 0,.int .i64 0,.int .i64 0])
 have HSP:=hide (split_any s _ (HG.out.below hb) hs)
 have hz1:(w.alloc (.cells #[.int .i64 0,.int .i64 0,.int .i64 0] 30)).heap.size=w.heap.size+1:=by simp
 have HZ1:=Lib.hid hz1
 clear hb hz1
 go_enter Tryz.func72,Tryz.ntmps72
 go_wp2_with fail
 generalize (w.alloc (.cells #[.int .i64 0,.int .i64 0,.int .i64 0] 30))=w1 at HB HK2 HSP HZ1 ⊢
 obtain ⟨g,HGG⟩:∃ g,Hid (w.heap.size=g):=⟨_,Lib.hid rfl⟩
 rw [HGG.out] at HK2 HZ1 ⊢
 refine (HSP.out).mono ?_
 rintro e w2 ⟨rfl,hc,hlt,hb2⟩
 have HB2:=hide (HB.out.trans (hb2.mono HB.out.size))
 have HR2:=hide (HK2.out.below hb2 HK2.out.lt)
 have HCC:=Lib.hid hc
 have HLT:=Lib.hid hlt
 obtain ⟨gs,HGS⟩:∃ gs,Hid (w1.heap.size=gs):=⟨_,Lib.hid rfl⟩
 rw [HGS.out] at HCC HLT ⊢
 clear hc hlt hb2 HSP HB HK2 HZ1
 by_cases hl:(dotL s).length=3
 case neg =>
  have HE:=Lib.hid (verE_len hl)
  have hlI:((dotL s).length:Int)≠3:=by omega
  generalize (dotL s).length=L at hlI ⊢
  have HAR:=Lib.hid (verArr_no (s:=s) (by rw [HE.out];decide))
  have r0:w2.cell? ⟨g,0,none⟩=some (.int .i64 0):=HR2.out.cell 0
  have r1:w2.cell? ⟨g,1,none⟩=some (.int .i64 0):=HR2.out.cell 1
  have r2:w2.cell? ⟨g,2,none⟩=some (.int .i64 0):=HR2.out.cell 2
  have f0:=HR2.out.frozen 0
  have f1:=HR2.out.frozen 1
  have f2:=HR2.out.frozen 2
  have HN:=hide (blk_three (f:=fun _=>0) HR2.out (.int .i64 0) (.int .i64 0) (.int .i64 0))
  have n0:=HN.out.cell 0
  have n1:=HN.out.cell 1
  have n2:=HN.out.cell 2
  have HBE:=hide (below_three HB2.out (by rw [HGG.out];exact Nat.le_refl _) (.int .i64 0) (.int .i64 0) (.int .i64 0))
  go_wp2
  exact bodyPost_ret (v:=.tuple #[.agg (verArr fun _=>0),.int .i64 3]) (by simp [results,Tryz.results72,go_sem,n0,n1,n2];rfl) rfl ⟨by rw [HAR.out,HE.out],HBE.out⟩
 have HLN:=Lib.hid hl
 have hal:=(Below.refl w2.heap.size w2).alloc (Nat.le_refl _) (.cells #[.int .i64 0,.int .i64 0,.int .i64 0] 30)
 have HST:=hide (show VerI w s 30 g w2.heap.size gs 0 (w2.alloc (.cells #[.int .i64 0,.int .i64 0,.int .i64 0] 30)) from
  verI_start (Blk.new w2 _ _) (HR2.out.below hal HR2.out.lt) (fun j hj=>(hal.cell (p:=⟨gs,j,none⟩) HLT.out).trans (HCC.out j (by omega))) (HB2.out.trans (hal.mono HB2.out.size)) ⟨HB2.out.size,by have:=HGG.out;omega⟩ ⟨by have:=HLT.out;omega,by have:=HR2.out.lt;omega⟩ (Nat.lt_of_lt_of_le HLT.out hal.size))
 rw [hl]
 clear HR2 HB2 HCC HLT hl hal
 go_wp2
 generalize (w2.alloc (.cells #[.int .i64 0,.int .i64 0,.int .i64 0] 30))=wq at HST ⊢
 generalize w2.heap.size=gv at HST ⊢
 go_loopw [18] (fun iv wr=>∃ i:Nat,i≤3∧iv=.int .i64 (i:Int)∧Hid (VerI w s 30 g gv gs i wr)) (fun iv _=>3-(intOf iv).toNat)
 case atStart=>exact ⟨0,by omega,rfl,HST⟩
 case round =>
  clear HST
  obtain ⟨i,hi,rfl,hI⟩:=hrel
  by_cases hlt:i<3
  ·have hiI:(i:Int)<3:=by omega
   have hci:=hI.out.c i hlt
   have HAT:=hide (number_any (dotP s i) wr (HG.out.below hI.out.bel) (Nat.le_trans (dotP_size s i) hs))
   have HOK:=Lib.hid hI.out.ok
   go_wp2_with fail
   refine (HAT.out).mono ?_
   rintro e w3 ⟨rfl,hb3⟩
   rw [show numF (dotP s i).data.toList=numF (dotB s i) from rfl]
   have HI4:=hide (hI.out.below hb3)
   clear hb3 HAT hI hci
   cases hn:numF (dotB s i) with
   | none =>
    have HE:=Lib.hid ((verE_at HLN.out hlt HOK.out (by rw [partE_none hn];decide)).trans (partE_none hn))
    clear hn
    have HAR:=Lib.hid (verArr_no (s:=s) (by rw [HE.out];decide))
    have r0:w3.cell? ⟨g,0,none⟩=some (.int .i64 0):=HI4.out.r.cell 0
    have r1:w3.cell? ⟨g,1,none⟩=some (.int .i64 0):=HI4.out.r.cell 1
    have r2:w3.cell? ⟨g,2,none⟩=some (.int .i64 0):=HI4.out.r.cell 2
    have f0:=HI4.out.r.frozen 0
    have f1:=HI4.out.r.frozen 1
    have f2:=HI4.out.r.frozen 2
    have HN:=hide (blk_three (f:=fun _=>0) HI4.out.r (.int .i64 0) (.int .i64 0) (.int .i64 0))
    have n0:=HN.out.cell 0
    have n1:=HN.out.cell 1
    have n2:=HN.out.cell 2
    have HBE:=hide (below_three HI4.out.bel (by rw [HGG.out];exact Nat.le_refl _) (.int .i64 0) (.int .i64 0) (.int .i64 0))
    go_wp2
    exact bodyPost_ret (v:=.tuple #[.agg (verArr fun _=>0),.int .i64 3]) (by simp [results,Tryz.results72,go_sem,n0,n1,n2];rfl) rfl ⟨by rw [HAR.out,HE.out],HBE.out⟩
   | some v =>
    have HNF:=Lib.hid hn
    clear hn
    by_cases hneg:v<0
    ·have HE:=Lib.hid ((verE_at HLN.out hlt HOK.out (by rw [partE_neg HNF.out hneg];decide)).trans (partE_neg HNF.out hneg))
     have HAR:=Lib.hid (verArr_no (s:=s) (by rw [HE.out];decide))
     have r0:w3.cell? ⟨g,0,none⟩=some (.int .i64 0):=HI4.out.r.cell 0
     have r1:w3.cell? ⟨g,1,none⟩=some (.int .i64 0):=HI4.out.r.cell 1
     have r2:w3.cell? ⟨g,2,none⟩=some (.int .i64 0):=HI4.out.r.cell 2
     have f0:=HI4.out.r.frozen 0
     have f1:=HI4.out.r.frozen 1
     have f2:=HI4.out.r.frozen 2
     have HN:=hide (blk_three (f:=fun _=>0) HI4.out.r (.int .i64 0) (.int .i64 0) (.int .i64 0))
     have n0:=HN.out.cell 0
     have n1:=HN.out.cell 1
     have n2:=HN.out.cell 2
     have HBE:=hide (below_three HI4.out.bel (by rw [HGG.out];exact Nat.le_refl _) (.int .i64 0) (.int .i64 0) (.int .i64 0))
     go_wp2
     exact bodyPost_ret (v:=.tuple #[.agg (verArr fun _=>0),.int .i64 3]) (by simp [results,Tryz.results72,go_sem,n0,n1,n2];rfl) rfl ⟨by rw [HAR.out,HE.out],HBE.out⟩
    ·by_cases hbig:999<v
     ·have HE:=Lib.hid ((verE_at HLN.out hlt HOK.out (by rw [partE_big HNF.out hneg hbig];decide)).trans (partE_big HNF.out hneg hbig))
      have HAR:=Lib.hid (verArr_no (s:=s) (by rw [HE.out];decide))
      have r0:w3.cell? ⟨g,0,none⟩=some (.int .i64 0):=HI4.out.r.cell 0
      have r1:w3.cell? ⟨g,1,none⟩=some (.int .i64 0):=HI4.out.r.cell 1
      have r2:w3.cell? ⟨g,2,none⟩=some (.int .i64 0):=HI4.out.r.cell 2
      have f0:=HI4.out.r.frozen 0
      have f1:=HI4.out.r.frozen 1
      have f2:=HI4.out.r.frozen 2
      have HN:=hide (blk_three (f:=fun _=>0) HI4.out.r (.int .i64 0) (.int .i64 0) (.int .i64 0))
      have n0:=HN.out.cell 0
      have n1:=HN.out.cell 1
      have n2:=HN.out.cell 2
      have HBE:=hide (below_three HI4.out.bel (by rw [HGG.out];exact Nat.le_refl _) (.int .i64 0) (.int .i64 0) (.int .i64 0))
      go_wp2
      exact bodyPost_ret (v:=.tuple #[.agg (verArr fun _=>0),.int .i64 2]) (by simp [results,Tryz.results72,go_sem,n0,n1,n2];rfl) rfl ⟨by rw [HAR.out,HE.out],HBE.out⟩
     ·obtain ⟨hp0,hp1⟩:=partE_fine HNF.out hneg hbig
      have HI5:=HI4.out.put hlt hp0
      rw [hp1] at HI5
      have HI5:=hide HI5
      have c0:∃ u,w3.cell? ⟨gv,i,none⟩=some u:=by
       rcases (show i=0∨i=1∨i=2 by omega) with rfl | rfl | rfl
       ·exact ⟨_,HI4.out.v.cell 0⟩
       ·exact ⟨_,HI4.out.v.cell 1⟩
       ·exact ⟨_,HI4.out.v.cell 2⟩
      obtain ⟨u,c0⟩:=c0
      have f0:=HI4.out.v.frozen i
      clear hp0 hp1 HI4
      go_wp2
      go_roundw
      case rel=>exact ⟨i+1,by omega,by go_num,HI5⟩
      case measure=>simp [intOf];omega
  ·obtain rfl:i=3:=by omega
   have HE:=Lib.hid (verE_ok HLN.out hI.out.ok)
   have HAR:=Lib.hid (verArr_end HE.out)
   have v0:wr.cell? ⟨gv,0,none⟩=some (.int .i64 (valI s 3 0)):=hI.out.v.cell 0
   have v1:wr.cell? ⟨gv,1,none⟩=some (.int .i64 (valI s 3 1)):=hI.out.v.cell 1
   have v2:wr.cell? ⟨gv,2,none⟩=some (.int .i64 (valI s 3 2)):=hI.out.v.cell 2
   have f0:=hI.out.r.frozen 0
   have f1:=hI.out.r.frozen 1
   have f2:=hI.out.r.frozen 2
   have r0:wr.cell? ⟨g,0,none⟩=some (.int .i64 0):=hI.out.r.cell 0
   have r1:wr.cell? ⟨g,1,none⟩=some (.int .i64 0):=hI.out.r.cell 1
   have r2:wr.cell? ⟨g,2,none⟩=some (.int .i64 0):=hI.out.r.cell 2
   have HN:=hide (blk_three hI.out.r (.int .i64 (valI s 3 0)) (.int .i64 (valI s 3 1)) (.int .i64 (valI s 3 2)))
   have n0:=HN.out.cell 0
   have n1:=HN.out.cell 1
   have n2:=HN.out.cell 2
   have HBE:=hide (below_three hI.out.bel (by rw [HGG.out];exact Nat.le_refl _) (.int .i64 (valI s 3 0)) (.int .i64 (valI s 3 1)) (.int .i64 (valI s 3 2)))
   go_wp2
   exact bodyPost_ret (v:=.tuple #[.agg (verArr (valI s 3)),.int .i64 0]) (by simp [results,Tryz.results72,go_sem,n0,n1,n2];rfl) rfl ⟨by rw [HAR.out,HE.out],HBE.out⟩
end Go.Proofs.YtojgbcmhdnappaaGreatDoor
namespace Go.Proofs.YtojgbcmhdnappaaGreatDoor
open Go.RowKit
def cmp1 (x y:Int):Int:=if x<y then -1 else if y<x then 1 else 0
theorem cmpOne_any (x y:Int) (w:World):Calls Tryz.prog 237 #[.int .i64 x,.int .i64 y] w (fun e w'=>e=.returned (.int .i64 (cmp1 x y))∧w'=w):=by
 rcases (show x<y∨x=y∨y<x by omega) with h | h | h
 ·go_enter Tryz.func237,Tryz.ntmps237
  go_wp2
  go_ret
  exact ⟨by unfold cmp1;rw [if_pos h];rfl,rfl⟩
 ·subst h
  go_enter Tryz.func237,Tryz.ntmps237
  go_wp2
  go_ret
  exact ⟨by unfold cmp1;rw [if_neg (by omega),if_neg (by omega)];rfl,rfl⟩
 ·have h2:¬x<y:=by omega
  go_enter Tryz.func237,Tryz.ntmps237
  go_wp2
  go_ret
  exact ⟨by unfold cmp1;rw [if_neg (by omega),if_pos h];rfl,rfl⟩
def cmpV (a b:Nat→Int):Int:=if cmp1 (a 0) (b 0)≠0 then cmp1 (a 0) (b 0) else if cmp1 (a 1) (b 1)≠0 then cmp1 (a 1) (b 1) else cmp1 (a 2) (b 2)
def sameTo (a b:Nat→Int) (i:Nat):Prop:=∀ j,j<i→cmp1 (a j) (b j)=0
theorem cmpV_at {a b:Nat→Int} {i:Nat} (hi:i<3) (h:sameTo a b i) (hne:cmp1 (a i) (b i)≠0):cmpV a b=cmp1 (a i) (b i):=by
 unfold cmpV
 rcases (show i=0∨i=1∨i=2 by omega) with rfl | rfl | rfl
 ·rw [if_pos hne]
 ·rw [if_neg (fun e=>e (h 0 (by omega))),if_pos hne]
 ·rw [if_neg (fun e=>e (h 0 (by omega))),if_neg (fun e=>e (h 1 (by omega)))]
theorem cmpV_same {a b:Nat→Int} (h:sameTo a b 3):cmpV a b=0:=by
 unfold cmpV
 rw [if_neg (fun e=>e (h 0 (by omega))),if_neg (fun e=>e (h 1 (by omega))),h 2 (by omega)]
theorem sameTo_succ {a b:Nat→Int} {i:Nat} (h:sameTo a b i) (he:cmp1 (a i) (b i)=0):sameTo a b (i+1):=fun j hj=>by
 rcases Nat.lt_or_ge j i with e | e
 ·exact h j e
 ·obtain rfl:j=i:=by omega
  exact he
theorem cmp1_cases (x y:Int):(x<y∧cmp1 x y = -1)∨(y<x∧¬x<y∧cmp1 x y=1)∨(x=y∧cmp1 x y=0):=by
 unfold cmp1
 rcases (show x<y∨x=y∨y<x by omega) with h | h | h
 ·exact .inl ⟨h,if_pos h⟩
 ·exact .inr (.inr ⟨h,by rw [if_neg (by omega),if_neg (by omega)]⟩)
 ·exact .inr (.inl ⟨h,by omega,by rw [if_neg (by omega),if_pos h]⟩)
theorem arr_cell {w:World} {g:Nat} {t:TypeId} {f:Nat→Int} (h:Blk w g t (verArr f)) {i:Nat} (hi:i<3):w.cell? ⟨g,i,none⟩=some (.int .i64 (f i)):=by
 rcases (show i=0∨i=1∨i=2 by omega) with rfl | rfl | rfl
 ·exact h.cell 0
 ·exact h.cell 1
 ·exact h.cell 2
def CmpP (a b:Nat→Int) (w:World) (e:Ending) (w':World):Prop:=e=.returned (.int .i64 (cmpV a b))∧∃ q,w'=w.drewN q
set_option maxHeartbeats 2000000 in
theorem compare_any (g g':Nat) (t t':TypeId) (a b:Nat→Int) (w:World) (h1:Blk w g t (verArr a)) (h2:Blk w g' t' (verArr b)) :
  Calls Tryz.prog 185 #[.slice (some ⟨g,0,none⟩) 3 3,.slice (some ⟨g',0,none⟩) 3 3] w (CmpP a b w):=by
 have HC:=Lib.hid (fun i (hi:i<3)=>And.intro (arr_cell h1 hi) (arr_cell h2 hi))
 clear h1 h2
 go_enter Tryz.func185,Tryz.ntmps185
 go_wp2
 go_loop [11] (fun iv=>∃ i:Nat,i≤3∧iv=.int .i64 (i:Int)∧Hid (sameTo a b i)) (fun iv=>3-(intOf iv).toNat)
 case atStart=>exact ⟨0,by omega,rfl,Lib.hid fun j hj=>absurd hj (Nat.not_lt_zero _)⟩
 case round =>
  obtain ⟨i,hi,rfl,hS⟩:=hrel
  by_cases hlt:i<3
  ·obtain ⟨c1,c2⟩:=HC.out i hlt
   have hiI:(i:Int)<3:=by omega
   have HO:=hide (cmpOne_any (a i) (b i) w)
   by_cases he:cmp1 (a i) (b i)=0
   ·have HS:=Lib.hid (sameTo_succ hS.out he)
    rw [he] at HO
    clear hS he
    go_wp2_with fail
    refine (HO.out).mono ?_
    rintro e w2 ⟨rfl,rfl⟩
    go_wp2
    go_round
    case rel=>exact ⟨i+1,by omega,by go_num,HS⟩
    case measure=>simp [intOf];omega
   ·have HV:=Lib.hid (cmpV_at hlt hS.out he)
    generalize cmp1 (a i) (b i)=c at HO he HV
    clear hS
    go_wp2_with fail
    refine (HO.out).mono ?_
    rintro e w2 ⟨rfl,rfl⟩
    go_wp2
    go_ret
    exact ⟨by rw [HV.out];rfl,0,rfl⟩
  ·obtain rfl:i=3:=by omega
   have HV:=Lib.hid (cmpV_same hS.out)
   go_wp2
   go_ret
   exact ⟨by rw [HV.out];rfl,0,rfl⟩
theorem slice_ver (a:Addr) (w:World):(Instr.sliceAt 85 (.pointer (some a)) none none none).run Tryz.prog w=.ok (.slice (some a) 3 3) w:=by
 rw [run_sliceAt_array_all (P:=Tryz.prog) w 85 a (by kernel_rfl),show Tryz.prog.arrayLen 85=3 by kernel_rfl,show ((sizeOf (Tryz.prog.elem 85)).run Tryz.prog w)=.ok 1 w by kernel_rfl]
 simp [slicedAt,Result.andThen,Addr.add]
def CmpB (a b:Nat→Int) (w:World) (e:Ending) (w':World):Prop:=e=.returned (.int .i64 (cmpV a b))∧Below w.heap.size w w'
set_option maxHeartbeats 2000000 in
theorem refVerCmp_any (a b:Nat→Int) (w:World):Calls Tryz.prog 95 #[.agg (verArr a),.agg (verArr b)] w (CmpB a b w):=by
 have ha:=(Below.refl w.heap.size w).alloc (Nat.le_refl _) (.cells #[.int .i64 (a 0),.int .i64 (a 1),.int .i64 (a 2)] 30)
 have hb:=ha.alloc ha.size (.cells #[.int .i64 (b 0),.int .i64 (b 1),.int .i64 (b 2)] 30)
 have HB:=hide hb
 have hk2:=(Blk.new w 30 #[.int .i64 (a 0),.int .i64 (a 1),.int .i64 (a 2)]).alloc (.cells #[.int .i64 (b 0),.int .i64 (b 1),.int .i64 (b 2)] 30)
 have hk4:=Blk.new (w.alloc (.cells #[.int .i64 (a 0),.int .i64 (a 1),.int .i64 (a 2)] 30)) 30 #[.int .i64 (b 0),.int .i64 (b 1),.int .i64 (b 2)]
 rw [show (w.alloc (.cells #[.int .i64 (a 0),.int .i64 (a 1),.int .i64 (a 2)] 30)).heap.size=w.heap.size+1 by simp] at hk4
 have HC:=Lib.hid (fun (wr:World) (hb:Below ((w.alloc (.cells #[.int .i64 (a 0),.int .i64 (a 1),.int .i64 (a 2)] 30)).alloc (.cells #[.int .i64 (b 0),.int .i64 (b 1),.int .i64 (b 2)] 30)).heap.size ((w.alloc (.cells #[.int .i64 (a 0),.int .i64 (a 1),.int .i64 (a 2)] 30)).alloc (.cells #[.int .i64 (b 0),.int .i64 (b 1),.int .i64 (b 2)] 30)) wr) (i:Nat) (hi:i<3)=>And.intro (arr_cell (f:=a) (hk2.below hb hk2.lt) hi) (arr_cell (f:=b) (hk4.below hb hk4.lt) hi))
 clear ha hb hk2 hk4
 go_enter Tryz.func95,Tryz.ntmps95
 unfold verArr
 go_wp2
 generalize ((w.alloc (.cells #[.int .i64 (a 0),.int .i64 (a 1),.int .i64 (a 2)] 30)).alloc (.cells #[.int .i64 (b 0),.int .i64 (b 1),.int .i64 (b 2)] 30))=w1 at HB HC ⊢
 go_loopw [6] (fun iv wr=>∃ i:Nat,i≤3∧iv=.int .i64 (i:Int)∧Hid (sameTo a b i)∧Hid (Below w1.heap.size w1 wr)) (fun iv _=>3-(intOf iv).toNat)
 case atStart=>exact ⟨0,by omega,rfl,Lib.hid fun j hj=>absurd hj (Nat.not_lt_zero _),hide (Below.refl _ _)⟩
 case round =>
  obtain ⟨i,hi,rfl,hS,hW⟩:=hrel
  by_cases hlt:i<3
  ·obtain ⟨c1,c2⟩:=HC.out wr hW.out i hlt
   have hiI:(i:Int)<3:=by omega
   rcases cmp1_cases (a i) (b i) with ⟨h1,he⟩ | ⟨h1,h2,he⟩ | ⟨h1,he⟩
   ·have HV:=Lib.hid ((cmpV_at hlt hS.out (by rw [he];decide)).trans he)
    have hd:decide (a i<b i)=true:=decide_eq_true h1
    generalize a i=x at c1 h1 hd
    generalize b i=y at c2 h1 hd
    clear hS he
    go_wp2
    go_quiet (fail)
    go_wp2
    go_ret
    exact ⟨by rw [HV.out];rfl,HB.out.trans ((below_drewN hW.out _).mono HB.out.size)⟩
   ·have HV:=Lib.hid ((cmpV_at hlt hS.out (by rw [he];decide)).trans he)
    have hd:decide (a i<b i)=false:=decide_eq_false h2
    have hd2:decide (b i<a i)=true:=decide_eq_true h1
    generalize a i=x at c1 h1 h2 hd hd2
    generalize b i=y at c2 h1 h2 hd hd2
    clear hS he
    go_wp2
    go_quiet (fail)
    go_wp2
    go_quiet (fail)
    go_wp2
    go_ret
    exact ⟨by rw [HV.out];rfl,HB.out.trans ((below_drewN (below_drewN hW.out _) _).mono HB.out.size)⟩
   ·have HS:=Lib.hid (sameTo_succ hS.out he)
    have hd:decide (b i<b i)=false:=decide_eq_false (by omega)
    rw [h1] at c1
    generalize b i=y at c1 c2 hd
    clear hS he h1
    go_wp2
    go_quiet (fail)
    have HW:=Lib.hid (fun n=>below_drewN hW.out n)
    go_wp2
    go_quiet (fail)
    go_wp2
    go_roundw
    case rel=>exact ⟨i+1,by omega,by go_num,HS,hide (HW.out _)⟩
    case measure=>simp [intOf];omega
  ·obtain rfl:i=3:=by omega
   have HV:=Lib.hid (cmpV_same hS.out)
   go_wp2
   go_ret
   exact ⟨by rw [HV.out];rfl,HB.out.trans (hW.out.mono HB.out.size)⟩
theorem verThen {u X Y:World} (h:Below u.heap.size u X) (k:Below X.heap.size X Y):Below u.heap.size u Y:=h.trans (k.mono h.size)
end Go.Proofs.YtojgbcmhdnappaaGreatDoor
