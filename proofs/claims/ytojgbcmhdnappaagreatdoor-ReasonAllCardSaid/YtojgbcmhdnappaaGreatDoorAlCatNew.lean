/-
  A part of the proof: CatNew. Conditions: none.
-/
import Derived.Test.YtojgbcmhdnappaaGreatDoorAlCatClone
import Derived.Test.YtojgbcmhdnappaaGreatDoorAlRefCat
namespace Go.Proofs.YtojgbcmhdnappaaGreatDoor
open Go.RowKit
open Classical
set_option maxRecDepth 100000
structure CatO (w:World) (base g:Nat) (qs:List LnQ):Prop where
 is:∃ vl vi,Blk w g 246 #[vl,vi]∧LnsP w base vl qs∧OwnK elJ w base vi (itemsF (qs.map (·.1)))
 ge:base≤g
theorem CatO.below {w w':World} {base g:Nat} {qs:List LnQ} (h:CatO w base g qs) (hb:Below w.heap.size w w'):CatO w' base g qs:=by
 obtain ⟨vl,vi,h1,h2,h3⟩:=h.is
 exact ⟨⟨vl,vi,h1.below hb h1.lt,h2.below hb,h3.below hb⟩,h.ge⟩
theorem CatO.mono {w:World} {base base' g:Nat} {qs:List LnQ} (h:CatO w base g qs) (hb:base'≤base):CatO w base' g qs:=by
 obtain ⟨vl,vi,h1,h2,h3⟩:=h.is
 exact ⟨⟨vl,vi,h1,h2.mono hb,h3.mono hb⟩,Nat.le_trans hb h.ge⟩
def CatNewP (qs:List LnQ) (w:World) (e:Ending) (w':World):Prop :=
 (∃ f u,catR (qs.map (·.1))=.inl f∧f.1≠0∧e=.returned (.tuple #[.pointer none,u])∧IsErr w' u f∧Below w.heap.size w w') ∨
 ∃ its g,catR (qs.map (·.1))=.inr its∧e=.returned (.tuple #[.pointer (some ⟨g,0,none⟩),.nilIface])∧CatO w' w.heap.size g qs∧Below w.heap.size w w'
theorem chkF_range (k:Int) (n1 n2 o r z ok:Bool):chkF k n1 n2 o r z ok=0∨(1≤chkF k n1 n2 o r z ok∧chkF k n1 n2 o r z ok≤13):=by
 unfold chkF
 repeat' split
 all_goals omega
theorem chkL_range (x:LnR):chkL x=0∨(1≤chkL x∧chkL x≤13):=by
 obtain ⟨k,nm,ver,ot,rg⟩:=x
 rw [chk_is]
 exact chkF_range _ _ _ _ _ _ _
theorem catR_a {ls:List LnR} (h:¬100<ls.length) {f:Int×Int} (hf:passA ls 0 [] []=.inl f):catR ls=.inl f:=by unfold catR;rw [if_neg h,hf]
theorem catR_b {ls:List LnR} (h:¬100<ls.length) {its:List ItR} (hf:passA ls 0 [] []=.inr its) {f:Int×Int} (hb:passB its ls 0=f) (h0:f.1≠0):catR ls=.inl f:=by
 unfold catR
 rw [if_neg h,hf]
 simp only [hb,if_neg h0]
theorem catR_c {ls:List LnR} (h:¬100<ls.length) {its:List ItR} (hf:passA ls 0 [] []=.inr its) (hb:passB its ls 0=(0,-1)):catR ls=.inr its:=by
 unfold catR
 rw [if_neg h,hf]
 simp only [hb,if_true]
structure NwI (w:World) (A:Option Addr) (c:Nat) (qs:List LnQ) (gc gn n:Nat) (vi:Value) (ns:List ByteArray) (its:List ItR) (wr:World):Prop where
 lns:LnsP wr 0 (.slice A qs.length c) qs
 blk:Blk wr gc 246 #[.slice none 0 0,vi]
 own:OwnK elJ wr w.heap.size vi its
 bel:Below w.heap.size w wr
 s1:SetN 9 (fun s:ByteArray=>.string s.data.toList) okS wr gn n ns
 few:its.length≤24
 lo:w.heap.size≤gc∧w.heap.size≤gn∧gc≠gn
section
variable {w wr wr':World} {A:Option Addr} {c:Nat} {qs:List LnQ} {gc gn n:Nat} {vi:Value} {ns:List ByteArray} {its:List ItR}
theorem NwI.below (h:NwI w A c qs gc gn n vi ns its wr) (hb:Below wr.heap.size wr wr'):NwI w A c qs gc gn n vi ns its wr' :=
 ⟨h.lns.below hb,h.blk.below hb h.blk.lt,h.own.below hb,h.bel.trans (hb.mono h.bel.size),h.s1.below hb h.s1.lt,h.few,h.lo⟩
theorem NwI.cat (h:NwI w A c qs gc gn n vi ns its wr):CatM wr gc (.slice none 0 0) vi its:=⟨h.blk,h.own.mono (Nat.zero_le _)⟩
theorem NwI.row {j:Nat} (h:NwI w A c qs gc gn n vi ns its wr) (hj:j<qs.length):∃ g,A=some ⟨g,0,none⟩∧RowK elP wr g qs:=h.lns.1.rowAt hj
theorem NwI.upd {ns':List ByteArray} (h:NwI w A c qs gc gn n vi ns its wr) (hs:SetN 9 (fun s:ByteArray=>.string s.data.toList) okS wr' gn (n+1) ns') (hg:wr.grownBy wr' (some gn)):NwI w A c qs gc gn (n+1) vi ns' its wr' :=
 ⟨h.lns.grown_map hg h.s1.map,h.blk.grown hg (fun e=>h.lo.2.2 (Option.some.inj e)),h.own.kept hg (by obtain ⟨es,cl,hm⟩:=h.s1.map;exact own_nomap h.own hm),h.bel.grown hg h.bel.size (fun k e=>by have:=Option.some.inj e;have:=h.lo;omega),hs,h.few,h.lo⟩
theorem NwI.push_bel (h:NwI w A c qs gc gn n vi ns its wr) {v9:Value} {w9:World} (hg:wr.grownBy w9 vi.ownBlock):Below w.heap.size w (w9.setCell ⟨gc,1,none⟩ v9) :=
 (h.bel.grown hg h.bel.size (fun k e=>(h.own.lt k e).1)).setCell (p:=⟨gc,1,none⟩) h.lo.1 v9
theorem NwI.push (h:NwI w A c qs gc gn n vi ns its wr) {v9:Value} {w9:World} {x:ItR} (ho:OwnK elJ w9 w.heap.size v9 (its++[x])) (hg:wr.grownBy w9 vi.ownBlock) (hl:its.length<24):NwI w A c qs gc gn n v9 ns (its++[x]) (w9.setCell ⟨gc,1,none⟩ v9):=by
 have hne:vi.ownBlock≠some gc:=h.own.ne_blk h.blk (by decide)
 have hk9:=h.blk.grown hg (fun e=>hne e.symm)
 have hset:w9.grownBy (w9.setCell ⟨gc,1,none⟩ v9) (some gc):=only_setCell (World.grownBy.refl _ _) (.inl rfl) v9
 refine ⟨⟨?_,fun q hq=>⟨?_,(h.lns.2 q hq).2⟩⟩,hk9.set_ 1 v9,?_,h.push_bel hg,?_,by simp;omega,h.lo⟩
 ·have h1:=h.lns.1.kept hg (apart_rows h.lns.1 h.own (by decide))
  exact h1.kept hset (.inr (h1.ne_blk hk9 (by decide)))
 ·have h1:=OwnP.kept (h.lns.2 q hq).1 hg (apart_rows (h.lns.2 q hq).1 h.own (by decide))
  exact OwnP.kept h1 hset (.inr (own_blk_ne h1 hk9 (by decide)))
 ·exact ho.kept hset (.inr (ho.ne_blk hk9 (by decide)))
 ·have h1:=h.s1.grown hg (fun e=>by
   obtain ⟨es,cl,hm⟩:=h.s1.map
   rcases own_nomap h.own hm with h9 | h9
   ·rw [h9] at e;cases e
   ·exact h9 e.symm)
  exact h1.grown hset (fun e=>h.lo.2.2 (Option.some.inj e).symm)
theorem NwI.sorted (h:NwI w A c qs gc gn n vi ns its wr) (hg:wr.grownBy wr' vi.ownBlock):LnsP wr' 0 (.slice A qs.length c) qs∧Blk wr' gc 246 #[.slice none 0 0,vi]∧Below w.heap.size w wr' :=
 ⟨⟨h.lns.1.kept hg (apart_rows h.lns.1 h.own (by decide)),fun q hq=>⟨OwnP.kept (h.lns.2 q hq).1 hg (apart_rows (h.lns.2 q hq).1 h.own (by decide)),(h.lns.2 q hq).2⟩⟩,h.blk.grown hg (fun e=>h.own.ne_blk h.blk (by decide) e.symm),h.bel.grown hg h.bel.size (fun k e=>(h.own.lt k e).1)⟩
theorem cat_end {w w5 w6:World} {A:Option Addr} {c gc:Nat} {qs:List LnQ} {vi v6:Value} (hl:LnsP w5 0 (.slice A qs.length c) qs) (hb:Blk w5 gc 246 #[.slice none 0 0,vi]) (hbel:Below w.heap.size w w5) (hso:OwnK elJ w5 w.heap.size vi (itemsF (qs.map (·.1)))) (hv:OwnK elP w6 w5.heap.size v6 qs) (h6:Below w5.heap.size w5 w6) (hge:w.heap.size≤gc) :
  CatO (w6.setCell ⟨gc,0,none⟩ v6) w.heap.size gc qs∧Below w.heap.size w (w6.setCell ⟨gc,0,none⟩ v6):=by
 have hk:=hb.below h6 hb.lt
 have hset:w6.grownBy (w6.setCell ⟨gc,0,none⟩ v6) (some gc):=only_setCell (World.grownBy.refl _ _) (.inl rfl) v6
 have ho:=hso.below h6
 have hl6:=hl.below h6
 refine ⟨⟨⟨v6,vi,hk.set_ 0 v6,⟨(hv.mono hbel.size).kept hset (.inr (hv.ne_blk hk (by decide))),fun q hq=>⟨OwnP.kept (hl6.2 q hq).1 hset (.inr (own_blk_ne (hl6.2 q hq).1 hk (by decide))),(hl6.2 q hq).2⟩⟩,ho.kept hset (.inr (ho.ne_blk hk (by decide)))⟩,hge⟩,(hbel.trans (h6.mono hbel.size)).setCell (p:=⟨gc,0,none⟩) hge v6⟩
theorem at_new {W:World} (hb:Below w.heap.size w W) {E P:Int} (h1:1≤E) (h2:E≤13) (h3:0≤P) :
  IsErr (W.alloc (.cells #[.int .i64 E,.int .i64 P] 185)) (.iface 183 (.pointer (some ⟨W.heap.size,0,none⟩))) (E,P)∧Below w.heap.size w (W.alloc (.cells #[.int .i64 E,.int .i64 P] 185)) :=
 ⟨.inr (.inr ⟨W.heap.size,by simp,h1,h2,h3,rfl,Blk.new W _ _⟩),hb.alloc hb.size _⟩
end
set_option maxHeartbeats 16000000 in
theorem catNew_any (v:Value) (qs:List LnQ) (w:World) (h:LnsP w 0 v qs):Calls Tryz.prog 80 #[v] w (CatNewP qs w):=by
 obtain ⟨A,c,rfl,hc⟩:=h.1.len
 have hlen:(qs.map (·.1)).length=qs.length:=List.length_map _
 by_cases hbig:100<qs.length
 ·have hz:(100:Int)<(qs.length:Int):=by omega
  have hcr:catR (qs.map (·.1))=.inl (4,-1):=by unfold catR;rw [if_pos (by rw [hlen];exact hbig)]
  go_enter Tryz.func80,Tryz.ntmps80
  go_wp2_with fail
  go_ret2
  exact .inl ⟨(4,-1),_,hcr,by decide,rfl,.inr (.inl ⟨rfl,by decide,by decide,rfl⟩),Below.refl _ _⟩
 ·have hz:¬(100:Int)<(qs.length:Int):=by omega
  have HBG:=Lib.hid (show ¬100<(qs.map (·.1)).length by rw [hlen];exact hbig)
  have hmm:=@run_makeMap Tryz.prog
  have HI0:=hide (show NwI w A c qs w.heap.size (w.heap.size+1) 0 (.slice none 0 0) [] [] ((w.alloc (.cells #[.slice none 0 0,.slice none 0 0] 246)).alloc (.map #[] 0)) from
   ⟨(h.below ((Below.refl _ _).alloc (Nat.le_refl _) _)).below ((Below.refl _ _).alloc (Nat.le_refl _) _),(Blk.new w _ _).alloc _,ownK_nil _ _ _,((Below.refl _ _).alloc (Nat.le_refl _) _).alloc (by simp) _,(by
    have:=setN_made (kt:=9) (lit:=fun s:ByteArray=>.string s.data.toList) (ok:=okS) (w.alloc (.cells #[.slice none 0 0,.slice none 0 0] 246))
    rw [World.size_alloc] at this
    exact this),by simp,by omega,by omega,by omega⟩)
  have HP0:=Lib.hid (show passA ((qs.map (·.1)).drop 0) 0 [] []=passA (qs.map (·.1)) 0 [] [] from rfl)
  have HLN:=Lib.hid hlen
  clear h hlen
  go_enter Tryz.func80,Tryz.ntmps80
  go_wp2_with fail
  generalize World.alloc _ (.map #[] 0)=w2 at HI0 ⊢
  generalize w.heap.size+1=gn at HI0 ⊢
  generalize hgc:w.heap.size=gc at HI0 ⊢
  go_loopw [20] (fun iv wr=>∃ (i:Nat) (ns:List ByteArray) (its:List ItR),i≤qs.length∧iv=.int .i64 i∧Hid (∃ vi,NwI w A c qs gc gn i vi ns its wr)∧Hid (passA ((qs.map (·.1)).drop i) i ns its=passA (qs.map (·.1)) 0 [] [])) (fun iv _=>qs.length-(intOf iv).toNat)
  case atStart=>exact ⟨0,[],[],Nat.zero_le _,rfl,hide ⟨_,HI0.out⟩,HP0⟩
  case round =>
   clear HI0 HP0
   obtain ⟨i,ns,its,hi,rfl,HIx,HP⟩:=hrel
   obtain ⟨vi,hI⟩:=HIx.out
   have HI:=hide hI
   clear hI HIx
   by_cases hlt:i<qs.length
   ·have hltz:(i:Int)<(qs.length:Int):=by omega
    obtain ⟨g,rfl,hr⟩:=HI.out.row hlt
    obtain ⟨y0,y1,y2,y3,y4,y5,y6⟩:=row7 rfl rfl hr hlt
    obtain ⟨hown,hok⟩:=HI.out.lns.2 _ (List.getElem_mem hlt)
    have hp:=HP.out
    rw [drop_map hlt] at hp
    have HX1:=hide (HI.out.below ((Below.refl wr.heap.size wr).alloc (Nat.le_refl _) (.cells (lnA qs[i]) 90)))
    have HCK:=hide (fun (W:World) (hb:Below wr.heap.size wr W)=>chk_any qs[i] hok W (hown.below hb))
    have HK1:=hide (Blk.new wr 90 (lnA qs[i]))
    unfold ChkP lnA at HCK
    unfold lnA at HX1 HK1
    have HOK:=hide hok
    have HPP:=Lib.hid hp
    clear hown hok hr hp HP
    generalize qs[i].1=x at y0 y1 y2 y3 y4 y5 HCK HOK HPP HX1 HK1
    generalize qs[i].2.1=B9 at y6 HCK HX1 HK1
    generalize qs[i].2.2.1=n9 at y6 HCK HX1 HK1
    generalize qs[i].2.2.2=c9 at y6 HCK HX1 HK1
    go_wp2_with fail
    have HB3:=hide ((Below.refl wr.heap.size wr).alloc (Nat.le_refl _) (.cells #[.int .i64 x.k,.string x.name,.int .i64 (x.ver 0),.int .i64 (x.ver 1),.int .i64 (x.ver 2),.string x.other,.slice B9 n9 c9] 90))
    generalize World.alloc _ (.cells #[.int .i64 x.k,.string x.name,.int .i64 (x.ver 0),.int .i64 (x.ver 1),.int .i64 (x.ver 2),.string x.other,.slice B9 n9 c9] 90)=w3 at HX1 HK1 HB3 ⊢
    refine (HCK.out w3 HB3.out).mono ?_
    have HGN:=Lib.hid (show gn<wr.heap.size from HI.out.s1.lt)
    generalize wr.heap.size=b7 at HK1 HGN ⊢
    clear y0 y1 y2 y3 y4 y5 y6 HI HB3 HCK
    rintro e w4 ⟨rfl,hb4⟩
    have HX2:=hide (HX1.out.below hb4)
    have HK2:=hide (HK1.out.below hb4 HK1.out.lt)
    clear HX1 HK1 hb4
    obtain ⟨⟨k0,k1,k2,k3,k4,k5,k6⟩,_⟩:=blk7 HK2.out
    by_cases hE:chkL x=0
    ·have hEb:(chkL x==0)=true:=by rw [hE];rfl
     have hEc:(!(chkL x==0))=false:=by rw [hEb];rfl
     by_cases hk1:x.k=1
     ·have hkb:(x.k==1)=true:=by rw [hk1];rfl
      obtain ⟨w5,e1,s1,g1⟩:=SetN.update keyNm Tryz.underlying158 HX2.out.s1 x.name HOK.out.nm (by omega)
      have HX5:=hide (HX2.out.upd s1 g1)
      have HK5:=hide (HK2.out.grown g1 (fun e=>by have:=HGN.out;have e2:=Option.some.inj e;omega))
      have HNB:=hide (fun (W:World) (hb:Below w5.heap.size w5 W)=>catNum_any gc _ vi its (itL x) W (HX5.out.below hb).cat (by have:=HX5.out.few;omega))
      unfold itL at HNB
      simp only [] at HNB
      have HE:=Lib.hid hE
      have HK1:=Lib.hid hk1
      clear hE hk1 s1 g1 HX2
      obtain ⟨⟨j0,j1,j2,j3,j4,j5,j6⟩,_⟩:=blk7 HK5.out
      go_wp2_with fail
      clear e1 k0 k1 k2 k3 k4 k5 k6 j0 j1 j2 j3 j4 j5 j6 HK2
      refine (HNB.out w5 (Below.refl _ _)).mono ?_
      rintro e w6 ⟨rfl,hb6⟩
      have HX6:=hide (HX5.out.below hb6)
      have HK6:=hide (HK5.out.below hb6 HK5.out.lt)
      clear hb6 HX5 HK5 HNB
      obtain ⟨⟨k0,k1,k2,k3,k4,k5,k6⟩,_⟩:=blk7 HK6.out
      obtain ⟨A6,c6,hvi,_⟩:=HX6.out.own.len
      subst hvi
      have z1:w6.cell? ⟨gc,1,none⟩=some (.slice A6 its.length c6):=HX6.out.blk.cell 1
      have zq:=HX6.out.blk.frozen 1
      have l1:=HX6.out.s1.lenIs Tryz.underlying158 ((addK ns x.name).length:Int) rfl 3
      have HOWN:=hide (fun (W:World) (hb:Below w6.heap.size w6 W)=>HX6.out.own.below hb)
      have HG9:=hide (fun (W w9:World) (hb:Below w6.heap.size w6 W) (hg:W.grownBy w9 (Value.slice A6 its.length c6).ownBlock)=>(HX6.out.blk.below hb HX6.out.blk.lt).grown hg (fun e=>HX6.out.own.ne_blk HX6.out.blk (by decide) e.symm))
      have HWB:=Lib.hid HX6.out.bel.size
      have hfew:=HX6.out.few
      have hgl:gc<w6.heap.size:=HX6.out.blk.lt
      by_cases hin:itL x∈its
      ·have hge:(posN its (x.name,x.ver 0,x.ver 1,x.ver 2)≥0):=(posN_in (l:=its) (x:=itL x) hin).1
       have HV:=Lib.hid ((passA_twice HE.out HK1.out hin).symm.trans HPP.out)
       clear hin
       go_wp2_with fail
       go_region_law (refine stepK1 elJ _ itemJInfo rfl (by decide) rfl _ _ 190 rfl w.heap.size Tryz.underlying190 (.slice A6 its.length c6) its rfl (HOWN.out _ ?_) _ 1 (itL x) rfl ?_ (by omega) ?_ ?_;(focus (first | exact ((Below.refl _ _).alloc (Nat.le_refl _) _).drew | exact (Below.refl _ _).drew.alloc (Nat.le_refl _) _));(focus (first | exact Blk.drew (Blk.new _ _ _) | exact Blk.new _ _ _));(focus (simp;have:=HWB.out;omega));intro v9 w9 ho9 hg9 hor9;obtain ⟨A9,c9',hv9,_⟩:=ho9.len;rw [List.length_append,List.length_singleton] at hv9;subst hv9;have k9:=HG9.out _ _ (by first | exact ((Below.refl _ _).alloc (Nat.le_refl _) _).drew | exact (Below.refl _ _).drew.alloc (Nat.le_refl _) _) hg9;have p9:=k9.cell 1;have q9:=k9.frozen 1)
       all_goals
        have hbE:=(HX6.out.below (((Below.refl w6.heap.size w6).alloc (Nat.le_refl _) (.cells #[.string x.name,.int .i64 (x.ver 0),.int .i64 (x.ver 1),.int .i64 (x.ver 2)] 194)).drew)).push_bel (v9:=.slice A9 (its.length+1) c9') hg9
        clear p9 q9 k9 hg9 ho9 hor9 z1 zq l1 k0 k1 k2 k3 k4 k5 k6
        generalize World.setCell w9 ⟨gc,1,none⟩ (.slice A9 (its.length+1) c9')=wE at hbE ⊢
        go_wp2_with fail
        obtain ⟨hie,hbe⟩:=at_new hbE (E:=9) (P:=(i:Int)) (by omega) (by omega) (by omega)
        go_ret2
        exact .inl ⟨(9,(i:Int)),_,catR_a HBG.out HV.out.symm,by show (9:Int)≠0;decide,rfl,hie,hbe⟩
      ·have hge:¬(posN its (x.name,x.ver 0,x.ver 1,x.ver 2)≥0):=by have:=posN_out (l:=its) (x:=itL x) hin;unfold itL at this;omega
       by_cases hb1:8<(addK ns x.name).length
       ·have hc1:(8:Int)<((addK ns x.name).length:Int):=by omega
        have HV:=Lib.hid ((passA_full HE.out HK1.out hin (.inl hb1)).symm.trans HPP.out)
        clear hin hb1
        go_wp2_with fail
        go_region_law (refine stepK1 elJ _ itemJInfo rfl (by decide) rfl _ _ 190 rfl w.heap.size Tryz.underlying190 (.slice A6 its.length c6) its rfl (HOWN.out _ ?_) _ 1 (itL x) rfl ?_ (by omega) ?_ ?_;(focus (first | exact ((Below.refl _ _).alloc (Nat.le_refl _) _).drew | exact (Below.refl _ _).drew.alloc (Nat.le_refl _) _));(focus (first | exact Blk.drew (Blk.new _ _ _) | exact Blk.new _ _ _));(focus (simp;have:=HWB.out;omega));intro v9 w9 ho9 hg9 hor9;obtain ⟨A9,c9',hv9,_⟩:=ho9.len;rw [List.length_append,List.length_singleton] at hv9;subst hv9;have k9:=HG9.out _ _ (by first | exact ((Below.refl _ _).alloc (Nat.le_refl _) _).drew | exact (Below.refl _ _).drew.alloc (Nat.le_refl _) _) hg9;have p9:=k9.cell 1;have q9:=k9.frozen 1)
        all_goals
         have hbE:=(HX6.out.below (((Below.refl w6.heap.size w6).alloc (Nat.le_refl _) (.cells #[.string x.name,.int .i64 (x.ver 0),.int .i64 (x.ver 1),.int .i64 (x.ver 2)] 194)).drew)).push_bel (v9:=.slice A9 (its.length+1) c9') hg9
         clear p9 q9 k9 hg9 ho9 hor9 z1 zq l1 k0 k1 k2 k3 k4 k5 k6
         generalize World.setCell w9 ⟨gc,1,none⟩ (.slice A9 (its.length+1) c9')=wE at hbE ⊢
         go_wp2_with fail
         obtain ⟨hie,hbe⟩:=at_new hbE (E:=4) (P:=(i:Int)) (by omega) (by omega) (by omega)
         go_ret2
         exact .inl ⟨(4,(i:Int)),_,catR_a HBG.out HV.out.symm,by show (4:Int)≠0;decide,rfl,hie,hbe⟩
       ·have hc1:¬(8:Int)<((addK ns x.name).length:Int):=by omega
        by_cases hb2:its.length=24
        ·have hc2:((its.length:Int)==24)=true:=by rw [hb2];rfl
         have HV:=Lib.hid ((passA_full HE.out HK1.out hin (.inr (by omega))).symm.trans HPP.out)
         clear hin hb1 hb2
         go_wp2_with fail
         go_region_law (refine stepK1 elJ _ itemJInfo rfl (by decide) rfl _ _ 190 rfl w.heap.size Tryz.underlying190 (.slice A6 its.length c6) its rfl (HOWN.out _ ?_) _ 1 (itL x) rfl ?_ (by omega) ?_ ?_;(focus (first | exact ((Below.refl _ _).alloc (Nat.le_refl _) _).drew | exact (Below.refl _ _).drew.alloc (Nat.le_refl _) _));(focus (first | exact Blk.drew (Blk.new _ _ _) | exact Blk.new _ _ _));(focus (simp;have:=HWB.out;omega));intro v9 w9 ho9 hg9 hor9;obtain ⟨A9,c9',hv9,_⟩:=ho9.len;rw [List.length_append,List.length_singleton] at hv9;subst hv9;have k9:=HG9.out _ _ (by first | exact ((Below.refl _ _).alloc (Nat.le_refl _) _).drew | exact (Below.refl _ _).drew.alloc (Nat.le_refl _) _) hg9;have p9:=k9.cell 1;have q9:=k9.frozen 1)
         all_goals
          have hbE:=(HX6.out.below (((Below.refl w6.heap.size w6).alloc (Nat.le_refl _) (.cells #[.string x.name,.int .i64 (x.ver 0),.int .i64 (x.ver 1),.int .i64 (x.ver 2)] 194)).drew)).push_bel (v9:=.slice A9 (its.length+1) c9') hg9
          clear p9 q9 k9 hg9 ho9 hor9 z1 zq l1 k0 k1 k2 k3 k4 k5 k6
          generalize World.setCell w9 ⟨gc,1,none⟩ (.slice A9 (its.length+1) c9')=wE at hbE ⊢
          go_wp2_with fail
          obtain ⟨hie,hbe⟩:=at_new hbE (E:=4) (P:=(i:Int)) (by omega) (by omega) (by omega)
          go_ret2
          exact .inl ⟨(4,(i:Int)),_,catR_a HBG.out HV.out.symm,by show (4:Int)≠0;decide,rfl,hie,hbe⟩
        ·have hc2:((its.length:Int)==24)=false:=by rw [beq_eq_false_iff_ne];omega
         have HV:=Lib.hid ((passA_add HE.out HK1.out hin (by omega)).symm.trans HPP.out)
         have hl24:its.length<24:=by omega
         clear hin hb1 hb2
         go_wp2_with fail
         go_region_law (refine stepK1 elJ _ itemJInfo rfl (by decide) rfl _ _ 190 rfl w.heap.size Tryz.underlying190 (.slice A6 its.length c6) its rfl (HOWN.out _ ?_) _ 1 (itL x) rfl ?_ (by omega) ?_ ?_;(focus (first | exact ((Below.refl _ _).alloc (Nat.le_refl _) _).drew | exact (Below.refl _ _).drew.alloc (Nat.le_refl _) _));(focus (first | exact Blk.drew (Blk.new _ _ _) | exact Blk.new _ _ _));(focus (simp;have:=HWB.out;omega));intro v9 w9 ho9 hg9 hor9;obtain ⟨A9,c9',hv9,_⟩:=ho9.len;rw [List.length_append,List.length_singleton] at hv9;subst hv9;have k9:=HG9.out _ _ (by first | exact ((Below.refl _ _).alloc (Nat.le_refl _) _).drew | exact (Below.refl _ _).drew.alloc (Nat.le_refl _) _) hg9;have p9:=k9.cell 1;have q9:=k9.frozen 1)
         all_goals
          have hN:=(HX6.out.below (((Below.refl w6.heap.size w6).alloc (Nat.le_refl _) (.cells #[.string x.name,.int .i64 (x.ver 0),.int .i64 (x.ver 1),.int .i64 (x.ver 2)] 194)).drew)).push (x:=itL x) ho9 hg9 hl24
          have HN:=hide hN
          clear p9 q9 k9 hg9 ho9 hor9 z1 zq l1 k0 k1 k2 k3 k4 k5 k6 hN
          generalize World.setCell w9 ⟨gc,1,none⟩ (.slice A9 (its.length+1) c9')=wE at HN ⊢
          go_wp2_with fail
          go_round
          case rel=>exact ⟨i+1,addK ns x.name,its++[itL x],by omega,by go_num,hide ⟨_,HN.out⟩,HV⟩
          case measure=>simp [intOf];omega
     ·have hkb:(x.k==1)=false:=beq_eq_false_iff_ne.2 hk1
      have HV:=Lib.hid ((passA_skip hE hk1).symm.trans HPP.out)
      have HN:=hide (show NwI w (some ⟨g,0,none⟩) c qs gc gn (i+1) vi ns its w4 from ⟨HX2.out.lns,HX2.out.blk,HX2.out.own,HX2.out.bel,HX2.out.s1.more,HX2.out.few,HX2.out.lo⟩)
      clear hE hk1
      go_wp2_with fail
      go_round
      case rel=>exact ⟨i+1,ns,its,by omega,by go_num,hide ⟨_,HN.out⟩,HV⟩
      case measure=>simp [intOf];omega
    ·have hEb:(chkL x==0)=false:=beq_eq_false_iff_ne.2 hE
     have hEc:(!(chkL x==0))=true:=by rw [hEb];rfl
     have HV:=Lib.hid ((passA_bad (r:=(qs.map (·.1)).drop (i+1)) (i:=i) (ns:=ns) (its:=its) hE).symm.trans HPP.out)
     have HE13:=Lib.hid ((chkL_range x).resolve_left hE)
     have HNE:=Lib.hid hE
     clear hE
     by_cases hk1:x.k=1
     ·have hkb:(x.k==1)=true:=by rw [hk1];rfl
      clear hk1
      go_wp2_with fail
      obtain ⟨hie,hbe⟩:=at_new HX2.out.bel (E:=chkL x) (P:=(i:Int)) HE13.out.1 HE13.out.2 (by omega)
      go_ret2
      exact .inl ⟨(chkL x,(i:Int)),_,catR_a HBG.out HV.out.symm,HNE.out,rfl,hie,hbe⟩
     ·have hkb:(x.k==1)=false:=beq_eq_false_iff_ne.2 hk1
      clear hk1
      go_wp2_with fail
      obtain ⟨hie,hbe⟩:=at_new HX2.out.bel (E:=chkL x) (P:=(i:Int)) HE13.out.1 HE13.out.2 (by omega)
      go_ret2
      exact .inl ⟨(chkL x,(i:Int)),_,catR_a HBG.out HV.out.symm,HNE.out,rfl,hie,hbe⟩
   ·obtain rfl:i=qs.length:=by omega
    have hltz:¬(qs.length:Int)<(qs.length:Int):=by omega
    have hp:=HP.out
    rw [show (qs.map (·.1)).drop qs.length=[] from List.drop_eq_nil_of_le (by simp),passA] at hp
    have HPA:=Lib.hid hp.symm
    clear hp HP
    go_wp2_with fail
    go_loopw [81] (fun jv w2=>∃ j:Nat,j≤qs.length∧jv=.int .i64 j∧Hid (NwI w A c qs gc gn qs.length vi ns its w2)∧Hid (passB its ((qs.map (·.1)).drop j) j=passB its (qs.map (·.1)) 0)) (fun jv _=>qs.length-(intOf jv).toNat)
    case atStart=>exact ⟨0,Nat.zero_le _,rfl,HI,Lib.hid rfl⟩
    case round =>
     clear HI
     obtain ⟨j,hj,rfl,HI,HPB⟩:=hrel
     by_cases hlt:j<qs.length
     ·have hltz:(j:Int)<(qs.length:Int):=by omega
      obtain ⟨g,rfl,hr⟩:=HI.out.row hlt
      obtain ⟨y0,y1,y2,y3,y4,y5,y6⟩:=row7 rfl rfl hr hlt
      have hpb:=HPB.out
      rw [drop_map hlt] at hpb
      have HPP:=Lib.hid hpb
      clear hr hpb HPB
      generalize qs[j].1=x at y0 y1 y2 y3 y4 y5 HPP
      generalize qs[j].2.1=B9 at y6
      generalize qs[j].2.2.1=n9 at y6
      generalize qs[j].2.2.2=c9 at y6
      have HX1:=hide (HI.out.below ((Below.refl wr.heap.size wr).alloc (Nat.le_refl _) (.cells #[.int .i64 x.k,.string x.name,.int .i64 (x.ver 0),.int .i64 (x.ver 1),.int .i64 (x.ver 2),.string x.other,.slice B9 n9 c9] 90)))
      have HNB:=hide (catNum_any gc _ vi its (itL x) _ HX1.out.cat (by have:=HX1.out.few;omega))
      unfold itL at HNB
      simp only [] at HNB
      by_cases hk2:x.k=2
      ·have hb2:(x.k==2)=true:=by rw [hk2];rfl
       by_cases hin:itL x∈its
       ·have hge:¬posN its (x.name,x.ver 0,x.ver 1,x.ver 2)<0:=by have:=(posN_in (l:=its) (x:=itL x) hin).1;unfold itL at this;omega
        have hms:¬((x.k=2∨x.k=3)∧itL x∉its):=fun h=>h.2 hin
        clear hin hk2
        go_wp2_with fail
        refine HNB.out.mono ?_
        rintro e w6 ⟨rfl,hb6⟩
        have HX6:=hide (HX1.out.below hb6)
        clear hb6 HX1 HNB y0 y1 y2 y3 y4 y5 y6
        have HN:=Lib.hid ((passB_miss hms).symm.trans HPP.out)
        clear hms
        go_wp2_with fail
        go_round
        case rel=>exact ⟨j+1,by omega,by go_num,HX6,HN⟩
        case measure=>simp [intOf];omega
       ·have hge:posN its (x.name,x.ver 0,x.ver 1,x.ver 2)<0:=by have:=posN_out (l:=its) (x:=itL x) hin;unfold itL at this;omega
        have HV:=Lib.hid ((passB_hit (i:=j) (r:=(qs.map (·.1)).drop (j+1)) ⟨.inl hk2,hin⟩).symm.trans HPP.out)
        clear hin hk2
        go_wp2_with fail
        refine HNB.out.mono ?_
        rintro e w6 ⟨rfl,hb6⟩
        have HX6:=hide (HX1.out.below hb6)
        clear hb6 HX1 HNB y0 y1 y2 y3 y4 y5 y6
        go_wp2_with fail
        obtain ⟨hie,hbe⟩:=at_new HX6.out.bel (E:=7) (P:=(j:Int)) (by omega) (by omega) (by omega)
        go_ret2
        exact .inl ⟨(7,(j:Int)),_,catR_b HBG.out HPA.out HV.out.symm (by show (7:Int)≠0;decide),by show (7:Int)≠0;decide,rfl,hie,hbe⟩
      have hb2:(x.k==2)=false:=beq_eq_false_iff_ne.2 hk2
      by_cases hk3:x.k=3
      ·have hb3:(x.k==3)=true:=by rw [hk3];rfl
       by_cases hin:itL x∈its
       ·have hge:¬posN its (x.name,x.ver 0,x.ver 1,x.ver 2)<0:=by have:=(posN_in (l:=its) (x:=itL x) hin).1;unfold itL at this;omega
        have hms:¬((x.k=2∨x.k=3)∧itL x∉its):=fun h=>h.2 hin
        clear hin hk3
        go_wp2_with fail
        refine HNB.out.mono ?_
        rintro e w6 ⟨rfl,hb6⟩
        have HX6:=hide (HX1.out.below hb6)
        clear hb6 HX1 HNB y0 y1 y2 y3 y4 y5 y6
        have HN:=Lib.hid ((passB_miss hms).symm.trans HPP.out)
        clear hms
        go_wp2_with fail
        go_round
        case rel=>exact ⟨j+1,by omega,by go_num,HX6,HN⟩
        case measure=>simp [intOf];omega
       ·have hge:posN its (x.name,x.ver 0,x.ver 1,x.ver 2)<0:=by have:=posN_out (l:=its) (x:=itL x) hin;unfold itL at this;omega
        have HV:=Lib.hid ((passB_hit (i:=j) (r:=(qs.map (·.1)).drop (j+1)) ⟨.inr hk3,hin⟩).symm.trans HPP.out)
        clear hin hk3
        go_wp2_with fail
        refine HNB.out.mono ?_
        rintro e w6 ⟨rfl,hb6⟩
        have HX6:=hide (HX1.out.below hb6)
        clear hb6 HX1 HNB y0 y1 y2 y3 y4 y5 y6
        go_wp2_with fail
        obtain ⟨hie,hbe⟩:=at_new HX6.out.bel (E:=7) (P:=(j:Int)) (by omega) (by omega) (by omega)
        go_ret2
        exact .inl ⟨(7,(j:Int)),_,catR_b HBG.out HPA.out HV.out.symm (by show (7:Int)≠0;decide),by show (7:Int)≠0;decide,rfl,hie,hbe⟩
      have hb3:(x.k==3)=false:=beq_eq_false_iff_ne.2 hk3
      have hms:¬((x.k=2∨x.k=3)∧itL x∉its):=fun h=>h.1.elim hk2 hk3
      clear hk2 hk3 HNB
      have HN:=Lib.hid ((passB_miss hms).symm.trans HPP.out)
      clear hms
      go_wp2_with fail
      go_round
      case rel=>exact ⟨j+1,by omega,by go_num,HX1,HN⟩
      case measure=>simp [intOf];omega
     ·obtain rfl:j=qs.length:=by omega
      have hltz:¬(qs.length:Int)<(qs.length:Int):=by omega
      have hpb:=HPB.out
      rw [show (qs.map (·.1)).drop qs.length=[] from List.drop_eq_nil_of_le (by simp),passB] at hpb
      have hcr:=catR_c HBG.out HPA.out hpb.symm
      have his:srtI its=itemsF (qs.map (·.1)):=by rw [(catR_ok hcr).1];rfl
      have HCR:=Lib.hid hcr
      have HIS:=Lib.hid his
      have z1:wr.cell? ⟨gc,1,none⟩=some vi:=HI.out.blk.cell 1
      clear hpb HPB hcr his
      go_wp2_with fail
      refine (sortIt_any vi w.heap.size its wr HI.out.own (by have:=HI.out.few;omega)).mono ?_
      rintro e w5 ⟨rfl,hso,hg5⟩
      obtain ⟨s1,s2,s3⟩:=HI.out.sorted hg5
      rw [HIS.out] at hso
      have HSO:=hide hso
      have HS1:=hide s1
      have HS2:=hide s2
      have HS3:=hide s3
      have HLO:=Lib.hid HI.out.lo
      clear hso s1 s2 s3 hg5 HI z1
      go_wp2_with fail
      refine (cloneLn_any _ qs w5 HS1.out.1 (by omega)).mono ?_
      rintro e w6 ⟨v6,rfl,ho6,hb6⟩
      have HC:=hide (cat_end HS1.out HS2.out HS3.out HSO.out ho6 hb6 HLO.out.1)
      obtain ⟨A6,c6,hv6,_⟩:=ho6.len
      subst hv6
      have hk6:=HS2.out.below hb6 HS2.out.lt
      have z0:w6.cell? ⟨gc,0,none⟩=some (.slice none 0 0):=hk6.cell 0
      have q0:=hk6.frozen 0
      clear hk6 ho6 hb6
      go_wp2_with fail
      go_ret2
      exact .inr ⟨its,gc,HCR.out,rfl,HC.out.1,HC.out.2⟩
end Go.Proofs.YtojgbcmhdnappaaGreatDoor
