/-
  A part of the proof: RefTxt. Conditions: none.
-/
import Derived.Test.YtojgbcmhdnappaaGreatDoorAlRefCat
import Derived.Test.YtojgbcmhdnappaaGreatDoorAlCatLine
import Derived.Test.YtojgbcmhdnappaaGreatDoorAlCatClone
namespace Go.Proofs.YtojgbcmhdnappaaGreatDoor
open Classical
def nlL (t:ByteArray):List ByteArray:=Lib.splitB ⟨#[10]⟩ 0 (Lib.countB t ⟨#[10]⟩) t
theorem nl_le {t p:ByteArray} (h:p∈nlL t):p.size≤t.size:=piece_size _ _ t p h
theorem nl_len (t:ByteArray):(nlL t).length≤t.size+2:=by
 have h1:(nlL t).length=Lib.countB t ⟨#[10]⟩+1:=Lib.splitB_all ⟨#[10]⟩ (by decide) 0 _ t rfl
 have h2:=Lib.count_le t.data.toList [10]
 have h3:Lib.countB t ⟨#[10]⟩=Lib.count t.data.toList [10]:=rfl
 have h4:t.data.toList.length=t.size:=rfl
 omega
noncomputable def linesR:List ByteArray→Nat→List LnR→List Int→(Int×Int) ⊕ (List LnR×List Int)
 | [],_,ls,ps=>.inr (ls,ps)
 | s :: r,a,ls,ps=>if s.size=0 then linesR r (a+s.size+1) ls ps else match lineR s with
  | .inl f=>.inl (f.1,(a:Int))
  | .inr x=>linesR r (a+s.size+1) (ls++[x]) (ps++[(a:Int)])
section
variable {s:ByteArray} {r:List ByteArray} {a:Nat} {ls:List LnR} {ps:List Int}
theorem linesR_skip (h:s.size=0):linesR (s :: r) a ls ps=linesR r (a+s.size+1) ls ps:=by rw [linesR,if_pos h]
theorem linesR_bad (h:s.size≠0) {f:Int×Int} (hf:lineR s=.inl f):linesR (s :: r) a ls ps=.inl (f.1,(a:Int)):=by rw [linesR,if_neg h,hf]
theorem linesR_add (h:s.size≠0) {x:LnR} (hf:lineR s=.inr x):linesR (s :: r) a ls ps=linesR r (a+s.size+1) (ls++[x]) (ps++[(a:Int)]):=by rw [linesR,if_neg h,hf]
end
def placeF (ps:List Int) (f:Int×Int):Int×Int:=(f.1,if 0≤f.2 then ps.getD f.2.toNat 0 else f.2)
noncomputable def textR (t:ByteArray):(Int×Int) ⊕ List LnR :=
 if 20000<t.size then .inl (4,-1) else match linesR (nlL t) 0 [] [] with
 | .inl f=>.inl f
 | .inr (ls,ps)=>match catR ls with
  | .inl f=>.inl (placeF ps f)
  | .inr _=>.inr ls
theorem passA_place:∀ (r:List LnR) (i:Nat) (ns:List ByteArray) (its:List ItR) (f:Int×Int),passA r i ns its=.inl f→(i:Int)≤f.2∧f.2<(i:Int)+r.length∧f.1≠0
 | [],i,ns,its,f,h=>by rw [passA] at h;cases h
 | x :: r,i,ns,its,f,h=>by
  rw [passA] at h
  have key:∀ e:Int,e≠0→(Sum.inl (e,(i:Int)):(Int×Int) ⊕ List ItR)=.inl f→(i:Int)≤f.2∧f.2<(i:Int)+(x :: r).length∧f.1≠0:=by
   intro e he h9
   injection h9 with h9
   subst h9
   refine ⟨Int.le_refl _,?_,he⟩
   show (i:Int)<(i:Int)+((x :: r).length:Nat)
   simp only [List.length_cons]
   omega
  have rec_:∀ ns' its',passA r (i+1) ns' its'=.inl f→(i:Int)≤f.2∧f.2<(i:Int)+(x :: r).length∧f.1≠0:=by
   intro ns' its' h9
   obtain ⟨a,b,c⟩:=passA_place r (i+1) ns' its' f h9
   refine ⟨by omega,?_,c⟩
   simp only [List.length_cons]
   omega
  split at h
  ·rename_i h0;exact key _ h0 h
  ·split at h
   ·exact rec_ _ _ h
   ·split at h
    ·exact key 9 (by decide) h
    ·split at h
     ·exact key 4 (by decide) h
     ·exact rec_ _ _ h
theorem passB_place (its:List ItR):∀ (r:List LnR) (i:Nat),passB its r i=(0,-1)∨((passB its r i).1=7∧(i:Int)≤(passB its r i).2∧(passB its r i).2<(i:Int)+r.length)
 | [],i=>.inl rfl
 | x :: r,i=>by
  unfold passB
  split
  ·refine .inr ⟨rfl,Int.le_refl _,?_⟩
   show (i:Int)<(i:Int)+((x :: r).length:Nat)
   simp only [List.length_cons]
   omega
  ·rcases passB_place its r (i+1) with h | ⟨h1,h2,h3⟩
   ·exact .inl h
   ·refine .inr ⟨h1,by omega,?_⟩
    simp only [List.length_cons]
    omega
theorem catR_place {ls:List LnR} {f:Int×Int} (h:catR ls=.inl f):f.1≠0∧(f.2 = -1∨(0≤f.2∧f.2<ls.length)):=by
 unfold catR at h
 split at h
 ·injection h with h;subst h;exact ⟨by decide,.inl rfl⟩
 ·split at h
  ·rename_i g hg
   injection h with h
   subst h
   obtain ⟨a,b,c⟩:=passA_place _ _ _ _ _ hg
   exact ⟨c,.inr ⟨by simpa using a,by simpa using b⟩⟩
  ·rename_i its hg
   split at h
   ·cases h
   ·rename_i h0
    injection h with h
    subst h
    rcases passB_place its ls 0 with e | ⟨e1,e2,e3⟩
    ·rw [e] at h0;exact absurd rfl h0
    ·exact ⟨h0,.inr ⟨by simpa using e2,by simpa using e3⟩⟩
theorem catF_is {ls:List LnR} {f:Int×Int} (h:catR ls=.inl f):catF ls=f:=by unfold catF;rw [h]
theorem catF_ok {ls:List LnR} {its:List ItR} (h:catR ls=.inr its):catF ls=(0,-1):=by unfold catF;rw [h]
theorem lineR_ok {s:ByteArray} {x:LnR} (h:lineR s=.inr x) (hs:s.size≤21000) (hc:CanF 0 x.rg):LnOk x:=by
 have a1:=tailS_size s
 have a2:=tailS_size (tailS s)
 have a3:=tailS_size (tailS (tailS s))
 have b1:=wordS_size (tailS s)
 have b3:=wordS_size (tailS (tailS (tailS s)))
 have hkl:=kindK_le (wordS s)
 have i0:I64 0:=by unfold I64;omega
 have e0:ByteArray.empty.size≤21000:=Nat.zero_le _
 have hv:∀ u:ByteArray,verE u=0→∀ j,j<3→I64 (verV u j):=fun u hu j hj=>by have:=verV_le hu j hj;unfold I64;omega
 unfold lineR at h
 simp only [] at h
 split at h
 ·cases h
 ·split at h
  ·split at h
   ·cases h
   ·injection h with h
    subst h
    exact ⟨hc,by show I64 4;unfold I64;omega,fun _ _=>i0,by show (wordS (tailS s)).size≤21000;omega,e0⟩
  ·split at h
   ·cases h
   ·rename_i hve
    have hve:verE (wordS (tailS (tailS s)))=0:=by simpa using hve
    unfold lineR2 at h
    split at h
    ·split at h
     ·injection h with h
      subst h
      exact ⟨hc,by show I64 1;unfold I64;omega,hv _ hve,by show (wordS (tailS s)).size≤21000;omega,e0⟩
     ·cases h
    ·split at h
     ·cases h
     ·injection h with h
      subst h
      exact ⟨hc,by show I64 ((kindK (wordS s):Nat):Int);unfold I64;omega,hv _ hve,by show (wordS (tailS s)).size≤21000;omega,by show (wordS (tailS (tailS (tailS s)))).size≤21000;omega⟩
end Go.Proofs.YtojgbcmhdnappaaGreatDoor
namespace Go.Proofs.YtojgbcmhdnappaaGreatDoor
open Go.RowKit
open Classical
set_option maxRecDepth 100000
def RefTxtP (t:ByteArray) (w:World) (e:Ending) (w':World):Prop :=
 (∃ f:Int×Int,textR t=.inl f∧f.1≠0∧e=.returned (.tuple #[.slice none 0 0,.agg #[.int .i64 f.1,.int .i64 f.2]])∧Below w.heap.size w w') ∨
 ∃ v qs its,textR t=.inr (qs.map (·.1))∧catR (qs.map (·.1))=.inr its∧e=.returned (.tuple #[v,.agg #[.int .i64 0,.int .i64 (-1)]])∧LnsR w' w.heap.size v qs∧Below w.heap.size w w'
structure RtI (w w1:World) (t:ByteArray) (i a:Nat) (v4 v5:Value) (qs:List LnQ) (ps:List Int) (wr:World):Prop where
 b3:Blk wr w.heap.size 80 #[.int .i64 0,.int .i64 0]
 lns:LnsR wr w1.heap.size v4 qs
 pls:OwnI wr w1.heap.size v5 ps
 bs:Below w1.heap.size w1 wr
 lo:w.heap.size≤w1.heap.size
 is:linesR ((nlL t).drop i) a (qs.map (·.1)) ps=linesR (nlL t) 0 [] []
 few:qs.length≤i
 len:ps.length=qs.length
 at_:a≤20001*i
 far:∀ q∈qs,∀ k,(slQ q).ownBlock=some k→v5.ownBlock≠some k
 bel:Below w.heap.size w wr
section
variable {w w1 wr wr':World} {t:ByteArray} {i a:Nat} {v4 v5:Value} {qs:List LnQ} {ps:List Int}
theorem RtI.below (h:RtI w w1 t i a v4 v5 qs ps wr) (hb:Below wr.heap.size wr wr'):RtI w w1 t i a v4 v5 qs ps wr' :=
 ⟨h.b3.below hb h.b3.lt,h.lns.below hb,h.pls.below hb,h.bs.trans (hb.mono h.bs.size),h.lo,h.is,h.few,h.len,h.at_,h.far,h.bel.trans (hb.mono h.bel.size)⟩
theorem RtI.skip (h:RtI w w1 t i a v4 v5 qs ps wr) {p:ByteArray} {r:List ByteArray} (hd:(nlL t).drop i=p :: r) (hr:r=(nlL t).drop (i+1)) (hp:p.size=0):RtI w w1 t (i+1) (a+p.size+1) v4 v5 qs ps wr:=by
 have:=h.is
 rw [hd,linesR_skip hp,hr] at this
 exact ⟨h.b3,h.lns,h.pls,h.bs,h.lo,this,by have:=h.few;omega,h.len,by have:=h.at_;omega,h.far,h.bel⟩
theorem RtI.push (h:RtI w w1 t i a v4 v5 qs ps wr) {p:ByteArray} {r:List ByteArray} (hd:(nlL t).drop i=p :: r) (hr:r=(nlL t).drop (i+1)) (hp:p.size≠0) (hps:p.size≤20000) {q:LnQ} (hq:lineR p=.inr q.1) (ho:OwnI wr 0 (slQ q) (flatI q.1.rg)) (hk:LnOk q.1) (hfar:∀ k,(slQ q).ownBlock=some k→v5.ownBlock≠some k)
  {v4' v5':Value} {w9 w10:World} {o9 o10:Obj} (h9:OwnK elR w9 w1.heap.size v4' (qs++[q])) (g9:(wr.alloc o9).grownBy w9 v4.ownBlock) (h10:OwnI w10 w1.heap.size v5' (ps++[(a:Int)])) (g10:(w9.alloc o10).grownBy w10 v5.ownBlock) (hor:v5'.ownBlock=v5.ownBlock∨v5'.ownBlock=some (w9.alloc o10).heap.size) :
  RtI w w1 t (i+1) (a+p.size+1) v4' v5' (qs++[q]) (ps++[(a:Int)]) w10:=by
 have hb9:=(Below.refl wr.heap.size wr).alloc (Nat.le_refl _) o9
 have h2:=h.below hb9
 have hL:=h2.lns.app (ho.below hb9) hk h9 g9
 have hI9:=OwnI.kept h2.pls g9 (apart_rows h2.pls h2.lns.1 (by decide))
 have hB9:=h2.b3.grown g9 (fun e=>h2.lns.1.ne_blk h2.b3 (by decide) e.symm)
 have hbel9:=h2.bel.grown g9 h2.bel.size (fun k e=>Nat.le_trans h2.lo (h2.lns.1.lt k e).1)
 have hbs9:=h2.bs.grown g9 h2.bs.size (fun k e=>(h2.lns.1.lt k e).1)
 have hb10:=(Below.refl w9.heap.size w9).alloc (Nat.le_refl _) o10
 have hL':=hL.below hb10
 have hI':=hI9.below hb10
 have hB':=hB9.below hb10 hB9.lt
 have far1:∀ p'∈qs++[q],∀ k,(slQ p').ownBlock=some k→v5.ownBlock≠some k:=fun p' hp' k e=>by
  rcases List.mem_append.1 hp' with hp2 | hp2
  ·exact h.far p' hp2 k e
  ·rw [List.mem_singleton.1 hp2] at e;exact hfar k e
 have hL10:LnsR w10 w1.heap.size v4' (qs++[q]):=⟨hL'.1.kept g10 (apart_rows hL'.1 hI' (by decide)),fun p' hp'=>⟨OwnI.kept (hL'.2 p' hp').1 g10 (by
  cases e:(slQ p').ownBlock with
  | none=>exact .inl rfl
  | some k=>exact .inr fun e2=>far1 p' hp' k e e2.symm),(hL'.2 p' hp').2⟩⟩
 have hi:=h.is
 rw [hd,linesR_add hp hq,hr] at hi
 refine ⟨hB'.grown g10 (fun e=>own_blk_ne hI' hB' (by decide) e.symm),hL10,h10,(hbs9.alloc hbs9.size o10).grown g10 (Nat.le_trans hbs9.size (by simp)) (fun k e=>(World.ownsRow.lt hI' k e).1),h.lo,?_,by have:=h.few;simp;omega,by have:=h.len;simp;omega,by have:=h.at_;omega,fun p' hp' k e=>?_,(hbel9.alloc hbel9.size o10).grown g10 (Nat.le_trans hbel9.size (by simp)) (fun k e=>Nat.le_trans h.lo (World.ownsRow.lt hI' k e).1)⟩
 ·rw [List.map_append]
  exact hi
 ·rcases hor with e2 | e2
  ·rw [e2];exact far1 p' hp' k e
  ·rw [e2]
   intro e3
   have e4:(w9.alloc o10).heap.size=k:=Option.some.inj e3
   have:=(World.ownsRow.lt (hL'.2 p' hp').1 k e).2
   omega
theorem RtI.pl9 (h:RtI w w1 t i a v4 v5 qs ps wr) {w9:World} {o9 o10:Obj} (g9:(wr.alloc o9).grownBy w9 v4.ownBlock):OwnI (w9.alloc o10) w1.heap.size v5 ps:=by
 have hb9:=(Below.refl wr.heap.size wr).alloc (Nat.le_refl _) o9
 have h2:=h.below hb9
 exact (OwnI.kept h2.pls g9 (apart_rows h2.pls h2.lns.1 (by decide))).below ((Below.refl w9.heap.size w9).alloc (Nat.le_refl _) o10)
end
theorem LnsR.told {wr:World} {base g:Nat} {v:Value} {qs:List LnQ} {cs:Array Value} (h:LnsR wr base v qs) (hB:Blk wr g 80 cs) (a b:Value):LnsR ((wr.setCell ⟨g,0,none⟩ a).setCell ⟨g,1,none⟩ b).drew base v qs:=by
 have hg:=only_drew (only_setCell (p:=⟨g,1,none⟩) (only_setCell (p:=⟨g,0,none⟩) (World.grownBy.refl wr (some g)) (.inl rfl) a) (.inl rfl) b)
 exact ⟨h.1.kept hg (.inr (h.1.ne_blk hB (by decide))),fun q hq=>⟨OwnI.kept (h.2 q hq).1 hg (.inr (own_blk_ne (h.2 q hq).1 hB (by decide))),(h.2 q hq).2⟩⟩
theorem textR_bad {t:ByteArray} (h:¬20000<t.size) {f:Int×Int} (hf:linesR (nlL t) 0 [] []=.inl f):textR t=.inl f:=by unfold textR;rw [if_neg h,hf]
theorem textR_cat {t:ByteArray} (h:¬20000<t.size) {ls:List LnR} {ps:List Int} (hf:linesR (nlL t) 0 [] []=.inr (ls,ps)) {f:Int×Int} (hc:catR ls=.inl f):textR t=.inl (placeF ps f):=by
 unfold textR;rw [if_neg h,hf];simp only [hc]
theorem textR_ok {t:ByteArray} (h:¬20000<t.size) {ls:List LnR} {ps:List Int} (hf:linesR (nlL t) 0 [] []=.inr (ls,ps)) {its:List ItR} (hc:catR ls=.inr its):textR t=.inr ls:=by
 unfold textR;rw [if_neg h,hf];simp only [hc]
theorem nl_any (t:ByteArray) (w:World) (hG:GlobV w) (hs:t.size≤21000):Calls Tryz.prog 90 #[.string t,.string ⟨#[10]⟩] w (SplP (nlL t) w):=splitAt_any t ⟨#[10]⟩ w hG hs (by decide)
set_option maxHeartbeats 16000000 in
theorem refTxt_any (t:ByteArray) (w:World) (hG:GlobV w) (hF:FineP w) (hK:KindsP w) (hs:t.size≤9223372036854775807):Calls Tryz.prog 42 #[.string t] w (RefTxtP t w):=by
 have HG:=hide hG
 have HF:=hide hF
 have HK:=hide hK
 have HB0:=hide ((Below.refl w.heap.size w).alloc (Nat.le_refl _) (.cells #[.int .i64 0,.int .i64 0] 80))
 have HK0:=hide (Blk.new w 80 #[.int .i64 0,.int .i64 0])
 clear hG hF hK
 by_cases hbig:20000<t.size
 ·have hz:(20000:Int)<(t.size:Int):=by omega
  have hcr:textR t=.inl (4,-1):=by unfold textR;rw [if_pos hbig]
  have HCR:=Lib.hid hcr
  clear hcr
  go_enter Tryz.func42,Tryz.ntmps42
  go_wp2_with fail
  generalize (w.alloc (.cells #[.int .i64 0,.int .i64 0] 80))=w0 at HB0 HK0 ⊢
  refine (bare_any 4 w0).mono ?_
  rintro e wa ⟨rfl,rfl⟩
  have hal:=(Below.refl w0.heap.size w0).alloc (Nat.le_refl _) (.cells #[.int .i64 4,.int .i64 (-1)] 80)
  have HK1:=hide (HK0.out.below hal HK0.out.lt)
  have HB1:=hide (HB0.out.trans (hal.mono HB0.out.size))
  generalize (w0.alloc (.cells #[.int .i64 4,.int .i64 (-1)] 80))=w1 at HK1 HB1 ⊢
  obtain ⟨⟨c0,c1⟩,q0,q1⟩:=blk2 HK1.out
  clear hal
  go_wp2_with fail
  obtain ⟨h2,hbe⟩:=ft_tell HK1.out HB1.out (.int .i64 4) (.int .i64 (-1))
  clear c0 c1 q0 q1
  generalize World.setCell _ ⟨w.heap.size,1,none⟩ (.int .i64 (-1))=W at h2 hbe ⊢
  obtain ⟨⟨n0,n1⟩,_⟩:=blk2 h2
  exact bodyPost_ret (v:=.tuple #[.slice none 0 0,.agg #[.int .i64 4,.int .i64 (-1)]]) (by simp [results,Tryz.results42,go_sem,n0,n1]) rfl (.inl ⟨(4,-1),HCR.out,by decide,rfl,hbe⟩)
 ·have hz:¬(20000:Int)<(t.size:Int):=by omega
  have hts:t.size≤20000:=by omega
  have HTS:=Lib.hid hts
  have HBG:=Lib.hid hbig
  have HSP:=hide (nl_any t (w.alloc (.cells #[.int .i64 0,.int .i64 0] 80)) (HG.out.below HB0.out) (by omega))
  have hnl:=nl_len t
  clear hbig
  go_enter Tryz.func42,Tryz.ntmps42
  go_wp2_with fail
  generalize (w.alloc (.cells #[.int .i64 0,.int .i64 0] 80))=w0 at HB0 HK0 HSP ⊢
  refine HSP.out.mono ?_
  rintro e w1 ⟨rfl,hstr,hb1⟩
  have HSTR:=hide hstr
  have HI0:=hide (show RtI w w1 t 0 0 (.slice none 0 0) (.slice none 0 0) [] [] w1 from ⟨HK0.out.below hb1 HK0.out.lt,lnsR_nil _ _,ownI_nil _ _,Below.refl _ _,Nat.le_trans HB0.out.size hb1.size,rfl,Nat.le_refl _,rfl,Nat.le_refl _,fun q hq=>absurd hq List.not_mem_nil,HB0.out.trans (hb1.mono HB0.out.size)⟩)
  clear hstr hb1 HB0 HK0 HSP
  generalize w0.heap.size=gs at HSTR ⊢
  go_wp2_with fail
  go_loopw [4,5,6,19] (fun v4 v5 av iv wr=>∃ (i a:Nat) (qs:List LnQ) (ps:List Int),i≤(nlL t).length∧iv=.int .i64 i∧av=.int .i64 a∧Hid (RtI w w1 t i a v4 v5 qs ps wr)) (fun _ _ _ iv _=>(nlL t).length-(intOf iv).toNat)
  case atStart=>exact ⟨0,0,[],[],Nat.zero_le _,rfl,rfl,HI0⟩
  case round =>
   clear HI0
   obtain ⟨i,a,qs,ps,hi,rfl,rfl,HI⟩:=hrel
   by_cases hlt:i<(nlL t).length
   ·have hltz:(i:Int)<((nlL t).length:Int):=by omega
    have hcell:=(HSTR.out.below HI.out.bs).at_ i hlt
    have hmem:(nlL t).getD i ⟨#[]⟩∈nlL t:=by
     rw [List.getD_eq_getElem?_getD,List.getElem?_eq_getElem hlt]
     exact List.getElem_mem hlt
    have hps:=Nat.le_trans (nl_le hmem) HTS.out
    have hdr:(nlL t).drop i=(nlL t).getD i ⟨#[]⟩ :: (nlL t).drop (i+1):=by
     rw [List.drop_eq_getElem_cons hlt,List.getD_eq_getElem?_getD,List.getElem?_eq_getElem hlt]
     rfl
    have HDR:=Lib.hid hdr
    have ha:(a:Int)≤500000000:=by have:=HI.out.at_;omega
    clear hmem hdr
    generalize (nlL t).getD i ⟨#[]⟩=p at hcell hps HDR
    have hpz:(p.size:Int)≤20000:=by omega
    by_cases hp0:p.size=0
    ·have hpe:p.toList=[]:=by rw [ByteArray.toList_eq];exact List.eq_nil_of_length_eq_zero hp0
     have hr2:p.toList.isEmpty=true:=by rw [hpe];rfl
     have hr1:(!p.toList.isEmpty)=false:=by rw [hpe];rfl
     have HN:=hide (HI.out.skip HDR.out rfl hp0)
     clear hp0
     go_wp2_with fail
     go_round
     case rel=>exact ⟨i+1,a+p.size+1,qs,ps,by omega,by go_num,by rw [show ((a+p.size+1:Nat):Int)=(a:Int)+((p.size:Int)+1) by omega],HN⟩
     case measure=>simp [intOf];omega
    ·have hpe:¬p.toList=[]:=by
      intro e
      rw [ByteArray.toList_eq] at e
      exact hp0 (congrArg List.length e:p.data.toList.length=0)
     have hr2:p.toList.isEmpty=false:=by simpa using hpe
     have hr1:(!p.toList.isEmpty)=true:=by rw [hr2];rfl
     have HP0:=Lib.hid hp0
     have HRL:=hide (refLine_any p wr (HG.out.below HI.out.bel) (HF.out.below HI.out.bel) (HK.out.below HI.out.bel) (by omega))
     clear hp0
     go_wp2_with fail
     refine HRL.out.mono ?_
     rintro e w2 (⟨f,hl,hf0,rfl,hb2⟩ | ⟨x,v,hl,hcan,rfl,ho,hb2⟩)
     ·have hne:(!(f.1==0))=true:=by simpa using hf0
      have hne2:(f.1==0)=false:=by simpa using hf0
      have hir:=HI.out.is
      rw [HDR.out,linesR_bad HP0.out hl] at hir
      have HTR:=Lib.hid (textR_bad HBG.out hir.symm)
      have HF0:=Lib.hid hf0
      have HI2:=hide ((HI.out.below hb2).below (((Below.refl w2.heap.size w2).alloc (Nat.le_refl _) (.cells #[.int .i64 0,.string ⟨#[]⟩,.int .i64 0,.int .i64 0,.int .i64 0,.string ⟨#[]⟩,.slice none 0 0] 34)).alloc (by simp) (.cells #[.int .i64 f.1,.int .i64 f.2] 80)))
      have HK2:=hide (Blk.new (w2.alloc (.cells #[.int .i64 0,.string ⟨#[]⟩,.int .i64 0,.int .i64 0,.int .i64 0,.string ⟨#[]⟩,.slice none 0 0] 34)) 80 #[.int .i64 f.1,.int .i64 f.2])
      rw [World.size_alloc] at HK2
      unfold lnV lnC ln0
      simp only []
      have HSZ:=Lib.hid (show w.heap.size<w2.heap.size+1 from by have:=HI.out.bel.size;have:=hb2.size;omega)
      clear HRL hl hf0 hir hb2
      go_wp2_with fail
      generalize World.alloc _ (.cells #[.int .i64 f.1,.int .i64 f.2] 80)=w3 at HI2 HK2 ⊢
      generalize w2.heap.size+1=b10 at HK2 HSZ ⊢
      have k0:=HK2.out.cell 0
      have i0:b10≠w.heap.size:=fun e=>by have:=HSZ.out;omega
      obtain ⟨⟨d0,d1⟩,r0,r1⟩:=blk2 HI2.out.b3
      go_region
      go_wp2_with fail
      obtain ⟨h2',hbe'⟩:=ft_tell HI2.out.b3 HI2.out.bel (.int .i64 f.1) (.int .i64 (a:Int))
      have h2:=h2'.drew
      have hbe:=hbe'.drew
      clear k0 i0 d0 d1 r0 r1 h2' hbe'
      generalize World.drew _=W at h2 hbe ⊢
      obtain ⟨⟨n0,n1⟩,_⟩:=blk2 h2
      exact bodyPost_ret (v:=.tuple #[.slice none 0 0,.agg #[.int .i64 f.1,.int .i64 (a:Int)]]) (by simp [results,Tryz.results42,go_sem,n0,n1]) rfl (.inl ⟨(f.1,(a:Int)),HTR.out,HF0.out,rfl,hbe⟩)
     ·obtain ⟨A6,c6,rfl⟩:=ho.len
      have HLR:=Lib.hid hl
      have HOK:=hide (lineR_ok hl (by omega) hcan)
      have HI2:=hide ((HI.out.below hb2).below (((Below.refl w2.heap.size w2).alloc (Nat.le_refl _) (.cells #[.int .i64 x.k,.string x.name,.int .i64 (x.ver 0),.int .i64 (x.ver 1),.int .i64 (x.ver 2),.string x.other,.slice A6 (flatI x.rg).length c6] 34)).alloc (by simp) (.cells #[.int .i64 0,.int .i64 (-1)] 80)))
      have HOX:=hide ((ho.mono (Nat.zero_le _)).below (((Below.refl w2.heap.size w2).alloc (Nat.le_refl _) (.cells #[.int .i64 x.k,.string x.name,.int .i64 (x.ver 0),.int .i64 (x.ver 1),.int .i64 (x.ver 2),.string x.other,.slice A6 (flatI x.rg).length c6] 34)).alloc (by simp) (.cells #[.int .i64 0,.int .i64 (-1)] 80)))
      have HPS:=Lib.hid hps
      have HQL:=Lib.hid (show qs.length≤90000000 by have:=HI.out.few;omega)
      have HPL:=Lib.hid (show ps.length+1≤10000000000 by have:=HI.out.few;have:=HI.out.len;omega)
      have HFR:=Lib.hid (show ∀ k,(slQ (x,A6,(flatI x.rg).length,c6)).ownBlock=some k→u5.ownBlock≠some k from fun k e e2=>by
       have h1:=(World.ownsRow.lt ho k e).1
       have h2:=(World.ownsRow.lt HI.out.pls k e2).2
       omega)
      unfold lnV lnC
      clear HRL hl hcan hb2 ho
      have HSZ:=Lib.hid (show ((w2.alloc (.cells #[.int .i64 x.k,.string x.name,.int .i64 (x.ver 0),.int .i64 (x.ver 1),.int .i64 (x.ver 2),.string x.other,.slice A6 (flatI x.rg).length c6] 34)).alloc (.cells #[.int .i64 0,.int .i64 (-1)] 80)).heap.size=w2.heap.size+1+1 by simp)
      have hb9:w2.heap.size+1+1<w2.heap.size+1+1+1:=by omega
      go_wp2_with (first
       | (at_builtin;(refine appI _ rfl _ _ _ rfl w1.heap.size Tryz.underlying31 _ ps rfl HI9.out _ (some ⟨_,0,none⟩) 1 1 [(a:Int)] rfl (blk_reads (zs:=[(a:Int)]) (Blk.new _ 3 #[.int .i64 (a:Int)])) rfl HPL.out (Nat.le_trans HL9.out (by simp)) ?_;intro v10 w10 ho10 hg10 hor10;have HN:=hide (HI2.out.push (q:=(x,A6,(flatI x.rg).length,c6)) HDR.out rfl HP0.out HPS.out HLR.out HOX.out HOK.out HFR.out HO9.out HG9.out ho10 hg10 hor10);clear ho10 hg10 hor10))
       | (at_builtin;generalize World.alloc (World.alloc w2 _) (Obj.cells #[.int .i64 0,.int .i64 (-1)] 80)=wA at HI2 HOX HSZ ⊢;have e1:=(OwnK.below HI2.out.lns.1 ((Below.refl wA.heap.size wA).alloc (Nat.le_refl _) (Obj.cells #[Value.int IntKind.i64 x.k,Value.string x.name,Value.int IntKind.i64 (x.ver 0),Value.int IntKind.i64 (x.ver 1),Value.int IntKind.i64 (x.ver 2),Value.string x.other,Value.slice A6 (flatI x.rg).length c6] 34)));have e2:Blk (wA.alloc (Obj.cells #[Value.int IntKind.i64 x.k,Value.string x.name,Value.int IntKind.i64 (x.ver 0),Value.int IntKind.i64 (x.ver 1),Value.int IntKind.i64 (x.ver 2),Value.string x.other,Value.slice A6 (flatI x.rg).length c6] 34)) (w2.heap.size+1+1) 34 (lnF (x,A6,(flatI x.rg).length,c6)).toArray:=(by rw [←HSZ.out];exact Blk.new wA 34 _);have e4:w1.heap.size≤(wA.alloc (Obj.cells #[Value.int IntKind.i64 x.k,Value.string x.name,Value.int IntKind.i64 (x.ver 0),Value.int IntKind.i64 (x.ver 1),Value.int IntKind.i64 (x.ver 2),Value.string x.other,Value.slice A6 (flatI x.rg).length c6] 34)).heap.size:=(Nat.le_trans HI2.out.bs.size (by simp));refine appK1 elR _ lineRInfo rfl (by decide) rfl _ _ _ rfl w1.heap.size Tryz.underlying23 u4 qs rfl e1 (w2.heap.size+1+1) 1 (x,A6,(flatI x.rg).length,c6) rfl e2 HQL.out e4 ?_;intro v9 w9 ho9 hg9 hor9;have HO9:=hide ho9;have HG9:=hide hg9;have HI9:=hide (RtI.pl9 (o10:=Obj.cells #[Value.int IntKind.i64 (a:Int)] 3) HI2.out HG9.out);have HL9:=Lib.hid (show w1.heap.size≤w9.heap.size from Nat.le_trans HI2.out.bs.size (Nat.le_trans (by simp) hg9.size));clear ho9 hg9 hor9 e1 e2 e4))
      go_round
      case rel=>exact ⟨i+1,a+p.size+1,qs++[_],ps++[(a:Int)],by omega,by go_num,by rw [show ((a+p.size+1:Nat):Int)=(a:Int)+((p.size:Int)+1) by omega],HN⟩
      case measure=>simp [intOf];omega
   ·have hltz:¬(i:Int)<((nlL t).length:Int):=by omega
    have hln:linesR (nlL t) 0 [] []=.inr (qs.map (·.1),ps):=by
     have h1:=HI.out.is
     rw [List.drop_eq_nil_of_le (by omega)] at h1
     exact h1.symm
    have HLN:=Lib.hid hln
    have HRC:=hide (refCat_any u4 qs wr ⟨HI.out.lns.1.mono (Nat.zero_le _),HI.out.lns.2⟩ (HF.out.below HI.out.bel))
    clear hln
    go_wp2_with fail
    refine HRC.out.mono ?_
    rintro e w2 ⟨rfl,hb2⟩
    have HI2:=hide (HI.out.below hb2)
    clear HRC hb2
    cases hcr:catR (qs.map (·.1)) with
    | inl f =>
     obtain ⟨hf0,hf1⟩:=catR_place hcr
     rw [catF_is hcr]
     have HCR:=Lib.hid hcr
     clear hcr
     have hne:(!(f.1==0))=true:=by simpa using hf0
     have hne2:(f.1==0)=false:=by simpa using hf0
     rcases hf1 with hm | ⟨hm,hm2⟩
     ·obtain ⟨f1,f2⟩:=f
      simp only [] at hm hf0 hne hne2 ⊢
      subst hm
      have HI3:=hide (HI2.out.below ((Below.refl w2.heap.size w2).alloc (Nat.le_refl _) (.cells #[.int .i64 f1,.int .i64 (-1)] 80)))
      have HK2:=hide (Blk.new w2 80 #[.int .i64 f1,.int .i64 (-1)])
      have HSZ:=Lib.hid (show w.heap.size<w2.heap.size from HI2.out.b3.lt)
      have HTR:=Lib.hid (textR_cat HBG.out HLN.out HCR.out)
      have HF0:=Lib.hid hf0
      clear hf0
      go_wp2_with fail
      generalize World.alloc w2 (.cells #[.int .i64 f1,.int .i64 (-1)] 80)=w3 at HI3 HK2 ⊢
      generalize w2.heap.size=b10 at HK2 HSZ ⊢
      have i0:b10≠w.heap.size:=fun e=>by have:=HSZ.out;omega
      have k0:=HK2.out.cell 0
      have k1:=HK2.out.cell 1
      obtain ⟨⟨d0,d1⟩,r0,r1⟩:=blk2 HI3.out.b3
      go_region
      go_wp2_with fail
      obtain ⟨h2',hbe'⟩:=ft_tell HI3.out.b3 HI3.out.bel (.int .i64 f1) (.int .i64 (-1))
      have h2:=h2'.drew
      have hbe:=hbe'.drew
      clear k0 k1 i0 d0 d1 r0 r1 h2' hbe'
      generalize World.drew _=W at h2 hbe ⊢
      obtain ⟨⟨n0,n1⟩,_⟩:=blk2 h2
      exact bodyPost_ret (v:=.tuple #[.slice none 0 0,.agg #[.int .i64 f1,.int .i64 (-1)]]) (by simp [results,Tryz.results42,go_sem,n0,n1]) rfl (.inl ⟨_,HTR.out,HF0.out,rfl,hbe⟩)
     ·obtain ⟨f1,f2⟩:=f
      simp only [] at hm hm2 hf0 hne hne2 ⊢
      obtain ⟨k,rfl⟩:∃ k:Nat,f2=k:=⟨f2.toNat,by omega⟩
      have hkl:k<ps.length:=by have:=HI.out.len;simp at hm2;omega
      have hge:(!decide ((k:Int)<0))=true:=by simp
      have hge2:¬(k:Int)<0:=by omega
      obtain ⟨g5,c5,cur5,hu5,_,_,_,hcur5⟩:=HI.out.pls.form (by omega)
      subst hu5
      have hklz:(k:Int)<(ps.length:Int):=by omega
      obtain ⟨_,_,_,e5,_,hk5,_,hc5⟩:=HI2.out.pls.form (by omega)
      injection e5 with e5 _ _
      injection e5 with e5
      injection e5 with e5
      subst e5
      have hc5k:=(hk5.cell k).trans (hc5 k hkl)
      have hb5:=hk5.lt
      have hn5:g5≠w.heap.size:=fun e=>hk5.ne_ HI2.out.b3 (by decide) e
      clear hcur5 hk5 hc5
      have HTR:=Lib.hid (textR_cat HBG.out HLN.out HCR.out)
      have HF0:=Lib.hid hf0
      clear hf0
      have HBA:=hide ((Below.refl w2.heap.size w2).alloc (Nat.le_refl _) (.cells #[.int .i64 f1,.int .i64 (k:Int)] 80))
      have HKA:=hide (Blk.new w2 80 #[.int .i64 f1,.int .i64 (k:Int)])
      have HSZ:=Lib.hid (show w.heap.size<w2.heap.size from HI2.out.b3.lt)
      have HB3:=hide (HI2.out.b3.below HBA.out HI2.out.b3.lt)
      have HBL:=hide (HI2.out.bel.trans (HBA.out.mono HI2.out.bel.size))
      have hc5k:=HBA.out.cell (p:=⟨g5,k,none⟩) hb5 |>.trans hc5k
      go_wp2_with fail
      have hpk:ps.getD k 0=ps[k]:=by rw [List.getD_eq_getElem?_getD,List.getElem?_eq_getElem hkl];rfl
      have HP:=Lib.hid (show placeF ps (f1,(k:Int))=(f1,ps[k]) by unfold placeF;rw [if_pos hm,←hpk];rfl)
      rw [HP.out] at HTR
      generalize ps[k]=pk at HTR ⊢
      clear HBA HKA HB3 HBL hc5k hpk HP
      have HI3:=hide (HI2.out.below ((Below.refl w2.heap.size w2).alloc (Nat.le_refl _) (.cells #[.int .i64 f1,.int .i64 pk] 80)))
      have HK2:=hide (Blk.new w2 80 #[.int .i64 f1,.int .i64 pk])
      generalize World.alloc w2 (.cells #[.int .i64 f1,.int .i64 pk] 80)=w3 at HI3 HK2 ⊢
      generalize w2.heap.size=b10 at HK2 HSZ hb5 ⊢
      have i0:b10≠w.heap.size:=fun e=>by have:=HSZ.out;omega
      have k0:=HK2.out.cell 0
      have k1:=HK2.out.cell 1
      obtain ⟨⟨d0,d1⟩,r0,r1⟩:=blk2 HI3.out.b3
      go_region
      go_wp2_with fail
      obtain ⟨h2',hbe'⟩:=ft_tell HI3.out.b3 HI3.out.bel (.int .i64 f1) (.int .i64 pk)
      have h2:=h2'.drew
      have hbe:=hbe'.drew
      clear k0 k1 i0 d0 d1 r0 r1 h2' hbe'
      generalize World.drew _=W at h2 hbe ⊢
      obtain ⟨⟨n0,n1⟩,_⟩:=blk2 h2
      exact bodyPost_ret (v:=.tuple #[.slice none 0 0,.agg #[.int .i64 f1,.int .i64 pk]]) (by simp [results,Tryz.results42,go_sem,n0,n1]) rfl (.inl ⟨_,HTR.out,HF0.out,rfl,hbe⟩)
    | inr its =>
     rw [catF_ok hcr]
     have HCR:=Lib.hid hcr
     clear hcr
     have HI3:=hide (HI2.out.below ((Below.refl w2.heap.size w2).alloc (Nat.le_refl _) (.cells #[.int .i64 0,.int .i64 (-1)] 80)))
     have HF3:=HF.out.below HI3.out.bel
     obtain ⟨hf0,hf1⟩:=HF3
     have i0:0≠w.heap.size:=fun e=>by have:=lt_of_cell HF.out.1;simp only at this;omega
     go_wp2_with fail
     generalize World.alloc w2 _=w3 at HI3 hf0 hf1 ⊢
     obtain ⟨⟨d0,d1⟩,r0,r1⟩:=blk2 HI3.out.b3
     go_region
     go_wp2_with fail
     obtain ⟨h2',hbe'⟩:=ft_tell HI3.out.b3 HI3.out.bel (.int .i64 0) (.int .i64 (-1))
     have h2:=h2'.drew
     have hbe:=hbe'.drew
     have hL:=HI3.out.lns.told HI3.out.b3 (.int .i64 0) (.int .i64 (-1))
     clear i0 d0 d1 r0 r1 h2' hbe' hf0 hf1
     generalize World.drew _=W at h2 hbe hL ⊢
     obtain ⟨⟨n0,n1⟩,_⟩:=blk2 h2
     exact bodyPost_ret (v:=.tuple #[u4,.agg #[.int .i64 0,.int .i64 (-1)]]) (by simp [results,Tryz.results42,go_sem,n0,n1]) rfl (.inr ⟨u4,qs,its,textR_ok HBG.out HLN.out HCR.out,HCR.out,rfl,⟨hL.1.mono HI3.out.lo,hL.2⟩,hbe⟩)
end Go.Proofs.YtojgbcmhdnappaaGreatDoor
