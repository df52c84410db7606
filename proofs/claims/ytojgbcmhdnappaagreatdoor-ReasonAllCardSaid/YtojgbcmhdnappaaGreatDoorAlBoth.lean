/-
  A part of the proof: Both. Conditions: none.
-/
import Derived.Test.YtojgbcmhdnappaaGreatDoorAlPaBody
namespace Go.Proofs.YtojgbcmhdnappaaGreatDoor
open Go.RowKit Go.Shelf
open Classical
attribute [local go_sem] Oper.semAt_some
set_option maxRecDepth 100000
set_option maxHeartbeats 8000000 in
theorem catParse_any (t:ByteArray) (w:World) (hG:GlobV w) (hs:t.size≤9223372036854775807):Calls Tryz.prog 43 #[.string t] w (CatParseP t w):=by
 have HG:=hide hG
 refine (callsIn_wide (n:=4)).1 ?_
 refine callsIn_of_wp_marks Tryz.func43 rfl trivial ?_ rfl
 simp only [Tryz.ntmps43,List.size_toArray,List.length_cons,List.length_nil,Nat.reduceAdd,Nat.reduceSub,Array.replicate_succ,Array.replicate_zero,List.push_toArray,List.append_toArray,List.nil_append,List.cons_append]
 by_cases hl:20000<t.size
 ·have hz:(t.size:Int) > 20000:=by omega
  have n0:=((Blk.new w 22 #[.pointer none]).alloc (.cells #[.iface 41 (.int .i64 4)] 37)).cell 0
  have n1:=(Blk.new (w.alloc (.cells #[.pointer none] 22)) 37 #[.iface 41 (.int .i64 4)]).cell 0
  rw [World.size_alloc] at n1
  gi_wp2
  exact ⟨.tuple #[.pointer none,.iface 41 (.int .i64 4)],by simp [results,Tryz.f43,go_sem,n0,n1],.inl ⟨_,(4,-1),by unfold textR;rw [if_pos hl],by decide,rfl,.inr (.inl ⟨rfl,by decide,by decide,rfl⟩),((Below.refl w.heap.size w).alloc (Nat.le_refl _) _).alloc (by simp) _⟩⟩
 ·have hz:¬(t.size:Int) > 20000:=by omega
  gi_wp2_with (refine ⟨trivial,?_⟩;gi_at_call 91;refine (callsIn_wide.2 (splitSeqO_any t ⟨#[10]⟩ _)).mono ?_;rintro e w9 ⟨rfl,rfl⟩)
  have b0:Below w.heap.size w (w.alloc (.cells #[.pointer none] 22)):=(Below.refl w.heap.size w).alloc (Nat.le_refl _) _
  have z0:(w.alloc (.cells #[.pointer none] 22)).heap.size=w.heap.size+1:=by simp
  have k0:=Blk.new w 22 #[.pointer none]
  generalize w.alloc (.cells #[.pointer none] 22)=W0 at b0 k0 z0 ⊢
  have b1:=b0.alloc b0.size (.cells #[.nilIface] 37)
  have z1:(W0.alloc (.cells #[.nilIface] 37)).heap.size=w.heap.size+2:=by simp [z0]
  have k1:=Blk.new W0 37 #[.nilIface]
  have k0:=k0.alloc (.cells #[.nilIface] 37)
  rw [z0] at k1
  generalize W0.alloc (.cells #[.nilIface] 37)=W1 at b1 k1 k0 z1 ⊢
  have b2:=b1.alloc b1.size (.cells #[.slice none 0 0] 165)
  have z2:(W1.alloc (.cells #[.slice none 0 0] 165)).heap.size=w.heap.size+3:=by simp [z1]
  have k2:=Blk.new W1 165 #[.slice none 0 0]
  have k0:=k0.alloc (.cells #[.slice none 0 0] 165)
  have k1:=k1.alloc (.cells #[.slice none 0 0] 165)
  rw [z1] at k2
  generalize W1.alloc (.cells #[.slice none 0 0] 165)=W2 at b2 k2 k1 k0 z2 ⊢
  have b3:=b2.alloc b2.size (.cells #[.slice none 0 0] 31)
  have z3:(W2.alloc (.cells #[.slice none 0 0] 31)).heap.size=w.heap.size+4:=by simp [z2]
  have k3:=Blk.new W2 31 #[.slice none 0 0]
  have k0:=k0.alloc (.cells #[.slice none 0 0] 31)
  have k1:=k1.alloc (.cells #[.slice none 0 0] 31)
  have k2:=k2.alloc (.cells #[.slice none 0 0] 31)
  rw [z2] at k3
  generalize W2.alloc (.cells #[.slice none 0 0] 31)=W3 at b3 k3 k2 k1 k0 z3 ⊢
  have b4:=b3.alloc b3.size (.cells #[.int .i64 0] 3)
  have z4:(W3.alloc (.cells #[.int .i64 0] 3)).heap.size=w.heap.size+5:=by simp [z3]
  have k4:=Blk.new W3 3 #[.int .i64 0]
  have k0:=k0.alloc (.cells #[.int .i64 0] 3)
  have k1:=k1.alloc (.cells #[.int .i64 0] 3)
  have k2:=k2.alloc (.cells #[.int .i64 0] 3)
  have k3:=k3.alloc (.cells #[.int .i64 0] 3)
  rw [z3] at k4
  generalize W3.alloc (.cells #[.int .i64 0] 3)=W4 at b4 k4 k3 k2 k1 k0 z4 ⊢
  have b5:=b4.alloc b4.size (.cells #[.string t] 9)
  have z5:(W4.alloc (.cells #[.string t] 9)).heap.size=w.heap.size+6:=by simp [z4]
  have k5:=Blk.new W4 9 #[.string t]
  have k0:=k0.alloc (.cells #[.string t] 9)
  have k1:=k1.alloc (.cells #[.string t] 9)
  have k2:=k2.alloc (.cells #[.string t] 9)
  have k3:=k3.alloc (.cells #[.string t] 9)
  have k4:=k4.alloc (.cells #[.string t] 9)
  rw [z4] at k5
  generalize W4.alloc (.cells #[.string t] 9)=W5 at b5 k5 k4 k3 k2 k1 k0 z5 ⊢
  have b6:=b5.alloc b5.size (.cells #[.string ⟨#[10]⟩] 9)
  have z6:(W5.alloc (.cells #[.string ⟨#[10]⟩] 9)).heap.size=w.heap.size+7:=by simp [z5]
  have k6:=Blk.new W5 9 #[.string ⟨#[10]⟩]
  have k0:=k0.alloc (.cells #[.string ⟨#[10]⟩] 9)
  have k1:=k1.alloc (.cells #[.string ⟨#[10]⟩] 9)
  have k2:=k2.alloc (.cells #[.string ⟨#[10]⟩] 9)
  have k3:=k3.alloc (.cells #[.string ⟨#[10]⟩] 9)
  have k4:=k4.alloc (.cells #[.string ⟨#[10]⟩] 9)
  have k5:=k5.alloc (.cells #[.string ⟨#[10]⟩] 9)
  rw [z5] at k6
  generalize W5.alloc (.cells #[.string ⟨#[10]⟩] 9)=W6 at b6 k6 k5 k4 k3 k2 k1 k0 z6 ⊢
  have b7:=b6.alloc b6.size (.cells #[.int .i64 0] 3)
  have z7:(W6.alloc (.cells #[.int .i64 0] 3)).heap.size=w.heap.size+8:=by simp [z6]
  have k7:=Blk.new W6 3 #[.int .i64 0]
  have k0:=k0.alloc (.cells #[.int .i64 0] 3)
  have k1:=k1.alloc (.cells #[.int .i64 0] 3)
  have k2:=k2.alloc (.cells #[.int .i64 0] 3)
  have k3:=k3.alloc (.cells #[.int .i64 0] 3)
  have k4:=k4.alloc (.cells #[.int .i64 0] 3)
  have k5:=k5.alloc (.cells #[.int .i64 0] 3)
  have k6:=k6.alloc (.cells #[.int .i64 0] 3)
  rw [z6] at k7
  generalize W6.alloc (.cells #[.int .i64 0] 3)=W7 at b7 k7 k6 k5 k4 k3 k2 k1 k0 z7 ⊢
  clear b0 b1 b2 b3 b4 b5 b6 z0 z1 z2 z3 z4 z5 z6
  simp only [Nat.add_assoc,Nat.reduceAdd]
  have h0:PaI w t [] W7:=⟨⟨_,_,[],[],0,⟨k0,k1,k2,k3,k4,ownK_nil _ _ _,ownI_nil _ _,fun q hq=>absurd hq List.not_mem_nil,Fr.refl _ _⟩,rfl,Nat.le_refl _,rfl,by omega⟩,b7⟩
  refine wpIn_splitSeqX (n:=4) (w.heap.size+6) (w.heap.size+5) (w.heap.size+7) t ⟨#[10]⟩ rfl (by decide) (by omega) (by omega) k6 k5 k7 (by omega) (by omega) rfl (paX w.heap.size) (fun k hk=>by unfold paX at hk;omega)
   (PaI w t) (fun _=>PaX w t) (fun pre A B h hf=>h.fr (by rw [z7] at hf;exact hf)) (fun pre A B h hf=>h.fr (by rw [z7] at hf;exact hf)) (fun pre A h=>HG.out.below h.bel) h0
   (fun x=>{ tmps:=#[.string t,undef,.pointer (some ⟨w.heap.size,0,none⟩),.pointer (some ⟨w.heap.size+1,0,none⟩),.pointer (some ⟨w.heap.size+2,0,none⟩),.pointer (some ⟨w.heap.size+3,0,none⟩),.pointer (some ⟨w.heap.size+4,0,none⟩),.string x,undef,undef,undef,undef,undef,undef,.string t,.int .i64 (t.size:Int),.bool false,undef,.string t,.func (.func 191) #[] #[.pointer (some ⟨w.heap.size+6,0,none⟩),.pointer (some ⟨w.heap.size+5,0,none⟩),.pointer (some ⟨w.heap.size+7,0,none⟩)],.string x,undef,undef,undef,undef,undef,undef,undef,undef,undef,undef,undef,undef,undef,undef,undef,undef,undef,undef,undef,undef,undef,undef,undef,undef,undef,undef,undef,undef,undef,undef,undef,undef,undef,undef,undef,undef,undef,undef,undef,undef,undef,undef,undef,undef,undef,undef,undef,undef,undef,undef,undef,undef,undef,undef,undef],defers:=[] }) ?assign ?body ?done ?stop
  case assign=>as_aux_lemma =>
   intro l x W K hK
   gi_wp2
   exact hK
  case body =>
   intro l pre x r W hI hpx hsz
   exact parseBody_any t w HG.out hs hl l pre x r W hI hpx (by rw [z7] at hsz;exact hsz)
  case done=>as_aux_lemma =>
   intro W h hd
   obtain ⟨v4,v5,qs,ps,a,hM,hi,hq,hpl,ha⟩:=h.is
   have hlin:linesR (nlL t) 0 [] []=.inr (qs.map (·.1),ps):=by
    rw [show pieL ⟨#[10]⟩ t=nlL t from rfl,List.drop_length] at hi
    exact hi.symm
   have HLN:=Lib.hid hlin
   have HM:=hide hM
   have HBL:=hide h.bel
   have HPL:=Lib.hid hpl
   have HL:=Lib.hid hl
   have hdl:W7.heap.size<W.heap.size:=by
    rcases Nat.lt_or_ge W7.heap.size W.heap.size with h9 | h9
    ·exact h9
    ·rw [Array.getElem?_eq_none h9] at hd;cases hd
   rw [z7] at hd hdl
   have HD:=Lib.hid hd
   have HDL:=Lib.hid hdl
   have HZ:=Lib.hid z7
   have HNW:=hide (catNew_any v4 qs W ⟨hM.rA.mono (Nat.zero_le _),fun q hq=>⟨(hM.inn q hq).1.mono (Nat.zero_le _),(hM.inn q hq).2⟩⟩)
   clear h0 k0 k1 k2 k3 k4 k5 k6 k7 b7 h hi hq hpl ha hlin hM hd hdl hl hz hs hG
   have y4:=HM.out.b4.cell 0
   gi_wp2_with fail
   refine ⟨trivial,?_⟩
   refine (callsIn_wide.2 HNW.out).mono ?_
   rintro e w2 (⟨f,u,hcr,hf0,rfl,her,hb2⟩ | ⟨its,g,hcr,rfl,hco,hb2⟩)
   ·obtain ⟨f1,f2⟩:=f
    have HTR:=Lib.hid (textR_cat HL.out HLN.out hcr)
    have hpl2:=(catR_place hcr).2
    simp only [] at hf0 hpl2
    rcases her with ⟨e,_⟩ | ⟨hm,h1,h2,rfl⟩ | ⟨b,hbl,h1,h2,h3,rfl,hk⟩
    ·injection e with e _;exact absurd e hf0
    ·as_aux_lemma =>
     simp only [] at hm h1 h2
     subst hm
     have hD2:=(hb2.block _ HDL.out).trans HD.out
     have hM2:=HM.out.below hb2
     obtain ⟨fr2,hK2,fr3,e0,e1⟩:=pa_end hM2.b2 hM2.b3 hD2 (.pointer none) (.iface 41 (.int .i64 f1))
     have c0:=hM2.b2.cell 0
     have g0:=hM2.b2.frozen 0
     have c1:=(hM2.b3.far (p:=⟨w.heap.size,0,none⟩) (by show w.heap.size+1≠w.heap.size;omega) (.pointer none)).cell 0
     have g1:=(hM2.b3.far (p:=⟨w.heap.size,0,none⟩) (by show w.heap.size+1≠w.heap.size;omega) (.pointer none)).frozen 0
     have HBE:=hide ((HBL.out.trans (hb2.mono HBL.out.size)).trans (fr3.to_below (HBL.out.trans (hb2.mono HBL.out.size)).size (fun k hk=>by omega)))
     clear hD2 hM2
     have ht:=ta_no f1 w2
     gi_wp2
     refine ⟨by simp,.inl ⟨_,_,rfl,run_takeDeferred hK2,?_⟩⟩
     exact ⟨.tuple #[.pointer none,.iface 41 (.int .i64 f1)],by simp [results,Tryz.f43,go_sem,e0,e1],.inl ⟨_,_,HTR.out,hf0,rfl,.inr (.inl ⟨rfl,h1,h2,rfl⟩),HBE.out⟩⟩
    ·as_aux_lemma =>
     simp only [] at h1 h2 h3 hk
     obtain ⟨k,rfl⟩:∃ k:Nat,f2=k:=⟨f2.toNat,by omega⟩
     have hkl:k<ps.length:=by
      have:=HPL.out
      rcases hpl2 with h9 | ⟨_,h9⟩
      ·omega
      ·rw [List.length_map] at h9;omega
     have hpk:ps.getD k 0=ps[k]:=by rw [List.getD_eq_getElem?_getD,List.getElem?_eq_getElem hkl];rfl
     have HP:=Lib.hid (show placeF ps (f1,(k:Int))=(f1,ps[k]) by unfold placeF;rw [if_pos h3,←hpk];rfl)
     rw [HP.out] at HTR
     have HPG:=Lib.hid (linesR_pos HLN.out (fun p hp=>absurd hp List.not_mem_nil) (ps[k]) (List.getElem_mem hkl))
     have hD2:=(hb2.block _ HDL.out).trans HD.out
     have hM2:=HM.out.below hb2
     obtain ⟨g5,c5,cur5,hu5,_,hk5,_,hc5⟩:=hM2.rB.form (by omega)
     subst hu5
     have y5:=hM2.b5.cell 0
     have ya:=hk.cell 0
     have yb:=hk.cell 1
     have yp:w2.cell? ⟨g5,k,none⟩=some (.int .i64 ps[k]):=by rw [←hpk];exact (hk5.cell k).trans (hc5 k hkl)
     have hklz:(k:Int)<(ps.length:Int):=by omega
     have c0:=hM2.b2.cell 0
     have g0:=hM2.b2.frozen 0
     have c1:=hM2.b3.cell 0
     have g1:=hM2.b3.frozen 0
     have ht:=ta_yes b w2
     have i0:b≠w.heap.size:=fun e=>Blk.ne_ hk hM2.b2 (by decide) e
     have i5:g5≠w.heap.size:=fun e=>Blk.ne_ hk5 hM2.b2 (by decide) e
     have l0:w.heap.size<w2.heap.size:=hM2.b2.lt
     have l1:w.heap.size+1<w2.heap.size:=hM2.b3.lt
     have l3:w.heap.size+3<w2.heap.size:=hM2.b5.lt
     have l5:g5<w2.heap.size:=hk5.lt
     gi_wp2_with fail
     refine wpIn_wide.2 ?_
     go_region
     obtain ⟨hK4,fr4,e0,e1,hA⟩:=pa_end2 hM2.b2 hM2.b3 hD2 (.pointer none) (.iface 183 (.pointer (some ⟨w2.heap.size,0,none⟩))) #[.int .i64 f1,.int .i64 ps[k]]
     have HBE:=hide ((HBL.out.trans (hb2.mono HBL.out.size)).trans (fr4.to_below (HBL.out.trans (hb2.mono HBL.out.size)).size (fun k hk=>by omega)))
     clear fr4 hD2 hM2 hk hk5 hc5 y5 ya yb yp c0 g0 c1 g1 i0 i5 l0 l1 l3 l5
     as_aux_lemma =>
     gi_wp2
     refine ⟨by simp,.inl ⟨_,_,rfl,run_takeDeferred hK4,?_⟩⟩
     exact ⟨.tuple #[.pointer none,.iface 183 (.pointer (some ⟨w2.heap.size,0,none⟩))],by simp [results,Tryz.f43,go_sem,e0,e1],.inl ⟨_,_,HTR.out,hf0,rfl,.inr (.inr ⟨_,hA.lt,h1,h2,HPG.out,rfl,hA⟩),HBE.out⟩⟩
   ·as_aux_lemma =>
    have hD2:=(hb2.block _ HDL.out).trans HD.out
    have hM2:=HM.out.below hb2
    obtain ⟨fr2,hK2,fr3,e0,e1⟩:=pa_end hM2.b2 hM2.b3 hD2 (.pointer (some ⟨g,0,none⟩)) .nilIface
    have c0:=hM2.b2.cell 0
    have g0:=hM2.b2.frozen 0
    have c1:=(hM2.b3.far (p:=⟨w.heap.size,0,none⟩) (by show w.heap.size+1≠w.heap.size;omega) (.pointer (some ⟨g,0,none⟩))).cell 0
    have g1:=(hM2.b3.far (p:=⟨w.heap.size,0,none⟩) (by show w.heap.size+1≠w.heap.size;omega) (.pointer (some ⟨g,0,none⟩))).frozen 0
    have HBE:=hide ((HBL.out.trans (hb2.mono HBL.out.size)).trans (fr3.to_below (HBL.out.trans (hb2.mono HBL.out.size)).size (fun k hk=>by omega)))
    have HCO:=hide ((hco.fr3 fr3 (fun k hk=>⟨by have:=HDL.out;omega,fun cs hs=>by
     rcases hk with rfl | rfl | rfl
     ·exact Blk.ne_ hs hM2.b2 (by decide) rfl
     ·exact Blk.ne_ hs hM2.b3 (by decide) rfl
     ·unfold Blk at hs;rw [hD2] at hs;cases hs⟩)).mono HBL.out.size)
    have HTX:=Lib.hid (textR_ok HL.out HLN.out hcr)
    clear hD2 hM2 hco
    have ht:=ta_nil w2
    gi_wp2
    refine ⟨by simp,.inl ⟨_,_,rfl,run_takeDeferred hK2,?_⟩⟩
    exact ⟨.tuple #[.pointer (some ⟨g,0,none⟩),.nilIface],by simp [results,Tryz.f43,go_sem,e0,e1],.inr ⟨g,qs,HTX.out,rfl,HCO.out,HBE.out⟩⟩
  case stop=>as_aux_lemma =>
   intro pre W h hK
   obtain ⟨u,q,h1,h2,hb,h3,h4⟩:=h.is
   gi_wp2
   have hg:=fr_putObj (S:=fun k=>k=W7.heap.size) W (.deferred none) rfl
   have hg2:Fr (paL w.heap.size) W (W.putObj W7.heap.size (.deferred none)):=hg.mono fun k _ e=>.inr (.inl (by rw [e,z7]))
   have hX:=h.fr hg2
   have e0:=(h.b2.fr hg (by rw [z7];omega)).cell 0
   have e1:=(h1.fr hg (by rw [z7];omega)).cell 0
   have hu:IsErr (W.putObj W7.heap.size (.deferred none)) u q:=by
    rcases h2 with h2 | h2 | ⟨b,hl9,e1,e2,e3,e4,e5⟩
    ·exact .inl h2
    ·exact .inr (.inl h2)
    ·have:=hb b e4
     exact .inr (.inr ⟨b,Nat.lt_of_lt_of_le hl9 hg.size,e1,e2,e3,e4,e5.fr hg (by rw [z7];omega)⟩)
   refine ⟨by simp,.inl ⟨_,_,rfl,run_takeDeferred hK,?_⟩⟩
   exact ⟨.tuple #[.pointer none,u],by simp [results,Tryz.f43,go_sem,e0,e1],.inl ⟨u,q,textR_bad hl h4,h3,rfl,hu,hX.bel⟩⟩
end Go.Proofs.YtojgbcmhdnappaaGreatDoor
namespace Go.Proofs.YtojgbcmhdnappaaGreatDoor
open Go.RowKit
open Classical
set_option maxRecDepth 100000
def BothTP (t:ByteArray) (w:World) (e:Ending) (w':World):Prop :=
 ((1500<t.size∨∃ f,textR t=.inl f)∧e=.returned (.tuple #[.pointer none,.slice none 0 0,.bool false])∧Below w.heap.size w w') ∨
 ∃ v g qs qs' its,t.size≤1500∧textR t=.inr (qs.map (·.1))∧qs'.map (·.1)=qs.map (·.1)∧catR (qs.map (·.1))=.inr its∧e=.returned (.tuple #[.pointer (some ⟨g,0,none⟩),v,.bool true])∧LnsR w' w.heap.size v qs∧CatO w' w.heap.size g qs'∧Below w.heap.size w w'
set_option maxHeartbeats 4000000 in
theorem both_any (t:ByteArray) (w:World) (hG:GlobV w) (hF:FineP w) (hK:KindsP w) (hs:t.size≤9223372036854775807):Calls Tryz.prog 7 #[.string t] w (BothTP t w):=by
 by_cases hbig:1500<t.size
 ·have hz:(1500:Int)<(t.size:Int):=by omega
  go_enter Tryz.func7,Tryz.ntmps7
  go_wp2_with fail
  exact bodyPost_ret (v:=.tuple #[.pointer none,.slice none 0 0,.bool false]) (by simp [results,Tryz.results7,go_sem]) rfl (.inl ⟨.inl hbig,rfl,Below.refl _ _⟩)
 ·have hz:¬(1500:Int)<(t.size:Int):=by omega
  have HRT:=hide (refTxt_any t w hG hF hK hs)
  have HG:=hide hG
  clear hG hF hK
  go_enter Tryz.func7,Tryz.ntmps7
  go_wp2_with fail
  refine HRT.out.mono ?_
  rintro e w1 (⟨f,htx,hf0,rfl,hb1⟩ | ⟨v,qs,its,htx,hcr,rfl,hl,hb1⟩)
  ·have hne:(!(f.1==0))=true:=by simpa using hf0
   have hne2:(f.1==0)=false:=by simpa using hf0
   have HB:=hide (hb1.alloc hb1.size (.cells #[.int .i64 f.1,.int .i64 f.2] 80))
   have HTX:=Lib.hid htx
   clear htx hb1 hf0 HRT
   go_wp2_with fail
   exact bodyPost_ret (v:=.tuple #[.pointer none,.slice none 0 0,.bool false]) (by simp [results,Tryz.results7,go_sem]) rfl (.inl ⟨.inr ⟨f,HTX.out⟩,rfl,HB.out⟩)
  ·have HB:=hide (hb1.alloc hb1.size (.cells #[.int .i64 0,.int .i64 (-1)] 80))
   have hal:=(Below.refl w1.heap.size w1).alloc (Nat.le_refl _) (.cells #[.int .i64 0,.int .i64 (-1)] 80)
   have HL:=hide (hl.below hal)
   have HCP:=hide (catParse_any t (w1.alloc (.cells #[.int .i64 0,.int .i64 (-1)] 80)) (HG.out.below HB.out) hs)
   have HTX:=Lib.hid htx
   have HCR:=Lib.hid hcr
   clear htx hcr hl hb1 hal HRT
   obtain ⟨A,c,rfl,_⟩:=HL.out.1.len
   go_wp2_with fail
   refine HCP.out.mono ?_
   rintro e w2 (⟨u,f,htx,_⟩ | ⟨g,qs',htx,rfl,hco,hb2⟩)
   ·rw [HTX.out] at htx;cases htx
   ·have HQ:=Lib.hid (Sum.inr.inj (HTX.out.symm.trans htx)).symm
    have HL2:=hide (HL.out.below hb2)
    have HC2:=hide (hco.mono HB.out.size)
    have HB2:=hide (HB.out.trans (hb2.mono HB.out.size))
    clear htx hco hb2 HCP
    go_wp2_with fail
    exact bodyPost_ret (v:=.tuple #[.pointer (some ⟨g,0,none⟩),.slice A qs.length c,.bool true]) (by simp [results,Tryz.results7,go_sem]) rfl (.inr ⟨_,g,qs,qs',its,by omega,HTX.out,HQ.out,HCR.out,rfl,HL2.out,HC2.out,HB2.out⟩)
end Go.Proofs.YtojgbcmhdnappaaGreatDoor
