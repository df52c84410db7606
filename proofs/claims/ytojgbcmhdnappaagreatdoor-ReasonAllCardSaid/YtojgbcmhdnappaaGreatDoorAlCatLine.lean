/-
  A part of the proof: CatLine. Conditions: none.
-/
import Derived.Test.YtojgbcmhdnappaaGreatDoorAlCatLay
import Derived.IntWalk
import Derived.BigQuiet
namespace Go.Proofs.YtojgbcmhdnappaaGreatDoor
open Go.RowKit
set_option maxRecDepth 100000
def NextP (s:ByteArray) (w:World) (e:Ending) (w':World):Prop:=e=.returned (.tuple #[.string (wordS s),.string (tailS s)])∧Below w.heap.size w w'
theorem next_any (s:ByteArray) (w:World) (hs:s.size≤21000):Calls Tryz.prog 71 #[.string s] w (NextP s w):=by
 have hI:=Tryz.strings_IndexByte s 32 w
 rw [show ((32:Int).toNat).toUInt8=32 by decide] at hI
 rcases blank_or s with h | ⟨i,h,hi⟩
 ·rw [h] at hI
  have HI:=hide hI
  clear hI
  go_enter Tryz.func71,Tryz.ntmps71
  go_wp2_with (go_at_call 119;refine HI.out.mono ?_;rintro e w9 ⟨rfl,rfl⟩)
  go_ret2
  exact ⟨by rw [(blank_miss h).1,(blank_miss h).2];rfl,Below.refl _ _⟩
 ·rw [h] at hI
  have HI:=hide hI
  clear hI
  have z0:¬((i:Int)<0):=by omega
  have z1:(i:Int)≤(s.size:Int):=by omega
  have z2:(i:Int)+1≤(s.size:Int):=by omega
  go_enter Tryz.func71,Tryz.ntmps71
  go_wp2_with (go_at_call 119;refine HI.out.mono ?_;rintro e w9 ⟨rfl,rfl⟩)
  go_quiet (fail)
  go_wp2
  go_ret2
  exact ⟨by rw [(blank_hit h).1,(blank_hit h).2];rfl,below_drewN (Below.refl _ _) _⟩
structure KindsP (w:World):Prop where
 is:∃ b off c,w.cell? ⟨1,0,none⟩=some (.slice (some ⟨b,off,none⟩) 5 c)∧∀ k,k<5→w.cell? ⟨b,off+k,none⟩=some (.string (kindB.getD k ByteArray.empty))
theorem KindsP.below {w w':World} (h:KindsP w) (hb:Below w.heap.size w w'):KindsP w':=by
 obtain ⟨b,off,c,h1,h2⟩:=h.is
 exact ⟨b,off,c,(hb.cell (lt_of_cell h1)).trans h1,fun k hk=>(hb.cell (p:=⟨b,off+k,none⟩) (lt_of_cell (h2 k hk))).trans (h2 k hk)⟩
def lnC (x:LnR) (v:Value):Array Value:=#[.int .i64 x.k,.string x.name,.int .i64 (x.ver 0),.int .i64 (x.ver 1),.int .i64 (x.ver 2),.string x.other,v]
def lnV (x:LnR) (v:Value):Value:=.agg (lnC x v)
def ln0:LnR:=⟨0,⟨#[]⟩,fun _=>0,⟨#[]⟩,[]⟩
def RefLineP (s:ByteArray) (w:World) (e:Ending) (w':World):Prop :=
 (∃ f:Int×Int,lineR s=.inl f∧f.1≠0∧e=.returned (.tuple #[lnV ln0 (.slice none 0 0),.agg #[.int .i64 f.1,.int .i64 f.2]])∧Below w.heap.size w w') ∨
 ∃ x v,lineR s=.inr x∧CanF 0 x.rg∧e=.returned (.tuple #[lnV x v,.agg #[.int .i64 0,.int .i64 (-1)]])∧OwnI w' w.heap.size v (flatI x.rg)∧Below w.heap.size w w'
structure LxI (w:World) (bx:Nat) (cs:Array Value) (wr:World):Prop where
 b2:Blk wr w.heap.size 34 (lnC ln0 (.slice none 0 0))
 b3:Blk wr (w.heap.size+1) 80 #[.int .i64 0,.int .i64 0]
 bx_:Blk wr bx 34 cs
 lo:w.heap.size+1<bx
 bel:Below w.heap.size w wr
section
variable {w wr wr':World} {bx:Nat} {cs:Array Value}
theorem LxI.below (h:LxI w bx cs wr) (hb:Below wr.heap.size wr wr'):LxI w bx cs wr':=⟨h.b2.below hb h.b2.lt,h.b3.below hb h.b3.lt,h.bx_.below hb h.bx_.lt,h.lo,h.bel.trans (hb.mono h.bel.size)⟩
theorem LxI.set_ (h:LxI w bx cs wr) (i:Nat) (u:Value):LxI w bx (cs.setIfInBounds i u) (wr.setCell ⟨bx,i,none⟩ u) :=
 ⟨h.b2.far (by have:=h.lo;show w.heap.size≠bx;omega) u,h.b3.far (by have:=h.lo;show w.heap.size+1≠bx;omega) u,h.bx_.set_ i u,h.lo,h.bel.setCell (p:=⟨bx,i,none⟩) (by have:=h.lo;show w.heap.size≤bx;omega) u⟩
end
def kkL (s:ByteArray) (k:Nat):Int:=if kindK (wordS s)<k then (kindK (wordS s):Int) else 0
def lnK (n:Int):LnR:=⟨n,⟨#[]⟩,fun _=>0,⟨#[]⟩,[]⟩
theorem blk7 {w:World} {g:Nat} {t:TypeId} {a0 a1 a2 a3 a4 a5 a6:Value} (h:Blk w g t #[a0,a1,a2,a3,a4,a5,a6]) :
  (w.cell? ⟨g,0,none⟩=some a0∧w.cell? ⟨g,1,none⟩=some a1∧w.cell? ⟨g,2,none⟩=some a2∧w.cell? ⟨g,3,none⟩=some a3∧w.cell? ⟨g,4,none⟩=some a4∧w.cell? ⟨g,5,none⟩=some a5∧w.cell? ⟨g,6,none⟩=some a6) ∧
  w.frozen? ⟨g,0,none⟩=false∧w.frozen? ⟨g,1,none⟩=false∧w.frozen? ⟨g,2,none⟩=false∧w.frozen? ⟨g,3,none⟩=false∧w.frozen? ⟨g,4,none⟩=false∧w.frozen? ⟨g,5,none⟩=false∧w.frozen? ⟨g,6,none⟩=false :=
 ⟨⟨h.cell 0,h.cell 1,h.cell 2,h.cell 3,h.cell 4,h.cell 5,h.cell 6⟩,h.frozen 0,h.frozen 1,h.frozen 2,h.frozen 3,h.frozen 4,h.frozen 5,h.frozen 6⟩
theorem blk2 {w:World} {g:Nat} {t:TypeId} {a0 a1:Value} (h:Blk w g t #[a0,a1]):(w.cell? ⟨g,0,none⟩=some a0∧w.cell? ⟨g,1,none⟩=some a1)∧w.frozen? ⟨g,0,none⟩=false∧w.frozen? ⟨g,1,none⟩=false:=⟨⟨h.cell 0,h.cell 1⟩,h.frozen 0,h.frozen 1⟩
theorem LxI.fr7 {w wr:World} {g:Nat} (S:Nat→Prop) (h:Below w.heap.size w wr) (hg:S g) (hw:w.heap.size≤g) (a0 a1 a2 a3 a4 a5 a6:Value) :
  Fr S wr (((((((wr.setCell ⟨g,0,none⟩ a0).setCell ⟨g,1,none⟩ a1).setCell ⟨g,2,none⟩ a2).setCell ⟨g,3,none⟩ a3).setCell ⟨g,4,none⟩ a4).setCell ⟨g,5,none⟩ a5).setCell ⟨g,6,none⟩ a6)∧Below w.heap.size w (((((((wr.setCell ⟨g,0,none⟩ a0).setCell ⟨g,1,none⟩ a1).setCell ⟨g,2,none⟩ a2).setCell ⟨g,3,none⟩ a3).setCell ⟨g,4,none⟩ a4).setCell ⟨g,5,none⟩ a5).setCell ⟨g,6,none⟩ a6) :=
 ⟨(((((((Fr.refl S wr).set_ (p:=⟨g,0,none⟩) hg a0).set_ (p:=⟨g,1,none⟩) hg a1).set_ (p:=⟨g,2,none⟩) hg a2).set_ (p:=⟨g,3,none⟩) hg a3).set_ (p:=⟨g,4,none⟩) hg a4).set_ (p:=⟨g,5,none⟩) hg a5).set_ (p:=⟨g,6,none⟩) hg a6,
  ((((((h.setCell (p:=⟨g,0,none⟩) hw a0).setCell (p:=⟨g,1,none⟩) hw a1).setCell (p:=⟨g,2,none⟩) hw a2).setCell (p:=⟨g,3,none⟩) hw a3).setCell (p:=⟨g,4,none⟩) hw a4).setCell (p:=⟨g,5,none⟩) hw a5).setCell (p:=⟨g,6,none⟩) hw a6⟩
theorem blk7_set {wr:World} {g:Nat} {t:TypeId} {x0 x1 x2 x3 x4 x5 x6:Value} (h:Blk wr g t #[x0,x1,x2,x3,x4,x5,x6]) (a0 a1 a2 a3 a4 a5 a6:Value):Blk (((((((wr.setCell ⟨g,0,none⟩ a0).setCell ⟨g,1,none⟩ a1).setCell ⟨g,2,none⟩ a2).setCell ⟨g,3,none⟩ a3).setCell ⟨g,4,none⟩ a4).setCell ⟨g,5,none⟩ a5).setCell ⟨g,6,none⟩ a6) g t #[a0,a1,a2,a3,a4,a5,a6]:=by
 have s0:Blk _ g t #[a0,x1,x2,x3,x4,x5,x6]:=h.set_ 0 a0
 have s1:Blk _ g t #[a0,a1,x2,x3,x4,x5,x6]:=s0.set_ 1 a1
 have s2:Blk _ g t #[a0,a1,a2,x3,x4,x5,x6]:=s1.set_ 2 a2
 have s3:Blk _ g t #[a0,a1,a2,a3,x4,x5,x6]:=s2.set_ 3 a3
 have s4:Blk _ g t #[a0,a1,a2,a3,a4,x5,x6]:=s3.set_ 4 a4
 have s5:Blk _ g t #[a0,a1,a2,a3,a4,a5,x6]:=s4.set_ 5 a5
 have s6:Blk _ g t #[a0,a1,a2,a3,a4,a5,a6]:=s5.set_ 6 a6
 exact s6
def twoS (w:World) (k:Nat):Prop:=k=w.heap.size∨k=w.heap.size+1
theorem LxI.end1 {w wr:World} {bx:Nat} {cs:Array Value} (h:LxI w bx cs wr) (a0 a1 a2 a3 a4 a5 a6 f0 f1:Value) :
  Blk (((((((((wr.setCell ⟨w.heap.size,0,none⟩ a0).setCell ⟨w.heap.size,1,none⟩ a1).setCell ⟨w.heap.size,2,none⟩ a2).setCell ⟨w.heap.size,3,none⟩ a3).setCell ⟨w.heap.size,4,none⟩ a4).setCell ⟨w.heap.size,5,none⟩ a5).setCell ⟨w.heap.size,6,none⟩ a6).setCell ⟨w.heap.size+1,0,none⟩ f0).setCell ⟨w.heap.size+1,1,none⟩ f1) w.heap.size 34 #[a0,a1,a2,a3,a4,a5,a6]∧Blk (((((((((wr.setCell ⟨w.heap.size,0,none⟩ a0).setCell ⟨w.heap.size,1,none⟩ a1).setCell ⟨w.heap.size,2,none⟩ a2).setCell ⟨w.heap.size,3,none⟩ a3).setCell ⟨w.heap.size,4,none⟩ a4).setCell ⟨w.heap.size,5,none⟩ a5).setCell ⟨w.heap.size,6,none⟩ a6).setCell ⟨w.heap.size+1,0,none⟩ f0).setCell ⟨w.heap.size+1,1,none⟩ f1) (w.heap.size+1) 80 #[f0,f1]∧Fr (twoS w) wr (((((((((wr.setCell ⟨w.heap.size,0,none⟩ a0).setCell ⟨w.heap.size,1,none⟩ a1).setCell ⟨w.heap.size,2,none⟩ a2).setCell ⟨w.heap.size,3,none⟩ a3).setCell ⟨w.heap.size,4,none⟩ a4).setCell ⟨w.heap.size,5,none⟩ a5).setCell ⟨w.heap.size,6,none⟩ a6).setCell ⟨w.heap.size+1,0,none⟩ f0).setCell ⟨w.heap.size+1,1,none⟩ f1)∧Below w.heap.size w (((((((((wr.setCell ⟨w.heap.size,0,none⟩ a0).setCell ⟨w.heap.size,1,none⟩ a1).setCell ⟨w.heap.size,2,none⟩ a2).setCell ⟨w.heap.size,3,none⟩ a3).setCell ⟨w.heap.size,4,none⟩ a4).setCell ⟨w.heap.size,5,none⟩ a5).setCell ⟨w.heap.size,6,none⟩ a6).setCell ⟨w.heap.size+1,0,none⟩ f0).setCell ⟨w.heap.size+1,1,none⟩ f1):=by
 have h7:=blk7_set h.b2 a0 a1 a2 a3 a4 a5 a6
 obtain ⟨hf,hb⟩:=LxI.fr7 (twoS w) h.bel (g:=w.heap.size) (.inl rfl) (Nat.le_refl _) a0 a1 a2 a3 a4 a5 a6
 obtain ⟨hf1,_⟩:=LxI.fr7 (fun k=>k=w.heap.size) h.bel (g:=w.heap.size) rfl (Nat.le_refl _) a0 a1 a2 a3 a4 a5 a6
 have h3:=h.b3.fr hf1 (by omega)
 exact ⟨(h7.far (p:=⟨w.heap.size+1,0,none⟩) (by show w.heap.size≠w.heap.size+1;omega) f0).far (p:=⟨w.heap.size+1,1,none⟩) (by show w.heap.size≠w.heap.size+1;omega) f1,(h3.set_ 0 f0).set_ 1 f1,
  (hf.set_ (p:=⟨w.heap.size+1,0,none⟩) (.inr rfl) f0).set_ (p:=⟨w.heap.size+1,1,none⟩) (.inr rfl) f1,(hb.setCell (p:=⟨w.heap.size+1,0,none⟩) (by show w.heap.size≤w.heap.size+1;omega) f0).setCell (p:=⟨w.heap.size+1,1,none⟩) (by show w.heap.size≤w.heap.size+1;omega) f1⟩
theorem OwnI.fr {S:Nat→Prop} {w w':World} {base:Nat} {v:Value} {l:List Int} (h:OwnI w base v l) (hf:Fr S w w') (hs:∀ k,base≤k→¬S k):OwnI w' base v l:=by
 refine ⟨h.1,?_⟩
 rcases h.2 with h2 | ⟨g,cap,cur,e,hg,hgc,r⟩
 ·exact .inl h2
 ·have hk:Blk w g 3 cur:=hgc
  exact .inr ⟨g,cap,cur,e,hg,hk.fr hf (hs g hg),r⟩
theorem rg_bad {r:ByteArray} {f:Int×Int} (h:BothP r f):rgR r=.inl f:=by
 unfold BothP at h
 unfold rgR
 split at h
 ·rename_i hs
  rw [if_pos hs,h]
 ·rename_i hs
  obtain ⟨q,h1,rfl⟩:=h
  rw [if_neg hs,h1]
theorem rg_ok {r:ByteArray} {l:List (Nat×Nat)} (hs:r.size≤1000) (h:rangeR r=.inr l):rgR r=.inr l:=by
 unfold rgR
 rw [if_neg (by omega),h]
set_option maxHeartbeats 8000000 in
theorem refLine_any (s:ByteArray) (w:World) (hG:GlobV w) (hF:FineP w) (hK:KindsP w) (hs:s.size≤21000):Calls Tryz.prog 30 #[.string s] w (RefLineP s w):=by
 have HG:=hide hG
 have HF:=hide hF
 have HK:=hide hK
 have k2:=(Blk.new w 34 (lnC ln0 (.slice none 0 0))).alloc (.cells #[.int .i64 0,.int .i64 0] 80)
 have k3:=Blk.new (w.alloc (.cells (lnC ln0 (.slice none 0 0)) 34)) 80 #[.int .i64 0,.int .i64 0]
 have b0:=((Below.refl w.heap.size w).alloc (Nat.le_refl _) (.cells (lnC ln0 (.slice none 0 0)) 34)).alloc (by simp) (.cells #[.int .i64 0,.int .i64 0] 80)
 have z0:((w.alloc (.cells (lnC ln0 (.slice none 0 0)) 34)).alloc (.cells #[.int .i64 0,.int .i64 0] 80)).heap.size=w.heap.size+2:=by simp
 rw [World.size_alloc] at k3
 unfold lnC ln0 at k2 k3 b0 z0
 have H2:=Lib.hid k2
 have H3:=Lib.hid k3
 have HB:=Lib.hid b0
 have HZ:=Lib.hid z0
 clear hG hF hK k2 k3 b0 z0
 go_enter Tryz.func30,Tryz.ntmps30
 go_wp2_with fail
 generalize ((w.alloc (.cells #[.int .i64 0,.string ⟨#[]⟩,.int .i64 0,.int .i64 0,.int .i64 0,.string ⟨#[]⟩,.slice none 0 0] 34)).alloc (.cells #[.int .i64 0,.int .i64 0] 80))=w0 at H2 H3 HB HZ ⊢
 refine (next_any s w0 hs).mono ?_
 rintro e w1 ⟨rfl,hb1⟩
 have hx:=(Below.refl w1.heap.size w1).alloc (Nat.le_refl _) (.cells #[.int .i64 0,.string ⟨#[]⟩,.int .i64 0,.int .i64 0,.int .i64 0,.string ⟨#[]⟩,.slice none 0 0] 34)
 have HX:=hide (show LxI w w1.heap.size (lnC (lnK (kkL s 1)) (.slice none 0 0)) (w1.alloc (.cells #[.int .i64 0,.string ⟨#[]⟩,.int .i64 0,.int .i64 0,.int .i64 0,.string ⟨#[]⟩,.slice none 0 0] 34)) from by
  have e9:kkL s 1=0:=by unfold kkL;split <;> omega
  rw [e9]
  exact ⟨(H2.out.below hb1 H2.out.lt).alloc _,(H3.out.below hb1 H3.out.lt).alloc _,Blk.new w1 _ _,by have:=hb1.size;rw [HZ.out] at this;omega,(HB.out.trans (hb1.mono HB.out.size)).trans (hx.mono (Nat.le_trans HB.out.size hb1.size))⟩)
 clear hb1 hx H2 H3 HB HZ
 go_wp2_with fail
 generalize (w1.alloc (.cells #[.int .i64 0,.string ⟨#[]⟩,.int .i64 0,.int .i64 0,.int .i64 0,.string ⟨#[]⟩,.slice none 0 0] 34))=w2 at HX ⊢
 generalize w1.heap.size=bx at HX ⊢
 go_loopw [7] (fun kv wr=>∃ k:Nat,1≤k∧k≤5∧kv=.int .i64 k∧Hid (LxI w bx (lnC (lnK (kkL s k)) (.slice none 0 0)) wr)) (fun kv _=>5-(intOf kv).toNat)
 case atStart=>exact ⟨1,by omega,by omega,rfl,HX⟩
 case round =>
  clear HX
  obtain ⟨k,h1,h5,rfl,HX⟩:=hrel
  by_cases hlt:k≤4
  ·have hltz:(k:Int)≤4:=by omega
   obtain ⟨kb,ko,kc,hk0,hkc⟩:=(HK.out.below HX.out.bel).is
   have hk1:=hkc k (by omega)
   have hki:=kind_is (wordS s) k h1 hlt
   clear hkc
   by_cases he:kindK (wordS s)=k
   ·have hb:((kindB.getD k ByteArray.empty).toList==(wordS s).toList)=true:=by rw [hki.2 he];simp
    have x0:=HX.out.bx_.cell 0
    have f0:=HX.out.bx_.frozen 0
    have HN:=hide (HX.out.set_ 0 (.int .i64 (k:Int)))
    have hkk:(lnC (lnK (kkL s k)) (.slice none 0 0)).setIfInBounds 0 (.int .i64 (k:Int))=lnC (lnK (kkL s (k+1))) (.slice none 0 0):=by
     have:kkL s (k+1)=(k:Int):=by unfold kkL;rw [he,if_pos (by omega)]
     rw [this]
     rfl
    rw [hkk] at HN
    have x1:wr.cell? ⟨bx,0,none⟩=some (.int .i64 (kkL s k)):=x0
    clear hkk hki he x0
    generalize kindB.getD k ByteArray.empty=kw at hk1 hb
    go_wp2_with fail
    go_round
    case rel=>exact ⟨k+1,by omega,by omega,by go_num,HN⟩
    case measure=>simp [intOf];omega
   ·have hb:((kindB.getD k ByteArray.empty).toList==(wordS s).toList)=false:=by
     have hne:¬kindB.getD k ByteArray.empty=wordS s:=fun e=>he (hki.1 e)
     rw [beq_eq_false_iff_ne]
     intro e
     rw [ByteArray.toList_eq,ByteArray.toList_eq] at e
     exact hne ((bytes_back _ _ rfl).symm.trans (bytes_back _ _ e))
    have HN:=hide (show LxI w bx (lnC (lnK (kkL s (k+1))) (.slice none 0 0)) wr from by
     have:kkL s (k+1)=kkL s k:=by unfold kkL;by_cases h9:kindK (wordS s)<k <;> simp [h9] <;> omega
     rw [this]
     exact HX.out)
    clear hki he
    generalize kindB.getD k ByteArray.empty=kw at hk1 hb
    go_wp2_with fail
    go_round
    case rel=>exact ⟨k+1,by omega,by omega,by go_num,HN⟩
    case measure=>simp [intOf];omega
  ·obtain rfl:k=5:=by omega
   have hltz:¬((5:Nat):Int)≤4:=by omega
   have x0:wr.cell? ⟨bx,0,none⟩=some (.int .i64 (kindK (wordS s):Int)):=by
    have e9:kkL s 5=(kindK (wordS s):Int):=by unfold kkL;rw [if_pos (by have:=kindK_le (wordS s);omega)]
    have:=HX.out.bx_.cell 0
    rw [e9] at this
    exact this
   have hKL:=kindK_le (wordS s)
   have hts:=tailS_size s
   have htt:=tailS_size (tailS s)
   have htw:=wordS_size (tailS (tailS s))
   have ht3:=tailS_size (tailS (tailS s))
   have ht4:=tailS_size (tailS (tailS (tailS s)))
   have hKL:=kindK_le (wordS s)
   by_cases hK0:kindK (wordS s)=0
   ·have hb0:((kindK (wordS s):Int)==0)=true:=by rw [hK0];rfl
    have HLR:=Lib.hid (show lineR s=.inl (3,-1) by unfold lineR;simp only [hK0,if_true])
    clear hK0
    go_wp2_with fail
    refine (bare_any (3) _).mono ?_
    rintro e ww ⟨rfl,rfl⟩
    have HB9:=hide (HX.out.below ((Below.refl _ _).alloc (Nat.le_refl _) (.cells #[.int .i64 (3),.int .i64 (-1)] 80)))
    generalize World.alloc _ (.cells #[.int .i64 (3),.int .i64 (-1)] 80)=wz at HB9 ⊢
    obtain ⟨⟨c0,c1,c2,c3,c4,c5,c6⟩,q0,q1,q2,q3,q4,q5,q6⟩:=blk7 (show Blk _ _ _ #[.int .i64 0,.string ⟨#[]⟩,.int .i64 0,.int .i64 0,.int .i64 0,.string ⟨#[]⟩,.slice none 0 0] from HB9.out.b2)
    obtain ⟨⟨d0,d1⟩,r0,r1⟩:=blk2 HB9.out.b3
    go_wp2_with fail
    clear c0 q0 c1 q1 c2 q2 c3 q3 c4 q4 c5 q5 c6 q6 d0 d1 r0 r1
    have hh:=HB9.out.end1 (.int .i64 0) (.string ⟨#[]⟩) (.int .i64 0) (.int .i64 0) (.int .i64 0) (.string ⟨#[]⟩) (.slice none 0 0) (.int .i64 (3)) (.int .i64 (-1))
    obtain ⟨h7',h3',hfr',hbe'⟩:=hh
    have h7:=h7'
    have h3:=h3'
    have hfr:=hfr'
    have hbe:=hbe'
    clear h7' h3' hfr' hbe'
    generalize World.setCell _ ⟨w.heap.size+1,1,none⟩ (.int .i64 (-1))=W at h7 h3 hfr hbe ⊢
    obtain ⟨⟨n0,n1,n2,n3,n4,n5,n6⟩,_⟩:=blk7 h7
    obtain ⟨⟨m0,m1⟩,_⟩:=blk2 h3
    exact bodyPost_ret (v:=.tuple #[.agg #[.int .i64 0,.string ⟨#[]⟩,.int .i64 0,.int .i64 0,.int .i64 0,.string ⟨#[]⟩,.slice none 0 0],.agg #[.int .i64 (3),.int .i64 (-1)]]) (by simp [results,Tryz.results30,go_sem,n0,n1,n2,n3,n4,n5,n6,m0,m1]) rfl (.inl ⟨(3,-1),HLR.out,by decide,rfl,hbe⟩)
   ·have hb0:((kindK (wordS s):Int)==0)=false:=by rw [beq_eq_false_iff_ne];omega
    go_wp2_with fail
    refine (next_any (tailS s) wr (by omega)).mono ?_
    rintro e wa ⟨rfl,hba⟩
    have HXa:=hide (show LxI w bx #[.int .i64 (kindK (wordS s):Int),.string ⟨#[]⟩,.int .i64 0,.int .i64 0,.int .i64 0,.string ⟨#[]⟩,.slice none 0 0] wa from by
     have e9:kkL s 5=(kindK (wordS s):Int):=by unfold kkL;rw [if_pos (by omega)]
     have:=HX.out.below hba
     rw [e9] at this
     exact this)
    have y0:wa.cell? ⟨bx,0,none⟩=some (.int .i64 (kindK (wordS s):Int)):=HXa.out.bx_.cell 0
    have y1:wa.cell? ⟨bx,1,none⟩=some (.string ⟨#[]⟩):=HXa.out.bx_.cell 1
    have f1:=HXa.out.bx_.frozen 1
    clear hba HX x0 hb0
    by_cases hK4:kindK (wordS s)=4
    ·rw [hK4] at y0 HXa
     have HE:=Lib.hid (show ∀ f,BothP (tailS (tailS s)) f→lineR s=.inl f from fun f h=>by unfold lineR;simp only [hK4];rw [if_neg (by decide),if_pos trivial,rg_bad h])
     have HO:=Lib.hid (show ∀ l,(tailS (tailS s)).size≤1000→rangeR (tailS (tailS s))=.inr l→lineR s=.inr ⟨4,wordS (tailS s),fun _=>0,ByteArray.empty,l⟩ from fun l h1 h2=>by unfold lineR;simp only [hK4];rw [if_neg (by decide),if_pos trivial,rg_ok h1 h2])
     have HXb:=hide (show LxI w bx #[.int .i64 4,.string (wordS (tailS s)),.int .i64 0,.int .i64 0,.int .i64 0,.string ⟨#[]⟩,.slice none 0 0] _ from HXa.out.set_ 1 (.string (wordS (tailS s))))
     clear hK4 hK0 hKL HXa
     go_wp2_with fail
     generalize (wa.setCell ⟨bx,1,none⟩ (.string (wordS (tailS s))))=wq at HXb ⊢
     clear y0 y1 f1
     have HRP:=hide (refParse_any (tailS (tailS s)) _ (HG.out.below HXb.out.bel) (HF.out.below HXb.out.bel) (by omega))
     refine HRP.out.mono ?_
     rintro e w5 (⟨v,⟨g1,g2⟩,hf,hf0,rfl,hb5⟩ | ⟨v,l,hsl,hr,hc,rfl,ho,hb5⟩)
     ·have HER:=Lib.hid (HE.out _ (show BothP (tailS (tailS s)) (g1,g2) from hf))
      have hne:(!(g1==0))=true:=by simpa using hf0
      have hne2:(g1==0)=false:=by simpa using hf0
      have HF0:=Lib.hid hf0
      have HK5:=hide (Blk.new w5 80 #[.int .i64 g1,.int .i64 g2])
      have HBF:=Lib.hid (show w.heap.size+1<w5.heap.size from by have:=HXb.out.lo;have:=HXb.out.bx_.lt;have:=hb5.size;omega)
      have HX5:=hide ((HXb.out.below hb5).below ((Below.refl w5.heap.size w5).alloc (Nat.le_refl _) (.cells #[.int .i64 g1,.int .i64 g2] 80)))
      clear HRP hf hf0 hb5
      go_wp2_with fail
      generalize (w5.alloc (.cells #[.int .i64 g1,.int .i64 g2] 80))=w6 at HK5 HX5 ⊢
      generalize w5.heap.size=bf at HK5 HBF ⊢
      obtain ⟨⟨e0,e1⟩,_⟩:=blk2 HK5.out
      have i0:bf≠w.heap.size:=fun e=>by have:=HBF.out;omega
      have i1:bf≠w.heap.size+1:=fun e=>by have:=HBF.out;omega
      obtain ⟨⟨c0,c1,c2,c3,c4,c5,c6⟩,q0,q1,q2,q3,q4,q5,q6⟩:=blk7 (show Blk _ _ _ #[.int .i64 0,.string ⟨#[]⟩,.int .i64 0,.int .i64 0,.int .i64 0,.string ⟨#[]⟩,.slice none 0 0] from HX5.out.b2)
      obtain ⟨⟨d0,d1⟩,r0,r1⟩:=blk2 HX5.out.b3
      go_region
      clear c0 q0 c1 q1 c2 q2 c3 q3 c4 q4 c5 q5 c6 q6 d0 d1 r0 r1
      clear e0 e1 i0 i1
      go_wp2_with fail
      have hh:=HX5.out.end1 (.int .i64 0) (.string ⟨#[]⟩) (.int .i64 0) (.int .i64 0) (.int .i64 0) (.string ⟨#[]⟩) (.slice none 0 0) (.int .i64 g1) (.int .i64 g2)
      obtain ⟨h7',h3',hfr',hbe'⟩:=hh
      have h7:=h7'.drew
      have h3:=h3'.drew
      have hfr:=hfr'.drew
      have hbe:=hbe'.drew
      clear h7' h3' hfr' hbe'
      generalize World.drew _=W at h7 h3 hfr hbe ⊢
      obtain ⟨⟨n0,n1,n2,n3,n4,n5,n6⟩,_⟩:=blk7 h7
      obtain ⟨⟨m0,m1⟩,_⟩:=blk2 h3
      exact bodyPost_ret (v:=.tuple #[.agg #[.int .i64 0,.string ⟨#[]⟩,.int .i64 0,.int .i64 0,.int .i64 0,.string ⟨#[]⟩,.slice none 0 0],.agg #[.int .i64 g1,.int .i64 g2]]) (by simp [results,Tryz.results30,go_sem,n0,n1,n2,n3,n4,n5,n6,m0,m1]) rfl (.inl ⟨(g1,g2),HER.out,HF0.out,rfl,hbe⟩)
     ·have HOK:=Lib.hid (HO.out _ hsl hr)
      have HC:=Lib.hid hc
      have HLO:=Lib.hid (show bx<wq.heap.size from HXb.out.bx_.lt)
      have HX4:=hide (HXb.out.below hb5)
      have HX5:=hide (show LxI w bx #[.int .i64 4,.string (wordS (tailS s)),.int .i64 0,.int .i64 0,.int .i64 0,.string ⟨#[]⟩,v] _ from HX4.out.set_ 6 v)
      have HOW:=hide (ho.fr ((Fr.refl (fun k=>k=bx) w5).set_ (p:=⟨bx,6,none⟩) rfl v) (fun k hk e=>by have:=HLO.out;omega))
      obtain ⟨A5,c5,rfl⟩:=ho.len
      have x6:w5.cell? ⟨bx,6,none⟩=some (.slice none 0 0):=HX4.out.bx_.cell 6
      have z6:=HX4.out.bx_.frozen 6
      have hblt:bx<w5.heap.size:=HX4.out.bx_.lt
      clear HRP hc hsl hr hb5 ho HX4
      go_wp2_with fail
      clear x6 z6 hblt
      have HX6:=hide (HX5.out.below ((Below.refl _ _).alloc (Nat.le_refl _) (.cells #[.int .i64 0,.int .i64 (-1)] 80)))
      have HOX:=hide (HOW.out.below ((Below.refl _ _).alloc (Nat.le_refl _) (.cells #[.int .i64 0,.int .i64 (-1)] 80)))
      clear HX5 HOW
      generalize World.alloc _ (.cells #[.int .i64 0,.int .i64 (-1)] 80)=w7 at HX6 HOX ⊢
      have i0:bx≠w.heap.size:=fun e=>by have:=HX6.out.lo;omega
      have i1:bx≠w.heap.size+1:=fun e=>by have:=HX6.out.lo;omega
      have i2:0<w.heap.size:=lt_of_cell HF.out.1
      have g0:=(HX6.out.bel.cell (lt_of_cell HF.out.1)).trans HF.out.1
      have g1:=(HX6.out.bel.cell (p:=⟨0,1,none⟩) (lt_of_cell HF.out.2)).trans HF.out.2
      obtain ⟨⟨y0,y1,y2,y3,y4,y5,y6⟩,_⟩:=blk7 HX6.out.bx_
      obtain ⟨⟨c0,c1,c2,c3,c4,c5,c6⟩,q0,q1,q2,q3,q4,q5,q6⟩:=blk7 (show Blk _ _ _ #[.int .i64 0,.string ⟨#[]⟩,.int .i64 0,.int .i64 0,.int .i64 0,.string ⟨#[]⟩,.slice none 0 0] from HX6.out.b2)
      obtain ⟨⟨d0,d1⟩,r0,r1⟩:=blk2 HX6.out.b3
      go_region
      clear c0 q0 c1 q1 c2 q2 c3 q3 c4 q4 c5 q5 c6 q6 d0 d1 r0 r1
      clear g0 g1 y0 y1 y2 y3 y4 y5 y6 i0 i1 i2
      go_wp2_with fail
      have hh:=HX6.out.end1 (.int .i64 4) (.string (wordS (tailS s))) (.int .i64 0) (.int .i64 0) (.int .i64 0) (.string ⟨#[]⟩) (.slice A5 (flatI l).length c5) (.int .i64 0) (.int .i64 (-1))
      obtain ⟨h7',h3',hfr',hbe'⟩:=hh
      have h7:=h7'.drew
      have h3:=h3'.drew
      have hfr:=hfr'.drew
      have hbe:=hbe'.drew
      clear h7' h3' hfr' hbe'
      generalize World.drew _=W at h7 h3 hfr hbe ⊢
      obtain ⟨⟨n0,n1,n2,n3,n4,n5,n6⟩,_⟩:=blk7 h7
      obtain ⟨⟨m0,m1⟩,_⟩:=blk2 h3
      exact bodyPost_ret (v:=.tuple #[.agg #[.int .i64 4,.string (wordS (tailS s)),.int .i64 0,.int .i64 0,.int .i64 0,.string ⟨#[]⟩,.slice A5 (flatI l).length c5],.agg #[.int .i64 0,.int .i64 (-1)]]) (by simp [results,Tryz.results30,go_sem,n0,n1,n2,n3,n4,n5,n6,m0,m1]) rfl (.inr ⟨_,_,HOK.out,HC.out,rfl,((HOX.out.fr hfr (fun k hk e=>by have:=HLO.out;have:=HX6.out.lo;unfold twoS at e;omega))).mono (by have:=HLO.out;have:=HX6.out.lo;omega),hbe⟩)
    ·have hk4:((kindK (wordS s):Int)==4)=false:=by rw [beq_eq_false_iff_ne];omega
     have HXb:=hide (show LxI w bx #[.int .i64 (kindK (wordS s):Int),.string (wordS (tailS s)),.int .i64 0,.int .i64 0,.int .i64 0,.string ⟨#[]⟩,.slice none 0 0] _ from HXa.out.set_ 1 (.string (wordS (tailS s))))
     have HLR:=Lib.hid (show lineR s=if verE (wordS (tailS (tailS s)))≠0 then .inl (verE (wordS (tailS (tailS s))),-1) else lineR2 (kindK (wordS s)) (wordS (tailS s)) (verV (wordS (tailS (tailS s)))) (tailS (tailS (tailS s))) from by
      unfold lineR
      simp only []
      rw [if_neg hK0,if_neg hK4])
     clear HXa
     go_wp2_with fail
     generalize (wa.setCell ⟨bx,1,none⟩ (.string (wordS (tailS s))))=wq at HXb ⊢
     clear y0 y1 f1
     refine (next_any (tailS (tailS s)) wq (by omega)).mono ?_
     rintro e wb ⟨rfl,hbb⟩
     have HXc:=hide (HXb.out.below hbb)
     have HRV:=hide (refVerParse_any (wordS (tailS (tailS s))) wb (HG.out.below HXc.out.bel) (by omega))
     unfold RefVerP verArr at HRV
     clear HXb hbb
     generalize wordS (tailS (tailS s))=vw at HRV HLR htw ⊢
     go_wp2_with fail
     refine HRV.out.mono ?_
     rintro e wc ⟨rfl,hbc⟩
     have HXd:=hide (HXc.out.below hbc)
     clear HRV hbc HXc
     have y0:wc.cell? ⟨bx,0,none⟩=some (.int .i64 (kindK (wordS s):Int)):=HXd.out.bx_.cell 0
     have hblt:bx<wc.heap.size:=HXd.out.bx_.lt
     by_cases hE:verE vw=0
     ·have hEb:(verE vw==0)=true:=by rw [hE];rfl
      have hL2:=HLR.out
      rw [if_neg (by simpa using hE)] at hL2
      have y2:wc.cell? ⟨bx,2,none⟩=some (.int .i64 0):=HXd.out.bx_.cell 2
      have y3:wc.cell? ⟨bx,3,none⟩=some (.int .i64 0):=HXd.out.bx_.cell 3
      have y4:wc.cell? ⟨bx,4,none⟩=some (.int .i64 0):=HXd.out.bx_.cell 4
      have f2:=HXd.out.bx_.frozen 2
      have f3:=HXd.out.bx_.frozen 3
      have f4:=HXd.out.bx_.frozen 4
      have HXe:=hide (show LxI w bx #[.int .i64 (kindK (wordS s):Int),.string (wordS (tailS s)),.int .i64 (verV vw 0),.int .i64 (verV vw 1),.int .i64 (verV vw 2),.string ⟨#[]⟩,.slice none 0 0] _ from ((HXd.out.set_ 2 (.int .i64 (verV vw 0))).set_ 3 (.int .i64 (verV vw 1))).set_ 4 (.int .i64 (verV vw 2)))
      have HXf:=hide (HXe.out.below ((Below.refl _ _).alloc (Nat.le_refl _) (.cells #[.int .i64 (verV vw 0),.int .i64 (verV vw 1),.int .i64 (verV vw 2)] 30)))
      have HLS:=Lib.hid hL2
      clear HLR hE HXd HXe hL2
      by_cases hK1:kindK (wordS s)=1
      ·rw [hK1] at y0 HXf HLS
       clear hk4 hK4 hK0
       by_cases hr0:(tailS (tailS (tailS s))).toList=[]
       ·have hr1:(!(tailS (tailS (tailS s))).toList.isEmpty)=false:=by rw [hr0];rfl
        have hr2:(tailS (tailS (tailS s))).toList.isEmpty=true:=by rw [hr0];rfl
        have HLT:=Lib.hid (show lineR s=.inr ⟨1,wordS (tailS s),verV vw,ByteArray.empty,[]⟩ from by
         rw [HLS.out]
         have e9:tailS (tailS (tailS s))=ByteArray.empty:=(bytes_back [] _ (by rw [←ByteArray.toList_eq,hr0])).symm
         unfold lineR2
         rw [if_pos rfl,if_pos e9])
        clear HLS
        go_wp2_with fail
        generalize World.alloc _ (.cells #[.int .i64 (verV vw 0),.int .i64 (verV vw 1),.int .i64 (verV vw 2)] 30)=wz at HXf ⊢
        clear y0 y2 y3 y4 f2 f3 f4 hblt
        have HLO:=Lib.hid HXf.out.lo
        have i0:bx≠w.heap.size:=fun e=>by have:=HXf.out.lo;omega
        have i1:bx≠w.heap.size+1:=fun e=>by have:=HXf.out.lo;omega
        have i2:0<w.heap.size:=lt_of_cell HF.out.1
        have g0:=(HXf.out.bel.cell (lt_of_cell HF.out.1)).trans HF.out.1
        have g1:=(HXf.out.bel.cell (p:=⟨0,1,none⟩) (lt_of_cell HF.out.2)).trans HF.out.2
        obtain ⟨⟨y0,y1,y2,y3,y4,y5,y6⟩,_⟩:=blk7 HXf.out.bx_
        obtain ⟨⟨c0,c1,c2,c3,c4,c5,c6⟩,q0,q1,q2,q3,q4,q5,q6⟩:=blk7 (show Blk _ _ _ #[.int .i64 0,.string ⟨#[]⟩,.int .i64 0,.int .i64 0,.int .i64 0,.string ⟨#[]⟩,.slice none 0 0] from HXf.out.b2)
        obtain ⟨⟨d0,d1⟩,r0,r1⟩:=blk2 HXf.out.b3
        go_region
        clear c0 q0 c1 q1 c2 q2 c3 q3 c4 q4 c5 q5 c6 q6 d0 d1 r0 r1
        clear g0 g1 y0 y1 y2 y3 y4 y5 y6 i0 i1 i2
        go_wp2_with fail
        have hh:=HXf.out.end1 (.int .i64 1) (.string (wordS (tailS s))) (.int .i64 (verV vw 0)) (.int .i64 (verV vw 1)) (.int .i64 (verV vw 2)) (.string ⟨#[]⟩) (.slice none 0 0) (.int .i64 0) (.int .i64 (-1))
        obtain ⟨h7',h3',hfr',hbe'⟩:=hh
        have h7:=h7'.drew
        have h3:=h3'.drew
        have hfr:=hfr'.drew
        have hbe:=hbe'.drew
        clear h7' h3' hfr' hbe'
        generalize World.drew _=W at h7 h3 hfr hbe ⊢
        obtain ⟨⟨n0,n1,n2,n3,n4,n5,n6⟩,_⟩:=blk7 h7
        obtain ⟨⟨m0,m1⟩,_⟩:=blk2 h3
        exact bodyPost_ret (v:=.tuple #[.agg #[.int .i64 1,.string (wordS (tailS s)),.int .i64 (verV vw 0),.int .i64 (verV vw 1),.int .i64 (verV vw 2),.string ⟨#[]⟩,.slice none 0 0],.agg #[.int .i64 0,.int .i64 (-1)]]) (by simp [results,Tryz.results30,go_sem,n0,n1,n2,n3,n4,n5,n6,m0,m1]) rfl (.inr ⟨_,_,HLT.out,trivial,rfl,ownI_nil _ _,hbe⟩)
       ·have hr2:(tailS (tailS (tailS s))).toList.isEmpty=false:=by simpa using hr0
        have hr1:(!(tailS (tailS (tailS s))).toList.isEmpty)=true:=by rw [hr2];rfl
        have HLT:=Lib.hid (show lineR s=.inl (3,-1) from by
         rw [HLS.out]
         unfold lineR2
         rw [if_pos rfl,if_neg]
         intro e9
         exact hr0 (by rw [e9,ByteArray.toList_eq];rfl))
        clear HLS
        go_wp2_with fail
        generalize World.alloc _ (.cells #[.int .i64 (verV vw 0),.int .i64 (verV vw 1),.int .i64 (verV vw 2)] 30)=wz0 at HXf ⊢
        clear y0 y2 y3 y4 f2 f3 f4 hblt
        refine (bare_any (3) _).mono ?_
        rintro e ww ⟨rfl,rfl⟩
        have HB9:=hide (HXf.out.below ((Below.refl _ _).alloc (Nat.le_refl _) (.cells #[.int .i64 (3),.int .i64 (-1)] 80)))
        generalize World.alloc _ (.cells #[.int .i64 (3),.int .i64 (-1)] 80)=wz at HB9 ⊢
        obtain ⟨⟨c0,c1,c2,c3,c4,c5,c6⟩,q0,q1,q2,q3,q4,q5,q6⟩:=blk7 (show Blk _ _ _ #[.int .i64 0,.string ⟨#[]⟩,.int .i64 0,.int .i64 0,.int .i64 0,.string ⟨#[]⟩,.slice none 0 0] from HB9.out.b2)
        obtain ⟨⟨d0,d1⟩,r0,r1⟩:=blk2 HB9.out.b3
        go_wp2_with fail
        clear c0 q0 c1 q1 c2 q2 c3 q3 c4 q4 c5 q5 c6 q6 d0 d1 r0 r1
        have hh:=HB9.out.end1 (.int .i64 0) (.string ⟨#[]⟩) (.int .i64 0) (.int .i64 0) (.int .i64 0) (.string ⟨#[]⟩) (.slice none 0 0) (.int .i64 (3)) (.int .i64 (-1))
        obtain ⟨h7',h3',hfr',hbe'⟩:=hh
        have h7:=h7'
        have h3:=h3'
        have hfr:=hfr'
        have hbe:=hbe'
        clear h7' h3' hfr' hbe'
        generalize World.setCell _ ⟨w.heap.size+1,1,none⟩ (.int .i64 (-1))=W at h7 h3 hfr hbe ⊢
        obtain ⟨⟨n0,n1,n2,n3,n4,n5,n6⟩,_⟩:=blk7 h7
        obtain ⟨⟨m0,m1⟩,_⟩:=blk2 h3
        exact bodyPost_ret (v:=.tuple #[.agg #[.int .i64 0,.string ⟨#[]⟩,.int .i64 0,.int .i64 0,.int .i64 0,.string ⟨#[]⟩,.slice none 0 0],.agg #[.int .i64 (3),.int .i64 (-1)]]) (by simp [results,Tryz.results30,go_sem,n0,n1,n2,n3,n4,n5,n6,m0,m1]) rfl (.inl ⟨(3,-1),HLT.out,by decide,rfl,hbe⟩)
      ·have hk1:((kindK (wordS s):Int)==1)=false:=by rw [beq_eq_false_iff_ne];omega
       have HE:=Lib.hid (show ∀ f,BothP (tailS (tailS (tailS (tailS s)))) f→lineR s=.inl f from fun f h=>by
        rw [HLS.out]
        unfold lineR2
        rw [if_neg hK1,rg_bad h])
       have HO:=Lib.hid (show ∀ l,(tailS (tailS (tailS (tailS s)))).size≤1000→rangeR (tailS (tailS (tailS (tailS s))))=.inr l→lineR s=.inr ⟨(kindK (wordS s):Int),wordS (tailS s),verV vw,wordS (tailS (tailS (tailS s))),l⟩ from fun l h1 h2=>by
        rw [HLS.out]
        unfold lineR2
        rw [if_neg hK1,rg_ok h1 h2])
       clear HLS
       go_wp2_with fail
       generalize World.alloc _ (.cells #[.int .i64 (verV vw 0),.int .i64 (verV vw 1),.int .i64 (verV vw 2)] 30)=wz at HXf ⊢
       clear y0 y2 y3 y4 f2 f3 f4 hblt
       refine (next_any (tailS (tailS (tailS s))) wz (by omega)).mono ?_
       rintro e wd ⟨rfl,hbd⟩
       have HXg:=hide (HXf.out.below hbd)
       have y5:wd.cell? ⟨bx,5,none⟩=some (.string ⟨#[]⟩):=HXg.out.bx_.cell 5
       have f5:=HXg.out.bx_.frozen 5
       have HXh:=hide (show LxI w bx #[.int .i64 (kindK (wordS s):Int),.string (wordS (tailS s)),.int .i64 (verV vw 0),.int .i64 (verV vw 1),.int .i64 (verV vw 2),.string (wordS (tailS (tailS (tailS s)))),.slice none 0 0] _ from HXg.out.set_ 5 (.string (wordS (tailS (tailS (tailS s))))))
       clear hbd HXf HXg
       go_wp2_with fail
       generalize (wd.setCell ⟨bx,5,none⟩ (.string (wordS (tailS (tailS (tailS s))))))=wq at HXh ⊢
       clear y5 f5
       have HRP:=hide (refParse_any (tailS (tailS (tailS (tailS s)))) _ (HG.out.below HXh.out.bel) (HF.out.below HXh.out.bel) (by omega))
       refine HRP.out.mono ?_
       rintro e w5 (⟨v,⟨g1,g2⟩,hf,hf0,rfl,hb5⟩ | ⟨v,l,hsl,hr,hc,rfl,ho,hb5⟩)
       ·have HER:=Lib.hid (HE.out _ (show BothP (tailS (tailS (tailS (tailS s)))) (g1,g2) from hf))
        have hne:(!(g1==0))=true:=by simpa using hf0
        have hne2:(g1==0)=false:=by simpa using hf0
        have HF0:=Lib.hid hf0
        have HK5:=hide (Blk.new w5 80 #[.int .i64 g1,.int .i64 g2])
        have HBF:=Lib.hid (show w.heap.size+1<w5.heap.size from by have:=HXh.out.lo;have:=HXh.out.bx_.lt;have:=hb5.size;omega)
        have HX5:=hide ((HXh.out.below hb5).below ((Below.refl w5.heap.size w5).alloc (Nat.le_refl _) (.cells #[.int .i64 g1,.int .i64 g2] 80)))
        clear HRP hf hf0 hb5
        go_wp2_with fail
        generalize (w5.alloc (.cells #[.int .i64 g1,.int .i64 g2] 80))=w6 at HK5 HX5 ⊢
        generalize w5.heap.size=bf at HK5 HBF ⊢
        obtain ⟨⟨e0,e1⟩,_⟩:=blk2 HK5.out
        have i0:bf≠w.heap.size:=fun e=>by have:=HBF.out;omega
        have i1:bf≠w.heap.size+1:=fun e=>by have:=HBF.out;omega
        obtain ⟨⟨c0,c1,c2,c3,c4,c5,c6⟩,q0,q1,q2,q3,q4,q5,q6⟩:=blk7 (show Blk _ _ _ #[.int .i64 0,.string ⟨#[]⟩,.int .i64 0,.int .i64 0,.int .i64 0,.string ⟨#[]⟩,.slice none 0 0] from HX5.out.b2)
        obtain ⟨⟨d0,d1⟩,r0,r1⟩:=blk2 HX5.out.b3
        go_region
        clear c0 q0 c1 q1 c2 q2 c3 q3 c4 q4 c5 q5 c6 q6 d0 d1 r0 r1
        clear e0 e1 i0 i1
        go_wp2_with fail
        have hh:=HX5.out.end1 (.int .i64 0) (.string ⟨#[]⟩) (.int .i64 0) (.int .i64 0) (.int .i64 0) (.string ⟨#[]⟩) (.slice none 0 0) (.int .i64 g1) (.int .i64 g2)
        obtain ⟨h7',h3',hfr',hbe'⟩:=hh
        have h7:=h7'.drew
        have h3:=h3'.drew
        have hfr:=hfr'.drew
        have hbe:=hbe'.drew
        clear h7' h3' hfr' hbe'
        generalize World.drew _=W at h7 h3 hfr hbe ⊢
        obtain ⟨⟨n0,n1,n2,n3,n4,n5,n6⟩,_⟩:=blk7 h7
        obtain ⟨⟨m0,m1⟩,_⟩:=blk2 h3
        exact bodyPost_ret (v:=.tuple #[.agg #[.int .i64 0,.string ⟨#[]⟩,.int .i64 0,.int .i64 0,.int .i64 0,.string ⟨#[]⟩,.slice none 0 0],.agg #[.int .i64 g1,.int .i64 g2]]) (by simp [results,Tryz.results30,go_sem,n0,n1,n2,n3,n4,n5,n6,m0,m1]) rfl (.inl ⟨(g1,g2),HER.out,HF0.out,rfl,hbe⟩)
       ·have HOK:=Lib.hid (HO.out _ hsl hr)
        have HC:=Lib.hid hc
        have HLO:=Lib.hid (show bx<wq.heap.size from HXh.out.bx_.lt)
        have HX4:=hide (HXh.out.below hb5)
        have HX5:=hide (show LxI w bx #[.int .i64 (kindK (wordS s):Int),.string (wordS (tailS s)),.int .i64 (verV vw 0),.int .i64 (verV vw 1),.int .i64 (verV vw 2),.string (wordS (tailS (tailS (tailS s)))),v] _ from HX4.out.set_ 6 v)
        have HOW:=hide (ho.fr ((Fr.refl (fun k=>k=bx) w5).set_ (p:=⟨bx,6,none⟩) rfl v) (fun k hk e=>by have:=HLO.out;omega))
        obtain ⟨A5,c5,rfl⟩:=ho.len
        have x6:w5.cell? ⟨bx,6,none⟩=some (.slice none 0 0):=HX4.out.bx_.cell 6
        have z6:=HX4.out.bx_.frozen 6
        have hblt:bx<w5.heap.size:=HX4.out.bx_.lt
        clear HRP hc hsl hr hb5 ho HX4
        go_wp2_with fail
        clear x6 z6 hblt
        have HX6:=hide (HX5.out.below ((Below.refl _ _).alloc (Nat.le_refl _) (.cells #[.int .i64 0,.int .i64 (-1)] 80)))
        have HOX:=hide (HOW.out.below ((Below.refl _ _).alloc (Nat.le_refl _) (.cells #[.int .i64 0,.int .i64 (-1)] 80)))
        clear HX5 HOW
        generalize World.alloc _ (.cells #[.int .i64 0,.int .i64 (-1)] 80)=w7 at HX6 HOX ⊢
        have i0:bx≠w.heap.size:=fun e=>by have:=HX6.out.lo;omega
        have i1:bx≠w.heap.size+1:=fun e=>by have:=HX6.out.lo;omega
        have i2:0<w.heap.size:=lt_of_cell HF.out.1
        have g0:=(HX6.out.bel.cell (lt_of_cell HF.out.1)).trans HF.out.1
        have g1:=(HX6.out.bel.cell (p:=⟨0,1,none⟩) (lt_of_cell HF.out.2)).trans HF.out.2
        obtain ⟨⟨y0,y1,y2,y3,y4,y5,y6⟩,_⟩:=blk7 HX6.out.bx_
        obtain ⟨⟨c0,c1,c2,c3,c4,c5,c6⟩,q0,q1,q2,q3,q4,q5,q6⟩:=blk7 (show Blk _ _ _ #[.int .i64 0,.string ⟨#[]⟩,.int .i64 0,.int .i64 0,.int .i64 0,.string ⟨#[]⟩,.slice none 0 0] from HX6.out.b2)
        obtain ⟨⟨d0,d1⟩,r0,r1⟩:=blk2 HX6.out.b3
        go_region
        clear c0 q0 c1 q1 c2 q2 c3 q3 c4 q4 c5 q5 c6 q6 d0 d1 r0 r1
        clear g0 g1 y0 y1 y2 y3 y4 y5 y6 i0 i1 i2
        go_wp2_with fail
        have hh:=HX6.out.end1 (.int .i64 (kindK (wordS s):Int)) (.string (wordS (tailS s))) (.int .i64 (verV vw 0)) (.int .i64 (verV vw 1)) (.int .i64 (verV vw 2)) (.string (wordS (tailS (tailS (tailS s))))) (.slice A5 (flatI l).length c5) (.int .i64 0) (.int .i64 (-1))
        obtain ⟨h7',h3',hfr',hbe'⟩:=hh
        have h7:=h7'.drew
        have h3:=h3'.drew
        have hfr:=hfr'.drew
        have hbe:=hbe'.drew
        clear h7' h3' hfr' hbe'
        generalize World.drew _=W at h7 h3 hfr hbe ⊢
        obtain ⟨⟨n0,n1,n2,n3,n4,n5,n6⟩,_⟩:=blk7 h7
        obtain ⟨⟨m0,m1⟩,_⟩:=blk2 h3
        exact bodyPost_ret (v:=.tuple #[.agg #[.int .i64 (kindK (wordS s):Int),.string (wordS (tailS s)),.int .i64 (verV vw 0),.int .i64 (verV vw 1),.int .i64 (verV vw 2),.string (wordS (tailS (tailS (tailS s)))),.slice A5 (flatI l).length c5],.agg #[.int .i64 0,.int .i64 (-1)]]) (by simp [results,Tryz.results30,go_sem,n0,n1,n2,n3,n4,n5,n6,m0,m1]) rfl (.inr ⟨_,_,HOK.out,HC.out,rfl,((HOX.out.fr hfr (fun k hk e=>by have:=HLO.out;have:=HX6.out.lo;unfold twoS at e;omega))).mono (by have:=HLO.out;have:=HX6.out.lo;omega),hbe⟩)
     ·have hEb:(verE vw==0)=false:=by rw [beq_eq_false_iff_ne];exact hE
      have hL2:=HLR.out
      rw [if_pos hE] at hL2
      have HLT:=Lib.hid hL2
      have hEb2:(!(verE vw==0))=true:=by rw [hEb];rfl
      have HXf:=hide (HXd.out.below ((Below.refl _ _).alloc (Nat.le_refl _) (.cells #[.int .i64 (verV vw 0),.int .i64 (verV vw 1),.int .i64 (verV vw 2)] 30)))
      clear HLR hL2
      go_wp2_with fail
      generalize World.alloc _ (.cells #[.int .i64 (verV vw 0),.int .i64 (verV vw 1),.int .i64 (verV vw 2)] 30)=wz0 at HXf ⊢
      clear y0 hblt
      refine (bare_any (verE vw) _).mono ?_
      rintro e ww ⟨rfl,rfl⟩
      have HB9:=hide (HXf.out.below ((Below.refl _ _).alloc (Nat.le_refl _) (.cells #[.int .i64 (verE vw),.int .i64 (-1)] 80)))
      generalize World.alloc _ (.cells #[.int .i64 (verE vw),.int .i64 (-1)] 80)=wz at HB9 ⊢
      obtain ⟨⟨c0,c1,c2,c3,c4,c5,c6⟩,q0,q1,q2,q3,q4,q5,q6⟩:=blk7 (show Blk _ _ _ #[.int .i64 0,.string ⟨#[]⟩,.int .i64 0,.int .i64 0,.int .i64 0,.string ⟨#[]⟩,.slice none 0 0] from HB9.out.b2)
      obtain ⟨⟨d0,d1⟩,r0,r1⟩:=blk2 HB9.out.b3
      go_wp2_with fail
      clear c0 q0 c1 q1 c2 q2 c3 q3 c4 q4 c5 q5 c6 q6 d0 d1 r0 r1
      have hh:=HB9.out.end1 (.int .i64 0) (.string ⟨#[]⟩) (.int .i64 0) (.int .i64 0) (.int .i64 0) (.string ⟨#[]⟩) (.slice none 0 0) (.int .i64 (verE vw)) (.int .i64 (-1))
      obtain ⟨h7',h3',hfr',hbe'⟩:=hh
      have h7:=h7'
      have h3:=h3'
      have hfr:=hfr'
      have hbe:=hbe'
      clear h7' h3' hfr' hbe'
      generalize World.setCell _ ⟨w.heap.size+1,1,none⟩ (.int .i64 (-1))=W at h7 h3 hfr hbe ⊢
      obtain ⟨⟨n0,n1,n2,n3,n4,n5,n6⟩,_⟩:=blk7 h7
      obtain ⟨⟨m0,m1⟩,_⟩:=blk2 h3
      exact bodyPost_ret (v:=.tuple #[.agg #[.int .i64 0,.string ⟨#[]⟩,.int .i64 0,.int .i64 0,.int .i64 0,.string ⟨#[]⟩,.slice none 0 0],.agg #[.int .i64 (verE vw),.int .i64 (-1)]]) (by simp [results,Tryz.results30,go_sem,n0,n1,n2,n3,n4,n5,n6,m0,m1]) rfl (.inl ⟨(verE vw,-1),HLT.out,hE,rfl,hbe⟩)
end Go.Proofs.YtojgbcmhdnappaaGreatDoor
namespace Go.Proofs.YtojgbcmhdnappaaGreatDoor
open Go.RowKit
set_option maxRecDepth 100000
def CutP (s:ByteArray) (w:World) (e:Ending) (w':World):Prop:=∃ b,e=.returned (.tuple #[.string (wordS s),.string (tailS s),.bool b])∧Below w.heap.size w w'
theorem cut_any (s:ByteArray) (w:World) (hG:GlobV w) (hs:s.size≤21000):Calls Tryz.prog 125 #[.string s,.string ⟨#[32]⟩] w (CutP s w):=by
 obtain ⟨m,hm⟩:=hG.mx
 refine (Tryz.strings_Cut s ⟨#[32]⟩ m w (by omega) hm).mono ?_
 rintro e w' ⟨rfl,n,rfl⟩
 exact ⟨_,rfl,below_drewN (Below.refl _ _) _⟩
def KiP (x:ByteArray) (w:World) (e:Ending) (w':World):Prop:=∃ i:Int,e=.returned (.int .i64 i)∧((1≤i∧i=(kindK x:Int)∧1≤kindK x)∨(i<1∧kindK x=0))∧w'=w
theorem kidx_any (x:ByteArray) (g:Nat) (w:World) (hk:Blk w g 9 #[.string ⟨#[]⟩,.string ⟨#[112,97,99,107,97,103,101]⟩,.string ⟨#[110,101,101,100,115]⟩,.string ⟨#[99,108,97,115,104,101,115]⟩,.string ⟨#[114,111,111,116]⟩]) (c:Nat) :
  Calls Tryz.prog 126 #[.slice (some ⟨g,0,none⟩) 5 c,.string x] w (KiP x w):=by
 refine (Tryz.slices_Index_string g 0 5 c kindB x w (by decide) (by decide) (fun j hj=>?_)).mono ?_
 ·have h5:j<5:=hj
  rw [Nat.zero_add,hk.cell j]
  rcases (show j=0∨j=1∨j=2∨j=3∨j=4 by omega) with rfl | rfl | rfl | rfl | rfl <;> rfl
 ·rintro e w' ⟨rfl,rfl⟩
  exact ⟨_,rfl,kind_idx x,rfl⟩
structure PxI (w:World) (cs:Array Value) (wr:World):Prop where
 b2:Blk wr w.heap.size 90 cs
 bel:Below w.heap.size w wr
section
variable {w wr wr':World} {cs:Array Value}
theorem PxI.below (h:PxI w cs wr) (hb:Below wr.heap.size wr wr'):PxI w cs wr':=⟨h.b2.below hb h.b2.lt,h.bel.trans (hb.mono h.bel.size)⟩
theorem PxI.set_ (h:PxI w cs wr) (i:Nat) (u:Value):PxI w (cs.setIfInBounds i u) (wr.setCell ⟨w.heap.size,i,none⟩ u):=⟨h.b2.set_ i u,h.bel.setCell (p:=⟨w.heap.size,i,none⟩) (Nat.le_refl _) u⟩
theorem PxI.all {x0 x1 x2 x3 x4 x5 x6:Value} (h:PxI w #[x0,x1,x2,x3,x4,x5,x6] wr) (a0 a1 a2 a3 a4 a5 a6:Value) :
  PxI w #[a0,a1,a2,a3,a4,a5,a6] (((((((wr.setCell ⟨w.heap.size,0,none⟩ a0).setCell ⟨w.heap.size,1,none⟩ a1).setCell ⟨w.heap.size,2,none⟩ a2).setCell ⟨w.heap.size,3,none⟩ a3).setCell ⟨w.heap.size,4,none⟩ a4).setCell ⟨w.heap.size,5,none⟩ a5).setCell ⟨w.heap.size,6,none⟩ a6) ∧
  Fr (fun k=>k=w.heap.size) wr (((((((wr.setCell ⟨w.heap.size,0,none⟩ a0).setCell ⟨w.heap.size,1,none⟩ a1).setCell ⟨w.heap.size,2,none⟩ a2).setCell ⟨w.heap.size,3,none⟩ a3).setCell ⟨w.heap.size,4,none⟩ a4).setCell ⟨w.heap.size,5,none⟩ a5).setCell ⟨w.heap.size,6,none⟩ a6) :=
 have hh:=LxI.fr7 (fun k=>k=w.heap.size) h.bel (g:=w.heap.size) rfl (Nat.le_refl _) a0 a1 a2 a3 a4 a5 a6
 ⟨⟨blk7_set h.b2 a0 a1 a2 a3 a4 a5 a6,hh.2⟩,hh.1⟩
end
theorem isErr_fr {w w':World} {g:Nat} {cs:Array Value} {u:Value} {f:Int×Int} (h:IsErr w u f) (hk:Blk w g 90 cs) (hf:Fr (fun k=>k=g) w w'):IsErr w' u f:=by
 rcases h with h | h | ⟨b,h1,h2,h3,h4,h5,h6⟩
 ·exact .inl h
 ·exact .inr (.inl h)
 ·exact .inr (.inr ⟨b,Nat.lt_of_lt_of_le h1 hf.size,h2,h3,h4,h5,h6.fr hf (h6.ne_ hk (by decide))⟩)
def CatLineP (s:ByteArray) (w:World) (e:Ending) (w':World):Prop :=
 (∃ f u k n a b c o A i j,lineR s=.inl f∧f.1≠0∧e=.returned (.tuple #[.agg #[.int .i64 k,.string n,.int .i64 a,.int .i64 b,.int .i64 c,.string o,.slice A i j],u])∧IsErr w' u f∧Below w.heap.size w w') ∨
 ∃ x v,lineR s=.inr x∧CanF 0 x.rg∧e=.returned (.tuple #[.agg (lnC x v),.nilIface])∧OwnP w' w.heap.size v x.rg∧Below w.heap.size w w'
set_option maxHeartbeats 8000000 in
theorem catLine_any (s:ByteArray) (w:World) (hG:GlobV w) (hs:s.size≤21000):Calls Tryz.prog 74 #[.string s] w (CatLineP s w):=by
 have HG:=hide hG
 have HX0:=hide (show PxI w #[.int .i64 0,.string ⟨#[]⟩,.int .i64 0,.int .i64 0,.int .i64 0,.string ⟨#[]⟩,.slice none 0 0] (w.alloc (.cells #[.int .i64 0,.string ⟨#[]⟩,.int .i64 0,.int .i64 0,.int .i64 0,.string ⟨#[]⟩,.slice none 0 0] 90)) from ⟨Blk.new w _ _,(Below.refl _ _).alloc (Nat.le_refl _) _⟩)
 have hts:=tailS_size s
 have htt:=tailS_size (tailS s)
 have htw:=wordS_size (tailS (tailS s))
 have ht3:=tailS_size (tailS (tailS s))
 have ht4:=tailS_size (tailS (tailS (tailS s)))
 have hKL:=kindK_le (wordS s)
 clear hG
 go_enter Tryz.func74,Tryz.ntmps74
 go_wp2_with fail
 generalize (w.alloc (.cells #[.int .i64 0,.string ⟨#[]⟩,.int .i64 0,.int .i64 0,.int .i64 0,.string ⟨#[]⟩,.slice none 0 0] 90))=w0 at HX0 ⊢
 refine (cut_any s w0 (HG.out.below HX0.out.bel) hs).mono ?_
 rintro e w1 ⟨b1,rfl,hb1⟩
 have HX1:=hide (HX0.out.below hb1)
 have HX2:=hide (HX1.out.below ((Below.refl w1.heap.size w1).alloc (Nat.le_refl _) (.cells #[.string ⟨#[]⟩,.string ⟨#[112,97,99,107,97,103,101]⟩,.string ⟨#[110,101,101,100,115]⟩,.string ⟨#[99,108,97,115,104,101,115]⟩,.string ⟨#[114,111,111,116]⟩] 9)))
 have HKB:=hide (Blk.new w1 9 #[.string ⟨#[]⟩,.string ⟨#[112,97,99,107,97,103,101]⟩,.string ⟨#[110,101,101,100,115]⟩,.string ⟨#[99,108,97,115,104,101,115]⟩,.string ⟨#[114,111,111,116]⟩])
 clear HX0 HX1 hb1
 go_wp2_with fail
 generalize World.alloc _ (.cells #[.string ⟨#[]⟩,.string ⟨#[112,97,99,107,97,103,101]⟩,.string ⟨#[110,101,101,100,115]⟩,.string ⟨#[99,108,97,115,104,101,115]⟩,.string ⟨#[114,111,111,116]⟩] 9)=w2 at HX2 HKB ⊢
 generalize w1.heap.size=gs at HKB ⊢
 refine (kidx_any (wordS s) gs w2 HKB.out 5).mono ?_
 rintro e wb ⟨ki,rfl,hki,rfl⟩
 have x0:wb.cell? ⟨w.heap.size,0,none⟩=some (.int .i64 0):=HX2.out.b2.cell 0
 have f0:=HX2.out.b2.frozen 0
 have HX3:=hide (show PxI w #[.int .i64 ki,.string ⟨#[]⟩,.int .i64 0,.int .i64 0,.int .i64 0,.string ⟨#[]⟩,.slice none 0 0] _ from HX2.out.set_ 0 (.int .i64 ki))
 clear HKB
 rcases hki with ⟨h1,rfl,hK1⟩ | ⟨h1,hK0⟩
 ·have hK0:¬kindK (wordS s)=0:=by omega
  clear h1
  have h1:¬(kindK (wordS s):Int)<1:=by omega
  go_wp2_with fail
  generalize World.setCell _ ⟨w.heap.size,0,none⟩ (.int .i64 (kindK (wordS s):Int))=w3 at HX3 ⊢
  clear x0 f0 HX2
  refine (cut_any (tailS s) w3 (HG.out.below HX3.out.bel) (by omega)).mono ?_
  rintro e w4 ⟨b4,rfl,hb4⟩
  have HX4:=hide (HX3.out.below hb4)
  have y0:w4.cell? ⟨w.heap.size,0,none⟩=some (.int .i64 (kindK (wordS s):Int)):=HX4.out.b2.cell 0
  have y1:w4.cell? ⟨w.heap.size,1,none⟩=some (.string ⟨#[]⟩):=HX4.out.b2.cell 1
  have f1:=HX4.out.b2.frozen 1
  clear HX3 hb4 h1
  by_cases hK4:kindK (wordS s)=4
  ·rw [hK4] at y0 HX4
   have HE:=Lib.hid (show ∀ f,BothP (tailS (tailS s)) f→lineR s=.inl f from fun f h=>by unfold lineR;simp only [hK4];rw [if_neg (by decide),if_pos trivial,rg_bad h])
   have HO:=Lib.hid (show ∀ l,(tailS (tailS s)).size≤1000→rangeR (tailS (tailS s))=.inr l→lineR s=.inr ⟨4,wordS (tailS s),fun _=>0,ByteArray.empty,l⟩ from fun l h1 h2=>by unfold lineR;simp only [hK4];rw [if_neg (by decide),if_pos trivial,rg_ok h1 h2])
   have HXb:=hide (show PxI w #[.int .i64 4,.string (wordS (tailS s)),.int .i64 0,.int .i64 0,.int .i64 0,.string ⟨#[]⟩,.slice none 0 0] _ from HX4.out.set_ 1 (.string (wordS (tailS s))))
   clear hK4 hK0 hKL HX4 hK1
   go_wp2_with fail
   generalize World.setCell _ ⟨w.heap.size,1,none⟩ (.string (wordS (tailS s)))=wq at HXb ⊢
   clear y0 y1 f1
   have HRP:=hide (spParse_any (tailS (tailS s)) _ (HG.out.below HXb.out.bel) (by omega))
   have HLT:=Lib.hid (show w.heap.size<wq.heap.size from HXb.out.b2.lt)
   refine HRP.out.mono ?_
   rintro e w5 (⟨u,⟨g1,g2⟩,hf,hf0,rfl,hE,hb5⟩ | ⟨v,l,hsl,hr,hc,rfl,ho,hb5⟩)
   ·have HER:=Lib.hid (HE.out _ (show BothP (tailS (tailS s)) (g1,g2) from hf))
    have HF0:=Lib.hid hf0
    have HX5:=hide (HXb.out.below hb5)
    have HIE:=hide (isErr_fr hE HX5.out.b2 ((Fr.refl (fun k=>k=w.heap.size) w5).set_ (p:=⟨w.heap.size,6,none⟩) rfl (.slice none 0 0)))
    have HX6:=hide (show PxI w #[.int .i64 4,.string (wordS (tailS s)),.int .i64 0,.int .i64 0,.int .i64 0,.string ⟨#[]⟩,.slice none 0 0] _ from HX5.out.set_ 6 (.slice none 0 0))
    clear HRP hf hf0 hb5 hE
    obtain ⟨⟨c0,c1,c2,c3,c4,c5,c6⟩,q0,q1,q2,q3,q4,q5,q6⟩:=blk7 HX5.out.b2
    go_wp2_with fail
    clear c0 q0 c1 q1 c2 q2 c3 q3 c4 q4 c5 q5 c6 q6
    have hh:=HX6.out.all (.int .i64 4) (.string (wordS (tailS s))) (.int .i64 0) (.int .i64 0) (.int .i64 0) (.string ⟨#[]⟩) (.slice none 0 0)
    obtain ⟨h7,hfr⟩:=hh
    have hIE:=isErr_fr HIE.out HX6.out.b2 hfr
    generalize World.setCell _ ⟨w.heap.size,6,none⟩ (.slice none 0 0)=W at h7 hfr hIE ⊢
    obtain ⟨⟨n0,n1,n2,n3,n4,n5,n6⟩,_⟩:=blk7 h7.b2
    have hbe:=h7.bel
    exact bodyPost_ret (v:=.tuple #[.agg #[.int .i64 4,.string (wordS (tailS s)),.int .i64 0,.int .i64 0,.int .i64 0,.string ⟨#[]⟩,.slice none 0 0],u]) (by simp [results,Tryz.results74,go_sem,n0,n1,n2,n3,n4,n5,n6]) rfl (.inl ⟨(g1,g2),u,_,_,_,_,_,_,_,_,_,HER.out,HF0.out,rfl,hIE,hbe⟩)
   ·have HOK:=Lib.hid (HO.out _ hsl hr)
    have HC:=Lib.hid hc
    obtain ⟨A5,c5,rfl⟩:=ho.len
    have HX5:=hide (HXb.out.below hb5)
    have HX6:=hide (show PxI w #[.int .i64 4,.string (wordS (tailS s)),.int .i64 0,.int .i64 0,.int .i64 0,.string ⟨#[]⟩,.slice A5 l.length c5] _ from HX5.out.set_ 6 (.slice A5 l.length c5))
    have HOX:=hide (ho.fr ((Fr.refl (fun k=>k=w.heap.size) w5).set_ (p:=⟨w.heap.size,6,none⟩) rfl (.slice A5 l.length c5)) (fun k hk e=>by have:=HLT.out;omega))
    clear HRP hc hsl hr hb5 ho
    obtain ⟨⟨c0,c1,c2,c3,c4,c5,c6⟩,q0,q1,q2,q3,q4,q5,q6⟩:=blk7 HX5.out.b2
    go_wp2_with fail
    clear c0 q0 c1 q1 c2 q2 c3 q3 c4 q4 c5 q5 c6 q6
    have hh:=HX6.out.all (.int .i64 4) (.string (wordS (tailS s))) (.int .i64 0) (.int .i64 0) (.int .i64 0) (.string ⟨#[]⟩) (.slice A5 l.length c5)
    obtain ⟨h7,hfr⟩:=hh
    have hOX:=HOX.out.fr hfr (fun k hk e=>by have:=HLT.out;omega)
    generalize World.setCell _ ⟨w.heap.size,6,none⟩ (.slice A5 l.length c5)=W at h7 hfr hOX ⊢
    obtain ⟨⟨n0,n1,n2,n3,n4,n5,n6⟩,_⟩:=blk7 h7.b2
    have hbe:=h7.bel
    exact bodyPost_ret (v:=.tuple #[.agg #[.int .i64 4,.string (wordS (tailS s)),.int .i64 0,.int .i64 0,.int .i64 0,.string ⟨#[]⟩,.slice A5 l.length c5],.nilIface]) (by simp [results,Tryz.results74,go_sem,n0,n1,n2,n3,n4,n5,n6]) rfl (.inr ⟨_,_,HOK.out,HC.out,rfl,hOX.mono (by have:=HLT.out;omega),hbe⟩)
  ·have hk4:((kindK (wordS s):Int)==4)=false:=by rw [beq_eq_false_iff_ne];omega
   have HXb:=hide (show PxI w #[.int .i64 (kindK (wordS s):Int),.string (wordS (tailS s)),.int .i64 0,.int .i64 0,.int .i64 0,.string ⟨#[]⟩,.slice none 0 0] _ from HX4.out.set_ 1 (.string (wordS (tailS s))))
   have HLR:=Lib.hid (show lineR s=if verE (wordS (tailS (tailS s)))≠0 then .inl (verE (wordS (tailS (tailS s))),-1) else lineR2 (kindK (wordS s)) (wordS (tailS s)) (verV (wordS (tailS (tailS s)))) (tailS (tailS (tailS s))) from by
    unfold lineR
    simp only []
    rw [if_neg hK0,if_neg hK4])
   clear HX4
   go_wp2_with fail
   generalize World.setCell _ ⟨w.heap.size,1,none⟩ (.string (wordS (tailS s)))=wq at HXb ⊢
   clear y0 y1 f1
   refine (cut_any (tailS (tailS s)) wq (HG.out.below HXb.out.bel) (by omega)).mono ?_
   rintro e w6 ⟨b6,rfl,hb6⟩
   have HXc:=hide (HXb.out.below hb6)
   have HRV:=hide (verParse_any (wordS (tailS (tailS s))) w6 (HG.out.below HXc.out.bel) (by omega))
   unfold VerP verArr at HRV
   clear HXb hb6
   generalize wordS (tailS (tailS s))=vw at HRV HLR htw ⊢
   go_wp2_with fail
   refine HRV.out.mono ?_
   rintro e wc ⟨er,rfl,hE,hbc⟩
   have HXd:=hide (HXc.out.below hbc)
   clear HRV hbc HXc
   obtain ⟨⟨c0,c1,c2,c3,c4,c5,c6⟩,q0,q1,q2,q3,q4,q5,q6⟩:=blk7 HXd.out.b2
   have HXf:=hide (show PxI w #[.int .i64 (kindK (wordS s):Int),.string (wordS (tailS s)),.int .i64 (verV vw 0),.int .i64 (verV vw 1),.int .i64 (verV vw 2),.string ⟨#[]⟩,.slice none 0 0] _ from ((HXd.out.set_ 2 (.int .i64 (verV vw 0))).set_ 3 (.int .i64 (verV vw 1))).set_ 4 (.int .i64 (verV vw 2)))
   by_cases hE0:verE vw=0
   ·obtain rfl:er=.nilIface:=by
     rcases hE with ⟨_,h⟩ | ⟨_,h,_⟩ | ⟨_,_,h,_⟩
     ·exact h
     ·rw [hE0] at h;exact absurd h (by decide)
     ·rw [hE0] at h;exact absurd h (by decide)
    have hL2:=HLR.out
    rw [if_neg (by simpa using hE0)] at hL2
    have HLS:=Lib.hid hL2
    clear HLR hE0 hL2 hE HXd
    by_cases hK1:kindK (wordS s)=1
    ·rw [hK1] at c0 HXf HLS
     clear hk4 hK4 hK0
     by_cases hr0:(tailS (tailS (tailS s))).toList=[]
     ·have hr2:(tailS (tailS (tailS s))).toList.isEmpty=true:=by rw [hr0];rfl
      have hr1:(!(tailS (tailS (tailS s))).toList.isEmpty)=false:=by rw [hr0];rfl
      have HLT:=Lib.hid (show lineR s=.inr ⟨1,wordS (tailS s),verV vw,ByteArray.empty,[]⟩ from by
       rw [HLS.out]
       have e9:tailS (tailS (tailS s))=ByteArray.empty:=(bytes_back [] _ (by rw [←ByteArray.toList_eq,hr0])).symm
       unfold lineR2
       rw [if_pos rfl,if_pos e9])
      clear HLS
      go_wp2_with fail
      clear c0 q0 c1 q1 c2 q2 c3 q3 c4 q4 c5 q5 c6 q6
      have hh:=HXf.out.all (.int .i64 1) (.string (wordS (tailS s))) (.int .i64 (verV vw 0)) (.int .i64 (verV vw 1)) (.int .i64 (verV vw 2)) (.string ⟨#[]⟩) (.slice none 0 0)
      obtain ⟨h7,hfr⟩:=hh
      generalize World.setCell _ ⟨w.heap.size,6,none⟩ (.slice none 0 0)=W at h7 hfr ⊢
      obtain ⟨⟨n0,n1,n2,n3,n4,n5,n6⟩,_⟩:=blk7 h7.b2
      have hbe:=h7.bel
      exact bodyPost_ret (v:=.tuple #[.agg #[.int .i64 1,.string (wordS (tailS s)),.int .i64 (verV vw 0),.int .i64 (verV vw 1),.int .i64 (verV vw 2),.string ⟨#[]⟩,.slice none 0 0],.nilIface]) (by simp [results,Tryz.results74,go_sem,n0,n1,n2,n3,n4,n5,n6]) rfl (.inr ⟨_,_,HLT.out,trivial,rfl,ownP_nil _ _,hbe⟩)
     ·have hr2:(tailS (tailS (tailS s))).toList.isEmpty=false:=by simpa using hr0
      have hr1:(!(tailS (tailS (tailS s))).toList.isEmpty)=true:=by rw [hr2];rfl
      have HLT:=Lib.hid (show lineR s=.inl (3,-1) from by
       rw [HLS.out]
       unfold lineR2
       rw [if_pos rfl,if_neg]
       intro e9
       exact hr0 (by rw [e9,ByteArray.toList_eq];rfl))
      clear HLS
      go_wp2_with fail
      clear c0 q0 c1 q1 c2 q2 c3 q3 c4 q4 c5 q5 c6 q6
      have hh:=HXf.out.all (.int .i64 0) (.string ⟨#[]⟩) (.int .i64 0) (.int .i64 0) (.int .i64 0) (.string ⟨#[]⟩) (.slice none 0 0)
      obtain ⟨h7,hfr⟩:=hh
      generalize World.setCell _ ⟨w.heap.size,6,none⟩ (.slice none 0 0)=W at h7 hfr ⊢
      obtain ⟨⟨n0,n1,n2,n3,n4,n5,n6⟩,_⟩:=blk7 h7.b2
      have hbe:=h7.bel
      exact bodyPost_ret (v:=.tuple #[.agg #[.int .i64 0,.string ⟨#[]⟩,.int .i64 0,.int .i64 0,.int .i64 0,.string ⟨#[]⟩,.slice none 0 0],.iface 41 (.int .i64 3)]) (by simp [results,Tryz.results74,go_sem,n0,n1,n2,n3,n4,n5,n6]) rfl (.inl ⟨(3,-1),_,_,_,_,_,_,_,_,_,_,HLT.out,by decide,rfl,.inr (.inl ⟨rfl,by decide,by decide,rfl⟩),hbe⟩)
    ·have hk1:((kindK (wordS s):Int)==1)=false:=by rw [beq_eq_false_iff_ne];omega
     have HE:=Lib.hid (show ∀ f,BothP (tailS (tailS (tailS (tailS s)))) f→lineR s=.inl f from fun f h=>by
      rw [HLS.out]
      unfold lineR2
      rw [if_neg hK1,rg_bad h])
     have HO:=Lib.hid (show ∀ l,(tailS (tailS (tailS (tailS s)))).size≤1000→rangeR (tailS (tailS (tailS (tailS s))))=.inr l→lineR s=.inr ⟨(kindK (wordS s):Int),wordS (tailS s),verV vw,wordS (tailS (tailS (tailS s))),l⟩ from fun l h1 h2=>by
      rw [HLS.out]
      unfold lineR2
      rw [if_neg hK1,rg_ok h1 h2])
     clear HLS
     have hor:kindK (wordS s)=2∨kindK (wordS s)=3:=by omega
     rcases hor with h2 | h2
     ·have hk2:((kindK (wordS s):Int)==2)=true:=by rw [h2];rfl
      clear h2
      go_wp2_with fail
      generalize World.setCell _ ⟨w.heap.size,4,none⟩ (.int .i64 (verV vw 2))=wz at HXf ⊢
      clear c0 q0 c1 q1 c2 q2 c3 q3 c4 q4 c5 q5 c6 q6
      refine (cut_any (tailS (tailS (tailS s))) wz (HG.out.below HXf.out.bel) (by omega)).mono ?_
      rintro e wd ⟨bd,rfl,hbd⟩
      have HXg:=hide (HXf.out.below hbd)
      have y5:wd.cell? ⟨w.heap.size,5,none⟩=some (.string ⟨#[]⟩):=HXg.out.b2.cell 5
      have f5:=HXg.out.b2.frozen 5
      have HXh:=hide (show PxI w #[.int .i64 (kindK (wordS s):Int),.string (wordS (tailS s)),.int .i64 (verV vw 0),.int .i64 (verV vw 1),.int .i64 (verV vw 2),.string (wordS (tailS (tailS (tailS s)))),.slice none 0 0] _ from HXg.out.set_ 5 (.string (wordS (tailS (tailS (tailS s))))))
      clear hbd HXf HXg
      go_wp2_with fail
      generalize World.setCell _ ⟨w.heap.size,5,none⟩ (.string (wordS (tailS (tailS (tailS s)))))=wq at HXh ⊢
      clear y5 f5
      have HRP:=hide (spParse_any (tailS (tailS (tailS (tailS s)))) _ (HG.out.below HXh.out.bel) (by omega))
      have HLT:=Lib.hid (show w.heap.size<wq.heap.size from HXh.out.b2.lt)
      refine HRP.out.mono ?_
      rintro e w5 (⟨u,⟨g1,g2⟩,hf,hf0,rfl,hE,hb5⟩ | ⟨v,l,hsl,hr,hc,rfl,ho,hb5⟩)
      ·have HER:=Lib.hid (HE.out _ (show BothP (tailS (tailS (tailS (tailS s)))) (g1,g2) from hf))
       have HF0:=Lib.hid hf0
       have HX5:=hide (HXh.out.below hb5)
       have HIE:=hide (isErr_fr hE HX5.out.b2 ((Fr.refl (fun k=>k=w.heap.size) w5).set_ (p:=⟨w.heap.size,6,none⟩) rfl (.slice none 0 0)))
       have HX6:=hide (show PxI w #[.int .i64 (kindK (wordS s):Int),.string (wordS (tailS s)),.int .i64 (verV vw 0),.int .i64 (verV vw 1),.int .i64 (verV vw 2),.string (wordS (tailS (tailS (tailS s)))),.slice none 0 0] _ from HX5.out.set_ 6 (.slice none 0 0))
       clear HRP hf hf0 hb5 hE
       obtain ⟨⟨c0,c1,c2,c3,c4,c5,c6⟩,q0,q1,q2,q3,q4,q5,q6⟩:=blk7 HX5.out.b2
       go_wp2_with fail
       clear c0 q0 c1 q1 c2 q2 c3 q3 c4 q4 c5 q5 c6 q6
       have hh:=HX6.out.all (.int .i64 (kindK (wordS s):Int)) (.string (wordS (tailS s))) (.int .i64 (verV vw 0)) (.int .i64 (verV vw 1)) (.int .i64 (verV vw 2)) (.string (wordS (tailS (tailS (tailS s))))) (.slice none 0 0)
       obtain ⟨h7,hfr⟩:=hh
       have hIE:=isErr_fr HIE.out HX6.out.b2 hfr
       generalize World.setCell _ ⟨w.heap.size,6,none⟩ (.slice none 0 0)=W at h7 hfr hIE ⊢
       obtain ⟨⟨n0,n1,n2,n3,n4,n5,n6⟩,_⟩:=blk7 h7.b2
       have hbe:=h7.bel
       exact bodyPost_ret (v:=.tuple #[.agg #[.int .i64 (kindK (wordS s):Int),.string (wordS (tailS s)),.int .i64 (verV vw 0),.int .i64 (verV vw 1),.int .i64 (verV vw 2),.string (wordS (tailS (tailS (tailS s)))),.slice none 0 0],u]) (by simp [results,Tryz.results74,go_sem,n0,n1,n2,n3,n4,n5,n6]) rfl (.inl ⟨(g1,g2),u,_,_,_,_,_,_,_,_,_,HER.out,HF0.out,rfl,hIE,hbe⟩)
      ·have HOK:=Lib.hid (HO.out _ hsl hr)
       have HC:=Lib.hid hc
       obtain ⟨A5,c5,rfl⟩:=ho.len
       have HX5:=hide (HXh.out.below hb5)
       have HX6:=hide (show PxI w #[.int .i64 (kindK (wordS s):Int),.string (wordS (tailS s)),.int .i64 (verV vw 0),.int .i64 (verV vw 1),.int .i64 (verV vw 2),.string (wordS (tailS (tailS (tailS s)))),.slice A5 l.length c5] _ from HX5.out.set_ 6 (.slice A5 l.length c5))
       have HOX:=hide (ho.fr ((Fr.refl (fun k=>k=w.heap.size) w5).set_ (p:=⟨w.heap.size,6,none⟩) rfl (.slice A5 l.length c5)) (fun k hk e=>by have:=HLT.out;omega))
       clear HRP hc hsl hr hb5 ho
       obtain ⟨⟨c0,c1,c2,c3,c4,c5,c6⟩,q0,q1,q2,q3,q4,q5,q6⟩:=blk7 HX5.out.b2
       go_wp2_with fail
       clear c0 q0 c1 q1 c2 q2 c3 q3 c4 q4 c5 q5 c6 q6
       have hh:=HX6.out.all (.int .i64 (kindK (wordS s):Int)) (.string (wordS (tailS s))) (.int .i64 (verV vw 0)) (.int .i64 (verV vw 1)) (.int .i64 (verV vw 2)) (.string (wordS (tailS (tailS (tailS s))))) (.slice A5 l.length c5)
       obtain ⟨h7,hfr⟩:=hh
       have hOX:=HOX.out.fr hfr (fun k hk e=>by have:=HLT.out;omega)
       generalize World.setCell _ ⟨w.heap.size,6,none⟩ (.slice A5 l.length c5)=W at h7 hfr hOX ⊢
       obtain ⟨⟨n0,n1,n2,n3,n4,n5,n6⟩,_⟩:=blk7 h7.b2
       have hbe:=h7.bel
       exact bodyPost_ret (v:=.tuple #[.agg #[.int .i64 (kindK (wordS s):Int),.string (wordS (tailS s)),.int .i64 (verV vw 0),.int .i64 (verV vw 1),.int .i64 (verV vw 2),.string (wordS (tailS (tailS (tailS s)))),.slice A5 l.length c5],.nilIface]) (by simp [results,Tryz.results74,go_sem,n0,n1,n2,n3,n4,n5,n6]) rfl (.inr ⟨_,_,HOK.out,HC.out,rfl,hOX.mono (by have:=HLT.out;omega),hbe⟩)
     ·have hk2:((kindK (wordS s):Int)==2)=false:=by rw [h2];rfl
      have hk3:((kindK (wordS s):Int)==3)=true:=by rw [h2];rfl
      clear h2
      go_wp2_with fail
      generalize World.setCell _ ⟨w.heap.size,4,none⟩ (.int .i64 (verV vw 2))=wz at HXf ⊢
      clear c0 q0 c1 q1 c2 q2 c3 q3 c4 q4 c5 q5 c6 q6
      refine (cut_any (tailS (tailS (tailS s))) wz (HG.out.below HXf.out.bel) (by omega)).mono ?_
      rintro e wd ⟨bd,rfl,hbd⟩
      have HXg:=hide (HXf.out.below hbd)
      have y5:wd.cell? ⟨w.heap.size,5,none⟩=some (.string ⟨#[]⟩):=HXg.out.b2.cell 5
      have f5:=HXg.out.b2.frozen 5
      have HXh:=hide (show PxI w #[.int .i64 (kindK (wordS s):Int),.string (wordS (tailS s)),.int .i64 (verV vw 0),.int .i64 (verV vw 1),.int .i64 (verV vw 2),.string (wordS (tailS (tailS (tailS s)))),.slice none 0 0] _ from HXg.out.set_ 5 (.string (wordS (tailS (tailS (tailS s))))))
      clear hbd HXf HXg
      go_wp2_with fail
      generalize World.setCell _ ⟨w.heap.size,5,none⟩ (.string (wordS (tailS (tailS (tailS s)))))=wq at HXh ⊢
      clear y5 f5
      have HRP:=hide (spParse_any (tailS (tailS (tailS (tailS s)))) _ (HG.out.below HXh.out.bel) (by omega))
      have HLT:=Lib.hid (show w.heap.size<wq.heap.size from HXh.out.b2.lt)
      refine HRP.out.mono ?_
      rintro e w5 (⟨u,⟨g1,g2⟩,hf,hf0,rfl,hE,hb5⟩ | ⟨v,l,hsl,hr,hc,rfl,ho,hb5⟩)
      ·have HER:=Lib.hid (HE.out _ (show BothP (tailS (tailS (tailS (tailS s)))) (g1,g2) from hf))
       have HF0:=Lib.hid hf0
       have HX5:=hide (HXh.out.below hb5)
       have HIE:=hide (isErr_fr hE HX5.out.b2 ((Fr.refl (fun k=>k=w.heap.size) w5).set_ (p:=⟨w.heap.size,6,none⟩) rfl (.slice none 0 0)))
       have HX6:=hide (show PxI w #[.int .i64 (kindK (wordS s):Int),.string (wordS (tailS s)),.int .i64 (verV vw 0),.int .i64 (verV vw 1),.int .i64 (verV vw 2),.string (wordS (tailS (tailS (tailS s)))),.slice none 0 0] _ from HX5.out.set_ 6 (.slice none 0 0))
       clear HRP hf hf0 hb5 hE
       obtain ⟨⟨c0,c1,c2,c3,c4,c5,c6⟩,q0,q1,q2,q3,q4,q5,q6⟩:=blk7 HX5.out.b2
       go_wp2_with fail
       clear c0 q0 c1 q1 c2 q2 c3 q3 c4 q4 c5 q5 c6 q6
       have hh:=HX6.out.all (.int .i64 (kindK (wordS s):Int)) (.string (wordS (tailS s))) (.int .i64 (verV vw 0)) (.int .i64 (verV vw 1)) (.int .i64 (verV vw 2)) (.string (wordS (tailS (tailS (tailS s))))) (.slice none 0 0)
       obtain ⟨h7,hfr⟩:=hh
       have hIE:=isErr_fr HIE.out HX6.out.b2 hfr
       generalize World.setCell _ ⟨w.heap.size,6,none⟩ (.slice none 0 0)=W at h7 hfr hIE ⊢
       obtain ⟨⟨n0,n1,n2,n3,n4,n5,n6⟩,_⟩:=blk7 h7.b2
       have hbe:=h7.bel
       exact bodyPost_ret (v:=.tuple #[.agg #[.int .i64 (kindK (wordS s):Int),.string (wordS (tailS s)),.int .i64 (verV vw 0),.int .i64 (verV vw 1),.int .i64 (verV vw 2),.string (wordS (tailS (tailS (tailS s)))),.slice none 0 0],u]) (by simp [results,Tryz.results74,go_sem,n0,n1,n2,n3,n4,n5,n6]) rfl (.inl ⟨(g1,g2),u,_,_,_,_,_,_,_,_,_,HER.out,HF0.out,rfl,hIE,hbe⟩)
      ·have HOK:=Lib.hid (HO.out _ hsl hr)
       have HC:=Lib.hid hc
       obtain ⟨A5,c5,rfl⟩:=ho.len
       have HX5:=hide (HXh.out.below hb5)
       have HX6:=hide (show PxI w #[.int .i64 (kindK (wordS s):Int),.string (wordS (tailS s)),.int .i64 (verV vw 0),.int .i64 (verV vw 1),.int .i64 (verV vw 2),.string (wordS (tailS (tailS (tailS s)))),.slice A5 l.length c5] _ from HX5.out.set_ 6 (.slice A5 l.length c5))
       have HOX:=hide (ho.fr ((Fr.refl (fun k=>k=w.heap.size) w5).set_ (p:=⟨w.heap.size,6,none⟩) rfl (.slice A5 l.length c5)) (fun k hk e=>by have:=HLT.out;omega))
       clear HRP hc hsl hr hb5 ho
       obtain ⟨⟨c0,c1,c2,c3,c4,c5,c6⟩,q0,q1,q2,q3,q4,q5,q6⟩:=blk7 HX5.out.b2
       go_wp2_with fail
       clear c0 q0 c1 q1 c2 q2 c3 q3 c4 q4 c5 q5 c6 q6
       have hh:=HX6.out.all (.int .i64 (kindK (wordS s):Int)) (.string (wordS (tailS s))) (.int .i64 (verV vw 0)) (.int .i64 (verV vw 1)) (.int .i64 (verV vw 2)) (.string (wordS (tailS (tailS (tailS s))))) (.slice A5 l.length c5)
       obtain ⟨h7,hfr⟩:=hh
       have hOX:=HOX.out.fr hfr (fun k hk e=>by have:=HLT.out;omega)
       generalize World.setCell _ ⟨w.heap.size,6,none⟩ (.slice A5 l.length c5)=W at h7 hfr hOX ⊢
       obtain ⟨⟨n0,n1,n2,n3,n4,n5,n6⟩,_⟩:=blk7 h7.b2
       have hbe:=h7.bel
       exact bodyPost_ret (v:=.tuple #[.agg #[.int .i64 (kindK (wordS s):Int),.string (wordS (tailS s)),.int .i64 (verV vw 0),.int .i64 (verV vw 1),.int .i64 (verV vw 2),.string (wordS (tailS (tailS (tailS s)))),.slice A5 l.length c5],.nilIface]) (by simp [results,Tryz.results74,go_sem,n0,n1,n2,n3,n4,n5,n6]) rfl (.inr ⟨_,_,HOK.out,HC.out,rfl,hOX.mono (by have:=HLT.out;omega),hbe⟩)
   ·obtain rfl:er=.iface 41 (.int .i64 (verE vw)):=by
     rcases hE with ⟨h,_⟩ | ⟨_,_,_,h⟩ | ⟨_,_,_,_,h,_⟩
     ·exact absurd (congrArg Prod.fst h) hE0
     ·exact h
     ·exact absurd h (by show ¬(0:Int) ≤ -1;decide)
    have hE13:1≤verE vw∧verE vw≤13:=by rcases verE_cases vw with h | h | h <;> rw [h] at hE0 ⊢ <;> first | (exact absurd rfl hE0) | decide
    have hL2:=HLR.out
    rw [if_pos hE0] at hL2
    have HLT:=Lib.hid hL2
    clear HLR hL2 hE
    go_wp2_with fail
    clear c0 q0 c1 q1 c2 q2 c3 q3 c4 q4 c5 q5 c6 q6
    have hh:=HXf.out.all (.int .i64 0) (.string ⟨#[]⟩) (.int .i64 0) (.int .i64 0) (.int .i64 0) (.string ⟨#[]⟩) (.slice none 0 0)
    obtain ⟨h7,hfr⟩:=hh
    generalize World.setCell _ ⟨w.heap.size,6,none⟩ (.slice none 0 0)=W at h7 hfr ⊢
    obtain ⟨⟨n0,n1,n2,n3,n4,n5,n6⟩,_⟩:=blk7 h7.b2
    have hbe:=h7.bel
    exact bodyPost_ret (v:=.tuple #[.agg #[.int .i64 0,.string ⟨#[]⟩,.int .i64 0,.int .i64 0,.int .i64 0,.string ⟨#[]⟩,.slice none 0 0],.iface 41 (.int .i64 (verE vw))]) (by simp [results,Tryz.results74,go_sem,n0,n1,n2,n3,n4,n5,n6]) rfl (.inl ⟨(verE vw,-1),_,_,_,_,_,_,_,_,_,_,HLT.out,hE0,rfl,.inr (.inl ⟨rfl,hE13.1,hE13.2,rfl⟩),hbe⟩)
 ·have HLT:=Lib.hid (show lineR s=.inl (3,-1) by unfold lineR;simp only [hK0,if_true])
  obtain ⟨⟨c0,c1,c2,c3,c4,c5,c6⟩,q0,q1,q2,q3,q4,q5,q6⟩:=blk7 HX2.out.b2
  clear hK0 x0 f0
  go_wp2_with fail
  clear c0 q0 c1 q1 c2 q2 c3 q3 c4 q4 c5 q5 c6 q6
  have hh:=HX3.out.all (.int .i64 0) (.string ⟨#[]⟩) (.int .i64 0) (.int .i64 0) (.int .i64 0) (.string ⟨#[]⟩) (.slice none 0 0)
  obtain ⟨h7,hfr⟩:=hh
  generalize World.setCell _ ⟨w.heap.size,6,none⟩ (.slice none 0 0)=W at h7 hfr ⊢
  obtain ⟨⟨n0,n1,n2,n3,n4,n5,n6⟩,_⟩:=blk7 h7.b2
  have hbe:=h7.bel
  exact bodyPost_ret (v:=.tuple #[.agg #[.int .i64 0,.string ⟨#[]⟩,.int .i64 0,.int .i64 0,.int .i64 0,.string ⟨#[]⟩,.slice none 0 0],.iface 41 (.int .i64 3)]) (by simp [results,Tryz.results74,go_sem,n0,n1,n2,n3,n4,n5,n6]) rfl (.inl ⟨(3,-1),_,_,_,_,_,_,_,_,_,_,HLT.out,by decide,rfl,.inr (.inl ⟨rfl,by decide,by decide,rfl⟩),hbe⟩)
def ParseLineP (s:ByteArray) (w:World) (e:Ending) (w':World):Prop :=
 (∃ f u,lineR s=.inl f∧f.1≠0∧e=.returned (.tuple #[.agg (lnC ln0 (.slice none 0 0)),u])∧IsErr w' u f∧Below w.heap.size w w') ∨
 ∃ x v,lineR s=.inr x∧CanF 0 x.rg∧e=.returned (.tuple #[.agg (lnC x v),.nilIface])∧OwnP w' w.heap.size v x.rg∧Below w.heap.size w w'
set_option maxHeartbeats 4000000 in
theorem parseLine_any (s:ByteArray) (w:World) (hG:GlobV w) (hs:s.size≤21000):Calls Tryz.prog 31 #[.string s] w (ParseLineP s w):=by
 have HG:=hide hG
 have HX0:=hide (show PxI w #[.int .i64 0,.string ⟨#[]⟩,.int .i64 0,.int .i64 0,.int .i64 0,.string ⟨#[]⟩,.slice none 0 0] (w.alloc (.cells #[.int .i64 0,.string ⟨#[]⟩,.int .i64 0,.int .i64 0,.int .i64 0,.string ⟨#[]⟩,.slice none 0 0] 90)) from ⟨Blk.new w _ _,(Below.refl _ _).alloc (Nat.le_refl _) _⟩)
 clear hG
 go_enter Tryz.func31,Tryz.ntmps31
 go_wp2_with fail
 generalize (w.alloc (.cells #[.int .i64 0,.string ⟨#[]⟩,.int .i64 0,.int .i64 0,.int .i64 0,.string ⟨#[]⟩,.slice none 0 0] 90))=w0 at HX0 ⊢
 have HLT:=Lib.hid HX0.out.b2.lt
 refine (catLine_any s w0 (HG.out.below HX0.out.bel) hs).mono ?_
 rintro e w1 (⟨f,u,l0,l1,l2,l3,l4,l5,A6,n6,c6,hl,hf,rfl,hE,hb1⟩ | ⟨x,v,hl,hc,rfl,ho,hb1⟩)
 ·have HX1:=hide (HX0.out.below hb1)
  obtain ⟨tp,pv,hu⟩:∃ tp pv,u=.iface tp pv:=by
   rcases hE with ⟨h,_⟩ | ⟨_,_,_,h⟩ | ⟨_,_,_,_,_,h,_⟩
   ·exact absurd (congrArg Prod.fst h) hf
   ·exact ⟨_,_,h⟩
   ·exact ⟨_,_,h⟩
  subst hu
  have HL:=Lib.hid hl
  have HF:=Lib.hid hf
  have HIE:=hide (hE)
  have hblt:w.heap.size<w1.heap.size:=HX1.out.b2.lt
  obtain ⟨⟨c0,c1,c2,c3,c4,c5,c6'⟩,q0,q1,q2,q3,q4,q5,q6⟩:=blk7 HX1.out.b2
  clear hl hf hb1 HX0 hE
  go_wp2_with fail
  have hh:=HX1.out.all (.int .i64 0) (.string ⟨#[]⟩) (.int .i64 0) (.int .i64 0) (.int .i64 0) (.string ⟨#[]⟩) (.slice none 0 0)
  obtain ⟨h7,hfr⟩:=hh
  have h8:=h7.below ((Below.refl _ _).alloc (Nat.le_refl _) (.cells #[.int .i64 l0,.string l1,.int .i64 l2,.int .i64 l3,.int .i64 l4,.string l5,.slice A6 n6 c6] 90))
  have hIE:=(isErr_fr HIE.out HX1.out.b2 hfr).below ((Below.refl _ _).alloc (Nat.le_refl _) (.cells #[.int .i64 l0,.string l1,.int .i64 l2,.int .i64 l3,.int .i64 l4,.string l5,.slice A6 n6 c6] 90))
  clear h7 hfr
  generalize World.alloc _ (.cells #[.int .i64 l0,.string l1,.int .i64 l2,.int .i64 l3,.int .i64 l4,.string l5,.slice A6 n6 c6] 90)=W at h8 hIE ⊢
  obtain ⟨⟨n0,n1,n2,n3,n4,n5,n6⟩,_⟩:=blk7 h8.b2
  have hbe:=h8.bel
  exact bodyPost_ret (v:=.tuple #[.agg #[.int .i64 0,.string ⟨#[]⟩,.int .i64 0,.int .i64 0,.int .i64 0,.string ⟨#[]⟩,.slice none 0 0],.iface tp pv]) (by simp [results,Tryz.results31,go_sem,n0,n1,n2,n3,n4,n5,n6]) rfl (.inl ⟨f,_,HL.out,HF.out,rfl,hIE,hbe⟩)
 ·obtain ⟨A6,c6,rfl⟩:=ho.len
  have HL:=Lib.hid hl
  have HC:=Lib.hid hc
  unfold lnC
  have HX1:=hide (HX0.out.below hb1)
  have HO1:=hide ho
  have hblt:w.heap.size<w1.heap.size:=HX1.out.b2.lt
  obtain ⟨⟨c0,c1,c2,c3,c4,c5,c6'⟩,q0,q1,q2,q3,q4,q5,q6⟩:=blk7 HX1.out.b2
  clear hl hc hb1 HX0 ho
  go_wp2_with fail
  have hh:=HX1.out.all (.int .i64 x.k) (.string x.name) (.int .i64 (x.ver 0)) (.int .i64 (x.ver 1)) (.int .i64 (x.ver 2)) (.string x.other) (.slice A6 x.rg.length c6)
  obtain ⟨h7,hfr⟩:=hh
  have h8:=h7.below ((Below.refl _ _).alloc (Nat.le_refl _) (.cells #[.int .i64 x.k,.string x.name,.int .i64 (x.ver 0),.int .i64 (x.ver 1),.int .i64 (x.ver 2),.string x.other,.slice A6 x.rg.length c6] 90))
  have hIE:=(HO1.out.fr hfr (fun k hk e=>by have:=HLT.out;omega)).below ((Below.refl _ _).alloc (Nat.le_refl _) (.cells #[.int .i64 x.k,.string x.name,.int .i64 (x.ver 0),.int .i64 (x.ver 1),.int .i64 (x.ver 2),.string x.other,.slice A6 x.rg.length c6] 90))
  clear h7 hfr
  generalize World.alloc _ (.cells #[.int .i64 x.k,.string x.name,.int .i64 (x.ver 0),.int .i64 (x.ver 1),.int .i64 (x.ver 2),.string x.other,.slice A6 x.rg.length c6] 90)=W at h8 hIE ⊢
  obtain ⟨⟨n0,n1,n2,n3,n4,n5,n6⟩,_⟩:=blk7 h8.b2
  have hbe:=h8.bel
  exact bodyPost_ret (v:=.tuple #[.agg #[.int .i64 x.k,.string x.name,.int .i64 (x.ver 0),.int .i64 (x.ver 1),.int .i64 (x.ver 2),.string x.other,.slice A6 x.rg.length c6],.nilIface]) (by simp [results,Tryz.results31,go_sem,n0,n1,n2,n3,n4,n5,n6]) rfl (.inr ⟨x,_,HL.out,HC.out,rfl,hIE.mono (by have:=HLT.out;omega),hbe⟩)
end Go.Proofs.YtojgbcmhdnappaaGreatDoor
