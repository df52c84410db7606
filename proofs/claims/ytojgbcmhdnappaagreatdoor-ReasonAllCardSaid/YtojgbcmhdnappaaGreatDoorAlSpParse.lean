/-
  A part of the proof: SpParse. Conditions: none.
-/
import Derived.RangeFuncNested
import Derived.RangeFuncBound
import Derived.RangeFuncCalls
import Derived.RangeFuncLeaves
import Derived.Shelf.Abstract
import Derived.Shelf.RegionOpen
import Derived.WalkKit
import Derived.OwnWalkIn
import Derived.TacticsInMore
import Derived.LoopNIn
import Derived.LoopIn
import Derived.Lib.SplitLaws
import Derived.Test.YtojgbcmhdnappaaGreatDoorAlSeqLay
import Derived.Test.YtojgbcmhdnappaaGreatDoorAlRgWordC
import Derived.Test.YtojgbcmhdnappaaGreatDoorAlSpWord2
import Derived.Test.YtojgbcmhdnappaaGreatDoorAlSpBoth
import Derived.IntWalk
namespace Go.Proofs.YtojgbcmhdnappaaGreatDoor
open Go.RowKit Go.Shelf
attribute [local go_sem] Oper.semAt_some
set_option maxRecDepth 100000
def pieL (sep s:ByteArray):List ByteArray:=Lib.splitB sep 0 (Lib.countB s sep) s
theorem pieL_miss {sep s:ByteArray} (h:Lib.indexB s sep = -1):pieL sep s=[s]:=Lib.splitB_miss sep 0 _ s h
theorem pieL_hit {sep s:ByteArray} {i:Nat} (h1:1≤sep.size) (h:Lib.indexB s sep=i):pieL sep s=s.extract 0 i :: pieL sep (s.extract (i+sep.size) s.size):=by
 have hc:=Lib.countB_hit s sep i h1 h
 unfold pieL
 rw [show Lib.countB s sep=Lib.countB (s.extract (i+sep.size) s.size) sep+1 by omega,Lib.splitB_hit sep 0 _ s i h]
 rfl
def leftS (b:Nat) (w:World):Nat:=match w.cell? ⟨b,0,none⟩ with
 | some (.string r)=>r.size
 | _=>0
theorem leftS_is {b:Nat} {w:World} {r:ByteArray} (h:Blk w b 9 #[.string r]):leftS b w=r.size:=by
 unfold leftS
 rw [show w.cell? ⟨b,0,none⟩=some (.string r) from h.cell 0]
structure SeqJ (J:List ByteArray→World→Prop) (bs bsep bsv:Nat) (sep:ByteArray) (pre:List ByteArray) (rest:ByteArray) (w:World):Prop where
 j:J pre w
 b:Blk w bs 9 #[.string rest]
 sp:Blk w bsep 9 #[.string sep]
 sv:Blk w bsv 3 #[.int .i64 0]
set_option maxHeartbeats 2000000 in
theorem splitSeq1_any (n l bs bsep bsv:Nat) (s sep:ByteArray) (J Jx:List ByteArray→World→Prop) (W:World) (hn:1≤n) (h1:1≤sep.size) (hs:s.size≤1000000) (ne1:bsep≠bs) (ne2:bsv≠bs)
  (hJG:∀ pre A,J pre A→GlobV A) (hJb:∀ pre A B,J pre A→Fr (fun k=>k=bs) A B→J pre B)
  (hY:∀ pre x rest r A,SeqJ J bs bsep bsv sep pre rest A→pre++x :: r=pieL sep s→YieldAt Fence.wide (n-1) Tryz.prog l #[.string x] A fun e B =>
   (e=.returned (.bool true)∧SeqJ J bs bsep bsv sep (pre++[x]) rest B)∨(e=.returned (.bool false)∧Jx (pre++[x]) B))
  (h0:SeqJ J bs bsep bsv sep [] s W) :
  CallsIn Fence.wide n Tryz.prog 191 #[.func (.yield l) #[] #[],.pointer (some ⟨bsep,0,none⟩),.pointer (some ⟨bs,0,none⟩),.pointer (some ⟨bsv,0,none⟩)] W fun e W'=>(∃ v,e=.returned v) ∧
   (J (pieL sep s) W'∨∃ pre,Jx pre W'):=by
 have HJG:=Lib.hid hJG
 have HJB:=Lib.hid hJb
 have HY:=Lib.hid hY
 have H0:=Lib.hid h0
 have hse:(sep.size:Int)=0→False:=by omega
 have hsb:((sep.size:Int)==0)=false:=beq_eq_false_iff_ne.2 (by omega)
 have z1:=h0.sp.cell 0
 clear hJG hJb hY h0 hse
 refine callsIn_of_wp Tryz.func191 rfl trivial ?_ rfl
 simp only [Tryz.ntmps191,List.size_toArray,List.length_cons,List.length_nil,Nat.reduceAdd,Nat.reduceSub,Array.replicate_succ,Array.replicate_zero,List.push_toArray,List.append_toArray,List.nil_append,List.cons_append]
 gi_wp2
 clear z1
 gi_loopw [7] (fun _ wr=>∃ (pre:List ByteArray) (rest:ByteArray),Hid (pre++pieL sep rest=pieL sep s)∧rest.size≤1000000∧Hid (SeqJ J bs bsep bsv sep pre rest wr)) (fun _ wr=>leftS bs wr)
 case atStart=>exact ⟨[],s,Lib.hid rfl,hs,H0⟩
 case round =>
  clear H0
  obtain ⟨pre,rest,HP,hrs,HS⟩:=hrel
  have y0:=HS.out.b.cell 0
  have y1:=HS.out.sp.cell 0
  have y2:=HS.out.sv.cell 0
  have hGV:=HJG.out _ _ HS.out.j
  obtain ⟨m,hm⟩:=hGV.mx
  have HIX:=hide (show Calls Tryz.prog 190 #[.string rest,.string sep] wr (fun e w'=>e=.returned (.int .i64 (Lib.index rest.data.toList sep.data.toList))∧wr=w') from (Tryz.strings_Index rest sep m wr (by omega) hm).mono fun e w' h=>⟨h.1,h.2.symm⟩)
  have hL:=leftS_is HS.out.b
  have HL:=Lib.hid hL
  clear hL hm hGV
  rcases Lib.indexB_cases rest sep with hix | ⟨i,hix,hle⟩
  ·have hp1:pre++rest :: []=pieL sep s:=by rw [←HP.out,pieL_miss hix]
   have hpe:pre++[rest]=pieL sep s:=hp1
   have HPE:=Lib.hid hpe
   rw [show Lib.index rest.data.toList sep.data.toList = -1 from hix] at HIX
   obtain ⟨fn,tmps,assign,body,hy,hR⟩:=HY.out pre rest rest [] wr HS.out hp1
   have HR:=hide hR
   clear hR hp1 hpe hix
   gi_wp2_with (refine ⟨trivial,?_⟩;gi_at_call 190;refine (callsIn_wide.2 HIX.out).mono ?_;rintro e w9 ⟨rfl,rfl⟩)
   refine HR.out.mono ?_
   rintro e wb (⟨rfl,hj⟩ | ⟨rfl,hx⟩)
   ·have HJ:=hide hj
    clear hj
    gi_wp2
    go_end0
    exact ⟨⟨_,rfl⟩,.inl (by rw [←HPE.out];exact HJ.out.j)⟩
   ·have HX:=hide hx
    clear hx
    gi_wp2
    go_end0
    exact ⟨⟨_,rfl⟩,.inr ⟨_,HX.out⟩⟩
  ·have hp1:pre++rest.extract 0 i :: pieL sep (rest.extract (i+sep.size) rest.size)=pieL sep s:=by rw [←HP.out,pieL_hit h1 hix]
   have HPE:=Lib.hid (show (pre++[rest.extract 0 i])++pieL sep (rest.extract (i+sep.size) rest.size)=pieL sep s by rw [←hp1,List.append_assoc];rfl)
   rw [show Lib.index rest.data.toList sep.data.toList=(i:Int) from hix] at HIX
   obtain ⟨fn,tmps,assign,body,hy,hR⟩:=HY.out pre (rest.extract 0 i) rest _ wr HS.out hp1
   have HR:=hide hR
   have hsz2:(rest.extract (i+sep.size) rest.size).size<rest.size:=by rw [ByteArray.size_extract];omega
   have HSZ:=Lib.hid hsz2
   have hiz:¬(i:Int)<0:=by omega
   have hirz:(i:Int)≤(rest.size:Int):=by omega
   have his:(i:Int)+(sep.size:Int)≤(rest.size:Int):=by omega
   clear hR hp1 hix hsz2
   gi_wp2_with (refine ⟨trivial,?_⟩;gi_at_call 190;refine (callsIn_wide.2 HIX.out).mono ?_;rintro e w9 ⟨rfl,rfl⟩)
   refine HR.out.mono ?_
   rintro e wb (⟨rfl,hj⟩ | ⟨rfl,hx⟩)
   ·have HJ:=hide hj
    have y0:=hj.b.cell 0
    have y1:=hj.sp.cell 0
    have f0:=hj.b.frozen 0
    have HJ2:=hide (show SeqJ J bs bsep bsv sep (pre++[rest.extract 0 i]) (rest.extract (i+sep.size) rest.size) (wb.setCell ⟨bs,0,none⟩ (.string (rest.extract (i+sep.size) rest.size))) from
     ⟨HJB.out _ _ _ hj.j (Fr.set_ (S:=fun k=>k=bs) (Fr.refl _ _) (p:=⟨bs,0,none⟩) rfl _),hj.b.set_ 0 _,hj.sp.far ne1 _,hj.sv.far ne2 _⟩)
    clear hj
    gi_wp2
    go_roundw
    case rel=>exact ⟨_,_,HPE,by have:=HSZ.out;omega,HJ2⟩
    case measure=>rw [HL.out,leftS_is HJ2.out.b];exact HSZ.out
   ·have HX:=hide hx
    clear hx
    gi_wp2
    refine bodyPost_ret (results_none rfl _ _ _) rfl ?_
    exact ⟨⟨_,rfl⟩,.inr ⟨_,HX.out⟩⟩
def seqPost (X:Nat→Prop) (I Ix:List ByteArray→World→Prop) (pre:List ByteArray) (W:World):Exit→Act→World→Prop
 | .normal,_,W'=>Fr X W W'∧I pre W'
 | .ret,_,W'=>Fr X W W'∧Ix pre W'
 | _,_,_=>False
theorem fr_putObj {S:Nat→Prop} (W:World) {l:Nat} (o:Obj) (hl:S l):Fr S W (W.putObj l o):=⟨rfl,rfl,rfl,by rw [World.putObj_size];exact Nat.le_refl _,fun k _ hk=>World.putObj_heap_other (fun e=>hk (e ▸ hl))⟩
theorem wpIn_splitSeq {n:Nat} {g:Operand} {ps:Array Tmp} {assign body:Code} {Q:Exit→Act→World→Prop} {a:Act} {w:World} (bsep bs bsv:Nat) (s sep:ByteArray)
  (hg:a.eval g=.func (.func 191) #[] #[.pointer (some ⟨bsep,0,none⟩),.pointer (some ⟨bs,0,none⟩),.pointer (some ⟨bsv,0,none⟩)])
  (h1:1≤sep.size) (hs:s.size≤1000000) (hn:2≤n) (k1:Blk w bsep 9 #[.string sep]) (k2:Blk w bs 9 #[.string s]) (k3:Blk w bsv 3 #[.int .i64 0]) (ne1:bsep≠bs) (ne2:bsv≠bs) (hps:ps.size=1)
  (X:Nat→Prop) (hX:∀ k,X k→k<w.heap.size∧k≠bs∧k≠bsep∧k≠bsv) (I Ix:List ByteArray→World→Prop)
  (hI:∀ pre A B,I pre A→Fr (fun k=>k=bs∨k=w.heap.size∨k=w.heap.size+1) A B→I pre B) (hIx:∀ pre A B,Ix pre A→Fr (fun k=>k=bs∨k=w.heap.size∨k=w.heap.size+1) A B→Ix pre B)
  (hG:∀ pre A,I pre A→GlobV A) (h0:I [] w) (a₁:ByteArray→Act)
  (hassign:∀ (l:Nat) (x:ByteArray) (W:World) (K:Act→World→Prop),K (a₁ x) W →
   assign.wpIn (Fence.wide.inRound l) (n-1-1) Tryz.prog (Exit.then K (fun _ _ _=>False)) { tmps:=(ps.zip #[.string x]).foldl (fun t (p,v)=>t.setIfInBounds p v) a.tmps,defers:=[] } W)
  (hbody:∀ (l:Nat) (pre:List ByteArray) (x:ByteArray) (r:List ByteArray) (W:World),I pre W→pre++x :: r=pieL sep s→w.heap.size+2≤W.heap.size→body.wpIn (Fence.wide.inRound l) (n-1-1) Tryz.prog (seqPost X I Ix (pre++[x]) W) (a₁ x) W)
  (hdone:∀ W,I (pieL sep s) W→W.heap[w.heap.size]?=some (.deferred (some []))→Q .normal { a with defers:={ target:=.collected w.heap.size,args:=#[] } :: a.defers } W)
  (hstop:∀ pre W,Ix pre W→W.heap[w.heap.size]?=some (.deferred (some []))→Code.ret.wpIn Fence.wide n Tryz.prog Q { a with defers:={ target:=.collected w.heap.size,args:=#[] } :: a.defers } W) :
  (Code.rangeFunc g ps assign body).wpIn Fence.wide n Tryz.prog Q a w:=by
 refine wpIn_rangeFunc ?_
 intro fn hfn
 rw [show Fence.wide.round=none from rfl]
 obtain ⟨rec,hrec⟩:∃ rec:LoopState→Option Code→Loop,rec=fun st pe=>{ state:=st,pending:=pe,fn,tmps:=a.tmps,params:=ps,assign,body,defers:=w.heap.size }:=⟨_,rfl⟩
 obtain ⟨W1,hW1⟩:∃ W1,(w.alloc (.deferred (some []))).alloc (.loop (rec .ready none))=W1:=⟨_,rfl⟩
 have hL1:W1.heap[w.heap.size+1]?=some (.loop (rec .ready none)):=by
  rw [←hW1];have:=World.alloc_heap_new (w.alloc (.deferred (some []))) (.loop (rec .ready none));rwa [World.size_alloc] at this
 have hK1:W1.heap[w.heap.size]?=some (.deferred (some [])):=by
  rw [←hW1];exact (Below.heap_alloc _ _ _ (by simp)).trans (World.alloc_heap_new w _)
 have hB1:Below w.heap.size w W1:=by rw [←hW1];exact ((Below.refl _ w).alloc (Nat.le_refl _) _).alloc (by simp) _
 have hz1:w.heap.size+2≤W1.heap.size:=by rw [←hW1];simp
 have hI1:I [] W1:=hI _ _ _ h0 (.of_below hB1 (Nat.le_refl _))
 have hlt:bs<w.heap.size:=k2.lt
 refine ⟨w.heap.size+1,[{ target:=.collected w.heap.size,args:=#[] }],W1,{ target:=.fn (.func 191) #[.pointer (some ⟨bsep,0,none⟩),.pointer (some ⟨bs,0,none⟩),.pointer (some ⟨bsv,0,none⟩)],args:=#[.func (.yield (w.heap.size+1)) #[] #[]] },W1,191,
  #[.func (.yield (w.heap.size+1)) #[] #[]]++#[.pointer (some ⟨bsep,0,none⟩),.pointer (some ⟨bs,0,none⟩),.pointer (some ⟨bsv,0,none⟩)],W1,?_,?_,?_,?_,fun _=>by omega,?_⟩
 ·rw [←hW1,hrec];exact run_enterLoop_outer _ _ _ _ _
 ·simp only [resolve,hg]
  simp [go_sem]
 ·intro f' _;exact trivial
 ·simp [invoke,go_sem]
 ·refine (splitSeq1_any (n-1) (w.heap.size+1) bs bsep bsv s sep
   (fun pre W=>I pre W∧W.heap[w.heap.size+1]?=some (.loop (rec .ready none))∧W.heap[w.heap.size]?=some (.deferred (some []))∧w.heap.size+2≤W.heap.size)
   (fun pre W=>Ix pre W∧W.heap[w.heap.size+1]?=some (.loop (rec .done (some .ret)))∧W.heap[w.heap.size]?=some (.deferred (some [])))
   W1 (by omega) h1 hs ne1 ne2 (fun pre A h=>hG pre A h.1)
   (fun pre A B h hf=>⟨hI _ _ _ h.1 (hf.mono fun k _ e=>.inl e),(hf.block _ (by omega) (by omega)).trans h.2.1,(hf.block _ (by omega) (by omega)).trans h.2.2.1,Nat.le_trans h.2.2.2 hf.size⟩)
   ?_ ⟨⟨hI1,hL1,hK1,hz1⟩,k2.below hB1 k2.lt,k1.below hB1 k1.lt,k3.below hB1 k3.lt⟩).mono ?_
  ·-- one round
   rintro pre x rest r W ⟨⟨hi,hl,hk,hz⟩,b1,b2,b3⟩ hpx
   have hy:=run_yield (P:=Tryz.prog) (args:=#[.string x]) hl (by rw [hrec];exact hps.symm)
   rw [hrec] at hy
   refine ⟨fn,_,assign,body,hy,roundIn_of_wpIn hfn (hassign _ x W _ ⟨_,run_beginRound hl (by rw [hrec]),?_⟩)⟩
   have hl2:(W.putObj (w.heap.size+1) (.loop { rec .ready none with state:=.busy })).heap[w.heap.size+1]?=some (.loop { rec .ready none with state:=.busy }):=World.putObj_heap_same (by omega)
   have hk2:(W.putObj (w.heap.size+1) (.loop { rec .ready none with state:=.busy })).heap[w.heap.size]?=some (.deferred (some [])):=(World.putObj_heap_other (by omega)).trans hk
   have hf2:Fr (fun k=>k=bs∨k=w.heap.size∨k=w.heap.size+1) W (W.putObj (w.heap.size+1) (.loop { rec .ready none with state:=.busy })):=fr_putObj W _ (.inr (.inr rfl))
   have hfl:Fr (fun k=>k=w.heap.size+1) W (W.putObj (w.heap.size+1) (.loop { rec .ready none with state:=.busy })):=fr_putObj W _ rfl
   have c1:=b1.fr hfl (by show ¬bs=w.heap.size+1;omega)
   have c2:=b2.fr hfl (by have:=k1.lt;show ¬bsep=w.heap.size+1;omega)
   have c3:=b3.fr hfl (by have:=k3.lt;show ¬bsv=w.heap.size+1;omega)
   refine wpIn_mono (hbody _ pre x r _ (hI _ _ _ hi hf2) hpx (by rw [World.putObj_size];exact hz)) ?_
   have fin:∀ (jump:Option Code) (W3:World),Fr X (W.putObj (w.heap.size+1) (.loop { rec .ready none with state:=.busy })) W3 →
     (Instr.endRound (w.heap.size+1) jump).run Tryz.prog W3=.ok (.bool jump.isNone) (W3.putObj (w.heap.size+1) (.loop (rec (if jump.isNone then .ready else .done) jump))) ∧
     (W3.putObj (w.heap.size+1) (.loop (rec (if jump.isNone then .ready else .done) jump))).heap[w.heap.size+1]?=some (.loop (rec (if jump.isNone then .ready else .done) jump)) ∧
     (W3.putObj (w.heap.size+1) (.loop (rec (if jump.isNone then .ready else .done) jump))).heap[w.heap.size]?=some (.deferred (some [])) ∧
     w.heap.size+2≤(W3.putObj (w.heap.size+1) (.loop (rec (if jump.isNone then .ready else .done) jump))).heap.size ∧
     Fr (fun k=>k=bs∨k=w.heap.size∨k=w.heap.size+1) W3 (W3.putObj (w.heap.size+1) (.loop (rec (if jump.isNone then .ready else .done) jump))):=fun jump W3 hf3=>by
    have hsz3:w.heap.size+2≤W3.heap.size:=by have:=hf3.size;rw [World.putObj_size] at this;omega
    have hl3:=(hf3.block (w.heap.size+1) (by rw [World.putObj_size];omega) (fun h=>by have:=(hX _ h).1;omega)).trans hl2
    have hk3:=(hf3.block w.heap.size (by rw [World.putObj_size];omega) (fun h=>by have:=(hX _ h).1;omega)).trans hk2
    have:=run_endRound (P:=Tryz.prog) jump hl3
    rw [hrec] at this ⊢
    exact ⟨this,World.putObj_heap_same (by omega),(World.putObj_heap_other (by omega)).trans hk3,by rw [World.putObj_size];exact hsz3,fr_putObj W3 _ (.inr (.inr rfl))⟩
   rintro e a3 W3 hp
   cases e with
   | normal =>
    obtain ⟨hf3,hi3⟩:=hp
    obtain ⟨hr,hl4,hk4,hz4,hf4⟩:=fin none W3 hf3
    have hfl4:Fr (fun k=>k=w.heap.size+1) W3 (W3.putObj (w.heap.size+1) (.loop (rec .ready none))):=fr_putObj W3 _ rfl
    exact ⟨_,_,hr,.inl ⟨rfl,⟨hI _ _ _ hi3 hf4,hl4,hk4,hz4⟩,
     (c1.fr hf3 (fun h=>(hX _ h).2.1 rfl)).fr hfl4 (by show ¬bs=w.heap.size+1;omega),(c2.fr hf3 (fun h=>(hX _ h).2.2.1 rfl)).fr hfl4 (by have:=k1.lt;show ¬bsep=w.heap.size+1;omega),
     (c3.fr hf3 (fun h=>(hX _ h).2.2.2 rfl)).fr hfl4 (by have:=k3.lt;show ¬bsv=w.heap.size+1;omega)⟩⟩
   | ret =>
    obtain ⟨hf3,hi3⟩:=hp
    obtain ⟨hr,hl4,hk4,hz4,hf4⟩:=fin (some .ret) W3 hf3
    exact ⟨_,_,hr,.inr ⟨rfl,hIx _ _ _ hi3 hf4,hl4,hk4⟩⟩
   | exit id=>exact hp.elim
   | goto t=>exact hp.elim
   | panic ch=>exact hp.elim
   | outgrown=>exact hp.elim
  ·rintro e W2 ⟨⟨v,rfl⟩,(⟨hi,hl,hk,hz⟩ | ⟨pre,hi,hl,hk⟩)⟩
   ·exact ⟨none,_,by have:=run_endLoop (P:=Tryz.prog) hl (by rw [hrec];simp);rw [hrec] at this;exact this,hdone _ (hI _ _ _ hi (fr_putObj W2 _ (.inr (.inr rfl)))) ((World.putObj_heap_other (by omega)).trans hk)⟩
   ·exact ⟨some .ret,_,by have:=run_endLoop (P:=Tryz.prog) hl (by rw [hrec];simp);rw [hrec] at this;exact this,hstop _ _ (hIx _ _ _ hi (fr_putObj W2 _ (.inr (.inr rfl)))) ((World.putObj_heap_other (by omega)).trans hk)⟩
end Go.Proofs.YtojgbcmhdnappaaGreatDoor
namespace Go.Proofs.YtojgbcmhdnappaaGreatDoor
open Go.RowKit Go.Shelf
attribute [local go_sem] Oper.semAt_some
set_option maxRecDepth 100000
def SeqP (s sep:ByteArray) (w:World) (e:Ending) (w':World):Prop :=
 e=.returned (.func (.func 191) #[] #[.pointer (some ⟨w.heap.size+1,0,none⟩),.pointer (some ⟨w.heap.size,0,none⟩),.pointer (some ⟨w.heap.size+2,0,none⟩)]) ∧
  w'=((w.alloc (.cells #[.string s] 9)).alloc (.cells #[.string sep] 9)).alloc (.cells #[.int .i64 0] 3)
theorem splitSeq_any (s sep:ByteArray) (w:World):Calls Tryz.prog 145 #[.string s,.string sep,.int .i64 0] w (SeqP s sep w):=by
 go_enter Tryz.func145,Tryz.ntmps145
 go_wp2
 go_ret
 exact ⟨by simp,rfl⟩
theorem splitSeqO_any (s sep:ByteArray) (w:World):Calls Tryz.prog 91 #[.string s,.string sep] w (SeqP s sep w):=by
 go_enter Tryz.func91,Tryz.ntmps91
 go_wp2_with (go_at_call 145;refine (splitSeq_any s sep _).mono ?_;rintro e w9 ⟨rfl,rfl⟩)
 go_ret
 exact ⟨rfl,rfl⟩
def SpParseP (s:ByteArray) (w:World) (e:Ending) (w':World):Prop :=
 (∃ u f,(if 1000<s.size then f=((4:Int),(-1:Int)) else ∃ q:Int×Nat,rangeR s=.inl q∧f=(q.1,(q.2:Int)))∧f.1≠0∧e=.returned (.tuple #[.agg #[.slice none 0 0],u])∧IsErr w' u f∧Below w.heap.size w w') ∨
 ∃ v l,s.size≤1000∧rangeR s=.inr l∧CanF 0 l∧e=.returned (.tuple #[.agg #[v],.nilIface])∧OwnP w' w.heap.size v l∧Below w.heap.size w w'
structure PrI (w0:World) (s:ByteArray) (pre:List ByteArray) (W:World):Prop where
 b2:Blk W w0.heap.size 88 #[.slice none 0 0]
 b3:Blk W (w0.heap.size+1) 37 #[.nilIface]
 is:∃ v out,∃ a:Nat,Blk W (w0.heap.size+2) 88 #[v]∧OwnP W (w0.heap.size+9) v out∧Blk W (w0.heap.size+3) 3 #[.int .i64 (a:Int)]∧CanF 0 out∧a≤2000*pre.length∧resT ((barL s).drop pre.length) a out=rangeR s
 bel:Below w0.heap.size w0 W
structure PrX (w0:World) (s:ByteArray) (W:World):Prop where
 b2:Blk W w0.heap.size 88 #[.slice none 0 0]
 is:∃ u,∃ q:Int×Nat,Blk W (w0.heap.size+1) 37 #[u]∧IsErr W u (q.1,(q.2:Int))∧(∀ b,u=.iface 183 (.pointer (some ⟨b,0,none⟩))→w0.heap.size+9≤b)∧q.1≠0∧rangeR s=.inl q
 bel:Below w0.heap.size w0 W
theorem OwnP.fr {S:Nat→Prop} {w w':World} {base:Nat} {v:Value} {l:List (Nat×Nat)} (h:OwnP w base v l) (hf:Fr S w w') (hs:∀ k,base≤k→¬S k):OwnP w' base v l:=by
 refine ⟨h.1,?_⟩
 rcases h.2 with h2 | ⟨g,cap,cur,e,hg,hgc,r⟩
 ·exact .inl h2
 ·have hk:Blk w g 254 cur:=hgc
  exact .inr ⟨g,cap,cur,e,hg,hk.fr hf (hs g hg),r⟩
theorem PrI.fr {w0:World} {s:ByteArray} {pre:List ByteArray} {A B:World} (h:PrI w0 s pre A) (hf:Fr (fun k=>k=w0.heap.size+4∨k=w0.heap.size+7∨k=w0.heap.size+7+1) A B):PrI w0 s pre B:=by
 obtain ⟨v,out,a,h1,h2,h3,h4⟩:=h.is
 exact ⟨h.b2.fr hf (by omega),h.b3.fr hf (by omega),⟨v,out,a,h1.fr hf (by omega),h2.fr hf (fun k hk=>by omega),h3.fr hf (by omega),h4⟩,h.bel.trans (hf.to_below h.bel.size (fun k hk=>by omega))⟩
theorem PrX.fr {w0:World} {s:ByteArray} {A B:World} (h:PrX w0 s A) (hf:Fr (fun k=>k=w0.heap.size+4∨k=w0.heap.size+7∨k=w0.heap.size+7+1) A B):PrX w0 s B:=by
 obtain ⟨u,q,h1,h2,hb,h3,h4⟩:=h.is
 refine ⟨h.b2.fr hf (by omega),⟨u,q,h1.fr hf (by omega),?_,hb,h3,h4⟩,h.bel.trans (hf.to_below h.bel.size (fun k hk=>by omega))⟩
 rcases h2 with h2 | h2 | ⟨b,hlt,e1,e2,e3,e4,e5⟩
 ·exact .inl h2
 ·exact .inr (.inl h2)
 ·have:=hb b e4
  exact .inr (.inr ⟨b,Nat.lt_of_lt_of_le hlt hf.size,e1,e2,e3,e4,e5.fr hf (by omega)⟩)
structure PrB (W0:World) (p:ByteArray) (a0 br i wd:Nat) (wr:World):Prop where
 is:∃ v acc,Blk wr br 88 #[v]∧OwnP wr W0.heap.size v acc∧CanF 0 acc∧resW (spW 32 (p.data.toList.drop i)) (a0+i) acc (decide (0<wd))=resW (pcL 32 p) a0 anyC false
 bel:Below W0.heap.size W0 wr
 ge:W0.heap.size≤br
theorem b32_ne {c:UInt8} (h:c≠32):((c.toNat:Int)==32)=false:=by
 refine beq_eq_false_iff_ne.2 fun e=>h (UInt8.toNat_inj.1 ?_)
 rw [show (32:UInt8).toNat=32 from rfl]
 omega
theorem byte_drop (x:ByteArray) {i:Nat} (h:i<x.size):x.data.toList.drop i=x[i] :: x.data.toList.drop (i+1):=by
 have h':i<x.data.toList.length:=h
 rw [List.drop_eq_getElem_cons h']
 rfl
theorem extract_data (x:ByteArray) (i k:Nat):(x.extract i k).data.toList=(x.data.toList.drop i).take (k-i):=by
 simp [List.take_drop]
theorem word_cut (x:ByteArray) {i k:Nat} (hik:i<k) (hk:k≤x.size) (hw:∀ j,(hj:j<x.size)→i≤j→j<k→x[j]≠32) (he:k=x.size∨∃ h:k<x.size,x[k]=32) :
  x.data.toList.drop i=(x.extract i k).data.toList++x.data.toList.drop k∧(32:UInt8)∉(x.extract i k).data.toList∧(x.extract i k).data.toList≠[]∧(x.extract i k).data.toList.length=k-i∧(x.data.toList.drop k=[]∨∃ r,x.data.toList.drop k=32 :: r):=by
 have hl:x.data.toList.length=x.size:=rfl
 have hlen:(x.extract i k).data.toList.length=k-i:=by rw [extract_data,List.length_take,List.length_drop];omega
 refine ⟨?_,?_,?_,hlen,?_⟩
 ·rw [extract_data]
  conv=>lhs;rw [←List.take_append_drop (k-i) (x.data.toList.drop i)]
  rw [List.drop_drop,show i+(k-i)=k by omega]
 ·intro hm
  rw [extract_data] at hm
  obtain ⟨j,hj,e⟩:=List.getElem_of_mem hm
  have hj2:j<k-i:=by rw [List.length_take] at hj;omega
  rw [List.getElem_take,List.getElem_drop] at e
  exact hw (i+j) (by omega) (by omega) (by omega) e
 ·intro e
  rw [e] at hlen
  simp at hlen
  omega
 ·rcases he with rfl | ⟨h,e⟩
  ·left;exact List.drop_eq_nil_of_le (by omega)
  ·right;rw [byte_drop x h,e];exact ⟨_,rfl⟩
theorem PrB.blank {W0 wr:World} {p:ByteArray} {a0 br i wd:Nat} (h:PrB W0 p a0 br i wd wr) (hi:i<p.size) (hb:p[i]=32):PrB W0 p a0 br (i+1) wd wr:=by
 obtain ⟨v,acc,h1,h2,h3,h4⟩:=h.is
 rw [byte_drop p hi,hb,resW_blank] at h4
 exact ⟨⟨v,acc,h1,h2,h3,h4⟩,h.bel,h.ge⟩
def prX (n:Nat) (k:Nat):Prop:=n≤k∧k<n+4
theorem isErr_no {w:World} {v:Value} (h:IsErr w v (0,-1)):v=.nilIface:=by
 rcases h with ⟨_,h⟩ | ⟨_,h,_⟩ | ⟨_,_,h,_⟩
 ·exact h
 ·exact absurd h (by decide)
 ·exact absurd h (by decide)
theorem isErr_num {w:World} {v:Value} {E:Int} (h:IsErr w v (E,-1)) (hE:E≠0):v=.iface 41 (.int .i64 E)∧1≤E∧E≤13:=by
 rcases h with ⟨h,_⟩ | ⟨_,h1,h2,h⟩ | ⟨_,_,_,_,h,_⟩
 ·injection h with h _;exact absurd h hE
 ·exact ⟨h,h1,h2⟩
 ·exact absurd (show (0:Int) ≤ -1 from h) (by decide)
theorem PrB.word {Q:List UInt8} {W0 wr w2 w3:World} {p:ByteArray} {a0 br i wd k:Nat} {v v5:Value} {acc:List (Nat×Nat)} (hge:W0.heap.size≤br) (h1:Blk wr br 88 #[v]) (hb:Below W0.heap.size W0 wr) (h4:resW (spW 32 (p.data.toList.drop i)) (a0+i) acc (decide (0<wd))=resW (pcL 32 p) a0 anyC false)
  (hac:CanF 0 acc) (hik:i<k) (d1:p.data.toList.drop i=Q++p.data.toList.drop k) (d2:(32:UInt8)∉Q) (d3:Q≠[]) (d4:Q.length=k-i)
  (d5:p.data.toList.drop k=[]∨∃ r,p.data.toList.drop k=32 :: r) (hE:wordE Q=0) (hb2:Below wr.heap.size wr w2) (hb3:Below w2.heap.size w2 w3) (ho:OwnP w3 w2.heap.size v5 (andC acc (wordC Q))) :
  PrB W0 p a0 br k (wd+1) (w3.setCell ⟨br,0,none⟩ v5):=by
 rw [d1,resW_word _ _ _ _ d2 d3 d5 hE,d4,show a0+i+(k-i)=a0+k by omega] at h4
 have hk:=((h1.below hb2 h1.lt).below hb3 (Nat.lt_of_lt_of_le h1.lt hb2.size)).set_ 0 v5
 have hbb:=hb.trans (hb2.mono hb.size)
 have hl:br<w2.heap.size:=Nat.lt_of_lt_of_le h1.lt hb2.size
 refine ⟨⟨v5,_,hk,?_,(and_spec hac (wordC_can hE)).1,?_⟩,(hbb.trans (hb3.mono hbb.size)).setCell hge _,hge⟩
 ·exact (ho.kept (only_setCell (g:=br) ⟨rfl,rfl,rfl,Nat.le_refl _,fun _ _ _=>rfl⟩ (p:=⟨br,0,none⟩) (.inl rfl) v5) (.inr fun e=>by have:=(ho.base_le _ e).1;omega)).mono hbb.size
 ·rw [h4.symm,decide_eq_true (Nat.succ_pos wd)]
theorem prX_keep {w0 W w4 u:World} {s:ByteArray} {pre:List ByteArray} {a0:Nat} (hI:PrI w0 s pre W) (h3:Blk W (w0.heap.size+3) 3 #[.int .i64 (a0:Int)]) (hb:Below W.heap.size W w4) (hb2:Below w4.heap.size w4 u) :
  u.cell? ⟨w0.heap.size+3,0,none⟩=some (.int .i64 (a0:Int))∧u.cell? ⟨w0.heap.size,0,none⟩=some (.slice none 0 0)∧u.cell? ⟨w0.heap.size+1,0,none⟩=some .nilIface∧u.frozen? ⟨w0.heap.size,0,none⟩=false∧u.frozen? ⟨w0.heap.size+1,0,none⟩=false∧(u.setCell ⟨w0.heap.size,0,none⟩ (.slice none 0 0)).cell? ⟨w0.heap.size+1,0,none⟩=some .nilIface∧(u.setCell ⟨w0.heap.size,0,none⟩ (.slice none 0 0)).frozen? ⟨w0.heap.size+1,0,none⟩=false∧w0.heap.size+3<u.heap.size:=by
 have hB:=hb.trans (hb2.mono hb.size)
 have k3:=h3.below hB h3.lt
 have k0:=hI.b2.below hB hI.b2.lt
 have k1:=hI.b3.below hB hI.b3.lt
 have k4:=k1.far (p:=⟨w0.heap.size,0,none⟩) (by show w0.heap.size+1≠w0.heap.size;omega) (.slice none 0 0)
 exact ⟨k3.cell 0,k0.cell 0,k1.cell 0,k0.frozen 0,k1.frozen 0,k4.cell 0,k4.frozen 0,k3.lt⟩
theorem setCell_self {w:World} {g:Nat} {t:TypeId} {v:Value} (h:Blk w g t #[v]):w.setCell ⟨g,0,none⟩ v=w:=by
 have hh:(w.setCell ⟨g,0,none⟩ v).heap=w.heap:=by
  apply Array.ext_getElem?
  intro k
  by_cases e:k=g
  ·subst e
   exact (h.set_ 0 v).trans h.symm
  ·exact Below.heap_setCell w ⟨g,0,none⟩ v k e
 show ({ w with heap:=(w.setCell ⟨g,0,none⟩ v).heap }:World)=w
 rw [hh]
theorem conv_any {l n:Nat} {P:Program} {md:Region.Mode} {ops:Array Oper} {Q:Exit→Act→World→Prop} (hd:∀ (i:Nat) o,ops[i]?=some o→∀ c,o.op≠.defer c) :
  ∀ (fuel:Nat) (listed:Array Bool) (a:Act) (w:World),wpAnyIn Fence.wide n P md ops Q fuel listed a w→wpAnyIn (Fence.wide.inRound l) n P md ops Q fuel listed a w
 | 0,_,_,_,h=>h
 | fuel+1,listed,a,w,h=>by
  refine ⟨h.1,fun i hi=>?_⟩
  have h2:=wpOpIn_mono (K':=wpAnyIn (Fence.wide.inRound l) n P md ops Q fuel (listed.setIfInBounds i true)) (fun a' w' h'=>conv_any (l:=l) hd fuel (listed.setIfInBounds i true) a' w' h') (h.2 i hi)
  unfold wpOpIn at h2 ⊢
  cases ho:ops[i]? with
  | none=>simp only [ho] at h2 ⊢;exact h2
  | some o =>
   simp only [ho] at h2 ⊢
   split
   ·rename_i hw
    rw [if_pos hw] at h2
    refine ⟨fun _ _=>trivial,?_⟩
    have h3:=h2.2
    rw [Oper.semAt_eq _ _ _ (hd i o ho)] at h3 ⊢
    exact h3
   ·rename_i hw
    rw [if_neg hw] at h2
    exact h2
theorem rr_take {n:Nat} {P:Program} {md:Region.Mode} {ops:Array Oper} {Q:Exit→Act→World→Prop} {fuel:Nat} {listed:Array Bool} {a:Act} {w:World} (i d:Nat) (v:Value) {oi:Oper} (hi:ops[i]?=some oi) (hd:oi.dst=some d)
  (hs:Region.noSelect ops=true) (hf:Region.free md ops listed i=true) (hr:(Region.ready md ops listed).contains i=true) (hQ:∀ c a w,Q (.panic c) (a.put oi.dst v) w→Q (.panic c) a w) (hy:YieldsFenced P ops oi v a)
  (h:wpAnyIn Fence.wide n P md ops Q fuel (listed.setIfInBounds i true) { tmps:=a.tmps.setIfInBounds d v,defers:=a.defers } w):wpAnyIn Fence.wide n P md ops Q (fuel+1) listed a w :=
 wpAnyIn_take rfl hi hs hf hr hQ hy (by rw [hd];exact h)
theorem prX_at {w0 W wr W2:World} {s:ByteArray} {pre:List ByteArray} {E P:Int} {a:Nat} (hI:PrI w0 s pre W) (hsz:w0.heap.size+9≤W.heap.size) (hb:Below W.heap.size W wr) (hb2:Below wr.heap.size wr W2) (h1:1≤E) (h2:E≤13) (hP:P=(a:Int)) (hr:rangeR s=.inl (E,a)) :
  Fr (prX w0.heap.size) W ((W2.alloc (.cells #[.int .i64 E,.int .i64 P] 185)).setCell ⟨w0.heap.size+1,0,none⟩ (.iface 183 (.pointer (some ⟨W2.heap.size,0,none⟩)))) ∧
  PrX w0 s ((W2.alloc (.cells #[.int .i64 E,.int .i64 P] 185)).setCell ⟨w0.heap.size+1,0,none⟩ (.iface 183 (.pointer (some ⟨W2.heap.size,0,none⟩)))):=by
 subst hP
 have hB:=hb.trans (hb2.mono hb.size)
 have hB2:=hB.alloc hB.size (.cells #[.int .i64 E,.int .i64 (a:Int)] 185)
 have hWW:=Nat.le_trans hsz hB.size
 have f0:Fr (prX w0.heap.size) W (W2.alloc (.cells #[.int .i64 E,.int .i64 (a:Int)] 185)):=.of_below hB2 (Nat.le_refl _)
 have f2:=f0.set_ (p:=⟨w0.heap.size+1,0,none⟩) (by show prX _ _;unfold prX;simp) (.iface 183 (.pointer (some ⟨W2.heap.size,0,none⟩)))
 have g2:=hI.b2.below hB2 hI.b2.lt
 have g3:=hI.b3.below hB2 hI.b3.lt
 have hat:=Blk.new W2 185 #[.int .i64 E,.int .i64 (a:Int)]
 have bel:=(hI.bel.trans (hB2.mono hI.bel.size)).setCell (p:=⟨w0.heap.size+1,0,none⟩) (by show w0.heap.size≤w0.heap.size+1;omega) (.iface 183 (.pointer (some ⟨W2.heap.size,0,none⟩)))
 refine ⟨f2,g2.far (by show w0.heap.size≠w0.heap.size+1;omega) _,⟨_,(E,a),g3.set_ 0 _,?_,?_,by show E≠0;omega,hr⟩,bel⟩
 ·refine .inr (.inr ⟨W2.heap.size,?_,h1,h2,by show (0:Int)≤(a:Int);omega,rfl,?_⟩)
  ·simp [World.setCell]
  ·exact hat.far (by show W2.heap.size≠w0.heap.size+1;omega) _
 ·intro b e
  injection e with _ e
  injection e with e
  injection e with e
  injection e with e
  omega
theorem prI_next {w0 W wr w3:World} {s:ByteArray} {pre r:List ByteArray} {x:ByteArray} {v4 v5:Value} {out acc:List (Nat×Nat)} {a0:Nat} (hI:PrI w0 s pre W) (hsz:w0.heap.size+9≤W.heap.size) (hb:Below W.heap.size W wr) (hb3:Below wr.heap.size wr w3) (ho:OwnP w3 wr.heap.size v5 (orC out acc))
  (h2:Blk W (w0.heap.size+2) 88 #[v4]) (h3:Blk W (w0.heap.size+3) 3 #[.int .i64 (a0:Int)]) (hc:CanF 0 (orC out acc)) (ha:a0≤2000*pre.length) (hx:x.size≤1000) (hpx:pre++x :: r=pieL ⟨#[124,124]⟩ s) (hr:resT r (a0+x.size+2) (orC out acc)=rangeR s) :
  Fr (prX w0.heap.size) W ((w3.setCell ⟨w0.heap.size+2,0,none⟩ v5).setCell ⟨w0.heap.size+3,0,none⟩ (.int .i64 ((a0:Int)+((x.size:Int)+2)))) ∧
  PrI w0 s (pre++[x]) ((w3.setCell ⟨w0.heap.size+2,0,none⟩ v5).setCell ⟨w0.heap.size+3,0,none⟩ (.int .i64 ((a0:Int)+((x.size:Int)+2)))):=by
 have hB:=hb.trans (hb3.mono hb.size)
 have f0:Fr (prX w0.heap.size) W w3:=.of_below hB (Nat.le_refl _)
 have f2:=(f0.set_ (p:=⟨w0.heap.size+2,0,none⟩) (by show prX _ _;unfold prX;simp) v5).set_ (p:=⟨w0.heap.size+3,0,none⟩) (by show prX _ _;unfold prX;simp) (.int .i64 ((a0:Int)+((x.size:Int)+2)))
 have g0:=hI.b2.below hB hI.b2.lt
 have g1:=hI.b3.below hB hI.b3.lt
 have g2:=h2.below hB h2.lt
 have g3:=h3.below hB h3.lt
 have bel:=((hI.bel.trans (hB.mono hI.bel.size)).setCell (p:=⟨w0.heap.size+2,0,none⟩) (by show w0.heap.size≤w0.heap.size+2;omega) v5).setCell (p:=⟨w0.heap.size+3,0,none⟩) (by show w0.heap.size≤w0.heap.size+3;omega) (.int .i64 ((a0:Int)+((x.size:Int)+2)))
 have hbz:=hb.size
 have fo:Fr (fun k=>k=w0.heap.size+2∨k=w0.heap.size+3) w3 ((w3.setCell ⟨w0.heap.size+2,0,none⟩ v5).setCell ⟨w0.heap.size+3,0,none⟩ (.int .i64 ((a0:Int)+((x.size:Int)+2)))):=((Fr.refl _ w3).set_ (p:=⟨w0.heap.size+2,0,none⟩) (.inl rfl) v5).set_ (p:=⟨w0.heap.size+3,0,none⟩) (.inr rfl) _
 refine ⟨f2,g0.fr fo (by omega),g1.fr fo (by omega),⟨v5,orC out acc,a0+x.size+2,((g2.set_ 0 v5).far (by show w0.heap.size+2≠w0.heap.size+3;omega) _),(ho.fr fo (fun k hk=>by omega)).mono (by omega),?_,hc,?_,?_⟩,bel⟩
 ·have:=(g3.far (p:=⟨w0.heap.size+2,0,none⟩) (by show w0.heap.size+3≠w0.heap.size+2;omega) v5).set_ 0 (.int .i64 ((a0:Int)+((x.size:Int)+2)))
  rw [show ((a0+x.size+2:Nat):Int)=(a0:Int)+((x.size:Int)+2) by omega]
  exact this
 ·rw [List.length_append,List.length_singleton];omega
 ·rw [show barL s=pieL ⟨#[124,124]⟩ s from rfl,←hpx,show pre++x :: r=(pre++[x])++r by simp,List.drop_left]
  exact hr
theorem prI_keep {w0 W wr w3:World} {v4:Value} {a0:Nat} (h2:Blk W (w0.heap.size+2) 88 #[v4]) (h3:Blk W (w0.heap.size+3) 3 #[.int .i64 (a0:Int)]) (hb:Below W.heap.size W wr) (hb3:Below wr.heap.size wr w3) (v5:Value) :
  w3.cell? ⟨w0.heap.size+2,0,none⟩=some v4∧w3.frozen? ⟨w0.heap.size+2,0,none⟩=false∧(w3.setCell ⟨w0.heap.size+2,0,none⟩ v5).cell? ⟨w0.heap.size+3,0,none⟩=some (.int .i64 (a0:Int))∧(w3.setCell ⟨w0.heap.size+2,0,none⟩ v5).frozen? ⟨w0.heap.size+3,0,none⟩=false:=by
 have hB:=hb.trans (hb3.mono hb.size)
 have g2:=h2.below hB h2.lt
 have g3:=(h3.below hB h3.lt).far (p:=⟨w0.heap.size+2,0,none⟩) (by show w0.heap.size+3≠w0.heap.size+2;omega) v5
 exact ⟨g2.cell 0,g2.frozen 0,g3.cell 0,g3.frozen 0⟩
set_option maxHeartbeats 8000000 in
theorem spParse_any (s:ByteArray) (w:World) (hG:GlobV w) (hs:s.size≤21000):Calls Tryz.prog 128 #[.string s] w (SpParseP s w):=by
 have HG:=hide hG
 refine (callsIn_wide (n:=4)).1 ?_
 refine callsIn_of_wp_marks Tryz.func128 rfl trivial ?_ rfl
 simp only [Tryz.ntmps128,List.size_toArray,List.length_cons,List.length_nil,Nat.reduceAdd,Nat.reduceSub,Array.replicate_succ,Array.replicate_zero,List.push_toArray,List.append_toArray,List.nil_append,List.cons_append]
 by_cases hl:1000<s.size
 ·have hz:(s.size:Int) > 1000:=by omega
  have n0:=((Blk.new w 88 #[.slice none 0 0]).alloc (.cells #[.iface 41 (.int .i64 4)] 37)).cell 0
  have n1:=(Blk.new (w.alloc (.cells #[.slice none 0 0] 88)) 37 #[.iface 41 (.int .i64 4)]).cell 0
  rw [World.size_alloc] at n1
  gi_wp2
  exact ⟨.tuple #[.agg #[.slice none 0 0],.iface 41 (.int .i64 4)],by simp [results,Tryz.f128,go_sem,n0,n1],.inl ⟨_,(4,-1),by rw [if_pos hl],by decide,rfl,.inr (.inl ⟨rfl,by decide,by decide,rfl⟩),((Below.refl w.heap.size w).alloc (Nat.le_refl _) _).alloc (by simp) _⟩⟩
 ·have hz:¬(s.size:Int) > 1000:=by omega
  gi_wp2_with (refine ⟨trivial,?_⟩;gi_at_call 91;refine (callsIn_wide.2 (splitSeqO_any s ⟨#[124,124]⟩ _)).mono ?_;rintro e w9 ⟨rfl,rfl⟩)
  have b0:Below w.heap.size w (w.alloc (.cells #[.slice none 0 0] 88)):=(Below.refl w.heap.size w).alloc (Nat.le_refl _) _
  have k0:=Blk.new w 88 #[.slice none 0 0]
  have z0:(w.alloc (.cells #[.slice none 0 0] 88)).heap.size=w.heap.size+1:=by simp
  generalize w.alloc (.cells #[.slice none 0 0] 88)=W0 at b0 k0 z0 ⊢
  have b1:=b0.alloc b0.size (.cells #[.nilIface] 37)
  have k1:=Blk.new W0 37 #[.nilIface]
  have k0:=k0.alloc (.cells #[.nilIface] 37)
  have z1:(W0.alloc (.cells #[.nilIface] 37)).heap.size=w.heap.size+2:=by simp [z0]
  rw [z0] at k1
  generalize W0.alloc (.cells #[.nilIface] 37)=W1 at b1 k1 k0 z1 ⊢
  have b2:=b1.alloc b1.size (.cells #[.slice none 0 0] 88)
  have k2:=Blk.new W1 88 #[.slice none 0 0]
  have k0:=k0.alloc (.cells #[.slice none 0 0] 88)
  have k1:=k1.alloc (.cells #[.slice none 0 0] 88)
  have z2:(W1.alloc (.cells #[.slice none 0 0] 88)).heap.size=w.heap.size+3:=by simp [z1]
  rw [z1] at k2
  generalize W1.alloc (.cells #[.slice none 0 0] 88)=W2 at b2 k2 k1 k0 z2 ⊢
  have b3:=b2.alloc b2.size (.cells #[.int .i64 0] 3)
  have k3:=Blk.new W2 3 #[.int .i64 0]
  have k0:=k0.alloc (.cells #[.int .i64 0] 3)
  have k1:=k1.alloc (.cells #[.int .i64 0] 3)
  have k2:=k2.alloc (.cells #[.int .i64 0] 3)
  have z3:(W2.alloc (.cells #[.int .i64 0] 3)).heap.size=w.heap.size+4:=by simp [z2]
  rw [z2] at k3
  generalize W2.alloc (.cells #[.int .i64 0] 3)=W3 at b3 k3 k2 k1 k0 z3 ⊢
  have b4:=b3.alloc b3.size (.cells #[.string s] 9)
  have k4:=Blk.new W3 9 #[.string s]
  have k0:=k0.alloc (.cells #[.string s] 9)
  have k1:=k1.alloc (.cells #[.string s] 9)
  have k2:=k2.alloc (.cells #[.string s] 9)
  have k3:=k3.alloc (.cells #[.string s] 9)
  have z4:(W3.alloc (.cells #[.string s] 9)).heap.size=w.heap.size+5:=by simp [z3]
  rw [z3] at k4
  generalize W3.alloc (.cells #[.string s] 9)=W4 at b4 k4 k3 k2 k1 k0 z4 ⊢
  have b5:=b4.alloc b4.size (.cells #[.string ⟨#[124,124]⟩] 9)
  have k5:=Blk.new W4 9 #[.string ⟨#[124,124]⟩]
  have k0:=k0.alloc (.cells #[.string ⟨#[124,124]⟩] 9)
  have k1:=k1.alloc (.cells #[.string ⟨#[124,124]⟩] 9)
  have k2:=k2.alloc (.cells #[.string ⟨#[124,124]⟩] 9)
  have k3:=k3.alloc (.cells #[.string ⟨#[124,124]⟩] 9)
  have k4:=k4.alloc (.cells #[.string ⟨#[124,124]⟩] 9)
  have z5:(W4.alloc (.cells #[.string ⟨#[124,124]⟩] 9)).heap.size=w.heap.size+6:=by simp [z4]
  rw [z4] at k5
  generalize W4.alloc (.cells #[.string ⟨#[124,124]⟩] 9)=W5 at b5 k5 k4 k3 k2 k1 k0 z5 ⊢
  have b6:=b5.alloc b5.size (.cells #[.int .i64 0] 3)
  have k6:=Blk.new W5 3 #[.int .i64 0]
  have k0:=k0.alloc (.cells #[.int .i64 0] 3)
  have k1:=k1.alloc (.cells #[.int .i64 0] 3)
  have k2:=k2.alloc (.cells #[.int .i64 0] 3)
  have k3:=k3.alloc (.cells #[.int .i64 0] 3)
  have k4:=k4.alloc (.cells #[.int .i64 0] 3)
  have k5:=k5.alloc (.cells #[.int .i64 0] 3)
  have z6:(W5.alloc (.cells #[.int .i64 0] 3)).heap.size=w.heap.size+7:=by simp [z5]
  rw [z5] at k6
  generalize W5.alloc (.cells #[.int .i64 0] 3)=W6 at b6 k6 k5 k4 k3 k2 k1 k0 z6 ⊢
  clear b0 b1 b2 b3 b4 b5 z0 z1 z2 z3 z4 z5
  simp only [Nat.add_assoc,Nat.reduceAdd]
  have h0:PrI w s [] W6:=⟨k0,k1,⟨_,[],0,k2,ownP_nil _ _,k3,trivial,by omega,rfl⟩,b6⟩
  refine wpIn_splitSeq (n:=4) (w.heap.size+5) (w.heap.size+4) (w.heap.size+6) s ⟨#[124,124]⟩ rfl (by decide) (by omega) (by omega) k5 k4 k6 (by omega) (by omega) rfl (prX w.heap.size) (fun k hk=>by unfold prX at hk;omega)
   (PrI w s) (fun _=>PrX w s) (fun pre A B h hf=>h.fr (by rw [z6] at hf;exact hf)) (fun pre A B h hf=>h.fr (by rw [z6] at hf;exact hf)) (fun pre A h=>HG.out.below h.bel) h0
   (fun x=>{ tmps:=#[.string s,undef,.pointer (some ⟨w.heap.size,0,none⟩),.pointer (some ⟨w.heap.size+1,0,none⟩),.pointer (some ⟨w.heap.size+2,0,none⟩),.pointer (some ⟨w.heap.size+3,0,none⟩),.string x,undef,undef,undef,undef,undef,undef,.string s,.int .i64 (s.size:Int),.bool false,undef,undef,.string s,.func (.func 191) #[] #[.pointer (some ⟨w.heap.size+5,0,none⟩),.pointer (some ⟨w.heap.size+4,0,none⟩),.pointer (some ⟨w.heap.size+6,0,none⟩)],.string x,undef,undef,undef,undef,undef,undef,undef,undef,undef,undef,undef,undef,undef,undef,undef,undef,undef,undef,undef,undef,undef,undef,undef,undef,undef,undef,undef,undef,undef,undef,undef,undef,undef,undef,undef,undef,undef,undef,undef,undef,undef,undef,undef,undef,undef,undef,undef,undef,undef,undef,undef,undef,undef,undef,undef,undef,undef,undef,undef,undef,undef,undef,undef,undef,undef,undef,undef,undef],defers:=[] }) ?assign ?body ?done ?stop
  case assign =>
   intro l x W K hK
   gi_wp2
   exact hK
  case body =>
   intro l pre x r W hI hpx hsz
   obtain ⟨v4,out,a0,q1,q2,q3,q4,q5,q6⟩:=hI.is
   have hmem:x∈barL s:=by rw [show barL s=pieL ⟨#[124,124]⟩ s from rfl,←hpx];exact List.mem_append_right _ (List.mem_cons_self ..)
   have hps:=bar_le hmem
   have hdr:(barL s).drop pre.length=x :: r:=by rw [show barL s=pieL ⟨#[124,124]⟩ s from rfl,←hpx,List.drop_left]
   have hbl:(barL s).length≤2000:=by
    have h1:(barL s).length=Lib.countB s barS+1:=Lib.splitB_all barS (by decide) 0 _ s rfl
    have h2:=Lib.count_le s.data.toList [124,124]
    have h3:Lib.countB s barS=Lib.count s.data.toList [124,124]:=rfl
    have h4:s.data.toList.length=s.size:=rfl
    omega
   have hpl:pre.length<2000:=by
    have:(barL s).length=pre.length+(r.length+1):=by rw [show barL s=pieL ⟨#[124,124]⟩ s from rfl,←hpx];simp
    omega
   rw [hdr] at q6
   have HQ6:=Lib.hid q6
   have ha0:a0≤4000000:=by omega
   have hx1:x.size≤1000:=by omega
   have HI:=hide hI
   have HQ1:=hide q1
   have HQ2:=hide q2
   have HQ3:=hide q3
   have HQ4:=Lib.hid q4
   have HQ5:=Lib.hid q5
   have HSZ:=Lib.hid hsz
   have HGW:=hide (HG.out.below hI.bel)
   clear q1 q2 q3 q4 q5 q6 hdr hbl hpl hps hmem hI hsz h0 k0 k1 k2 k3 k4 k5 k6 b6 hs hG hz
   gi_wp2_with (refine ⟨trivial,?_⟩;gi_at_call 177;refine (CallsIn.inRound l (callsIn_wide.2 (any_any _))).mono ?_;rintro e wa ⟨v7,rfl,ho7,hb7⟩;obtain ⟨A7,c7,rfl⟩:=ho7.len;have HO7:=hide ho7;have HB7:=hide hb7;clear ho7 hb7)
   have HST:=hide (show PrB W x a0 wa.heap.size 0 0 (wa.alloc (.cells #[.slice A7 anyC.length c7] 88)) from ⟨⟨_,anyC,Blk.new wa _ _,HO7.out.below ((Below.refl _ _).alloc (Nat.le_refl _) _),any_can,by rw [List.drop_zero,←pcL_spW];rfl⟩,HB7.out.alloc HB7.out.size _,HB7.out.size⟩)
   generalize wa.heap.size=br at HST ⊢
   generalize (wa.alloc (.cells #[.slice A7 anyC.length c7] 88))=wb at HST ⊢
   clear HO7 HB7
   have HZ6:=Lib.hid z6
   have HPX:=Lib.hid hpx
   clear z6 hpx
   gi_loopw [8,9] (fun v8 v9 wr=>∃ i wd:Nat,i≤x.size∧wd≤i∧v8=.int .i64 wd∧v9=.int .i64 i∧Hid (PrB W x a0 br i wd wr)) (fun _ v9 _=>x.size-(intOf v9).toNat)
   case atStart=>exact ⟨0,0,by omega,by omega,rfl,rfl,HST⟩
   case round =>
    clear HST
    obtain ⟨i,wd,hi,hwd,rfl,rfl,HM⟩:=hrel
    by_cases hlt:i<x.size
    ·have hltz:(i:Int)<(x.size:Int):=by omega
     by_cases hbk:x[i]=32
     ·have hb:((x[i].toNat:Int)==32)=true:=by rw [hbk];rfl
      have HN:=hide (HM.out.blank hlt hbk)
      clear hbk HM
      gi_wp2
      go_roundw
      case rel=>exact ⟨i+1,wd,by omega,by omega,rfl,by go_num,HN⟩
      case measure=>simp [intOf];omega
     ·have hb:((x[i].toNat:Int)==32)=false:=b32_ne hbk
      have HNB:=Lib.hid hbk
      clear hbk
      gi_wp2
      gi_loopw [10] (fun v10 w2=>∃ k:Nat,i≤k∧k≤x.size∧v10=.int .i64 k∧w2=wr∧Hid (∀ j,(hj:j<x.size)→i≤j→j<k→x[j]≠32)) (fun v10 _=>x.size-(intOf v10).toNat)
      case atStart=>exact ⟨i,Nat.le_refl _,by omega,rfl,rfl,Lib.hid (fun j _ h1 h2=>by omega)⟩
      case round =>
       obtain ⟨k,hik,hkx,rfl,hw2,HK⟩:=hrel
       have hw3:=hw2.symm
       subst hw3
       clear hw2
       by_cases hgo:k<x.size∧(∀ h:k<x.size,x[k]≠32)
       ·obtain ⟨hkl,hnk⟩:=hgo
        have hnk:=hnk hkl
        have hkz:(k:Int)<(x.size:Int):=by omega
        have hb2:((x[k].toNat:Int)==32)=false:=b32_ne hnk
        have HK2:=Lib.hid (show ∀ j,(hj:j<x.size)→i≤j→j<k+1→x[j]≠32 from fun j hj h1 h2=>by
         rcases Nat.lt_or_ge j k with h | h
         ·exact HK.out j hj h1 h
         ·obtain rfl:j=k:=by omega
          exact hnk)
        clear hnk
        gi_wp2
        go_round
        case rel=>exact ⟨k+1,by omega,by omega,by go_num,trivial,HK2⟩
        case measure=>simp [intOf];omega
       ·have hik2:i<k:=by
         rcases Nat.lt_or_ge i k with h | h
         ·exact h
         ·obtain rfl:i=k:=by omega
          exact absurd ⟨hlt,fun _=>HNB.out⟩ hgo
        have hend:k=x.size∨∃ h:k<x.size,x[k]=32:=by
         rcases Nat.lt_or_ge k x.size with h | h
         ·right
          refine ⟨h,?_⟩
          rcases Decidable.em (x[k]=32) with e | e
          ·exact e
          ·exact absurd ⟨h,fun _=>e⟩ hgo
         ·left;omega
        obtain ⟨d1,d2,d3,d4,d5⟩:=word_cut x hik2 hkx HK.out hend
        have hwd9:=fun hxs=>word_any (x.extract i k) wr (HGW.out.below HM.out.bel) hxs
        unfold WordP at hwd9
        generalize (x.extract i k).data.toList=Q at d1 d2 d3 d4 d5 hwd9
        have HD1:=Lib.hid d1
        have HD2:=Lib.hid d2
        have HD3:=Lib.hid d3
        have HD4:=Lib.hid d4
        have HD5:=Lib.hid d5
        have hxs:(x.extract i k).size≤1000:=by rw [ByteArray.size_extract];omega
        have HWD:=hide (hwd9 hxs)
        have hkz0:(i:Int)≤(k:Int):=by omega
        have hkz1:(k:Int)≤(x.size:Int):=by omega
        clear d1 d2 d3 d4 d5 hgo HK HNB hb hxs hwd9
        obtain ⟨va,acc,p1,p2,p3,p4⟩:=HM.out.is
        obtain ⟨Aa,ca,ea⟩:=p2.len
        subst ea
        have HP1:=hide p1
        have HP2:=hide p2
        have HP3:=Lib.hid p3
        have HP4:=Lib.hid p4
        clear p1 p2 p3 p4
        by_cases hE:wordE Q=0
        ·rcases hend with he | ⟨hkl,hk32⟩
         ·subst he
          have hkn:¬(x.size:Int)<(x.size:Int):=by omega
          gi_wp2_with fail
          refine ⟨trivial,?_⟩
          refine (CallsIn.inRound l (callsIn_wide.2 HWD.out)).mono ?_
          rintro e w2 ⟨vq,er,rfl,her,hown,_,hb2⟩
          rw [hE] at her
          obtain rfl:=isErr_no her
          have ho:=hown hE
          obtain ⟨A2,c2,e2⟩:=ho.len
          subst e2
          have b2:=hb2.alloc hb2.size (.cells #[.slice A2 (wordC Q).length c2] 88)
          have HB2:=hide b2
          have y0:=(HP1.out.below b2 HP1.out.lt).cell 0
          have y1:=(Blk.new w2 88 #[.slice A2 (wordC Q).length c2]).cell 0
          have HAN:=hide (and_any _ _ acc (wordC Q) (w2.alloc (.cells #[.slice A2 (wordC Q).length c2] 88)) ((HP2.out.below b2).mono (Nat.zero_le _)) ((ho.below ((Below.refl _ _).alloc (Nat.le_refl _) _)).mono (Nat.zero_le _)) HP3.out (wordC_can hE))
          clear her hown ho b2 hb2 HWD
          gi_wp2_with fail
          refine ⟨trivial,?_⟩
          refine (CallsIn.inRound l (callsIn_wide.2 HAN.out)).mono ?_
          rintro e w3 ⟨v5,rfl,ho5,hb5⟩
          have HN:=hide (PrB.word (wd:=wd) HM.out.ge HP1.out HM.out.bel HP4.out HP3.out hik2 HD1.out HD2.out HD3.out HD4.out HD5.out hE HB2.out hb5 ho5)
          obtain ⟨A5,c5,e5⟩:=ho5.len
          subst e5
          have y3:=((HP1.out.below HB2.out HP1.out.lt).below hb5 (Nat.lt_of_lt_of_le HP1.out.lt HB2.out.size)).cell 0
          have f3:=((HP1.out.below HB2.out HP1.out.lt).below hb5 (Nat.lt_of_lt_of_le HP1.out.lt HB2.out.size)).frozen 0
          clear ho5 hb5 HAN y0 y1
          gi_wp2
          go_roundw
          case rel=>exact ⟨x.size,wd+1,by omega,by omega,by go_num,rfl,HN⟩
          case measure=>simp [intOf];omega
         ·have hkz2:(k:Int)<(x.size:Int):=by omega
          have hb2:((x[k].toNat:Int)==32)=true:=by rw [hk32];rfl
          clear hk32
          gi_wp2_with fail
          refine ⟨trivial,?_⟩
          refine (CallsIn.inRound l (callsIn_wide.2 HWD.out)).mono ?_
          rintro e w2 ⟨vq,er,rfl,her,hown,_,hb2⟩
          rw [hE] at her
          obtain rfl:=isErr_no her
          have ho:=hown hE
          obtain ⟨A2,c2,e2⟩:=ho.len
          subst e2
          have b2:=hb2.alloc hb2.size (.cells #[.slice A2 (wordC Q).length c2] 88)
          have HB2:=hide b2
          have y0:=(HP1.out.below b2 HP1.out.lt).cell 0
          have y1:=(Blk.new w2 88 #[.slice A2 (wordC Q).length c2]).cell 0
          have HAN:=hide (and_any _ _ acc (wordC Q) (w2.alloc (.cells #[.slice A2 (wordC Q).length c2] 88)) ((HP2.out.below b2).mono (Nat.zero_le _)) ((ho.below ((Below.refl _ _).alloc (Nat.le_refl _) _)).mono (Nat.zero_le _)) HP3.out (wordC_can hE))
          clear her hown ho b2 hb2 HWD
          gi_wp2_with fail
          refine ⟨trivial,?_⟩
          refine (CallsIn.inRound l (callsIn_wide.2 HAN.out)).mono ?_
          rintro e w3 ⟨v5,rfl,ho5,hb5⟩
          have HN:=hide (PrB.word (wd:=wd) HM.out.ge HP1.out HM.out.bel HP4.out HP3.out hik2 HD1.out HD2.out HD3.out HD4.out HD5.out hE HB2.out hb5 ho5)
          obtain ⟨A5,c5,e5⟩:=ho5.len
          subst e5
          have y3:=((HP1.out.below HB2.out HP1.out.lt).below hb5 (Nat.lt_of_lt_of_le HP1.out.lt HB2.out.size)).cell 0
          have f3:=((HP1.out.below HB2.out HP1.out.lt).below hb5 (Nat.lt_of_lt_of_le HP1.out.lt HB2.out.size)).frozen 0
          clear ho5 hb5 HAN y0 y1
          gi_wp2
          go_roundw
          case rel=>exact ⟨k,wd+1,by omega,by omega,by go_num,rfl,HN⟩
          case measure=>simp [intOf];omega
        ·have HPR:=Lib.hid (show rangeR s=.inl (wordE Q,a0+i) by
          have h9:=HP4.out
          rw [HD1.out,resW_fault _ _ _ _ HD2.out HD3.out HD5.out hE] at h9
          exact HQ6.out.symm.trans (resT_bad r out h9.symm))
         have HT:=Lib.hid (fun (E:Int) (u:World) (hb:Below wr.heap.size wr u)=>tell_errno E u (HGW.out.below (HM.out.bel.trans (hb.mono HM.out.bel.size))).e)
         unfold TellPost at HT
         have HBX:=hide (HQ3.out)
         generalize wordE Q=E at hE HWD HPR
         rcases hend with he | ⟨hkl,hk32⟩
         ·subst he
          have hkn:¬(x.size:Int)<(x.size:Int):=by omega
          gi_wp2_with fail
          refine ⟨trivial,?_⟩
          refine (CallsIn.inRound l (callsIn_wide.2 HWD.out)).mono ?_
          rintro e w2 ⟨vq,er,rfl,her,_,hnil,hb2⟩
          obtain rfl:=hnil hE
          obtain ⟨e9,hE1,hE2⟩:=isErr_num her hE
          subst e9
          have b2:=hb2.alloc hb2.size (.cells #[.slice none 0 0] 88)
          have HB2:=hide b2
          have y5:=(HBX.out.below (HM.out.bel.trans (b2.mono HM.out.bel.size)) HBX.out.lt).cell 0
          clear her hnil b2 hb2 HWD
          have hmx:Tryz.prog.follows .mixedOrders=true:=by kernel_rfl
          gi_wp2_with fail
          have HKP:=Lib.hid (fun (u:World) (hb:Below (w2.alloc (.cells #[.slice none 0 0] 88)).heap.size (w2.alloc (.cells #[.slice none 0 0] 88)) u)=>prX_keep HI.out HBX.out (HM.out.bel.trans (HB2.out.mono HM.out.bel.size)) hb)
          have HT4:=Lib.hid (fun (u:World) (hb:Below (w2.alloc (.cells #[.slice none 0 0] 88)).heap.size (w2.alloc (.cells #[.slice none 0 0] 88)) u)=>HT.out E u (HB2.out.trans (hb.mono HB2.out.size)))
          have HN4:=Lib.hid (fun (u:World) (hb:Below (w2.alloc (.cells #[.slice none 0 0] 88)).heap.size (w2.alloc (.cells #[.slice none 0 0] 88)) u)=>HI.out.b2.below ((HM.out.bel.trans (HB2.out.mono HM.out.bel.size)).trans (hb.mono (HM.out.bel.trans (HB2.out.mono HM.out.bel.size)).size)) HI.out.b2.lt)
          generalize (w2.alloc (.cells #[.slice none 0 0] 88))=w4 at HB2 HKP HT4 HN4 y5 ⊢
          obtain ⟨x5,x0,x1,g0,g1,_,_,lt4⟩:=HKP.out w4 (Below.refl _ _)
          have ha0z:0≤(a0:Int):=by omega
          have ha1z:(a0:Int)≤4000000:=by omega
          have hiz:(i:Int)≤1000:=by omega
          have s1:IntKind.i64.wrap ((a0:Int)+(i:Int))=(a0:Int)+(i:Int):=IntWalk.i64_in _ (by omega)
          clear y5
          have HFIN:=Lib.hid (fun (u:World) (hb:Below w4.heap.size w4 u)=>prX_at HI.out (by have:=HSZ.out;rw [HZ6.out] at this;exact this) (HM.out.bel.trans (HB2.out.mono HM.out.bel.size)) hb hE1 hE2 (show (a0:Int)+(i:Int)=((a0+i:Nat):Int) by omega) HPR.out)
          have HKS:=Lib.hid (fun (u:World) (hb:Below w4.heap.size w4 u)=>setCell_self (HN4.out u hb))
          refine wpIn_region_any hmx ?_
          refine conv_any (fun i o ho c e=>by rcases (show i=0∨i=1∨i=2∨i=3∨i=4∨i=5∨i=6∨i=7∨i=8∨i=9∨i=10∨11≤i by omega) with rfl | rfl | rfl | rfl | rfl | rfl | rfl | rfl | rfl | rfl | rfl | h9 <;> first | (injection ho with ho;subst ho;cases e) | (rw [Array.getElem?_eq_none (by simpa using h9)] at ho;cases ho)) _ _ _ _ ?_
          change wpAnyIn _ _ _ _ _ _ _ _ _ (World.drew _)
          refine rr_take (fuel:=10) 0 55 (.agg #[.slice none 0 0]) rfl rfl (by kernel_rfl) (by kernel_rfl) (by kernel_rfl) (fun _ _ _ h=>h) ⟨Or.inl ⟨by rfl,fun w9=>by go_simp⟩,fun _=>rfl⟩ ?_
          simp only [List.setIfInBounds_toArray,List.set_cons_zero,List.set_cons_succ]
          refine rr_take (fuel:=9) 1 56 (.iface 41 (.int .i64 E)) rfl rfl (by kernel_rfl) (by kernel_rfl) (by kernel_rfl) (fun _ _ _ h=>h) ⟨Or.inl ⟨by rfl,fun w9=>by go_simp⟩,fun _=>rfl⟩ ?_
          simp only [List.setIfInBounds_toArray,List.set_cons_zero,List.set_cons_succ]
          refine rr_take (fuel:=8) 4 59 (.int .i64 (i:Int)) rfl rfl (by kernel_rfl) (by kernel_rfl) (by kernel_rfl) (fun _ _ _ h=>h) ⟨Or.inl ⟨by rfl,fun w9=>by go_simp⟩,fun _=>rfl⟩ ?_
          simp only [List.setIfInBounds_toArray,List.set_cons_zero,List.set_cons_succ]
          refine wpAnyIn_ready (rs:=[2,3]) (fuel:=7) (by kernel_rfl) (by simp) ?_
          refine AllReadyIn.cons rfl (fun K hK=>?_) ?_
          ·go_simp
           gi_wp2_with (refine ⟨trivial,?_⟩;gi_at_call 92;refine (callsIn_wide.2 (HT4.out _ ?_)).mono ?_;(focus (first | exact (Below.refl _ _).drew | exact Below.refl _ _));rintro e w5 ⟨rfl,hb5⟩;obtain ⟨x5,x0,x1,g0,g1,_,_,lt5⟩:=HKP.out w5 (by first | exact (Below.refl w4.heap.size w4).drew.trans hb5 | exact hb5);have HB5:=hide (show Below w4.heap.size w4 w5 by first | exact (Below.refl w4.heap.size w4).drew.trans hb5 | exact hb5);obtain ⟨_,z0,z1,h0,h1,_,_,lt6⟩:=HKP.out (w5.alloc (.cells #[.int .i64 E,.int .i64 ((a0:Int)+(i:Int))] 185)) (HB5.out.alloc HB5.out.size _);have e1:=HKS.out w5 HB5.out;have e2:=HKS.out (w5.alloc (.cells #[.int .i64 E,.int .i64 ((a0:Int)+(i:Int))] 185)) (HB5.out.alloc HB5.out.size _);clear hb5)
           refine wpAnyIn_ready (rs:=[3,9]) (fuel:=6) (by kernel_rfl) (by simp) ?_
           refine AllReadyIn.cons rfl (fun K hK=>?_) ?_
           ·go_simp
            refine hK _ _ ?_
            clear hK K
            refine rr_take (fuel:=5) 5 60 (.int .i64 ((a0:Int)+(i:Int))) rfl rfl (by kernel_rfl) (by kernel_rfl) (by kernel_rfl) (fun _ _ _ h=>h) ⟨Or.inl ⟨by rfl,fun w9=>by go_simp⟩,fun _=>rfl⟩ ?_
            simp only [List.setIfInBounds_toArray,List.set_cons_zero,List.set_cons_succ]
            refine rr_take (fuel:=4) 6 61 (.agg #[.int .i64 E,.int .i64 ((a0:Int)+(i:Int))]) rfl rfl (by kernel_rfl) (by kernel_rfl) (by kernel_rfl) (fun _ _ _ h=>h) ⟨Or.inl ⟨by rfl,fun w9=>by go_simp⟩,fun _=>rfl⟩ ?_
            simp only [List.setIfInBounds_toArray,List.set_cons_zero,List.set_cons_succ]
            refine wpAnyIn_ready (rs:=[7,9]) (fuel:=3) (by kernel_rfl) (by simp) ?_
            refine AllReadyIn.cons rfl (fun K hK=>?_) ?_
            ·go_simp
             refine hK _ _ ?_
             clear hK K
             refine rr_take (fuel:=2) 8 63 (.iface 183 (.pointer (some ⟨w5.heap.size,0,none⟩))) rfl rfl (by kernel_rfl) (by kernel_rfl) (by kernel_rfl) (fun _ _ _ h=>h) ⟨Or.inl ⟨by rfl,fun w9=>by go_simp⟩,fun _=>rfl⟩ ?_
             simp only [List.setIfInBounds_toArray,List.set_cons_zero,List.set_cons_succ]
             refine wpAnyIn_ready (rs:=[9]) (fuel:=1) (by kernel_rfl) (by simp) ?_
             refine AllReadyIn.cons rfl (fun K hK=>?_) ?_
             ·go_simp
              refine hK _ _ ?_
              clear hK K
              refine wpAnyIn_ready (rs:=[10]) (fuel:=0) (by kernel_rfl) (by simp) ?_
              refine AllReadyIn.cons rfl (fun K hK=>?_) ?_
              ·go_simp
               refine hK _ _ ?_
               clear hK K
               refine wpAnyIn_done (by kernel_rfl) ?_ _
               gi_wp2
               exact HFIN.out w5 HB5.out
              exact AllReadyIn.nil
             exact AllReadyIn.nil
            refine AllReadyIn.cons rfl (fun K hK=>?_) ?_
            ·go_simp
             refine hK _ _ ?_
             clear hK K
             refine wpAnyIn_ready (rs:=[7]) (fuel:=2) (by kernel_rfl) (by simp) ?_
             refine AllReadyIn.cons rfl (fun K hK=>?_) ?_
             ·go_simp
              refine hK _ _ ?_
              clear hK K
              refine rr_take (fuel:=1) 8 63 (.iface 183 (.pointer (some ⟨w5.heap.size,0,none⟩))) rfl rfl (by kernel_rfl) (by kernel_rfl) (by kernel_rfl) (fun _ _ _ h=>h) ⟨Or.inl ⟨by rfl,fun w9=>by go_simp⟩,fun _=>rfl⟩ ?_
              simp only [List.setIfInBounds_toArray,List.set_cons_zero,List.set_cons_succ]
              refine wpAnyIn_ready (rs:=[10]) (fuel:=0) (by kernel_rfl) (by simp) ?_
              refine AllReadyIn.cons rfl (fun K hK=>?_) ?_
              ·go_simp
               refine hK _ _ ?_
               clear hK K
               refine wpAnyIn_done (by kernel_rfl) ?_ _
               gi_wp2
               exact HFIN.out w5 HB5.out
              exact AllReadyIn.nil
             exact AllReadyIn.nil
            exact AllReadyIn.nil
           refine AllReadyIn.cons rfl (fun K hK=>?_) ?_
           ·go_simp
            refine hK _ _ ?_
            clear hK K
            refine wpAnyIn_ready (rs:=[3]) (fuel:=5) (by kernel_rfl) (by simp) ?_
            refine AllReadyIn.cons rfl (fun K hK=>?_) ?_
            ·go_simp
             refine hK _ _ ?_
             clear hK K
             refine rr_take (fuel:=4) 5 60 (.int .i64 ((a0:Int)+(i:Int))) rfl rfl (by kernel_rfl) (by kernel_rfl) (by kernel_rfl) (fun _ _ _ h=>h) ⟨Or.inl ⟨by rfl,fun w9=>by go_simp⟩,fun _=>rfl⟩ ?_
             simp only [List.setIfInBounds_toArray,List.set_cons_zero,List.set_cons_succ]
             refine rr_take (fuel:=3) 6 61 (.agg #[.int .i64 E,.int .i64 ((a0:Int)+(i:Int))]) rfl rfl (by kernel_rfl) (by kernel_rfl) (by kernel_rfl) (fun _ _ _ h=>h) ⟨Or.inl ⟨by rfl,fun w9=>by go_simp⟩,fun _=>rfl⟩ ?_
             simp only [List.setIfInBounds_toArray,List.set_cons_zero,List.set_cons_succ]
             refine wpAnyIn_ready (rs:=[7]) (fuel:=2) (by kernel_rfl) (by simp) ?_
             refine AllReadyIn.cons rfl (fun K hK=>?_) ?_
             ·go_simp
              refine hK _ _ ?_
              clear hK K
              refine rr_take (fuel:=1) 8 63 (.iface 183 (.pointer (some ⟨w5.heap.size,0,none⟩))) rfl rfl (by kernel_rfl) (by kernel_rfl) (by kernel_rfl) (fun _ _ _ h=>h) ⟨Or.inl ⟨by rfl,fun w9=>by go_simp⟩,fun _=>rfl⟩ ?_
              simp only [List.setIfInBounds_toArray,List.set_cons_zero,List.set_cons_succ]
              refine wpAnyIn_ready (rs:=[10]) (fuel:=0) (by kernel_rfl) (by simp) ?_
              refine AllReadyIn.cons rfl (fun K hK=>?_) ?_
              ·go_simp
               refine hK _ _ ?_
               clear hK K
               refine wpAnyIn_done (by kernel_rfl) ?_ _
               gi_wp2
               exact HFIN.out w5 HB5.out
              exact AllReadyIn.nil
             exact AllReadyIn.nil
            exact AllReadyIn.nil
           exact AllReadyIn.nil
          refine AllReadyIn.cons rfl (fun K hK=>?_) ?_
          ·go_simp
           refine hK _ _ ?_
           clear hK K
           refine rr_take (fuel:=6) 5 60 (.int .i64 ((a0:Int)+(i:Int))) rfl rfl (by kernel_rfl) (by kernel_rfl) (by kernel_rfl) (fun _ _ _ h=>h) ⟨Or.inl ⟨by rfl,fun w9=>by go_simp⟩,fun _=>rfl⟩ ?_
           simp only [List.setIfInBounds_toArray,List.set_cons_zero,List.set_cons_succ]
           refine wpAnyIn_ready (rs:=[2]) (fuel:=5) (by kernel_rfl) (by simp) ?_
           refine AllReadyIn.cons rfl (fun K hK=>?_) ?_
           ·go_simp
            gi_wp2_with (refine ⟨trivial,?_⟩;gi_at_call 92;refine (callsIn_wide.2 (HT4.out _ ?_)).mono ?_;(focus (first | exact (Below.refl _ _).drew | exact Below.refl _ _));rintro e w5 ⟨rfl,hb5⟩;obtain ⟨x5,x0,x1,g0,g1,_,_,lt5⟩:=HKP.out w5 (by first | exact (Below.refl w4.heap.size w4).drew.trans hb5 | exact hb5);have HB5:=hide (show Below w4.heap.size w4 w5 by first | exact (Below.refl w4.heap.size w4).drew.trans hb5 | exact hb5);obtain ⟨_,z0,z1,h0,h1,_,_,lt6⟩:=HKP.out (w5.alloc (.cells #[.int .i64 E,.int .i64 ((a0:Int)+(i:Int))] 185)) (HB5.out.alloc HB5.out.size _);have e1:=HKS.out w5 HB5.out;have e2:=HKS.out (w5.alloc (.cells #[.int .i64 E,.int .i64 ((a0:Int)+(i:Int))] 185)) (HB5.out.alloc HB5.out.size _);clear hb5)
            refine rr_take (fuel:=4) 6 61 (.agg #[.int .i64 E,.int .i64 ((a0:Int)+(i:Int))]) rfl rfl (by kernel_rfl) (by kernel_rfl) (by kernel_rfl) (fun _ _ _ h=>h) ⟨Or.inl ⟨by rfl,fun w9=>by go_simp⟩,fun _=>rfl⟩ ?_
            simp only [List.setIfInBounds_toArray,List.set_cons_zero,List.set_cons_succ]
            refine wpAnyIn_ready (rs:=[7,9]) (fuel:=3) (by kernel_rfl) (by simp) ?_
            refine AllReadyIn.cons rfl (fun K hK=>?_) ?_
            ·go_simp
             refine hK _ _ ?_
             clear hK K
             refine rr_take (fuel:=2) 8 63 (.iface 183 (.pointer (some ⟨w5.heap.size,0,none⟩))) rfl rfl (by kernel_rfl) (by kernel_rfl) (by kernel_rfl) (fun _ _ _ h=>h) ⟨Or.inl ⟨by rfl,fun w9=>by go_simp⟩,fun _=>rfl⟩ ?_
             simp only [List.setIfInBounds_toArray,List.set_cons_zero,List.set_cons_succ]
             refine wpAnyIn_ready (rs:=[9]) (fuel:=1) (by kernel_rfl) (by simp) ?_
             refine AllReadyIn.cons rfl (fun K hK=>?_) ?_
             ·go_simp
              refine hK _ _ ?_
              clear hK K
              refine wpAnyIn_ready (rs:=[10]) (fuel:=0) (by kernel_rfl) (by simp) ?_
              refine AllReadyIn.cons rfl (fun K hK=>?_) ?_
              ·go_simp
               refine hK _ _ ?_
               clear hK K
               refine wpAnyIn_done (by kernel_rfl) ?_ _
               gi_wp2
               exact HFIN.out w5 HB5.out
              exact AllReadyIn.nil
             exact AllReadyIn.nil
            refine AllReadyIn.cons rfl (fun K hK=>?_) ?_
            ·go_simp
             refine hK _ _ ?_
             clear hK K
             refine wpAnyIn_ready (rs:=[7]) (fuel:=2) (by kernel_rfl) (by simp) ?_
             refine AllReadyIn.cons rfl (fun K hK=>?_) ?_
             ·go_simp
              refine hK _ _ ?_
              clear hK K
              refine rr_take (fuel:=1) 8 63 (.iface 183 (.pointer (some ⟨w5.heap.size,0,none⟩))) rfl rfl (by kernel_rfl) (by kernel_rfl) (by kernel_rfl) (fun _ _ _ h=>h) ⟨Or.inl ⟨by rfl,fun w9=>by go_simp⟩,fun _=>rfl⟩ ?_
              simp only [List.setIfInBounds_toArray,List.set_cons_zero,List.set_cons_succ]
              refine wpAnyIn_ready (rs:=[10]) (fuel:=0) (by kernel_rfl) (by simp) ?_
              refine AllReadyIn.cons rfl (fun K hK=>?_) ?_
              ·go_simp
               refine hK _ _ ?_
               clear hK K
               refine wpAnyIn_done (by kernel_rfl) ?_ _
               gi_wp2
               exact HFIN.out w5 HB5.out
              exact AllReadyIn.nil
             exact AllReadyIn.nil
            exact AllReadyIn.nil
           exact AllReadyIn.nil
          exact AllReadyIn.nil
         ·have hkz2:(k:Int)<(x.size:Int):=by omega
          have hb2:((x[k].toNat:Int)==32)=true:=by rw [hk32];rfl
          clear hk32
          gi_wp2_with fail
          refine ⟨trivial,?_⟩
          refine (CallsIn.inRound l (callsIn_wide.2 HWD.out)).mono ?_
          rintro e w2 ⟨vq,er,rfl,her,_,hnil,hb2⟩
          obtain rfl:=hnil hE
          obtain ⟨e9,hE1,hE2⟩:=isErr_num her hE
          subst e9
          have b2:=hb2.alloc hb2.size (.cells #[.slice none 0 0] 88)
          have HB2:=hide b2
          have y5:=(HBX.out.below (HM.out.bel.trans (b2.mono HM.out.bel.size)) HBX.out.lt).cell 0
          clear her hnil b2 hb2 HWD
          have hmx:Tryz.prog.follows .mixedOrders=true:=by kernel_rfl
          gi_wp2_with fail
          have HKP:=Lib.hid (fun (u:World) (hb:Below (w2.alloc (.cells #[.slice none 0 0] 88)).heap.size (w2.alloc (.cells #[.slice none 0 0] 88)) u)=>prX_keep HI.out HBX.out (HM.out.bel.trans (HB2.out.mono HM.out.bel.size)) hb)
          have HT4:=Lib.hid (fun (u:World) (hb:Below (w2.alloc (.cells #[.slice none 0 0] 88)).heap.size (w2.alloc (.cells #[.slice none 0 0] 88)) u)=>HT.out E u (HB2.out.trans (hb.mono HB2.out.size)))
          have HN4:=Lib.hid (fun (u:World) (hb:Below (w2.alloc (.cells #[.slice none 0 0] 88)).heap.size (w2.alloc (.cells #[.slice none 0 0] 88)) u)=>HI.out.b2.below ((HM.out.bel.trans (HB2.out.mono HM.out.bel.size)).trans (hb.mono (HM.out.bel.trans (HB2.out.mono HM.out.bel.size)).size)) HI.out.b2.lt)
          generalize (w2.alloc (.cells #[.slice none 0 0] 88))=w4 at HB2 HKP HT4 HN4 y5 ⊢
          obtain ⟨x5,x0,x1,g0,g1,_,_,lt4⟩:=HKP.out w4 (Below.refl _ _)
          have ha0z:0≤(a0:Int):=by omega
          have ha1z:(a0:Int)≤4000000:=by omega
          have hiz:(i:Int)≤1000:=by omega
          have s1:IntKind.i64.wrap ((a0:Int)+(i:Int))=(a0:Int)+(i:Int):=IntWalk.i64_in _ (by omega)
          clear y5
          have HFIN:=Lib.hid (fun (u:World) (hb:Below w4.heap.size w4 u)=>prX_at HI.out (by have:=HSZ.out;rw [HZ6.out] at this;exact this) (HM.out.bel.trans (HB2.out.mono HM.out.bel.size)) hb hE1 hE2 (show (a0:Int)+(i:Int)=((a0+i:Nat):Int) by omega) HPR.out)
          have HKS:=Lib.hid (fun (u:World) (hb:Below w4.heap.size w4 u)=>setCell_self (HN4.out u hb))
          refine wpIn_region_any hmx ?_
          refine conv_any (fun i o ho c e=>by rcases (show i=0∨i=1∨i=2∨i=3∨i=4∨i=5∨i=6∨i=7∨i=8∨i=9∨i=10∨11≤i by omega) with rfl | rfl | rfl | rfl | rfl | rfl | rfl | rfl | rfl | rfl | rfl | h9 <;> first | (injection ho with ho;subst ho;cases e) | (rw [Array.getElem?_eq_none (by simpa using h9)] at ho;cases ho)) _ _ _ _ ?_
          change wpAnyIn _ _ _ _ _ _ _ _ _ (World.drew _)
          refine rr_take (fuel:=10) 0 55 (.agg #[.slice none 0 0]) rfl rfl (by kernel_rfl) (by kernel_rfl) (by kernel_rfl) (fun _ _ _ h=>h) ⟨Or.inl ⟨by rfl,fun w9=>by go_simp⟩,fun _=>rfl⟩ ?_
          simp only [List.setIfInBounds_toArray,List.set_cons_zero,List.set_cons_succ]
          refine rr_take (fuel:=9) 1 56 (.iface 41 (.int .i64 E)) rfl rfl (by kernel_rfl) (by kernel_rfl) (by kernel_rfl) (fun _ _ _ h=>h) ⟨Or.inl ⟨by rfl,fun w9=>by go_simp⟩,fun _=>rfl⟩ ?_
          simp only [List.setIfInBounds_toArray,List.set_cons_zero,List.set_cons_succ]
          refine rr_take (fuel:=8) 4 59 (.int .i64 (i:Int)) rfl rfl (by kernel_rfl) (by kernel_rfl) (by kernel_rfl) (fun _ _ _ h=>h) ⟨Or.inl ⟨by rfl,fun w9=>by go_simp⟩,fun _=>rfl⟩ ?_
          simp only [List.setIfInBounds_toArray,List.set_cons_zero,List.set_cons_succ]
          refine wpAnyIn_ready (rs:=[2,3]) (fuel:=7) (by kernel_rfl) (by simp) ?_
          refine AllReadyIn.cons rfl (fun K hK=>?_) ?_
          ·go_simp
           gi_wp2_with (refine ⟨trivial,?_⟩;gi_at_call 92;refine (callsIn_wide.2 (HT4.out _ ?_)).mono ?_;(focus (first | exact (Below.refl _ _).drew | exact Below.refl _ _));rintro e w5 ⟨rfl,hb5⟩;obtain ⟨x5,x0,x1,g0,g1,_,_,lt5⟩:=HKP.out w5 (by first | exact (Below.refl w4.heap.size w4).drew.trans hb5 | exact hb5);have HB5:=hide (show Below w4.heap.size w4 w5 by first | exact (Below.refl w4.heap.size w4).drew.trans hb5 | exact hb5);obtain ⟨_,z0,z1,h0,h1,_,_,lt6⟩:=HKP.out (w5.alloc (.cells #[.int .i64 E,.int .i64 ((a0:Int)+(i:Int))] 185)) (HB5.out.alloc HB5.out.size _);have e1:=HKS.out w5 HB5.out;have e2:=HKS.out (w5.alloc (.cells #[.int .i64 E,.int .i64 ((a0:Int)+(i:Int))] 185)) (HB5.out.alloc HB5.out.size _);clear hb5)
           refine wpAnyIn_ready (rs:=[3,9]) (fuel:=6) (by kernel_rfl) (by simp) ?_
           refine AllReadyIn.cons rfl (fun K hK=>?_) ?_
           ·go_simp
            refine hK _ _ ?_
            clear hK K
            refine rr_take (fuel:=5) 5 60 (.int .i64 ((a0:Int)+(i:Int))) rfl rfl (by kernel_rfl) (by kernel_rfl) (by kernel_rfl) (fun _ _ _ h=>h) ⟨Or.inl ⟨by rfl,fun w9=>by go_simp⟩,fun _=>rfl⟩ ?_
            simp only [List.setIfInBounds_toArray,List.set_cons_zero,List.set_cons_succ]
            refine rr_take (fuel:=4) 6 61 (.agg #[.int .i64 E,.int .i64 ((a0:Int)+(i:Int))]) rfl rfl (by kernel_rfl) (by kernel_rfl) (by kernel_rfl) (fun _ _ _ h=>h) ⟨Or.inl ⟨by rfl,fun w9=>by go_simp⟩,fun _=>rfl⟩ ?_
            simp only [List.setIfInBounds_toArray,List.set_cons_zero,List.set_cons_succ]
            refine wpAnyIn_ready (rs:=[7,9]) (fuel:=3) (by kernel_rfl) (by simp) ?_
            refine AllReadyIn.cons rfl (fun K hK=>?_) ?_
            ·go_simp
             refine hK _ _ ?_
             clear hK K
             refine rr_take (fuel:=2) 8 63 (.iface 183 (.pointer (some ⟨w5.heap.size,0,none⟩))) rfl rfl (by kernel_rfl) (by kernel_rfl) (by kernel_rfl) (fun _ _ _ h=>h) ⟨Or.inl ⟨by rfl,fun w9=>by go_simp⟩,fun _=>rfl⟩ ?_
             simp only [List.setIfInBounds_toArray,List.set_cons_zero,List.set_cons_succ]
             refine wpAnyIn_ready (rs:=[9]) (fuel:=1) (by kernel_rfl) (by simp) ?_
             refine AllReadyIn.cons rfl (fun K hK=>?_) ?_
             ·go_simp
              refine hK _ _ ?_
              clear hK K
              refine wpAnyIn_ready (rs:=[10]) (fuel:=0) (by kernel_rfl) (by simp) ?_
              refine AllReadyIn.cons rfl (fun K hK=>?_) ?_
              ·go_simp
               refine hK _ _ ?_
               clear hK K
               refine wpAnyIn_done (by kernel_rfl) ?_ _
               gi_wp2
               exact HFIN.out w5 HB5.out
              exact AllReadyIn.nil
             exact AllReadyIn.nil
            refine AllReadyIn.cons rfl (fun K hK=>?_) ?_
            ·go_simp
             refine hK _ _ ?_
             clear hK K
             refine wpAnyIn_ready (rs:=[7]) (fuel:=2) (by kernel_rfl) (by simp) ?_
             refine AllReadyIn.cons rfl (fun K hK=>?_) ?_
             ·go_simp
              refine hK _ _ ?_
              clear hK K
              refine rr_take (fuel:=1) 8 63 (.iface 183 (.pointer (some ⟨w5.heap.size,0,none⟩))) rfl rfl (by kernel_rfl) (by kernel_rfl) (by kernel_rfl) (fun _ _ _ h=>h) ⟨Or.inl ⟨by rfl,fun w9=>by go_simp⟩,fun _=>rfl⟩ ?_
              simp only [List.setIfInBounds_toArray,List.set_cons_zero,List.set_cons_succ]
              refine wpAnyIn_ready (rs:=[10]) (fuel:=0) (by kernel_rfl) (by simp) ?_
              refine AllReadyIn.cons rfl (fun K hK=>?_) ?_
              ·go_simp
               refine hK _ _ ?_
               clear hK K
               refine wpAnyIn_done (by kernel_rfl) ?_ _
               gi_wp2
               exact HFIN.out w5 HB5.out
              exact AllReadyIn.nil
             exact AllReadyIn.nil
            exact AllReadyIn.nil
           refine AllReadyIn.cons rfl (fun K hK=>?_) ?_
           ·go_simp
            refine hK _ _ ?_
            clear hK K
            refine wpAnyIn_ready (rs:=[3]) (fuel:=5) (by kernel_rfl) (by simp) ?_
            refine AllReadyIn.cons rfl (fun K hK=>?_) ?_
            ·go_simp
             refine hK _ _ ?_
             clear hK K
             refine rr_take (fuel:=4) 5 60 (.int .i64 ((a0:Int)+(i:Int))) rfl rfl (by kernel_rfl) (by kernel_rfl) (by kernel_rfl) (fun _ _ _ h=>h) ⟨Or.inl ⟨by rfl,fun w9=>by go_simp⟩,fun _=>rfl⟩ ?_
             simp only [List.setIfInBounds_toArray,List.set_cons_zero,List.set_cons_succ]
             refine rr_take (fuel:=3) 6 61 (.agg #[.int .i64 E,.int .i64 ((a0:Int)+(i:Int))]) rfl rfl (by kernel_rfl) (by kernel_rfl) (by kernel_rfl) (fun _ _ _ h=>h) ⟨Or.inl ⟨by rfl,fun w9=>by go_simp⟩,fun _=>rfl⟩ ?_
             simp only [List.setIfInBounds_toArray,List.set_cons_zero,List.set_cons_succ]
             refine wpAnyIn_ready (rs:=[7]) (fuel:=2) (by kernel_rfl) (by simp) ?_
             refine AllReadyIn.cons rfl (fun K hK=>?_) ?_
             ·go_simp
              refine hK _ _ ?_
              clear hK K
              refine rr_take (fuel:=1) 8 63 (.iface 183 (.pointer (some ⟨w5.heap.size,0,none⟩))) rfl rfl (by kernel_rfl) (by kernel_rfl) (by kernel_rfl) (fun _ _ _ h=>h) ⟨Or.inl ⟨by rfl,fun w9=>by go_simp⟩,fun _=>rfl⟩ ?_
              simp only [List.setIfInBounds_toArray,List.set_cons_zero,List.set_cons_succ]
              refine wpAnyIn_ready (rs:=[10]) (fuel:=0) (by kernel_rfl) (by simp) ?_
              refine AllReadyIn.cons rfl (fun K hK=>?_) ?_
              ·go_simp
               refine hK _ _ ?_
               clear hK K
               refine wpAnyIn_done (by kernel_rfl) ?_ _
               gi_wp2
               exact HFIN.out w5 HB5.out
              exact AllReadyIn.nil
             exact AllReadyIn.nil
            exact AllReadyIn.nil
           exact AllReadyIn.nil
          refine AllReadyIn.cons rfl (fun K hK=>?_) ?_
          ·go_simp
           refine hK _ _ ?_
           clear hK K
           refine rr_take (fuel:=6) 5 60 (.int .i64 ((a0:Int)+(i:Int))) rfl rfl (by kernel_rfl) (by kernel_rfl) (by kernel_rfl) (fun _ _ _ h=>h) ⟨Or.inl ⟨by rfl,fun w9=>by go_simp⟩,fun _=>rfl⟩ ?_
           simp only [List.setIfInBounds_toArray,List.set_cons_zero,List.set_cons_succ]
           refine wpAnyIn_ready (rs:=[2]) (fuel:=5) (by kernel_rfl) (by simp) ?_
           refine AllReadyIn.cons rfl (fun K hK=>?_) ?_
           ·go_simp
            gi_wp2_with (refine ⟨trivial,?_⟩;gi_at_call 92;refine (callsIn_wide.2 (HT4.out _ ?_)).mono ?_;(focus (first | exact (Below.refl _ _).drew | exact Below.refl _ _));rintro e w5 ⟨rfl,hb5⟩;obtain ⟨x5,x0,x1,g0,g1,_,_,lt5⟩:=HKP.out w5 (by first | exact (Below.refl w4.heap.size w4).drew.trans hb5 | exact hb5);have HB5:=hide (show Below w4.heap.size w4 w5 by first | exact (Below.refl w4.heap.size w4).drew.trans hb5 | exact hb5);obtain ⟨_,z0,z1,h0,h1,_,_,lt6⟩:=HKP.out (w5.alloc (.cells #[.int .i64 E,.int .i64 ((a0:Int)+(i:Int))] 185)) (HB5.out.alloc HB5.out.size _);have e1:=HKS.out w5 HB5.out;have e2:=HKS.out (w5.alloc (.cells #[.int .i64 E,.int .i64 ((a0:Int)+(i:Int))] 185)) (HB5.out.alloc HB5.out.size _);clear hb5)
            refine rr_take (fuel:=4) 6 61 (.agg #[.int .i64 E,.int .i64 ((a0:Int)+(i:Int))]) rfl rfl (by kernel_rfl) (by kernel_rfl) (by kernel_rfl) (fun _ _ _ h=>h) ⟨Or.inl ⟨by rfl,fun w9=>by go_simp⟩,fun _=>rfl⟩ ?_
            simp only [List.setIfInBounds_toArray,List.set_cons_zero,List.set_cons_succ]
            refine wpAnyIn_ready (rs:=[7,9]) (fuel:=3) (by kernel_rfl) (by simp) ?_
            refine AllReadyIn.cons rfl (fun K hK=>?_) ?_
            ·go_simp
             refine hK _ _ ?_
             clear hK K
             refine rr_take (fuel:=2) 8 63 (.iface 183 (.pointer (some ⟨w5.heap.size,0,none⟩))) rfl rfl (by kernel_rfl) (by kernel_rfl) (by kernel_rfl) (fun _ _ _ h=>h) ⟨Or.inl ⟨by rfl,fun w9=>by go_simp⟩,fun _=>rfl⟩ ?_
             simp only [List.setIfInBounds_toArray,List.set_cons_zero,List.set_cons_succ]
             refine wpAnyIn_ready (rs:=[9]) (fuel:=1) (by kernel_rfl) (by simp) ?_
             refine AllReadyIn.cons rfl (fun K hK=>?_) ?_
             ·go_simp
              refine hK _ _ ?_
              clear hK K
              refine wpAnyIn_ready (rs:=[10]) (fuel:=0) (by kernel_rfl) (by simp) ?_
              refine AllReadyIn.cons rfl (fun K hK=>?_) ?_
              ·go_simp
               refine hK _ _ ?_
               clear hK K
               refine wpAnyIn_done (by kernel_rfl) ?_ _
               gi_wp2
               exact HFIN.out w5 HB5.out
              exact AllReadyIn.nil
             exact AllReadyIn.nil
            refine AllReadyIn.cons rfl (fun K hK=>?_) ?_
            ·go_simp
             refine hK _ _ ?_
             clear hK K
             refine wpAnyIn_ready (rs:=[7]) (fuel:=2) (by kernel_rfl) (by simp) ?_
             refine AllReadyIn.cons rfl (fun K hK=>?_) ?_
             ·go_simp
              refine hK _ _ ?_
              clear hK K
              refine rr_take (fuel:=1) 8 63 (.iface 183 (.pointer (some ⟨w5.heap.size,0,none⟩))) rfl rfl (by kernel_rfl) (by kernel_rfl) (by kernel_rfl) (fun _ _ _ h=>h) ⟨Or.inl ⟨by rfl,fun w9=>by go_simp⟩,fun _=>rfl⟩ ?_
              simp only [List.setIfInBounds_toArray,List.set_cons_zero,List.set_cons_succ]
              refine wpAnyIn_ready (rs:=[10]) (fuel:=0) (by kernel_rfl) (by simp) ?_
              refine AllReadyIn.cons rfl (fun K hK=>?_) ?_
              ·go_simp
               refine hK _ _ ?_
               clear hK K
               refine wpAnyIn_done (by kernel_rfl) ?_ _
               gi_wp2
               exact HFIN.out w5 HB5.out
              exact AllReadyIn.nil
             exact AllReadyIn.nil
            exact AllReadyIn.nil
           exact AllReadyIn.nil
          exact AllReadyIn.nil
    ·obtain rfl:i=x.size:=by omega
     have hltz:¬(x.size:Int)<(x.size:Int):=by omega
     obtain ⟨va,acc,p1,p2,p3,p4⟩:=HM.out.is
     rw [show x.data.toList.drop x.size=[] from List.drop_eq_nil_of_le (show x.size≤x.size from Nat.le_refl _),resW_end] at p4
     obtain ⟨Aa,ca,ea⟩:=p2.len
     subst ea
     rcases Nat.eq_zero_or_pos wd with hw0 | hw0
     ·subst hw0
      have HPR:=Lib.hid (show rangeR s=.inl (3,a0+x.size) from HQ6.out.symm.trans (resT_none r out p4.symm))
      have hmx:Tryz.prog.follows .mixedOrders=true:=by kernel_rfl
      clear p1 p2 p3 p4
      gi_wp2_with fail
      have HKP:=Lib.hid (fun (u:World) (hb:Below wr.heap.size wr u)=>prX_keep HI.out HQ3.out HM.out.bel hb)
      have HN4:=Lib.hid (fun (u:World) (hb:Below wr.heap.size wr u)=>HI.out.b2.below (HM.out.bel.trans (hb.mono HM.out.bel.size)) HI.out.b2.lt)
      have HKS:=Lib.hid (fun (u:World) (hb:Below wr.heap.size wr u)=>setCell_self (HN4.out u hb))
      have HB4:=hide (show Below wr.heap.size wr wr.drew from (Below.refl _ _).drew)
      refine wpIn_region_any hmx ?_
      refine conv_any (fun i o ho c e=>by rcases (show i=0∨i=1∨i=2∨i=3∨i=4∨i=5∨i=6∨i=7∨i=8∨i=9∨10≤i by omega) with rfl | rfl | rfl | rfl | rfl | rfl | rfl | rfl | rfl | rfl | h9 <;> first | (injection ho with ho;subst ho;cases e) | (rw [Array.getElem?_eq_none (by simpa using h9)] at ho;cases ho)) _ _ _ _ ?_
      change wpAnyIn _ _ _ _ _ _ _ _ _ (World.drew _)
      generalize wr.drew=w4 at HB4 ⊢
      obtain ⟨x5,x0,x1,g0,g1,_,_,lt4⟩:=HKP.out w4 HB4.out
      obtain ⟨_,z0,z1,h0,h1,_,_,lt6⟩:=HKP.out (w4.alloc (.cells #[.int .i64 3,.int .i64 ((a0:Int)+(x.size:Int))] 185)) (HB4.out.alloc HB4.out.size _)
      have e1:=HKS.out w4 HB4.out
      have e2:=HKS.out (w4.alloc (.cells #[.int .i64 3,.int .i64 ((a0:Int)+(x.size:Int))] 185)) (HB4.out.alloc HB4.out.size _)
      have HFIN:=Lib.hid (prX_at HI.out (by have:=HSZ.out;rw [HZ6.out] at this;exact this) HM.out.bel HB4.out (show (1:Int)≤3 by decide) (show (3:Int)≤13 by decide) (show (a0:Int)+(x.size:Int)=((a0+x.size:Nat):Int) by omega) HPR.out)
      have ha0z:0≤(a0:Int):=by omega
      have ha1z:(a0:Int)≤4000000:=by omega
      have hxz:(x.size:Int)≤1000:=by omega
      have s1:IntKind.i64.wrap ((a0:Int)+(x.size:Int))=(a0:Int)+(x.size:Int):=IntWalk.i64_in _ (by omega)
      refine rr_take (fuel:=9) 0 72 (.agg #[.slice none 0 0]) rfl rfl (by kernel_rfl) (by kernel_rfl) (by kernel_rfl) (fun _ _ _ h=>h) ⟨Or.inl ⟨by rfl,fun w9=>by go_simp⟩,fun _=>rfl⟩ ?_
      simp only [List.setIfInBounds_toArray,List.set_cons_zero,List.set_cons_succ]
      refine rr_take (fuel:=8) 2 74 (.string x) rfl rfl (by kernel_rfl) (by kernel_rfl) (by kernel_rfl) (fun _ _ _ h=>h) ⟨Or.inl ⟨by rfl,fun w9=>by go_simp⟩,fun _=>rfl⟩ ?_
      simp only [List.setIfInBounds_toArray,List.set_cons_zero,List.set_cons_succ]
      refine rr_take (fuel:=7) 3 75 (.int .i64 (x.size:Int)) rfl rfl (by kernel_rfl) (by kernel_rfl) (by kernel_rfl) (fun _ _ _ h=>h) ⟨Or.inl ⟨by rfl,fun w9=>by go_simp⟩,fun _=>rfl⟩ ?_
      simp only [List.setIfInBounds_toArray,List.set_cons_zero,List.set_cons_succ]
      refine wpAnyIn_ready (rs:=[1,8]) (fuel:=6) (by kernel_rfl) (by simp) ?_
      refine AllReadyIn.cons rfl (fun K hK=>?_) ?_
      ·go_simp
       refine hK _ _ ?_
       clear hK K
       refine rr_take (fuel:=5) 4 76 (.int .i64 ((a0:Int)+(x.size:Int))) rfl rfl (by kernel_rfl) (by kernel_rfl) (by kernel_rfl) (fun _ _ _ h=>h) ⟨Or.inl ⟨by rfl,fun w9=>by go_simp⟩,fun _=>rfl⟩ ?_
       simp only [List.setIfInBounds_toArray,List.set_cons_zero,List.set_cons_succ]
       refine rr_take (fuel:=4) 5 77 (.agg #[.int .i64 3,.int .i64 ((a0:Int)+(x.size:Int))]) rfl rfl (by kernel_rfl) (by kernel_rfl) (by kernel_rfl) (fun _ _ _ h=>h) ⟨Or.inl ⟨by rfl,fun w9=>by go_simp⟩,fun _=>rfl⟩ ?_
       simp only [List.setIfInBounds_toArray,List.set_cons_zero,List.set_cons_succ]
       refine wpAnyIn_ready (rs:=[6,8]) (fuel:=3) (by kernel_rfl) (by simp) ?_
       refine AllReadyIn.cons rfl (fun K hK=>?_) ?_
       ·go_simp
        refine hK _ _ ?_
        clear hK K
        refine rr_take (fuel:=2) 7 79 (.iface 183 (.pointer (some ⟨w4.heap.size,0,none⟩))) rfl rfl (by kernel_rfl) (by kernel_rfl) (by kernel_rfl) (fun _ _ _ h=>h) ⟨Or.inl ⟨by rfl,fun w9=>by go_simp⟩,fun _=>rfl⟩ ?_
        simp only [List.setIfInBounds_toArray,List.set_cons_zero,List.set_cons_succ]
        refine wpAnyIn_ready (rs:=[8]) (fuel:=1) (by kernel_rfl) (by simp) ?_
        refine AllReadyIn.cons rfl (fun K hK=>?_) ?_
        ·go_simp
         refine hK _ _ ?_
         clear hK K
         refine wpAnyIn_ready (rs:=[9]) (fuel:=0) (by kernel_rfl) (by simp) ?_
         refine AllReadyIn.cons rfl (fun K hK=>?_) ?_
         ·go_simp
          refine hK _ _ ?_
          clear hK K
          refine wpAnyIn_done (by kernel_rfl) ?_ _
          gi_wp2
          exact HFIN.out
         exact AllReadyIn.nil
        exact AllReadyIn.nil
       refine AllReadyIn.cons rfl (fun K hK=>?_) ?_
       ·go_simp
        refine hK _ _ ?_
        clear hK K
        refine wpAnyIn_ready (rs:=[6]) (fuel:=2) (by kernel_rfl) (by simp) ?_
        refine AllReadyIn.cons rfl (fun K hK=>?_) ?_
        ·go_simp
         refine hK _ _ ?_
         clear hK K
         refine rr_take (fuel:=1) 7 79 (.iface 183 (.pointer (some ⟨w4.heap.size,0,none⟩))) rfl rfl (by kernel_rfl) (by kernel_rfl) (by kernel_rfl) (fun _ _ _ h=>h) ⟨Or.inl ⟨by rfl,fun w9=>by go_simp⟩,fun _=>rfl⟩ ?_
         simp only [List.setIfInBounds_toArray,List.set_cons_zero,List.set_cons_succ]
         refine wpAnyIn_ready (rs:=[9]) (fuel:=0) (by kernel_rfl) (by simp) ?_
         refine AllReadyIn.cons rfl (fun K hK=>?_) ?_
         ·go_simp
          refine hK _ _ ?_
          clear hK K
          refine wpAnyIn_done (by kernel_rfl) ?_ _
          gi_wp2
          exact HFIN.out
         exact AllReadyIn.nil
        exact AllReadyIn.nil
       exact AllReadyIn.nil
      refine AllReadyIn.cons rfl (fun K hK=>?_) ?_
      ·go_simp
       refine hK _ _ ?_
       clear hK K
       refine wpAnyIn_ready (rs:=[1]) (fuel:=5) (by kernel_rfl) (by simp) ?_
       refine AllReadyIn.cons rfl (fun K hK=>?_) ?_
       ·go_simp
        refine hK _ _ ?_
        clear hK K
        refine rr_take (fuel:=4) 4 76 (.int .i64 ((a0:Int)+(x.size:Int))) rfl rfl (by kernel_rfl) (by kernel_rfl) (by kernel_rfl) (fun _ _ _ h=>h) ⟨Or.inl ⟨by rfl,fun w9=>by go_simp⟩,fun _=>rfl⟩ ?_
        simp only [List.setIfInBounds_toArray,List.set_cons_zero,List.set_cons_succ]
        refine rr_take (fuel:=3) 5 77 (.agg #[.int .i64 3,.int .i64 ((a0:Int)+(x.size:Int))]) rfl rfl (by kernel_rfl) (by kernel_rfl) (by kernel_rfl) (fun _ _ _ h=>h) ⟨Or.inl ⟨by rfl,fun w9=>by go_simp⟩,fun _=>rfl⟩ ?_
        simp only [List.setIfInBounds_toArray,List.set_cons_zero,List.set_cons_succ]
        refine wpAnyIn_ready (rs:=[6]) (fuel:=2) (by kernel_rfl) (by simp) ?_
        refine AllReadyIn.cons rfl (fun K hK=>?_) ?_
        ·go_simp
         refine hK _ _ ?_
         clear hK K
         refine rr_take (fuel:=1) 7 79 (.iface 183 (.pointer (some ⟨w4.heap.size,0,none⟩))) rfl rfl (by kernel_rfl) (by kernel_rfl) (by kernel_rfl) (fun _ _ _ h=>h) ⟨Or.inl ⟨by rfl,fun w9=>by go_simp⟩,fun _=>rfl⟩ ?_
         simp only [List.setIfInBounds_toArray,List.set_cons_zero,List.set_cons_succ]
         refine wpAnyIn_ready (rs:=[9]) (fuel:=0) (by kernel_rfl) (by simp) ?_
         refine AllReadyIn.cons rfl (fun K hK=>?_) ?_
         ·go_simp
          refine hK _ _ ?_
          clear hK K
          refine wpAnyIn_done (by kernel_rfl) ?_ _
          gi_wp2
          exact HFIN.out
         exact AllReadyIn.nil
        exact AllReadyIn.nil
       exact AllReadyIn.nil
      exact AllReadyIn.nil
     ·have hwz:((wd:Int)==0)=false:=beq_eq_false_iff_ne.2 (by omega)
      rw [decide_eq_true hw0] at p4
      have HPR:=Lib.hid (show resT r (a0+x.size+2) (orC out acc)=rangeR s from (resT_good r out p4.symm).symm.trans HQ6.out)
      obtain ⟨A4,c4,e4⟩:=HQ2.out.len
      subst e4
      have HB:=hide HM.out.bel
      have y4:=(HQ1.out.below HB.out HQ1.out.lt).cell 0
      have y7:=p1.cell 0
      have HOR:=hide (or_any _ _ out acc wr ((HQ2.out.below HB.out).mono (Nat.zero_le _)) (p2.mono (Nat.zero_le _)) HQ4.out p3)
      have HAC:=Lib.hid p3
      have ha0z:0≤(a0:Int):=by omega
      have ha1z:(a0:Int)≤4000000:=by omega
      have hxz:(x.size:Int)≤1000:=by omega
      clear p1 p2 p3 p4 hw0
      gi_wp2_with fail
      refine ⟨trivial,?_⟩
      refine (CallsIn.inRound l (callsIn_wide.2 HOR.out)).mono ?_
      rintro e w3 ⟨v5,rfl,ho5,hb5⟩
      obtain ⟨A5,c5,e5⟩:=ho5.len
      subst e5
      have HFIN:=Lib.hid (prI_next HI.out (by have:=HSZ.out;rw [HZ6.out] at this;exact this) HB.out hb5 ho5 HQ1.out HQ3.out (or_spec HQ4.out HAC.out).1 HQ5.out hx1 HPX.out HPR.out)
      obtain ⟨x2,g2,x3,g3⟩:=prI_keep HQ1.out HQ3.out HB.out hb5 (.slice A5 (orC out acc).length c5)
      clear ho5 hb5 HOR y4 y7
      gi_wp2
      exact HFIN.out
  case done =>
   intro W hI hK
   obtain ⟨v,out,a,q1,q2,q3,q4,q5,q6⟩:=hI.is
   obtain ⟨A,c,rfl⟩:=q2.len
   have c4:=q1.cell 0
   have c0:=hI.b2.cell 0
   have c1:=hI.b3.cell 0
   have f0:=hI.b2.frozen 0
   have f1:=hI.b3.frozen 0
   have r1:=hI.b3.far (p:=⟨w.heap.size,0,none⟩) (by show w.heap.size+1≠w.heap.size;omega) (.slice A out.length c)
   have c1':=r1.cell 0
   have f1':=r1.frozen 0
   gi_wp2
   have hf:Fr (fun k=>k=w.heap.size∨k=w.heap.size+1) W ((W.setCell ⟨w.heap.size,0,none⟩ (.slice A out.length c)).setCell ⟨w.heap.size+1,0,none⟩ .nilIface):=((Fr.refl _ W).set_ (p:=⟨w.heap.size,0,none⟩) (.inl rfl) _).set_ (p:=⟨w.heap.size+1,0,none⟩) (.inr rfl) _
   have hlt:W6.heap.size<W.heap.size:=by
    rcases Nat.lt_or_ge W6.heap.size W.heap.size with h | h
    ·exact h
    ·rw [Array.getElem?_eq_none h] at hK;cases hK
   have hK':=(hf.block W6.heap.size hlt (by rw [z6];omega)).trans hK
   have hg:=fr_putObj (S:=fun k=>k=W6.heap.size) ((W.setCell ⟨w.heap.size,0,none⟩ (.slice A out.length c)).setCell ⟨w.heap.size+1,0,none⟩ .nilIface) (.deferred none) rfl
   have e0:=(((hI.b2.set_ 0 (.slice A out.length c)).far (p:=⟨w.heap.size+1,0,none⟩) (by show w.heap.size≠w.heap.size+1;omega) .nilIface).fr hg (by rw [z6];omega)).cell 0
   have e1:=((r1.set_ 0 .nilIface).fr hg (by rw [z6];omega)).cell 0
   refine ⟨by simp,.inl ⟨_,_,rfl,run_takeDeferred hK',?_⟩⟩
   rw [show pieL ⟨#[124,124]⟩ s=barL s from rfl,List.drop_length,resT_nil] at q6
   exact ⟨.tuple #[.agg #[.slice A out.length c],.nilIface],by simp [results,Tryz.f128,go_sem,e0,e1],.inr ⟨_,out,by omega,q6.symm,q4,rfl,((q2.fr hf (fun k hk=>by omega)).fr hg (fun k hk=>by rw [z6];omega)).mono (by omega),(hI.bel.trans (hf.to_below hI.bel.size (fun k hk=>by omega))).trans (hg.to_below (Nat.le_trans hI.bel.size hf.size) (fun k hk=>by rw [z6];omega))⟩⟩
  case stop =>
   intro pre W h hK
   obtain ⟨u,q,h1,h2,hb,h3,h4⟩:=h.is
   gi_wp2
   have hlt:W6.heap.size<W.heap.size:=by
    rcases Nat.lt_or_ge W6.heap.size W.heap.size with h | h
    ·exact h
    ·rw [Array.getElem?_eq_none h] at hK;cases hK
   have hg:=fr_putObj (S:=fun k=>k=W6.heap.size) W (.deferred none) rfl
   have hg2:Fr (fun k=>k=w.heap.size+4∨k=w.heap.size+7∨k=w.heap.size+7+1) W (W.putObj W6.heap.size (.deferred none)):=hg.mono fun k _ e=>.inr (.inl (by rw [e,z6]))
   have hX:=h.fr hg2
   have e0:=(h.b2.fr hg (by rw [z6];omega)).cell 0
   have e1:=(h1.fr hg (by rw [z6];omega)).cell 0
   have hu:IsErr (W.putObj W6.heap.size (.deferred none)) u (q.1,(q.2:Int)):=by
    rcases h2 with h2 | h2 | ⟨b,hl9,e1,e2,e3,e4,e5⟩
    ·exact .inl h2
    ·exact .inr (.inl h2)
    ·have:=hb b e4
     exact .inr (.inr ⟨b,Nat.lt_of_lt_of_le hl9 hg.size,e1,e2,e3,e4,e5.fr hg (by rw [z6];omega)⟩)
   refine ⟨by simp,.inl ⟨_,_,rfl,run_takeDeferred hK,?_⟩⟩
   exact ⟨.tuple #[.agg #[.slice none 0 0],u],by simp [results,Tryz.f128,go_sem,e0,e1],.inl ⟨u,(q.1,(q.2:Int)),by rw [if_neg hl];exact ⟨q,h4,rfl⟩,h3,rfl,hu,hX.bel⟩⟩
end Go.Proofs.YtojgbcmhdnappaaGreatDoor
