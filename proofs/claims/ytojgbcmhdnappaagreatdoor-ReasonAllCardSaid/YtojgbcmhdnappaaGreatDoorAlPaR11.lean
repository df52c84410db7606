/-
  A part of the proof: PaR11. Conditions: none.
-/
import Derived.Test.YtojgbcmhdnappaaGreatDoorAlSpParse
import Derived.Test.YtojgbcmhdnappaaGreatDoorAlSpHas
import Derived.Test.YtojgbcmhdnappaaGreatDoorAlCatNew
import Derived.Test.YtojgbcmhdnappaaGreatDoorAlRefTxt
namespace Go.Proofs.YtojgbcmhdnappaaGreatDoor
open Go.RowKit Go.Shelf
attribute [local go_sem] Oper.semAt_some
set_option maxRecDepth 100000
theorem wpIn_splitSeqX {n:Nat} {g:Operand} {ps:Array Tmp} {assign body:Code} {Q:Exit→Act→World→Prop} {a:Act} {w:World} (bsep bs bsv:Nat) (s sep:ByteArray)
  (hg:a.eval g=.func (.func 191) #[] #[.pointer (some ⟨bsep,0,none⟩),.pointer (some ⟨bs,0,none⟩),.pointer (some ⟨bsv,0,none⟩)])
  (h1:1≤sep.size) (hs:s.size≤1000000) (hn:2≤n) (k1:Blk w bsep 9 #[.string sep]) (k2:Blk w bs 9 #[.string s]) (k3:Blk w bsv 3 #[.int .i64 0]) (ne1:bsep≠bs) (ne2:bsv≠bs) (hps:ps.size=1)
  (X:Nat→Prop) (hX:∀ k,X k→(k<w.heap.size∨w.heap.size+2≤k)∧k≠bs∧k≠bsep∧k≠bsv) (I Ix:List ByteArray→World→Prop)
  (hI:∀ pre A B,I pre A→Fr (fun k=>k=bs∨k=w.heap.size∨k=w.heap.size+1) A B→I pre B) (hIx:∀ pre A B,Ix pre A→Fr (fun k=>k=bs∨k=w.heap.size∨k=w.heap.size+1) A B→Ix pre B)
  (hG:∀ pre A,I pre A→GlobV A) (h0:I [] w) (a₁:ByteArray→Act)
  (hassign:∀ (l:Nat) (x:ByteArray) (W:World) (K:Act→World→Prop),K (a₁ x) W →
   assign.wpIn (Fence.wide.inRound l) (n-1-1) Tryz.prog (Exit.then K (fun _ _ _=>False)) { tmps:=(ps.zip #[.string x]).foldl (fun t (p,v)=>t.setIfInBounds p v) a.tmps,defers:=[] } W)
  (hbody:∀ (l:Nat) (pre:List ByteArray) (x:ByteArray) (r:List ByteArray) (W:World),I pre W→pre++x :: r=pieL sep s→w.heap.size+2≤W.heap.size→body.wpIn (Fence.wide.inRound l) (n-1-1) Tryz.prog (seqPost X I Ix (pre++[x]) W) (a₁ x) W)
  (hdone:∀ W,I (pieL sep s) W→W.heap[w.heap.size]?=some (.deferred (some []))→Q .normal { a with defers:={ target:=.collected w.heap.size,args:=#[] } :: a.defers } W)
  (hstop:∀ pre W,Ix pre W→W.heap[w.heap.size]?=some (.deferred (some []))→Code.ret.wpIn Fence.wide n Tryz.prog Q { a with defers:={ target:=.collected w.heap.size,args:=#[] } :: a.defers } W) :
  (Code.rangeFunc g ps assign body).wpIn Fence.wide n Tryz.prog Q a w:=by
 refine wpIn_rangeFunc ?_
 intro fn hfn
 rw [show Fence.wide.round=none from rfl]
 obtain ⟨rec,hrec⟩:∃ rec:LoopState→Option Code→Loop,rec=fun st pe=>{ state:=st,pending:=pe,fn,tmps:=a.tmps,params:=ps,assign,body,defers:=w.heap.size }:=⟨_,rfl⟩
 obtain ⟨W1,hW1⟩:∃ W1,(w.alloc (.deferred (some []))).alloc (.loop (rec .ready none))=W1:=⟨_,rfl⟩
 have hL1:W1.heap[w.heap.size+1]?=some (.loop (rec .ready none)):=by
  rw [←hW1];have:=World.alloc_heap_new (w.alloc (.deferred (some []))) (.loop (rec .ready none));rwa [World.size_alloc] at this
 have hK1:W1.heap[w.heap.size]?=some (.deferred (some [])):=by
  rw [←hW1];exact (Below.heap_alloc _ _ _ (by simp)).trans (World.alloc_heap_new w _)
 have hB1:Below w.heap.size w W1:=by rw [←hW1];exact ((Below.refl _ w).alloc (Nat.le_refl _) _).alloc (by simp) _
 have hz1:w.heap.size+2≤W1.heap.size:=by rw [←hW1];simp
 have hI1:I [] W1:=hI _ _ _ h0 (.of_below hB1 (Nat.le_refl _))
 have hlt:bs<w.heap.size:=k2.lt
 refine ⟨w.heap.size+1,[{ target:=.collected w.heap.size,args:=#[] }],W1,{ target:=.fn (.func 191) #[.pointer (some ⟨bsep,0,none⟩),.pointer (some ⟨bs,0,none⟩),.pointer (some ⟨bsv,0,none⟩)],args:=#[.func (.yield (w.heap.size+1)) #[] #[]] },W1,191,
  #[.func (.yield (w.heap.size+1)) #[] #[]]++#[.pointer (some ⟨bsep,0,none⟩),.pointer (some ⟨bs,0,none⟩),.pointer (some ⟨bsv,0,none⟩)],W1,?_,?_,?_,?_,fun _=>by omega,?_⟩
 ·rw [←hW1,hrec];exact run_enterLoop_outer _ _ _ _ _
 ·simp only [resolve,hg]
  simp [go_sem]
 ·intro f' _;exact trivial
 ·simp [invoke,go_sem]
 ·refine (splitSeq1_any (n-1) (w.heap.size+1) bs bsep bsv s sep
   (fun pre W=>I pre W∧W.heap[w.heap.size+1]?=some (.loop (rec .ready none))∧W.heap[w.heap.size]?=some (.deferred (some []))∧w.heap.size+2≤W.heap.size)
   (fun pre W=>Ix pre W∧W.heap[w.heap.size+1]?=some (.loop (rec .done (some .ret)))∧W.heap[w.heap.size]?=some (.deferred (some [])))
   W1 (by omega) h1 hs ne1 ne2 (fun pre A h=>hG pre A h.1)
   (fun pre A B h hf=>⟨hI _ _ _ h.1 (hf.mono fun k _ e=>.inl e),(hf.block _ (by omega) (by omega)).trans h.2.1,(hf.block _ (by omega) (by omega)).trans h.2.2.1,Nat.le_trans h.2.2.2 hf.size⟩)
   ?_ ⟨⟨hI1,hL1,hK1,hz1⟩,k2.below hB1 k2.lt,k1.below hB1 k1.lt,k3.below hB1 k3.lt⟩).mono ?_
  ·-- one round
   rintro pre x rest r W ⟨⟨hi,hl,hk,hz⟩,b1,b2,b3⟩ hpx
   have hy:=run_yield (P:=Tryz.prog) (args:=#[.string x]) hl (by rw [hrec];exact hps.symm)
   rw [hrec] at hy
   refine ⟨fn,_,assign,body,hy,roundIn_of_wpIn hfn (hassign _ x W _ ⟨_,run_beginRound hl (by rw [hrec]),?_⟩)⟩
   have hl2:(W.putObj (w.heap.size+1) (.loop { rec .ready none with state:=.busy })).heap[w.heap.size+1]?=some (.loop { rec .ready none with state:=.busy }):=World.putObj_heap_same (by omega)
   have hk2:(W.putObj (w.heap.size+1) (.loop { rec .ready none with state:=.busy })).heap[w.heap.size]?=some (.deferred (some [])):=(World.putObj_heap_other (by omega)).trans hk
   have hf2:Fr (fun k=>k=bs∨k=w.heap.size∨k=w.heap.size+1) W (W.putObj (w.heap.size+1) (.loop { rec .ready none with state:=.busy })):=fr_putObj W _ (.inr (.inr rfl))
   have hfl:Fr (fun k=>k=w.heap.size+1) W (W.putObj (w.heap.size+1) (.loop { rec .ready none with state:=.busy })):=fr_putObj W _ rfl
   have c1:=b1.fr hfl (by show ¬bs=w.heap.size+1;omega)
   have c2:=b2.fr hfl (by have:=k1.lt;show ¬bsep=w.heap.size+1;omega)
   have c3:=b3.fr hfl (by have:=k3.lt;show ¬bsv=w.heap.size+1;omega)
   refine wpIn_mono (hbody _ pre x r _ (hI _ _ _ hi hf2) hpx (by rw [World.putObj_size];exact hz)) ?_
   have fin:∀ (jump:Option Code) (W3:World),Fr X (W.putObj (w.heap.size+1) (.loop { rec .ready none with state:=.busy })) W3 →
     (Instr.endRound (w.heap.size+1) jump).run Tryz.prog W3=.ok (.bool jump.isNone) (W3.putObj (w.heap.size+1) (.loop (rec (if jump.isNone then .ready else .done) jump))) ∧
     (W3.putObj (w.heap.size+1) (.loop (rec (if jump.isNone then .ready else .done) jump))).heap[w.heap.size+1]?=some (.loop (rec (if jump.isNone then .ready else .done) jump)) ∧
     (W3.putObj (w.heap.size+1) (.loop (rec (if jump.isNone then .ready else .done) jump))).heap[w.heap.size]?=some (.deferred (some [])) ∧
     w.heap.size+2≤(W3.putObj (w.heap.size+1) (.loop (rec (if jump.isNone then .ready else .done) jump))).heap.size ∧
     Fr (fun k=>k=bs∨k=w.heap.size∨k=w.heap.size+1) W3 (W3.putObj (w.heap.size+1) (.loop (rec (if jump.isNone then .ready else .done) jump))):=fun jump W3 hf3=>by
    have hsz3:w.heap.size+2≤W3.heap.size:=by have:=hf3.size;rw [World.putObj_size] at this;omega
    have hl3:=(hf3.block (w.heap.size+1) (by rw [World.putObj_size];omega) (fun h=>by have:=(hX _ h).1;omega)).trans hl2
    have hk3:=(hf3.block w.heap.size (by rw [World.putObj_size];omega) (fun h=>by have:=(hX _ h).1;omega)).trans hk2
    have:=run_endRound (P:=Tryz.prog) jump hl3
    rw [hrec] at this ⊢
    exact ⟨this,World.putObj_heap_same (by omega),(World.putObj_heap_other (by omega)).trans hk3,by rw [World.putObj_size];exact hsz3,fr_putObj W3 _ (.inr (.inr rfl))⟩
   rintro e a3 W3 hp
   cases e with
   | normal =>
    obtain ⟨hf3,hi3⟩:=hp
    obtain ⟨hr,hl4,hk4,hz4,hf4⟩:=fin none W3 hf3
    have hfl4:Fr (fun k=>k=w.heap.size+1) W3 (W3.putObj (w.heap.size+1) (.loop (rec .ready none))):=fr_putObj W3 _ rfl
    exact ⟨_,_,hr,.inl ⟨rfl,⟨hI _ _ _ hi3 hf4,hl4,hk4,hz4⟩,
     (c1.fr hf3 (fun h=>(hX _ h).2.1 rfl)).fr hfl4 (by show ¬bs=w.heap.size+1;omega),(c2.fr hf3 (fun h=>(hX _ h).2.2.1 rfl)).fr hfl4 (by have:=k1.lt;show ¬bsep=w.heap.size+1;omega),
     (c3.fr hf3 (fun h=>(hX _ h).2.2.2 rfl)).fr hfl4 (by have:=k3.lt;show ¬bsv=w.heap.size+1;omega)⟩⟩
   | ret =>
    obtain ⟨hf3,hi3⟩:=hp
    obtain ⟨hr,hl4,hk4,hz4,hf4⟩:=fin (some .ret) W3 hf3
    exact ⟨_,_,hr,.inr ⟨rfl,hIx _ _ _ hi3 hf4,hl4,hk4⟩⟩
   | exit id=>exact hp.elim
   | goto t=>exact hp.elim
   | panic ch=>exact hp.elim
   | outgrown=>exact hp.elim
  ·rintro e W2 ⟨⟨v,rfl⟩,(⟨hi,hl,hk,hz⟩ | ⟨pre,hi,hl,hk⟩)⟩
   ·exact ⟨none,_,by have:=run_endLoop (P:=Tryz.prog) hl (by rw [hrec];simp);rw [hrec] at this;exact this,hdone _ (hI _ _ _ hi (fr_putObj W2 _ (.inr (.inr rfl)))) ((World.putObj_heap_other (by omega)).trans hk)⟩
   ·exact ⟨some .ret,_,by have:=run_endLoop (P:=Tryz.prog) hl (by rw [hrec];simp);rw [hrec] at this;exact this,hstop _ _ (hIx _ _ _ hi (fr_putObj W2 _ (.inr (.inr rfl)))) ((World.putObj_heap_other (by omega)).trans hk)⟩
end Go.Proofs.YtojgbcmhdnappaaGreatDoor
namespace Go
open Go.RowKit
open Go.Proofs.YtojgbcmhdnappaaGreatDoor
structure StG (ops:Array Oper) (R:Nat→World→Value→Prop) (J:Array Bool→World→Prop) (a0:Act) (listed:Array Bool) (a:Act) (w:World):Prop where
 defers:a.defers=a0.defers
 size:a.tmps.size=a0.tmps.size
 old:∀ k,(ops.toList.all fun o=>o.dst != some k)=true→a.tmps[k]?=a0.tmps[k]?
 new:∀ (i:Nat) (o:Oper) (d:Nat),ops[i]?=some o→o.dst=some d→listed.getD i false=true→∃ v,a.tmps[d]?=some v∧R i w v
 j:J listed w
section
variable {F:Fence} {n:Nat} {P:Program} {md:Region.Mode} {ops:Array Oper} {R:Nat→World→Value→Prop} {J:Array Bool→World→Prop} {a0:Act} {Q:Exit→Act→World→Prop}
theorem StG.put {listed:Array Bool} {a:Act} {w w':World} {i:Nat} {o:Oper} {v:Value} (h:StG ops R J a0 listed a w) (ho:ops[i]?=some o)
  (hd:∀ (i j:Nat) (oi oj:Oper) (d:Nat),ops[i]?=some oi→ops[j]?=some oj→oi.dst=some d→oj.dst=some d→i=j)
  (hs:∀ (i:Nat) (o:Oper) (d:Nat),ops[i]?=some o→o.dst=some d→d<a0.tmps.size) (hv:R i w' v) (hk:∀ k u,listed.getD k false=true→R k w u→R k w' u) (hJ:J (listed.setIfInBounds i true) w'):StG ops R J a0 (listed.setIfInBounds i true) (a.put o.dst v) w':=by
 have hsz:(a.put o.dst v).tmps.size=a0.tmps.size:=by
  cases e:o.dst with
  | none=>simpa [Act.put,e] using h.size
  | some d=>simpa [Act.put,e] using h.size
 refine ⟨?_,hsz,?_,?_,hJ⟩
 ·cases e:o.dst <;> simpa [Act.put,e] using h.defers
 ·intro k hk
  cases e:o.dst with
  | none=>simpa [Act.put,e] using h.old k hk
  | some d =>
   have hne:d≠k:=by
    intro e2
    subst e2
    have:=List.all_eq_true.1 hk o (by
     have:=Array.mem_of_getElem? ho
     simpa using this)
    rw [e] at this
    simp at this
   simp only [Act.put]
   rw [Array.getElem?_setIfInBounds_ne hne]
   exact h.old k hk
 ·intro j oj d hj hjd hl
  by_cases e:j=i
  ·subst e
   obtain rfl:o=oj:=Option.some.inj (ho.symm.trans hj)
   refine ⟨v,?_,hv⟩
   rw [hjd]
   simp only [Act.put]
   rw [Array.getElem?_setIfInBounds_self_of_lt (by rw [h.size];exact hs _ _ _ hj hjd)]
  ·have hl2:listed.getD j false=true:=by
    rw [Array.getD_eq_getD_getElem?,Array.getElem?_setIfInBounds_ne (fun e2=>e e2.symm),←Array.getD_eq_getD_getElem?] at hl
    exact hl
   obtain ⟨u,h1,h2⟩:=h.new j oj d hj hjd hl2
   refine ⟨u,?_,hk _ _ hl2 h2⟩
   cases e3:o.dst with
   | none=>simpa [Act.put,e3] using h1
   | some d' =>
    have hne:d'≠d:=fun e4=>e (hd j i oj o d hj ho hjd (by rw [e3,e4]))
    simp only [Act.put]
    rw [Array.getElem?_setIfInBounds_ne hne]
    exact h1
theorem wpAnyIn_stG (hd:∀ (i j:Nat) (oi oj:Oper) (d:Nat),ops[i]?=some oi→ops[j]?=some oj→oi.dst=some d→oj.dst=some d→i=j)
  (hs:∀ (i:Nat) (o:Oper) (d:Nat),ops[i]?=some o→o.dst=some d→d<a0.tmps.size) (hac:∀ (j:Nat) (o:Oper),ops[j]?=some o→∀ e∈o.after,e.on<j)
  (hstep:∀ (i:Nat) (o:Oper) (listed:Array Bool) (a:Act) (w:World),ops[i]?=some o→listed.size=ops.size→i∈Region.ready md ops listed→StG ops R J a0 listed a w→Region.wanted o (yielded ops a.tmps)=true ∧
   o.wpIn F n P a w (fun a' w'=>∃ v,a'=a.put o.dst v∧R i w' v∧(∀ k u,listed.getD k false=true→R k w u→R k w' u)∧J (listed.setIfInBounds i true) w') Q)
  (hend:∀ listed a w,(∀ i,i<ops.size→listed.getD i false=true)→StG ops R J a0 listed a w→Q .normal a w) :
  ∀ (fuel:Nat) (listed:Array Bool) (a:Act) (w:World),listed.size=ops.size→listed.toList.count false≤fuel→StG ops R J a0 listed a w→wpAnyIn F n P md ops Q fuel listed a w
 | 0,listed,a,w,hl,hc,h=>by
  have hnil:Region.ready md ops listed=[]:=by
   cases e:Region.ready md ops listed with
   | nil=>rfl
   | cons i r =>
    have hm:i∈Region.ready md ops listed:=by rw [e];exact List.mem_cons_self ..
    obtain ⟨h1,_⟩:=mem_ready.1 hm
    have hz:listed.toList.count false=0:=by omega
    rw [List.count_eq_zero] at hz
    rw [Array.getD_eq_getD_getElem?] at h1
    cases e2:listed[i]? with
    | none=>rw [e2] at h1;cases h1
    | some b =>
     rw [e2] at h1
     simp at h1
     subst h1
     exact absurd (by have:=Array.mem_of_getElem? e2;simpa using this) hz
  exact ⟨hnil,hend _ _ _ (all_done hl hac hnil) h⟩
 | fuel+1,listed,a,w,hl,hc,h=>by
  refine ⟨fun hnil=>hend _ _ _ (all_done hl hac hnil) h,fun i hi=>?_⟩
  obtain ⟨h1,o,ho,_⟩:=mem_ready.1 hi
  obtain ⟨hw,hp⟩:=hstep i o listed a w ho hl hi h
  unfold wpOpIn
  simp only [ho]
  rw [if_pos hw]
  refine Oper.wpIn_mono ?_ hp
  rintro a' w' ⟨v,rfl,hv,hk,hj⟩
  refine wpAnyIn_stG hd hs hac hstep hend fuel _ _ _ (by simpa using hl) ?_ (h.put ho hd hs hv hk hj)
  have hlt:i<ops.size:=(Array.getElem?_eq_some_iff.1 ho).1
  have e:listed.toList[i]?=some false:=by
   rw [Array.getD_eq_getD_getElem?,Array.getElem?_eq_getElem (by omega)] at h1
   rw [Array.getElem?_toList,Array.getElem?_eq_getElem (by omega)]
   simpa using h1
  have:=count_done listed.toList i e
  rw [Array.toList_setIfInBounds]
  omega
theorem wpIn_region_stG {id:Nat} {w0:World} (N:Nat) (hm:P.follows .mixedOrders=true) (hN:a0.tmps.size=N) (hd:decide (ops.toList.filterMap (·.dst)).Nodup=true)
  (hs:(ops.toList.all fun o=>decide (o.dst.getD 0<N))=true) (hac:acyc ops.toList=true) (h0:J (Array.replicate ops.size false) w0.drew)
  (hstep:∀ (i:Nat) (o:Oper) (listed:Array Bool) (a:Act) (w:World),ops[i]?=some o→listed.size=ops.size→i∈Region.ready .any ops listed→StG ops R J a0 listed a w→Region.wanted o (yielded ops a.tmps)=true ∧
   o.wpIn F n P a w (fun a' w'=>∃ v,a'=a.put o.dst v∧R i w' v∧(∀ k u,listed.getD k false=true→R k w u→R k w' u)∧J (listed.setIfInBounds i true) w') Q)
  (hend:∀ listed a w,(∀ i,i<ops.size→listed.getD i false=true)→StG ops R J a0 listed a w→Q .normal a w):(Code.region id ops true).wpIn F n P Q a0 w0:=by
 have hd':∀ (i j:Nat) (oi oj:Oper) (d:Nat),ops[i]?=some oi→ops[j]?=some oj→oi.dst=some d→oj.dst=some d→i=j:=fun i j oi oj d h1 h2 d1 d2=>nodup_idx ops.toList (of_decide_eq_true hd) i j oi oj d (by simpa using h1) (by simpa using h2) d1 d2
 have hs':∀ (i:Nat) (o:Oper) (d:Nat),ops[i]?=some o→o.dst=some d→d<a0.tmps.size:=fun i o d h1 h2=>by
  have:=List.all_eq_true.1 hs o (by have:=Array.mem_of_getElem? h1;simpa using this)
  rw [h2] at this
  rw [hN]
  simpa using this
 refine wpIn_region_any hm (wpAnyIn_stG hd' hs' (acyc_at hac) hstep hend _ _ _ _ (by simp) (by simp) ⟨rfl,rfl,fun _ _=>rfl,fun i o d ho _ hl=>?_,h0⟩)
 rw [Array.getD_eq_getD_getElem?,Array.getElem?_replicate] at hl
 split at hl <;> simp at hl
theorem StG.was {listed:Array Bool} {a:Act} {w:World} {k:Nat} {v:Value} (h:StG ops R J a0 listed a w) (hk:(ops.toList.all fun o=>o.dst != some k)=true) (hv:a0.tmps[k]?=some v):a.tmps[k]?=some v:=(h.old k hk).trans hv
theorem StG.got {listed:Array Bool} {a:Act} {w:World} {i:Nat} {o oj:Oper} (h:StG ops R J a0 listed a w) (hr:i∈Region.ready md ops listed) (ho:ops[i]?=some o) (j:Nat) (d:Nat) (hdep:(o.after.any fun e=>e.on==j&&Region.binds md e)=true) (hj:ops[j]?=some oj) (hd:oj.dst=some d):∃ v,a.tmps[d]?=some v∧R j w v:=by
 obtain ⟨_,o',ho',hall⟩:=mem_ready.1 hr
 obtain rfl:o=o':=Option.some.inj (ho.symm.trans ho')
 obtain ⟨e,he,h2⟩:=Array.any_eq_true'.1 hdep
 simp only [Bool.and_eq_true,beq_iff_eq] at h2
 have h3:=hall e he h2.2
 rw [h2.1] at h3
 exact h.new j oj d hj hd h3
theorem StG.ahead {listed:Array Bool} {i:Nat} {o:Oper} (hr:i∈Region.ready md ops listed) (ho:ops[i]?=some o) (j:Nat) (hdep:(o.after.any fun e=>e.on==j&&Region.binds md e)=true):listed.getD j false=true:=by
 obtain ⟨_,o',ho',hall⟩:=mem_ready.1 hr
 obtain rfl:o=o':=Option.some.inj (ho.symm.trans ho')
 obtain ⟨e,he,h2⟩:=Array.any_eq_true'.1 hdep
 simp only [Bool.and_eq_true,beq_iff_eq] at h2
 have h3:=hall e he h2.2
 rwa [h2.1] at h3
theorem StG.fresh {listed:Array Bool} {i:Nat} (hr:i∈Region.ready md ops listed):listed.getD i false=false:=by
 obtain ⟨h1,_⟩:=mem_ready.1 hr
 rw [Array.getD_eq_getD_getElem?] at h1 ⊢
 cases e:listed[i]? with
 | none=>rfl
 | some b=>rw [e] at h1;simpa using h1
theorem getG_same {listed:Array Bool} {i:Nat} (h:i<listed.size):(listed.setIfInBounds i true).getD i false=true:=by
 rw [Array.getD_eq_getD_getElem?,Array.getElem?_setIfInBounds_self_of_lt h];rfl
theorem getG_ne {listed:Array Bool} {i j:Nat} (h:i≠j):(listed.setIfInBounds i true).getD j false=listed.getD j false:=by
 rw [Array.getD_eq_getD_getElem?,Array.getElem?_setIfInBounds_ne h,←Array.getD_eq_getD_getElem?]
theorem oper_round {l m:Nat} {o:Oper} {a:Act} {w:World} {K:Act→World→Prop} (hd:∀ c,o.op≠.defer c) (h:Oper.wp P o a w K Q):Oper.wpIn (Fence.wide.inRound l) m P o a w K Q:=by
 refine ⟨fun _ _=>trivial,?_⟩
 rw [Oper.semAt_eq _ _ _ hd]
 unfold Oper.wp at h
 generalize (execOp a.eval o).run P w=r at h ⊢
 cases r with
 | ok x w' =>
  cases x with
  | value v=>exact h
  | skip=>exact h
  | defer d=>exact h
  | enter f args=>exact ⟨fun h9=>Bool.noConfusion (show (none:Option Nat).isSome=true from h9),CallsIn.inRound l (callsIn_wide.2 h)⟩
  | row s args=>exact ⟨fun h9=>Bool.noConfusion (show (none:Option Nat).isSome=true from h9),fun c cs _=>let ⟨v,w',r,s⟩:=h c cs;⟨v,w',r,stepsIn_wide.2 s⟩⟩
  | _=>exact h.elim
 | halt x w'=>cases x <;> exact h
end
end Go
namespace Go.Proofs.YtojgbcmhdnappaaGreatDoor
open Go.RowKit Go.Shelf
open Classical
set_option maxRecDepth 100000
def paX (n k:Nat):Prop:=(n≤k∧k<n+5)∨n+10≤k
def paL (n k:Nat):Prop:=k=n+5∨k=n+8∨k=n+8+1
theorem own_blk {w:World} {b s n:Nat} {e:TypeId} {v:Value} {xs:List Value} (h:w.ownsRow b e s v n xs) {k:Nat} (hk:v.ownBlock=some k):∃ cs,Blk w k e cs∧b≤k:=by
 rcases h.2 with ⟨rfl,_⟩ | ⟨g,cap,cur,rfl,hg,hgc,_⟩
 ·simp [Value.ownBlock] at hk
 ·have e:g=k:=Option.some.inj hk
  subst e
  exact ⟨cur,hgc,hg⟩
structure PaM (n:Nat) (W0:World) (a:Int) (v4 v5:Value) (qs:List LnQ) (ps:List Int) (W:World):Prop where
 b2:Blk W n 22 #[.pointer none]
 b3:Blk W (n+1) 37 #[.nilIface]
 b4:Blk W (n+2) 165 #[v4]
 b5:Blk W (n+3) 31 #[v5]
 b6:Blk W (n+4) 3 #[.int .i64 a]
 rA:OwnK elP W (n+10) v4 qs
 rB:OwnI W (n+10) v5 ps
 inn:∀ q∈qs,OwnP W (n+10) (slQ q) q.1.rg∧LnOk q.1
 fr:Fr (paX n) W0 W
structure PaI (w0:World) (t:ByteArray) (pre:List ByteArray) (W:World):Prop where
 is:∃ v4 v5 qs ps,∃ a:Nat,PaM w0.heap.size W (a:Int) v4 v5 qs ps W∧linesR ((nlL t).drop pre.length) a (qs.map (·.1)) ps=linesR (nlL t) 0 [] []∧qs.length≤pre.length∧ps.length=qs.length∧a≤20001*pre.length
 bel:Below w0.heap.size w0 W
structure PaX (w0:World) (t:ByteArray) (W:World):Prop where
 b2:Blk W w0.heap.size 22 #[.pointer none]
 is:∃ u,∃ f:Int×Int,Blk W (w0.heap.size+1) 37 #[u]∧IsErr W u f∧(∀ b,u=.iface 183 (.pointer (some ⟨b,0,none⟩))→w0.heap.size+10≤b)∧f.1≠0∧linesR (nlL t) 0 [] []=.inl f
 bel:Below w0.heap.size w0 W
section
variable {n:Nat} {W0 W W':World} {a:Int} {v4 v5:Value} {qs:List LnQ} {ps:List Int}
theorem PaM.below (h:PaM n W0 a v4 v5 qs ps W) (hb:Below W.heap.size W W'):PaM n W0 a v4 v5 qs ps W' :=
 ⟨h.b2.below hb h.b2.lt,h.b3.below hb h.b3.lt,h.b4.below hb h.b4.lt,h.b5.below hb h.b5.lt,h.b6.below hb h.b6.lt,h.rA.below hb,h.rB.below hb,fun q hq=>⟨(h.inn q hq).1.below hb,(h.inn q hq).2⟩,h.fr.trans (.of_below hb (Nat.le_refl _))⟩
theorem PaM.loop (h:PaM n W a v4 v5 qs ps W) (hf:Fr (paL n) W W'):PaM n W' a v4 v5 qs ps W' :=
 ⟨h.b2.fr hf (by unfold paL;omega),h.b3.fr hf (by unfold paL;omega),h.b4.fr hf (by unfold paL;omega),h.b5.fr hf (by unfold paL;omega),h.b6.fr hf (by unfold paL;omega),h.rA.fr hf (fun k hk=>by have:=(h.rA.lt k hk).1;unfold paL;omega),h.rB.fr hf (fun k hk=>by unfold paL;omega),fun q hq=>⟨(h.inn q hq).1.fr hf (fun k hk=>by unfold paL;omega),(h.inn q hq).2⟩,Fr.refl _ _⟩
theorem PaI.fr {w0:World} {t:ByteArray} {pre:List ByteArray} {A B:World} (h:PaI w0 t pre A) (hf:Fr (paL w0.heap.size) A B):PaI w0 t pre B:=by
 obtain ⟨v4,v5,qs,ps,a,hm,h4⟩:=h.is
 exact ⟨⟨v4,v5,qs,ps,a,hm.loop hf,h4⟩,h.bel.trans (hf.to_below h.bel.size (fun k hk=>by unfold paL;omega))⟩
theorem PaX.fr {w0:World} {t:ByteArray} {A B:World} (h:PaX w0 t A) (hf:Fr (paL w0.heap.size) A B):PaX w0 t B:=by
 obtain ⟨u,q,h1,h2,hb,h3,h4⟩:=h.is
 refine ⟨h.b2.fr hf (by unfold paL;omega),⟨u,q,h1.fr hf (by unfold paL;omega),?_,hb,h3,h4⟩,h.bel.trans (hf.to_below h.bel.size (fun k hk=>by unfold paL;omega))⟩
 rcases h2 with h2 | h2 | ⟨b,hlt,e1,e2,e3,e4,e5⟩
 ·exact .inl h2
 ·exact .inr (.inl h2)
 ·have:=hb b e4
  exact .inr (.inr ⟨b,Nat.lt_of_lt_of_le hlt hf.size,e1,e2,e3,e4,e5.fr hf (by unfold paL;omega)⟩)
theorem PaM.next {w0:World} {t p:ByteArray} {pre r:List ByteArray} {a':Nat} (h:PaM w0.heap.size W0 a v4 v5 qs ps W) (hb:Below w0.heap.size w0 W0) (hpx:pre++p :: r=nlL t) (hi:linesR r a' (qs.map (·.1)) ps=linesR (nlL t) 0 [] []) (hq:qs.length≤pre.length+1) (hl:ps.length=qs.length) (ha:a'≤20001*(pre.length+1)) {W':World} (hW:W'=W.setCell ⟨w0.heap.size+4,0,none⟩ (.int .i64 (a':Int))) :
  Fr (paX w0.heap.size) W0 W'∧PaI w0 t (pre++[p]) W':=by
 subst hW
 have f:Fr (paX w0.heap.size) W0 (W.setCell ⟨w0.heap.size+4,0,none⟩ (.int .i64 (a':Int))):=h.fr.set_ (p:=⟨w0.heap.size+4,0,none⟩) (by show paX w0.heap.size (w0.heap.size+4);unfold paX;omega) _
 have f1:Fr (fun k=>k=w0.heap.size+4) W (W.setCell ⟨w0.heap.size+4,0,none⟩ (.int .i64 (a':Int))):=Fr.set_ (S:=fun k=>k=w0.heap.size+4) (Fr.refl _ _) (p:=⟨w0.heap.size+4,0,none⟩) rfl _
 refine ⟨f,⟨v4,v5,qs,ps,a',⟨h.b2.fr f1 (by omega),h.b3.fr f1 (by omega),h.b4.fr f1 (by omega),h.b5.fr f1 (by omega),h.b6.set_ 0 _,h.rA.fr f1 (fun k hk=>by have:=(h.rA.lt k hk).1;omega),h.rB.fr f1 (fun k hk=>by omega),fun q hq=>⟨(h.inn q hq).1.fr f1 (fun k hk=>by omega),(h.inn q hq).2⟩,Fr.refl _ _⟩,?_,by simpa using hq,hl,by simpa using ha⟩,?_⟩
 ·have e:(nlL t).drop (pre++[p]).length=r:=by rw [←hpx,show pre++p :: r=(pre++[p])++r by simp,List.drop_left]
  rw [e]
  exact hi
 ·exact hb.trans (f.to_below hb.size (fun k hk=>by unfold paX;omega))
end
end Go.Proofs.YtojgbcmhdnappaaGreatDoor
namespace Go.Proofs.YtojgbcmhdnappaaGreatDoor
open Go.RowKit Go.Shelf
set_option maxRecDepth 100000
theorem ownT_apart {w:World} {b s n:Nat} {e:TypeId} {v:Value} {xs:List Value} (h:w.ownsRow b e s v n xs) {r:Option Nat} (hr:∀ k,r=some k→∃ t cs,Blk w k t cs∧e≠t):v.ownBlock=none∨v.ownBlock≠r:=by
 cases e9:v.ownBlock with
 | none=>exact .inl rfl
 | some k =>
  refine .inr fun e8=>?_
  obtain ⟨cs,h1,_⟩:=own_blk h e9
  obtain ⟨t,cs',h2,h3⟩:=hr k e8.symm
  exact Blk.ne_ h1 h2 h3 rfl
theorem blk_apart {w:World} {g:Nat} {t0:TypeId} {c0:Array Value} (h:Blk w g t0 c0) {r:Option Nat} (hr:∀ k,r=some k→∃ t cs,Blk w k t cs∧t0≠t):some g≠r:=fun e=>by
 obtain ⟨t,cs,h2,h3⟩:=hr g e.symm
 exact Blk.ne_ h h2 h3 rfl
theorem getG_on {listed:Array Bool} {i k:Nat} (h:listed.getD k false=true):(listed.setIfInBounds i true).getD k false=true:=by
 by_cases e:i=k
 ·subst e
  refine getG_same ?_
  rw [Array.getD_eq_getD_getElem?] at h
  by_cases e:i<listed.size
  ·exact e
  ·rw [Array.getElem?_eq_none (by omega)] at h;cases h
 ·rw [getG_ne e];exact h
theorem of_if {c:Prop} [Decidable c] {A X:Prop} (hc:c) (h:if c then A else X):A:=by rw [if_pos hc] at h;exact h
theorem and_of {c A:Prop} (hc:c) (h:c→A):c∧A:=⟨hc,h hc⟩
theorem stepI1 (w:World) {ops:Array Oper} {o:Oper} {a:Act} {K:Act→World→Prop} {Q:Exit→Act→World→Prop} {X:Prop} (hgd:o.guard=none) (s x:Operand) (t:TypeId)
  (ho:o.op=.call { callee:=.builtin .append,args:=#[s,x],argTypes:=#[t,t] }) (base:Nat) (ht:Tryz.prog.underlying t=some (.slice 3))
  (v:Value) (zs:List Int) (hs:a.eval s=v) (hown:OwnI w base v zs) (B:Nat) (A:Option Addr) (m c:Nat) (ys:List Int) (hx:a.eval x=.slice A m c) (hr:Reads w B 1 A m (intsV ys)) (hm:ys.length=m)
  (hl:zs.length+m≤10000000000) (hbase:base≤w.heap.size)
  (h:∀ v' w',OwnI w' base v' (zs++ys)→w.grownBy w' v.ownBlock→(v'.ownBlock=v.ownBlock∨v'.ownBlock=some w.heap.size)→K (a.put o.dst v') w'):if Region.wanted o (yielded ops a.tmps)=true then Oper.wp Tryz.prog o a w K Q else X:=by
 obtain ⟨i0,hi,hz0,hz1,hz2⟩:=info_parts intInfo
 refine step_append_any w hgd s x t ho base 3 i0 (.int .i64 0) 1 8 ht hi hz0 hz1 hz2 rfl (by decide) v zs.length _ hs hown B A m c (intsV ys) hx hr (fun u hu=>by obtain ⟨y,_,rfl⟩:=List.mem_map.1 hu;rfl) (by simp only [maxLen];omega) (by omega) hbase ?_
 intro v' w' ho' hg' hor
 refine h v' w' ?_ hg' hor
 unfold OwnI
 rw [List.length_append,hm]
 unfold intsV at ho' ⊢
 rw [List.map_append]
 exact ho'
def r12 (n:Nat) (v4 v5:Value) (qs:List LnQ) (ps:List Int) (q:LnQ) (a:Int):Nat→World→Value→Prop
 | 0,_,v=>v=v4
 | 1,_,v=>v=.agg (lnF q).toArray
 | 2,w,v=>∃ g,v=.slice (some ⟨g,0,none⟩) 1 1∧Blk w g 90 (lnF q).toArray∧v4.ownBlock≠some g
 | 3,w,v=>OwnK elP w (n+10) v (qs++[q])
 | 4,_,v=>v=v5
 | 5,_,v=>v=.int .i64 a
 | 6,w,v=>∃ g,v=.slice (some ⟨g,0,none⟩) 1 1∧Blk w g 3 #[.int .i64 a]∧v5.ownBlock≠some g
 | 7,w,v=>OwnI w (n+10) v (ps++[a])
 | _,_,_=>True
structure K12 (n g8:Nat) (W0:World) (v4 v5:Value) (qs:List LnQ) (q:LnQ) (a:Int) (W:World):Prop where
 b2:Blk W n 22 #[.pointer none]
 b3:Blk W (n+1) 37 #[.nilIface]
 b6:Blk W (n+4) 3 #[.int .i64 a]
 x8:Blk W g8 90 (lnF q).toArray
 n8:v4.ownBlock≠some g8
 h8:n+10≤g8
 inn:∀ p∈qs++[q],OwnP W (n+10) (slQ p) p.1.rg∧LnOk p.1
 fr:Fr (paX n) W0 W
 lt4:∀ k,v4.ownBlock=some k→k<W.heap.size
 lt5:∀ k,v5.ownBlock=some k→k<W.heap.size
structure J12 (n g8:Nat) (W0:World) (v4 v5:Value) (qs:List LnQ) (ps:List Int) (q:LnQ) (a:Int) (l:Array Bool) (W:World):Prop where
 k:K12 n g8 W0 v4 v5 qs q a W
 A:l.getD 3 false=false→OwnK elP W (n+10) v4 qs
 A4:l.getD 8 false=false→Blk W (n+2) 165 #[v4]
 A8:l.getD 8 false=true→∃ v,Blk W (n+2) 165 #[v]∧OwnK elP W (n+10) v (qs++[q])
 dA:l.getD 8 false=true→l.getD 3 false=true
 B:l.getD 7 false=false→OwnI W (n+10) v5 ps
 B5:l.getD 9 false=false→Blk W (n+3) 31 #[v5]
 B9:l.getD 9 false=true→∃ v,Blk W (n+3) 31 #[v]∧OwnI W (n+10) v (ps++[a])
 dB:l.getD 9 false=true→l.getD 7 false=true
 d3:l.getD 3 false=true→l.getD 0 false=true
 d7:l.getD 7 false=true→l.getD 4 false=true
section
variable {n g8:Nat} {W0 W W':World} {v4 v5:Value} {qs:List LnQ} {ps:List Int} {q:LnQ} {a:Int} {l:Array Bool} {r:Option Nat}
theorem K12.mv (h:K12 n g8 W0 v4 v5 qs q a W) (hg:W.grownBy W' r) (hr:∀ k,r=some k→(paX n k∧k≠n∧k≠n+1∧k≠n+4∧k≠g8)∧∃ t cs,Blk W k t cs∧254≠t):K12 n g8 W0 v4 v5 qs q a W' :=
 ⟨h.b2.grown hg (fun e=>(hr _ e.symm).1.2.1 rfl),h.b3.grown hg (fun e=>(hr _ e.symm).1.2.2.1 rfl),h.b6.grown hg (fun e=>(hr _ e.symm).1.2.2.2.1 rfl),h.x8.grown hg (fun e=>(hr _ e.symm).1.2.2.2.2 rfl),h.n8,h.h8,
  fun p hp=>⟨OwnP.kept (h.inn p hp).1 hg (ownT_apart (h.inn p hp).1 fun k e=>(hr k e).2),(h.inn p hp).2⟩,h.fr.grown hg (fun k e=>(hr k e).1.1),fun k e=>Nat.lt_of_lt_of_le (h.lt4 k e) hg.size,fun k e=>Nat.lt_of_lt_of_le (h.lt5 k e) hg.size⟩
theorem J12.calm (h:J12 n g8 W0 v4 v5 qs ps q a l W) {i:Nat} (hi:i≠3∧i≠7∧i≠8∧i≠9) (hb:Below W.heap.size W W'):J12 n g8 W0 v4 v5 qs ps q a (l.setIfInBounds i true) W':=by
 have hg:=only_of_below hb none
 have e3:=getG_ne (listed:=l) (i:=i) (j:=3) hi.1
 have e7:=getG_ne (listed:=l) (i:=i) (j:=7) hi.2.1
 have e8:=getG_ne (listed:=l) (i:=i) (j:=8) hi.2.2.1
 have e9:=getG_ne (listed:=l) (i:=i) (j:=9) hi.2.2.2
 constructor
 ·exact h.k.mv hg (fun k e=>by cases e)
 ·rw [e3];exact fun e=>(h.A e).below hb
 ·rw [e8];exact fun e=>(h.A4 e).below hb (h.A4 e).lt
 ·rw [e8];exact fun e=>by obtain ⟨v,h1,h2⟩:=h.A8 e;exact ⟨v,h1.below hb h1.lt,h2.below hb⟩
 ·rw [e8,e3];exact h.dA
 ·rw [e7];exact fun e=>(h.B e).below hb
 ·rw [e9];exact fun e=>(h.B5 e).below hb (h.B5 e).lt
 ·rw [e9];exact fun e=>by obtain ⟨v,h1,h2⟩:=h.B9 e;exact ⟨v,h1.below hb h1.lt,h2.below hb⟩
 ·rw [e9,e7];exact h.dB
 ·rw [e3];exact fun e=>getG_on (h.d3 e)
 ·rw [e7];exact fun e=>getG_on (h.d7 e)
theorem J12.at3 (h:J12 n g8 W0 v4 v5 qs ps q a l W) (hf:l.getD 3 false=false) (h0:l.getD 0 false=true) (hs:3<l.size) (hg:W.grownBy W' v4.ownBlock):J12 n g8 W0 v4 v5 qs ps q a (l.setIfInBounds 3 true) W':=by
 have hA:=h.A hf
 have h8:l.getD 8 false=false:=by
  cases e:l.getD 8 false with
  | false=>rfl
  | true=>rw [h.dA e] at hf;cases hf
 have hty:∀ k,v4.ownBlock=some k→∃ cs,Blk W k 90 cs∧n+10≤k:=fun k e=>own_blk hA e
 have ap:∀ (t0:TypeId),t0≠90→∀ k,v4.ownBlock=some k→∃ t cs,Blk W k t cs∧t0≠t:=fun t0 hne k e=>by obtain ⟨cs,h1,_⟩:=hty k e;exact ⟨_,cs,h1,hne⟩
 have e3:=getG_same (listed:=l) (i:=3) hs
 have e7:=getG_ne (listed:=l) (i:=3) (j:=7) (by decide)
 have e8:=getG_ne (listed:=l) (i:=3) (j:=8) (by decide)
 have e9:=getG_ne (listed:=l) (i:=3) (j:=9) (by decide)
 constructor
 ·refine h.k.mv hg (fun k e=>?_)
  obtain ⟨cs,h1,h2⟩:=hty k e
  exact ⟨⟨by unfold paX;omega,by omega,by omega,by omega,fun e2=>h.k.n8 (by rw [e,e2])⟩,_,cs,h1,by decide⟩
 ·rw [e3];exact fun e=>by cases e
 ·rw [e8];exact fun e=>(h.A4 e).grown hg (blk_apart (h.A4 e) (ap _ (by decide)))
 ·rw [e8,h8];exact fun e=>by cases e
 ·rw [e8,e3];exact fun _=>rfl
 ·rw [e7];exact fun e=>OwnI.kept (h.B e) hg (ownT_apart (h.B e) (ap _ (by decide)))
 ·rw [e9];exact fun e=>(h.B5 e).grown hg (blk_apart (h.B5 e) (ap _ (by decide)))
 ·rw [e9];exact fun e=>by obtain ⟨v,h1,h2⟩:=h.B9 e;exact ⟨v,h1.grown hg (blk_apart h1 (ap _ (by decide))),OwnI.kept h2 hg (ownT_apart h2 (ap _ (by decide)))⟩
 ·rw [e9,e7];exact h.dB
 ·exact fun _=>getG_on h0
 ·rw [e7];exact fun e=>getG_on (h.d7 e)
theorem J12.at7 (h:J12 n g8 W0 v4 v5 qs ps q a l W) (hf:l.getD 7 false=false) (h4:l.getD 4 false=true) (hs:7<l.size) (hg:W.grownBy W' v5.ownBlock):J12 n g8 W0 v4 v5 qs ps q a (l.setIfInBounds 7 true) W':=by
 have hB:=h.B hf
 have h9:l.getD 9 false=false:=by
  cases e:l.getD 9 false with
  | false=>rfl
  | true=>rw [h.dB e] at hf;cases hf
 have hty:∀ k,v5.ownBlock=some k→∃ cs,Blk W k 3 cs∧n+10≤k:=fun k e=>own_blk hB e
 have ap:∀ (t0:TypeId),t0≠3→∀ k,v5.ownBlock=some k→∃ t cs,Blk W k t cs∧t0≠t:=fun t0 hne k e=>by obtain ⟨cs,h1,_⟩:=hty k e;exact ⟨_,cs,h1,hne⟩
 have e7:=getG_same (listed:=l) (i:=7) hs
 have e3:=getG_ne (listed:=l) (i:=7) (j:=3) (by decide)
 have e8:=getG_ne (listed:=l) (i:=7) (j:=8) (by decide)
 have e9:=getG_ne (listed:=l) (i:=7) (j:=9) (by decide)
 constructor
 ·refine h.k.mv hg (fun k e=>?_)
  obtain ⟨cs,h1,h2⟩:=hty k e
  exact ⟨⟨by unfold paX;omega,by omega,by omega,by omega,fun e2=>Blk.ne_ (h.k.x8) (e2 ▸ h1) (by decide) rfl⟩,_,cs,h1,by decide⟩
 ·rw [e3];exact fun e=>(h.A e).kept hg (ownT_apart (h.A e) (ap _ (by decide)))
 ·rw [e8];exact fun e=>(h.A4 e).grown hg (blk_apart (h.A4 e) (ap _ (by decide)))
 ·rw [e8];exact fun e=>by obtain ⟨v,h1,h2⟩:=h.A8 e;exact ⟨v,h1.grown hg (blk_apart h1 (ap _ (by decide))),h2.kept hg (ownT_apart h2 (ap _ (by decide)))⟩
 ·rw [e8,e3];exact h.dA
 ·rw [e7];exact fun e=>by cases e
 ·rw [e9];exact fun e=>(h.B5 e).grown hg (blk_apart (h.B5 e) (ap _ (by decide)))
 ·rw [e9,h9];exact fun e=>by cases e
 ·rw [e9,e7];exact fun _=>rfl
 ·rw [e3];exact fun e=>getG_on (h.d3 e)
 ·exact fun _=>getG_on h4
theorem J12.at8 (h:J12 n g8 W0 v4 v5 qs ps q a l W) (hf:l.getD 8 false=false) (h3:l.getD 3 false=true) (hs:8<l.size) {v:Value} (ho:OwnK elP W (n+10) v (qs++[q])):J12 n g8 W0 v4 v5 qs ps q a (l.setIfInBounds 8 true) (W.setCell ⟨n+2,0,none⟩ v):=by
 have hk:=h.A4 hf
 have hg:W.grownBy (W.setCell ⟨n+2,0,none⟩ v) (some (n+2)):=only_setCell (p:=⟨n+2,0,none⟩) (World.grownBy.refl W _) (.inl rfl) v
 have ap:∀ (t0:TypeId),t0≠165→∀ k,some (n+2)=some k→∃ t cs,Blk W k t cs∧t0≠t:=fun t0 hne k e=>by obtain rfl:=Option.some.inj e;exact ⟨_,_,hk,hne⟩
 have e8:=getG_same (listed:=l) (i:=8) hs
 have e3:=getG_ne (listed:=l) (i:=8) (j:=3) (by decide)
 have e7:=getG_ne (listed:=l) (i:=8) (j:=7) (by decide)
 have e9:=getG_ne (listed:=l) (i:=8) (j:=9) (by decide)
 have hh8:=h.k.h8
 constructor
 ·refine h.k.mv hg (fun k e=>?_)
  obtain rfl:=Option.some.inj e
  exact ⟨⟨by unfold paX;omega,by omega,by omega,by omega,by omega⟩,_,_,hk,by decide⟩
 ·rw [e3,h3];exact fun e=>by cases e
 ·rw [e8];exact fun e=>by cases e
 ·exact fun _=>⟨v,hk.set_ 0 v,ho.kept hg (ownT_apart ho (ap _ (by decide)))⟩
 ·rw [e3];exact fun _=>h3
 ·rw [e7];exact fun e=>OwnI.kept (h.B e) hg (ownT_apart (h.B e) (ap _ (by decide)))
 ·rw [e9];exact fun e=>(h.B5 e).grown hg (blk_apart (h.B5 e) (ap _ (by decide)))
 ·rw [e9];exact fun e=>by obtain ⟨v,h1,h2⟩:=h.B9 e;exact ⟨v,h1.grown hg (blk_apart h1 (ap _ (by decide))),OwnI.kept h2 hg (ownT_apart h2 (ap _ (by decide)))⟩
 ·rw [e9,e7];exact h.dB
 ·rw [e3];exact fun e=>getG_on (h.d3 e)
 ·rw [e7];exact fun e=>getG_on (h.d7 e)
theorem J12.at9 (h:J12 n g8 W0 v4 v5 qs ps q a l W) (hf:l.getD 9 false=false) (h7:l.getD 7 false=true) (hs:9<l.size) {v:Value} (ho:OwnI W (n+10) v (ps++[a])):J12 n g8 W0 v4 v5 qs ps q a (l.setIfInBounds 9 true) (W.setCell ⟨n+3,0,none⟩ v):=by
 have hk:=h.B5 hf
 have hg:W.grownBy (W.setCell ⟨n+3,0,none⟩ v) (some (n+3)):=only_setCell (p:=⟨n+3,0,none⟩) (World.grownBy.refl W _) (.inl rfl) v
 have ap:∀ (t0:TypeId),t0≠31→∀ k,some (n+3)=some k→∃ t cs,Blk W k t cs∧t0≠t:=fun t0 hne k e=>by obtain rfl:=Option.some.inj e;exact ⟨_,_,hk,hne⟩
 have e9:=getG_same (listed:=l) (i:=9) hs
 have e3:=getG_ne (listed:=l) (i:=9) (j:=3) (by decide)
 have e7:=getG_ne (listed:=l) (i:=9) (j:=7) (by decide)
 have e8:=getG_ne (listed:=l) (i:=9) (j:=8) (by decide)
 have hh8:=h.k.h8
 constructor
 ·refine h.k.mv hg (fun k e=>?_)
  obtain rfl:=Option.some.inj e
  exact ⟨⟨by unfold paX;omega,by omega,by omega,by omega,by omega⟩,_,_,hk,by decide⟩
 ·rw [e3];exact fun e=>(h.A e).kept hg (ownT_apart (h.A e) (ap _ (by decide)))
 ·rw [e8];exact fun e=>(h.A4 e).grown hg (blk_apart (h.A4 e) (ap _ (by decide)))
 ·rw [e8];exact fun e=>by obtain ⟨v,h1,h2⟩:=h.A8 e;exact ⟨v,h1.grown hg (blk_apart h1 (ap _ (by decide))),h2.kept hg (ownT_apart h2 (ap _ (by decide)))⟩
 ·rw [e8,e3];exact h.dA
 ·rw [e7,h7];exact fun e=>by cases e
 ·rw [e9];exact fun e=>by cases e
 ·exact fun _=>⟨v,hk.set_ 0 v,OwnI.kept ho hg (ownT_apart ho (ap _ (by decide)))⟩
 ·rw [e7];exact fun _=>h7
 ·rw [e3];exact fun e=>getG_on (h.d3 e)
 ·rw [e7];exact fun e=>getG_on (h.d7 e)
theorem J12.l8 (h:J12 n g8 W0 v4 v5 qs ps q a l W) (h0:l.getD 0 false=false):l.getD 8 false=false:=by
 cases e:l.getD 8 false with
 | false=>rfl
 | true=>rw [h.d3 (h.dA e)] at h0;cases h0
theorem J12.l9 (h:J12 n g8 W0 v4 v5 qs ps q a l W) (h0:l.getD 4 false=false):l.getD 9 false=false:=by
 cases e:l.getD 9 false with
 | false=>rfl
 | true=>rw [h.d7 (h.dB e)] at h0;cases h0
theorem j12_start {w2:World} (h:PaM n W0 a v4 v5 qs ps W) (hb:Below W.heap.size W w2) (ho:OwnP w2 (n+10) (slQ q) q.1.rg) (hk:LnOk q.1) (hs:n+10≤w2.heap.size):J12 n w2.heap.size W0 v4 v5 qs ps q a (Array.replicate 10 false) (w2.alloc (.cells (lnF q).toArray 90)).drew:=by
 have h2:=h.below hb
 have hal:=((Below.refl w2.heap.size w2).alloc (Nat.le_refl _) (.cells (lnF q).toArray 90)).drew
 have h3:=h2.below hal
 have hz:∀ k,(Array.replicate 10 false).getD k false=false:=fun k=>by
  rw [Array.getD_eq_getD_getElem?,Array.getElem?_replicate]
  split <;> rfl
 refine ⟨⟨h3.b2,h3.b3,h3.b6,(Blk.new w2 _ _).drew,fun e=>by have:=(h2.rA.lt _ e).2;omega,hs,fun p hp=>?_,h3.fr,fun k e=>(h3.rA.lt k e).2,fun k e=>(World.ownsRow.lt h3.rB k e).2⟩,fun _=>h3.rA,fun _=>h3.b4,fun e=>?_,fun e=>?_,fun _=>h3.rB,fun _=>h3.b5,fun e=>?_,fun e=>?_,fun e=>?_,fun e=>?_⟩
 ·rcases List.mem_append.1 hp with hp | hp
  ·exact h3.inn p hp
  ·rw [List.mem_singleton.1 hp];exact ⟨ho.below hal,hk⟩
 all_goals (rw [hz] at e;cases e)
theorem J12.out (h:J12 n g8 W0 v4 v5 qs ps q a l W) (h8:l.getD 8 false=true) (h9:l.getD 9 false=true):∃ v4' v5',PaM n W0 a v4' v5' (qs++[q]) (ps++[a]) W:=by
 obtain ⟨v4',e4,eA⟩:=h.A8 h8
 obtain ⟨v5',e5,eB⟩:=h.B9 h9
 exact ⟨v4',v5',h.k.b2,h.k.b3,e4,e5,h.k.b6,eA,eB,h.k.inn,h.k.fr⟩
theorem r12_keep (hg:W.grownBy W' r) (c2:∀ g cs,Blk W g 90 cs→v4.ownBlock≠some g→some g≠r) (c6:∀ g cs,Blk W g 3 cs→v5.ownBlock≠some g→some g≠r) {i:Nat}
  (c3:i=3→∀ k,r=some k→∃ t cs,Blk W k t cs∧90≠t) (c7:i=7→∀ k,r=some k→∃ t cs,Blk W k t cs∧3≠t) {u:Value} (h:r12 n v4 v5 qs ps q a i W u):r12 n v4 v5 qs ps q a i W' u:=by
 match i,h,c3,c7 with
 | 0,h,_,_=>exact h
 | 1,h,_,_=>exact h
 | 2,h,_,_=>obtain ⟨g,h1,h2,h3⟩:=h;exact ⟨g,h1,h2.grown hg (c2 g _ h2 h3),h3⟩
 | 3,h,c3,_=>exact OwnK.kept h hg (ownT_apart h (c3 rfl))
 | 4,h,_,_=>exact h
 | 5,h,_,_=>exact h
 | 6,h,_,_=>obtain ⟨g,h1,h2,h3⟩:=h;exact ⟨g,h1,h2.grown hg (c6 g _ h2 h3),h3⟩
 | 7,h,_,c7=>exact OwnI.kept h hg (ownT_apart h (c7 rfl))
 | (k+8),h,_,_=>trivial
theorem r12_below (hb:Below W.heap.size W W') {i:Nat} {u:Value} (h:r12 n v4 v5 qs ps q a i W u):r12 n v4 v5 qs ps q a i W' u :=
 r12_keep (only_of_below hb none) (fun _ _ _ _ e=>by cases e) (fun _ _ _ _ e=>by cases e) (fun _ _ e=>by cases e) (fun _ _ e=>by cases e) h
end
end Go.Proofs.YtojgbcmhdnappaaGreatDoor
namespace Go.Proofs.YtojgbcmhdnappaaGreatDoor
open Go.RowKit Go.Shelf
set_option maxRecDepth 100000
def r11 (n:Nat) (u:Value) (f1 a:Int):Nat→World→Value→Prop
 | 0,_,v=>v=u
 | 1,_,v=>v=.int .i64 f1
 | 2,_,v=>v=.int .i64 a
 | 3,_,v=>v=.agg #[.int .i64 f1,.int .i64 a]
 | 4,w,v=>∃ g,v=.pointer (some ⟨g,0,none⟩)∧n+10≤g∧Blk w g 185 #[.int .i64 f1,.int .i64 a]
 | 5,w,v=>∃ g,v=.iface 183 (.pointer (some ⟨g,0,none⟩))∧n+10≤g∧Blk w g 185 #[.int .i64 f1,.int .i64 a]
 | _,_,_=>True
def errU (u:Value) (f1:Int) (W:World):Prop:=u=.iface 41 (.int .i64 f1)∨∃ b p,u=.iface 183 (.pointer (some ⟨b,0,none⟩))∧Blk W b 185 #[.int .i64 f1,.int .i64 p]
theorem errU_of {u:Value} {f:Int×Int} {W:World} (h:IsErr W u f) (h0:f.1≠0):errU u f.1 W∧1≤f.1∧f.1≤13:=by
 rcases h with ⟨e,_⟩ | ⟨_,h1,h2,e⟩ | ⟨b,_,h1,h2,_,e,hk⟩
 ·exact absurd (by rw [e]) h0
 ·exact ⟨.inl e,h1,h2⟩
 ·exact ⟨.inr ⟨b,_,e,hk⟩,h1,h2⟩
structure J11 (n:Nat) (W0:World) (u:Value) (f1 a:Int) (l:Array Bool) (W:World):Prop where
 b2:Blk W n 22 #[.pointer none]
 b6:Blk W (n+4) 3 #[.int .i64 a]
 n3:l.getD 7 false=false→Blk W (n+1) 37 #[.nilIface]
 y3:l.getD 7 false=true→∃ g,Blk W (n+1) 37 #[.iface 183 (.pointer (some ⟨g,0,none⟩))]∧n+10≤g∧Blk W g 185 #[.int .i64 f1,.int .i64 a]
 fr:Fr (paX n) W0 W
 big:n+10≤W.heap.size
 er:errU u f1 W
section
variable {n:Nat} {W0 W W':World} {u:Value} {f1 a:Int} {l:Array Bool}
theorem J11.calm (h:J11 n W0 u f1 a l W) {i:Nat} (hi:i≠7) (hb:Below W.heap.size W W'):J11 n W0 u f1 a (l.setIfInBounds i true) W':=by
 have e7:=getG_ne (listed:=l) (i:=i) (j:=7) hi
 refine ⟨h.b2.below hb h.b2.lt,h.b6.below hb h.b6.lt,?_,?_,h.fr.trans (.of_below hb (Nat.le_refl _)),Nat.le_trans h.big hb.size,?_⟩
 ·rw [e7];exact fun e=>(h.n3 e).below hb (h.n3 e).lt
 ·rw [e7];exact fun e=>by obtain ⟨g,h1,h2,h3⟩:=h.y3 e;exact ⟨g,h1.below hb h1.lt,h2,h3.below hb h3.lt⟩
 ·rcases h.er with e | ⟨b,p,e,hk⟩
  ·exact .inl e
  ·exact .inr ⟨b,p,e,hk.below hb hk.lt⟩
theorem errU.set (h:errU u f1 W) {g:Nat} {t:TypeId} {cs:Array Value} (hk:Blk W g t cs) (hne:185≠t) (v:Value):errU u f1 (W.setCell ⟨g,0,none⟩ v):=by
 rcases h with e | ⟨b,p,e,hb⟩
 ·exact .inl e
 ·exact .inr ⟨b,p,e,hb.far (Blk.ne_ hb hk hne) v⟩
theorem J11.at6 (h:J11 n W0 u f1 a l W):J11 n W0 u f1 a (l.setIfInBounds 6 true) (W.setCell ⟨n,0,none⟩ (.pointer none)):=by
 have e7:=getG_ne (listed:=l) (i:=6) (j:=7) (by decide)
 refine ⟨h.b2.set_ 0 _,h.b6.far (by show n+4≠n;omega) _,?_,?_,h.fr.set_ (p:=⟨n,0,none⟩) (by show paX n n;unfold paX;omega) _,by have:=h.big;simpa [World.setCell] using this,h.er.set h.b2 (by decide) _⟩
 ·rw [e7];exact fun e=>(h.n3 e).far (by show n+1≠n;omega) _
 ·rw [e7];exact fun e=>by obtain ⟨g,h1,h2,h3⟩:=h.y3 e;exact ⟨g,h1.far (by show n+1≠n;omega) _,h2,h3.far (by show g≠n;omega) _⟩
theorem J11.at7 (h:J11 n W0 u f1 a l W) (hf:l.getD 7 false=false) (hs:7<l.size) {g:Nat} (hg:n+10≤g) (hk:Blk W g 185 #[.int .i64 f1,.int .i64 a]):J11 n W0 u f1 a (l.setIfInBounds 7 true) (W.setCell ⟨n+1,0,none⟩ (.iface 183 (.pointer (some ⟨g,0,none⟩)))):=by
 have e7:=getG_same (listed:=l) (i:=7) hs
 refine ⟨h.b2.far (by show n≠n+1;omega) _,h.b6.far (by show n+4≠n+1;omega) _,?_,?_,h.fr.set_ (p:=⟨n+1,0,none⟩) (by show paX n (n+1);unfold paX;omega) _,by have:=h.big;simpa [World.setCell] using this,h.er.set (h.n3 hf) (by decide) _⟩
 ·rw [e7];exact fun e=>by cases e
 ·exact fun _=>⟨g,(h.n3 hf).set_ 0 _,hg,hk.far (by show g≠n+1;omega) _⟩
theorem j11_start {w2:World} {v4 v5:Value} {qs:List LnQ} {ps:List Int} (h:PaM n W0 a v4 v5 qs ps W) (hb:Below W.heap.size W w2) (he:errU u f1 w2) (hs:n+10≤w2.heap.size) (o:Obj):J11 n W0 u f1 a (Array.replicate 8 false) (w2.alloc o).drew:=by
 have hal:=((Below.refl w2.heap.size w2).alloc (Nat.le_refl _) o).drew
 have h3:=(h.below hb).below hal
 have hz:∀ k,(Array.replicate 8 false).getD k false=false:=fun k=>by
  rw [Array.getD_eq_getD_getElem?,Array.getElem?_replicate]
  split <;> rfl
 refine ⟨h3.b2,h3.b6,fun _=>h3.b3,fun e=>?_,h3.fr,Nat.le_trans hs hal.size,?_⟩
 ·rw [hz] at e;cases e
 ·rcases he with e | ⟨b,p,e,hk⟩
  ·exact .inl e
  ·exact .inr ⟨b,p,e,hk.below hal hk.lt⟩
theorem r11_keep {i:Nat} {v:Value} (hk:∀ g cs,n+10≤g→Blk W g 185 cs→Blk W' g 185 cs) (h:r11 n u f1 a i W v):r11 n u f1 a i W' v:=by
 match i,h with
 | 0,h=>exact h
 | 1,h=>exact h
 | 2,h=>exact h
 | 3,h=>exact h
 | 4,h=>obtain ⟨g,h1,h2,h3⟩:=h;exact ⟨g,h1,h2,hk _ _ h2 h3⟩
 | 5,h=>obtain ⟨g,h1,h2,h3⟩:=h;exact ⟨g,h1,h2,hk _ _ h2 h3⟩
 | (k+6),h=>trivial
theorem r11_below (hb:Below W.heap.size W W') {i:Nat} {v:Value} (h:r11 n u f1 a i W v):r11 n u f1 a i W' v:=r11_keep (fun _ _ _ hk=>hk.below hb hk.lt) h
theorem tellU {u:Value} {f1:Int} {W:World} (h:errU u f1 W) (hG:GlobE W):Calls Tryz.prog 92 #[u] W (TellPost W f1):=by
 rcases h with rfl | ⟨b,p,rfl,hk⟩
 ·exact tell_errno f1 W hG
 ·exact tell_at b f1 p W hG hk
theorem J11.out {w0:World} {t:ByteArray} {A:Nat} (h:J11 w0.heap.size W0 u f1 (A:Int) l W) (h7:l.getD 7 false=true) (hb:Below w0.heap.size w0 W0) (h1:1≤f1) (h2:f1≤13) (hl:linesR (nlL t) 0 [] []=.inl (f1,(A:Int))):Fr (paX w0.heap.size) W0 W∧PaX w0 t W:=by
 obtain ⟨g,e1,e2,e3⟩:=h.y3 h7
 refine ⟨h.fr,h.b2,⟨_,(f1,(A:Int)),e1,.inr (.inr ⟨g,e3.lt,h1,h2,by show (0:Int)≤(A:Int);omega,rfl,e3⟩),fun b e=>?_,by show f1≠0;omega,hl⟩,hb.trans (h.fr.to_below hb.size (fun k hk=>by unfold paX;omega))⟩
 injection e with _ e
 injection e with e
 injection e with e
 injection e with e
 omega
end
end Go.Proofs.YtojgbcmhdnappaaGreatDoor
