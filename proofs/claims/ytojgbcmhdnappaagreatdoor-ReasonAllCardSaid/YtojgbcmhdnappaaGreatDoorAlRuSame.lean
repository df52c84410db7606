/-
  A part of the proof: RuSame. Conditions: none.
-/
import Derived.Test.YtojgbcmhdnappaaGreatDoorAlReaPure
import Derived.Test.YtojgbcmhdnappaaGreatDoorAlPaR11
import Derived.Test.YtojgbcmhdnappaaGreatDoorAlCatClone
import Derived.BigRegion
import Derived.Test.YtojgbcmhdnappaaGreatDoorAlCalm
namespace Go.Proofs.YtojgbcmhdnappaaGreatDoor
open Go.RowKit
set_option maxRecDepth 100000
abbrev ClQ:=List Int×(Option Addr×Nat×Nat)
def slC (q:ClQ):Value:=.slice q.2.1 q.2.2.1 q.2.2.2
def elC:ElK ClQ:=⟨125,1,fun q=>[slC q],by decide,fun _=>rfl,fun q u hu=>by rw [List.mem_singleton.1 hu];rfl⟩
theorem clauseInfoK:(Tryz.prog.info? 125).map (fun i=>(i.zero,i.size,i.bytes))=some (some (.slice none 0 0),1,24):=by kernel_rfl
def OwnX (w:World) (base:Nat) (vF u:Value) (zs:List Int):Prop:=OwnI w base u zs∧(u.ownBlock=none∨u.ownBlock≠vF.ownBlock)
structure RuM (w:World) (base:Nat) (v vF:Value) (cs:List (List Int)) (fs:List Int):Prop where
 is:∃ qs:List ClQ,qs.map (·.1)=cs∧OwnK elC w base v qs∧∀ q∈qs,OwnX w base vF (slC q) q.1
 fro:OwnI w base vF fs
def KeepT (w w':World):Prop:=∀ k t cs,Blk w k t cs→t≠125→t≠3→t≠112→Blk w' k t cs
section
variable {w w' w1 w2:World} {base base':Nat} {v vF vF' u:Value} {cs:List (List Int)} {fs zs:List Int}
theorem KeepT.trans (h:KeepT w w1) (k:KeepT w1 w2):KeepT w w2:=fun i t c hb a b d=>k i t c (h i t c hb a b d) a b d
theorem KeepT.of_below (h:Below w.heap.size w w'):KeepT w w':=fun _ _ _ hb _ _ _=>hb.below h hb.lt
theorem KeepT.of_grown {r:Option Nat} (hg:w.grownBy w' r) (hr:∀ k,r=some k→∃ t cs,Blk w k t cs∧(t=125∨t=3∨t=112)):KeepT w w':=fun i t c hb a b d=>by
 refine (hg.block i hb.lt fun e=>?_).trans hb
 obtain ⟨t',c',h1,h2⟩:=hr i e.symm
 have:t=t':=by
  unfold Blk at hb h1
  rw [hb] at h1
  injection h1 with h1
  injection h1 with _ h1 _
 subst this
 rcases h2 with h2 | h2 | h2
 ·exact a h2
 ·exact b h2
 ·exact d h2
theorem OwnK.keepT {α:Type} {E:ElK α} {l:List α} (h:OwnK E w base v l) (hk:KeepT w w') (h1:E.t≠125) (h2:E.t≠3) (h3:E.t≠112):OwnK E w' base v l:=by
 refine ⟨h.1,?_⟩
 rcases h.2 with h0 | ⟨g,cap,cur,e,hg,hgc,r⟩
 ·exact .inl h0
 ·exact .inr ⟨g,cap,cur,e,hg,hk g E.t cur hgc h1 h2 h3,r⟩
theorem OwnX.below (h:OwnX w base vF u zs) (hb:Below w.heap.size w w'):OwnX w' base vF u zs:=⟨OwnI.below h.1 hb,h.2⟩
theorem OwnX.mono (h:OwnX w base vF u zs) (hb:base'≤base):OwnX w base' vF u zs:=⟨h.1.mono hb,h.2⟩
theorem OwnX.of_lt {B:Nat} (h:OwnI w B u zs) (hl:∀ k,vF.ownBlock=some k→k<B):OwnX w B vF u zs:=by
 refine ⟨h,?_⟩
 cases e:u.ownBlock with
 | none=>exact .inl rfl
 | some k =>
  refine .inr fun e2=>?_
  have h1:=(World.ownsRow.lt h k e).1
  have h2:=hl k e2.symm
  omega
theorem OwnX.push (h:OwnX w base vF u zs) (hg:w.grownBy w' vF.ownBlock) (hor:vF'.ownBlock=vF.ownBlock∨vF'.ownBlock=some w.heap.size):OwnX w' base vF' u zs:=⟨OwnI.kept h.1 hg h.2,by
 rcases h.2 with h8 | h8
 ·exact .inl h8
 ·rcases hor with e | e
  ·rw [e];exact .inr h8
  ·rw [e]
   cases e9:u.ownBlock with
   | none=>exact .inl rfl
   | some k =>
    refine .inr fun e8=>?_
    have:=(World.ownsRow.lt h.1 k e9).2
    have:=Option.some.inj e8
    omega⟩
theorem RuM.below (h:RuM w base v vF cs fs) (hb:Below w.heap.size w w'):RuM w' base v vF cs fs:=by
 obtain ⟨qs,h1,h2,h3⟩:=h.is
 exact ⟨⟨qs,h1,h2.below hb,fun _ hq=>(h3 _ hq).below hb⟩,OwnI.below h.fro hb⟩
theorem RuM.nil (w:World) (base:Nat):RuM w base (.slice none 0 0) (.slice none 0 0) [] []:=⟨⟨[],rfl,ownK_nil _ _ _,fun _ hq=>absurd hq List.not_mem_nil⟩,ownI_nil _ _⟩
theorem RuM.mono (h:RuM w base v vF cs fs) (hb:base'≤base):RuM w base' v vF cs fs:=by
 obtain ⟨qs,h1,h2,h3⟩:=h.is
 exact ⟨⟨qs,h1,h2.mono hb,fun q hq=>(h3 q hq).mono hb⟩,h.fro.mono hb⟩
theorem RuM.form (h:RuM w base v vF cs fs):∃ A c A' c',v=.slice A cs.length c∧vF=.slice A' fs.length c':=by
 obtain ⟨qs,h1,h2,_⟩:=h.is
 obtain ⟨A,c,e,_⟩:=h2.len
 obtain ⟨A',c',e'⟩:=h.fro.len
 refine ⟨A,c,A',c',?_,e'⟩
 rw [e,←h1,List.length_map]
theorem RuM.fresh (h:RuM w base v vF cs fs) (ho:OwnI w' w.heap.size u zs):OwnX w' w.heap.size vF u zs:=by
 refine ⟨ho,?_⟩
 cases e:u.ownBlock with
 | none=>exact .inl rfl
 | some k =>
  refine .inr fun e2=>?_
  have h1:=(World.ownsRow.lt ho k e).1
  have h2:=(World.ownsRow.lt h.fro k e2.symm).2
  omega
theorem RuM.pushC (h:RuM w base v vF cs fs) {q:ClQ} (hq:OwnX w base vF (slC q) q.1) {v':Value} {qs:List ClQ} (hqs:qs.map (·.1)=cs) (hall:∀ p∈qs,OwnX w base vF (slC p) p.1) (hown:OwnK elC w base v qs) (ho:OwnK elC w' base v' (qs++[q])) (hg:w.grownBy w' v.ownBlock) :
  RuM w' base v' vF (cs++[q.1]) fs∧(∀ b' u zs',OwnX w b' vF u zs'→OwnX w' b' vF u zs')∧KeepT w w':=by
 have key:∀ b' u zs',OwnX w b' vF u zs'→OwnX w' b' vF u zs':=fun b' u zs' h9=>⟨OwnI.kept h9.1 hg (apart_rows h9.1 hown (by decide)),h9.2⟩
 refine ⟨⟨⟨qs++[q],by rw [List.map_append,hqs];rfl,ho,fun p hp=>?_⟩,OwnI.kept h.fro hg (apart_rows h.fro hown (by decide))⟩,key,KeepT.of_grown hg fun k e=>?_⟩
 ·rcases List.mem_append.1 hp with hp | hp
  ·exact key _ _ _ (hall p hp)
  ·rw [List.mem_singleton.1 hp];exact key _ _ _ hq
 ·obtain ⟨c9,h1,_⟩:=own_blk hown e
  exact ⟨_,c9,h1,.inl rfl⟩
theorem RuM.pushF (h:RuM w base v vF cs fs) {f:Int} (ho:OwnI w' base vF' (fs++[f])) (hg:w.grownBy w' vF.ownBlock) (hor:vF'.ownBlock=vF.ownBlock∨vF'.ownBlock=some w.heap.size) :
  RuM w' base v vF' cs (fs++[f])∧(∀ b' u zs',OwnX w b' vF u zs'→OwnX w' b' vF' u zs')∧KeepT w w':=by
 obtain ⟨qs,h1,h2,h3⟩:=h.is
 have key:∀ b' u zs',OwnX w b' vF u zs'→OwnX w' b' vF' u zs':=fun b' u zs' h9=>⟨OwnI.kept h9.1 hg h9.2,by
  rcases h9.2 with h8 | h8
  ·exact .inl h8
  ·rcases hor with e | e
   ·rw [e];exact .inr h8
   ·rw [e]
    cases e9:u.ownBlock with
    | none=>exact .inl rfl
    | some k =>
     refine .inr fun e8=>?_
     have:=(World.ownsRow.lt h9.1 k e9).2
     have:=Option.some.inj e8
     omega⟩
 refine ⟨⟨⟨qs,h1,h2.kept hg (apart_rows h2 h.fro (by decide)),fun q hq=>key _ _ _ (h3 q hq)⟩,ho⟩,key,KeepT.of_grown hg fun k e=>?_⟩
 obtain ⟨c9,h4,_⟩:=own_blk h.fro e
 exact ⟨_,c9,h4,.inr (.inl rfl)⟩
end
theorem appRu (w:World) {ops:Array Oper} {rest:List Oper} {o:Oper} {a:Act} {Q:Exit→Act→World→Prop} (hgd:o.guard=none) (s x:Operand) (t:TypeId)
  (ho:o.op=.call { callee:=.builtin .append,args:=#[s,x],argTypes:=#[t,t] }) (base:Nat) (ht:Tryz.prog.underlying t=some (.slice 125))
  (v vF:Value) (cs:List (List Int)) (fs:List Int) (hs:a.eval s=v) (h:RuM w base v vF cs fs) (b c:Nat) (A:Option Addr) (n c':Nat) (zs:List Int) (hx:a.eval x=.slice (some ⟨b,0,none⟩) 1 c) (hk:Blk w b 125 #[.slice A n c']) (hz:OwnX w base vF (.slice A n c') zs)
  (hl:cs.length≤90000000) (hbase:base≤w.heap.size)
  (K:∀ v' w',RuM w' base v' vF (cs++[zs]) fs→(∀ b' u zs',OwnX w b' vF u zs'→OwnX w' b' vF u zs')→KeepT w w'→Below base w w'→wpList Tryz.prog ops Q rest (a.put o.dst v') w'):wpList Tryz.prog ops Q (o :: rest) a w:=by
 obtain ⟨qs,h1,h2,h3⟩:=h.is
 refine appK1 elC w clauseInfoK rfl (by decide) hgd s x t ho base ht v qs hs h2 b c (zs,A,n,c') hx hk (by rw [←h1,List.length_map] at hl;exact hl) hbase ?_
 intro v' w' ho' hg' _
 obtain ⟨k1,k2,k3⟩:=h.pushC (q:=(zs,A,n,c')) hz h1 h3 h2 ho' hg'
 exact K v' w' k1 k2 k3 ((Below.refl base w).grown hg' hbase fun k e=>(h2.lt k e).1)
theorem appRf (w:World) {ops:Array Oper} {rest:List Oper} {o:Oper} {a:Act} {Q:Exit→Act→World→Prop} (hgd:o.guard=none) (s x:Operand) (t:TypeId)
  (ho:o.op=.call { callee:=.builtin .append,args:=#[s,x],argTypes:=#[t,t] }) (base:Nat) (ht:Tryz.prog.underlying t=some (.slice 3))
  (v vF:Value) (cs:List (List Int)) (fs:List Int) (hs:a.eval s=vF) (h:RuM w base v vF cs fs) (b c:Nat) (f:Int) (hx:a.eval x=.slice (some ⟨b,0,none⟩) 1 c) (hk:Blk w b 3 #[.int .i64 f])
  (hl:fs.length≤90000000) (hbase:base≤w.heap.size)
  (K:∀ v' w',RuM w' base v v' cs (fs++[f])→(∀ b' u zs',OwnX w b' vF u zs'→OwnX w' b' v' u zs')→KeepT w w'→Below base w w'→wpList Tryz.prog ops Q rest (a.put o.dst v') w'):wpList Tryz.prog ops Q (o :: rest) a w:=by
 refine appI w hgd s x t ho base ht vF fs hs h.fro (b+1) (some ⟨b,0,none⟩) 1 c [f] hx (blk_reads (zs:=[f]) hk) rfl (by simp;omega) hbase ?_
 intro v' w' ho' hg' hor
 obtain ⟨k1,k2,k3⟩:=h.pushF ho' hg' hor
 exact K v' w' k1 k2 k3 ((Below.refl base w).grown hg' hbase fun k e=>(World.ownsRow.lt h.fro k e).1)
end Go.Proofs.YtojgbcmhdnappaaGreatDoor
namespace Go.Proofs.YtojgbcmhdnappaaGreatDoor
open Go.RowKit
set_option maxRecDepth 100000
theorem RuM.formV {w:World} {base:Nat} {v vF:Value} {cs:List (List Int)} {fs:List Int} (h:RuM w base v vF cs fs):∃ A c,v=.slice A cs.length c:=by
 obtain ⟨A,c,_,_,e,_⟩:=h.form
 exact ⟨A,c,e⟩
theorem RuM.formF {w:World} {base:Nat} {v vF:Value} {cs:List (List Int)} {fs:List Int} (h:RuM w base v vF cs fs):∃ A c,vF=.slice A fs.length c:=by
 obtain ⟨_,_,A,c,_,e⟩:=h.form
 exact ⟨A,c,e⟩
theorem blk_new1 (w:World) (o:Obj) (t:TypeId) (cs:Array Value):Blk ((w.alloc o).alloc (.cells cs t)) (w.heap.size+1) t cs:=by
 have:=Blk.new (w.alloc o) t cs
 rwa [World.size_alloc] at this
theorem bAl {w w':World} (h:Below w.heap.size w w') (o:Obj):Below w.heap.size w (w'.alloc o):=h.alloc h.size o
theorem bDr {w w':World} (h:Below w.heap.size w w'):Below w.heap.size w w'.drew:=h.drew
theorem stepRu (w:World) {ops:Array Oper} {o:Oper} {a:Act} {K:Act→World→Prop} {Q:Exit→Act→World→Prop} {X:Prop} (hgd:o.guard=none) (s x:Operand) (t:TypeId)
  (ho:o.op=.call { callee:=.builtin .append,args:=#[s,x],argTypes:=#[t,t] }) (base:Nat) (ht:Tryz.prog.underlying t=some (.slice 125))
  (v vF:Value) (cs:List (List Int)) (fs:List Int) (hs:a.eval s=v) (h:RuM w base v vF cs fs) (b c:Nat) (A:Option Addr) (n c':Nat) (zs:List Int) (hx:a.eval x=.slice (some ⟨b,0,none⟩) 1 c) (hk:Blk w b 125 #[.slice A n c']) (hz:OwnX w base vF (.slice A n c') zs)
  (hl:cs.length≤90000000) (hbase:base≤w.heap.size)
  (K':∀ v' w',RuM w' base v' vF (cs++[zs]) fs→(∀ b' u zs',OwnX w b' vF u zs'→OwnX w' b' vF u zs')→KeepT w w'→Below base w w'→w.grownBy w' v.ownBlock→K (a.put o.dst v') w'):if Region.wanted o (yielded ops a.tmps)=true then Oper.wp Tryz.prog o a w K Q else X:=by
 obtain ⟨qs,h1,h2,h3⟩:=h.is
 refine stepK1 elC w clauseInfoK rfl (by decide) hgd s x t ho base ht v qs hs h2 b c (zs,A,n,c') hx hk (by rw [←h1,List.length_map] at hl;exact hl) hbase ?_
 intro v' w' ho' hg' _
 obtain ⟨k1,k2,k3⟩:=h.pushC (q:=(zs,A,n,c')) hz h1 h3 h2 ho' hg'
 exact K' v' w' k1 k2 k3 ((Below.refl base w).grown hg' hbase fun k e=>(h2.lt k e).1) hg'
theorem stepRf (w:World) {ops:Array Oper} {o:Oper} {a:Act} {K:Act→World→Prop} {Q:Exit→Act→World→Prop} {X:Prop} (hgd:o.guard=none) (s x:Operand) (t:TypeId)
  (ho:o.op=.call { callee:=.builtin .append,args:=#[s,x],argTypes:=#[t,t] }) (base:Nat) (ht:Tryz.prog.underlying t=some (.slice 3))
  (v vF:Value) (cs:List (List Int)) (fs:List Int) (hs:a.eval s=vF) (h:RuM w base v vF cs fs) (b c:Nat) (f:Int) (hx:a.eval x=.slice (some ⟨b,0,none⟩) 1 c) (hk:Blk w b 3 #[.int .i64 f])
  (hl:fs.length≤90000000) (hbase:base≤w.heap.size)
  (K':∀ v' w',RuM w' base v v' cs (fs++[f])→(∀ b' u zs',OwnX w b' vF u zs'→OwnX w' b' v' u zs')→KeepT w w'→Below base w w'→w.grownBy w' vF.ownBlock→K (a.put o.dst v') w'):if Region.wanted o (yielded ops a.tmps)=true then Oper.wp Tryz.prog o a w K Q else X:=by
 refine stepI1 w hgd s x t ho base ht vF fs hs h.fro (b+1) (some ⟨b,0,none⟩) 1 c [f] hx (blk_reads (zs:=[f]) hk) rfl (by simp;omega) hbase ?_
 intro v' w' ho' hg' hor
 obtain ⟨k1,k2,k3⟩:=h.pushF ho' hg' hor
 exact K' v' w' k1 k2 k3 ((Below.refl base w).grown hg' hbase fun k e=>(World.ownsRow.lt h.fro k e).1) hg'
structure AddR (w:World) (b base:Nat) (n vF v' vF':Value) (cs:List (List Int)) (fs:List Int) (w':World):Prop where
 box:Blk w' b 112 #[n,v',vF']
 rum:RuM w' base v' vF' cs fs
 own:∀ b' u zs',OwnX w b' vF u zs'→OwnX w' b' vF' u zs'
 keep:KeepT w w'
 bel:Below base w w'
def AddP (w:World) (b base:Nat) (n vF:Value) (cs:List (List Int)) (fs:List Int) (e:Ending) (w':World):Prop:=e=.returned (.tuple #[])∧∃ v' vF',AddR w b base n vF v' vF' cs fs w'
theorem AddR.stores {w W:World} {b base:Nat} {n v vF v' vF':Value} {cs:List (List Int)} {fs:List Int} (hk:Blk W b 112 #[n,v,vF]) (hr:RuM W base v' vF' cs fs) (ho:∀ b' u zs',OwnX w b' vF u zs'→OwnX W b' vF' u zs') (hkp:KeepT w W) (hb:Below base w W) (hbb:base≤b) :
  AddR w b base n vF v' vF' cs fs ((W.setCell ⟨b,1,none⟩ v').setCell ⟨b,2,none⟩ vF'):=by
 have g1:W.grownBy (W.setCell ⟨b,1,none⟩ v') (some b):=only_setCell (p:=⟨b,1,none⟩) (World.grownBy.refl W _) (.inl rfl) v'
 have hg:W.grownBy ((W.setCell ⟨b,1,none⟩ v').setCell ⟨b,2,none⟩ vF') (some b):=only_setCell (p:=⟨b,2,none⟩) g1 (.inl rfl) vF'
 have ap:∀ (t0:TypeId),t0≠112→∀ k,some b=some k→∃ t cs,Blk W k t cs∧t0≠t:=fun t0 hne k e=>by obtain rfl:=Option.some.inj e;exact ⟨_,_,hk,hne⟩
 have key:∀ b' u zs',OwnX W b' vF' u zs'→OwnX ((W.setCell ⟨b,1,none⟩ v').setCell ⟨b,2,none⟩ vF') b' vF' u zs':=fun b' u zs' h9=>⟨OwnI.kept h9.1 hg (ownT_apart h9.1 (ap _ (by decide))),h9.2⟩
 obtain ⟨qs,h1,h2,h3⟩:=hr.is
 refine ⟨(hk.set_ 1 v').set_ 2 vF',⟨⟨qs,h1,h2.kept hg (ownT_apart h2 (ap _ (by decide))),fun _ hq=>key _ _ _ (h3 _ hq)⟩,OwnI.kept hr.fro hg (ownT_apart hr.fro (ap _ (by decide)))⟩,fun _ _ _ h9=>key _ _ _ (ho _ _ _ h9),hkp.trans (KeepT.of_grown hg fun k e=>?_),(hb.setCell (p:=⟨b,1,none⟩) hbb v').setCell (p:=⟨b,2,none⟩) hbb vF'⟩
 obtain rfl:=Option.some.inj e
 exact ⟨_,_,hk,.inr (.inr rfl)⟩
structure AddH (w w8:World) (b base:Nat) (n v vF v8:Value) (cs:List (List Int)) (fs:List Int) (W:World):Prop where
 k:Blk w8 b 112 #[n,v,vF]
 r0:RuM w8 base v8 vF cs fs
 x:∀ b' u zs',OwnX W b' vF u zs'→OwnX w8 b' vF u zs'
 t:KeepT W w8
 l:Below base W w8
 bw:Below w.heap.size w W
 sz:W.heap.size≤w8.heap.size
 n:∀ g t cs,w.heap.size≤g→Blk W g t cs→Blk w8 g t cs
theorem AddH.r {w w8 W:World} {b base:Nat} {n v vF v8:Value} {cs:List (List Int)} {fs:List Int} (h:AddH w w8 b base n v vF v8 cs fs W) (W':World) (hb:Below w8.heap.size w8 W'):RuM W' base v8 vF cs fs:=h.r0.below hb
theorem AddH.fin {w w8 W W8 w9:World} {b base:Nat} {n v vF v8 v9:Value} {cs:List (List Int)} {fs fs':List Int} (h:AddH w w8 b base n v vF v8 cs fs W) (hb:Below w8.heap.size w8 W8) (hbs:base≤w.heap.size) (hr9:RuM w9 base v8 v9 cs fs') (hx9:∀ b' u zs',OwnX W8 b' vF u zs'→OwnX w9 b' v9 u zs') (hk9:KeepT W8 w9) (hb9:Below base W8 w9)
  (kb9:Blk w9 b 112 #[n,v,vF]) (hbb:base≤b):AddR w b base n vF v8 v9 cs fs' ((w9.setCell ⟨b,1,none⟩ v8).setCell ⟨b,2,none⟩ v9) :=
 AddR.stores kb9 hr9 (fun _ _ _ h9=>hx9 _ _ _ ((h.x _ _ _ (h9.below h.bw)).below hb)) ((((KeepT.of_below h.bw).trans h.t).trans (KeepT.of_below hb)).trans hk9)
  ((((h.bw.mono hbs).trans h.l).trans (hb.mono (Nat.le_trans hbs (Nat.le_trans h.bw.size h.sz)))).trans hb9) hbb
set_option maxHeartbeats 8000000 in
theorem add_any (b base:Nat) (n v vF:Value) (cs:List (List Int)) (fs:List Int) (A:Option Addr) (m c:Nat) (zs:List Int) (f:Int) (w:World) (hk:Blk w b 112 #[n,v,vF]) (h:RuM w base v vF cs fs) (hz:OwnX w base vF (.slice A m c) zs) (hbb:base≤b) (hl:cs.length≤90000000) (hl2:fs.length≤90000000) :
  Calls Tryz.prog 97 #[.int .i64 f,.slice A m c,.pointer (some ⟨b,0,none⟩)] w (AddP w b base n vF (cs++[zs]) (fs++[f])):=by
 obtain ⟨Av,cv,Af,cf,rfl,rfl⟩:=h.form
 have HM:=Lib.hid (fun W (hb:Below w.heap.size w W)=>h.below hb)
 have HZ:=Lib.hid (fun W (hb:Below w.heap.size w W)=>hz.below hb)
 have HK:=Lib.hid (fun W (hb:Below w.heap.size w W)=>hk.below hb hk.lt)
 have HBS:=Lib.hid (show base≤w.heap.size from Nat.le_trans hbb (Nat.le_of_lt hk.lt))
 have HL:=Lib.hid hl
 have HL2:=Lib.hid hl2
 have HBB:=Lib.hid hbb
 have lb:=hk.lt
 have y1:=hk.cell 1
 have y2:=hk.cell 2
 have HNV:=Lib.hid (fun (W W':World) (hb:Below w.heap.size w W) (hg:W.grownBy W' (Value.slice Av cs.length cv).ownBlock)=>show Blk W' b 112 #[n,.slice Av cs.length cv,.slice Af fs.length cf]∧(∀ g t cs,w.heap.size≤g→Blk W g t cs→Blk W' g t cs) from by
  obtain ⟨qs,h1,h2,h3⟩:=h.is
  exact ⟨(hk.below hb hk.lt).grown hg (fun e=>h2.ne_blk hk (by decide) e.symm),fun g t cs h8 h9=>h9.grown hg (fun e=>by have:=(h2.lt g e.symm).2;omega)⟩)
 have HNF:=Lib.hid (fun (W W':World) (hg:W.grownBy W' (Value.slice Af fs.length cf).ownBlock) (hk9:Blk W b 112 #[n,.slice Av cs.length cv,.slice Af fs.length cf])=>show Blk W' b 112 #[n,.slice Av cs.length cv,.slice Af fs.length cf] from hk9.grown hg (fun e=>own_blk_ne h.fro hk (by decide) e.symm))
 clear hk h hz hbb hl hl2
 go_enter Tryz.func97,Tryz.ntmps97
 go_region_law (first | (refine stepRu _ rfl _ _ _ rfl base Tryz.underlying26 (.slice Av cs.length cv) (.slice Af fs.length cf) cs fs rfl (HM.out _ ?_) _ 1 A m c zs rfl ?_ (HZ.out _ ?_) HL.out ?_ ?_;(focus ((repeat (first | exact Below.refl _ _ | refine bDr ?_ | refine bAl ?_ _));done));(focus (first | exact Blk.new _ _ _ | exact (Blk.new _ _ _).drew | exact blk_new1 _ _ _ _ | exact (blk_new1 _ _ _ _).drew | exact ((blk_new1 _ _ _ _).drew).alloc _ | exact (Blk.new _ _ _).alloc _ | exact ((Blk.new _ _ _).alloc _).drew | exact (Blk.new _ _ _).drew.alloc _));(focus ((repeat (first | exact Below.refl _ _ | refine bDr ?_ | refine bAl ?_ _));done));(focus (have:=HBS.out;simp;omega));intro v8 w8 hr8 hx8 hk8 hb8 hg8;obtain ⟨A8,c8,e8⟩:=hr8.formV;rw [List.length_append,List.length_singleton] at e8;subst e8;obtain ⟨kb8,hn8⟩:=HNV.out _ _ (by ((repeat (first | exact Below.refl _ _ | refine bDr ?_ | refine bAl ?_ _));done)) hg8;have HF8:=hide (AddH.mk (w:=w) kb8 hr8 hx8 hk8 hb8 (by ((repeat (first | exact Below.refl _ _ | refine bDr ?_ | refine bAl ?_ _));done)) hg8.size hn8);have p8:=HF8.out.k.cell 2;have l8:=HF8.out.k.lt;clear hr8 hx8 hk8 hb8 hg8 kb8 hn8) | (refine stepRf _ rfl _ _ _ rfl base Tryz.underlying31 (.slice A8 (cs.length+1) c8) (.slice Af fs.length cf) (cs++[zs]) fs rfl (HF8.out.r _ ?_) _ 1 f rfl ?_ HL2.out ?_ ?_;(focus ((repeat (first | exact Below.refl _ _ | refine bDr ?_ | refine bAl ?_ _));done));(focus (first | (first | exact Blk.new _ _ _ | exact (Blk.new _ _ _).drew | exact blk_new1 _ _ _ _ | exact (blk_new1 _ _ _ _).drew | exact ((blk_new1 _ _ _ _).drew).alloc _ | exact (Blk.new _ _ _).alloc _ | exact ((Blk.new _ _ _).alloc _).drew | exact (Blk.new _ _ _).drew.alloc _) | exact HF8.out.n _ _ _ (by simp) (by (first | exact Blk.new _ _ _ | exact (Blk.new _ _ _).drew | exact blk_new1 _ _ _ _ | exact (blk_new1 _ _ _ _).drew | exact ((blk_new1 _ _ _ _).drew).alloc _ | exact (Blk.new _ _ _).alloc _ | exact ((Blk.new _ _ _).alloc _).drew | exact (Blk.new _ _ _).drew.alloc _))));(focus (have h1:=HF8.out.sz;have h2:=HBS.out;simp at h1 ⊢;omega));intro v9 w9 hr9 hx9 hk9 hb9 hg9;obtain ⟨A9,c9,e9⟩:=hr9.formF;rw [List.length_append,List.length_singleton] at e9;subst e9;have kb9:=HNF.out _ _ hg9 (HF8.out.k.below (w:=w8) (B:=w8.heap.size) (by ((repeat (first | exact Below.refl _ _ | refine bDr ?_ | refine bAl ?_ _));done)) HF8.out.k.lt);have f1:=kb9.frozen 1;have f2:=kb9.frozen 2;have p1:=kb9.cell 1;have p2:=kb9.cell 2;have HFIN:=hide (AddH.fin HF8.out (by ((repeat (first | exact Below.refl _ _ | refine bDr ?_ | refine bAl ?_ _));done)) HBS.out hr9 hx9 hk9 hb9 kb9 HBB.out);clear hr9 hx9 hk9 hb9 kb9 hg9))
 all_goals exact bodyPost_ret (v:=.tuple #[]) (by simp [results,Tryz.results97,go_sem]) rfl ⟨rfl,_,_,HFIN.out⟩
end Go.Proofs.YtojgbcmhdnappaaGreatDoor
namespace Go.Proofs.YtojgbcmhdnappaaGreatDoor
open Go.RowKit
open Classical
set_option maxRecDepth 100000
def ClK (w:World) (base:Nat) (v:Value) (cs:List (List Int)):Prop:=∃ qs:List ClQ,qs.map (·.1)=cs∧OwnK elC w base v qs∧∀ q∈qs,OwnI w 0 (slC q) q.1
def BoolsR (w:World) (A:Option Addr) (n:Nat) (bs:List Bool):Prop:=bs.length=n∧Reads w w.heap.size 1 A n (bs.map Value.bool)
section
variable {w w':World} {base base':Nat} {v vF:Value} {cs:List (List Int)} {fs:List Int}
theorem RuM.cl (h:RuM w base v vF cs fs):ClK w base v cs:=by
 obtain ⟨qs,h1,h2,h3⟩:=h.is
 exact ⟨qs,h1,h2,fun q hq=>(h3 q hq).1.mono (Nat.zero_le _)⟩
theorem ClK.below (h:ClK w base v cs) (hb:Below w.heap.size w w'):ClK w' base v cs:=by
 obtain ⟨qs,h1,h2,h3⟩:=h
 exact ⟨qs,h1,h2.below hb,fun q hq=>OwnI.below (h3 q hq) hb⟩
theorem ClK.mono (h:ClK w base v cs) (hb:base'≤base):ClK w base' v cs:=by
 obtain ⟨qs,h1,h2,h3⟩:=h
 exact ⟨qs,h1,h2.mono hb,h3⟩
theorem ClK.len (h:ClK w base v cs):∃ A c,v=.slice A cs.length c:=by
 obtain ⟨qs,h1,h2,_⟩:=h
 obtain ⟨A,c,e,_⟩:=h2.len
 exact ⟨A,c,by rw [e,←h1,List.length_map]⟩
theorem clK_nil (w:World) (base:Nat):ClK w base (.slice none 0 0) []:=⟨[],rfl,ownK_nil _ _ _,fun _ h=>absurd h List.not_mem_nil⟩
theorem ClK.at_ {A:Option Addr} {n c:Nat} (h:ClK w base (.slice A n c) cs) {k:Nat} (hk:k<cs.length):∃ g A' n' c',A=some ⟨g,0,none⟩∧w.cell? ⟨g,k,none⟩=some (.slice A' n' c')∧OwnI w 0 (.slice A' n' c') cs[k]:=by
 obtain ⟨qs,h1,h2,h3⟩:=h
 subst h1
 rw [List.length_map] at hk
 obtain ⟨g,e,hr⟩:=h2.rowAt hk
 have h4:w.cell? ⟨g,k*1+0,none⟩=some (slC qs[k]):=hr.cell hk (j:=0) (by decide)
 rw [show k*1+0=k by omega] at h4
 refine ⟨g,_,_,_,e,h4,?_⟩
 rw [List.getElem_map]
 exact h3 _ (List.getElem_mem hk)
theorem ClK.push {q:ClQ} (hq:OwnI w 0 (slC q) q.1) {v':Value} {qs:List ClQ} (hqs:qs.map (·.1)=cs) (hall:∀ p∈qs,OwnI w 0 (slC p) p.1) (hown:OwnK elC w base v qs) (ho:OwnK elC w' base v' (qs++[q])) (hg:w.grownBy w' v.ownBlock):ClK w' base v' (cs++[q.1]):=by
 have key:∀ u zs',OwnI w 0 u zs'→OwnI w' 0 u zs':=fun u zs' h9=>OwnI.kept h9 hg (apart_rows h9 hown (by decide))
 refine ⟨qs++[q],by rw [List.map_append,hqs];rfl,ho,fun p hp=>?_⟩
 rcases List.mem_append.1 hp with hp | hp
 ·exact key _ _ (hall p hp)
 ·rw [List.mem_singleton.1 hp];exact key _ _ hq
theorem BoolsR.below {A:Option Addr} {n:Nat} {bs:List Bool} (h:BoolsR w A n bs) (hb:Below w.heap.size w w'):BoolsR w' A n bs:=⟨h.1,(h.2.below hb).more hb.size⟩
theorem BoolsR.at_ {A:Option Addr} {n:Nat} {bs:List Bool} (h:BoolsR w A n bs) {k:Nat} (hk:k<n):∃ ad,A=some ad∧w.cell? (ad.add k)=some (.bool (bs.getD k false)):=by
 obtain ⟨ad,u,e,_,h1,h2⟩:=h.2.at_ hk
 refine ⟨ad,e,?_⟩
 rw [h2]
 have hl:k<bs.length:=by rw [h.1];exact hk
 rw [List.getElem?_map,List.getElem?_eq_getElem hl] at h1
 injection h1 with h1
 rw [←h1,List.getD_eq_getElem?_getD,List.getElem?_eq_getElem hl]
 rfl
end
theorem appCl (w:World) {ops:Array Oper} {rest:List Oper} {o:Oper} {a:Act} {Q:Exit→Act→World→Prop} (hgd:o.guard=none) (s x:Operand) (t:TypeId)
  (ho:o.op=.call { callee:=.builtin .append,args:=#[s,x],argTypes:=#[t,t] }) (base:Nat) (ht:Tryz.prog.underlying t=some (.slice 125))
  (v:Value) (cs:List (List Int)) (hs:a.eval s=v) (h:ClK w base v cs) (b c:Nat) (A:Option Addr) (n c':Nat) (zs:List Int) (hx:a.eval x=.slice (some ⟨b,0,none⟩) 1 c) (hk:Blk w b 125 #[.slice A n c']) (hz:OwnI w 0 (.slice A n c') zs)
  (hl:cs.length≤90000000) (hbase:base≤w.heap.size)
  (K:∀ v' w',ClK w' base v' (cs++[zs])→Below base w w'→wpList Tryz.prog ops Q rest (a.put o.dst v') w'):wpList Tryz.prog ops Q (o :: rest) a w:=by
 obtain ⟨qs,h1,h2,h3⟩:=h
 refine appK1 elC w clauseInfoK rfl (by decide) hgd s x t ho base ht v qs hs h2 b c (zs,A,n,c') hx hk (by rw [←h1,List.length_map] at hl;exact hl) hbase ?_
 intro v' w' ho' hg' _
 exact K v' w' (ClK.push (q:=(zs,A,n,c')) hz h1 h3 h2 ho' hg') ((Below.refl base w).grown hg' hbase fun k e=>(h2.lt k e).1)
def keepB (bs:List Bool) (f:Int):Bool:=decide (f<0)||bs.getD f.toNat false
theorem only_step {R:List RuR} {bs:List Bool} {i:Nat} (h:i<R.length):onlyF (R.take (i+1)) bs=if keepB bs R[i].2=true then onlyF (R.take i) bs++[R[i].1] else onlyF (R.take i) bs:=by
 unfold onlyF
 rw [List.take_succ_eq_append_getElem h,List.filter_append,List.map_append]
 unfold keepB
 by_cases hb:(decide (R[i].2<0)||bs.getD R[i].2.toNat false)=true
 ·rw [if_pos hb,List.filter_cons_of_pos (p:=fun c:RuR=>decide (c.2<0)||bs.getD c.2.toNat false) hb]
  rfl
 ·rw [if_neg hb,List.filter_cons_of_neg (p:=fun c:RuR=>decide (c.2<0)||bs.getD c.2.toNat false) hb]
  simp
def OnlyP (R:List RuR) (bs:List Bool) (w:World) (e:Ending) (w':World):Prop:=∃ v,e=.returned v∧ClK w' w.heap.size v (onlyF R bs)∧Below w.heap.size w w'
set_option maxHeartbeats 8000000 in
theorem only_any (n:Value) (v vF:Value) (R:List RuR) (base:Nat) (Ab:Option Addr) (nb cb:Nat) (bs:List Bool) (w:World) (h:RuM w base v vF (R.map (·.1)) (R.map (·.2))) (hf:∀ c∈R,-1≤c.2∧c.2≤1000) (hbs:BoolsR w Ab nb bs) (hl:R.length≤100000) :
  Calls Tryz.prog 101 #[.agg #[n,v,vF],.slice Ab nb cb] w (OnlyP R bs w):=by
 obtain ⟨Av,cv,Af,cf,rfl,rfl⟩:=h.form
 have hal:=(Below.refl w.heap.size w).alloc (Nat.le_refl _) (.cells #[n,.slice Av (R.map (·.1)).length cv,.slice Af (R.map (·.2)).length cf] 112)
 have HK:=hide (Blk.new w 112 #[n,.slice Av (R.map (·.1)).length cv,.slice Af (R.map (·.2)).length cf])
 have HC:=hide ((h.below hal).cl.mono (Nat.zero_le _))
 have HF:=hide ((h.below hal).fro.mono (Nat.zero_le _))
 have HB:=hide hal
 have HBB:=hide (hbs.below hal)
 have HFF:=Lib.hid hf
 simp only [List.length_map] at HC HF HK HB HBB ⊢
 clear h hal hf hbs
 go_enter Tryz.func101,Tryz.ntmps101
 go_wp2_with fail
 generalize World.alloc _ (.cells #[n,.slice Av R.length cv,.slice Af R.length cf] 112)=w1 at HK HC HF HB HBB ⊢
 generalize hbx:w.heap.size=bx at HK ⊢
 go_loopw [5,12] (fun vo iv wr=>∃ i:Nat,i≤R.length∧iv=.int .i64 i∧Hid (ClK wr w1.heap.size vo (onlyF (R.take i) bs))∧Hid (Below w1.heap.size w1 wr)) (fun _ iv _=>R.length-(intOf iv).toNat)
 case atStart=>exact ⟨0,Nat.zero_le _,rfl,hide (clK_nil _ _),hide (Below.refl _ _)⟩
 case round =>
  obtain ⟨i,hi,rfl,HO,HW⟩:=hrel
  by_cases hlt:i<R.length
  ·have hltz:(i:Int)<(R.length:Int):=by omega
   obtain ⟨g,A2,n2,c2,hA,y0,hq⟩:=(HC.out.below HW.out).at_ (k:=i) (by rw [List.length_map];exact hlt)
   subst hA
   rw [List.getElem_map] at hq
   obtain ⟨gf,capf,cur,e9,_,hkf,_,hcf⟩:=(HF.out.below HW.out).form (by rw [List.length_map];omega)
   injection e9 with e1 e2 e3
   subst e1
   have z0:=(hkf.cell i).trans (hcf i (by rw [List.length_map];exact hlt))
   rw [List.getD_eq_getElem?_getD,List.getElem?_map,List.getElem?_eq_getElem hlt,Option.map_some,Option.getD_some] at z0
   have hst:=only_step (bs:=bs) hlt
   have hfi:=HFF.out _ (List.getElem_mem hlt)
   have hol:(onlyF (R.take i) bs).length≤100000:=by unfold onlyF;rw [List.length_map];exact Nat.le_trans (List.length_filter_le _ _) (by rw [List.length_take];omega)
   have hk:=HK.out.below HW.out HK.out.lt
   have k1:=hk.cell 1
   have k2:=hk.cell 2
   have HBW:=HBB.out.below HW.out
   clear hkf hcf e2 e3 hk
   generalize R[i]=c at hq z0 hst hfi
   obtain ⟨cl,f⟩:=c
   simp only [] at hq z0 hst hfi
   obtain ⟨A9,c9,hv9⟩:=hq.len
   injection hv9 with h7 h8 h9
   subst h7 h8 h9
   have HQ:=hide hq
   clear hq
   by_cases hneg:f<0
   ·have hN:=hst
    rw [if_pos (by unfold keepB;rw [decide_eq_true hneg];rfl)] at hN
    have HN:=Lib.hid hN
    clear hN
    have hal:=(Below.refl wr.heap.size wr).alloc (Nat.le_refl _) (.cells #[.slice A2 cl.length c2] 125)
    have HOA:=hide (HO.out.below hal)
    have HQA:=hide (HQ.out.below hal)
    have HWA:=hide (HW.out.trans (hal.mono HW.out.size))
    have HKA:=hide (Blk.new wr 125 #[.slice A2 cl.length c2])
    have HOL:=Lib.hid (Nat.le_trans hol (show 100000≤90000000 by decide))
    clear hal hol HQ HO hst
    go_wp2_with (at_builtin;(refine appCl _ rfl _ _ _ rfl w1.heap.size Tryz.underlying26 _ _ rfl HOA.out wr.heap.size 1 A2 cl.length c2 cl rfl HKA.out HQA.out HOL.out HWA.out.size ?_;intro v9 w9 hr9 hb9;have HR9:=hide hr9;have HB9:=hide (HWA.out.trans (hb9.mono (Nat.le_refl _)));clear hr9 hb9))
    rw [←HN.out] at HR9
    go_round
    case rel=>exact ⟨i+1,by omega,by go_num,HR9,HB9⟩
    case measure=>simp [intOf];omega
   ·obtain ⟨k,rfl⟩:∃ k:Nat,f=(k:Int):=⟨f.toNat,by omega⟩
    have hkb:keepB bs (k:Int)=bs.getD k false:=by unfold keepB;rw [decide_eq_false hneg];rfl
    rw [hkb] at hst
    have hm1:((k:Int) == -1)=false:=beq_eq_false_iff_ne.2 (by omega)
    have hge:(k:Int)≥0:=by omega
    have hd0:decide ((k:Int)<0)=false:=decide_eq_false hneg
    by_cases hkn:k<nb
    ·have hknz:(k:Int)<(nb:Int):=by omega
     have hd1:decide ((k:Int)<(nb:Int))=true:=decide_eq_true hknz
     have hd2:decide (k<nb)=true:=decide_eq_true hkn
     obtain ⟨ad,hAb,u0⟩:=HBW.at_ hkn
     subst hAb
     cases hb:bs.getD k false with
     | true =>
      rw [hb] at hst u0
      have hN:=hst
      rw [if_pos rfl] at hN
      have HN:=Lib.hid hN
      clear hN hb hkb
      have hal:=(Below.refl wr.heap.size wr).alloc (Nat.le_refl _) (.cells #[.slice A2 cl.length c2] 125)
      have HOA:=hide (HO.out.below hal)
      have HQA:=hide (HQ.out.below hal)
      have HWA:=hide (HW.out.trans (hal.mono HW.out.size))
      have HKA:=hide (Blk.new wr 125 #[.slice A2 cl.length c2])
      have HOL:=Lib.hid (Nat.le_trans hol (show 100000≤90000000 by decide))
      clear hal hol HQ HO hst
      go_wp2_with (at_builtin;(refine appCl _ rfl _ _ _ rfl w1.heap.size Tryz.underlying26 _ _ rfl HOA.out wr.heap.size 1 A2 cl.length c2 cl rfl HKA.out HQA.out HOL.out HWA.out.size ?_;intro v9 w9 hr9 hb9;have HR9:=hide hr9;have HB9:=hide (HWA.out.trans (hb9.mono (Nat.le_refl _)));clear hr9 hb9))
      rw [←HN.out] at HR9
      go_round
      case rel=>exact ⟨i+1,by omega,by go_num,HR9,HB9⟩
      case measure=>simp [intOf];omega
     | false =>
      rw [hb] at hst u0
      have hN:=hst
      rw [if_neg (by decide)] at hN
      have HN:=Lib.hid hN
      clear hN hb hkb
      have HO2:=HO
      rw [←HN.out] at HO2
      clear HO hst
      go_wp2_with fail
      go_round
      case rel=>exact ⟨i+1,by omega,by go_num,HO2,HW⟩
      case measure=>simp [intOf];omega
    ·have hknz:¬(k:Int)<(nb:Int):=by omega
     have hd1:decide ((k:Int)<(nb:Int))=false:=decide_eq_false hknz
     have hd2:decide (k<nb)=false:=decide_eq_false hkn
     have hb:bs.getD k false=false:=by rw [List.getD_eq_getElem?_getD,List.getElem?_eq_none (by rw [HBW.1];omega)];rfl
     rw [hb] at hst
     have hN:=hst
     rw [if_neg (by decide)] at hN
     have HN:=Lib.hid hN
     clear hN hb hkb
     have HO2:=HO
     rw [←HN.out] at HO2
     clear HO hst
     go_wp2_with fail
     go_round
     case rel=>exact ⟨i+1,by omega,by go_num,HO2,HW⟩
     case measure=>simp [intOf];omega
  ·have hltz:¬(i:Int)<(R.length:Int):=by omega
   have ho:=HO.out
   rw [List.take_of_length_le (show R.length≤i by omega)] at ho
   have HV:=hide (ho.mono HB.out.size)
   have HE:=hide (HB.out.trans (HW.out.mono HB.out.size))
   clear ho
   go_wp2_with fail
   exact bodyPost_ret (v:=u5) (by simp [results,Tryz.results101,go_sem]) rfl ⟨u5,rfl,HV.out,HE.out⟩
set_option maxHeartbeats 8000000 in
theorem refOnly_any (v vF:Value) (R:List RuR) (base:Nat) (Ab:Option Addr) (nb cb:Nat) (bs:List Bool) (w:World) (h:RuM w base v vF (R.map (·.1)) (R.map (·.2))) (hf:∀ c∈R,-1≤c.2∧c.2≤1000) (hbs:BoolsR w Ab nb bs) (hl:R.length≤100000) :
  Calls Tryz.prog 103 #[v,vF,.slice Ab nb cb] w (OnlyP R bs w):=by
 obtain ⟨Av,cv,Af,cf,rfl,rfl⟩:=h.form
 have hal:=Below.refl w.heap.size w
 have HC:=hide ((h.below hal).cl.mono (Nat.zero_le _))
 have HF:=hide ((h.below hal).fro.mono (Nat.zero_le _))
 have HB:=hide hal
 have HBB:=hide (hbs.below hal)
 have HFF:=Lib.hid hf
 simp only [List.length_map] at HC HF ⊢
 clear h hal hf hbs
 go_enter Tryz.func103,Tryz.ntmps103
 go_wp2_with fail
 go_loopw [7,12] (fun vo iv wr=>∃ i:Nat,i≤R.length∧iv=.int .i64 i∧Hid (ClK wr w.heap.size vo (onlyF (R.take i) bs))∧Hid (Below w.heap.size w wr)) (fun _ iv _=>R.length-(intOf iv).toNat)
 case atStart=>exact ⟨0,Nat.zero_le _,rfl,hide (clK_nil _ _),hide (Below.refl _ _)⟩
 case round =>
  obtain ⟨i,hi,rfl,HO,HW⟩:=hrel
  by_cases hlt:i<R.length
  ·have hltz:(i:Int)<(R.length:Int):=by omega
   obtain ⟨g,A2,n2,c2,hA,y0,hq⟩:=(HC.out.below HW.out).at_ (k:=i) (by rw [List.length_map];exact hlt)
   subst hA
   rw [List.getElem_map] at hq
   obtain ⟨gf,capf,cur,e9,_,hkf,_,hcf⟩:=(HF.out.below HW.out).form (by rw [List.length_map];omega)
   injection e9 with e1 e2 e3
   subst e1
   have z0:=(hkf.cell i).trans (hcf i (by rw [List.length_map];exact hlt))
   rw [List.getD_eq_getElem?_getD,List.getElem?_map,List.getElem?_eq_getElem hlt,Option.map_some,Option.getD_some] at z0
   have hst:=only_step (bs:=bs) hlt
   have hfi:=HFF.out _ (List.getElem_mem hlt)
   have hol:(onlyF (R.take i) bs).length≤100000:=by unfold onlyF;rw [List.length_map];exact Nat.le_trans (List.length_filter_le _ _) (by rw [List.length_take];omega)
   have HBW:=HBB.out.below HW.out
   clear hkf hcf e2 e3
   generalize R[i]=c at hq z0 hst hfi
   obtain ⟨cl,f⟩:=c
   simp only [] at hq z0 hst hfi
   obtain ⟨A9,c9,hv9⟩:=hq.len
   injection hv9 with h7 h8 h9
   subst h7 h8 h9
   have HQ:=hide hq
   clear hq
   by_cases hneg:f<0
   ·have hN:=hst
    rw [if_pos (by unfold keepB;rw [decide_eq_true hneg];rfl)] at hN
    have HN:=Lib.hid hN
    clear hN
    obtain rfl:f = -1:=by omega
    clear hneg hfi
    have hal:=(Below.refl wr.heap.size wr).alloc (Nat.le_refl _) (.cells #[.slice A2 cl.length c2] 125)
    have HOA:=hide (HO.out.below hal)
    have HQA:=hide (HQ.out.below hal)
    have HWA:=hide (HW.out.trans (hal.mono HW.out.size))
    have HKA:=hide (Blk.new wr 125 #[.slice A2 cl.length c2])
    have HOL:=Lib.hid (Nat.le_trans hol (show 100000≤90000000 by decide))
    clear hal hol HQ HO hst
    go_wp2_with (at_builtin;(refine appCl _ rfl _ _ _ rfl w.heap.size Tryz.underlying26 _ _ rfl HOA.out wr.heap.size 1 A2 cl.length c2 cl rfl HKA.out HQA.out HOL.out HWA.out.size ?_;intro v9 w9 hr9 hb9;have HR9:=hide hr9;have HB9:=hide (HWA.out.trans (hb9.mono (Nat.le_refl _)));clear hr9 hb9))
    rw [←HN.out] at HR9
    go_round
    case rel=>exact ⟨i+1,by omega,by go_num,HR9,HB9⟩
    case measure=>simp [intOf];omega
   ·obtain ⟨k,rfl⟩:∃ k:Nat,f=(k:Int):=⟨f.toNat,by omega⟩
    have hkb:keepB bs (k:Int)=bs.getD k false:=by unfold keepB;rw [decide_eq_false hneg];rfl
    rw [hkb] at hst
    have hm1:((k:Int) == -1)=false:=beq_eq_false_iff_ne.2 (by omega)
    have hge:(k:Int)≥0:=by omega
    have hd0:decide ((k:Int)<0)=false:=decide_eq_false hneg
    by_cases hkn:k<nb
    ·have hknz:(k:Int)<(nb:Int):=by omega
     have hd1:decide ((k:Int)<(nb:Int))=true:=decide_eq_true hknz
     have hd2:decide (k<nb)=true:=decide_eq_true hkn
     obtain ⟨ad,hAb,u0⟩:=HBW.at_ hkn
     subst hAb
     cases hb:bs.getD k false with
     | true =>
      rw [hb] at hst u0
      have hN:=hst
      rw [if_pos rfl] at hN
      have HN:=Lib.hid hN
      clear hN hb hkb
      have hal:=(Below.refl wr.heap.size wr).alloc (Nat.le_refl _) (.cells #[.slice A2 cl.length c2] 125)
      have HOA:=hide (HO.out.below hal)
      have HQA:=hide (HQ.out.below hal)
      have HWA:=hide (HW.out.trans (hal.mono HW.out.size))
      have HKA:=hide (Blk.new wr 125 #[.slice A2 cl.length c2])
      have HOL:=Lib.hid (Nat.le_trans hol (show 100000≤90000000 by decide))
      clear hal hol HQ HO hst
      go_wp2_with (at_builtin;(refine appCl _ rfl _ _ _ rfl w.heap.size Tryz.underlying26 _ _ rfl HOA.out wr.heap.size 1 A2 cl.length c2 cl rfl HKA.out HQA.out HOL.out HWA.out.size ?_;intro v9 w9 hr9 hb9;have HR9:=hide hr9;have HB9:=hide (HWA.out.trans (hb9.mono (Nat.le_refl _)));clear hr9 hb9))
      rw [←HN.out] at HR9
      go_round
      case rel=>exact ⟨i+1,by omega,by go_num,HR9,HB9⟩
      case measure=>simp [intOf];omega
     | false =>
      rw [hb] at hst u0
      have hN:=hst
      rw [if_neg (by decide)] at hN
      have HN:=Lib.hid hN
      clear hN hb hkb
      have HO2:=HO
      rw [←HN.out] at HO2
      clear HO hst
      go_wp2_with fail
      go_round
      case rel=>exact ⟨i+1,by omega,by go_num,HO2,HW⟩
      case measure=>simp [intOf];omega
    ·have hknz:¬(k:Int)<(nb:Int):=by omega
     have hd1:decide ((k:Int)<(nb:Int))=false:=decide_eq_false hknz
     have hd2:decide (k<nb)=false:=decide_eq_false hkn
     have hb:bs.getD k false=false:=by rw [List.getD_eq_getElem?_getD,List.getElem?_eq_none (by rw [HBW.1];omega)];rfl
     rw [hb] at hst
     have hN:=hst
     rw [if_neg (by decide)] at hN
     have HN:=Lib.hid hN
     clear hN hb hkb
     have HO2:=HO
     rw [←HN.out] at HO2
     clear HO hst
     go_wp2_with fail
     go_round
     case rel=>exact ⟨i+1,by omega,by go_num,HO2,HW⟩
     case measure=>simp [intOf];omega
  ·have hltz:¬(i:Int)<(R.length:Int):=by omega
   have ho:=HO.out
   rw [List.take_of_length_le (show R.length≤i by omega)] at ho
   have HV:=hide (ho.mono HB.out.size)
   have HE:=hide (HB.out.trans (HW.out.mono HB.out.size))
   clear ho
   go_wp2_with fail
   exact bodyPost_ret (v:=u7) (by simp [results,Tryz.results103,go_sem]) rfl ⟨u7,rfl,HV.out,HE.out⟩
end Go.Proofs.YtojgbcmhdnappaaGreatDoor
namespace Go.Proofs.YtojgbcmhdnappaaGreatDoor
open Go.RowKit
set_option maxRecDepth 100000
end Go.Proofs.YtojgbcmhdnappaaGreatDoor
