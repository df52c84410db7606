/-
  A part of the proof: RuSame. Conditions: none.
-/
import Derived.Test.YtojgbcmhdnappaaGreatDoorBeItLay
import Derived.Test.YtojgbcmhdnappaaGreatDoorBePaR11
import Derived.Test.YtojgbcmhdnappaaGreatDoorBeCatClone
import Derived.BigRegion
import Derived.Test.YtojgbcmhdnappaaGreatDoorBeCalm
namespace Go.Proofs.YtojgbcmhdnappaaGreatDoor
open Go.RowKit
set_option maxRecDepth 100000
abbrev ClQ:=List Int×(Option Addr×Nat×Nat)
def slC (q:ClQ):Value:=.slice q.2.1 q.2.2.1 q.2.2.2
def elC:ElK ClQ:=⟨125,1,fun q=>[slC q],by decide,fun _=>rfl,fun q u hu=>by rw [List.mem_singleton.1 hu];rfl⟩
theorem clauseInfoK:(Tryz.prog.info? 125).map (fun i=>(i.zero,i.size,i.bytes))=some (some (.slice none 0 0),1,24):=by kernel_rfl
def OwnX (w:World) (base:Nat) (vF u:Value) (zs:List Int):Prop:=OwnI w base u zs∧(u.ownBlock=none∨u.ownBlock≠vF.ownBlock)
structure RuM (w:World) (base:Nat) (v vF:Value) (cs:List (List Int)) (fs:List Int):Prop where
 is:∃ qs:List ClQ,qs.map (·.1)=cs∧OwnK elC w base v qs∧∀ q∈qs,OwnX w base vF (slC q) q.1
 fro:OwnI w base vF fs
def KeepT (w w':World):Prop:=∀ k t cs,Blk w k t cs→t≠125→t≠3→t≠112→Blk w' k t cs
section
variable {w w' w1 w2:World} {base base':Nat} {v vF vF' u:Value} {cs:List (List Int)} {fs zs:List Int}
theorem KeepT.trans (h:KeepT w w1) (k:KeepT w1 w2):KeepT w w2:=fun i t c hb a b d=>k i t c (h i t c hb a b d) a b d
theorem KeepT.of_below (h:Below w.heap.size w w'):KeepT w w':=fun _ _ _ hb _ _ _=>hb.below h hb.lt
theorem KeepT.of_grown {r:Option Nat} (hg:w.grownBy w' r) (hr:∀ k,r=some k→∃ t cs,Blk w k t cs∧(t=125∨t=3∨t=112)):KeepT w w':=fun i t c hb a b d=>by
 refine (hg.block i hb.lt fun e=>?_).trans hb
 obtain ⟨t',c',h1,h2⟩:=hr i e.symm
 have:t=t':=by
  unfold Blk at hb h1
  rw [hb] at h1
  injection h1 with h1
  injection h1 with _ h1 _
 subst this
 rcases h2 with h2 | h2 | h2
 ·exact a h2
 ·exact b h2
 ·exact d h2
theorem OwnK.keepT {α:Type} {E:ElK α} {l:List α} (h:OwnK E w base v l) (hk:KeepT w w') (h1:E.t≠125) (h2:E.t≠3) (h3:E.t≠112):OwnK E w' base v l:=by
 refine ⟨h.1,?_⟩
 rcases h.2 with h0 | ⟨g,cap,cur,e,hg,hgc,r⟩
 ·exact .inl h0
 ·exact .inr ⟨g,cap,cur,e,hg,hk g E.t cur hgc h1 h2 h3,r⟩
theorem OwnX.below (h:OwnX w base vF u zs) (hb:Below w.heap.size w w'):OwnX w' base vF u zs:=⟨OwnI.below h.1 hb,h.2⟩
theorem OwnX.mono (h:OwnX w base vF u zs) (hb:base'≤base):OwnX w base' vF u zs:=⟨h.1.mono hb,h.2⟩
theorem OwnX.of_lt {B:Nat} (h:OwnI w B u zs) (hl:∀ k,vF.ownBlock=some k→k<B):OwnX w B vF u zs:=by
 refine ⟨h,?_⟩
 cases e:u.ownBlock with
 | none=>exact .inl rfl
 | some k =>
  refine .inr fun e2=>?_
  have h1:=(World.ownsRow.lt h k e).1
  have h2:=hl k e2.symm
  omega
theorem OwnX.push (h:OwnX w base vF u zs) (hg:w.grownBy w' vF.ownBlock) (hor:vF'.ownBlock=vF.ownBlock∨vF'.ownBlock=some w.heap.size):OwnX w' base vF' u zs:=⟨OwnI.kept h.1 hg h.2,by
 rcases h.2 with h8 | h8
 ·exact .inl h8
 ·rcases hor with e | e
  ·rw [e];exact .inr h8
  ·rw [e]
   cases e9:u.ownBlock with
   | none=>exact .inl rfl
   | some k =>
    refine .inr fun e8=>?_
    have:=(World.ownsRow.lt h.1 k e9).2
    have:=Option.some.inj e8
    omega⟩
theorem RuM.below (h:RuM w base v vF cs fs) (hb:Below w.heap.size w w'):RuM w' base v vF cs fs:=by
 obtain ⟨qs,h1,h2,h3⟩:=h.is
 exact ⟨⟨qs,h1,h2.below hb,fun _ hq=>(h3 _ hq).below hb⟩,OwnI.below h.fro hb⟩
theorem RuM.nil (w:World) (base:Nat):RuM w base (.slice none 0 0) (.slice none 0 0) [] []:=⟨⟨[],rfl,ownK_nil _ _ _,fun _ hq=>absurd hq List.not_mem_nil⟩,ownI_nil _ _⟩
theorem RuM.mono (h:RuM w base v vF cs fs) (hb:base'≤base):RuM w base' v vF cs fs:=by
 obtain ⟨qs,h1,h2,h3⟩:=h.is
 exact ⟨⟨qs,h1,h2.mono hb,fun q hq=>(h3 q hq).mono hb⟩,h.fro.mono hb⟩
theorem RuM.form (h:RuM w base v vF cs fs):∃ A c A' c',v=.slice A cs.length c∧vF=.slice A' fs.length c':=by
 obtain ⟨qs,h1,h2,_⟩:=h.is
 obtain ⟨A,c,e,_⟩:=h2.len
 obtain ⟨A',c',e'⟩:=h.fro.len
 refine ⟨A,c,A',c',?_,e'⟩
 rw [e,←h1,List.length_map]
theorem RuM.fresh (h:RuM w base v vF cs fs) (ho:OwnI w' w.heap.size u zs):OwnX w' w.heap.size vF u zs:=by
 refine ⟨ho,?_⟩
 cases e:u.ownBlock with
 | none=>exact .inl rfl
 | some k =>
  refine .inr fun e2=>?_
  have h1:=(World.ownsRow.lt ho k e).1
  have h2:=(World.ownsRow.lt h.fro k e2.symm).2
  omega
theorem RuM.pushC (h:RuM w base v vF cs fs) {q:ClQ} (hq:OwnX w base vF (slC q) q.1) {v':Value} {qs:List ClQ} (hqs:qs.map (·.1)=cs) (hall:∀ p∈qs,OwnX w base vF (slC p) p.1) (hown:OwnK elC w base v qs) (ho:OwnK elC w' base v' (qs++[q])) (hg:w.grownBy w' v.ownBlock) :
  RuM w' base v' vF (cs++[q.1]) fs∧(∀ b' u zs',OwnX w b' vF u zs'→OwnX w' b' vF u zs')∧KeepT w w':=by
 have key:∀ b' u zs',OwnX w b' vF u zs'→OwnX w' b' vF u zs':=fun b' u zs' h9=>⟨OwnI.kept h9.1 hg (apart_rows h9.1 hown (by decide)),h9.2⟩
 refine ⟨⟨⟨qs++[q],by rw [List.map_append,hqs];rfl,ho,fun p hp=>?_⟩,OwnI.kept h.fro hg (apart_rows h.fro hown (by decide))⟩,key,KeepT.of_grown hg fun k e=>?_⟩
 ·rcases List.mem_append.1 hp with hp | hp
  ·exact key _ _ _ (hall p hp)
  ·rw [List.mem_singleton.1 hp];exact key _ _ _ hq
 ·obtain ⟨c9,h1,_⟩:=own_blk hown e
  exact ⟨_,c9,h1,.inl rfl⟩
theorem RuM.pushF (h:RuM w base v vF cs fs) {f:Int} (ho:OwnI w' base vF' (fs++[f])) (hg:w.grownBy w' vF.ownBlock) (hor:vF'.ownBlock=vF.ownBlock∨vF'.ownBlock=some w.heap.size) :
  RuM w' base v vF' cs (fs++[f])∧(∀ b' u zs',OwnX w b' vF u zs'→OwnX w' b' vF' u zs')∧KeepT w w':=by
 obtain ⟨qs,h1,h2,h3⟩:=h.is
 have key:∀ b' u zs',OwnX w b' vF u zs'→OwnX w' b' vF' u zs':=fun b' u zs' h9=>⟨OwnI.kept h9.1 hg h9.2,by
  rcases h9.2 with h8 | h8
  ·exact .inl h8
  ·rcases hor with e | e
   ·rw [e];exact .inr h8
   ·rw [e]
    cases e9:u.ownBlock with
    | none=>exact .inl rfl
    | some k =>
     refine .inr fun e8=>?_
     have:=(World.ownsRow.lt h9.1 k e9).2
     have:=Option.some.inj e8
     omega⟩
 refine ⟨⟨⟨qs,h1,h2.kept hg (apart_rows h2 h.fro (by decide)),fun q hq=>key _ _ _ (h3 q hq)⟩,ho⟩,key,KeepT.of_grown hg fun k e=>?_⟩
 obtain ⟨c9,h4,_⟩:=own_blk h.fro e
 exact ⟨_,c9,h4,.inr (.inl rfl)⟩
end
theorem appRu (w:World) {ops:Array Oper} {rest:List Oper} {o:Oper} {a:Act} {Q:Exit→Act→World→Prop} (hgd:o.guard=none) (s x:Operand) (t:TypeId)
  (ho:o.op=.call { callee:=.builtin .append,args:=#[s,x],argTypes:=#[t,t] }) (base:Nat) (ht:Tryz.prog.underlying t=some (.slice 125))
  (v vF:Value) (cs:List (List Int)) (fs:List Int) (hs:a.eval s=v) (h:RuM w base v vF cs fs) (b c:Nat) (A:Option Addr) (n c':Nat) (zs:List Int) (hx:a.eval x=.slice (some ⟨b,0,none⟩) 1 c) (hk:Blk w b 125 #[.slice A n c']) (hz:OwnX w base vF (.slice A n c') zs)
  (hl:cs.length≤90000000) (hbase:base≤w.heap.size)
  (K:∀ v' w',RuM w' base v' vF (cs++[zs]) fs→(∀ b' u zs',OwnX w b' vF u zs'→OwnX w' b' vF u zs')→KeepT w w'→Below base w w'→wpList Tryz.prog ops Q rest (a.put o.dst v') w'):wpList Tryz.prog ops Q (o :: rest) a w:=by
 obtain ⟨qs,h1,h2,h3⟩:=h.is
 refine appK1 elC w clauseInfoK rfl (by decide) hgd s x t ho base ht v qs hs h2 b c (zs,A,n,c') hx hk (by rw [←h1,List.length_map] at hl;exact hl) hbase ?_
 intro v' w' ho' hg' _
 obtain ⟨k1,k2,k3⟩:=h.pushC (q:=(zs,A,n,c')) hz h1 h3 h2 ho' hg'
 exact K v' w' k1 k2 k3 ((Below.refl base w).grown hg' hbase fun k e=>(h2.lt k e).1)
theorem appRf (w:World) {ops:Array Oper} {rest:List Oper} {o:Oper} {a:Act} {Q:Exit→Act→World→Prop} (hgd:o.guard=none) (s x:Operand) (t:TypeId)
  (ho:o.op=.call { callee:=.builtin .append,args:=#[s,x],argTypes:=#[t,t] }) (base:Nat) (ht:Tryz.prog.underlying t=some (.slice 3))
  (v vF:Value) (cs:List (List Int)) (fs:List Int) (hs:a.eval s=vF) (h:RuM w base v vF cs fs) (b c:Nat) (f:Int) (hx:a.eval x=.slice (some ⟨b,0,none⟩) 1 c) (hk:Blk w b 3 #[.int .i64 f])
  (hl:fs.length≤90000000) (hbase:base≤w.heap.size)
  (K:∀ v' w',RuM w' base v v' cs (fs++[f])→(∀ b' u zs',OwnX w b' vF u zs'→OwnX w' b' v' u zs')→KeepT w w'→Below base w w'→wpList Tryz.prog ops Q rest (a.put o.dst v') w'):wpList Tryz.prog ops Q (o :: rest) a w:=by
 refine appI w hgd s x t ho base ht vF fs hs h.fro (b+1) (some ⟨b,0,none⟩) 1 c [f] hx (blk_reads (zs:=[f]) hk) rfl (by simp;omega) hbase ?_
 intro v' w' ho' hg' hor
 obtain ⟨k1,k2,k3⟩:=h.pushF ho' hg' hor
 exact K v' w' k1 k2 k3 ((Below.refl base w).grown hg' hbase fun k e=>(World.ownsRow.lt h.fro k e).1)
end Go.Proofs.YtojgbcmhdnappaaGreatDoor
namespace Go.Proofs.YtojgbcmhdnappaaGreatDoor
open Go.RowKit
set_option maxRecDepth 100000
theorem RuM.formV {w:World} {base:Nat} {v vF:Value} {cs:List (List Int)} {fs:List Int} (h:RuM w base v vF cs fs):∃ A c,v=.slice A cs.length c:=by
 obtain ⟨A,c,_,_,e,_⟩:=h.form
 exact ⟨A,c,e⟩
theorem RuM.formF {w:World} {base:Nat} {v vF:Value} {cs:List (List Int)} {fs:List Int} (h:RuM w base v vF cs fs):∃ A c,vF=.slice A fs.length c:=by
 obtain ⟨_,_,A,c,_,e⟩:=h.form
 exact ⟨A,c,e⟩
theorem blk_new1 (w:World) (o:Obj) (t:TypeId) (cs:Array Value):Blk ((w.alloc o).alloc (.cells cs t)) (w.heap.size+1) t cs:=by
 have:=Blk.new (w.alloc o) t cs
 rwa [World.size_alloc] at this
theorem bAl {w w':World} (h:Below w.heap.size w w') (o:Obj):Below w.heap.size w (w'.alloc o):=h.alloc h.size o
theorem bDr {w w':World} (h:Below w.heap.size w w'):Below w.heap.size w w'.drew:=h.drew
theorem stepRu (w:World) {ops:Array Oper} {o:Oper} {a:Act} {K:Act→World→Prop} {Q:Exit→Act→World→Prop} {X:Prop} (hgd:o.guard=none) (s x:Operand) (t:TypeId)
  (ho:o.op=.call { callee:=.builtin .append,args:=#[s,x],argTypes:=#[t,t] }) (base:Nat) (ht:Tryz.prog.underlying t=some (.slice 125))
  (v vF:Value) (cs:List (List Int)) (fs:List Int) (hs:a.eval s=v) (h:RuM w base v vF cs fs) (b c:Nat) (A:Option Addr) (n c':Nat) (zs:List Int) (hx:a.eval x=.slice (some ⟨b,0,none⟩) 1 c) (hk:Blk w b 125 #[.slice A n c']) (hz:OwnX w base vF (.slice A n c') zs)
  (hl:cs.length≤90000000) (hbase:base≤w.heap.size)
  (K':∀ v' w',RuM w' base v' vF (cs++[zs]) fs→(∀ b' u zs',OwnX w b' vF u zs'→OwnX w' b' vF u zs')→KeepT w w'→Below base w w'→w.grownBy w' v.ownBlock→K (a.put o.dst v') w'):if Region.wanted o (yielded ops a.tmps)=true then Oper.wp Tryz.prog o a w K Q else X:=by
 obtain ⟨qs,h1,h2,h3⟩:=h.is
 refine stepK1 elC w clauseInfoK rfl (by decide) hgd s x t ho base ht v qs hs h2 b c (zs,A,n,c') hx hk (by rw [←h1,List.length_map] at hl;exact hl) hbase ?_
 intro v' w' ho' hg' _
 obtain ⟨k1,k2,k3⟩:=h.pushC (q:=(zs,A,n,c')) hz h1 h3 h2 ho' hg'
 exact K' v' w' k1 k2 k3 ((Below.refl base w).grown hg' hbase fun k e=>(h2.lt k e).1) hg'
theorem stepRf (w:World) {ops:Array Oper} {o:Oper} {a:Act} {K:Act→World→Prop} {Q:Exit→Act→World→Prop} {X:Prop} (hgd:o.guard=none) (s x:Operand) (t:TypeId)
  (ho:o.op=.call { callee:=.builtin .append,args:=#[s,x],argTypes:=#[t,t] }) (base:Nat) (ht:Tryz.prog.underlying t=some (.slice 3))
  (v vF:Value) (cs:List (List Int)) (fs:List Int) (hs:a.eval s=vF) (h:RuM w base v vF cs fs) (b c:Nat) (f:Int) (hx:a.eval x=.slice (some ⟨b,0,none⟩) 1 c) (hk:Blk w b 3 #[.int .i64 f])
  (hl:fs.length≤90000000) (hbase:base≤w.heap.size)
  (K':∀ v' w',RuM w' base v v' cs (fs++[f])→(∀ b' u zs',OwnX w b' vF u zs'→OwnX w' b' v' u zs')→KeepT w w'→Below base w w'→w.grownBy w' vF.ownBlock→K (a.put o.dst v') w'):if Region.wanted o (yielded ops a.tmps)=true then Oper.wp Tryz.prog o a w K Q else X:=by
 refine stepI1 w hgd s x t ho base ht vF fs hs h.fro (b+1) (some ⟨b,0,none⟩) 1 c [f] hx (blk_reads (zs:=[f]) hk) rfl (by simp;omega) hbase ?_
 intro v' w' ho' hg' hor
 obtain ⟨k1,k2,k3⟩:=h.pushF ho' hg' hor
 exact K' v' w' k1 k2 k3 ((Below.refl base w).grown hg' hbase fun k e=>(World.ownsRow.lt h.fro k e).1) hg'
structure AddR (w:World) (b base:Nat) (n vF v' vF':Value) (cs:List (List Int)) (fs:List Int) (w':World):Prop where
 box:Blk w' b 112 #[n,v',vF']
 rum:RuM w' base v' vF' cs fs
 own:∀ b' u zs',OwnX w b' vF u zs'→OwnX w' b' vF' u zs'
 keep:KeepT w w'
 bel:Below base w w'
def AddP (w:World) (b base:Nat) (n vF:Value) (cs:List (List Int)) (fs:List Int) (e:Ending) (w':World):Prop:=e=.returned (.tuple #[])∧∃ v' vF',AddR w b base n vF v' vF' cs fs w'
theorem AddR.stores {w W:World} {b base:Nat} {n v vF v' vF':Value} {cs:List (List Int)} {fs:List Int} (hk:Blk W b 112 #[n,v,vF]) (hr:RuM W base v' vF' cs fs) (ho:∀ b' u zs',OwnX w b' vF u zs'→OwnX W b' vF' u zs') (hkp:KeepT w W) (hb:Below base w W) (hbb:base≤b) :
  AddR w b base n vF v' vF' cs fs ((W.setCell ⟨b,1,none⟩ v').setCell ⟨b,2,none⟩ vF'):=by
 have g1:W.grownBy (W.setCell ⟨b,1,none⟩ v') (some b):=only_setCell (p:=⟨b,1,none⟩) (World.grownBy.refl W _) (.inl rfl) v'
 have hg:W.grownBy ((W.setCell ⟨b,1,none⟩ v').setCell ⟨b,2,none⟩ vF') (some b):=only_setCell (p:=⟨b,2,none⟩) g1 (.inl rfl) vF'
 have ap:∀ (t0:TypeId),t0≠112→∀ k,some b=some k→∃ t cs,Blk W k t cs∧t0≠t:=fun t0 hne k e=>by obtain rfl:=Option.some.inj e;exact ⟨_,_,hk,hne⟩
 have key:∀ b' u zs',OwnX W b' vF' u zs'→OwnX ((W.setCell ⟨b,1,none⟩ v').setCell ⟨b,2,none⟩ vF') b' vF' u zs':=fun b' u zs' h9=>⟨OwnI.kept h9.1 hg (ownT_apart h9.1 (ap _ (by decide))),h9.2⟩
 obtain ⟨qs,h1,h2,h3⟩:=hr.is
 refine ⟨(hk.set_ 1 v').set_ 2 vF',⟨⟨qs,h1,h2.kept hg (ownT_apart h2 (ap _ (by decide))),fun _ hq=>key _ _ _ (h3 _ hq)⟩,OwnI.kept hr.fro hg (ownT_apart hr.fro (ap _ (by decide)))⟩,fun _ _ _ h9=>key _ _ _ (ho _ _ _ h9),hkp.trans (KeepT.of_grown hg fun k e=>?_),(hb.setCell (p:=⟨b,1,none⟩) hbb v').setCell (p:=⟨b,2,none⟩) hbb vF'⟩
 obtain rfl:=Option.some.inj e
 exact ⟨_,_,hk,.inr (.inr rfl)⟩
structure AddH (w w8:World) (b base:Nat) (n v vF v8:Value) (cs:List (List Int)) (fs:List Int) (W:World):Prop where
 k:Blk w8 b 112 #[n,v,vF]
 r0:RuM w8 base v8 vF cs fs
 x:∀ b' u zs',OwnX W b' vF u zs'→OwnX w8 b' vF u zs'
 t:KeepT W w8
 l:Below base W w8
 bw:Below w.heap.size w W
 sz:W.heap.size≤w8.heap.size
 n:∀ g t cs,w.heap.size≤g→Blk W g t cs→Blk w8 g t cs
theorem AddH.r {w w8 W:World} {b base:Nat} {n v vF v8:Value} {cs:List (List Int)} {fs:List Int} (h:AddH w w8 b base n v vF v8 cs fs W) (W':World) (hb:Below w8.heap.size w8 W'):RuM W' base v8 vF cs fs:=h.r0.below hb
theorem AddH.fin {w w8 W W8 w9:World} {b base:Nat} {n v vF v8 v9:Value} {cs:List (List Int)} {fs fs':List Int} (h:AddH w w8 b base n v vF v8 cs fs W) (hb:Below w8.heap.size w8 W8) (hbs:base≤w.heap.size) (hr9:RuM w9 base v8 v9 cs fs') (hx9:∀ b' u zs',OwnX W8 b' vF u zs'→OwnX w9 b' v9 u zs') (hk9:KeepT W8 w9) (hb9:Below base W8 w9)
  (kb9:Blk w9 b 112 #[n,v,vF]) (hbb:base≤b):AddR w b base n vF v8 v9 cs fs' ((w9.setCell ⟨b,1,none⟩ v8).setCell ⟨b,2,none⟩ v9) :=
 AddR.stores kb9 hr9 (fun _ _ _ h9=>hx9 _ _ _ ((h.x _ _ _ (h9.below h.bw)).below hb)) ((((KeepT.of_below h.bw).trans h.t).trans (KeepT.of_below hb)).trans hk9)
  ((((h.bw.mono hbs).trans h.l).trans (hb.mono (Nat.le_trans hbs (Nat.le_trans h.bw.size h.sz)))).trans hb9) hbb
set_option maxHeartbeats 8000000 in
theorem add_any (b base:Nat) (n v vF:Value) (cs:List (List Int)) (fs:List Int) (A:Option Addr) (m c:Nat) (zs:List Int) (f:Int) (w:World) (hk:Blk w b 112 #[n,v,vF]) (h:RuM w base v vF cs fs) (hz:OwnX w base vF (.slice A m c) zs) (hbb:base≤b) (hl:cs.length≤90000000) (hl2:fs.length≤90000000) :
  Calls Tryz.prog 97 #[.int .i64 f,.slice A m c,.pointer (some ⟨b,0,none⟩)] w (AddP w b base n vF (cs++[zs]) (fs++[f])):=by
 obtain ⟨Av,cv,Af,cf,rfl,rfl⟩:=h.form
 have HM:=Lib.hid (fun W (hb:Below w.heap.size w W)=>h.below hb)
 have HZ:=Lib.hid (fun W (hb:Below w.heap.size w W)=>hz.below hb)
 have HK:=Lib.hid (fun W (hb:Below w.heap.size w W)=>hk.below hb hk.lt)
 have HBS:=Lib.hid (show base≤w.heap.size from Nat.le_trans hbb (Nat.le_of_lt hk.lt))
 have HL:=Lib.hid hl
 have HL2:=Lib.hid hl2
 have HBB:=Lib.hid hbb
 have lb:=hk.lt
 have y1:=hk.cell 1
 have y2:=hk.cell 2
 have HNV:=Lib.hid (fun (W W':World) (hb:Below w.heap.size w W) (hg:W.grownBy W' (Value.slice Av cs.length cv).ownBlock)=>show Blk W' b 112 #[n,.slice Av cs.length cv,.slice Af fs.length cf]∧(∀ g t cs,w.heap.size≤g→Blk W g t cs→Blk W' g t cs) from by
  obtain ⟨qs,h1,h2,h3⟩:=h.is
  exact ⟨(hk.below hb hk.lt).grown hg (fun e=>h2.ne_blk hk (by decide) e.symm),fun g t cs h8 h9=>h9.grown hg (fun e=>by have:=(h2.lt g e.symm).2;omega)⟩)
 have HNF:=Lib.hid (fun (W W':World) (hg:W.grownBy W' (Value.slice Af fs.length cf).ownBlock) (hk9:Blk W b 112 #[n,.slice Av cs.length cv,.slice Af fs.length cf])=>show Blk W' b 112 #[n,.slice Av cs.length cv,.slice Af fs.length cf] from hk9.grown hg (fun e=>own_blk_ne h.fro hk (by decide) e.symm))
 clear hk h hz hbb hl hl2
 go_enter Tryz.func97,Tryz.ntmps97
 go_region_law (first | (refine stepRu _ rfl _ _ _ rfl base Tryz.underlying26 (.slice Av cs.length cv) (.slice Af fs.length cf) cs fs rfl (HM.out _ ?_) _ 1 A m c zs rfl ?_ (HZ.out _ ?_) HL.out ?_ ?_;(focus ((repeat (first | exact Below.refl _ _ | refine bDr ?_ | refine bAl ?_ _));done));(focus (first | exact Blk.new _ _ _ | exact (Blk.new _ _ _).drew | exact blk_new1 _ _ _ _ | exact (blk_new1 _ _ _ _).drew | exact ((blk_new1 _ _ _ _).drew).alloc _ | exact (Blk.new _ _ _).alloc _ | exact ((Blk.new _ _ _).alloc _).drew | exact (Blk.new _ _ _).drew.alloc _));(focus ((repeat (first | exact Below.refl _ _ | refine bDr ?_ | refine bAl ?_ _));done));(focus (have:=HBS.out;simp;omega));intro v8 w8 hr8 hx8 hk8 hb8 hg8;obtain ⟨A8,c8,e8⟩:=hr8.formV;rw [List.length_append,List.length_singleton] at e8;subst e8;obtain ⟨kb8,hn8⟩:=HNV.out _ _ (by ((repeat (first | exact Below.refl _ _ | refine bDr ?_ | refine bAl ?_ _));done)) hg8;have HF8:=hide (AddH.mk (w:=w) kb8 hr8 hx8 hk8 hb8 (by ((repeat (first | exact Below.refl _ _ | refine bDr ?_ | refine bAl ?_ _));done)) hg8.size hn8);have p8:=HF8.out.k.cell 2;have l8:=HF8.out.k.lt;clear hr8 hx8 hk8 hb8 hg8 kb8 hn8) | (refine stepRf _ rfl _ _ _ rfl base Tryz.underlying31 (.slice A8 (cs.length+1) c8) (.slice Af fs.length cf) (cs++[zs]) fs rfl (HF8.out.r _ ?_) _ 1 f rfl ?_ HL2.out ?_ ?_;(focus ((repeat (first | exact Below.refl _ _ | refine bDr ?_ | refine bAl ?_ _));done));(focus (first | (first | exact Blk.new _ _ _ | exact (Blk.new _ _ _).drew | exact blk_new1 _ _ _ _ | exact (blk_new1 _ _ _ _).drew | exact ((blk_new1 _ _ _ _).drew).alloc _ | exact (Blk.new _ _ _).alloc _ | exact ((Blk.new _ _ _).alloc _).drew | exact (Blk.new _ _ _).drew.alloc _) | exact HF8.out.n _ _ _ (by simp) (by (first | exact Blk.new _ _ _ | exact (Blk.new _ _ _).drew | exact blk_new1 _ _ _ _ | exact (blk_new1 _ _ _ _).drew | exact ((blk_new1 _ _ _ _).drew).alloc _ | exact (Blk.new _ _ _).alloc _ | exact ((Blk.new _ _ _).alloc _).drew | exact (Blk.new _ _ _).drew.alloc _))));(focus (have h1:=HF8.out.sz;have h2:=HBS.out;simp at h1 ⊢;omega));intro v9 w9 hr9 hx9 hk9 hb9 hg9;obtain ⟨A9,c9,e9⟩:=hr9.formF;rw [List.length_append,List.length_singleton] at e9;subst e9;have kb9:=HNF.out _ _ hg9 (HF8.out.k.below (w:=w8) (B:=w8.heap.size) (by ((repeat (first | exact Below.refl _ _ | refine bDr ?_ | refine bAl ?_ _));done)) HF8.out.k.lt);have f1:=kb9.frozen 1;have f2:=kb9.frozen 2;have p1:=kb9.cell 1;have p2:=kb9.cell 2;have HFIN:=hide (AddH.fin HF8.out (by ((repeat (first | exact Below.refl _ _ | refine bDr ?_ | refine bAl ?_ _));done)) HBS.out hr9 hx9 hk9 hb9 kb9 HBB.out);clear hr9 hx9 hk9 hb9 kb9 hg9))
 all_goals exact bodyPost_ret (v:=.tuple #[]) (by simp [results,Tryz.results97,go_sem]) rfl ⟨rfl,_,_,HFIN.out⟩
end Go.Proofs.YtojgbcmhdnappaaGreatDoor
namespace Go.Proofs.YtojgbcmhdnappaaGreatDoor
open Go.RowKit
open Classical
set_option maxRecDepth 100000
def ClK (w:World) (base:Nat) (v:Value) (cs:List (List Int)):Prop:=∃ qs:List ClQ,qs.map (·.1)=cs∧OwnK elC w base v qs∧∀ q∈qs,OwnI w 0 (slC q) q.1
section
variable {w w':World} {base base':Nat} {v vF:Value} {cs:List (List Int)} {fs:List Int}
theorem RuM.cl (h:RuM w base v vF cs fs):ClK w base v cs:=by
 obtain ⟨qs,h1,h2,h3⟩:=h.is
 exact ⟨qs,h1,h2,fun q hq=>(h3 q hq).1.mono (Nat.zero_le _)⟩
theorem ClK.below (h:ClK w base v cs) (hb:Below w.heap.size w w'):ClK w' base v cs:=by
 obtain ⟨qs,h1,h2,h3⟩:=h
 exact ⟨qs,h1,h2.below hb,fun q hq=>OwnI.below (h3 q hq) hb⟩
theorem ClK.mono (h:ClK w base v cs) (hb:base'≤base):ClK w base' v cs:=by
 obtain ⟨qs,h1,h2,h3⟩:=h
 exact ⟨qs,h1,h2.mono hb,h3⟩
theorem ClK.len (h:ClK w base v cs):∃ A c,v=.slice A cs.length c:=by
 obtain ⟨qs,h1,h2,_⟩:=h
 obtain ⟨A,c,e,_⟩:=h2.len
 exact ⟨A,c,by rw [e,←h1,List.length_map]⟩
theorem ClK.at_ {A:Option Addr} {n c:Nat} (h:ClK w base (.slice A n c) cs) {k:Nat} (hk:k<cs.length):∃ g A' n' c',A=some ⟨g,0,none⟩∧w.cell? ⟨g,k,none⟩=some (.slice A' n' c')∧OwnI w 0 (.slice A' n' c') cs[k]:=by
 obtain ⟨qs,h1,h2,h3⟩:=h
 subst h1
 rw [List.length_map] at hk
 obtain ⟨g,e,hr⟩:=h2.rowAt hk
 have h4:w.cell? ⟨g,k*1+0,none⟩=some (slC qs[k]):=hr.cell hk (j:=0) (by decide)
 rw [show k*1+0=k by omega] at h4
 refine ⟨g,_,_,_,e,h4,?_⟩
 rw [List.getElem_map]
 exact h3 _ (List.getElem_mem hk)
end
def keepB (bs:List Bool) (f:Int):Bool:=decide (f<0)||bs.getD f.toNat false
end Go.Proofs.YtojgbcmhdnappaaGreatDoor
namespace Go.Proofs.YtojgbcmhdnappaaGreatDoor
open Go.RowKit
set_option maxRecDepth 100000
end Go.Proofs.YtojgbcmhdnappaaGreatDoor
