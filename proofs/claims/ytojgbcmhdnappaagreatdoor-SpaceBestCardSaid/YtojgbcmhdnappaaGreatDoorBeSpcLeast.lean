/-
  A part of the proof: SpcLeast. Conditions: none.
-/
import Derived.Test.YtojgbcmhdnappaaGreatDoorBeSpcWay
import Derived.Deep.Cut
import Derived.Deep.RegionWith
namespace Go.Proofs.YtojgbcmhdnappaaGreatDoor
open Go.RowKit Go.Maps
set_option maxRecDepth 100000
def keyPV (x:Int×Int):Value:=.agg #[.int .i64 x.1,.int .i64 x.2]
def keyPL (x:Int×Int):Lit:=.string (keyBytes [.int .i64 x.1,.int .i64 x.2])
def okP (x:Int×Int):Prop:=I64 x.1∧I64 x.2
theorem arrP:WideMaps.ArrKey Tryz.prog 282 3 2:=⟨Tryz.underlying282,by kernel_rfl,by kernel_rfl,by kernel_rfl⟩
theorem keyP_of {x:Int×Int} (h:okP x):keyOf Tryz.prog 282 (keyPV x)=some (keyPL x):=by
 obtain ⟨a,b⟩:=x
 obtain ⟨h1,h2⟩:=h
 have A:=arrP
 have hkt:=A.keyType ⟨441-1,by kernel_rfl⟩
 have he:=Tryz.underlying3
 have hm:Tryz.prog.types.size=(441-1)+1:=by kernel_rfl
 unfold keyOf keyPV keyPL
 simp only [A.hu]
 rw [if_pos (by simp [hkt,Value.formed,A.hu,A.size]),hm]
 unfold Program.keyLits
 simp only [A.hu,Value.cells]
 rw [if_pos (by rw [A.size];rfl),show List.range 2=[0,1] from rfl,List.mapM_cons,List.mapM_cons,List.mapM_nil]
 simp [A.one,Program.keyLits,he,wfK h1,wfK h2]
theorem keyS_two:KeyS 282 (Int×Int) keyPV keyPL okP:=by
 refine ⟨.of_law arrP.law,fun _ h=>keyP_of h,fun x y e=>?_,fun _ _=>trivial⟩
 obtain ⟨a,b⟩:=x
 obtain ⟨a',b'⟩:=y
 unfold keyPV at e
 simp at e
 simp [e]
def wayZ:Value:=.agg #[.int .i64 0,.int .u64 0,.bool false]
def wayV (cost vals:Nat) (ok:Bool):Value:=.agg #[.int .i64 (cost:Int),.int .u64 (vals:Int),.bool ok]
theorem zeroWay (w:World):(zeroValue 224).run Tryz.prog w=.ok wayZ w:=by unfold wayZ;kernel_rfl
theorem mapWay:Tryz.prog.underlying 226=some (.map 282 224):=Tryz.underlying226
abbrev MapQ (w:World) (gd:Nat) (f:Int×Int→Option Value) (m:Nat):Prop:=MapG 282 keyPL okP w gd f m
structure LsI (w:World) (S B gn gu gt gc vn:Nat) (A:Ar) (c:Nat→Bool→Nat) (gd:Nat) (f:Int×Int→Option Value) (m:Nat):Prop where
 sp:SpB w S B gn gu gt gc (vn:Int) A
 map:MapQ w gd f m
 vals:∀ (h:Int) (k i:Nat) (z:Value),k+i=vn→f (h,(i:Int))=some z→∃ cost vals ok,WayZ k i (wayF c k i (den A h)) cost vals ok∧z=wayV cost vals ok
def LsP (w:World) (S B gn gu gt gc vn:Nat) (A:Ar) (c:Nat→Bool→Nat) (gd m k i:Nat) (h:Int) (e:Ending) (w':World):Prop :=
 ∃ cost vals ok f' m',e=.returned (wayV cost vals ok)∧WayZ k i (wayF c k i (den A h)) cost vals ok∧LsI w' S B gn gu gt gc vn A c gd f' m'∧m'+1≤m+2 ^ k∧Fr (fun j=>j=gd) w w'
section
variable {w w' wr:World} {S B gn gu gt gc vn gd m m0:Nat} {A:Ar} {c:Nat→Bool→Nat} {f f0:Int×Int→Option Value} {h:Int}
theorem LsI.below (h:LsI w S B gn gu gt gc vn A c gd f m) (hb:Below w.heap.size w w'):LsI w' S B gn gu gt gc vn A c gd f m:=⟨h.sp.below hb,h.map.below hb,h.vals⟩
theorem LsI.keepB (h0:LsI w S B gn gu gt gc vn A c gd f0 m0) (h:LsI wr S B gn gu gt gc vn A c gd f m) (hb:Below w.heap.size wr w'):LsI w' S B gn gu gt gc vn A c gd f m :=
 ⟨⟨h.sp.kS.below hb h0.sp.kS.lt,h.sp.ar.below hb (fun _ hk=>h0.sp.ar.lt hk),h.sp.wf⟩,h.map.same (hb.block gd h0.map.lt),h.vals⟩
theorem LsI.store {k i cost vals:Nat} {ok:Bool} (hI:LsI w S B gn gu gt gc vn A c gd f m) (hm:MapQ w' gd (fun y=>if y=(h,(i:Int)) then some (wayV cost vals ok) else f y) (m+1)) (hg:w.grownBy w' (some gd)) (hk:k+i=vn) (hw:WayZ k i (wayF c k i (den A h)) cost vals ok) :
  LsI w' S B gn gu gt gc vn A c gd (fun y=>if y=(h,(i:Int)) then some (wayV cost vals ok) else f y) (m+1)∧Fr (fun j=>j=gd) w w':=by
 have hf:Fr (fun j=>j=gd) w w':=(Fr.refl _ w).grown hg (fun k e=>by cases e;rfl)
 refine ⟨⟨spB_fr S B gn gu gt gc (vn:Int) A hI.sp hf hI.map.isM,hm,fun y k' i' z hk' e=>?_⟩,hf⟩
 split at e
 ·rename_i hy
  simp only [Prod.mk.injEq] at hy
  obtain ⟨rfl,hy⟩:=hy
  obtain rfl:i'=i:=by omega
  obtain rfl:k'=k:=by omega
  cases e
  exact ⟨cost,vals,ok,hw,rfl⟩
 ·exact hI.vals y k' i' z hk' e
theorem below_set {C g j:Nat} (h:Below C w w') (hg:C≤g) (u:Value):Below C w (w'.setCell ⟨g,j,none⟩ u):=h.setCell (p:=⟨g,j,none⟩) hg u
theorem blk_way {g:Nat} {c0 c1 c2:Value} (hk:Blk wr g 224 #[c0,c1,c2]) (a0 a1 a2:Value):Blk (((wr.setCell ⟨g,0,none⟩ a0).setCell ⟨g,1,none⟩ a1).setCell ⟨g,2,none⟩ a2) g 224 #[a0,a1,a2]:=((hk.set_ 0 a0).set_ 1 a1).set_ 2 a2
end
theorem bdVarsB_any (S B gn gu gt gc:Nat) (vars:Int) (A:Ar) (w:World) (h:SpB w S B gn gu gt gc vars A) :
  Calls Tryz.prog 14 #[.pointer (some ⟨S,0,none⟩)] w (fun e w'=>e=.returned (.int .i64 vars)∧w=w'):=by
 have s1:=h.kS.cell 1
 clear h
 go_enter Tryz.func14,Tryz.ntmps14
 go_wp2
 go_ret
 exact ⟨rfl,rfl⟩
def CostC (w0:World) (gd vn fc:Nat) (lb:Array Value) (c:Nat→Bool→Nat):Prop:=∀ (v:Nat) (b:Bool) (W:World),Fr (fun j=>j=gd) w0 W→v<vn →
 Calls Tryz.prog fc (#[.int .i64 (v:Int),.bool b]++lb) W (fun e W'=>e=.returned (.int .i64 (c v b:Int))∧Below W.heap.size W W')
structure WyI (w wr:World) (S B gn gu gt gc vn:Nat) (A:Ar) (c:Nat→Bool→Nat) (gd m k i:Nat) (h lo hi:Int) (g10 g11 g18 g19:Nat) (ca va cb vb:Nat) (ka kb:Bool) (xa xb xv:Nat):Prop where
 ls:∃ f m',LsI wr S B gn gu gt gc vn A c gd f m'∧m'+2≤m+2 ^ (k+1)
 wa:WayZ k (i+1) (wayF c k (i+1) (den A hi)) ca va ka
 wb:WayZ k (i+1) (wayF c k (i+1) (den A lo)) cb vb kb
 k10:Blk wr g10 224 #[.int .i64 0,.int .u64 0,.bool false]
 k11:Blk wr g11 282 #[.int .i64 h,.int .i64 (i:Int)]
 ka:Blk wr g18 224 #[.int .i64 ((ca+xa:Nat):Int),.int .u64 ((va+xv:Nat):Int),.bool ka]
 kb:Blk wr g19 224 #[.int .i64 ((cb+xb:Nat):Int),.int .u64 (vb:Int),.bool kb]
 fr:Fr (fun j=>j=gd) w wr
 ge:w.heap.size≤g10∧w.heap.size≤g11∧w.heap.size≤g18∧w.heap.size≤g19
 ne:g10≠g18∧g10≠g19∧g18≠g19∧g11≠g18∧g11≠g19
section
variable {w wr w':World} {S B gn gu gt gc vn:Nat} {A:Ar} {c:Nat→Bool→Nat} {gd m m0 k i:Nat} {h lo hi:Int} {g10 g11 g18 g19 ca va cb vb:Nat} {ka kb:Bool} {xa xb xv:Nat} {f0:Int×Int→Option Value}
theorem WyI.below (hw:WyI w wr S B gn gu gt gc vn A c gd m k i h lo hi g10 g11 g18 g19 ca va cb vb ka kb xa xb xv) (hb:Below wr.heap.size wr w'):WyI w w' S B gn gu gt gc vn A c gd m k i h lo hi g10 g11 g18 g19 ca va cb vb ka kb xa xb xv:=by
 obtain ⟨f,m',h1,h2⟩:=hw.ls
 exact ⟨⟨f,m',h1.below hb,h2⟩,hw.wa,hw.wb,hw.k10.below hb hw.k10.lt,hw.k11.below hb hw.k11.lt,hw.ka.below hb hw.ka.lt,hw.kb.below hb hw.kb.lt,hw.fr.trans (.of_below hb (Nat.le_refl _)),hw.ge,hw.ne⟩
theorem fr_set {g j:Nat} (h:Fr (fun j=>j=gd) w wr) (hg:w.heap.size≤g) (u:Value):Fr (fun j=>j=gd) w (wr.setCell ⟨g,j,none⟩ u) :=
 ⟨h.os,h.tape,h.output,by rw [show (wr.setCell ⟨g,j,none⟩ u).heap.size=wr.heap.size by simp [World.setCell]];exact h.size,fun k hk hs=>(Below.heap_setCell wr ⟨g,j,none⟩ u k (by show k≠g;omega)).trans (h.block k hk hs)⟩
theorem WyI.setA (h0:LsI w S B gn gu gt gc vn A c gd f0 m0) (hw:WyI w wr S B gn gu gt gc vn A c gd m k i h lo hi g10 g11 g18 g19 ca va cb vb ka kb xa xb xv) (x:Nat):WyI w (wr.setCell ⟨g18,0,none⟩ (.int .i64 ((ca+x:Nat):Int))) S B gn gu gt gc vn A c gd m k i h lo hi g10 g11 g18 g19 ca va cb vb ka kb x xb xv:=by
 obtain ⟨f,m',h1,h2⟩:=hw.ls
 obtain ⟨e1,e2,e3,e4⟩:=hw.ge
 obtain ⟨n1,n2,n3,n4,n5⟩:=hw.ne
 exact ⟨⟨f,m',h0.keepB h1 (below_set (Below.refl _ _) e3 _),h2⟩,hw.wa,hw.wb,hw.k10.far n1 _,hw.k11.far n4 _,hw.ka.set_ 0 _,hw.kb.far (Ne.symm n3) _,fr_set hw.fr e3 _,hw.ge,hw.ne⟩
theorem WyI.setV (h0:LsI w S B gn gu gt gc vn A c gd f0 m0) (hw:WyI w wr S B gn gu gt gc vn A c gd m k i h lo hi g10 g11 g18 g19 ca va cb vb ka kb xa xb xv) (x:Nat):WyI w (wr.setCell ⟨g18,1,none⟩ (.int .u64 ((va+x:Nat):Int))) S B gn gu gt gc vn A c gd m k i h lo hi g10 g11 g18 g19 ca va cb vb ka kb xa xb x:=by
 obtain ⟨f,m',h1,h2⟩:=hw.ls
 obtain ⟨e1,e2,e3,e4⟩:=hw.ge
 obtain ⟨n1,n2,n3,n4,n5⟩:=hw.ne
 exact ⟨⟨f,m',h0.keepB h1 (below_set (Below.refl _ _) e3 _),h2⟩,hw.wa,hw.wb,hw.k10.far n1 _,hw.k11.far n4 _,hw.ka.set_ 1 _,hw.kb.far (Ne.symm n3) _,fr_set hw.fr e3 _,hw.ge,hw.ne⟩
theorem WyI.setB (h0:LsI w S B gn gu gt gc vn A c gd f0 m0) (hw:WyI w wr S B gn gu gt gc vn A c gd m k i h lo hi g10 g11 g18 g19 ca va cb vb ka kb xa xb xv) (x:Nat):WyI w (wr.setCell ⟨g19,0,none⟩ (.int .i64 ((cb+x:Nat):Int))) S B gn gu gt gc vn A c gd m k i h lo hi g10 g11 g18 g19 ca va cb vb ka kb xa x xv:=by
 obtain ⟨f,m',h1,h2⟩:=hw.ls
 obtain ⟨e1,e2,e3,e4⟩:=hw.ge
 obtain ⟨n1,n2,n3,n4,n5⟩:=hw.ne
 exact ⟨⟨f,m',h0.keepB h1 (below_set (Below.refl _ _) e4 _),h2⟩,hw.wa,hw.wb,hw.k10.far n2 _,hw.k11.far n5 _,hw.ka.far n3 _,hw.kb.set_ 0 _,fr_set hw.fr e4 _,hw.ge,hw.ne⟩
end
structure FnI (w wr:World) (S B gn gu gt gc vn:Nat) (A:Ar) (c:Nat→Bool→Nat) (gd m k i:Nat) (h:Int) (g10 g11 g20 ct vt:Nat) (kt:Bool):Prop where
 ls:∃ f m',LsI wr S B gn gu gt gc vn A c gd f m'∧m'+2≤m+2 ^ (k+1)
 way:WayZ (k+1) i (wayF c (k+1) i (den A h)) ct vt kt
 k10:Blk wr g10 224 #[.int .i64 0,.int .u64 0,.bool false]
 k11:Blk wr g11 282 #[.int .i64 h,.int .i64 (i:Int)]
 k20:Blk wr g20 224 #[.int .i64 (ct:Int),.int .u64 (vt:Int),.bool kt]
 fr:Fr (fun j=>j=gd) w wr
def FnE (w:World) (S B gn gu gt gc vn:Nat) (A:Ar) (c:Nat→Bool→Nat) (gd m k i:Nat) (h:Int) (g10 g11 g20:Nat) (wr:World):Prop:=∃ ct vt kt,FnI w wr S B gn gu gt gc vn A c gd m k i h g10 g11 g20 ct vt kt
section
variable {w wr:World} {S B gn gu gt gc vn:Nat} {A:Ar} {c:Nat→Bool→Nat} {gd m m0 k i:Nat} {h lo hi:Int} {g10 g11 g18 g19 g20 ca va cb vb:Nat} {ka kb:Bool} {xa xb xv:Nat} {f0:Int×Int→Option Value}
theorem WyI.first_ {sA sV:Nat} (hw:WyI w wr S B gn gu gt gc vn A c gd m k i h lo hi g10 g11 g18 g19 ca va cb vb ka kb xa xb xv) (hk:Blk wr g20 224 #[.int .i64 (sA:Int),.int .u64 (sV:Int),.bool ka]) (_hA:ca+xa=sA) (_hV:va+xv=sV) (hz:WayZ (k+1) i (wayF c (k+1) i (den A h)) sA sV ka) :
  FnE w S B gn gu gt gc vn A c gd m k i h g10 g11 g20 wr:=⟨_,_,_,hw.ls,hz,hw.k10,hw.k11,hk,hw.fr⟩
theorem WyI.second {sB:Nat} (h0:LsI w S B gn gu gt gc vn A c gd f0 m0) (hw:WyI w wr S B gn gu gt gc vn A c gd m k i h lo hi g10 g11 g18 g19 ca va cb vb ka kb xa xb xv) {a0 a1 a2:Value} (hk:Blk wr g20 224 #[a0,a1,a2]) (hg:w.heap.size≤g20) (h1:g10≠g20) (h2:g11≠g20) (_hB:cb+xb=sB) (hz:WayZ (k+1) i (wayF c (k+1) i (den A h)) sB vb kb) :
  FnE w S B gn gu gt gc vn A c gd m k i h g10 g11 g20 (((wr.setCell ⟨g20,0,none⟩ (.int .i64 (sB:Int))).setCell ⟨g20,1,none⟩ (.int .u64 (vb:Int))).setCell ⟨g20,2,none⟩ (.bool kb)):=by
 obtain ⟨f,m',h3,h4⟩:=hw.ls
 exact ⟨_,_,_,⟨f,m',h0.keepB h3 (below_set (below_set (below_set (Below.refl _ _) hg _) hg _) hg _),h4⟩,hz,((hw.k10.far h1 _).far h1 _).far h1 _,((hw.k11.far h2 _).far h2 _).far h2 _,blk_way hk _ _ _,fr_set (fr_set (fr_set hw.fr hg _) hg _) hg _⟩
end
theorem way_at {A:Ar} {vn:Nat} {c:Nat→Bool→Nat} (hN:CtN A (vn:Int)) (h8:vn≤8) {k i:Nat} {h:Int} (hi:k+1+i=vn) (ht:(i:Int)≤topA A h) (hx:hasA A h=true) (nd:Nd) (bb:Bool) (h1:(gotA A h).getD nd0=nd) (h2:(gotA A h).isSome=bb) :
  ∃ lo hi2:Int,((bb&&nd.var==(i:Int))=true→lo=nd.low∧hi2=nd.high)∧((bb&&nd.var==(i:Int))=false→lo=h∧hi2=h)∧((i+1:Nat):Int)≤topA A lo∧((i+1:Nat):Int)≤topA A hi2∧hasA A lo=true∧hasA A hi2=true ∧
   wayF c (k+1) i (den A h)=pickF ((wayF c k (i+1) (den A hi2)).map fun p=>(p.1+c i true,p.2+2 ^ i)) ((wayF c k (i+1) (den A lo)).map fun p=>(p.1+c i false,p.2)):=by
 cases e:gotA A h with
 | none =>
  rw [e] at h2
  subst h2
  have htop:=top_none e
  exact ⟨h,h,fun x=>(by cases x),fun _=>⟨rfl,rfl⟩,by omega,by omega,hx,hx,way_skip hN.wf (by omega)⟩
 | some d =>
  rw [e] at h1 h2
  subst h1 h2
  have htop:=top_some e
  obtain ⟨l1,l2⟩:=hN.wf.low _ _ e
  obtain ⟨u1,u2⟩:=hN.wf.high _ _ e
  by_cases hv:d.var=(i:Int)
  ·exact ⟨d.low,d.high,fun _=>⟨rfl,rfl⟩,fun x=>(by simp [hv] at x),by omega,by omega,l1,u1,way_node hN.wf e hv⟩
  ·exact ⟨h,h,fun x=>absurd (by simpa using x) hv,fun _=>⟨rfl,rfl⟩,by omega,by omega,hx,hx,way_skip hN.wf (by omega)⟩
theorem or_two {va i:Nat} (h:va<256) (hi:2 ^ i≤256) (hm:va ||| 2 ^ i=va+2 ^ i):bits BinOp.or IntKind.u64 (va:Int) (IntKind.u64.wrap ((2:Int) ^ i))=((va+2 ^ i:Nat):Int):=by
 have e:(2:Int) ^ i=((2 ^ i:Nat):Int):=by norm_cast
 rw [e]
 generalize 2 ^ i=p at hi hm ⊢
 have e2:IntKind.u64.wrap (p:Int)=(p:Int):=by rw [IntKind.wrap_u64];omega
 rw [e2,bits_or_u64_nat _ _ (by omega) (by omega),hm]
set_option maxHeartbeats 16000000 in
theorem least_all (S B gn gu gt gc gd vn fc:Nat) (lb:Array Value) (A:Ar) (c:Nat→Bool→Nat) (eg:∀ args w,(callFunc fc args).run Tryz.prog w=.ok (.enter fc args) w) (hN:CtN A (vn:Int)) (h8:vn≤8) (hc:∀ v b,c v b≤1000000) (w0:World) (HC:Hid (CostC w0 gd vn fc lb c)) :
  ∀ (k i:Nat) (h:Int) (m:Nat) (f:Int×Int→Option Value) (w:World),k+i=vn→(i:Int)≤topA A h→hasA A h=true→LsI w S B gn gu gt gc vn A c gd f m→m+2 ^ k≤1000000→Fr (fun j=>j=gd) w0 w →
   Calls Tryz.prog 118 #[.pointer (some ⟨S,0,none⟩),.int .i64 h,.int .i64 (i:Int),.func (.func fc) #[] lb,.map (some gd)] w (LsP w S B gn gu gt gc vn A c gd m k i h):=by
 intro k
 induction k with
 | zero =>
  intro i h m f w hi ht hx hI hm hf0
  obtain rfl:i=vn:=by omega
  have HE:=Lib.hid (way_end (c:=c) hN.var ht)
  have hal:=(Below.refl w.heap.size w).alloc (Nat.le_refl _) (.cells #[.int .i64 0,.int .u64 0,.bool false] 224)
  have HV:=hide (bdVarsB_any S B gn gu gt gc (i:Int) A _ (hI.sp.below hal))
  have HK:=hide (Blk.new w 224 #[.int .i64 0,.int .u64 0,.bool false])
  have HB:=hide hal
  have HI:=hide hI
  clear hI hal hf0 HC
  go_enter Tryz.func118,Tryz.ntmps118
  go_wp2_with fail
  obtain ⟨b,HG⟩:∃ b,Hid (w.heap.size=b):=⟨_,Lib.hid rfl⟩
  rw [HG.out] at HK ⊢
  generalize (w.alloc (.cells #[.int .i64 0,.int .u64 0,.bool false] 224))=w1 at HV HK HB ⊢
  refine HV.out.mono ?_
  rintro e w2 ⟨rfl,rfl⟩
  have c0:=HK.out.cell 0
  have c1:=HK.out.cell 1
  have c2:=HK.out.cell 2
  have f0:=HK.out.frozen 0
  have f1:=HK.out.frozen 1
  have f2:=HK.out.frozen 2
  have lb:=HK.out.lt
  have HS:=hide (fun a0 a1 a2=>blk_way HK.out a0 a1 a2)
  have HBS:=hide (fun a0 a1 a2=>show Below w.heap.size w (((w1.setCell ⟨b,0,none⟩ a0).setCell ⟨b,1,none⟩ a1).setCell ⟨b,2,none⟩ a2) from below_set (below_set (below_set HB.out (show w.heap.size≤b by rw [HG.out];exact Nat.le_refl _) a0) (show w.heap.size≤b by rw [HG.out];exact Nat.le_refl _) a1) (show w.heap.size≤b by rw [HG.out];exact Nat.le_refl _) a2)
  go_wp2_with fail
  have hk9:=HS.out (.int .i64 0) (.int .u64 0) (.bool (h==1))
  have p0:=hk9.cell 0
  have p1:=hk9.cell 1
  have p2:=hk9.cell 2
  refine bodyPost_ret (v:=wayV 0 0 (h==1)) (by simp [results,Tryz.results118,go_sem,p0,p1,p2,wayV]) rfl ⟨0,0,_,f,m,rfl,⟨?_,Nat.zero_le _,Nat.two_pow_pos _,Nat.zero_mod _⟩,HI.out.keepB HI.out (HBS.out _ _ _),Nat.le_refl _,Fr.of_below (HBS.out _ _ _) (Nat.le_refl _)⟩
  rw [HE.out]
  by_cases h1:h=1
  ·subst h1;rfl
  ·rw [if_neg h1,beq_eq_false_iff_ne.2 h1];rfl
 | succ k ih =>
  intro i h m f w hi ht hx hI hm hf0
  have hlt:i<vn:=by omega
  have hiv:((i:Int)==(vn:Int))=false:=beq_eq_false_iff_ne.2 (by omega)
  have hal:=(Below.refl w.heap.size w).alloc (Nat.le_refl _) (.cells #[.int .i64 0,.int .u64 0,.bool false] 224)
  have HV:=hide (bdVarsB_any S B gn gu gt gc (vn:Int) A _ (hI.sp.below hal))
  have HK:=hide (Blk.new w 224 #[.int .i64 0,.int .u64 0,.bool false])
  have HB:=hide hal
  have HI:=hide hI
  have HF0:=hide hf0
  have hih:=has_i64 hI.sp.ar hx
  clear hI hal hf0
  go_enter Tryz.func118,Tryz.ntmps118
  go_wp2_with fail
  obtain ⟨b,HG⟩:∃ b,Hid (w.heap.size=b):=⟨_,Lib.hid rfl⟩
  rw [HG.out] at HK ⊢
  obtain ⟨w1,HW1⟩:∃ w1,Hid ((w.alloc (.cells #[.int .i64 0,.int .u64 0,.bool false] 224))=w1):=⟨_,Lib.hid rfl⟩
  have hs1:w1.heap.size=b+1:=by rw [←HW1.out,←HG.out];simp
  rw [HW1.out] at HV HK HB ⊢
  refine HV.out.mono ?_
  rintro e w2 ⟨rfl,rfl⟩
  by_cases h0:h=0
  ·subst h0
   have c0:=HK.out.cell 0
   have c1:=HK.out.cell 1
   have c2:=HK.out.cell 2
   have f0:=HK.out.frozen 0
   have f1:=HK.out.frozen 1
   have f2:=HK.out.frozen 2
   have lb:=HK.out.lt
   have HS:=hide (fun a0 a1 a2=>blk_way HK.out a0 a1 a2)
   have HBS:=hide (fun a0 a1 a2=>show Below w.heap.size w (((w1.setCell ⟨b,0,none⟩ a0).setCell ⟨b,1,none⟩ a1).setCell ⟨b,2,none⟩ a2) from below_set (below_set (below_set HB.out (show w.heap.size≤b by rw [HG.out];exact Nat.le_refl _) a0) (show w.heap.size≤b by rw [HG.out];exact Nat.le_refl _) a1) (show w.heap.size≤b by rw [HG.out];exact Nat.le_refl _) a2)
   clear ih HC
   go_wp2_with fail
   have hk9:=HS.out (.int .i64 0) (.int .u64 0) (.bool false)
   have p0:=hk9.cell 0
   have p1:=hk9.cell 1
   have p2:=hk9.cell 2
   refine bodyPost_ret (v:=wayV 0 0 false) (by simp [results,Tryz.results118,go_sem,p0,p1,p2,wayV]) rfl ⟨0,0,_,f,m,rfl,?_,HI.out.keepB HI.out (HBS.out _ _ _),by have:=Nat.one_le_two_pow (n:=k+1);omega,Fr.of_below (HBS.out _ _ _) (Nat.le_refl _)⟩
   rw [way_zero]
   exact WayZ.none _ _
  ·have h0b:(h==0)=false:=beq_eq_false_iff_ne.2 h0
   have hal2:=(Below.refl w1.heap.size w1).alloc (Nat.le_refl _) (.cells #[.int .i64 h,.int .i64 (i:Int)] 282)
   have HB2:=hide (HB.out.trans (hal2.mono HB.out.size))
   have HI2:=hide (HI.out.below HB2.out)
   have HK2:=hide (HK.out.below hal2 HK.out.lt)
   have HKK:=hide (Blk.new w1 282 #[.int .i64 h,.int .i64 (i:Int)])
   rw [hs1] at HKK
   clear hal2
   go_upto_region 6 with fail
   generalize hw2:(w1.alloc (.cells #[.int .i64 h,.int .i64 (i:Int)] 282))=w2 at HB2 HI2 HK2 HKK ⊢
   have hs2:w2.heap.size=b+1+1:=by rw [←hw2];simp [hs1]
   clear hw2
   have k0:=HKK.out.cell 0
   have k1:=HKK.out.cell 1
   have hlk:(Instr.lookup 226 (.map (some gd)) (.agg #[.int .i64 h,.int .i64 (i:Int)]) true).run Tryz.prog w2=.ok (.tuple #[(f (h,(i:Int))).getD wayZ,.bool (f (h,(i:Int))).isSome]) w2 :=
    HI2.out.map.look keyS_two mapWay (z0:=wayZ) zeroWay (h,(i:Int)) ⟨hih,by unfold I64;omega⟩
   cases hfx:f (h,(i:Int)) with
   | some z =>
    obtain ⟨cost,vals,ok,hw,rfl⟩:=HI.out.vals h (k+1) i z (by omega) hfx
    rw [hfx] at hlk
    simp only [Option.getD_some,Option.isSome_some,wayV] at hlk
    have HW:=Lib.hid hw
    have hal3:=(Below.refl w2.heap.size w2).alloc (Nat.le_refl _) (.cells #[.int .i64 (cost:Int),.int .u64 (vals:Int),.bool ok] 224)
    have HB3:=hide (HB2.out.trans (hal3.mono HB2.out.size))
    have HK3:=hide (HK2.out.below hal3 HK2.out.lt)
    have HK12:=hide (Blk.new w2 224 #[.int .i64 (cost:Int),.int .u64 (vals:Int),.bool ok])
    rw [hs2] at HK12
    clear hw hfx hal3 ih HC
    go_upto_region 8 with fail
    generalize (w2.alloc (.cells #[.int .i64 (cost:Int),.int .u64 (vals:Int),.bool ok] 224))=w3 at HB3 HK3 HK12 ⊢
    have z0:=HK12.out.cell 0
    have z1:=HK12.out.cell 1
    have z2:=HK12.out.cell 2
    have c0:=HK3.out.cell 0
    have c1:=HK3.out.cell 1
    have c2:=HK3.out.cell 2
    have f0:=HK3.out.frozen 0
    have f1:=HK3.out.frozen 1
    have f2:=HK3.out.frozen 2
    have hk9:=blk_way HK3.out (.int .i64 (cost:Int)) (.int .u64 (vals:Int)) (.bool ok)
    have p0:=hk9.cell 0
    have p1:=hk9.cell 1
    have p2:=hk9.cell 2
    have HBS:=hide (below_set (j:=2) (below_set (j:=1) (below_set (j:=0) HB3.out (show w.heap.size≤b by rw [HG.out];exact Nat.le_refl _) (.int .i64 (cost:Int))) (show w.heap.size≤b by rw [HG.out];exact Nat.le_refl _) (.int .u64 (vals:Int))) (show w.heap.size≤b by rw [HG.out];exact Nat.le_refl _) (.bool ok))
    clear hk9
    go_wp2_with fail
    exact bodyPost_ret (v:=wayV cost vals ok) (by simp [results,Tryz.results118,go_sem,p0,p1,p2,wayV]) rfl ⟨cost,vals,ok,f,m,rfl,HW.out,HI.out.keepB HI.out HBS.out,by have:=Nat.one_le_two_pow (n:=k+1);omega,Fr.of_below HBS.out (Nat.le_refl _)⟩
   | none =>
    rw [hfx] at hlk
    simp only [Option.getD_none,Option.isSome_none,wayZ] at hlk
    have hal3:=(Below.refl w2.heap.size w2).alloc (Nat.le_refl _) (.cells #[.int .i64 0,.int .u64 0,.bool false] 224)
    have HB3:=hide (HB2.out.trans (hal3.mono HB2.out.size))
    have HK3:=hide (HK2.out.below hal3 HK2.out.lt)
    have HK13:=hide (HKK.out.below hal3 HKK.out.lt)
    have HI3:=hide (HI.out.below HB3.out)
    have s0:=HI3.out.sp.kS.cell 0
    obtain ⟨nd,hnd⟩:∃ nd,(gotA A h).getD nd0=nd:=⟨_,rfl⟩
    obtain ⟨bb,hbb⟩:∃ bb,(gotA A h).isSome=bb:=⟨_,rfl⟩
    obtain ⟨lo,hi2,q1,q2,q3,q4,q5,q6,q7⟩:=way_at (c:=c) hN h8 (by omega) ht hx nd bb hnd hbb
    obtain ⟨dv,dl,dh⟩:=nd
    simp only at q1 q2
    have HGT:=hide (arGet_any B gn gu gt A h _ HI3.out.sp.ar hih)
    unfold GetPost nodeV at HGT
    rw [hnd,hbb] at HGT
    simp only at HGT
    have HQ7:=Lib.hid q7
    clear hnd hbb hal3 HB2 HK2 HI2 HKK hfx q7
    go_wp2_with fail
    generalize (w2.alloc (.cells #[.int .i64 0,.int .u64 0,.bool false] 224))=w3 at HB3 HK3 HK13 HI3 s0 HGT hlk ⊢
    clear hlk
    refine HGT.out.mono ?_
    rintro e w4 ⟨rfl,hb4⟩
    have hb5:=hb4.alloc hb4.size (.cells #[.int .i64 dv,.int .i64 dl,.int .i64 dh] 214)
    have HB5:=hide (HB3.out.trans (hb5.mono HB3.out.size))
    have HK5:=hide (HK3.out.below hb5 HK3.out.lt)
    have HK15:=hide (HK13.out.below hb5 HK13.out.lt)
    have HKN:=hide (Blk.new w4 214 #[.int .i64 dv,.int .i64 dl,.int .i64 dh])
    clear hb4 hb5 HB3 HK3 HK13 HI3 s0 HGT
    go_upto_region 11 with fail
    obtain ⟨gN,HGN⟩:∃ gN,Hid (w4.heap.size=gN):=⟨_,Lib.hid rfl⟩
    rw [HGN.out] at HKN ⊢
    generalize (w4.alloc (.cells #[.int .i64 dv,.int .i64 dl,.int .i64 dh] 214))=w5 at HB5 HK5 HK15 HKN ⊢
    have n0:=HKN.out.cell 0
    have n1:=HKN.out.cell 1
    have n2:=HKN.out.cell 2
    obtain ⟨tt,HTT⟩:∃ tt,Hid ((bb&&dv==(i:Int))=tt):=⟨_,Lib.hid rfl⟩
    rw [HTT.out] at q1 q2
    go_cut [59] from 21 (fun s59 wc=>s59=.bool tt∧wc=w5)
    case first =>
     cases bb with
     | true =>
      have htt:(dv==(i:Int))=tt:=HTT.out
      go_wp2
      go_meet
      case rel=>exact ⟨rfl,rfl⟩
     | false =>
      have htt:tt=false:=HTT.out.symm
      subst htt
      go_wp2
      go_meet
      case rel=>exact ⟨rfl,rfl⟩
    case rest =>
     obtain ⟨rfl,rfl⟩:=hcut
     obtain ⟨wz,rfl⟩:∃ wz,wz=wc:=⟨_,rfl⟩
     go_upto_if 59 with fail
     go_cut [14,15] from 21 (fun s14 s15 wc2=>s14=.int .i64 lo∧s15=.int .i64 hi2∧Hid (Below wz.heap.size wz wc2))
     case first =>
      cases tt with
      | true =>
       obtain ⟨rfl,rfl⟩:=q1 rfl
       have HDR:=hide ((Below.refl wz.heap.size wz).drew)
       go_wp2_with fail
       go_region
       all_goals
        go_wp2
        go_meet
        case rel=>exact ⟨rfl,rfl,HDR⟩
      | false =>
       obtain ⟨rfl,rfl⟩:=q2 rfl
       have HDR:=hide (Below.refl wz.heap.size wz)
       go_wp2
       go_meet
       case rel=>exact ⟨rfl,rfl,HDR⟩
     case rest =>
      obtain ⟨rfl,rfl,HBC⟩:=hcut
      have HB6:=hide (HB5.out.trans (HBC.out.mono HB5.out.size))
      have HK6:=hide (HK5.out.below HBC.out HK5.out.lt)
      have HK16:=hide (HK15.out.below HBC.out HK15.out.lt)
      have hi1:wrap64 ((i:Int)+1)=((i+1:Nat):Int):=by unfold wrap64;omega
      have hpw:2 ^ (k+1)=2 ^ k+2 ^ k:=by rw [Nat.pow_succ];omega
      have hpk:=Nat.one_le_two_pow (n:=k)
      have HPW:=Lib.hid hpw
      have HL1:=hide (ih (i+1) hi2 m f wc (by omega) q4 q6 (HI.out.below HB6.out) (by omega) (HF0.out.trans (.of_below HB6.out (Nat.le_refl _))))
      unfold LsP wayV at HL1
      clear HB5 HK5 HK15 HBC HKN n0 n1 n2 HTT q1 q2 hpw hpk hs1 hs2 hiv
      go_wp2_with fail
      refine HL1.out.mono ?_
      rintro e w6 ⟨ca,va,ka,f6,m6,rfl,hz6,hI6,hm6,hf6⟩
      have hf06:=(HF0.out.trans (.of_below HB6.out (Nat.le_refl _))).trans hf6
      have HL2:=hide (ih (i+1) lo m6 f6 w6 (by omega) q3 q5 hI6 (by have:=HPW.out;omega) hf06)
      unfold LsP wayV at HL2
      have HZ6:=Lib.hid hz6
      have HF6:=hide hf6
      have HF06:=hide hf06
      have HN6:=Lib.hid (show b≠gd∧b+1≠gd from ⟨mapG_ne (HI.out.below HB6.out).map HK6.out,mapG_ne (HI.out.below HB6.out).map HK16.out⟩)
      clear hz6 hI6 hf6 hf06 HL1 ih
      go_wp2_with fail
      refine HL2.out.mono ?_
      rintro e w7 ⟨cb,vb,kb,f7,m7,rfl,hz7,hI7,hm7,hf7⟩
      have hal8:=(Below.refl w7.heap.size w7).alloc (Nat.le_refl _) (.cells #[.int .i64 (ca:Int),.int .u64 (va:Int),.bool ka] 224)
      have hal9:=hal8.alloc (by simp) (.cells #[.int .i64 (cb:Int),.int .u64 (vb:Int),.bool kb] 224)
      have hK10:=(HK6.out.fr HF6.out HN6.out.1).fr hf7 HN6.out.1
      have hK11:=(HK16.out.fr HF6.out HN6.out.2).fr hf7 HN6.out.2
      have hl10:=hK10.lt
      have hl11:=hK11.lt
      have hbw:w.heap.size≤b:=by rw [HG.out];exact Nat.le_refl _
      have HW:=hide (show WyI w ((w7.alloc (.cells #[.int .i64 (ca:Int),.int .u64 (va:Int),.bool ka] 224)).alloc (.cells #[.int .i64 (cb:Int),.int .u64 (vb:Int),.bool kb] 224)) S B gn gu gt gc vn A c gd m k i h lo hi2 b (b+1) w7.heap.size (w7.heap.size+1) ca va cb vb ka kb 0 0 0 from
       ⟨⟨f7,m7,hI7.below hal9,by have:=HPW.out;omega⟩,HZ6.out,hz7,hK10.below hal9 hl10,hK11.below hal9 hl11,(Blk.new w7 _ _).alloc _,by
        have:=Blk.new (w7.alloc (.cells #[.int .i64 (ca:Int),.int .u64 (va:Int),.bool ka] 224)) 224 #[.int .i64 (cb:Int),.int .u64 (vb:Int),.bool kb]
        simpa using this,(Fr.of_below HB6.out (Nat.le_refl _)).trans (HF6.out.trans (hf7.trans (.of_below hal9 (Nat.le_refl _)))),by omega,by omega⟩)
      have hb10:ca≤k*1000000:=HZ6.out.cost
      have hb11:cb≤k*1000000:=hz7.cost
      have hb12:va<2 ^ (i+1+k):=HZ6.out.vals.1
      have hvm:=(way_mod HZ6.out.vals.2).2.2
      have hk8:k≤8:=by omega
      have hi8:i≤8:=by omega
      have hva:va<256:=Nat.lt_of_lt_of_le hb12 (Nat.pow_le_pow_right (n:=2) (by decide) (show i+1+k≤8 by omega))
      have HVM:=Lib.hid (or_two hva (Nat.pow_le_pow_right (n:=2) (by decide) hi8) hvm)
      clear hal8 hal9 hK10 hK11 hl10 hl11 hz7 hI7 hf7 hm7 HL2 HK6 HK16 HF6 HF06 HB6 hb12 hvm hm6
      go_upto_region 14 with fail
      obtain ⟨g18,HG18⟩:∃ g18,Hid (w7.heap.size=g18):=⟨_,Lib.hid rfl⟩
      rw [HG18.out] at HW ⊢
      obtain ⟨g19,HG19⟩:∃ g19,Hid (g18+1=g19):=⟨_,Lib.hid rfl⟩
      rw [HG19.out] at HW ⊢
      generalize ((w7.alloc (.cells #[.int .i64 (ca:Int),.int .u64 (va:Int),.bool ka] 224)).alloc (.cells #[.int .i64 (cb:Int),.int .u64 (vb:Int),.bool kb] 224))=wA at HW ⊢
      have HCT:=hide (hc i true)
      have HCF:=hide (hc i false)
      have HCOST:=Lib.hid (fun (W:World) (bo:Bool) (hf:Fr (fun j=>j=gd) w W)=>HC.out i bo W (HF0.out.trans hf) hlt)
      clear HC HF0
      go_cut [18] from 21 (fun s18 wc=>s18=.pointer (some ⟨g18,0,none⟩)∧Hid (WyI w wc S B gn gu gt gc vn A c gd m k i h lo hi2 b (b+1) g18 g19 ca va cb vb ka kb (c i true) 0 0))
      case first=>as_aux_lemma =>
       have a0:=HW.out.ka.cell 0
       have a0f:=HW.out.ka.frozen 0
       have la:=HW.out.ka.lt
       have hcc:=HCT.out
       have HCC:=hide ((HCOST.out wA.drew true (HW.out.fr.drew)).mono fun e w' hp=>show e=.returned (.int .i64 ((c i true:Nat):Int))∧Below wA.heap.size wA w' from ⟨hp.1,(Below.refl _ _).drew.trans hp.2⟩)
       have HWR:=Lib.hid (show IntKind.i64.wrap ((ca:Int)+((c i true:Nat):Int))=((ca+c i true:Nat):Int) by rw [IntKind.wrap_i64];omega)
       clear hcc
       go_region_with (first | (go_at_fn fc;refine (HCC.out).mono ?_;rintro e wt ⟨rfl,hbt⟩;have a0t:=(hbt.cell (p:=⟨g18,0,none⟩) la).trans a0;have a0ft:=(hbt.frozen (p:=⟨g18,0,none⟩) la).trans a0f))
       all_goals
        have HH:=hide ((HW.out.below hbt).setA HI.out (c i true))
        clear hbt
        go_wp2
        go_meet
        case rel=>exact ⟨rfl,by rw [HWR.out];exact HH⟩
      case rest =>
       obtain ⟨rfl,HW1⟩:=hcut
       obtain ⟨wB,rfl⟩:∃ wB,wB=wc:=⟨_,rfl⟩
       clear HW
       go_upto_region 15 with fail
       go_cut [18] from 21 (fun s18 wc=>s18=.pointer (some ⟨g18,0,none⟩)∧Hid (WyI w wc S B gn gu gt gc vn A c gd m k i h lo hi2 b (b+1) g18 g19 ca va cb vb ka kb (c i true) 0 (2 ^ i)))
       case first=>as_aux_lemma =>
        have a1:wB.cell? ⟨g18,1,none⟩=some (.int .u64 (va:Int)):=HW1.out.ka.cell 1
        have a1f:=HW1.out.ka.frozen 1
        have la:=HW1.out.ka.lt
        have HH:=hide ((HW1.out.below (Below.refl _ _).drew).setV HI.out (2 ^ i))
        have hor:=HVM.out
        clear HCOST
        go_region
        all_goals
         go_wp2
         go_meet
         case rel=>exact ⟨rfl,HH⟩
       case rest =>
        obtain ⟨rfl,HW2⟩:=hcut
        obtain ⟨wC,rfl⟩:∃ wC,wC=wc:=⟨_,rfl⟩
        clear HW1
        go_upto_region 16 with fail
        go_cut [19] from 21 (fun s19 wc=>s19=.pointer (some ⟨g19,0,none⟩)∧Hid (WyI w wc S B gn gu gt gc vn A c gd m k i h lo hi2 b (b+1) g18 g19 ca va cb vb ka kb (c i true) (c i false) (2 ^ i)))
        case first=>as_aux_lemma =>
         have a0:wC.cell? ⟨g19,0,none⟩=some (.int .i64 (cb:Int)):=HW2.out.kb.cell 0
         have a0f:=HW2.out.kb.frozen 0
         have la:=HW2.out.kb.lt
         have hcc:=HCF.out
         have HCC:=hide ((HCOST.out wC.drew false (HW2.out.fr.drew)).mono fun e w' hp=>show e=.returned (.int .i64 ((c i false:Nat):Int))∧Below wC.heap.size wC w' from ⟨hp.1,(Below.refl _ _).drew.trans hp.2⟩)
         have HWR:=Lib.hid (show IntKind.i64.wrap ((cb:Int)+((c i false:Nat):Int))=((cb+c i false:Nat):Int) by rw [IntKind.wrap_i64];omega)
         clear hcc
         go_region_with (first | (go_at_fn fc;refine (HCC.out).mono ?_;rintro e wt ⟨rfl,hbt⟩;have a0t:=(hbt.cell (p:=⟨g19,0,none⟩) la).trans a0;have a0ft:=(hbt.frozen (p:=⟨g19,0,none⟩) la).trans a0f))
         all_goals
          have HH:=hide ((HW2.out.below hbt).setB HI.out (c i false))
          clear hbt
          go_wp2
          go_meet
          case rel=>exact ⟨rfl,by rw [HWR.out];exact HH⟩
        case rest=>as_aux_lemma =>
         obtain ⟨rfl,HW3⟩:=hcut
         obtain ⟨wD,rfl⟩:∃ wD,wD=wc:=⟨_,rfl⟩
         clear HW2 HCOST
         have hcc:=HCT.out
         have hcd:=HCF.out
         obtain ⟨sA,HSA⟩:∃ sA,Hid (ca+c i true=sA):=⟨_,Lib.hid rfl⟩
         obtain ⟨sB,HSB⟩:∃ sB,Hid (cb+c i false=sB):=⟨_,Lib.hid rfl⟩
         obtain ⟨sV,HSV⟩:∃ sV,Hid (va+2 ^ i=sV):=⟨_,Lib.hid rfl⟩
         have d0:wD.cell? ⟨g18,0,none⟩=some (.int .i64 (sA:Int)):=by rw [←HSA.out];exact HW3.out.ka.cell 0
         have d1:wD.cell? ⟨g18,1,none⟩=some (.int .u64 (sV:Int)):=by rw [←HSV.out];exact HW3.out.ka.cell 1
         have d2:wD.cell? ⟨g18,2,none⟩=some (.bool ka):=HW3.out.ka.cell 2
         obtain ⟨tt,HTT⟩:∃ tt:Bool,Hid ((!ka||(kb&&decide (sB<sA)))=tt):=⟨_,Lib.hid rfl⟩
         have HDC:=Lib.hid (show decide ((sB:Int)<(sA:Int))=decide (sB<sA) from decide_eq_decide.2 (by omega))
         clear hcc hcd
         go_upto_region 18 with fail
         have hal:=(Below.refl wD.heap.size wD).alloc (Nat.le_refl _) (.cells #[.int .i64 (sA:Int),.int .u64 (sV:Int),.bool ka] 224)
         have HW4:=hide (HW3.out.below hal)
         have HK20:=hide (Blk.new wD 224 #[.int .i64 (sA:Int),.int .u64 (sV:Int),.bool ka])
         have hs20:w.heap.size≤wD.heap.size:=HW3.out.fr.size
         have hg20:b≠wD.heap.size∧b+1≠wD.heap.size:=⟨by have:=HW3.out.k10.lt;omega,by have:=HW3.out.k11.lt;omega⟩
         clear hal HW3 d0 d1 d2
         generalize wD.heap.size=g20 at HK20 hs20 hg20 ⊢
         generalize (wD.alloc (.cells #[.int .i64 (sA:Int),.int .u64 (sV:Int),.bool ka] 224))=wE at HW4 HK20 ⊢
         have d0:wE.cell? ⟨g18,0,none⟩=some (.int .i64 (sA:Int)):=by rw [←HSA.out];exact HW4.out.ka.cell 0
         have d2:wE.cell? ⟨g18,2,none⟩=some (.bool ka):=HW4.out.ka.cell 2
         have e0:wE.cell? ⟨g19,0,none⟩=some (.int .i64 (sB:Int)):=by rw [←HSB.out];exact HW4.out.kb.cell 0
         have e1:wE.cell? ⟨g19,1,none⟩=some (.int .u64 (vb:Int)):=HW4.out.kb.cell 1
         have e2:wE.cell? ⟨g19,2,none⟩=some (.bool kb):=HW4.out.kb.cell 2
         go_cut [112] from 21 (fun s112 wc=>s112=.bool tt∧wc=wE)
         case first =>
          have hdc:=HDC.out
          have HT2:=HTT
          clear e1 HTT HDC
          cases ka with
          | false =>
           obtain rfl:tt=true:=HT2.out.symm
           go_wp2
           go_meet
           case rel=>exact ⟨rfl,rfl⟩
          | true =>
           cases kb with
           | false =>
            obtain rfl:tt=false:=HT2.out.symm
            go_wp2
            go_meet
            case rel=>exact ⟨rfl,rfl⟩
           | true =>
            have HT3:=Lib.hid (show decide (sB<sA)=tt from HT2.out)
            go_wp2
            go_meet
            case rel=>exact ⟨by rw [HT3.out],rfl⟩
         case rest =>
          obtain ⟨rfl,rfl⟩:=hcut
          obtain ⟨wF,rfl⟩:∃ wF,wF=wc:=⟨_,rfl⟩
          obtain ⟨hp1,hp0⟩:=WayZ.pick HW4.out.wa HW4.out.wb HCT.out HCF.out
          rw [←HQ7.out,HSA.out,HSB.out] at hp1 hp0
          rw [HSV.out] at hp0
          have HP1:=Lib.hid hp1
          have HP0:=Lib.hid hp0
          have f0:=HK20.out.frozen 0
          have f1:=HK20.out.frozen 1
          have f2:=HK20.out.frozen 2
          have y0:=HK20.out.cell 0
          have y1:=HK20.out.cell 1
          have y2:=HK20.out.cell 2
          clear hp1 hp0 d0 d2
          go_upto_if 112 with fail
          go_cut [20] from 21 (fun s20 wc=>s20=.pointer (some ⟨g20,0,none⟩)∧Hid (FnE w S B gn gu gt gc vn A c gd m k i h b (b+1) g20 wc))
          case first =>
           cases tt with
           | true =>
            have HFE:=hide (HW4.out.second HI.out HK20.out hs20 hg20.1 hg20.2 HSB.out (HP1.out (by
             have:=HTT.out
             cases ka
             ·exact .inl rfl
             ·cases kb
              ·cases this
              ·exact .inr ⟨rfl,of_decide_eq_true (by simpa using this)⟩)))
            clear HTT HDC HW4 HK20
            go_wp2
            go_meet
            case rel=>exact ⟨rfl,HFE⟩
           | false =>
            have HFE:=hide (HW4.out.first_ HK20.out HSA.out HSV.out (HP0.out (by
             have:=HTT.out
             cases ka
             ·cases this
             ·cases kb
              ·rintro (e | ⟨e,_⟩) <;> cases e
              ·rintro (e | ⟨_,e⟩)
               ·cases e
               ·exact of_decide_eq_false (by simpa using this) e)))
            clear HTT HDC HW4 HK20
            go_wp2
            go_meet
            case rel=>exact ⟨rfl,HFE⟩
          case rest =>
           obtain ⟨rfl,HFE⟩:=hcut
           obtain ⟨ct,vt,kt,hF⟩:=HFE.out
           obtain ⟨f9,m9,hI9,hm9⟩:=hF.ls
           have HF:=hide hF
           have HI9:=hide hI9
           have x0:=hF.k11.cell 0
           have x1:=hF.k11.cell 1
           have u0:=hF.k20.cell 0
           have u1:=hF.k20.cell 1
           have u2:=hF.k20.cell 2
           have hs9:m9≤1000000000:=by omega
           have HS9:=Lib.hid hs9
           have HM9:=Lib.hid hm9
           have HN9:=Lib.hid (show b≠gd∧g20≠gd from ⟨mapG_ne hI9.map hF.k10,mapG_ne hI9.map hF.k20⟩)
           have hbw:w.heap.size≤b:=by rw [HG.out];exact Nat.le_refl _
           have HBW:=Lib.hid hbw
           have HKI:=Lib.hid hi
           clear hF hI9 hs9 hm9 hbw HFE f0 f1 f2 y0 y1 y2 e0 e1 e2 HTT HDC HW4 HK20 hs20 hg20 hm
           go_wp2_with (first | (refine storeG keyS_two rfl _ _ _ _ _ rfl mapWay rfl HI9.out.map (h,(i:Int)) (wayV ct vt kt) rfl rfl ⟨hih,by unfold I64;omega⟩ HS9.out ?_;intro w9 hm9 hg9;have hst:=HI9.out.store hm9 hg9 HKI.out HF.out.way;have HST:=hide hst;have k20:=HF.out.k20.fr hst.2 HN9.out.2;have k10:=HF.out.k10.fr hst.2 HN9.out.1;have u0:=k20.cell 0;have u1:=k20.cell 1;have u2:=k20.cell 2;have v0:=k10.cell 0;have v1:=k10.cell 1;have v2:=k10.cell 2;have v3:=k10.frozen 0;have v4:=k10.frozen 1;have v5:=k10.frozen 2;have HK10:=hide k10;clear hst hm9 hg9 k20 k10) | fail)
           have hk9:=blk_way HK10.out (.int .i64 (ct:Int)) (.int .u64 (vt:Int)) (.bool kt)
           have p0:=hk9.cell 0
           have p1:=hk9.cell 1
           have p2:=hk9.cell 2
           refine bodyPost_ret (v:=wayV ct vt kt) (by simp [results,Tryz.results118,go_sem,p0,p1,p2,wayV]) rfl ⟨ct,vt,kt,_,_,rfl,HF.out.way,HI.out.keepB HST.out.1 (below_set (below_set (below_set (Below.refl _ _) HBW.out _) HBW.out _) HBW.out _),by have:=HM9.out;omega,fr_set (fr_set (fr_set (HF.out.fr.trans HST.out.2) HBW.out _) HBW.out _) HBW.out _⟩
end Go.Proofs.YtojgbcmhdnappaaGreatDoor
