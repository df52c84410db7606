/-
  A part of the proof: EvCount. Conditions: none.
-/
import Derived.Test.YtojgbcmhdnappaaGreatDoorInMapH
import Derived.Test.YtojgbcmhdnappaaGreatDoorInNatDbl
import Derived.Test.YtojgbcmhdnappaaGreatDoorInNatAdd
import Derived.Laws.Rows
import Derived.Deep.RegionHeld3
import Derived.Deep.Cut
namespace Go.Proofs.YtojgbcmhdnappaaGreatDoor
open Go.RowKit Go.Maps
structure SpB (w:World) (S B gn gu gt gc:Nat) (vars:Int) (A:Ar):Prop where
 kS:Blk w S 133 #[.pointer (some ⟨B,0,none⟩),.int .i64 vars,.map (some gc)]
 ar:ArM w B gn gu gt A
 wf:WfA A
theorem SpB.below {w w':World} {S B gn gu gt gc:Nat} {vars:Int} {A:Ar} (h:SpB w S B gn gu gt gc vars A) (hb:Below w.heap.size w w'):SpB w' S B gn gu gt gc vars A :=
 ⟨h.kS.below hb h.kS.lt,h.ar.below hb (fun _ hk=>h.ar.lt hk),h.wf⟩
def kidE (A:Ar) (vars:Int) (k v:Int):Nat:=(min (topA A k) vars-v-1).toNat
def cN (A:Ar) (vars:Int):Nat→Int→Nat
 | 0,h=>if h=1 then 1 else 0
 | n+1,h=>match gotA A h with | some d=>cN A vars n d.low*2 ^ kidE A vars d.low d.var+cN A vars n d.high*2 ^ kidE A vars d.high d.var | none=>if h=1 then 1 else 0
def cA (A:Ar) (vars:Int) (h:Int):Nat:=cN A vars 25 h
section
variable {A:Ar} {vars h:Int} {d:Nd}
theorem cN_none (e:gotA A h=none):∀ n,cN A vars n h=if h=1 then 1 else 0
 | 0=>rfl
 | n+1=>by show (match gotA A h with | some d=>_ | none=>_)=_;rw [e]
theorem cN_some (e:gotA A h=some d) (n:Nat):cN A vars (n+1) h=cN A vars n d.low*2 ^ kidE A vars d.low d.var+cN A vars n d.high*2 ^ kidE A vars d.high d.var:=by
 show (match gotA A h with | some d=>_ | none=>_)=_;rw [e]
theorem cN_eq (hw:WfA A):∀ (n m:Nat) (h:Int),dep A h≤n→dep A h≤m→cN A vars n h=cN A vars m h:=by
 intro n
 induction n with
 | zero =>
  intro m h h1 _
  have hn:gotA A h=none:=by
   cases e:gotA A h with
   | none=>rfl
   | some d=>have:=hw.dep e;unfold dep at h1;omega
  rw [cN_none hn,cN_none hn]
 | succ n ih =>
  intro m h h1 h2
  cases e:gotA A h with
  | none=>rw [cN_none e,cN_none e]
  | some d =>
   have ht:=hw.dep e
   have hk0:d.var<topA A d.low:=(hw.low _ _ e).2
   have hk1:d.var<topA A d.high:=(hw.high _ _ e).2
   have he:=top_some e
   unfold dep at h1 h2
   obtain ⟨m',rfl⟩:∃ m',m=m'+1:=⟨m-1,by omega⟩
   rw [cN_some e,cN_some e,ih m' d.low (by unfold dep;omega) (by unfold dep;omega),ih m' d.high (by unfold dep;omega) (by unfold dep;omega)]
theorem cA_none (e:gotA A h=none):cA A vars h=if h=1 then 1 else 0:=cN_none e 25
theorem cA_some (hw:WfA A) (e:gotA A h=some d):cA A vars h=cA A vars d.low*2 ^ kidE A vars d.low d.var+cA A vars d.high*2 ^ kidE A vars d.high d.var:=by
 have ht:=hw.dep e
 have hk0:d.var<topA A d.low:=(hw.low _ _ e).2
 have hk1:d.var<topA A d.high:=(hw.high _ _ e).2
 have he:=top_some e
 unfold cA
 rw [cN_some e,cN_eq hw 24 25 d.low (by unfold dep;omega) (by unfold dep;omega),cN_eq hw 24 25 d.high (by unfold dep;omega) (by unfold dep;omega)]
theorem cA_le (hw:WfA A) (hv:VarA A vars) (h0:0≤vars):∀ (n:Nat) (h:Int),dep A h≤n→cA A vars h*2 ^ (min (topA A h) vars).toNat≤2 ^ vars.toNat:=by
 intro n
 induction n with
 | zero =>
  intro h h1
  have hn:gotA A h=none:=by
   cases e:gotA A h with
   | none=>rfl
   | some d=>have:=hw.dep e;unfold dep at h1;omega
  rw [cA_none hn]
  have h2:2 ^ (min (topA A h) vars).toNat≤2 ^ vars.toNat:=Nat.pow_le_pow_right (by omega) (by omega)
  split
  ·rw [Nat.one_mul];exact h2
  ·rw [Nat.zero_mul];exact Nat.zero_le _
 | succ n ih =>
  intro h h1
  cases e:gotA A h with
  | none =>
   rw [cA_none e]
   have h2:2 ^ (min (topA A h) vars).toNat≤2 ^ vars.toNat:=Nat.pow_le_pow_right (by omega) (by omega)
   split
   ·rw [Nat.one_mul];exact h2
   ·rw [Nat.zero_mul];exact Nat.zero_le _
  | some d =>
   have ht:=hw.dep e
   have hk0:d.var<topA A d.low:=(hw.low _ _ e).2
   have hk1:d.var<topA A d.high:=(hw.high _ _ e).2
   have he:=top_some e
   have hvv:=hv _ _ e
   unfold dep at h1
   have i0:=ih d.low (by unfold dep;omega)
   have i1:=ih d.high (by unfold dep;omega)
   have p:∀ k:Int,d.var<topA A k→cA A vars k*2 ^ (min (topA A k) vars).toNat=cA A vars k*2 ^ kidE A vars k d.var*(2 ^ (d.var.toNat+1)):=fun k hk=>by
    rw [Nat.mul_assoc,←Nat.pow_add]
    congr 2
    unfold kidE
    omega
   rw [p _ hk0] at i0
   rw [p _ hk1] at i1
   rw [cA_some hw e,he,show (min d.var vars).toNat=d.var.toNat by omega]
   rw [Nat.pow_succ] at i0 i1
   generalize cA A vars d.low*2 ^ kidE A vars d.low d.var=a at i0 ⊢
   generalize cA A vars d.high*2 ^ kidE A vars d.high d.var=b at i1 ⊢
   generalize 2 ^ d.var.toNat=c at i0 i1 ⊢
   rw [Nat.add_mul]
   have e0:a*(c*2)=a*c*2:=(Nat.mul_assoc a c 2).symm
   have e1:b*(c*2)=b*c*2:=(Nat.mul_assoc b c 2).symm
   omega
end
def CtsP (w:World) (gd N:Nat) (e:Ending) (w':World):Prop:=∃ v,e=.returned v∧NatV w' v N∧Fr (fun k=>k=gd) w w'
def CountP (w:World) (N:Nat) (e:Ending) (w':World):Prop:=∃ v,e=.returned (.tuple #[v,.nilIface])∧NatV w' v N∧Below w.heap.size w w'
section
variable (S B gn gu gt gc:Nat) (vars:Int) (A:Ar) (w:World)
theorem spB_fr {w w':World} {gd:Nat} (h:SpB w S B gn gu gt gc vars A) (hf:Fr (fun k=>k=gd) w w') (hd:∃ es c,w.heap[gd]?=some (.map es c)):SpB w' S B gn gu gt gc vars A:=by
 obtain ⟨es,c,hm⟩:=hd
 have hne:∀ {k:Nat} {t:TypeId} {cs:Array Value},Blk w k t cs→k≠gd:=fun hk e=>by
  subst e
  cases hk.symm.trans hm
 obtain ⟨ns,us,tab,_,h2,h3,h4,h5⟩:=h.ar.is
 refine ⟨h.kS.fr hf (hne h.kS),h.ar.keep fun k hk=>hf.block k (h.ar.lt hk) ?_,h.wf⟩
 rcases hk with rfl | rfl | rfl | rfl
 ·exact hne h2
 ·exact hne h3
 ·exact hne h4
 ·exact hne h5
set_option maxRecDepth 100000 in
set_option maxHeartbeats 4000000 in
theorem bdCount_of (x:Int) (N K:Nat) (h:SpB w S B gn gu gt gc vars A) (hx:I64 x) (p:hasA A x=true) (hK:min (topA A x) vars=(K:Int)) (hK2:K≤1000) (hN:Hid (N*2 ^ K<4294967296 ^ 1000))
  (HC:Hid (Calls Tryz.prog 57 #[.pointer (some ⟨S,0,none⟩),.int .i64 x,.map (some (w.heap.size+1))] ((w.alloc (.cells #[.slice none 0 0] 56)).alloc (.map #[] 0)) (CtsP ((w.alloc (.cells #[.slice none 0 0] 56)).alloc (.map #[] 0)) (w.heap.size+1) N))) :
  Calls Tryz.prog 16 #[.pointer (some ⟨S,0,none⟩),.int .i64 x] w (CountP w (N*2 ^ K)):=by
 have hmm:=@run_makeMap Tryz.prog
 have hal:=(Below.refl w.heap.size w).alloc (Nat.le_refl _) (.cells #[.slice none 0 0] 56)
 have HSP:=h.below hal
 have s0:=HSP.kS.cell 0
 have HA:=hide (hasA_call B gn gu gt A x _ HSP.ar hx p)
 have hb0:=hal.alloc (by simp) (.map #[] 0)
 have HB0:=hide hb0
 have HS0:=hide (h.below hb0)
 have HK4:=hide ((Blk.new w 56 #[.slice none 0 0]).alloc (.map #[] 0))
 have HMP:=Lib.hid (show ∃ es c,((w.alloc (.cells #[.slice none 0 0] 56)).alloc (.map #[] 0)).heap[w.heap.size+1]?=some (.map es c) from ⟨#[],0,by
  have:=heap_alloc_new (w.alloc (.cells #[.slice none 0 0] 56)) (.map #[] 0)
  simpa using this⟩)
 clear h hal HSP hb0
 obtain ⟨g4,HG⟩:∃ g4,Hid (w.heap.size=g4):=⟨_,Lib.hid rfl⟩
 go_enter Tryz.func16,Tryz.ntmps16
 go_wp2_with fail
 refine (HA.out).mono ?_
 rintro e w1 ⟨rfl,rfl⟩
 clear HA
 go_wp2_with fail
 rw [HG.out] at HC HK4 HMP ⊢
 generalize (w.alloc (.cells #[.slice none 0 0] 56)).alloc (.map #[] 0)=wM at HC HB0 HS0 HK4 HMP ⊢
 refine (HC.out).mono ?_
 rintro e w2 ⟨v,rfl,hv,hf⟩
 obtain ⟨Av,nv,cv,rfl⟩:=hv.form
 have hal:=(Below.refl w2.heap.size w2).alloc (Nat.le_refl _) (.cells #[.slice Av nv cv] 56)
 have HS2:=hide ((spB_fr S B gn gu gt gc vars A HS0.out hf HMP.out).below hal)
 have HV2:=hide (hv.below hal)
 have HB2:=hide ((HB0.out.trans (hf.to_below HB0.out.size (fun k hk e=>by have:=HG.out;omega))).trans (hal.mono (Nat.le_trans HB0.out.size hf.size)))
 have HK2:=hide ((HK4.out.fr hf (by omega)).below hal (Nat.lt_of_lt_of_le HK4.out.lt hf.size))
 have HK6:=hide (Blk.new w2 56 #[.slice Av nv cv])
 clear hal hv hf HC HS0 HK4 HMP HB0 s0
 have s0:=HS2.out.kS.cell 0
 have s1:=HS2.out.kS.cell 1
 have n0:=HK6.out.cell 0
 have c4:=HK2.out.cell 0
 have f4:=HK2.out.frozen 0
 have l4:=HK2.out.lt
 have lS:=HS2.out.kS.lt
 have l6:=HK6.out.lt
 go_wp2
 generalize hg6:w2.heap.size=g6 at n0 l6 ⊢
 generalize (w2.alloc (.cells #[.slice Av nv cv] 56))=w3 at HS2 HV2 HB2 HK2 HK6 s0 s1 n0 c4 f4 l4 lS l6 ⊢
 have HTP:=hide ((arTop_any B gn gu gt A x w3.drew (HS2.out.ar.below (Below.refl _ _).drew (fun _ hk=>HS2.out.ar.lt hk)) hx).mono (fun e w' hp=>show e=.returned (.int .i64 (topA A x))∧Below w3.heap.size w3 w' from ⟨hp.1,(Below.refl _ _).drew.trans hp.2⟩))
 have HDB:=Lib.hid (fun (wt:World) (hb:Below w3.heap.size w3 wt)=>double_any (.agg #[.slice Av nv cv]) N K (K:Int) wt (HV2.out.below hb) (by omega) hN ⟨by omega,by omega⟩)
 go_region_with (first
  | (go_at_call 59;refine (HTP.out).mono ?_;rintro e wt ⟨rfl,hbt⟩;have s0t:=(hbt.cell (p:=⟨S,0,none⟩) lS).trans s0;have s1t:=(hbt.cell (p:=⟨S,1,none⟩) lS).trans s1;have n0t:=(hbt.cell (p:=⟨g6,0,none⟩) l6).trans n0)
  | (go_at_call 58;refine (HDB.out _ hbt).mono ?_;rintro e wd ⟨vd,rfl,hvd,hbd⟩;obtain ⟨Ad,nd,cd,ed⟩:=hvd.form;subst ed;have hb4:=hbt.trans (hbd.mono hbt.size);have c4d:=(hb4.cell (p:=⟨g4,0,none⟩) l4).trans c4;have f4d:=(hb4.frozen (p:=⟨g4,0,none⟩) l4).trans f4))
 all_goals
  have HK9:=hide ((HK2.out.below hb4 l4).set_ 0 (.slice Ad nd cd))
  have d9:=HK9.out.cell 0
  have HV9:=hide (natV_set (u:=.slice Ad nd cd) hvd (c4d) (fun i e=>by cases e))
  have HB9:=hide ((HB2.out.trans (hb4.mono HB2.out.size)).setCell (p:=⟨g4,0,none⟩) (by rw [HG.out];exact Nat.le_refl _) (.slice Ad nd cd))
  clear hvd hb4 hbd hbt
  go_wp2
  exact bodyPost_ret (v:=.tuple #[.agg #[.slice Ad nd cd],.nilIface]) (by simp [results,Tryz.results16,go_sem,d9]) rfl ⟨_,rfl,HV9.out,HB9.out⟩
end
structure CtI (w:World) (S B gn gu gt gc:Nat) (vars:Int) (A:Ar) (gd:Nat) (f:Int→Option Value) (m:Nat):Prop where
 sp:SpB w S B gn gu gt gc vars A
 map:MapH w gd f m
 vals:∀ x v,f x=some v→NatV w v (cA A vars x)
structure CtN (A:Ar) (vars:Int):Prop where
 wf:WfA A
 var:VarA A vars
 v0:0≤vars
 v1:vars≤24
theorem natV_fr {w w':World} {gd N:Nat} {v:Value} (h:NatV w v N) (hf:Fr (fun k=>k=gd) w w') (hd:∃ es c,w.heap[gd]?=some (.map es c)):NatV w' v N:=by
 obtain ⟨A,n,c,xs,e,hc,hl,ht,hv⟩:=h.is
 refine ⟨A,n,c,xs,e,hc,⟨hl.1,hl.2.1,hl.2.2.1,hl.2.2.2.1,fun h0=>?_⟩,ht,hv⟩
 obtain ⟨ad,e3,hb,hcl⟩:=hl.2.2.2.2 h0
 refine ⟨ad,e3,Nat.lt_of_lt_of_le hb hf.size,fun j x hx=>?_⟩
 have h1:=hcl j x hx
 refine (hf.cell (p:=ad.add j) (by rw [block_of_add];exact hb) (fun e4=>?_)).trans h1
 obtain ⟨es,cc,hm⟩:=hd
 rw [show (ad.add j)=⟨gd,(ad.add j).off,(ad.add j).spot⟩ by rw [←e4]] at h1
 simp [World.cell?,hm] at h1
section
variable {w w':World} {S B gn gu gt gc gd m:Nat} {vars:Int} {A:Ar} {f:Int→Option Value}
theorem CtI.below (h:CtI w S B gn gu gt gc vars A gd f m) (hb:Below w.heap.size w w'):CtI w' S B gn gu gt gc vars A gd f m :=
 ⟨h.sp.below hb,h.map.below hb,fun x v e=>(h.vals x v e).below hb⟩
theorem CtI.store {v:Value} {x:Int} (h:CtI w S B gn gu gt gc vars A gd f m) (hm:MapH w' gd (fun y=>if y=x then some v else f y) (m+1)) (hg:w.grownBy w' (some gd)) (hv:NatV w v (cA A vars x)):CtI w' S B gn gu gt gc vars A gd (fun y=>if y=x then some v else f y) (m+1):=by
 have hf:Fr (fun k=>k=gd) w w':=(Fr.refl _ w).grown hg (fun k e=>by cases e;rfl)
 refine ⟨spB_fr S B gn gu gt gc vars A h.sp hf h.map.isM,hm,fun y u e=>?_⟩
 split at e
 ·rename_i hy
  cases e
  rw [hy]
  exact natV_fr hv hf h.map.isM
 ·exact natV_fr (h.vals y u e) hf h.map.isM
end
def CtsQ (w:World) (S B gn gu gt gc:Nat) (vars:Int) (A:Ar) (gd m:Nat) (x:Int) (e:Ending) (w':World):Prop :=
 ∃ v f' m',e=.returned v∧NatV w' v (cA A vars x)∧CtI w' S B gn gu gt gc vars A gd f' m'∧m'+1≤m+2 ^ dep A x∧Fr (fun k=>k=gd) w w'
theorem pow_big:(2:Nat) ^ 24<4294967296:=by decide
theorem cA_kid {A:Ar} {vars k v:Int} (hn:CtN A vars) (h0:0≤v) (hk:v<topA A k) (hv:v<vars):cA A vars k*2 ^ kidE A vars k v≤2 ^ 24:=by
 have h1:=cA_le hn.wf hn.var hn.v0 _ k (Nat.le_refl _)
 have h2:2 ^ vars.toNat≤2 ^ 24:=Nat.pow_le_pow_right (by omega) (by have:=hn.v1;omega)
 have h3:cA A vars k*2 ^ kidE A vars k v≤cA A vars k*2 ^ (min (topA A k) vars).toNat:=Nat.mul_le_mul_left _ (Nat.pow_le_pow_right (by omega) (by unfold kidE;omega))
 omega
theorem natAddV (v1 v2:Value) (N M:Nat) (w:World) (h1:NatV w v1 N) (h2:NatV w v2 M) (hN:N<4294967296 ^ 1000) (hM:M<4294967296 ^ 1000):Calls Tryz.prog 112 #[v1,v2] w (OfPost w (N+M)):=by
 obtain ⟨A,n,c,xs,rfl,_,hl,_,hv,hn⟩:=h1.len hN
 obtain ⟨A2,n2,c2,ys,rfl,_,hl2,_,hv2,hn2⟩:=h2.len hM
 rw [←hv,←hv2]
 exact natAdd_any A A2 n c n2 c2 xs ys w hl hl2 hn hn2
set_option maxHeartbeats 2000000 in
theorem cts_end (S B gn gu gt gc gd:Nat) (vars:Int) (A:Ar) (w:World) (x:Int) (h:SpB w S B gn gu gt gc vars A) (hx:x=0∨x=1) :
  Calls Tryz.prog 57 #[.pointer (some ⟨S,0,none⟩),.int .i64 x,.map (some gd)] w (OfPost w x.toNat):=by
 have hx64:I64 x:=by unfold I64;omega
 have hg:gotA A x=none:=gotA_low (by omega)
 have hal:=(Below.refl w.heap.size w).alloc (Nat.le_refl _) (.cells #[.slice none 0 0] 56)
 have hk:=Blk.new w 56 #[.slice none 0 0]
 have hsp:=h.below hal
 have s0:=hsp.kS.cell 0
 have HG:=hide (arGet_none B gn gu gt A x _ hsp.ar hx64 hg)
 have HB:=hide hal
 have HK:=hide hk
 have HO:=hide (fun w'=>of_any x w' (by omega))
 rw [show (max 0 x).toNat=x.toNat by omega] at HO
 clear h hal hk hsp hg
 go_enter Tryz.func57,Tryz.ntmps57
 go_wp2_with fail
 generalize hg6:w.heap.size=g6 at HK ⊢
 have h6:w.heap.size≤g6:=by omega
 generalize (w.alloc (.cells #[.slice none 0 0] 56))=w1 at HG HB HK s0 ⊢
 refine (HG.out).mono ?_
 rintro e w2 ⟨rfl,hb2⟩
 have hal2:=hb2.alloc hb2.size (.cells #[.int .i64 0,.int .i64 0,.int .i64 0] 214)
 have HB2:=hide (HB.out.trans (hal2.mono HB.out.size))
 have HK2:=hide (HK.out.below hal2 HK.out.lt)
 clear hb2 hal2 s0
 go_wp2_with fail
 refine (HO.out _).mono ?_
 rintro e w3 ⟨v,rfl,hv,hb3⟩
 obtain ⟨Av,nv,cv,rfl⟩:=hv.form
 have hk3:=HK2.out.below hb3 HK2.out.lt
 have c6:=hk3.cell 0
 have f6:=hk3.frozen 0
 have HK9:=hide (hk3.set_ 0 (.slice Av nv cv))
 have d9:=HK9.out.cell 0
 have HV9:=hide (natV_set (u:=.slice Av nv cv) hv c6 (fun i e=>by cases e))
 have HB9:=hide ((HB2.out.trans (hb3.mono HB2.out.size)).setCell (p:=⟨g6,0,none⟩) h6 (.slice Av nv cv))
 clear hv hb3 hk3
 go_wp2
 exact bodyPost_ret (v:=.agg #[.slice Av nv cv]) (by simp [results,Tryz.results57,go_sem,d9]) rfl ⟨_,rfl,HV9.out,HB9.out⟩
theorem end_of {A:Ar} {x:Int} (hx:hasA A x=true) (hg:gotA A x=none):x=0∨x=1:=by
 unfold hasA at hx
 rw [hg] at hx
 simpa using hx
theorem has_i64 {w:World} {B gn gu gt:Nat} {A:Ar} {y:Int} (h:ArM w B gn gu gt A) (hy:hasA A y=true):I64 y:=by
 have hr:=h.room
 cases e:gotA A y with
 | none =>
  rcases end_of hy e with rfl | rfl <;> (unfold I64;omega)
 | some d =>
  obtain ⟨k,rfl,hk,_⟩:=gotA_is e
  unfold I64
  omega
theorem pow_two_le {a b n:Nat} (ha:a+1≤n) (hb:b+1≤n):2 ^ a+2 ^ b≤2 ^ n:=by
 have h1:2 ^ a≤2 ^ (n-1):=Nat.pow_le_pow_right (by omega) (by omega)
 have h2:2 ^ b≤2 ^ (n-1):=Nat.pow_le_pow_right (by omega) (by omega)
 have h3:2 ^ n=2 ^ (n-1)*2:=by rw [←Nat.pow_succ];congr 1;omega
 omega
theorem below_al {u w:World} (h:Below u.heap.size u w) (o:Obj):Below u.heap.size u (w.alloc o):=h.alloc h.size o
theorem below_dr {u w:World} (h:Below u.heap.size u w):Below u.heap.size u w.drew:=h.drew
theorem below_then {u X Y:World} (h:Below u.heap.size u X) (k:Below X.heap.size X Y):Below u.heap.size u Y:=h.trans (k.mono h.size)
theorem Fr.setNew {S:Nat→Prop} {w w':World} {g:Nat} {u:Value} (h:Fr S w w') (hg:w.heap.size≤g):Fr S w (w'.setCell ⟨g,0,none⟩ u) :=
 ⟨h.os,h.tape,h.output,by rw [show (w'.setCell ⟨g,0,none⟩ u).heap.size=w'.heap.size by simp [World.setCell]];exact h.size,fun i hi hn=>(Below.heap_setCell w' ⟨g,0,none⟩ u i (by show i≠g;omega)).trans (h.block i hi hn)⟩
structure HalfI (wr wc:World) (S B gn gu gt gc:Nat) (vars:Int) (A:Ar) (gd m g:Nat) (k:Int) (N:Nat):Prop where
 ct:∃ f1 m1,CtI wc S B gn gu gt gc vars A gd f1 m1∧m1+1≤m+2 ^ dep A k
 fr:Fr (fun k=>k=gd) wr wc
 box:∃ A1 n1 c1,Blk wc g 56 #[.slice A1 n1 c1]∧NatV wc (.agg #[.slice A1 n1 c1]) N
theorem counts_end {w:World} {S B gn gu gt gc gd m:Nat} {vars x:Int} {A:Ar} {f:Int→Option Value} (hI:CtI w S B gn gu gt gc vars A gd f m) (hx:x=0∨x=1) (hg:gotA A x=none) :
  Calls Tryz.prog 57 #[.pointer (some ⟨S,0,none⟩),.int .i64 x,.map (some gd)] w (CtsQ w S B gn gu gt gc vars A gd m x):=by
 refine (cts_end S B gn gu gt gc gd vars A w x hI.sp hx).mono fun e w' ⟨v,he,hv,hb⟩=>?_
 refine ⟨v,f,m,he,?_,hI.below hb,by have:=Nat.one_le_two_pow (n:=dep A x);omega,.of_below hb (Nat.le_refl _)⟩
 rw [cA_none hg]
 rcases hx with rfl | rfl
 ·exact hv
 ·exact hv
section
variable {w1 wr wd:World} {S B gn gu gt gc gd m m1:Nat} {vars k:Int} {A:Ar} {f1:Int→Option Value} {N:Nat} {Ad:Option Addr} {nd cd:Nat}
theorem half_new (hc:CtI w1 S B gn gu gt gc vars A gd f1 m1) (hle:m1+1≤m+2 ^ dep A k) (hb:Below w1.heap.size w1 wd) (hf:Fr (fun k=>k=gd) wr wd) (hv:NatV wd (.agg #[.slice Ad nd cd]) N) :
  HalfI wr (wd.alloc (.cells #[.slice Ad nd cd] 56)) S B gn gu gt gc vars A gd m wd.heap.size k N :=
 ⟨⟨f1,m1,hc.below (below_al hb _),hle⟩,hf.alloc _,Ad,nd,cd,Blk.new wd _ _,hv.below ((Below.refl wd.heap.size wd).alloc (Nat.le_refl _) _)⟩
theorem ctI_set {g:Nat} {u:Value} (hd:CtI wd S B gn gu gt gc vars A gd f1 m1) (hx:Blk wd g 56 #[.slice none 0 0]):CtI (wd.setCell ⟨g,0,none⟩ u) S B gn gu gt gc vars A gd f1 m1:=by
 obtain ⟨ns,us,tab,_,h2,h3,h4,h5⟩:=hd.sp.ar.is
 have hn:∀ j,arB B gn gu gt j→j≠g:=fun j hj=>by
  rcases hj with rfl | rfl | rfl | rfl
  ·exact h2.ne_ hx (by decide)
  ·exact h3.ne_ hx (by decide)
  ·exact h4.ne_ hx (by decide)
  ·exact h5.ne_ hx (by decide)
 have hgm:gd≠g:=fun e=>by
  obtain ⟨es,cc,hm⟩:=hd.map.isM
  subst e
  cases hm.symm.trans hx
 exact ⟨⟨hd.sp.kS.far (hd.sp.kS.ne_ hx (by decide)) _,hd.sp.ar.keep fun j hj=>Below.heap_setCell _ _ _ _ (hn j hj),hd.sp.wf⟩,hd.map.same (Below.heap_setCell _ _ _ _ hgm),fun y v e=>natV_set (hd.vals y v e) (hx.cell 0) (fun i e=>by cases e)⟩
theorem half_set {g:Nat} (hc:CtI w1 S B gn gu gt gc vars A gd f1 m1) (hle:m1+1≤m+2 ^ dep A k) (hb:Below w1.heap.size w1 wd) (hf:Fr (fun k=>k=gd) wr wd) (hv:NatV wd (.agg #[.slice Ad nd cd]) N) (hx:Blk wd g 56 #[.slice none 0 0]) (hg:wr.heap.size≤g) :
  HalfI wr (wd.setCell ⟨g,0,none⟩ (.slice Ad nd cd)) S B gn gu gt gc vars A gd m g k N:=by
 exact ⟨⟨f1,m1,ctI_set (hc.below hb) hx,hle⟩,hf.setNew hg,Ad,nd,cd,hx.set_ 0 _,natV_set hv (hx.cell 0) (fun i e=>by cases e)⟩
theorem map_ne {w:World} {g:Nat} {t:TypeId} {cs:Array Value} (hc:CtI w S B gn gu gt gc vars A gd f1 m1) (hx:Blk w g t cs):g≠gd:=fun e=>by
 obtain ⟨es,cc,hm⟩:=hc.map.isM
 subst e
 cases hx.symm.trans hm
end
set_option maxRecDepth 100000 in
set_option maxHeartbeats 8000000 in
theorem counts_all (S B gn gu gt gc gd:Nat) (vars:Int) (A:Ar) (hN:CtN A vars):∀ (n:Nat) (x:Int) (m:Nat) (f:Int→Option Value) (w:World),dep A x≤n→hasA A x=true→I64 x→CtI w S B gn gu gt gc vars A gd f m→m+2 ^ dep A x≤1000000000 →
  Calls Tryz.prog 57 #[.pointer (some ⟨S,0,none⟩),.int .i64 x,.map (some gd)] w (CtsQ w S B gn gu gt gc vars A gd m x):=by
 intro n
 induction n with
 | zero =>
  intro x m f w hd hx hi hI hm
  have hg:gotA A x=none:=by
   cases e:gotA A x with
   | none=>rfl
   | some d=>have:=hN.wf.dep e;unfold dep at hd;omega
  exact counts_end hI (end_of hx hg) hg
 | succ n ih =>
  intro x m f w hd hx hi hI hm
  cases hg:gotA A x with
  | none=>exact counts_end hI (end_of hx hg) hg
  | some d =>
   obtain ⟨dv,dl,dh⟩:=d
   have hal:=(Below.refl w.heap.size w).alloc (Nat.le_refl _) (.cells #[.slice none 0 0] 56)
   have HI1:=hide (hI.below hal)
   have HK6:=hide (Blk.new w 56 #[.slice none 0 0])
   have HB1:=hide hal
   have s0:=HI1.out.sp.kS.cell 0
   have HGT:=hide (arGet_some B gn gu gt A x ⟨dv,dl,dh⟩ _ HI1.out.sp.ar hi hg)
   clear hal
   go_enter Tryz.func57,Tryz.ntmps57
   go_wp2_with fail
   obtain ⟨g6,HG6⟩:∃ g6,Hid (w.heap.size=g6):=⟨_,Lib.hid rfl⟩
   rw [HG6.out] at HK6 ⊢
   generalize (w.alloc (.cells #[.slice none 0 0] 56))=w1 at HI1 HK6 HB1 s0 HGT ⊢
   refine (HGT.out).mono ?_
   rintro e w2 ⟨rfl,hb2⟩
   have hb3:=hb2.alloc hb2.size (.cells #[.int .i64 dv,.int .i64 dl,.int .i64 dh] 214)
   have HI3:=hide (HI1.out.below hb3)
   have HB3:=hide (HB1.out.trans (hb3.mono HB1.out.size))
   have HK6b:=hide (HK6.out.below hb3 HK6.out.lt)
   have HK7:=hide (Blk.new w2 214 #[.int .i64 dv,.int .i64 dl,.int .i64 dh])
   have hlk:=HI3.out.map.lookRun x hi
   clear hb2 hb3 HI1 HB1 HK6 HGT s0
   cases hfx:f x with
   | some v0 =>
    rw [hfx] at hlk
    have hv0:=HI3.out.vals x v0 hfx
    obtain ⟨Av,nv,cv,rfl⟩:=hv0.form
    have HV0:=hide hv0
    have hal:=(Below.refl _ (w2.alloc (.cells #[.int .i64 dv,.int .i64 dl,.int .i64 dh] 214))).alloc (Nat.le_refl _) (.cells #[.slice Av nv cv] 56)
    have hK6:=HK6b.out.below hal HK6b.out.lt
    have c6:=hK6.cell 0
    have f6:=hK6.frozen 0
    have d6:=(hK6.set_ 0 (.slice Av nv cv)).cell 0
    have HVF:=hide (natV_set (u:=.slice Av nv cv) (hv0.below hal) c6 (fun i e=>by cases e))
    have HBF:=hide ((HB3.out.trans (hal.mono HB3.out.size)).setCell (p:=⟨g6,0,none⟩) (by rw [HG6.out];exact Nat.le_refl _) (.slice Av nv cv))
    clear hv0 hal hK6
    go_wp2
    exact bodyPost_ret (v:=.agg #[.slice Av nv cv]) (by simp [results,Tryz.results57,go_sem,d6]) rfl ⟨_,f,m,rfl,HVF.out,hI.below HBF.out,by have:=Nat.one_le_two_pow (n:=dep A x);omega,.of_below HBF.out (Nat.le_refl _)⟩
   | none =>
    rw [hfx] at hlk
    have hal:=(Below.refl _ (w2.alloc (.cells #[.int .i64 dv,.int .i64 dl,.int .i64 dh] 214))).alloc (Nat.le_refl _) (.cells #[.slice none 0 0] 56)
    have HI7:=hide (HI3.out.below hal)
    have HB7:=hide (HB3.out.trans (hal.mono HB3.out.size))
    have HK6c:=hide (HK6b.out.below hal HK6b.out.lt)
    have HK7c:=hide (HK7.out.below hal HK7.out.lt)
    clear hal HI3 HB3 HK6b HK7
    go_upto_region 7 with fail
    obtain ⟨g7,HG7⟩:∃ g7,Hid (w2.heap.size=g7):=⟨_,Lib.hid rfl⟩
    rw [HG7.out] at HK7c ⊢
    generalize (w2.alloc (.cells #[.int .i64 dv,.int .i64 dl,.int .i64 dh] 214)).alloc (.cells #[.slice none 0 0] 56)=wr at HI7 HB7 HK6c HK7c ⊢
    clear hlk
    have hI64:∀ y,hasA A y=true→I64 y:=fun y hy=>has_i64 HI7.out.sp.ar hy
    obtain ⟨hkl,hkl2⟩:=hN.wf.low _ _ hg
    obtain ⟨hkh,hkh2⟩:=hN.wf.high _ _ hg
    have hdv:=hN.var _ _ hg
    have hdw:=hN.wf.var _ _ hg
    have htx:=top_some hg
    simp only at hkl hkl2 hkh hkh2 hdv hdw htx
    have hv0:=hN.v0
    have hv1:=hN.v1
    go_cut [11] from 14 (fun s11 wc=>∃ g11,s11=.pointer (some ⟨g11,0,none⟩)∧Hid (HalfI wr wc S B gn gu gt gc vars A gd m g11 dl (cA A vars dl*2 ^ kidE A vars dl dv)))
    case first =>
     have lS:=HI7.out.sp.kS.lt
     have l7:=HK7c.out.lt
     have hmp:=HI7.out.map.isM
     have nS:S≠gd:=fun e=>by
      obtain ⟨es,cc,hmm⟩:=hmp
      have:=HI7.out.sp.kS
      subst e
      cases this.symm.trans hmm
     have n7:g7≠gd:=fun e=>by
      obtain ⟨es,cc,hmm⟩:=hmp
      have:=HK7c.out
      subst e
      cases this.symm.trans hmm
     have HKP:=Lib.hid (fun (w':World) (hf:Fr (fun k=>k=gd) wr w')=>show w'.cell? ⟨g7,0,none⟩=some (.int .i64 dv)∧w'.cell? ⟨g7,1,none⟩=some (.int .i64 dl)∧w'.cell? ⟨S,0,none⟩=some (.pointer (some ⟨B,0,none⟩))∧w'.cell? ⟨S,1,none⟩=some (.int .i64 vars) from
      ⟨(HK7c.out.fr hf n7).cell 0,(HK7c.out.fr hf n7).cell 1,(HI7.out.sp.kS.fr hf nS).cell 0,(HI7.out.sp.kS.fr hf nS).cell 1⟩)
     have hil:I64 dl:=hI64 dl hkl
     have HTP:=hide (fun (w':World) (hf:Fr (fun k=>k=gd) wr w')=>arTop_any B gn gu gt A dl w' (spB_fr S B gn gu gt gc vars A HI7.out.sp hf hmp).ar hil)
     have hgd:=HI7.out.map.lt
     have hnq:∀ q,wr.heap.size≤q→¬q=gd:=fun q hq e=>by omega
     have HCT:=hide (fun (w':World) (hb:Below wr.heap.size wr w')=>(ih dl m f w' (by unfold dep at hd ⊢;omega) hkl hil (HI7.out.below hb) (by have:2 ^ dep A dl≤2 ^ dep A x:=Nat.pow_le_pow_right (by omega) (by unfold dep;omega);omega)).mono fun e w1 hp =>
      show ∃ v f' m',e=.returned v∧NatV w1 v (cA A vars dl)∧CtI w1 S B gn gu gt gc vars A gd f' m'∧m'+1≤m+2 ^ dep A dl∧Fr (fun k=>k=gd) wr w1∧Fr (fun k=>k=gd) w' w1 from by
       obtain ⟨v,f',m',h1,h2,h3,h4,h5⟩:=hp
       exact ⟨v,f',m',h1,h2,h3,h4,(Fr.of_below hb (Nat.le_refl _)).trans h5,h5⟩)
     have hK:∀ z,z=min (topA A dl) vars-dv-1→kidE A vars dl dv=(max 0 (min z 1000)).toNat:=fun z hz=>by unfold kidE;omega
     have HDB:=Lib.hid (fun (w':World) (v:Value) (z:Int) (hv:NatV w' v (cA A vars dl)) (hz:z=min (topA A dl) vars-dv-1)=>double_any v (cA A vars dl) (kidE A vars dl dv) z w' hv (hK z hz) (Lib.hid (Nat.lt_of_le_of_lt (cA_kid hN hdw.1 hkl2 hdv) (limb_bound pow_big))) ⟨by omega,by omega⟩)
     obtain ⟨T,HT⟩:∃ T,Hid (topA A dl=T):=⟨_,Lib.hid rfl⟩
     have hT:=hN.wf.topR dl
     unfold TopPost at HTP
     rw [HT.out] at HTP hT
     obtain ⟨c0,c1,s0,s1⟩:=HKP.out wr (.refl _ _)
     clear hK ih
     go_region_held3 (fun w'=>w'.cell? ⟨g7,0,none⟩=some (.int .i64 dv)∧w'.cell? ⟨g7,1,none⟩=some (.int .i64 dl)∧w'.cell? ⟨S,0,none⟩=some (.pointer (some ⟨B,0,none⟩))∧w'.cell? ⟨S,1,none⟩=some (.int .i64 vars))
      (first | assumption | exact ⟨c0,c1,s0,s1⟩ | (refine HKP.out _ ?_;(repeat (first | exact Fr.refl _ _ | exact (Fr.refl _ _).drew | exact hf9 | exact hfT | exact hf1 | refine Fr.alloc ?_ _ | refine Fr.drew ?_ | refine Fr.setNew ?_ hfT.size | refine Fr.setNew ?_ hf1.size | refine Fr.setNew ?_ (Nat.le_refl _)));done))
      (first
       | (go_at_call 57;refine (HCT.out _ ?_).mono ?_;(focus ((repeat (first | exact Below.refl _ _ | exact (Below.refl _ _).drew | exact hbrT | refine below_al ?_ _ | refine below_dr ?_));done));rintro e w1 ⟨v1,f1,m1,rfl,hv1,hct1,hle1,hf1,hf0⟩;(first | have hx:=Blk.fr (Blk.new _ 56 #[.slice none 0 0]) hf0 (hnq _ (Nat.le_refl _)) | have hx:=Blk.fr (Blk.drew (Blk.new _ 56 #[.slice none 0 0])) hf0 (hnq _ (Nat.le_refl _)) | have hx:=Blk.fr (Blk.new _ 56 #[.slice none 0 0]) hf0 (hnq _ hbrT.size) | have hx:=Blk.fr hx hf0 (hnq _ (Nat.le_refl _)) | skip))
       | (go_at_call 59;refine (HTP.out _ ?_).mono ?_;(focus ((repeat (first | exact Fr.refl _ _ | exact (Fr.refl _ _).drew | exact hf9 | exact hfT | exact hf1 | refine Fr.alloc ?_ _ | refine Fr.drew ?_ | refine Fr.setNew ?_ hfT.size | refine Fr.setNew ?_ hf1.size | refine Fr.setNew ?_ (Nat.le_refl _)));done));rintro e wt ⟨rfl,hbT⟩;(refine (fun (hfT:Fr (fun k=>k=gd) wr wt)=>?_) ?_;rotate_left;(focus (refine Fr.trans ?_ (Fr.of_below hbT (Nat.le_refl _));(repeat (first | exact Fr.refl _ _ | exact (Fr.refl _ _).drew | exact hf9 | exact hfT | exact hf1 | refine Fr.alloc ?_ _ | refine Fr.drew ?_ | refine Fr.setNew ?_ hfT.size | refine Fr.setNew ?_ hf1.size | refine Fr.setNew ?_ (Nat.le_refl _)));done)));(first | (refine (fun (hbrT:Below wr.heap.size wr wt)=>?_) ?_;rotate_left;(focus (refine below_then ?_ hbT;(repeat (first | exact Below.refl _ _ | exact (Below.refl _ _).drew | exact hbrT | refine below_al ?_ _ | refine below_dr ?_));done))) | skip);(first | (refine (fun (hb1T:Below w1.heap.size w1 wt)=>?_) ?_;rotate_left;(focus (refine below_then ?_ hbT;(repeat (first | exact Below.refl _ _ | exact hb1T | refine below_al ?_ _ | refine below_dr ?_));done))) | skip);(first | have hx:=Blk.below (Blk.new _ 56 #[.slice none 0 0]) hbT (Blk.lt (Blk.new _ _ _)) | have hx:=Blk.below (Blk.drew (Blk.new _ 56 #[.slice none 0 0])) hbT (Blk.lt (Blk.drew (Blk.new _ _ _))) | have hx:=Blk.below hx hbT (Blk.lt hx) | skip))
       | (go_at_call 58;refine (HDB.out _ _ _ ?_ ?_).mono ?_;(focus (refine hv1.below ?_;(repeat (first | exact Below.refl _ _ | exact hb1T | refine below_al ?_ _ | refine below_dr ?_));done));(focus (rw [HT.out,IntKind.wrap_i64,IntKind.wrap_i64];omega));rintro e wd ⟨vd,rfl,hvd,hbd⟩;obtain ⟨Ad,nd,cd,ed⟩:=hvd.form;subst ed;(refine (fun (hf9:Fr (fun k=>k=gd) wr wd)=>?_) ?_;rotate_left;(focus (refine Fr.trans ?_ (Fr.of_below hbd (Nat.le_refl _));(repeat (first | exact Fr.refl _ _ | exact (Fr.refl _ _).drew | exact hf9 | exact hfT | exact hf1 | refine Fr.alloc ?_ _ | refine Fr.drew ?_ | refine Fr.setNew ?_ hfT.size | refine Fr.setNew ?_ hf1.size | refine Fr.setNew ?_ (Nat.le_refl _)));done)));(refine (fun (hb1d:Below w1.heap.size w1 wd)=>?_) ?_;rotate_left;(focus (refine below_then ?_ hbd;(repeat (first | exact Below.refl _ _ | exact hb1T | refine below_al ?_ _ | refine below_dr ?_));done)));(first | have hx:=Blk.below (Blk.new _ 56 #[.slice none 0 0]) hbd (Blk.lt (Blk.new _ _ _)) | have hx:=Blk.below hx hbd (Blk.lt hx) | skip);(first | have cx:=Blk.cell hx 0 | skip);(first | have fx:=Blk.frozen hx 0 | skip)))
     all_goals
      first
       | (have HH:=hide (half_set hct1 hle1 hb1d hf9 hvd hx (by first | exact hfT.size | exact hf1.size | exact Nat.le_refl _));clear hct1 hf1 hf9 hvd hbd hbT hb1d HKP HTP HCT HDB hx;go_wp2;go_meet;case rel=>exact ⟨_,rfl,HH⟩)
       | (have HH:=hide (half_new hct1 hle1 hb1d hf9 hvd);clear hct1 hf1 hf9 hvd hbd hbT hb1d HKP HTP HCT HDB;go_wp2;go_meet;case rel=>exact ⟨_,rfl,HH⟩)
    case rest =>
     obtain ⟨g11,rfl,HH1⟩:=hcut
     go_upto_region 8 with fail
     obtain ⟨fB,mB,hctB,hleB⟩:=HH1.out.ct
     have hmp7:=HI7.out.map.isM
     have n7':g7≠gd:=fun e=>by
      obtain ⟨es,cc,hmm⟩:=hmp7
      have:=HK7c.out
      subst e
      cases this.symm.trans hmm
     have HI8:=hide hctB
     have HK8:=hide (HK7c.out.fr HH1.out.fr n7')
     clear hctB hmp7 n7'
     generalize wc=wB at HH1 HI8 HK8 ⊢
     go_cut [12] from 14 (fun s12 wc=>∃ g12,s12=.pointer (some ⟨g12,0,none⟩)∧Hid (HalfI wB wc S B gn gu gt gc vars A gd mB g12 dh (cA A vars dh*2 ^ kidE A vars dh dv)))
     case first =>
      have lS:=HI8.out.sp.kS.lt
      have l7:=HK8.out.lt
      have hmp:=HI8.out.map.isM
      have nS:S≠gd:=fun e=>by
       obtain ⟨es,cc,hmm⟩:=hmp
       have:=HI8.out.sp.kS
       subst e
       cases this.symm.trans hmm
      have n7:g7≠gd:=fun e=>by
       obtain ⟨es,cc,hmm⟩:=hmp
       have:=HK8.out
       subst e
       cases this.symm.trans hmm
      have HKP:=Lib.hid (fun (w':World) (hf:Fr (fun k=>k=gd) wB w')=>show w'.cell? ⟨g7,0,none⟩=some (.int .i64 dv)∧w'.cell? ⟨g7,2,none⟩=some (.int .i64 dh)∧w'.cell? ⟨S,0,none⟩=some (.pointer (some ⟨B,0,none⟩))∧w'.cell? ⟨S,1,none⟩=some (.int .i64 vars) from
       ⟨(HK8.out.fr hf n7).cell 0,(HK8.out.fr hf n7).cell 2,(HI8.out.sp.kS.fr hf nS).cell 0,(HI8.out.sp.kS.fr hf nS).cell 1⟩)
      have hil:I64 dh:=hI64 dh hkh
      have HTP:=hide (fun (w':World) (hf:Fr (fun k=>k=gd) wB w')=>arTop_any B gn gu gt A dh w' (spB_fr S B gn gu gt gc vars A HI8.out.sp hf hmp).ar hil)
      have hgd:=HI8.out.map.lt
      have hnq:∀ q,wB.heap.size≤q→¬q=gd:=fun q hq e=>by omega
      have HCT:=hide (fun (w':World) (hb:Below wB.heap.size wB w')=>(ih dh mB fB w' (by unfold dep at hd ⊢;omega) hkh hil (HI8.out.below hb) (by have h9:2 ^ dep A dl+2 ^ dep A dh≤2 ^ dep A x:=pow_two_le (by unfold dep;omega) (by unfold dep;omega);omega)).mono fun e w1 hp =>
       show ∃ v f' m',e=.returned v∧NatV w1 v (cA A vars dh)∧CtI w1 S B gn gu gt gc vars A gd f' m'∧m'+1≤mB+2 ^ dep A dh∧Fr (fun k=>k=gd) wB w1∧Fr (fun k=>k=gd) w' w1 from by
        obtain ⟨v,f',m',h1,h2,h3,h4,h5⟩:=hp
        exact ⟨v,f',m',h1,h2,h3,h4,(Fr.of_below hb (Nat.le_refl _)).trans h5,h5⟩)
      have hK:∀ z,z=min (topA A dh) vars-dv-1→kidE A vars dh dv=(max 0 (min z 1000)).toNat:=fun z hz=>by unfold kidE;omega
      have HDB:=Lib.hid (fun (w':World) (v:Value) (z:Int) (hv:NatV w' v (cA A vars dh)) (hz:z=min (topA A dh) vars-dv-1)=>double_any v (cA A vars dh) (kidE A vars dh dv) z w' hv (hK z hz) (Lib.hid (Nat.lt_of_le_of_lt (cA_kid hN hdw.1 hkh2 hdv) (limb_bound pow_big))) ⟨by omega,by omega⟩)
      obtain ⟨T,HT⟩:∃ T,Hid (topA A dh=T):=⟨_,Lib.hid rfl⟩
      have hT:=hN.wf.topR dh
      unfold TopPost at HTP
      rw [HT.out] at HTP hT
      obtain ⟨c0,c1,s0,s1⟩:=HKP.out wB (.refl _ _)
      clear hK ih
      go_region_held3 (fun w'=>w'.cell? ⟨g7,0,none⟩=some (.int .i64 dv)∧w'.cell? ⟨g7,2,none⟩=some (.int .i64 dh)∧w'.cell? ⟨S,0,none⟩=some (.pointer (some ⟨B,0,none⟩))∧w'.cell? ⟨S,1,none⟩=some (.int .i64 vars))
       (first | assumption | exact ⟨c0,c1,s0,s1⟩ | (refine HKP.out _ ?_;(repeat (first | exact Fr.refl _ _ | exact (Fr.refl _ _).drew | exact hf9 | exact hfT | exact hf1 | refine Fr.alloc ?_ _ | refine Fr.drew ?_ | refine Fr.setNew ?_ hfT.size | refine Fr.setNew ?_ hf1.size | refine Fr.setNew ?_ (Nat.le_refl _)));done))
       (first
        | (go_at_call 57;refine (HCT.out _ ?_).mono ?_;(focus ((repeat (first | exact Below.refl _ _ | exact (Below.refl _ _).drew | exact hbrT | refine below_al ?_ _ | refine below_dr ?_));done));rintro e w1 ⟨v1,f1,m1,rfl,hv1,hct1,hle1,hf1,hf0⟩;(first | have hx:=Blk.fr (Blk.new _ 56 #[.slice none 0 0]) hf0 (hnq _ (Nat.le_refl _)) | have hx:=Blk.fr (Blk.drew (Blk.new _ 56 #[.slice none 0 0])) hf0 (hnq _ (Nat.le_refl _)) | have hx:=Blk.fr (Blk.new _ 56 #[.slice none 0 0]) hf0 (hnq _ hbrT.size) | have hx:=Blk.fr hx hf0 (hnq _ (Nat.le_refl _)) | skip))
        | (go_at_call 59;refine (HTP.out _ ?_).mono ?_;(focus ((repeat (first | exact Fr.refl _ _ | exact (Fr.refl _ _).drew | exact hf9 | exact hfT | exact hf1 | refine Fr.alloc ?_ _ | refine Fr.drew ?_ | refine Fr.setNew ?_ hfT.size | refine Fr.setNew ?_ hf1.size | refine Fr.setNew ?_ (Nat.le_refl _)));done));rintro e wt ⟨rfl,hbT⟩;(refine (fun (hfT:Fr (fun k=>k=gd) wB wt)=>?_) ?_;rotate_left;(focus (refine Fr.trans ?_ (Fr.of_below hbT (Nat.le_refl _));(repeat (first | exact Fr.refl _ _ | exact (Fr.refl _ _).drew | exact hf9 | exact hfT | exact hf1 | refine Fr.alloc ?_ _ | refine Fr.drew ?_ | refine Fr.setNew ?_ hfT.size | refine Fr.setNew ?_ hf1.size | refine Fr.setNew ?_ (Nat.le_refl _)));done)));(first | (refine (fun (hbrT:Below wB.heap.size wB wt)=>?_) ?_;rotate_left;(focus (refine below_then ?_ hbT;(repeat (first | exact Below.refl _ _ | exact (Below.refl _ _).drew | exact hbrT | refine below_al ?_ _ | refine below_dr ?_));done))) | skip);(first | (refine (fun (hb1T:Below w1.heap.size w1 wt)=>?_) ?_;rotate_left;(focus (refine below_then ?_ hbT;(repeat (first | exact Below.refl _ _ | exact hb1T | refine below_al ?_ _ | refine below_dr ?_));done))) | skip);(first | have hx:=Blk.below (Blk.new _ 56 #[.slice none 0 0]) hbT (Blk.lt (Blk.new _ _ _)) | have hx:=Blk.below (Blk.drew (Blk.new _ 56 #[.slice none 0 0])) hbT (Blk.lt (Blk.drew (Blk.new _ _ _))) | have hx:=Blk.below hx hbT (Blk.lt hx) | skip))
        | (go_at_call 58;refine (HDB.out _ _ _ ?_ ?_).mono ?_;(focus (refine hv1.below ?_;(repeat (first | exact Below.refl _ _ | exact hb1T | refine below_al ?_ _ | refine below_dr ?_));done));(focus (rw [HT.out,IntKind.wrap_i64,IntKind.wrap_i64];omega));rintro e wd ⟨vd,rfl,hvd,hbd⟩;obtain ⟨Ad,nd,cd,ed⟩:=hvd.form;subst ed;(refine (fun (hf9:Fr (fun k=>k=gd) wB wd)=>?_) ?_;rotate_left;(focus (refine Fr.trans ?_ (Fr.of_below hbd (Nat.le_refl _));(repeat (first | exact Fr.refl _ _ | exact (Fr.refl _ _).drew | exact hf9 | exact hfT | exact hf1 | refine Fr.alloc ?_ _ | refine Fr.drew ?_ | refine Fr.setNew ?_ hfT.size | refine Fr.setNew ?_ hf1.size | refine Fr.setNew ?_ (Nat.le_refl _)));done)));(refine (fun (hb1d:Below w1.heap.size w1 wd)=>?_) ?_;rotate_left;(focus (refine below_then ?_ hbd;(repeat (first | exact Below.refl _ _ | exact hb1T | refine below_al ?_ _ | refine below_dr ?_));done)));(first | have hx:=Blk.below (Blk.new _ 56 #[.slice none 0 0]) hbd (Blk.lt (Blk.new _ _ _)) | have hx:=Blk.below hx hbd (Blk.lt hx) | skip);(first | have cx:=Blk.cell hx 0 | skip);(first | have fx:=Blk.frozen hx 0 | skip)))
      all_goals
       first
        | (have HH:=hide (half_set hct1 hle1 hb1d hf9 hvd hx (by first | exact hfT.size | exact hf1.size | exact Nat.le_refl _));clear hct1 hf1 hf9 hvd hbd hbT hb1d HKP HTP HCT HDB hx;go_wp2;go_meet;case rel=>exact ⟨_,rfl,HH⟩)
        | (have HH:=hide (half_new hct1 hle1 hb1d hf9 hvd);clear hct1 hf1 hf9 hvd hbd hbT hb1d HKP HTP HCT HDB;go_wp2;go_meet;case rel=>exact ⟨_,rfl,HH⟩)
     case rest =>
      obtain ⟨g12,rfl,HH2⟩:=hcut
      obtain ⟨f2,m2,hct2,hle2⟩:=HH2.out.ct
      obtain ⟨A1,n1,c1,hb1,hv1'⟩:=HH1.out.box
      obtain ⟨A2,n2,c2,hb2,hv2'⟩:=HH2.out.box
      have hk1:=hb1.fr HH2.out.fr (map_ne HI8.out hb1)
      have hw1:=natV_fr hv1' HH2.out.fr HI8.out.map.isM
      have HFR:=hide (HH1.out.fr.trans HH2.out.fr)
      have hk6:=HK6c.out.fr HFR.out (map_ne HI7.out HK6c.out)
      have hxx:2 ^ dep A dl+2 ^ dep A dh≤2 ^ dep A x:=pow_two_le (by unfold dep;omega) (by unfold dep;omega)
      have HCX:=Lib.hid (cA_some (vars:=vars) hN.wf hg)
      have hAD:=natAddV _ _ _ _ wc hw1 hv2' (Nat.lt_of_le_of_lt (cA_kid hN hdw.1 hkl2 hdv) (limb_bound pow_big)) (Nat.lt_of_le_of_lt (cA_kid hN hdw.1 hkh2 hdv) (limb_bound pow_big))
      simp only at HCX
      rw [←HCX.out] at hAD
      have HAD:=hide hAD
      have HC2:=hide hct2
      have HK62:=hide hk6
      have q1:=hk1.cell 0
      have q2:=hb2.cell 0
      clear hAD hct2 hk6 hw1 hv1' hv2' hk1 hb1 hb2 HH1 HH2 HI8 HK8 HK7c ih
      go_wp2_with fail
      refine (HAD.out).mono ?_
      rintro e w9 ⟨v9,rfl,hv9,hb9⟩
      obtain ⟨A9,n9,c9,rfl⟩:=hv9.form
      have hal:=(Below.refl w9.heap.size w9).alloc (Nat.le_refl _) (.cells #[.slice A9 n9 c9] 56)
      have HC9:=hide (HC2.out.below (below_al hb9 (.cells #[.slice A9 n9 c9] 56)))
      have HV9:=hide (hv9.below hal)
      have HK69:=hide (HK62.out.below (below_al hb9 (.cells #[.slice A9 n9 c9] 56)) HK62.out.lt)
      have HK13:=hide (Blk.new w9 56 #[.slice A9 n9 c9])
      have HFR9:=hide (HFR.out.trans (.of_below (below_al hb9 (.cells #[.slice A9 n9 c9] 56)) (Nat.le_refl _)))
      have q13:=HK13.out.cell 0
      clear hv9 hb9 hal HC2 HK62 HFR HAD q1 q2
      go_wp2_with (first
       | (refine storeH rfl _ _ _ rfl rfl HC9.out.map x (.agg #[.slice A9 n9 c9]) rfl rfl hi (by omega) ?_;intro w10 hm10 hg10;have hgf:Fr (fun k=>k=gd) _ w10:=((Fr.refl _ _).grown hg10 (fun k e=>by cases e;rfl));have q13':=(HK13.out.fr hgf (map_ne HC9.out HK13.out)).cell 0;have hk6':=HK69.out.fr hgf (map_ne HC9.out HK69.out);have q6:=hk6'.cell 0;have f6:=hk6'.frozen 0;have d6:=(hk6'.set_ 0 (.slice A9 n9 c9)).cell 0;have hcs:=HC9.out.store hm10 hg10 HV9.out;have hv10:=natV_fr HV9.out hgf HC9.out.map.isM)
       | fail)
      exact bodyPost_ret (v:=.agg #[.slice A9 n9 c9]) (by simp [results,Tryz.results57,go_sem,d6]) rfl
       ⟨_,_,_,rfl,natV_set hv10 (hk6'.cell 0) (fun i e=>by cases e),ctI_set hcs hk6',by omega,((Fr.of_below HB7.out (Nat.le_refl _)).trans (HFR9.out.trans hgf)).setNew (by rw [HG6.out];exact Nat.le_refl _)⟩
theorem ctI_made {w:World} {S B gn gu gt gc:Nat} {vars:Int} {A:Ar} (h:SpB w S B gn gu gt gc vars A):CtI (w.alloc (.map #[] 0)) S B gn gu gt gc vars A w.heap.size (fun _=>none) 0 :=
 ⟨h.below ((Below.refl _ _).alloc (Nat.le_refl _) _),mapH_made w,fun _ _ e=>by cases e⟩
theorem bdCount_any (S B gn gu gt gc:Nat) (vars:Int) (A:Ar) (w:World) (x:Int) (h:SpB w S B gn gu gt gc vars A) (hN:CtN A vars) (hx:hasA A x=true) :
  Calls Tryz.prog 16 #[.pointer (some ⟨S,0,none⟩),.int .i64 x] w (CountP w (cA A vars x*2 ^ (min (topA A x) vars).toNat)):=by
 have hal:=(Below.refl w.heap.size w).alloc (Nat.le_refl _) (.cells #[.slice none 0 0] 56)
 have hc:=ctI_made (h.below hal)
 rw [show (w.alloc (.cells #[.slice none 0 0] 56)).heap.size=w.heap.size+1 by simp] at hc
 have hi:=has_i64 h.ar hx
 have hd:dep A x≤24:=by unfold dep;have:=(hN.wf.topR x).1;omega
 have hp:2 ^ dep A x≤2 ^ 24:=Nat.pow_le_pow_right (by omega) hd
 have hct:=(counts_all S B gn gu gt gc (w.heap.size+1) vars A hN _ x 0 _ _ (Nat.le_refl _) hx hi hc (by omega)).mono fun e w' hq=>show CtsP _ _ (cA A vars x) e w' from by
  obtain ⟨v,_,_,h1,h2,_,_,h5⟩:=hq
  exact ⟨v,h1,h2,h5⟩
 have ht:=hN.wf.topR x
 have h0:=hN.v0
 have h1:=hN.v1
 refine bdCount_of S B gn gu gt gc vars A w x (cA A vars x) (min (topA A x) vars).toNat h hi hx (by omega) (by omega) (Lib.hid (Nat.lt_of_le_of_lt ?_ (limb_bound pow_big))) (hide hct)
 exact Nat.le_trans (cA_le hN.wf hN.var hN.v0 _ x (Nat.le_refl _)) (Nat.pow_le_pow_right (by omega) (by omega))
end Go.Proofs.YtojgbcmhdnappaaGreatDoor
