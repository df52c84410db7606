/-
  A part of the proof: ArenaMake2. Conditions: none.
-/
import Derived.Test.YtojgbcmhdnappaaGreatDoorBeArenaPlace
import Derived.Test.YtojgbcmhdnappaaGreatDoorBeCalm
namespace Go.Proofs.YtojgbcmhdnappaaGreatDoor
open Go.RowKit
def errV (c:Int):Value:=if c=0 then .nilIface else .iface 41 (.int .i64 c)
theorem errV_zero:errV 0=.nilIface:=by unfold errV;rw [if_pos rfl]
theorem errV_ne {c:Int} (h:c≠0):errV c=.iface 41 (.int .i64 c):=by unfold errV;rw [if_neg h]
def MakePost (w:World) (B gn gu gt:Nat) (A:Ar) (n:Nd) (e:Ending) (w':World):Prop :=
 e=.returned (.tuple #[.int .i64 (makeH A n),errV (makeE A n)])∧ArM w' B gn gu gt (makeA A n)∧Fr (arB B gn gu gt) w w'
theorem makeNo {w w':World} {B gn gu gt:Nat} {A:Ar} {n:Nd} {c:Int} (h:ArM w B gn gu gt A) (hc:makeE A n=c) (h0:c≠0) (hb:Below w.heap.size w w') :
  MakePost w B gn gu gt A n (.returned (.tuple #[.int .i64 0,.iface 41 (.int .i64 c)])) w':=by
 have e1:makeH A n=0:=by unfold makeH;rw [if_pos (by rw [hc];exact h0)]
 have e2:makeA A n=A:=by unfold makeA;rw [if_pos (by rw [hc];exact h0)]
 exact ⟨by rw [e1,hc,errV_ne h0],by rw [e2];exact h.below hb (fun k hk=>h.lt hk),.of_below hb (Nat.le_refl _)⟩
structure NdI (n:Nd):Prop where
 var:I64 n.var
 low:I64 n.low
 high:I64 n.high
section
variable {A:Ar} {n:Nd}
theorem makeE_var (h:¬(0≤n.var∧n.var<24)):makeE A n=2:=by unfold makeE;rw [if_pos h]
theorem makeE_has (h1:0≤n.var∧n.var<24) (h:¬(hasA A n.low=true∧hasA A n.high=true)):makeE A n=7:=by unfold makeE;rw [if_neg (fun hn=>hn h1),if_pos h]
theorem makeE_top (h1:0≤n.var∧n.var<24) (h2:hasA A n.low=true∧hasA A n.high=true) (h:topA A n.low≤n.var∨topA A n.high≤n.var):makeE A n=10:=by
 unfold makeE;rw [if_neg (fun hn=>hn h1),if_neg (fun hn=>hn h2),if_pos h]
theorem mayA_of (h1:0≤n.var∧n.var<24) (h2:hasA A n.low=true∧hasA A n.high=true) (h:¬(topA A n.low≤n.var∨topA A n.high≤n.var)):MayA A n:=⟨h1,⟨h2.1,by omega⟩,⟨h2.2,by omega⟩⟩
theorem makeE_rest (h:MayA A n):makeE A n=match liesA A n with | some _=>0 | none=>match freeA A with | some _=>0 | none=>12:=by
 unfold makeE
 rw [if_neg (fun hn=>hn h.var),if_neg (fun hn=>hn ⟨h.low.1,h.high.1⟩),if_neg (by have:=h.low.2;have:=h.high.2;omega)]
 rfl
theorem make_lies (h:MayA A n) {k:Nat} (hl:liesA A n=some k):makeE A n=0∧makeH A n=(k:Int)+2∧makeA A n=A:=by
 have e:makeE A n=0:=by rw [makeE_rest h,hl]
 exact ⟨e,by unfold makeH;rw [if_neg (by rw [e];omega),hl],by unfold makeA;rw [if_neg (by rw [e];omega),hl]⟩
theorem make_full (h:MayA A n) (hl:liesA A n=none) (hf:freeA A=none):makeE A n=12:=by rw [makeE_rest h,hl,hf]
theorem make_new (h:MayA A n) (hl:liesA A n=none) {k:Nat} (hf:freeA A=some k):makeE A n=0∧makeH A n=(k:Int)+2∧makeA A n=A.set k (some n):=by
 have e:makeE A n=0:=by rw [makeE_rest h,hl,hf]
 exact ⟨e,by unfold makeH;rw [if_neg (by rw [e];omega),hl,hf],by unfold makeA;rw [if_neg (by rw [e];omega),hl,hf]⟩
end
set_option maxHeartbeats 4000000 in
theorem make_two (B gn gu gt:Nat) (A:Ar) (n:Nd) (w:World) (h:ArM w B gn gu gt A) (hv:¬(0≤n.var∧n.var<24)) :
  Calls Tryz.prog 204 #[.pointer (some ⟨B,0,none⟩),.agg #[.int .i64 n.var,.int .i64 n.low,.int .i64 n.high]] w (MakePost w B gn gu gt A n):=by
 have HE:=hide (fun (w':World) (hb:Below w.heap.size w w')=>makeNo (w':=w') h (makeE_var hv) (by omega) hb)
 have HK:=hide (Blk.new w 214 #[.int .i64 n.var,.int .i64 n.low,.int .i64 n.high])
 have q0:=HK.out.cell 0
 clear h
 rcases (show n.var<0∨(¬n.var<0∧24≤n.var) by omega) with h1 | ⟨h1,h2⟩
 all_goals
  go_enter Tryz.func204,Tryz.ntmps204
  go_wp2
  go_ret2
  exact HE.out _ ((Below.refl w.heap.size w).alloc (Nat.le_refl _) _)
set_option maxHeartbeats 4000000 in
theorem make_seven (B gn gu gt:Nat) (A:Ar) (n:Nd) (w:World) (h:ArM w B gn gu gt A) (hi:NdI n) (hv:0≤n.var∧n.var<24) (hh:¬(hasA A n.low=true∧hasA A n.high=true)) :
  Calls Tryz.prog 204 #[.pointer (some ⟨B,0,none⟩),.agg #[.int .i64 n.var,.int .i64 n.low,.int .i64 n.high]] w (MakePost w B gn gu gt A n):=by
 have HE:=hide (fun (w':World) (hb:Below w.heap.size w w')=>makeNo (w':=w') h (makeE_has hv hh) (by omega) hb)
 have HK:=hide (Blk.new w 214 #[.int .i64 n.var,.int .i64 n.low,.int .i64 n.high])
 have HB:=hide ((Below.refl w.heap.size w).alloc (Nat.le_refl _) (.cells #[.int .i64 n.var,.int .i64 n.low,.int .i64 n.high] 214))
 have HM:=hide (h.below HB.out (fun k hk=>h.lt hk))
 have HL:=hide (arHas_any B gn gu gt A n.low _ HM.out hi.low)
 have HH:=hide (arHas_any B gn gu gt A n.high _ HM.out hi.high)
 have q0:=HK.out.cell 0
 have q1:=HK.out.cell 1
 have q2:=HK.out.cell 2
 have hv1:¬n.var<0:=by omega
 have hv2:¬24≤n.var:=by omega
 clear h hi
 rcases (show hasA A n.low=false∨(hasA A n.low=true∧hasA A n.high=false) by
  cases h1:hasA A n.low <;> cases h2:hasA A n.high <;> simp_all) with h1 | ⟨h1,h2⟩
 ·rw [h1] at HL
  go_enter Tryz.func204,Tryz.ntmps204
  go_wp2_with fail
  refine (HL.out).mono ?_
  rintro e w1 ⟨rfl,rfl⟩
  go_wp2
  go_ret2
  exact HE.out _ HB.out
 ·rw [h1] at HL
  rw [h2] at HH
  go_enter Tryz.func204,Tryz.ntmps204
  go_wp2_with fail
  refine (HL.out).mono ?_
  rintro e w1 ⟨rfl,rfl⟩
  go_wp2_with fail
  refine (HH.out).mono ?_
  rintro e w1 ⟨rfl,rfl⟩
  go_wp2
  go_ret2
  exact HE.out _ HB.out
theorem out_drew {w w':World} (h:Below w.drew.heap.size w.drew w'):Below w.heap.size w w':=(Below.refl _ w).drew.trans h
set_option maxRecDepth 100000 in
set_option maxHeartbeats 4000000 in
theorem make_ten (B gn gu gt:Nat) (A:Ar) (n:Nd) (w:World) (h:ArM w B gn gu gt A) (hi:NdI n) (hv:0≤n.var∧n.var<24) (hh:hasA A n.low=true∧hasA A n.high=true) (ht:topA A n.low≤n.var∨topA A n.high≤n.var) :
  Calls Tryz.prog 204 #[.pointer (some ⟨B,0,none⟩),.agg #[.int .i64 n.var,.int .i64 n.low,.int .i64 n.high]] w (MakePost w B gn gu gt A n):=by
 have HE:=hide (fun (w':World) (hb:Below w.heap.size w w')=>makeNo (w':=w') h (makeE_top hv hh ht) (by omega) hb)
 have HK:=hide (Blk.new w 214 #[.int .i64 n.var,.int .i64 n.low,.int .i64 n.high])
 have HB:=hide ((Below.refl w.heap.size w).alloc (Nat.le_refl _) (.cells #[.int .i64 n.var,.int .i64 n.low,.int .i64 n.high] 214))
 have HM:=hide (h.below HB.out (fun k hk=>h.lt hk))
 have HL:=hide (arHas_any B gn gu gt A n.low _ HM.out hi.low)
 have HH:=hide (arHas_any B gn gu gt A n.high _ HM.out hi.high)
 rw [hh.1] at HL
 rw [hh.2] at HH
 have q0:=HK.out.cell 0
 have q1:=HK.out.cell 1
 have q2:=HK.out.cell 2
 have hv1:¬n.var<0:=by omega
 have hv2:¬24≤n.var:=by omega
 have HI:=hide hi
 clear h hi hh
 rcases (show topA A n.low≤n.var∨(¬topA A n.low≤n.var∧topA A n.high≤n.var) by omega) with h1 | ⟨h1,h2⟩
 case' inl=>have hd:decide (topA A n.low≤n.var)=true:=decide_eq_true h1
 case' inr =>
  have hd:decide (topA A n.low≤n.var)=false:=decide_eq_false h1
  have hd2:decide (topA A n.high≤n.var)=true:=decide_eq_true h2
 all_goals
  go_enter Tryz.func204,Tryz.ntmps204
  go_wp2_with fail
  refine (HL.out).mono ?_
  rintro e w1 ⟨rfl,rfl⟩
  go_wp2_with fail
  refine (HH.out).mono ?_
  rintro e w1 ⟨rfl,rfl⟩
  go_wp2
  have lg:=HK.out.lt
  clear q0 q1 q2
  generalize w.heap.size=g at HK lg ⊢
  generalize (w.alloc (.cells #[.int .i64 n.var,.int .i64 n.low,.int .i64 n.high] 214))=w1 at HM HK HB lg ⊢
  have HTL:=hide (fun c:Calm w1=>arTop_any B gn gu gt A n.low c.val (HM.out.below c.bel (fun k hk=>HM.out.lt hk)) HI.out.low)
  have HTH:=hide (fun c:Calm w1=>arTop_any B gn gu gt A n.high c.val (HM.out.below c.bel (fun k hk=>HM.out.lt hk)) HI.out.high)
  have q0:=fun c:Calm w1=>(c.cell (i:=0) lg).trans (HK.out.cell 0)
  have q1:=fun c:Calm w1=>(c.cell (i:=1) lg).trans (HK.out.cell 1)
  have q2:=fun c:Calm w1=>(c.cell (i:=2) lg).trans (HK.out.cell 2)
  refine wp_region_calm (by kernel_rfl) (by kernel_rfl) ?_
  repeat (go_big_quiet_step (fail))
  go_big_quiet_want
  go_big_quiet_op
  go_big_quiet_call ((go_at_call 59;refine (HTL.out _).mono ?_;rintro e w2 ⟨rfl,hb0⟩;exact ⟨rfl,Calm.on _ hb0⟩))
  repeat (go_big_quiet_step (fail))
  try (go_big_quiet_want;go_big_quiet_op;go_big_quiet_call ((go_at_call 59;refine (HTH.out _).mono ?_;rintro e w2 ⟨rfl,hb0⟩;exact ⟨rfl,Calm.on _ hb0⟩));repeat (go_big_quiet_step (fail)))
  refine wpQuiet_nil ?_
  rintro _ ⟨cw,rfl⟩
  clear q0 q1 q2
  have HX:=hide (HB.out.trans (cw.bel.mono HB.out.size))
  go_wp2
  go_ret2
  exact HE.out _ HX.out
end Go.Proofs.YtojgbcmhdnappaaGreatDoor
namespace Go.Proofs.YtojgbcmhdnappaaGreatDoor
open Go.RowKit
structure ArX (w:World) (B gn gu gt:Nat) (A:Ar) (ns:List Nd) (us:List Bool) (tab:List Int):Prop where
 T:ArT hashN A ns us tab
 kB:Blk w B 212 #[.slice (some ⟨gn,0,none⟩) A.length A.length,.slice (some ⟨gu,0,none⟩) A.length A.length,.slice (some ⟨gt,0,none⟩) (2*A.length+1) (2*A.length+1),.int .i64 (cntA A:Int)]
 kn:Blk w gn 214 (nodeArr ns)
 ku:Blk w gu 4 (boolArr us)
 kt:Blk w gt 3 (intArr tab)
 room:A.length≤4000
theorem ArM.x {w:World} {B gn gu gt:Nat} {A:Ar} (h:ArM w B gn gu gt A):∃ ns us tab,ArX w B gn gu gt A ns us tab:=by
 obtain ⟨ns,us,tab,h1,h2,h3,h4,h5⟩:=h.is
 exact ⟨ns,us,tab,h1,h2,h3,h4,h5,h.room⟩
theorem ArX.below {w w':World} {B gn gu gt:Nat} {A:Ar} {ns:List Nd} {us:List Bool} {tab:List Int} (h:ArX w B gn gu gt A ns us tab) (hb:Below w.heap.size w w'):ArX w' B gn gu gt A ns us tab :=
 ⟨h.T,h.kB.below hb h.kB.lt,h.kn.below hb h.kn.lt,h.ku.below hb h.ku.lt,h.kt.below hb h.kt.lt,h.room⟩
theorem ArT.pl {w:World} {B gn gt:Nat} {A:Ar} {ns:List Nd} {us:List Bool} {tab:List Int} {u z:Value} (hT:ArT hashN A ns us tab)
  (kB:Blk w B 212 #[.slice (some ⟨gn,0,none⟩) A.length A.length,u,.slice (some ⟨gt,0,none⟩) (2*A.length+1) (2*A.length+1),z]) (kn:Blk w gn 214 (nodeArr ns)) (kt:Blk w gt 3 (intArr tab)) :
  PlM w B gn gt A.length u z ns tab:=by
 refine ⟨kB,kn,kt,hT.s.n,hT.len,fun i hi h0=>?_,hT.zero⟩
 obtain ⟨D,hD,hu,_⟩:=hT.T
 obtain ⟨k,hk,e⟩:=hD.nz i hi h0
 exact ⟨k,gotA_len (hT.s.used.2 ⟨(hu k).1 hk,rfl⟩),e⟩
theorem free_used {A:Ar} {ns:List Nd} {us:List Bool} (h:ArS A ns us):freeA A=us.findIdx? (fun b=>b==false):=by
 have hk:∀ k,k<A.length→((A.getD k none).isNone=(us.getD k false==false)):=fun k _=>by
  rw [h.is k]
  cases us.getD k false <;> rfl
 cases e:us.findIdx? (fun b=>b==false) with
 | none =>
  have h1:=find_none e
  unfold freeA
  rw [List.findIdx?_eq_none_iff]
  intro o ho
  obtain ⟨j,hj,rfl⟩:=List.getElem_of_mem ho
  have h2:=hk j hj
  have h3:=getD_of (l:=A) (k:=j) (d:=none) hj
  rw [List.getElem?_eq_getElem hj] at h3
  rw [←Option.some.inj h3] at h2
  rw [h2]
  exact h1 _ (List.mem_of_getElem? (getD_of (d:=false) (by rw [h.u];exact hj)))
 | some k =>
  obtain ⟨h1,h2,h3⟩:=find_some e
  rw [h.u] at h1
  unfold freeA
  rw [List.findIdx?_eq_some_iff_getElem]
  refine ⟨h1,?_,fun j hj=>?_⟩
  ·have h4:=hk k h1
   have h5:=getD_of (l:=A) (k:=k) (d:=none) h1
   rw [List.getElem?_eq_getElem h1] at h5
   rw [←Option.some.inj h5] at h4
   rw [h4]
   exact h2 _ (getD_of (d:=false) (by rw [h.u];exact h1))
  ·have hj2:j<A.length:=by omega
   have h4:=hk j hj2
   have h5:=getD_of (l:=A) (k:=j) (d:=none) hj2
   rw [List.getElem?_eq_getElem hj2] at h5
   rw [←Option.some.inj h5] at h4
   have h6:=h3 j hj _ (getD_of (d:=false) (by rw [h.u];exact hj2))
   rw [h4,h6]
   decide
theorem MayA.ok {A:Ar} {n:Nd} (h:MayA A n) (hl:A.length≤4000):NdOk n:=by
 have hk:∀ x,hasA A x=true→0≤x∧x≤5000:=fun x hx=>by
  unfold hasA at hx
  by_cases h0:x=0
  ·omega
  ·by_cases h1:x=1
   ·omega
   ·rw [beq_eq_false_iff_ne.2 h0,beq_eq_false_iff_ne.2 h1] at hx
    simp only [Bool.false_or] at hx
    obtain ⟨m,e⟩:=Option.isSome_iff_exists.1 hx
    obtain ⟨k,ek,hk,_⟩:=gotA_is e
    omega
 exact ⟨⟨h.var.1,by have:=h.var.2;omega⟩,hk _ h.low.1,hk _ h.high.1⟩
theorem makeYes {w w':World} {B gn gu gt:Nat} {A:Ar} {n:Nd} {k:Nat} (h:ArM w B gn gu gt A) (hm:MayA A n) (hl:liesA A n=some k) (hb:Below w.heap.size w w') :
  MakePost w B gn gu gt A n (.returned (.tuple #[.int .i64 ((k:Int)+2),.nilIface])) w':=by
 obtain ⟨e1,e2,e3⟩:=make_lies hm hl
 exact ⟨by rw [e1,e2,errV_zero],by rw [e3];exact h.below hb (fun k hk=>h.lt hk),.of_below hb (Nat.le_refl _)⟩
def putW (w:World) (B gn gu gt i k:Nat) (n:Nd) (m:Int):World :=
 (((((w.setCell ⟨gn,k*3,none⟩ (.int .i64 n.var)).setCell ⟨gn,k*3+1,none⟩ (.int .i64 n.low)).setCell ⟨gn,k*3+2,none⟩ (.int .i64 n.high)).setCell ⟨gu,k,none⟩ (.bool true)).setCell ⟨gt,i,none⟩ (.int .i64 ((k:Int)+2))).setCell ⟨B,3,none⟩ (.int .i64 m)
theorem ArX.put {w:World} {B gn gu gt:Nat} {A:Ar} {ns:List Nd} {us:List Bool} {tab:List Int} {n:Nd} {i k:Nat} (h:ArX w B gn gu gt A ns us tab) (hm:MayA A n) (hl:liesA A n=none) (hf:freeA A=some k) (hp:Place hashN ns tab n i) :
  ArM (putW w B gn gu gt i k n ((cntA A:Int)+1)) B gn gu gt (A.set k (some n))∧Fr (arB B gn gu gt) w (putW w B gn gu gt i k n ((cntA A:Int)+1)):=by
 obtain ⟨hk,hkn⟩:=freeA_some hf
 have dnu:=h.kn.ne_ h.ku (by decide)
 have dnt:=h.kn.ne_ h.kt (by decide)
 have dnB:=h.kn.ne_ h.kB (by decide)
 have dut:=h.ku.ne_ h.kt (by decide)
 have duB:=h.ku.ne_ h.kB (by decide)
 have dtB:=h.kt.ne_ h.kB (by decide)
 have kn:=(((h.kn.set_ (k*3) (.int .i64 n.var)).set_ (k*3+1) (.int .i64 n.low)).set_ (k*3+2) (.int .i64 n.high))
 rw [nodeArr_set (by rw [h.T.s.n];exact hk)] at kn
 have ku:=(((h.ku.far (p:=⟨gn,k*3,none⟩) dnu.symm (.int .i64 n.var)).far (p:=⟨gn,k*3+1,none⟩) dnu.symm (.int .i64 n.low)).far (p:=⟨gn,k*3+2,none⟩) dnu.symm (.int .i64 n.high)).set_ k (.bool true)
 rw [boolArr_set] at ku
 have kt:=((((h.kt.far (p:=⟨gn,k*3,none⟩) dnt.symm (.int .i64 n.var)).far (p:=⟨gn,k*3+1,none⟩) dnt.symm (.int .i64 n.low)).far (p:=⟨gn,k*3+2,none⟩) dnt.symm (.int .i64 n.high)).far (p:=⟨gu,k,none⟩) dut.symm (.bool true)).set_ i (.int .i64 ((k:Int)+2))
 rw [intArr_set] at kt
 have kB:=(((((h.kB.far (p:=⟨gn,k*3,none⟩) dnB.symm (.int .i64 n.var)).far (p:=⟨gn,k*3+1,none⟩) dnB.symm (.int .i64 n.low)).far (p:=⟨gn,k*3+2,none⟩) dnB.symm (.int .i64 n.high)).far (p:=⟨gu,k,none⟩) duB.symm (.bool true)).far (p:=⟨gt,i,none⟩) dtB.symm (.int .i64 ((k:Int)+2))).set_ 3 (.int .i64 ((cntA A:Int)+1))
 have hlen:(A.set k (some n)).length=A.length:=List.length_set ..
 have hcnt:cntA (A.set k (some n))=cntA A+1:=countP_set_none hkn hk
 refine ⟨⟨⟨_,_,_,h.T.put hm hl hf hp,?_,((kn.far (p:=⟨gu,k,none⟩) dnu _).far (p:=⟨gt,i,none⟩) dnt _).far (p:=⟨B,3,none⟩) dnB _,(ku.far (p:=⟨gt,i,none⟩) dut _).far (p:=⟨B,3,none⟩) duB _,kt.far (p:=⟨B,3,none⟩) dtB _⟩,by rw [hlen];exact h.room⟩,?_⟩
 ·rw [hlen,hcnt,Int.natCast_add]
  exact kB
 ·exact ((((((Fr.refl _ w).set_ (p:=⟨gn,k*3,none⟩) (.inr (.inl rfl)) _).set_ (p:=⟨gn,k*3+1,none⟩) (.inr (.inl rfl)) _).set_ (p:=⟨gn,k*3+2,none⟩) (.inr (.inl rfl)) _).set_ (p:=⟨gu,k,none⟩) (.inr (.inr (.inl rfl))) _).set_ (p:=⟨gt,i,none⟩) (.inr (.inr (.inr rfl))) _).set_ (p:=⟨B,3,none⟩) (.inl rfl) _
theorem makeNew {w w3:World} {B gn gu gt:Nat} {A:Ar} {ns:List Nd} {us:List Bool} {tab:List Int} {n:Nd} {i k:Nat} (h:ArX w3 B gn gu gt A ns us tab) (hm:MayA A n) (hl:liesA A n=none) (hf:freeA A=some k) (hp:Place hashN ns tab n i) (hb:Below w.heap.size w w3) :
  MakePost w B gn gu gt A n (.returned (.tuple #[.int .i64 ((k:Int)+2),.nilIface])) (putW w3 B gn gu gt i k n ((cntA A:Int)+1)).drew:=by
 obtain ⟨e1,e2,e3⟩:=make_new hm hl hf
 obtain ⟨h1,h2⟩:=h.put hm hl hf hp
 exact ⟨by rw [e1,e2,errV_zero],by rw [e3];exact h1.below (Below.refl _ _).drew (fun k hk=>h1.lt hk),((Fr.of_below hb (Nat.le_refl _)).trans h2).drew⟩
set_option maxRecDepth 100000 in
set_option maxHeartbeats 4000000 in
theorem make_may (B gn gu gt:Nat) (A:Ar) (n:Nd) (w:World) (h:ArM w B gn gu gt A) (hi:NdI n) (hm:MayA A n) :
  Calls Tryz.prog 204 #[.pointer (some ⟨B,0,none⟩),.agg #[.int .i64 n.var,.int .i64 n.low,.int .i64 n.high]] w (MakePost w B gn gu gt A n):=by
 have HK:=hide (Blk.new w 214 #[.int .i64 n.var,.int .i64 n.low,.int .i64 n.high])
 have HB:=hide ((Below.refl w.heap.size w).alloc (Nat.le_refl _) (.cells #[.int .i64 n.var,.int .i64 n.low,.int .i64 n.high] 214))
 have HM:=hide (h.below HB.out (fun k hk=>h.lt hk))
 have HL:=hide (arHas_any B gn gu gt A n.low _ HM.out hi.low)
 have HH:=hide (arHas_any B gn gu gt A n.high _ HM.out hi.high)
 rw [hm.low.1] at HL
 rw [hm.high.1] at HH
 have q0:=HK.out.cell 0
 have q1:=HK.out.cell 1
 have q2:=HK.out.cell 2
 have hv:=hm.var
 have hv1:¬n.var<0:=by omega
 have hv2:¬24≤n.var:=by omega
 have hd:decide (topA A n.low≤n.var)=false:=decide_eq_false (by have:=hm.low.2;omega)
 have hd2:decide (topA A n.high≤n.var)=false:=decide_eq_false (by have:=hm.high.2;omega)
 have HI:=hide hi
 have HW:=hide h
 have HMY:=hide hm
 clear h hi hm
 go_enter Tryz.func204,Tryz.ntmps204
 go_wp2_with fail
 refine (HL.out).mono ?_
 rintro e w1 ⟨rfl,rfl⟩
 go_wp2_with fail
 refine (HH.out).mono ?_
 rintro e w1 ⟨rfl,rfl⟩
 go_wp2
 have lg:=HK.out.lt
 clear q0 q1 q2 HL HH
 have hgw:¬arB B gn gu gt w.heap.size:=fun hk=>Nat.lt_irrefl _ (HW.out.lt hk)
 generalize w.heap.size=g at HK lg hgw ⊢
 generalize (w.alloc (.cells #[.int .i64 n.var,.int .i64 n.low,.int .i64 n.high] 214))=w1 at HM HK HB lg ⊢
 have HTL:=hide (fun c:Calm w1=>arTop_any B gn gu gt A n.low c.val (HM.out.below c.bel (fun k hk=>HM.out.lt hk)) HI.out.low)
 have HTH:=hide (fun c:Calm w1=>arTop_any B gn gu gt A n.high c.val (HM.out.below c.bel (fun k hk=>HM.out.lt hk)) HI.out.high)
 have q0:=fun c:Calm w1=>(c.cell (i:=0) lg).trans (HK.out.cell 0)
 have q1:=fun c:Calm w1=>(c.cell (i:=1) lg).trans (HK.out.cell 1)
 have q2:=fun c:Calm w1=>(c.cell (i:=2) lg).trans (HK.out.cell 2)
 refine wp_region_calm (by kernel_rfl) (by kernel_rfl) ?_
 repeat (go_big_quiet_step (fail))
 go_big_quiet_want
 go_big_quiet_op
 go_big_quiet_call ((go_at_call 59;refine (HTL.out _).mono ?_;rintro e w2 ⟨rfl,hb0⟩;exact ⟨rfl,Calm.on _ hb0⟩))
 repeat (go_big_quiet_step (fail))
 go_big_quiet_want
 go_big_quiet_op
 go_big_quiet_call ((go_at_call 59;refine (HTH.out _).mono ?_;rintro e w2 ⟨rfl,hb0⟩;exact ⟨rfl,Calm.on _ hb0⟩))
 repeat (go_big_quiet_step (fail))
 refine wpQuiet_nil ?_
 rintro _ ⟨cw,rfl⟩
 clear q0 q1 q2 HTL HTH hd hd2
 have HX:=hide (HB.out.trans (cw.bel.mono HB.out.size))
 have HM2:=hide (HM.out.below cw.bel (fun k hk=>HM.out.lt hk))
 have HK2:=hide (HK.out.below cw.bel lg)
 generalize cw.val=w2 at HX HM2 HK2 ⊢
 clear cw HM HK lg HB
 obtain ⟨ns,us,tab,hx⟩:=HM2.out.x
 have HXX:=hide hx
 have q0:=HK2.out.cell 0
 have q1:=HK2.out.cell 1
 have q2:=HK2.out.cell 2
 have HPL:=hide (place_any B gn gt A.length _ _ ns tab n w2 (hx.T.pl hx.kB hx.kn hx.kt) (HMY.out.ok hx.room) hx.room)
 clear hx
 go_wp2_with fail
 refine (HPL.out).mono ?_
 rintro e w3 ⟨i,rfl,hpl,hb3⟩
 clear q0 q1 q2
 have HP:=hide hpl
 have hit:=hpl.lt
 have HX3:=hide (HX.out.trans (hb3.mono HX.out.size))
 have HM3:=hide (HXX.out.below hb3)
 have HK3:=hide (HK2.out.below hb3 HK2.out.lt)
 clear hpl hb3 HPL HM2 HK2 HX HXX
 have htl:=HM3.out.T.len
 rw [htl] at hit
 have hitI:(i:Int)<2*(A.length:Int)+1:=by omega
 have hroom:=HM3.out.room
 have b0:=HM3.out.kB.cell 0
 have b1:=HM3.out.kB.cell 1
 have b2:=HM3.out.kB.cell 2
 have t0:=(HM3.out.kt.cell i).trans (intArr_at (by rw [htl];exact hit))
 cases hl:liesA A n with
 | some k =>
  have HY:=hide (fun (w':World) (hb:Below w.heap.size w w')=>makeYes (w':=w') HW.out HMY.out hl hb)
  rw [HM3.out.T.found HP.out hl] at t0
  have hkb:((k:Int)+2==0)=false:=beq_eq_false_iff_ne.2 (by omega)
  clear hl
  go_wp2
  go_ret2
  exact HY.out _ HX3.out
 | none =>
  rw [HM3.out.T.miss HP.out hl] at t0
  have HIX:=hide (index_any gu us A.length A.length w3 HM3.out.ku HM3.out.T.s.u (by omega))
  rw [←free_used HM3.out.T.s] at HIX
  cases hf:freeA A with
  | none =>
   have HE:=hide (fun (w':World) (hb:Below w.heap.size w w')=>makeNo (w':=w') HW.out (make_full HMY.out hl hf) (by omega) hb)
   rw [hf] at HIX
   unfold IdxPost idxI at HIX
   clear hl hf
   go_wp2_with fail
   refine (HIX.out).mono ?_
   rintro e w4 ⟨rfl,rfl⟩
   go_wp2
   go_ret2
   exact HE.out _ HX3.out
  | some k =>
   obtain ⟨hk,_⟩:=freeA_some hf
   rw [hf] at HIX
   unfold IdxPost idxI at HIX
   have HLF:=hide (And.intro hl hf)
   clear hl hf
   have q0:=HK3.out.cell 0
   have q1:=HK3.out.cell 1
   have q2:=HK3.out.cell 2
   have hkI:(k:Int)<(A.length:Int):=by omega
   have b3:=HM3.out.kB.cell 3
   have fb3:=HM3.out.kB.frozen 3
   have ft:=HM3.out.kt.frozen i
   have fu:=HM3.out.ku.frozen k
   have fn0:=HM3.out.kn.frozen (k*3)
   have fn1:=HM3.out.kn.frozen (k*3+1)
   have fn2:=HM3.out.kn.frozen (k*3+2)
   obtain ⟨m0,m1,m2⟩:=nodeArr_at (ns:=ns) (k:=k) (by rw [HM3.out.T.s.n];exact hk)
   have n0:=(HM3.out.kn.cell (k*3)).trans m0
   have n1:=(HM3.out.kn.cell (k*3+1)).trans m1
   have n2:=(HM3.out.kn.cell (k*3+2)).trans m2
   have u0:=(HM3.out.ku.cell k).trans (boolArr_at (by rw [HM3.out.T.s.u];exact hk))
   have dnu:=HM3.out.kn.ne_ HM3.out.ku (by decide)
   have dnt:=HM3.out.kn.ne_ HM3.out.kt (by decide)
   have dnB:=HM3.out.kn.ne_ HM3.out.kB (by decide)
   have dut:=HM3.out.ku.ne_ HM3.out.kt (by decide)
   have duB:=HM3.out.ku.ne_ HM3.out.kB (by decide)
   have dtB:=HM3.out.kt.ne_ HM3.out.kB (by decide)
   have dgn:g≠gn:=fun e=>hgw (by rw [e];exact .inr (.inl rfl))
   clear m0 m1 m2
   go_wp2_with fail
   refine (HIX.out).mono ?_
   rintro e w4 ⟨rfl,rfl⟩
   go_wp2
   go_region
   all_goals
    have dnu':=dnu.symm
    have dnt':=dnt.symm
    have dnB':=dnB.symm
    have dut':=dut.symm
    have duB':=duB.symm
    have dtB':=dtB.symm
    have hcw:wrap64 ((cntA A:Int)+1)=(cntA A:Int)+1:=by have:=cntA_le A;unfold wrap64;omega
    go_wp2
    rw [hcw]
    go_ret2
    exact makeNew HM3.out HMY.out HLF.out.1 HLF.out.2 HP.out HX3.out
theorem arMake_any (B gn gu gt:Nat) (A:Ar) (n:Nd) (w:World) (h:ArM w B gn gu gt A) (hi:NdI n) :
  Calls Tryz.prog 204 #[.pointer (some ⟨B,0,none⟩),.agg #[.int .i64 n.var,.int .i64 n.low,.int .i64 n.high]] w (MakePost w B gn gu gt A n):=by
 by_cases h1:0≤n.var∧n.var<24
 ·by_cases h2:hasA A n.low=true∧hasA A n.high=true
  ·by_cases h3:topA A n.low≤n.var∨topA A n.high≤n.var
   ·exact make_ten B gn gu gt A n w h hi h1 h2 h3
   ·exact make_may B gn gu gt A n w h hi (mayA_of h1 h2 h3)
  ·exact make_seven B gn gu gt A n w h hi h1 h2
 ·exact make_two B gn gu gt A n w h h1
end Go.Proofs.YtojgbcmhdnappaaGreatDoor
