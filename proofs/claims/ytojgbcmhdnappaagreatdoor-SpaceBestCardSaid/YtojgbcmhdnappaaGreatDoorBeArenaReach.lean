/-
  A part of the proof: ArenaReach. Conditions: none.
-/
import Derived.Test.YtojgbcmhdnappaaGreatDoorBeArenaMake2
import Derived.Test.YtojgbcmhdnappaaGreatDoorBeOwnIs
namespace Go.Proofs.YtojgbcmhdnappaaGreatDoor
open Go.RowKit
def emptyA (R:Nat):Ar:=List.replicate R none
theorem got_empty (R:Nat) (x:Int):gotA (emptyA R) x=none:=by
 unfold gotA emptyA
 by_cases h:2≤x
 ·rw [if_pos h,List.getD_eq_getElem?_getD]
  by_cases h2:(x-2).toNat<R
  ·rw [List.getElem?_eq_getElem (by simpa using h2)];simp
  ·rw [List.getElem?_eq_none (by simpa using h2)];rfl
 ·rw [if_neg h]
theorem wf_empty (R:Nat):WfA (emptyA R):=by
 refine ⟨fun x n e=>?_,fun x n e=>?_,fun x n e=>?_,fun x y n e=>?_⟩ <;> (rw [got_empty] at e;cases e)
theorem cnt_empty (R:Nat):cntA (emptyA R)=0:=by
 unfold cntA emptyA
 rw [List.countP_replicate]
 rfl
theorem arT_empty (R:Nat):ArT hashN (emptyA R) (List.replicate R nd0) (List.replicate R false) (List.replicate (2*R+1) 0):=by
 have hu:∀ k,(List.replicate R false).getD k false=false:=fun k=>by
  rw [List.getD_eq_getElem?_getD]
  by_cases h:k<R
  ·rw [List.getElem?_eq_getElem (by simpa using h)];simp
  ·rw [List.getElem?_eq_none (by simpa using h)];rfl
 refine ⟨⟨by simp [emptyA],by simp [emptyA],fun k=>?_⟩,by simp [emptyA],⟨[],.empty _ _ (by omega),fun k=>?_,by rw [cnt_empty];rfl⟩,wf_empty R⟩
 ·have:=got_empty R ((k:Int)+2)
  rw [gotA_k] at this
  rw [this,hu,if_neg (by decide)]
 ·rw [hu];simp
def NewPost (w:World) (z:Int) (e:Ending) (w':World):Prop :=
 (¬(0≤z∧z≤4000)∧e=.returned (.tuple #[.pointer none,errV 2])∧Below w.heap.size w w') ∨
 ((0≤z∧z≤4000)∧∃ B gn gu gt,e=.returned (.tuple #[.pointer (some ⟨B,0,none⟩),.nilIface])∧ArM w' B gn gu gt (emptyA z.toNat)∧(∀ k,arB B gn gu gt k→w.heap.size≤k)∧Below w.heap.size w w')
theorem nodeInfo:(Tryz.prog.info? 214).map (fun i=>(i.zero,i.size,i.bytes))=some (some (.agg #[.int .i64 0,.int .i64 0,.int .i64 0]),3,24):=by kernel_rfl
theorem boolInfo:(Tryz.prog.info? 4).map (fun i=>(i.zero,i.size,i.bytes))=some (some (.bool false),1,1):=by kernel_rfl
theorem zero3 (j:Nat):((Value.agg #[.int .i64 0,.int .i64 0,.int .i64 0]).cells)[j % 3]! = .int .i64 0:=by
 rcases (show j % 3=0∨j % 3=1∨j % 3=2 by omega) with h | h | h <;> (rw [h];rfl)
theorem made_nodes (R:Nat):madeCells (Value.agg #[.int .i64 0,.int .i64 0,.int .i64 0]).cells (R*3)=nodeArr (List.replicate R nd0):=by
 have h1:∀ R:Nat,(List.replicate R nd0).flatMap nodeCells=List.replicate (R*3) (Value.int .i64 0):=by
  intro R
  induction R with
  | zero=>rfl
  | succ R ih =>
   rw [List.replicate_succ,List.flatMap_cons,ih,show (R+1)*3=3+R*3 by omega,←List.replicate_append_replicate]
   rfl
 apply Array.toList_inj.1
 unfold nodeArr madeCells
 rw [h1]
 apply List.ext_getElem?
 intro j
 by_cases hj:j<R*3
 ·have e:=zero3 j
  simp [hj]
  exact e
 ·simp [hj]
theorem made_bools (R:Nat):madeCells (Value.bool false).cells (R*1)=boolArr (List.replicate R false):=by
 rw [Nat.mul_one]
 apply Array.toList_inj.1
 rw [show (Value.bool false).cells=#[Value.bool false] from rfl,toList_madeCells_one]
 simp [boolArr]
theorem made_ints (R:Nat):madeCells (Value.int .i64 0).cells (R*1)=intArr (List.replicate R 0):=by
 rw [Nat.mul_one]
 apply Array.toList_inj.1
 rw [show (Value.int .i64 0).cells=#[Value.int .i64 0] from rfl,toList_madeCells_one]
 simp [intArr]
theorem mk_nodes (R:Nat) (hR:R≤1000000) (w:World):(Instr.makeSlice 210 (.int .i64 (R:Int)) (.int .i64 (R:Int))).run Tryz.prog w=.ok (.slice (some ⟨w.heap.size,0,none⟩) R R) (w.alloc (.cells (nodeArr (List.replicate R nd0)) 214)):=by
 obtain ⟨i0,hi,hz0,hz1,hz2⟩:=info_parts nodeInfo
 have h:=run_make (P:=Tryz.prog) w 210 214 i0 _ Tryz.underlying210 hi hz0 .i64 .i64 (R:Int) (R:Int) (by omega) (Int.le_refl _) (by rw [hz2];omega) (by omega)
 rw [hz1,Int.toNat_natCast,made_nodes] at h
 exact h
theorem mk_bools (R:Nat) (hR:R≤1000000) (w:World):(Instr.makeSlice 116 (.int .i64 (R:Int)) (.int .i64 (R:Int))).run Tryz.prog w=.ok (.slice (some ⟨w.heap.size,0,none⟩) R R) (w.alloc (.cells (boolArr (List.replicate R false)) 4)):=by
 obtain ⟨i0,hi,hz0,hz1,hz2⟩:=info_parts boolInfo
 have h:=run_make (P:=Tryz.prog) w 116 4 i0 _ Tryz.underlying116 hi hz0 .i64 .i64 (R:Int) (R:Int) (by omega) (Int.le_refl _) (by rw [hz2];omega) (by omega)
 rw [hz1,Int.toNat_natCast,made_bools] at h
 exact h
theorem mk_ints (R:Nat) (z:Int) (hz:z=R) (hR:R≤1000000) (w:World):(Instr.makeSlice 31 (.int .i64 z) (.int .i64 z)).run Tryz.prog w=.ok (.slice (some ⟨w.heap.size,0,none⟩) R R) (w.alloc (.cells (intArr (List.replicate R 0)) 3)):=by
 subst hz
 obtain ⟨i0,hi,hz0,hz1,hz2⟩:=info_parts intInfo
 have h:=run_make (P:=Tryz.prog) w 31 3 i0 _ Tryz.underlying31 hi hz0 .i64 .i64 (R:Int) (R:Int) (by omega) (Int.le_refl _) (by rw [hz2];omega) (by omega)
 rw [hz1,Int.toNat_natCast,made_ints] at h
 exact h
theorem newYes {w w':World} {R B gn gu gt:Nat} (hR:R≤4000) (hb:Below w.heap.size w w') (h0:w.heap.size≤B∧w.heap.size≤gn∧w.heap.size≤gu∧w.heap.size≤gt)
  (kB:Blk w' B 212 #[.slice (some ⟨gn,0,none⟩) R R,.slice (some ⟨gu,0,none⟩) R R,.slice (some ⟨gt,0,none⟩) (2*R+1) (2*R+1),.int .i64 0])
  (kn:Blk w' gn 214 (nodeArr (List.replicate R nd0))) (ku:Blk w' gu 4 (boolArr (List.replicate R false))) (kt:Blk w' gt 3 (intArr (List.replicate (2*R+1) 0))) :
  NewPost w (R:Int) (.returned (.tuple #[.pointer (some ⟨B,0,none⟩),.nilIface])) w':=by
 have hl:(emptyA R).length=R:=List.length_replicate ..
 refine .inr ⟨⟨by omega,by omega⟩,B,gn,gu,gt,rfl,⟨⟨_,_,_,arT_empty R,?_,kn,ku,kt⟩,by rw [Int.toNat_natCast,hl];exact hR⟩,fun k hk=>?_,hb⟩
 ·rw [Int.toNat_natCast,hl,cnt_empty]
  exact kB
 ·rcases hk with rfl | rfl | rfl | rfl
  ·exact h0.1
  ·exact h0.2.1
  ·exact h0.2.2.1
  ·exact h0.2.2.2
section
variable {w:World} {c1 c2 c3 c4:Array Value} {t1 t2 t3 t4:TypeId}
theorem al4_4:Blk ((((w.alloc (.cells c1 t1)).alloc (.cells c2 t2)).alloc (.cells c3 t3)).alloc (.cells c4 t4)).drew (w.heap.size+1+1+1) t4 c4:=by
 have:=(Blk.new (((w.alloc (.cells c1 t1)).alloc (.cells c2 t2)).alloc (.cells c3 t3)) t4 c4).drew
 simpa using this
theorem al4_3:Blk ((((w.alloc (.cells c1 t1)).alloc (.cells c2 t2)).alloc (.cells c3 t3)).alloc (.cells c4 t4)).drew (w.heap.size+1+1) t3 c3:=by
 have:=((Blk.new ((w.alloc (.cells c1 t1)).alloc (.cells c2 t2)) t3 c3).alloc (.cells c4 t4)).drew
 simpa using this
theorem al4_2:Blk ((((w.alloc (.cells c1 t1)).alloc (.cells c2 t2)).alloc (.cells c3 t3)).alloc (.cells c4 t4)).drew (w.heap.size+1) t2 c2:=by
 have:=(((Blk.new (w.alloc (.cells c1 t1)) t2 c2).alloc (.cells c3 t3)).alloc (.cells c4 t4)).drew
 simpa using this
theorem al4_1:Blk ((((w.alloc (.cells c1 t1)).alloc (.cells c2 t2)).alloc (.cells c3 t3)).alloc (.cells c4 t4)).drew w.heap.size t1 c1 :=
 ((((Blk.new w t1 c1).alloc (.cells c2 t2)).alloc (.cells c3 t3)).alloc (.cells c4 t4)).drew
theorem al4_b:Below w.heap.size w ((((w.alloc (.cells c1 t1)).alloc (.cells c2 t2)).alloc (.cells c3 t3)).alloc (.cells c4 t4)).drew :=
 ((((((Below.refl w.heap.size w).alloc (Nat.le_refl _) _).alloc (by simp) _).alloc (by simp;omega) _).alloc (by simp;omega) _)).drew
end
set_option maxRecDepth 100000 in
set_option maxHeartbeats 4000000 in
theorem arNew_any (z:Int) (w:World) (hz:I64 z):Calls Tryz.prog 104 #[.int .i64 z] w (NewPost w z):=by
 by_cases h1:z<0
 ·have HN:=hide (fun (w':World) (hb:Below w.heap.size w w')=>show NewPost w z (.returned (.tuple #[.pointer none,.iface 41 (.int .i64 2)])) w' from .inl ⟨by omega,by rw [errV_ne (by omega)],hb⟩)
  go_enter Tryz.func104,Tryz.ntmps104
  go_wp2
  go_ret2
  exact HN.out _ (Below.refl _ _)
 ·have h1b:decide (z<0)=false:=decide_eq_false h1
  by_cases h2:4000<z
  ·have HN:=hide (fun (w':World) (hb:Below w.heap.size w w')=>show NewPost w z (.returned (.tuple #[.pointer none,.iface 41 (.int .i64 2)])) w' from .inl ⟨by omega,by rw [errV_ne (by omega)],hb⟩)
   go_enter Tryz.func104,Tryz.ntmps104
   go_wp2
   go_ret2
   exact HN.out _ (Below.refl _ _)
  ·have h2b:decide (4000<z)=false:=decide_eq_false h2
   obtain ⟨R,rfl⟩:∃ R:Nat,z=(R:Int):=⟨z.toNat,by omega⟩
   have hm1:=mk_nodes R (by omega)
   have hm2:=mk_bools R (by omega)
   have hm3:=mk_ints (2*R+1) (2*(R:Int)+1) (by omega) (by omega)
   go_enter Tryz.func104,Tryz.ntmps104
   go_wp2
   go_region
   all_goals
    go_wp2
    go_ret2
    exact newYes (by omega) al4_b ⟨by omega,by omega,by omega,by omega⟩ al4_4 (by first | exact al4_1 | exact al4_2 | exact al4_3) (by first | exact al4_1 | exact al4_2 | exact al4_3) (by first | exact al4_1 | exact al4_2 | exact al4_3)
end Go.Proofs.YtojgbcmhdnappaaGreatDoor
namespace Go.Proofs.YtojgbcmhdnappaaGreatDoor
open Go.RowKit
def offs (seen:List Bool):Nat:=seen.countP (fun b=>!b)
theorem offs_set {seen:List Bool} {k:Nat} (hk:k<seen.length) (h:seen.getD k false=false):offs seen=offs (seen.set k true)+1:=by
 unfold offs
 induction seen generalizing k with
 | nil=>simp at hk
 | cons a l ih =>
  cases k with
  | zero =>
   have ha:a=false:=by simpa using h
   subst ha
   rw [List.set_cons_zero,List.countP_cons_of_pos (by rfl),List.countP_cons_of_neg (by simp)]
  | succ k =>
   rw [List.set_cons_succ,List.countP_cons,List.countP_cons,ih (by simpa using hk) (by simpa using h)]
   omega
theorem offs_le (seen:List Bool):offs seen≤seen.length:=List.countP_le_length
theorem node_small {A:Ar} (hw:WfA A) (hl:A.length≤4000) {x:Int} {n:Nd} (e:gotA A x=some n):I64 n.low∧I64 n.high:=by
 have hk:∀ y,hasA A y=true→I64 y:=fun y hy=>by
  unfold hasA at hy
  unfold I64
  by_cases h0:y=0
  ·omega
  ·by_cases h1:y=1
   ·omega
   ·rw [beq_eq_false_iff_ne.2 h0,beq_eq_false_iff_ne.2 h1] at hy
    simp only [Bool.false_or] at hy
    obtain ⟨m,em⟩:=Option.isSome_iff_exists.1 hy
    obtain ⟨k,ek,hk,_⟩:=gotA_is em
    omega
 exact ⟨hk _ (hw.low x n e).1,hk _ (hw.high x n e).1⟩
structure DfsI (w:World) (gs:Nat) (A:Ar) (l:List Int) (seen:List Bool) (todo:List Int) (vo:Value) (wr:World):Prop where
 bel:Below w.heap.size w wr
 ks:Blk wr gs 4 (boolArr seen)
 own:OwnI wr (gs+1) vo todo
 S:SeenI A l seen todo
 i64:∀ x∈todo,I64 x
structure OutI (w:World) (gs:Nat) (seen:List Bool) (i:Nat) (vo:Value) (wr:World):Prop where
 bel:Below w.heap.size w wr
 ks:Blk wr gs 4 (boolArr seen)
 own:OwnI wr (gs+1) vo (outL seen i)
theorem outL_le (seen:List Bool) (i:Nat):(outL seen i).length≤i:=by
 unfold outL
 rw [List.length_map]
 exact Nat.le_trans (List.length_filter_le ..) (by rw [List.length_range];exact Nat.le_refl _)
set_option maxRecDepth 100000 in
set_option maxHeartbeats 8000000 in
theorem arReach_any (B gn gu gt:Nat) (A:Ar) (Af:Option Addr) (nf cf:Nat) (l:List Int) (w:World) (h:ArM w B gn gu gt A) (hl:RowI w Af nf l) (hi:∀ x∈l,I64 x) (hn:nf≤1000000) (hnil:Af=none→nf=0) :
  Calls Tryz.prog 161 #[.pointer (some ⟨B,0,none⟩),.slice Af nf cf] w (OwnPost w (reachL A l)):=by
 obtain ⟨ns,us,tab,hx⟩:=h.x
 have hroom:=h.room
 have hmk:=mk_bools A.length (by omega)
 have HW:=hide h
 have HWF:=hide hx.T.wf
 have b0:=hx.kB.cell 0
 have HI:=hide hi
 have HLL:=Lib.hid hl.1
 have HK:=hide (Blk.new w 4 (boolArr (List.replicate A.length false)))
 have HB:=hide ((Below.refl w.heap.size w).alloc (Nat.le_refl _) (.cells (boolArr (List.replicate A.length false)) 4))
 have HCL:=hide (cloneI_any Af nf cf l _ (hl.below HB.out) hn hnil)
 have hsz:(w.alloc (.cells (boolArr (List.replicate A.length false)) 4)).heap.size=w.heap.size+1:=by simp
 clear h hx hl hi
 go_enter Tryz.func161,Tryz.ntmps161
 go_wp2_with fail
 refine (HCL.out).mono ?_
 rintro e w1 ⟨vo,rfl,ho,hb1⟩
 rw [hsz] at ho
 have HST:=hide (show DfsI w w.heap.size A l (List.replicate A.length false) l vo w1 from ⟨HB.out.trans (hb1.mono HB.out.size),HK.out.below hb1 HK.out.lt,ho,seen_start A l,HI.out⟩)
 obtain ⟨N0,HN0⟩:∃ N0,Hid (2*offs (List.replicate A.length false)+l.length=N0):=⟨_,Lib.hid rfl⟩
 have hN0:N0≤1010000:=by
  have h1:=offs_le (List.replicate A.length false)
  rw [List.length_replicate] at h1
  have h2:=HN0.out
  have h3:=HLL.out
  omega
 clear ho hb1 HCL HB HK b0 hmk hsz
 obtain ⟨gs,HGS⟩:∃ gs,Hid (w.heap.size=gs):=⟨_,Lib.hid rfl⟩
 have hgs:w.heap.size≤gs:=by rw [←HGS.out];omega
 simp only [HGS.out] at HST ⊢
 have hNAr:∀ k,arB B gn gu gt k→k<gs:=fun k hk=>by rw [←HGS.out];exact HW.out.lt hk
 go_wp2
 go_loopg [6] N0 (fun gk vo wr=>gk≤N0∧∃ seen todo,2*offs seen+todo.length=gk∧Hid (DfsI w gs A l seen todo vo wr))
 case atStart=>exact ⟨Nat.le_refl _,_,l,HN0.out,HST⟩
 case round =>
  clear HST
  obtain ⟨hgN,seen,todo,hgk,hD⟩:=hrel
  have HMr:=hide (HW.out.below hD.out.bel (fun k hk=>HW.out.lt hk))
  rcases List.eq_nil_or_concat todo with e | ⟨t,x,e⟩
  ·subst e
   obtain ⟨A0,c0,e0⟩:=hD.out.own.len
   rw [List.length_nil] at e0
   subst e0
   have hsl:=hD.out.S.len
   have HO:=hide (show OutI w gs seen 0 (.slice none 0 0) wr from ⟨hD.out.bel,hD.out.ks,ownI_nil _ _⟩)
   have HSO:=Lib.hid hD.out.S.out
   clear hD HMr
   have hr2:A.length≤4000:=hroom
   go_wp2
   go_loopw [10,63] (fun vo iv wi=>∃ i:Nat,i≤A.length∧iv=.int .i64 i∧Hid (OutI w gs seen i vo wi)) (fun _ iv _=>A.length-(intOf iv).toNat)
   case atStart=>exact ⟨0,Nat.zero_le _,rfl,HO⟩
   case round =>
    clear HO
    obtain ⟨i,hi,rfl,hO⟩:=hrel
    by_cases hlt:i<A.length
    ·have s0:=(hO.out.ks.cell i).trans (boolArr_at (by rw [hsl];exact hlt))
     have HN:=Lib.hid (outL_succ seen i)
     by_cases hs:seen.getD i false=true
     ·rw [if_pos hs] at HN
      rw [hs] at s0
      have hle:=outL_le seen i
      have HOA:=hide (hO.out.own.below ((Below.refl wr.heap.size wr).alloc (Nat.le_refl _) (.cells #[.int .i64 ((i:Int)+2)] 3)))
      have HBA:=hide (hO.out.bel.alloc hO.out.bel.size (.cells #[.int .i64 ((i:Int)+2)] 3))
      have HKA:=hide (hO.out.ks.alloc (.cells #[.int .i64 ((i:Int)+2)] 3))
      have HRA:=hide (blk_reads (zs:=[(i:Int)+2]) (Blk.new wr 3 #[.int .i64 ((i:Int)+2)]))
      have HSZ:=Lib.hid (show gs+1≤(wr.alloc (.cells #[.int .i64 ((i:Int)+2)] 3)).heap.size from HKA.out.lt)
      have HLT:=hide (World.ownsRow.lt HOA.out)
      clear hs
      go_wp2_with (at_builtin;refine appI _ rfl _ _ _ rfl (gs+1) Tryz.underlying31 _ (outL seen i) rfl HOA.out (wr.heap.size+1) (some ⟨wr.heap.size,0,none⟩) 1 1 [(i:Int)+2] rfl HRA.out rfl (by omega) HSZ.out ?_;intro v9 w9 ho9 hg9 hor9;have HO9:=hide ho9;have HB9:=hide (HBA.out.grown hg9 HBA.out.size (fun k hk=>Nat.le_trans (by omega) (HLT.out k hk).1));have HK9:=hide (HKA.out.grown hg9 (fun e=>by have:=(HLT.out gs e.symm).1;omega));clear ho9 hg9 hor9)
      go_roundw
      case rel=>exact ⟨i+1,by omega,by go_num,hide ⟨HB9.out,HK9.out,by rw [HN.out];exact HO9.out⟩⟩
      case measure=>simp [intOf];omega
     ·have hs':=Bool.eq_false_iff.2 hs
      rw [if_neg hs,List.append_nil] at HN
      rw [hs'] at s0
      clear hs hs'
      go_wp2
      go_roundw
      case rel=>exact ⟨i+1,by omega,by go_num,hide ⟨hO.out.bel,hO.out.ks,by rw [HN.out];exact hO.out.own⟩⟩
      case measure=>simp [intOf];omega
    ·obtain rfl:i=A.length:=by omega
     go_wp2
     go_ret
     exact ⟨_,rfl,by rw [←HSO.out];exact hO.out.own.mono (by omega),hO.out.bel⟩
  ·rw [List.concat_eq_append] at e
   subst e
   have hlen:(t++[x]).length=t.length+1:=by simp
   obtain ⟨g,cap,cur,e0,hg,hkg,hcap,hcell⟩:=hD.out.own.form (by omega)
   subst e0
   have hxI:I64 x:=hD.out.i64 x (by simp)
   have t0:=(hkg.cell t.length).trans (hcell t.length (by omega))
   rw [show (t++[x]).getD t.length 0=x by simp [List.getD_eq_getElem?_getD]] at t0
   have HPOP:=hide hD.out.own.pop
   have HTI:=hide (show ∀ y∈t,I64 y from fun y hy=>hD.out.i64 y (List.mem_append_left _ hy))
   rw [hlen] at hcap ⊢
   have hgk2:2*offs seen+(t.length+1)=gk:=by rw [←hlen];exact hgk
   have hsl:=hD.out.S.len
   cases hgx:gotA A x with
   | none =>
    have HG:=hide (arGet_none B gn gu gt A x wr HMr.out hxI hgx)
    have HS2:=hide (hD.out.S.skip (fun n e=>by rw [hgx] at e;cases e))
    have HBE:=hide hD.out.bel
    have HKS:=hide hD.out.ks
    clear hD hkg hcell hgx hgk
    go_wp2_with fail
    refine (HG.out).mono ?_
    rintro e w5 ⟨rfl,hb5⟩
    have HB5:=hide (hb5.alloc hb5.size (.cells #[.int .i64 0,.int .i64 0,.int .i64 0] 214))
    clear hb5
    go_wp2
    go_roundg (gk-1)
    case rel=>exact ⟨by omega,seen,t,by omega,hide ⟨HBE.out.trans (HB5.out.mono HBE.out.size),HKS.out.below HB5.out HKS.out.lt,HPOP.out.below HB5.out,HS2.out,HTI.out⟩⟩
    case measure=>omega
   | some n =>
    have HG:=hide (arGet_some B gn gu gt A x n wr HMr.out hxI hgx)
    obtain ⟨k,rfl,hk,_⟩:=gotA_is hgx
    have hk5:(k:Int)+2-2=(k:Int):=by omega
    have hkI:(k:Int)<(A.length:Int):=by omega
    have hkn:((k:Int)+2-2).toNat=k:=by omega
    have s0:=(hD.out.ks.cell k).trans (boolArr_at (by rw [hsl];exact hk))
    by_cases hs:seen.getD k false=true
    ·have HS2:=hide (hD.out.S.skip (fun n _=>by rw [hkn];exact hs))
     rw [hs] at s0
     have HBE:=hide hD.out.bel
     have HKS:=hide hD.out.ks
     have hlt:=hD.out.ks.lt
     clear hD hkg hcell hgx hgk hs
     go_wp2_with fail
     refine (HG.out).mono ?_
     rintro e w5 ⟨rfl,hb5⟩
     have HB5:=hide (hb5.alloc hb5.size (.cells #[.int .i64 n.var,.int .i64 n.low,.int .i64 n.high] 214))
     have s5:=(HB5.out.cell (p:=⟨gs,k,none⟩) hlt).trans s0
     clear hb5
     go_wp2
     go_roundg (gk-1)
     case rel=>exact ⟨by omega,seen,t,by omega,hide ⟨HBE.out.trans (HB5.out.mono HBE.out.size),HKS.out.below HB5.out HKS.out.lt,HPOP.out.below HB5.out,HS2.out,HTI.out⟩⟩
     case measure=>omega
    ·have hs':=Bool.eq_false_iff.2 hs
     rw [hs'] at s0
     have HS2:=hide (hD.out.S.mark hgx)
     rw [hkn] at HS2
     have HOF:=Lib.hid (offs_set (by rw [hsl];exact hk) hs')
     obtain ⟨il,ih⟩:=node_small HWF.out hroom hgx
     have HTI2:=hide (show ∀ y∈t++[n.low,n.high],I64 y from fun y hy=>by
      rcases List.mem_append.1 hy with hy | hy
      ·exact HTI.out y hy
      ·simp only [List.mem_cons,List.not_mem_nil,or_false] at hy
       rcases hy with e | e
       ·rw [e];exact il
       ·rw [e];exact ih)
     have HBE:=hide hD.out.bel
     have HKS:=hide hD.out.ks
     have hlt:=hD.out.ks.lt
     clear hD hkg hcell hgx hgk hs hs' HTI
     go_wp2_with fail
     refine (HG.out).mono ?_
     rintro e w5 ⟨rfl,hb5⟩
     have f5:=(HKS.out.below hb5 hlt).frozen k
     have s5:=(hb5.cell (p:=⟨gs,k,none⟩) hlt).trans s0
     have l5:gs<w5.heap.size:=Nat.lt_of_lt_of_le hlt hb5.size
     have hks:=(HKS.out.below hb5 hlt).set_ k (.bool true)
     rw [boolArr_set] at hks
     have hgr:=only_setCell (p:=⟨gs,k,none⟩) (World.grownBy.refl w5 (some gs)) (.inl rfl) (.bool true)
     have hps:=(HPOP.out.below hb5).kept hgr (.inr (fun e=>by have:=(World.ownsRow.lt HPOP.out gs e).1;omega))
     have hbs:Below w.heap.size w (w5.setCell ⟨gs,k,none⟩ (.bool true)):=(HBE.out.trans (hb5.mono HBE.out.size)).setCell (p:=⟨gs,k,none⟩) (by omega) _
     have hal:Below (w5.setCell ⟨gs,k,none⟩ (.bool true)).heap.size (w5.setCell ⟨gs,k,none⟩ (.bool true)) (((w5.setCell ⟨gs,k,none⟩ (.bool true)).alloc (.cells #[.int .i64 n.var,.int .i64 n.low,.int .i64 n.high] 214)).alloc (.cells #[.int .i64 n.low,.int .i64 n.high] 3)) :=
      ((Below.refl _ _).alloc (Nat.le_refl _) _).alloc (by simp) _
     have HKA:=hide (hks.below hal hks.lt)
     have HOA:=hide (hps.below hal)
     have HBA:=hide (hbs.trans (hal.mono hbs.size))
     have hz6:(w5.setCell ⟨gs,k,none⟩ (.bool true)).heap.size=w5.heap.size:=by simp [World.setCell]
     have hra:=blk_reads (zs:=[n.low,n.high]) (Blk.new ((w5.setCell ⟨gs,k,none⟩ (.bool true)).alloc (.cells #[.int .i64 n.var,.int .i64 n.low,.int .i64 n.high] 214)) 3 #[.int .i64 n.low,.int .i64 n.high])
     rw [show ((w5.setCell ⟨gs,k,none⟩ (.bool true)).alloc (.cells #[.int .i64 n.var,.int .i64 n.low,.int .i64 n.high] 214)).heap.size=w5.heap.size+1 by simp [World.setCell]] at hra
     have HRA:=hide hra
     have HLT:=hide (World.ownsRow.lt HOA.out)
     have hoff:=offs_le seen
     clear hb5 hks hgr hps hbs hal hra
     go_wp2_with (at_builtin;refine appI _ rfl _ _ _ rfl (gs+1) Tryz.underlying31 _ t rfl HOA.out (w5.heap.size+1+1) (some ⟨w5.heap.size+1,0,none⟩) 2 2 [n.low,n.high] rfl HRA.out rfl (by omega) (Nat.le_trans HKA.out.lt (Nat.le_refl _)) ?_;intro v9 w9 ho9 hg9 hor9;have HO9:=hide ho9;have HB9:=hide (HBA.out.grown hg9 HBA.out.size (fun k hk=>Nat.le_trans (by omega) (HLT.out k hk).1));have HK9:=hide (HKA.out.grown hg9 (fun e=>by have:=(HLT.out gs e.symm).1;omega));clear ho9 hg9 hor9)
     go_roundg (gk-1)
     case rel=>exact ⟨by omega,_,_,by have:=HOF.out;simp;omega,hide ⟨HB9.out,HK9.out,HO9.out,HS2.out,HTI2.out⟩⟩
     case measure=>omega
end Go.Proofs.YtojgbcmhdnappaaGreatDoor
