/-
  A part of the proof: SpcFind, RefInst, RefCheap. Conditions: none.
-/
import Derived.Test.YtojgbcmhdnappaaGreatDoorBeSpcLeast
import Derived.Test.YtojgbcmhdnappaaGreatDoorBeSpcCls
import Derived.Test.YtojgbcmhdnappaaGreatDoorBeRowK
import Derived.Test.YtojgbcmhdnappaaGreatDoorBeSpcOf
import Derived.Laws.Bits64b
namespace Go.Proofs.YtojgbcmhdnappaaGreatDoor
open Go.RowKit Go.Maps
set_option maxRecDepth 100000
def BestP (o:Option (Nat×Nat)) (w:World) (e:Ending) (w':World):Prop :=
 e=.returned (.tuple #[.int .u64 (((o.getD (0,0)).2:Nat):Int),if o.isSome then .nilIface else .iface 41 (.int .i64 8)])∧Below w.heap.size w w'
def CostB (w:World) (vn fc:Nat) (lb:Array Value) (c:Nat→Bool→Nat):Prop:=∀ (v:Nat) (b:Bool) (W:World),Below w.heap.size w W→v<vn →
 Calls Tryz.prog fc (#[.int .i64 (v:Int),.bool b]++lb) W (fun e W'=>e=.returned (.int .i64 (c v b:Int))∧Below W.heap.size W W')
theorem CostB.at_ {w W:World} {vn fc gd:Nat} {lb:Array Value} {c:Nat→Bool→Nat} (h:CostB w vn fc lb c) (hb:Below w.heap.size w W) (hg:w.heap.size≤gd):CostC W gd vn fc lb c:=fun v b W' hf hv =>
 h v b W' (hb.trans (hf.to_below hb.size (fun k hk e=>by omega))) hv
def WayIs (o:Option (Nat×Nat)) (cost vals:Nat) (ok:Bool):Prop:=o=if ok then some (cost,vals) else none
structure FndI (w:World) (o:Option (Nat×Nat)) (g6:Nat) (wc:World):Prop where
 is:∃ cost vals ok,WayIs o cost vals ok∧Blk wc g6 224 #[.int .i64 (cost:Int),.int .u64 (vals:Int),.bool ok]
 bel:Below w.heap.size w wc
theorem fnd_alloc {w wt:World} {o:Option (Nat×Nat)} {cost vals:Nat} {ok:Bool} (ho:WayIs o cost vals ok) (hb:Below w.heap.size w wt):FndI w o wt.heap.size (wt.alloc (.cells #[.int .i64 (cost:Int),.int .u64 (vals:Int),.bool ok] 224)) :=
 ⟨⟨cost,vals,ok,ho,Blk.new wt _ _⟩,hb.alloc hb.size _⟩
theorem fnd_set {w wt:World} {o:Option (Nat×Nat)} {cost vals g:Nat} {ok:Bool} (hx:Blk wt g 224 #[.int .i64 0,.int .u64 0,.bool false]) (hg:w.heap.size≤g) (ho:WayIs o cost vals ok) (hb:Below w.heap.size w wt) :
  FndI w o g (((wt.setCell ⟨g,0,none⟩ (.int .i64 (cost:Int))).setCell ⟨g,1,none⟩ (.int .u64 (vals:Int))).setCell ⟨g,2,none⟩ (.bool ok)) :=
 ⟨⟨cost,vals,ok,ho,blk_way hx _ _ _⟩,below_set (below_set (below_set hb hg _) hg _) hg _⟩
theorem blk_2nd (w:World) (o:Obj) {t:TypeId} {cs:Array Value}:Blk ((w.alloc o).alloc (.cells cs t)) (w.heap.size+1) t cs:=by
 have:=Blk.new (w.alloc o) t cs
 simpa using this
theorem map_2nd (w:World) (o m:Obj):((w.alloc o).alloc m).heap[w.heap.size+1]?=some m:=by
 have h:=heap_alloc_new (w.alloc o) m
 rwa [show (w.alloc o).heap.size=w.heap.size+1 by simp] at h
theorem mapG_new {kt:TypeId} {α:Type} {lit:α→Lit} {ok:α→Prop} {W:World} {gd:Nat} (e:W.heap[gd]?=some (.map #[] 0)):MapG kt lit ok W gd (fun _=>none) 0:=by
 obtain ⟨D,⟨es,ck,h1,h2⟩,h3⟩:=mapG_made (kt:=kt) (lit:=lit) (ok:=ok) W
 have h4:=(heap_alloc_new W (.map #[] 0)).symm.trans h1
 injection h4 with h4
 injection h4 with h5 h6
 subst h5 h6
 exact ⟨D,⟨_,_,e,h2⟩,h3⟩
set_option maxHeartbeats 8000000 in
theorem find_any (P n base fc:Nat) (lb:Array Value) (c:Nat→Bool→Nat) (eg:∀ args w,(callFunc fc args).run Tryz.prog w=.ok (.enter fc args) w) (hcc:∀ v b,c v b≤1000000) (cs:List (List Int)) (w:World) (h:SpcO w base P n cs) (hc:CostB w n fc lb c) :
  Calls Tryz.prog 67 #[.pointer (some ⟨P,0,none⟩),.func (.func fc) #[] lb] w (BestP (wayF c n 0 (allV cs)) w):=by
 obtain ⟨S,B,gn,gu,gt,gc,all,A,m,hkP,hsp,_⟩:=h.is
 have hn8:n≤8:=by have:=hsp.sp.v6.2;omega
 have hden:den A all=allV cs:=funext hsp.den
 have hpn:2 ^ n≤2 ^ 8:=Nat.pow_le_pow_right (by decide) hn8
 have hp8:(2:Nat) ^ 8=256:=by decide
 obtain ⟨o,HOO⟩:∃ o,Hid (wayF c n 0 (allV cs)=o):=⟨_,Lib.hid rfl⟩
 rw [HOO.out]
 have HLS:=Lib.hid (fun (W:World) (gd:Nat) (hb:Below w.heap.size w W) (hg:w.heap.size≤gd) (hm:W.heap[gd]?=some (.map #[] 0)) =>
  (least_all S B gn gu gt gc gd n fc lb A c eg hsp.sp.toN hn8 hcc W (hide (hc.at_ hb hg)) n 0 all 0 (fun _=>none) W (by omega) (hsp.sp.sp.top0 all) hsp.has ⟨(hsp.sp.below hb).toB,mapG_new hm,fun _ _ _ _ _ e=>by cases e⟩ (by omega) (Fr.refl _ _)).mono fun e w' hp =>
   show ∃ (cost vals:Nat) (ok:Bool),e=.returned (.agg #[.int .i64 (cost:Int),.int .u64 (vals:Int),.bool ok])∧WayIs o cost vals ok∧Below w.heap.size w w'∧Fr (fun j=>j=gd) W w' from by
    obtain ⟨cost,vals,ok,f',m',rfl,hz,_,_,hf⟩:=hp
    exact ⟨cost,vals,ok,rfl,by rw [←HOO.out,←hden];exact hz.is,hb.trans (hf.to_below hb.size (fun k hk e=>by omega)),hf⟩)
 have p0:=hkP.cell 0
 have p1:=hkP.cell 1
 have pl:=hkP.lt
 have hmm:=@run_makeMap Tryz.prog
 clear h hc hkP hsp hpn hp8 hden
 go_enter Tryz.func67,Tryz.ntmps67
 go_upto_region 3 with fail
 go_cut [6] from 7 (fun s6 wc=>∃ g6,s6=.pointer (some ⟨g6,0,none⟩)∧Hid (FndI w o g6 wc))
 case first=>as_aux_lemma =>
  have HKP:=Lib.hid (fun (W:World) (hb:Below w.heap.size w W)=>show W.cell? ⟨P,0,none⟩=some (.pointer (some ⟨S,0,none⟩))∧W.cell? ⟨P,1,none⟩=some (.int .i64 all) from ⟨(hb.cell (p:=⟨P,0,none⟩) pl).trans p0,(hb.cell (p:=⟨P,1,none⟩) pl).trans p1⟩)
  go_region_held3 (fun w'=>w'.cell? ⟨P,0,none⟩=some (.pointer (some ⟨S,0,none⟩))∧w'.cell? ⟨P,1,none⟩=some (.int .i64 all))
   (first | assumption | exact ⟨p0,p1⟩ | (refine HKP.out _ ?_;(repeat (first | exact Below.refl _ _ | exact (Below.refl _ _).drew | exact hbt | refine below_al ?_ _ | refine below_dr ?_ | refine below_set ?_ (by first | exact Nat.le_refl _ | omega | exact hbt.size) _));done))
   (first | (go_at_call 118;refine (HLS.out _ _ ?_ ?_ ?_).mono ?_;(focus ((repeat (first | exact Below.refl _ _ | exact (Below.refl _ _).drew | refine below_al ?_ _ | refine below_dr ?_));done));(focus (first | exact Nat.le_refl _ | simp));(focus (first | exact heap_alloc_new _ _ | exact (Below.heap_alloc _ _ _ (by simp)).trans (heap_alloc_new _ _) | exact map_2nd w _ _;done));rintro e wt ⟨cost,vals,ok,rfl,ho,hbt,hft⟩;(first | have hx:Blk wt (w.heap.size+1) 224 #[.int .i64 0,.int .u64 0,.bool false]:=Blk.fr (Blk.drew (blk_2nd w _)) hft (fun e=>absurd (show w.heap.size+1=w.heap.size from e) (by omega)) | have hx:Blk wt w.heap.size 224 #[.int .i64 0,.int .u64 0,.bool false]:=Blk.fr (Blk.drew (Blk.alloc (Blk.new w _ _) _)) hft (fun e=>absurd (show w.heap.size=w.heap.size+1 from e) (by omega)) | have hx:=Blk.new wt 224 #[.int .i64 0,.int .u64 0,.bool false]);(first | (have x0:=Blk.cell hx 0;have x1:=Blk.cell hx 1;have x2:=Blk.cell hx 2;have y0:=Blk.frozen hx 0;have y1:=Blk.frozen hx 1;have y2:=Blk.frozen hx 2) | skip)))
  all_goals
   first
    | (have HH:=hide (fnd_set hx (by omega) ho hbt);clear ho hbt hft hx;go_wp2;go_meet;case rel=>exact ⟨_,rfl,HH⟩)
    | (have HH:=hide (fnd_set hx hbt.size ho (hbt.alloc hbt.size _));clear ho hbt hft hx;go_wp2;go_meet;case rel=>exact ⟨_,rfl,HH⟩)
    | (have HH:=hide (fnd_alloc ho hbt);clear ho hbt hft;go_wp2;go_meet;case rel=>exact ⟨_,rfl,HH⟩)
 case rest =>
  obtain ⟨g6,rfl,HF⟩:=hcut
  obtain ⟨cost,vals,ok,ho,hk⟩:=HF.out.is
  have k0:=hk.cell 0
  have k1:=hk.cell 1
  have k2:=hk.cell 2
  have HO:=Lib.hid ho
  clear hk ho HLS p0 p1
  cases ok with
  | true =>
   go_wp2_with fail
   go_ret2
   exact ⟨by rw [HO.out];rfl,HF.out.bel⟩
  | false =>
   go_wp2_with fail
   go_ret2
   exact ⟨by rw [HO.out];rfl,HF.out.bel⟩
end Go.Proofs.YtojgbcmhdnappaaGreatDoor
namespace Go.Proofs.YtojgbcmhdnappaaGreatDoor
open Go.RowKit
set_option maxRecDepth 100000
def elU:ElK Nat:=⟨61,1,fun x=>[.int .u64 (x:Int)],by decide,fun _=>rfl,fun _ u hu=>by rw [List.mem_singleton.1 hu];rfl⟩
theorem uintInfoU:(Tryz.prog.info? 61).map (fun i=>(i.zero,i.size,i.bytes))=some (some (.int .u64 0),1,8):=by kernel_rfl
theorem bits_and_i64_nat (a b:Nat) (ha:a<4611686018427387904) (hb:b<4611686018427387904):bits .and .i64 (a:Int) (b:Int)=((a &&& b:Nat):Int):=by
 have hx:a &&& b≤a:=Nat.and_le_left
 have h1:(BitVec.ofInt 64 (a:Int)).toNat=a:=by
  rw [BitVec.ofInt_natCast,BitVec.toNat_ofNat];exact Nat.mod_eq_of_lt (by omega)
 have h2:(BitVec.ofInt 64 (b:Int)).toNat=b:=by
  rw [BitVec.ofInt_natCast,BitVec.toNat_ofNat];exact Nat.mod_eq_of_lt (by omega)
 show IntKind.i64.wrap ((BitVec.ofInt 64 (a:Int) &&& BitVec.ofInt 64 (b:Int)).toNat:Int)=_
 rw [BitVec.toNat_and,h1,h2,IntKind.wrap_i64]
 omega
theorem shr_bitI (k m:Nat) (hk:k<4611686018427387904):(bits BinOp.and IntKind.i64 ((k:Int) / 2 ^ m) 1==1)=k.testBit m:=by
 have e:((k:Int) / 2 ^ m)=((k / 2 ^ m:Nat):Int):=by norm_cast
 have hl:k / 2 ^ m≤k:=Nat.div_le_self _ _
 rw [e,show (1:Int)=((1:Nat):Int) from rfl,bits_and_i64_nat _ _ (by omega) (by omega),Nat.and_one_is_mod,Nat.testBit_eq_decide_div_mod_eq]
 have h1:k / 2 ^ m % 2=0∨k / 2 ^ m % 2=1:=by omega
 rcases h1 with h1 | h1 <;> rw [h1] <;> rfl
theorem revB_step {n v:Nat} (k:Nat) (h:v<n):revB (v+1) (k >>> (n-(v+1)))=revB v (k >>> (n-v))+(if k.testBit (n-1-v)=true then 2 ^ v else 0):=by
 have e:n-v=(n-(v+1))+1:=by omega
 have e2:n-1-v=n-(v+1):=by omega
 rw [revB,e,Nat.shiftRight_succ,e2,Nat.testBit_eq_decide_div_mod_eq,Nat.shiftRight_eq_div_pow]
 congr 1
 by_cases hb:k / 2 ^ (n-(v+1)) % 2=1
 ·rw [if_pos hb,if_pos (decide_eq_true hb)]
 ·rw [if_neg hb,if_neg (by rw [decide_eq_false hb];decide)]
def InstP (ls:List (List Int)) (n:Nat) (w:World) (e:Ending) (w':World):Prop:=∃ v,e=.returned v∧OwnK elU w' w.heap.size v (instR (fun x=>allB (x:Int) ls) n (2 ^ n))∧Below w.heap.size w w'
set_option maxHeartbeats 4000000 in
theorem refInstalls_any (n:Nat) (A:Option Addr) (nc cc:Nat) (ls:List (List Int)) (w:World) (h:Cls w w.heap.size A nc ls) (hr:∀ k,k<nc→rightB (ls.getD k [])=true) (hn:n≤20) :
  Calls Tryz.prog 15 #[.int .i64 (n:Int),.slice A nc cc] w (InstP ls n w):=by
 have HC:=hide h
 have HR:=Lib.hid hr
 have hp20:2 ^ n≤2 ^ 20:=Nat.pow_le_pow_right (by decide) hn
 have hp1:1≤2 ^ n:=Nat.one_le_two_pow
 obtain ⟨T,HT⟩:∃ T,Hid (instR (fun x=>allB (x:Int) ls) n (2 ^ n)=T):=⟨_,Lib.hid rfl⟩
 unfold InstP
 rw [HT.out]
 clear h hr
 go_enter Tryz.func15,Tryz.ntmps15
 have hs0:(2:Int) ^ n=((2 ^ n:Nat):Int):=by norm_cast
 have hs1:wrap64 ((2:Int) ^ n)=((2 ^ n:Nat):Int):=by rw [hs0];unfold wrap64;omega
 have hs2:wrap64 (((2 ^ n:Nat):Int)-1)=((2 ^ n:Nat):Int)-1:=by unfold wrap64;omega
 clear hs0
 have HS:=Lib.hid hs1
 have HS2:=Lib.hid hs2
 generalize hP:2 ^ n=P at HT hs1 hs2 hp20 hp1 HS HS2
 have HPn:=Lib.hid hP
 clear hP
 go_wp2_with fail
 go_loopw [5,6] (fun ov kv wr=>∃ (r:Nat) (out:List Nat),r≤P∧kv=.int .i64 ((r:Int)-1)∧Hid (OwnK elU wr w.heap.size ov out)∧Hid (out++instR (fun x=>allB (x:Int) ls) n r=T)∧Hid (Below w.heap.size w wr)∧out.length+r≤P) (fun _ kv _=>(intOf kv+1).toNat)
 case atStart=>exact ⟨P,[],Nat.le_refl _,rfl,hide (ownK_nil _ _ _),HT,hide (Below.refl _ _),by simp⟩
 case round =>
  obtain ⟨r,out,hr',rfl,HO,HI,HB,hol⟩:=hrel
  by_cases hr0:1≤r
  ·obtain ⟨k,rfl⟩:∃ k,r=k+1:=⟨r-1,by omega⟩
   rw [show (((k+1:Nat):Int)-1)=(k:Int) by omega]
   have hk0:(0:Int)≤(k:Int):=by omega
   clear hs1 hs2
   go_wp2_with fail
   go_loopw [7,17] (fun xv vv wj=>∃ v:Nat,v≤n∧vv=.int .i64 v∧xv=.int .u64 ((revB v (k >>> (n-v)):Nat):Int)∧wj=wr) (fun _ vv _=>n-(intOf vv).toNat)
   case atStart=>exact ⟨0,Nat.zero_le _,rfl,rfl,rfl⟩
   case round =>
    obtain ⟨v,hv,rfl,rfl,rfl⟩:=hrel
    by_cases hvn:v<n
    ·have hvz:(v:Int)<(n:Int):=by omega
     have hw1:wrap64 ((n:Int)-1)=(n:Int)-1:=by unfold wrap64;omega
     have hw2:wrap64 ((n:Int)-1-(v:Int))=((n-1-v:Nat):Int):=by unfold wrap64;omega
     have hmn:min (n-1-v) 64=n-1-v:=by omega
     have hsb:=shr_bitI k (n-1-v) (by omega)
     have HST:=Lib.hid (revB_step k hvn)
     have hrl:=revB_lt v (k >>> (n-v))
     have hp2:2 ^ v≤2 ^ 20:=Nat.pow_le_pow_right (by decide) (by omega)
     have HOR:=Lib.hid (show bits BinOp.or IntKind.u64 ((revB v (k >>> (n-v)):Nat):Int) (IntKind.u64.wrap ((2:Int) ^ v))=((revB v (k >>> (n-v))+2 ^ v:Nat):Int) by
      have e:IntKind.u64.wrap ((2:Int) ^ v)=((2 ^ v:Nat):Int):=by
       rw [show (2:Int) ^ v=((2 ^ v:Nat):Int) by norm_cast,IntKind.wrap_u64];omega
      rw [e,bits_or_u64_nat _ _ (by omega) (by omega)]
      congr 1
      refine Nat.eq_of_testBit_eq fun j=>?_
      rw [Nat.testBit_or,Nat.testBit_two_pow,bit_add hrl,Bool.or_comm]
      congr 1
      exact decide_eq_decide.2 eq_comm)
     have HHB:=Lib.hid hsb
     clear hsb hrl hp2
     cases hbt:k.testBit (n-1-v) with
     | false =>
      have hsb:=HHB.out
      rw [hbt] at hsb
      have hstp:=HST.out
      rw [if_neg (by rw [hbt];decide)] at hstp
      rw [Nat.add_zero] at hstp
      have HSP:=Lib.hid hstp
      clear hstp hbt
      go_wp2_with fail
      go_round
      case rel=>exact ⟨v+1,by omega,by go_num,by rw [HSP.out,Nat.add_zero],trivial⟩
      case measure=>simp [intOf];omega
     | true =>
      have hsb:=HHB.out
      rw [hbt] at hsb
      have hstp:=HST.out
      rw [if_pos hbt] at hstp
      have HSP:=Lib.hid hstp
      clear hstp hbt
      go_wp2_with fail
      go_round
      case rel=>exact ⟨v+1,by omega,by go_num,by rw [HSP.out,HOR.out],trivial⟩
      case measure=>simp [intOf];omega
    ·have hvz:¬(v:Int)<(n:Int):=by omega
     have hvn2:n=v:=by omega
     subst hvn2
     rw [show k >>> (n-n)=k by rw [Nat.sub_self];rfl]
     have hrl:=revB_lt n k
     have hpp:=HPn.out
     have HAH:=hide (refAllHold_any ((revB n k:Nat):Int) A nc cc ls wr ((HC.out.below HB.out).more HB.out.size) HR.out (by omega) (by omega))
     have hw3:wrap64 ((k:Int)-1)=(k:Int)-1:=by unfold wrap64;omega
     have hin:instR (fun x=>allB (x:Int) ls) n (k+1)=(if allB ((revB n k:Nat):Int) ls then [revB n k] else [])++instR (fun x=>allB (x:Int) ls) n k:=rfl
     have HIN:=Lib.hid hin
     clear hin
     generalize hq:revB n k=q at HAH HIN hrl
     clear hq hpp
     go_wp2_with fail
     refine HAH.out.mono ?_
     rintro e w1 ⟨rfl,rfl⟩
     clear HAH
     cases ha:allB (q:Int) ls with
     | false =>
      have HI2:=Lib.hid (show out++instR (fun x=>allB (x:Int) ls) n k=T by rw [←HI.out,HIN.out,ha];rfl)
      clear ha HIN HI
      go_wp2_with fail
      go_round
      case rel=>exact ⟨k,out,by omega,by go_num,HO,HI2,HB,by omega⟩
      case measure=>simp [intOf]
     | true =>
      have HI2:=Lib.hid (show (out++[q])++instR (fun x=>allB (x:Int) ls) n k=T by rw [←HI.out,HIN.out,ha,List.append_assoc];rfl)
      clear ha HIN HI
      have hal:=(Below.refl wr.heap.size wr).alloc (Nat.le_refl _) (.cells #[.int .u64 (q:Int)] 61)
      have HOA:=hide (HO.out.below hal)
      have HBA:=hide (HB.out.trans (hal.mono HB.out.size))
      have HKA:=hide (Blk.new wr 61 #[.int .u64 (q:Int)])
      have hol2:out.length≤90000000:=by omega
      have HOL:=Lib.hid hol2
      clear hal hol2
      go_wp2_with (at_builtin;refine appK1 elU _ uintInfoU rfl (by decide) rfl _ _ _ rfl w.heap.size Tryz.underlying35 _ out rfl HOA.out wr.heap.size 1 q rfl HKA.out HOL.out HBA.out.size ?_;intro v9 w9 ho9 hg9 _;have HO9:=hide ho9;have HB9:=hide (HBA.out.grown hg9 HBA.out.size (fun k hk=>(HOA.out.lt k hk).1));clear ho9 hg9)
      go_round
      case rel=>exact ⟨k,out++[q],by omega,by go_num,HO9,HI2,HB9,by simp;omega⟩
      case measure=>simp [intOf]
  ·have hrz:r=0:=by omega
   subst hrz
   have hT:out=T:=by have:=HI.out;rw [instR,List.append_nil] at this;exact this
   subst hT
   rw [show (((0:Nat):Int)-1)=(-1:Int) from rfl]
   go_wp2_with fail
   exact bodyPost_ret (v:=u5) (by simp [results,Tryz.results15,go_sem]) rfl ⟨u5,rfl,HO.out,HB.out⟩
end Go.Proofs.YtojgbcmhdnappaaGreatDoor
namespace Go.Proofs.YtojgbcmhdnappaaGreatDoor
open Go.RowKit
set_option maxRecDepth 100000
theorem cheap_snoc (C:Nat→Nat) (l:List Nat) (x:Nat):cheapF C (l++[x])=pickF (cheapF C l) (some (C x,x)):=by
 unfold cheapF
 rw [List.foldl_append]
 rfl
theorem cst_le {c:Nat→Bool→Nat} (hc:∀ v b,c v b≤1000000) (x:Nat):∀ n,cstF c n x≤n*1000000
 | 0=>Nat.zero_le _
 | n+1=>by
  have:=cst_le hc x n
  have:=hc n (x.testBit n)
  rw [cstF,Nat.succ_mul]
  omega
def chV (o:Option (Nat×Nat)):Nat×Nat:=o.getD (0,0)
def ChI (w:World) (c:Nat→Bool→Nat) (n:Nat) (l:List Nat) (i:Nat) (bv sv av:Value) (wr:World):Prop :=
 ∃ o:Option (Nat×Nat),bv=.int .i64 (((chV o).1:Nat):Int)∧sv=.bool o.isSome∧av=.int .u64 (((chV o).2:Nat):Int)∧cheapF (cstF c n) (l.take i)=o∧Below w.heap.size w wr
theorem shrB (v x:Nat) (hv:v<18446744073709551616):(bits BinOp.and IntKind.u64 ((v:Int) / 2 ^ x) 1==1)=v.testBit x:=by
 rw [shrU v x hv]
 cases v.testBit x <;> rfl
def CheapP (o:Option (Nat×Nat)) (w:World) (e:Ending) (w':World):Prop:=e=.returned (.tuple #[.int .u64 (((chV o).2:Nat):Int),.bool o.isSome])∧Below w.heap.size w w'
set_option maxHeartbeats 8000000 in
theorem refCheapest_any (n base fc:Nat) (lb:Array Value) (c:Nat→Bool→Nat) (eg:∀ args w,(callFunc fc args).run Tryz.prog w=.ok (.enter fc args) w) (hcc:∀ v b,c v b≤1000000) (v:Value) (l:List Nat) (w:World) (h:OwnK elU w base v l) (hn:n≤8) (hl:∀ x∈l,x<2 ^ n) (hll:l.length≤1000000) (hc:CostB w n fc lb c) :
  Calls Tryz.prog 23 #[v,.int .i64 (n:Int),.func (.func fc) #[] lb] w (CheapP (cheapF (cstF c n) l) w):=by
 have HO:=hide h
 obtain ⟨Av,cv,rfl,_⟩:=h.len
 have HC:=hide hc
 have HX:=Lib.hid (fun (i:Nat) (hi:i<l.length)=>show l[i]<256 from Nat.lt_of_lt_of_le (hl _ (List.getElem_mem hi)) (Nat.pow_le_pow_right (n:=2) (by decide) hn))
 have HCL:=Lib.hid (fun x j=>cst_le hcc x j)
 have HCC:=Lib.hid hcc
 have HI0:=hide (show ChI w c n l 0 (.int .i64 0) (.bool false) (.int .u64 0) w from ⟨none,rfl,rfl,rfl,rfl,Below.refl _ _⟩)
 clear h hc hl hcc
 go_enter Tryz.func23,Tryz.ntmps23
 go_wp2_with fail
 go_loopw [8,9,10,17] (fun bv sv av iv wr=>∃ i:Nat,i≤l.length∧iv=.int .i64 i∧Hid (ChI w c n l i bv sv av wr)) (fun _ _ _ iv _=>l.length-(intOf iv).toNat)
 case atStart=>exact ⟨0,Nat.zero_le _,rfl,HI0⟩
 case round =>
  clear HI0
  obtain ⟨i,hi,rfl,HI⟩:=hrel
  obtain ⟨o,rfl,rfl,rfl,ho,hb⟩:=HI.out
  have HOO:=Lib.hid ho
  have HB:=hide hb
  clear ho hb HI
  by_cases hlt:i<l.length
  ·have hltz:(i:Int)<(l.length:Int):=by omega
   obtain ⟨gq,rfl,hrow⟩:=(HO.out.below HB.out).rowAt hlt
   have y0:wr.cell? ⟨gq,i*1+0,none⟩=some (.int .u64 ((l[i]:Nat):Int)):=hrow.cell hlt (j:=0) (by decide)
   rw [show i*1+0=i by omega] at y0
   have hx:=HX.out i hlt
   have HST:=Lib.hid (show cheapF (cstF c n) (l.take (i+1))=pickF o (some (cstF c n l[i],l[i])) by rw [List.take_add_one,List.getElem?_eq_getElem hlt,Option.toList_some,cheap_snoc,HOO.out])
   clear hrow
   generalize l[i]=x at y0 hx HST
   go_wp2_with fail
   go_loopw [13,22] (fun nv jv wj=>∃ j:Nat,j≤n∧jv=.int .i64 j∧nv=.int .i64 ((cstF c j x:Nat):Int)∧Hid (Below w.heap.size w wj)) (fun _ jv _=>n-(intOf jv).toNat)
   case atStart=>exact ⟨0,Nat.zero_le _,rfl,rfl,HB⟩
   case round =>
    obtain ⟨j,hj,rfl,rfl,HBJ⟩:=hrel
    by_cases hjt:j<n
    ·have hjz:(j:Int)<(n:Int):=by omega
     have hmn:min j 64=j:=by omega
     have hsb:=shrB x j (by omega)
     have HCJ:=hide (HC.out j (x.testBit j) wr HBJ.out hjt)
     have hle:=HCL.out x j
     have hcj:=HCC.out j (x.testBit j)
     have hws:wrap64 (((cstF c j x:Nat):Int)+((c j (x.testBit j):Nat):Int))=((cstF c (j+1) x:Nat):Int):=by rw [cstF];unfold wrap64;omega
     have HWS:=Lib.hid hws
     clear hle hcj hws
     go_wp2_with (go_at_fn fc;refine (HCJ.out).mono ?_;rintro e wk ⟨rfl,hbk⟩;have HBK:=hide (HBJ.out.trans (hbk.mono HBJ.out.size));clear hbk)
     go_round
     case rel=>exact ⟨j+1,by omega,by go_num,by rw [HWS.out],HBK⟩
     case measure=>simp [intOf];omega
    ·have hjz:¬(j:Int)<(n:Int):=by omega
     have hjn:n=j:=by omega
     subst hjn
     cases o with
     | none =>
      have HQ:=hide (show ChI w c n l (i+1) (.int .i64 ((cstF c n x:Nat):Int)) (.bool true) (.int .u64 ((x:Nat):Int)) wr from ⟨some (cstF c n x,x),rfl,rfl,rfl,HST.out,HBJ.out⟩)
      have hs:(none:Option (Nat×Nat)).isSome=false:=rfl
      clear HST HBJ HB HOO
      go_wp2_with fail
      go_round
      case rel=>exact ⟨i+1,by omega,by go_num,HQ⟩
      case measure=>simp [intOf];omega
     | some p =>
      obtain ⟨pc,px⟩:=p
      have hs:(some (pc,px)).isSome=true:=rfl
      have hv:chV (some (pc,px))=(pc,px):=rfl
      rw [hv]
      simp only []
      by_cases hlc:cstF c n x<pc
      ·have hlz:((cstF c n x:Nat):Int)<(pc:Int):=by omega
       have HQ:=hide (show ChI w c n l (i+1) (.int .i64 ((cstF c n x:Nat):Int)) (.bool true) (.int .u64 ((x:Nat):Int)) wr from ⟨some (cstF c n x,x),rfl,rfl,rfl,by rw [HST.out,pick_two,if_pos hlc],HBJ.out⟩)
       clear HST HBJ HB HOO
       go_wp2_with fail
       go_round
       case rel=>exact ⟨i+1,by omega,by go_num,HQ⟩
       case measure=>simp [intOf];omega
      ·have hlz:¬((cstF c n x:Nat):Int)<(pc:Int):=by omega
       have HQ:=hide (show ChI w c n l (i+1) (.int .i64 ((pc:Nat):Int)) (.bool true) (.int .u64 ((px:Nat):Int)) wr from ⟨some (pc,px),rfl,rfl,rfl,by rw [HST.out,pick_two,if_neg hlc],HBJ.out⟩)
       clear HST HBJ HB HOO
       go_wp2_with fail
       go_round
       case rel=>exact ⟨i+1,by omega,by go_num,HQ⟩
       case measure=>simp [intOf];omega
  ·have hltz:¬(i:Int)<(l.length:Int):=by omega
   have htk:l.take i=l:=List.take_of_length_le (by omega)
   have HQ:=hide (show CheapP (cheapF (cstF c n) l) w (.returned (.tuple #[.int .u64 (((chV o).2:Nat):Int),.bool o.isSome])) wr from ⟨by rw [←htk,HOO.out],HB.out⟩)
   clear HOO HB
   go_wp2_with fail
   go_ret2
   exact HQ.out
end Go.Proofs.YtojgbcmhdnappaaGreatDoor
