/-
  A part of the proof: ReaCan. Conditions: none.
-/
import Derived.Test.YtojgbcmhdnappaaGreatDoorAlSays
import Derived.Test.YtojgbcmhdnappaaGreatDoorAlRuSame
import Derived.Test.YtojgbcmhdnappaaGreatDoorAlClOf
import Derived.Test.YtojgbcmhdnappaaGreatDoorAlRulesOf
import Derived.Test.YtojgbcmhdnappaaGreatDoorAlSolveC
import Derived.Test.YtojgbcmhdnappaaGreatDoorAlRefSolve
import Derived.Test.YtojgbcmhdnappaaGreatDoorAlArenaReach
import Derived.Deep.RegionHeld3
namespace Go.Proofs.YtojgbcmhdnappaaGreatDoor
open Go.RowKit Go.Maps
set_option maxRecDepth 100000
def roundsS:Nat:=52025
theorem rounds_ok:solMu [] []≤roundsS:=by decide
theorem blk_2nd (w:World) (o:Obj) {t:TypeId} {cs:Array Value}:Blk ((w.alloc o).alloc (.cells cs t)) (w.heap.size+1) t cs:=by
 have:=Blk.new (w.alloc o) t cs
 simpa using this
def holdF (n:Nat) (cs:List (List Int)):Bool:=(solveF n cs roundsS [] [] []).1.1
theorem lits_bad {n:Nat} {x:Int} (h:x≠0∧(x.natAbs:Int)≤n):badB n x=false:=by
 unfold badB
 simp
 omega
theorem lits_check {n:Nat} {cs:List (List Int)} (hn:n≤10) (hc:∀ z∈cs,LitsIn n z) (hl:cs.length≤200):checkF n cs=(0,-1):=by
 unfold checkF
 rw [if_neg (by omega),if_neg (by omega)]
 have:∀ (l:List (List Int)) (i:Nat),(∀ z∈l,LitsIn n z)→firstBad n l i=(0,-1):=by
  intro l
  induction l with
  | nil=>intro i _;rfl
  | cons a r ih =>
   intro i h
   have ha:=h a List.mem_cons_self
   rw [firstBad,if_neg (by have:=ha.2;omega),if_neg,ih _ fun z hz=>h z (List.mem_cons_of_mem _ hz)]
   intro e
   obtain ⟨x,hx,hb⟩:=List.any_eq_true.1 e
   rw [lits_bad (ha.1 x hx)] at hb
   cases hb
 exact this cs 0 hc
theorem lits_rng {n:Nat} {cs:List (List Int)} (hc:∀ z∈cs,LitsIn n z):rngRows n cs:=fun c h x hx=>lits_bad ((hc c h).1 x hx)
theorem only_lits {n:Nat} {R:List RuR} {bs:List Bool} (h:∀ c∈R,LitsIn n c.1):∀ z∈onlyF R bs,LitsIn n z:=fun z hz=>by
 unfold onlyF at hz
 obtain ⟨c,hc,rfl⟩:=List.mem_map.1 hz
 exact h c (List.mem_filter.1 hc).1
theorem onlyR_len (R:List RuR) (bs:List Bool):(onlyF R bs).length≤R.length:=by unfold onlyF;rw [List.length_map];exact List.length_filter_le _ _
theorem solveK_any (n base:Nat) (A:Option Addr) (c:Nat) (cs:List (List Int)) (w:World) (h:ClK w base (.slice A cs.length c) cs) (hn:n≤10) (hc:∀ z∈cs,LitsIn n z) (hl:cs.length≤200) :
  Calls Tryz.prog 100 #[.int .i64 (n:Int),.slice A cs.length c] w (fun e w'=>∃ x A' n' c',e=.returned (.tuple #[.agg #[.bool (holdF n cs),.int .u64 x,.slice A' n' c'],.nilIface])∧Below w.heap.size w w'):=by
 have hI:∀ z∈cs,∀ x∈z,I64 x:=fun z hz x hx=>by have:=(hc z hz).1 x hx;unfold I64;omega
 have hck:=lits_check hn hc hl
 have hfl:=solve_flag0 hn (lits_rng hc) rounds_ok
 refine (solve_ok n A cs.length c cs w roundsS rounds_ok (h.cls hI) hck).mono fun e w' hp=>?_
 obtain ⟨A',n',c',v,rfl,_,he,hb⟩:=hp
 rw [solveP_ok hck,hfl] at he
 have hv:v=.nilIface:=by
  rcases he with ⟨_,e⟩ | ⟨_,h1,_⟩ | ⟨_,_,h1,_⟩
  ·exact e
  ·exact absurd (show (1:Int)≤0 from h1) (by decide)
  ·exact absurd (show (1:Int)≤0 from h1) (by decide)
 subst hv
 have e:holdF n cs=(solveP n cs roundsS).1.1.1:=by rw [solveP_ok hck];rfl
 rw [e]
 exact ⟨_,A',n',c',rfl,hb⟩
theorem refSolveK_any (n base:Nat) (A:Option Addr) (c:Nat) (cs:List (List Int)) (w:World) (h:ClK w base (.slice A cs.length c) cs) (hn:n≤10) (hc:∀ z∈cs,LitsIn n z) (hl:cs.length≤200) :
  Calls Tryz.prog 102 #[.int .i64 (n:Int),.slice A cs.length c] w (fun e w'=>∃ x A' n' c' b,e=.returned (.tuple #[.bool (holdF n cs),.int .u64 x,.slice A' n' c',.bool b])∧Below w.heap.size w w'):=by
 have hI:∀ z∈cs,∀ x∈z,I64 x:=fun z hz x hx=>by have:=(hc z hz).1 x hx;unfold I64;omega
 refine (refSolve_any n A cs.length c cs w roundsS rounds_ok (h.cls hI) (lits_check hn hc hl)).mono fun e w' hp=>?_
 obtain ⟨A',n',c',rfl,_,hb⟩:=hp
 exact ⟨_,A',n',c',_,rfl,hb⟩
theorem mk_boolsU (R:Nat) (hR:R≤1000000) (w:World):(Instr.makeSlice 116 (.int .u64 (R:Int)) (.int .u64 (R:Int))).run Tryz.prog w=.ok (.slice (some ⟨w.heap.size,0,none⟩) R R) (w.alloc (.cells (boolArr (List.replicate R false)) 4)):=by
 obtain ⟨i0,hi,hz0,hz1,hz2⟩:=info_parts boolInfo
 have h:=run_make (P:=Tryz.prog) w 116 4 i0 _ Tryz.underlying116 hi hz0 .u64 .u64 (R:Int) (R:Int) (by omega) (Int.le_refl _) (by rw [hz2];omega) (by omega)
 rw [hz1,Int.toNat_natCast,made_bools] at h
 exact h
theorem shrE (v x:Nat) (hv:v<18446744073709551616):(bits BinOp.and IntKind.u64 ((v:Int) / 2 ^ x) 1==1)=v.testBit x:=by
 have e:((v:Int) / 2 ^ x)=((v / 2 ^ x:Nat):Int):=by norm_cast
 have hl:v / 2 ^ x<18446744073709551616:=Nat.lt_of_le_of_lt (Nat.div_le_self _ _) hv
 rw [e,show (1:Int)=((1:Nat):Int) from rfl,bits_and_u64_nat _ _ hl (by omega),Nat.and_one_is_mod,Nat.testBit_eq_decide_div_mod_eq]
 have h1:v / 2 ^ x % 2=0∨v / 2 ^ x % 2=1:=by omega
 rcases h1 with h1 | h1 <;> rw [h1] <;> rfl
structure CaI (w:World) (b3 gB:Nat) (r0 r1 r2:Value) (bs:List Bool) (wr:World):Prop where
 k3:Blk wr b3 112 #[r0,r1,r2]
 kB:Blk wr gB 4 (boolArr bs)
 bel:Below w.heap.size w wr
theorem CaI.step {w wr:World} {b3 gB k:Nat} {r0 r1 r2:Value} {bs:List Bool} (h:CaI w b3 gB r0 r1 r2 bs wr) (hg:w.heap.size≤gB) (h3:b3≠gB) (x:Bool):CaI w b3 gB r0 r1 r2 (bs.set k x) (wr.setCell ⟨gB,k,none⟩ (.bool x)) :=
 ⟨h.k3.far h3 _,by rw [←boolArr_set];exact h.kB.set_ k _,h.bel.setCell (p:=⟨gB,k,none⟩) hg _⟩
theorem boolsR_of {w:World} {gB n:Nat} {bs:List Bool} (h:Blk w gB 4 (boolArr bs)) (hn:bs.length=n):BoolsR w (some ⟨gB,0,none⟩) n bs:=by
 refine ⟨hn,?_⟩
 have hr:Reads w (gB+1) 1 (some ⟨gB,0,none⟩) n (bs.map Value.bool):=by
  refine ⟨by rw [List.length_map,hn,Nat.mul_one],fun _=>⟨_,rfl,Nat.lt_succ_self _,fun j u hu=>?_⟩⟩
  have:=h.cell j
  rw [show (⟨gB,0,none⟩:Addr).add j=⟨gB,j,none⟩ by unfold Addr.add;split <;> simp_all,this]
  unfold boolArr
  simpa using hu
 exact hr.more h.lt
def CanT (b:Bool) (w:World) (e:Ending) (w':World):Prop:=e=.returned (.tuple #[.bool b,.nilIface])∧Below w.heap.size w w'
structure SvI (w:World) (b:Bool) (g11:Nat) (wc:World):Prop where
 is:∃ x v,Blk wc g11 198 #[.bool b,.int .u64 x,v]
 bel:Below w.heap.size w wc
theorem below_al {u w:World} (h:Below u.heap.size u w) (o:Obj):Below u.heap.size u (w.alloc o):=h.alloc h.size o
theorem below_dr {u w:World} (h:Below u.heap.size u w):Below u.heap.size u w.drew:=h.drew
theorem below_then {u X Y:World} (h:Below u.heap.size u X) (k:Below X.heap.size X Y):Below u.heap.size u Y:=h.trans (k.mono h.size)
theorem below_sets {C g j:Nat} {w w':World} (h:Below C w w') (hg:C≤g) (u:Value):Below C w (w'.setCell ⟨g,j,none⟩ u):=h.setCell (p:=⟨g,j,none⟩) hg u
theorem sv_set {w wt:World} {b:Bool} {g:Nat} {x:Int} {v c0 c1 c2:Value} (hx:Blk wt g 198 #[c0,c1,c2]) (hg:w.heap.size≤g) (hb:Below w.heap.size w wt):SvI w b g (((wt.setCell ⟨g,0,none⟩ (.bool b)).setCell ⟨g,1,none⟩ (.int .u64 x)).setCell ⟨g,2,none⟩ v) :=
 ⟨⟨x,v,((hx.set_ 0 _).set_ 1 _).set_ 2 _⟩,below_sets (below_sets (below_sets hb hg _) hg _) hg _⟩
theorem sv_alloc {w wt:World} {b:Bool} {x:Int} {v:Value} (hb:Below w.heap.size w wt):SvI w b wt.heap.size (wt.alloc (.cells #[.bool b,.int .u64 x,v] 198)):=⟨⟨x,v,Blk.new wt _ _⟩,hb.alloc hb.size _⟩
set_option maxHeartbeats 8000000 in
theorem can_lines (n base:Nat) (v vF:Value) (R:List RuR) (As:Option Addr) (cm:Nat) (sy:List Nat) (set:Nat) (w:World) (hr:RuM w base v vF (R.map (·.1)) (R.map (·.2))) (hs:OwnI w base (.slice As sy.length cm) (natI sy)) (hn:n≤10) (hR:∀ c∈R,LitsIn n c.1) (hf:∀ c∈R,-1≤c.2∧c.2≤1000) (hl:R.length≤200) (hsy:∀ x∈sy,x<100) (hm:sy.length≤10) (hset:set<2 ^ sy.length) :
  Calls Tryz.prog 48 #[.agg #[.int .i64 (n:Int),v,vF],.slice As sy.length cm,.int .u64 (set:Int)] w (CanT (holdF n (onlyF R (onLB sy set sy.length 100))) w):=by
 obtain ⟨cs,HCS⟩:∃ cs,Hid (onlyF R (onLB sy set sy.length 100)=cs):=⟨_,Lib.hid rfl⟩
 rw [HCS.out]
 obtain ⟨bh,HBH⟩:∃ bh,Hid (holdF n cs=bh):=⟨_,Lib.hid rfl⟩
 rw [HBH.out]
 obtain ⟨Av,cv,Af,cf,e1,e2⟩:=hr.form
 rw [List.length_map] at e1 e2
 subst e1 e2
 have HRU:=hide hr
 have HSY:=hide hs
 have HNN:=Lib.hid (show n≤10 from hn)
 have HLT:=Lib.hid (only_lits (bs:=onLB sy set sy.length 100) hR)
 have HLN:=Lib.hid (Nat.le_trans (onlyR_len R (onLB sy set sy.length 100)) hl)
 have HRL:=Lib.hid hl
 have HF:=Lib.hid hf
 have HS100:=Lib.hid hsy
 have hst:set<1024:=Nat.lt_of_lt_of_le hset (Nat.pow_le_pow_right (n:=2) (by decide) hm)
 have hal:=(Below.refl w.heap.size w).alloc (Nat.le_refl _) (.cells #[.int .i64 (n:Int),.slice Av R.length cv,.slice Af R.length cf] 112)
 have hal2:=hal.alloc hal.size (.cells (boolArr (onLB sy set 0 100)) 4)
 have HI0:=hide (show CaI w w.heap.size (w.heap.size+1) (.int .i64 (n:Int)) (.slice Av R.length cv) (.slice Af R.length cf) (onLB sy set 0 100) ((w.alloc (.cells #[.int .i64 (n:Int),.slice Av R.length cv,.slice Af R.length cf] 112)).alloc (.cells (boolArr (onLB sy set 0 100)) 4)) from
  ⟨(Blk.new w _ _).alloc _,blk_2nd w _,hal2⟩)
 have hmk:(Instr.makeSlice 116 (.int .i64 100) (.int .i64 100)).run Tryz.prog (w.alloc (.cells #[.int .i64 (n:Int),.slice Av R.length cv,.slice Af R.length cf] 112))=.ok (.slice (some ⟨(w.alloc (.cells #[.int .i64 (n:Int),.slice Av R.length cv,.slice Af R.length cf] 112)).heap.size,0,none⟩) 100 100) ((w.alloc (.cells #[.int .i64 (n:Int),.slice Av R.length cv,.slice Af R.length cf] 112)).alloc (.cells (boolArr (onLB sy set 0 100)) 4)):=by
  rw [onLB_zero]
  exact mk_bools 100 (by decide) _
 clear hr hs hal hal2 hsy hf hl hset hR
 go_enter Tryz.func48,Tryz.ntmps48
 go_upto_region 2 with fail
 generalize ((w.alloc (.cells #[.int .i64 (n:Int),.slice Av R.length cv,.slice Af R.length cf] 112)).alloc (.cells (boolArr (onLB sy set 0 100)) 4))=w1 at HI0 hmk ⊢
 clear hmk
 obtain ⟨b3,HG3⟩:∃ b3,Hid (w.heap.size=b3):=⟨_,Lib.hid rfl⟩
 have HI1:Hid (CaI w b3 (b3+1) (.int .i64 (n:Int)) (.slice Av R.length cv) (.slice Af R.length cf) (onLB sy set 0 100) w1):=hide (by have:=HI0.out;rw [HG3.out] at this;exact this)
 rw [HG3.out]
 clear HI0
 obtain ⟨gB,HGB⟩:∃ gB,Hid (b3+1=gB):=⟨_,Lib.hid rfl⟩
 rw [HGB.out] at HI1 ⊢
 go_wp2_with fail
 go_loopw [16] (fun iv wr=>∃ k:Nat,k≤sy.length∧iv=.int .i64 k∧Hid (CaI w b3 gB (.int .i64 (n:Int)) (.slice Av R.length cv) (.slice Af R.length cf) (onLB sy set k 100) wr)) (fun iv _=>sy.length-(intOf iv).toNat)
 case atStart=>exact ⟨0,Nat.zero_le _,rfl,HI1⟩
 case round =>
  clear HI1
  obtain ⟨k,hk,rfl,HI⟩:=hrel
  by_cases hlt:k<sy.length
  ·have hltz:(k:Int)<(sy.length:Int):=by omega
   have hln:k<(natI sy).length:=by rw [natI_len];exact hlt
   obtain ⟨gs,rfl,hrow⟩:=(OwnI.below HSY.out HI.out.bel).toK.rowAt hln
   have y0:wr.cell? ⟨gs,k*1+0,none⟩=some (.int .i64 ((sy[k]:Nat):Int)):=(hrow.cell hln (j:=0) (by decide)).trans (by simp [elZ,natI])
   rw [show k*1+0=k by omega] at y0
   have hsk:=HS100.out _ (List.getElem_mem hlt)
   have hskz:((sy[k]:Nat):Int)<100:=by omega
   have hmn:min k 64=k:=by omega
   have hsb:=shrE set k (by omega)
   have c0:=(HI.out.kB.cell sy[k]).trans (boolArr_at (by rw [onLB_len];exact hsk))
   have f0:=HI.out.kB.frozen sy[k]
   have HN:=hide (show CaI w b3 gB (.int .i64 (n:Int)) (.slice Av R.length cv) (.slice Af R.length cf) (onLB sy set (k+1) 100) (wr.setCell ⟨gB,sy[k],none⟩ (.bool (set.testBit k))) from by rw [onLB_set _ _ _ _ hlt];exact HI.out.step (by rw [HG3.out];have:=HGB.out;omega) (by have:=HGB.out;omega) _)
   clear hrow hln
   generalize sy[k]=s at y0 hsk hskz c0 f0 HN
   generalize set.testBit k=tb at hsb HN
   generalize (onLB sy set k 100).getD s false=ob at c0
   go_wp2_with fail
   go_round
   case rel=>exact ⟨k+1,by omega,by go_num,HN⟩
   case measure=>simp [intOf];omega
  ·have hltz:¬(k:Int)<(sy.length:Int):=by omega
   have hkm:k=sy.length:=by omega
   subst hkm
   have hI:=HI.out
   have HON:=Lib.hid (fun (W:World) (hb:Below wr.heap.size wr W)=>only_any (.int .i64 (n:Int)) (.slice Av R.length cv) (.slice Af R.length cf) R base (some ⟨gB,0,none⟩) 100 100 (onLB sy set sy.length 100) W (HRU.out.below (hI.bel.trans (hb.mono hI.bel.size))) HF.out ((boolsR_of hI.kB (onLB_len _ _ _ _)).below hb) (by have:=HRL.out;omega))
   unfold OnlyP at HON
   rw [HCS.out] at HON HLT HLN
   have HSV:=Lib.hid (fun (W:World) (A:Option Addr) (c:Nat) (hc:ClK W 0 (.slice A cs.length c) cs)=>solveK_any n 0 A c cs W hc HNN.out HLT.out HLN.out)
   rw [HBH.out] at HSV
   have q0:=hI.k3.cell 0
   have q1:=hI.k3.cell 1
   have q2:=hI.k3.cell 2
   have ql:=hI.k3.lt
   have HBW:=hide hI.bel
   clear hI HI HRU HSY HF HS100 HCS HBH hst
   go_upto_region 7 with fail
   go_cut [11,12] from 13 (fun s11 s12 wc=>s12=.nilIface∧∃ g11,s11=.pointer (some ⟨g11,0,none⟩)∧Hid (SvI wr bh g11 wc))
   case first=>as_aux_lemma =>
    have HKP:=Lib.hid (fun (W:World) (hb:Below wr.heap.size wr W)=>show W.cell? ⟨b3,0,none⟩=some (.int .i64 (n:Int))∧W.cell? ⟨b3,1,none⟩=some (.slice Av R.length cv)∧W.cell? ⟨b3,2,none⟩=some (.slice Af R.length cf) from ⟨(hb.cell (p:=⟨b3,0,none⟩) ql).trans q0,(hb.cell (p:=⟨b3,1,none⟩) ql).trans q1,(hb.cell (p:=⟨b3,2,none⟩) ql).trans q2⟩)
    go_region_held3 (fun w'=>w'.cell? ⟨b3,0,none⟩=some (.int .i64 (n:Int))∧w'.cell? ⟨b3,1,none⟩=some (.slice Av R.length cv)∧w'.cell? ⟨b3,2,none⟩=some (.slice Af R.length cf))
     (first | assumption | exact ⟨q0,q1,q2⟩ | (refine HKP.out _ ?_;(repeat (first | exact Below.refl _ _ | exact (Below.refl _ _).drew | exact hbs | exact hbr | refine below_al ?_ _ | refine below_dr ?_ | refine below_sets ?_ (by first | exact Nat.le_refl _ | omega | exact hbs.size | exact hbr.size) _));done))
     (first
      | (go_at_call 101;refine (HON.out _ ?_).mono ?_;(focus ((repeat (first | exact Below.refl _ _ | exact (Below.refl _ _).drew | refine below_al ?_ _ | refine below_dr ?_));done));rintro e wo ⟨vo,rfl,hco,hbo⟩;obtain ⟨Ao,co,eo⟩:=hco.len;subst eo;(refine (fun (hbr:Below wr.heap.size wr wo)=>?_) ?_;rotate_left;(focus (refine below_then ?_ hbo;(repeat (first | exact Below.refl _ _ | exact (Below.refl _ _).drew | refine below_al ?_ _ | refine below_dr ?_));done)));(first | have hx:Blk wo wr.heap.size 198 #[.bool false,.int .u64 0,.slice none 0 0]:=Blk.below (Blk.new wr.drew _ _) hbo (Blk.lt (Blk.new _ _ _)) | have hx:Blk wo wr.heap.size 198 #[.bool false,.int .u64 0,.slice none 0 0]:=Blk.below (Blk.drew (Blk.new wr _ _)) hbo (Blk.lt (Blk.drew (Blk.new _ _ _))) | skip))
      | (go_at_call 100;refine (HSV.out _ _ _ ?_).mono ?_;(focus (first | exact hco.mono (Nat.zero_le _) | (refine (hco.mono (Nat.zero_le _)).below ?_;(repeat (first | exact Below.refl _ _ | refine below_al ?_ _ | refine below_dr ?_)));done));rintro e wt ⟨x,A',n',c',rfl,hbt⟩;(refine (fun (hbs:Below wr.heap.size wr wt)=>?_) ?_;rotate_left;(focus (refine below_then ?_ hbt;(repeat (first | exact hbr | refine below_al ?_ _ | refine below_dr ?_));done)));(first | have hx2:Blk wt wr.heap.size 198 #[.bool false,.int .u64 0,.slice none 0 0]:=Blk.below hx hbt (Blk.lt hx) | have hx2:Blk wt wo.heap.size 198 #[.bool false,.int .u64 0,.slice none 0 0]:=Blk.below (Blk.new wo _ _) hbt (Blk.lt (Blk.new _ _ _)) | have hx2:=Blk.new wt 198 #[.bool false,.int .u64 0,.slice none 0 0]);(have x0:=Blk.cell hx2 0;have x1:=Blk.cell hx2 1;have x2:=Blk.cell hx2 2;have y0:=Blk.frozen hx2 0;have y1:=Blk.frozen hx2 1;have y2:=Blk.frozen hx2 2)))
    all_goals
     first
      | (have HH:=hide (sv_set (b:=bh) (x:=x) (v:=.slice A' n' c') hx2 (by first | exact Nat.le_refl _ | exact hbr.size) hbs);clear hco hbo hbt hbr hbs hx2 HKP HON HSV;go_wp2;go_meet;case rel=>exact ⟨rfl,_,rfl,HH⟩)
      | (have HH:=hide (sv_alloc (b:=bh) (x:=x) (v:=.slice A' n' c') hbs);clear hco hbo hbt hbr hbs hx2 HKP HON HSV;go_wp2;go_meet;case rel=>exact ⟨rfl,_,rfl,HH⟩)
   case rest =>
    obtain ⟨rfl,g11,rfl,HS⟩:=hcut
    obtain ⟨x,v,hk⟩:=HS.out.is
    have k0:=hk.cell 0
    have HBE:=hide (HBW.out.trans (HS.out.bel.mono HBW.out.size))
    clear hk HON HSV
    go_wp2_with fail
    go_ret2
    exact ⟨rfl,HBE.out⟩
end Go.Proofs.YtojgbcmhdnappaaGreatDoor
