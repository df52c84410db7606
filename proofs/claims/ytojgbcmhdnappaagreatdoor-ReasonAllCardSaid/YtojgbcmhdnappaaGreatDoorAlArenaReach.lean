/-
  A part of the proof: SolveLim, BddMap, MapH, MapG, ArenaReach. Conditions: none.
-/
import Derived.Test.YtojgbcmhdnappaaGreatDoorAlSolvePure
import Derived.Test.YtojgbcmhdnappaaGreatDoorAlOwnIs
import Derived.Test.YtojgbcmhdnappaaGreatDoorAlRefCheck
import Derived.BigFrame
import Derived.Maps.OwnOps
import Derived.Maps.Views
import Derived.Maps.OwnSet
import Derived.Maps.RangeWalk
import Derived.WideKeyArr2
import Derived.Deep.QuietTactic
import Derived.BigQuiet
import Derived.BigRegion
import Derived.IntWalk
import Derived.Deep.LoopGhost
import Derived.Test.YtojgbcmhdnappaaGreatDoorAlCalm
namespace Go.Proofs.YtojgbcmhdnappaaGreatDoor
theorem cons_len {tr:List Int} {m:Nat} (h:Cons tr) (hr:∀ x∈tr,badB m x=false):tr.length≤m:=by
 have hb:∀ x∈tr,(1≤x∧x≤m)∨(-(m:Int)≤x∧x ≤ -1):=fun x hx=>by
  have h1:=hr x hx
  unfold badB at h1
  have h2:=of_decide_eq_false h1
  omega
 have hn:(tr.map (fun x=>x.natAbs-1)).Nodup:=by
  rw [List.Nodup,List.pairwise_map]
  refine h.2.imp_of_mem fun {a b} ha hb' hab e=>hab ?_
  rcases hb a ha with h1 | h1 <;> rcases hb b hb' with h2 | h2 <;> omega
 have:=nodup_le m _ hn fun x hx=>by
  obtain ⟨a,ha,rfl⟩:=List.mem_map.1 hx
  rcases hb a ha with h1 | h1 <;> omega
 simpa using this
theorem scan_un {tr:List Int}:∀ {ls:List (List Int)} {i:Nat},scanF tr ls i=none→∀ c∈ls,unitF tr c=(0,true):=by
 intro ls
 induction ls with
 | nil=>intro i _ c hc;cases hc
 | cons a ls ih =>
  intro i h c hc
  unfold scanF at h
  by_cases h1:unitF tr a=(0,true)
  ·rw [if_pos h1] at h
   rcases List.mem_cons.1 hc with e | hc
   ·rw [e];exact h1
   ·exact ih h c hc
  ·rw [if_neg h1] at h;cases h
theorem spreadF_last {m:Nat} (hm:m≤24) {ls:List (List Int)} (h:rngRows m ls):∀ (f:Nat) (tr:List Int),Cons tr→(∀ x∈tr,badB m x=false)→25≤f+tr.length →
  (spreadF f ls tr).2<0→scanF (spreadF f ls tr).1 ls 0=none:=by
 intro f
 induction f with
 | zero=>intro tr hc _ hf;have:=hc.len;omega
 | succ f ih =>
  intro tr hc hr hf
  unfold spreadF
  split
  ·rename_i hs;exact fun _=>hs
  ·rename_i i x hs
   split
   ·intro hn;simp only at hn;omega
   ·rename_i hx
    obtain ⟨c,hcm,h1,h2⟩:=scan_some tr ls 0 i x hs
    have hz:∀ y∈c,y≠0:=fun y hy=>by rcases rng_lit hm (h c hcm y hy) with h | h <;> omega
    have hu:unitGo tr 0 c=(x,true):=by
     rcases unit_left tr c 0 [] (.inl ⟨rfl,rfl⟩) hz with ⟨e,_⟩ | ⟨e,_⟩ | ⟨y,_,e,_⟩
     ·exact absurd e h2
     ·unfold unitF at h1;rw [e] at h1;exact absurd h1.symm hx
     ·unfold unitF at h1;rw [e] at h1;rw [e];simp only at h1;rw [h1]
    rcases unitGo_mem tr c 0 x hu hx with e | ⟨e1,e2,e3⟩
    ·exact absurd e hx
    ·have hb:=h c hcm x e1
     exact ih (tr++[x]) (hc.snoc (rng_lit hm hb) e2 e3) (by
      intro y hy
      rcases List.mem_append.1 hy with hy | hy
      ·exact hr y hy
      ·rw [List.mem_singleton.1 hy];exact hb) (by rw [List.length_append,List.length_singleton];omega)
theorem unitGo_last (T:List Int) (x:Int) (h1:x∉T) (h2 : -x∉T):∀ (c:List Int),(∀ y∈c,y∉T ∧ -y∈T)→unitGo T 0 (c++[x])≠(0,true):=by
 intro c
 induction c with
 | nil =>
  intro _
  rw [List.nil_append,unitGo,if_neg h1,if_neg h2,if_neg (fun h=>h.1 rfl),unitGo]
  intro e
  have e1:=congrArg Prod.fst e
  have e2:=congrArg Prod.snd e
  simp only at e1 e2
  exact of_decide_eq_true e2 e1
 | cons y ys ih =>
  intro h
  obtain ⟨p1,p2⟩:=h y (List.mem_cons_self ..)
  rw [List.cons_append,unitGo,if_neg p1,if_pos p2]
  exact ih fun z hz=>h z (List.mem_cons_of_mem _ hz)
theorem ChainR.pair {t now:List Int} {v:Int} {r:Decs} (h:ChainR ((t,v) :: r) now) (hc:Cons now):v∉t ∧ -v∉t:=by
 have h1:=(hc.pre h.1).2
 rw [List.pairwise_append] at h1
 constructor
 ·intro hv
  exact h1.2.2 v hv v (List.mem_singleton.2 rfl) rfl
 ·intro hv
  exact h1.2.2 (-v) hv v (List.mem_singleton.2 rfl) (Int.natAbs_neg v)
theorem spread_more {m:Nat} (hm:m≤24) {L:List (List Int)} {t now:List Int} {v b:Int} {r:Decs} (hL:rngRows m L) (hin:negsF ((t,v) :: r)∈L) (hc:Cons t) (hr:∀ x∈t,badB m x=false)
  (hch:ChainR r t) (hv:v∉t ∧ -v∉t) (e:spreadR L t=(now,b)) (hb:b<0):t.length+1≤now.length:=by
 obtain ⟨hpre,_,_⟩:=spread_ok hm hL hc hr e
 refine Nat.succ_le_of_lt (Nat.lt_of_le_of_ne hpre.length_le fun hlen=>?_)
 have hsame:now=t:=(hpre.eq_of_length hlen).symm
 have hlast:=spreadF_last hm hL (25-t.length) t hc hr (by have:=hc.len;omega)
 unfold spreadR at e
 rw [e,hsame] at hlast
 have h0:=scan_un (hlast hb) _ hin
 unfold unitF at h0
 rw [negs_snoc] at h0
 refine unitGo_last t (-v) hv.2 (by rw [Int.neg_neg];exact hv.1) (negsF r) (fun y hy=>?_) h0
 unfold negsF at hy
 rw [List.mem_reverse,List.mem_map] at hy
 obtain ⟨p,hp,rfl⟩:=hy
 have hin:=(hch.mem p hp).1.subset (List.mem_append.2 (.inr (List.mem_singleton.2 rfl)))
 exact ⟨hc.no_both hin,by rw [Int.neg_neg];exact hin⟩
def potF (m:Nat) (st:Decs):Nat:=(st.map fun p=>2 ^ (m-(p.1.length+1))).sum
def budF (m:Nat) (L:List (List Int)) (tr:List Int):Nat:=if 0≤(spreadR L tr).2 then 1 else 2 ^ (m-(spreadR L tr).1.length)
theorem potF_cons (m:Nat) (t:List Int) (v:Int) (r:Decs):potF m ((t,v) :: r)=2 ^ (m-(t.length+1))+potF m r:=by
 unfold potF;rw [List.map_cons,List.sum_cons]
theorem budF_hit {m:Nat} {L:List (List Int)} {tr now:List Int} {b:Int} (e:spreadR L tr=(now,b)) (hb:0≤b):budF m L tr=1:=by
 unfold budF;rw [e,if_pos hb]
theorem budF_on {m:Nat} {L:List (List Int)} {tr now:List Int} {b:Int} (e:spreadR L tr=(now,b)) (hb:b<0):budF m L tr=2 ^ (m-now.length):=by
 unfold budF;rw [e,if_neg (by simp only;omega)]
theorem budF_le {m:Nat} {L:List (List Int)} {tr:List Int} {n:Nat} (h:(spreadR L tr).2<0→n≤(spreadR L tr).1.length):budF m L tr≤2 ^ (m-n):=by
 unfold budF
 split
 ·exact Nat.one_le_two_pow
 ·rename_i hb
  have:=h (by omega)
  exact Nat.pow_le_pow_right (by decide) (by omega)
theorem solve_flag {m:Nat} (hm:m≤10) {ls:List (List Int)}:∀ (g:Nat) (tr:List Int) (st:Decs) (pf:List (List Int)),SolOk m ls tr st pf→solMu tr pf≤g →
  pf.length+(potF m st+budF m (ls++pf) tr)≤1024→(solveF m ls g tr st pf).2.2=true:=by
 intro g
 induction g with
 | zero=>intro tr st pf h hg _;have:=solMu_pos h;omega
 | succ g ih =>
  intro tr st pf h hg hp
  rcases hs:spreadR (ls++pf) tr with ⟨now,b⟩
  have hsp:=h.spread (by omega) hs
  obtain ⟨hpre,_,_⟩:=spread_ok (by omega) h.rows h.cons h.rng hs
  have hnl:=hpre.length_le
  by_cases hb:0≤b
  ·rw [budF_hit hs hb] at hp
   rcases st with _ | ⟨⟨t,v⟩,r⟩
   ·rw [solve_end hs hb]
   ·have hl:¬2000≤pf.length+1:=by omega
    rw [solve_back hs hb hl]
    have hbk:=hsp.back hl
    have hv:=hsp.ch.pair hsp.cons
    have htl:=(prefix_getD hsp.ch.1).1
    have hn24:=hsp.cons.len
    rw [potF_cons] at hp
    have hbud:budF m (ls++(pf++[negsF ((t,v) :: r)])) t≤2 ^ (m-(t.length+1)):=budF_le fun hneg =>
     spread_more (v:=v) (r:=r) (by omega) hbk.rows (List.mem_append.2 (.inr (List.mem_append.2 (.inr (List.mem_singleton.2 rfl))))) hbk.cons hbk.rng hbk.ch hv rfl hneg
    refine ih t r _ hbk ?_ ?_
    ·have:=h.few
     unfold solMu at hg ⊢
     have ht:=h.cons.len
     rw [List.length_append,List.length_singleton]
     omega
    ·rw [List.length_append,List.length_singleton]
     omega
  ·have hb':b<0:=by omega
   rw [budF_on hs hb'] at hp
   by_cases hv:m<freeF m now
   ·rw [solve_done hs hb' hv]
   ·have hv':freeF m now≤m:=by omega
    rw [solve_next hs hb' hv']
    have hnx:=hsp.next (by omega) hv'
    have hlen:=cons_len hnx.cons hnx.rng
    rw [List.length_append,List.length_singleton] at hlen
    have hbud:budF m (ls++pf) (now++[(freeF m now:Int)])≤2 ^ (m-(now.length+1)):=budF_le fun _=>by
     rcases hs2:spreadR (ls++pf) (now++[(freeF m now:Int)]) with ⟨now2,b2⟩
     have:=(spread_ok (by omega) hnx.rows hnx.cons hnx.rng hs2).1.length_le
     rw [List.length_append,List.length_singleton] at this
     exact this
    refine ih _ _ pf hnx ?_ ?_
    ·have ht:=hnx.cons.len
     unfold solMu at hg ⊢
     rw [List.length_append,List.length_singleton] at ht ⊢
     omega
    ·rw [potF_cons]
     have h2:2 ^ (m-now.length)=2*2 ^ (m-(now.length+1)):=by
      rw [show m-now.length=(m-(now.length+1))+1 by omega,Nat.pow_succ,Nat.mul_comm]
     omega
theorem solve_flag0 {m:Nat} (hm:m≤10) {ls:List (List Int)} (h:rngRows m ls) {g:Nat} (hg:solMu [] []≤g):(solveF m ls g [] [] []).2.2=true:=by
 refine solve_flag hm g [] [] [] (SolOk.start h) hg ?_
 have hbud:budF m (ls++[]) []≤2 ^ (m-0):=budF_le fun _=>Nat.zero_le _
 have h10:2 ^ (m-0)≤2 ^ 10:=Nat.pow_le_pow_right (by decide) (by omega)
 have hpot:potF m []=0:=rfl
 rw [hpot,List.length_nil]
 omega
end Go.Proofs.YtojgbcmhdnappaaGreatDoor
namespace Go.Proofs.YtojgbcmhdnappaaGreatDoor
open Go.RowKit Go.Maps
theorem keyI:Keyed Tryz.prog 3:=int_keyed Tryz.underlying3
theorem zeroBool (w:World):(zeroValue 4).run Tryz.prog w=.ok (.bool false) w:=by kernel_rfl
theorem wfK {z:Int} (h:I64 z):(Lit.int .i64 z).wf=true:=WalkArith.wf_i64 (by unfold I64 at h;omega)
def keyL (h:Int):Lit:=.int .i64 h
theorem keyL_of {h:Int} (hh:I64 h):keyOf Tryz.prog 3 (.int .i64 h)=some (keyL h):=keyOf_int_mk Tryz.underlying3 (wfK hh)
section
variable {w w':World} {b m:Nat} {f:Int→Option Nd}
variable {ops:Array Oper} {rest:List Oper} {o:Oper} {a:Act} {Q:Exit→Act→World→Prop}
variable {s:Int→Bool}
end
end Go.Proofs.YtojgbcmhdnappaaGreatDoor
namespace Go.Proofs.YtojgbcmhdnappaaGreatDoor
open Go.RowKit Go.Maps
structure KeyS (kt:TypeId) (α:Type) (key:α→Value) (lit:α→Lit) (ok:α→Prop):Prop where
 K:Keyed Tryz.prog kt
 of:∀ x,ok x→keyOf Tryz.prog kt (key x)=some (lit x)
 inj:∀ x y,key x=key y→x=y
 isKey:∀ x,ok x→WideAt.IsKeyLit (lit x)
theorem KeyS.ne {kt:TypeId} {α:Type} {key:α→Value} {lit:α→Lit} {ok:α→Prop} (S:KeyS kt α key lit ok) {x y:α} (hx:ok x) (hy:ok y) (h:x≠y):lit x≠lit y:=fun e =>
 h (S.inj x y (S.K.inj (S.of x hx) ((S.of y hy).trans (congrArg some e.symm))))
theorem keyS_int:KeyS 3 Int (fun x=>.int .i64 x) keyL I64 :=
 ⟨keyI,fun _ h=>keyL_of h,fun x y e=>(by injection e),fun _ _=>trivial⟩
section
variable {kt:TypeId} {α:Type} {key:α→Value} {lit:α→Lit} {ok:α→Prop} {w w':World} {b m:Nat} {f:α→Option Int}
variable [DecidableEq α]
variable {ops:Array Oper} {rest:List Oper} {o:Oper} {a:Act} {Q:Exit→Act→World→Prop}
end
end Go.Proofs.YtojgbcmhdnappaaGreatDoor
namespace Go.Proofs.YtojgbcmhdnappaaGreatDoor
open Go.RowKit Go.Maps
def heldR (v:Value):Option (DataW Value×List MemPlace):=some (.held v,[])
section
variable {w w':World} {b m:Nat} {f:Int→Option Value}
end
end Go.Proofs.YtojgbcmhdnappaaGreatDoor
namespace Go.Proofs.YtojgbcmhdnappaaGreatDoor
open Go.RowKit Go.Maps
structure ReadsG {α:Type} (lit:α→Lit) (ok:α→Prop) (D:DataW Value) (f:α→Option Value):Prop where
 has:∀ x,ok x→Maps.has D (lit x)=(f x).isSome
 at_:∀ x z,ok x→f x=some z→∀ d,D.atKey (lit x) d=.held z
 isMap:IsMap D
def MapG (kt:TypeId) {α:Type} (lit:α→Lit) (ok:α→Prop) (w:World) (b:Nat) (f:α→Option Value) (m:Nat):Prop:=∃ D,w.ownsMap Tryz.prog kt heldR b m D∧ReadsG lit ok D f
section
variable {kt:TypeId} {α:Type} {key:α→Value} {lit:α→Lit} {ok:α→Prop} {w w':World} {b m:Nat} {f:α→Option Value}
theorem mapG_made (w:World):MapG kt lit ok (w.alloc (.map #[] 0)) w.heap.size (fun _=>none) 0 :=
 ⟨_,World.ownsMap_made _ _ _ _,⟨fun _ _=>rfl,fun _ _ _ e=>(by cases e),isMap_empty⟩⟩
theorem MapG.same (h:MapG kt lit ok w b f m) (hb:w'.heap[b]?=w.heap[b]?):MapG kt lit ok w' b f m:=by
 obtain ⟨D,⟨es,clock,h1,h2⟩,h3⟩:=h
 exact ⟨D,⟨es,clock,hb.trans h1,h2⟩,h3⟩
theorem MapG.lt (h:MapG kt lit ok w b f m):b<w.heap.size:=by
 obtain ⟨D,h1,_⟩:=h
 exact h1.lt
theorem MapG.below (h:MapG kt lit ok w b f m) (hb:Below w.heap.size w w'):MapG kt lit ok w' b f m:=h.same (hb.block b h.lt)
theorem ReadsG.put [DecidableEq α] {D:DataW Value} (h:ReadsG lit ok D f) (S:KeyS kt α key lit ok) {x:α} {z:Value} (hx:ok x):ReadsG lit ok (D.put (lit x) (.held z)) (fun y=>if y=x then some z else f y):=by
 refine ⟨fun y hy=>?_,fun y z' hy e d=>?_,h.isMap.put _ _⟩
 ·by_cases e:y=x
  ·subst e
   rw [if_pos rfl]
   exact has_put_same h.isMap (S.isKey y hy) _
  ·rw [if_neg e,has_put_other (S.ne hy hx e)]
   exact h.has y hy
 ·by_cases e':y=x
  ·subst e'
   rw [if_pos rfl] at e
   cases e
   exact atKey_put_same h.isMap (S.isKey y hy) _ _
  ·rw [if_neg e'] at e
   rw [atKey_put_other (S.ne hy hx e')]
   exact h.at_ y z' hy e d
theorem ReadsG.val {D:DataW Value} (h:ReadsG lit ok D f) {x:α} (hi:ok x) {v z0:Value} {ps:List MemPlace} (hv:heldR v=some (D.atKey (lit x) (.held z0),ps)):v=(f x).getD z0:=by
 simp only [heldR,Option.some.injEq,Prod.mk.injEq] at hv
 obtain ⟨hv,_⟩:=hv
 cases e:f x with
 | none =>
  rw [atKey_of_not_has (by rw [h.has x hi,e];rfl)] at hv
  injection hv
 | some z =>
  rw [h.at_ x z hi e] at hv
  injection hv
theorem MapG.get (S:KeyS kt α key lit ok) {t et:TypeId} (ht:Tryz.prog.underlying t=some (.map kt et)) {z0:Value} (hz:∀ w,(zeroValue et).run Tryz.prog w=.ok z0 w) (h:MapG kt lit ok w b f m) (x:α) (hi:ok x) :
  (Instr.lookup t (.map (some b)) (key x) false).run Tryz.prog w=.ok ((f x).getD z0) w:=by
 obtain ⟨D,h1,h2⟩:=h
 obtain ⟨v,ps,hrun,hv⟩:=h1.lookup S.K ht (hz w) (show heldR z0=some (.held z0,[]) from rfl) (S.of x hi)
 rw [←h2.val hi hv]
 exact hrun
theorem storeG [DecidableEq α] {ops:Array Oper} {rest:List Oper} {o:Oper} {a:Act} {Q:Exit→Act→World→Prop} (S:KeyS kt α key lit ok) (hg:o.guard=none) (mo xo yo:Operand) (t et:TypeId) (hop:o.op=Op.mapUpdate t mo xo yo) (ht:Tryz.prog.underlying t=some (.map kt et))
  (hm:a.eval mo=.map (some b)) (h:MapG kt lit ok w b f m) (x:α) (z:Value) (hx:a.eval xo=key x) (hy:a.eval yo=z) (hi:ok x) (hs:m≤1000000000)
  (hK:∀ w',MapG kt lit ok w' b (fun y=>if y=x then some z else f y) (m+1)→w.grownBy w' (some b)→wpList Tryz.prog ops Q rest (a.put o.dst undef) w'):wpList Tryz.prog ops Q (o :: rest) a w:=by
 obtain ⟨D,h1,h2⟩:=h
 refine wpList_mapUpdate_own w hg mo xo yo t hop kt et S.K ht _ b m D hm h1 (by simp only [maxLen];omega) _ _ (lit x) hx hy (S.of x hi) (.held z) [] rfl fun w' h3 h4=>?_
 exact hK w' ⟨_,h3,h2.put S hi⟩ h4
end
end Go.Proofs.YtojgbcmhdnappaaGreatDoor
namespace Go.Proofs.YtojgbcmhdnappaaGreatDoor
open Go.RowKit
theorem boolInfo:(Tryz.prog.info? 4).map (fun i=>(i.zero,i.size,i.bytes))=some (some (.bool false),1,1):=by kernel_rfl
theorem made_bools (R:Nat):madeCells (Value.bool false).cells (R*1)=boolArr (List.replicate R false):=by
 rw [Nat.mul_one]
 apply Array.toList_inj.1
 rw [show (Value.bool false).cells=#[Value.bool false] from rfl,toList_madeCells_one]
 simp [boolArr]
theorem mk_bools (R:Nat) (hR:R≤1000000) (w:World):(Instr.makeSlice 116 (.int .i64 (R:Int)) (.int .i64 (R:Int))).run Tryz.prog w=.ok (.slice (some ⟨w.heap.size,0,none⟩) R R) (w.alloc (.cells (boolArr (List.replicate R false)) 4)):=by
 obtain ⟨i0,hi,hz0,hz1,hz2⟩:=info_parts boolInfo
 have h:=run_make (P:=Tryz.prog) w 116 4 i0 _ Tryz.underlying116 hi hz0 .i64 .i64 (R:Int) (R:Int) (by omega) (Int.le_refl _) (by rw [hz2];omega) (by omega)
 rw [hz1,Int.toNat_natCast,made_bools] at h
 exact h
section
variable {w:World} {c1 c2 c3 c4:Array Value} {t1 t2 t3 t4:TypeId}
end
end Go.Proofs.YtojgbcmhdnappaaGreatDoor
namespace Go.Proofs.YtojgbcmhdnappaaGreatDoor
open Go.RowKit
end Go.Proofs.YtojgbcmhdnappaaGreatDoor
