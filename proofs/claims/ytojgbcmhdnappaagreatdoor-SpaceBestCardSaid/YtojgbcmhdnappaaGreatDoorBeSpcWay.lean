/-
  A part of the proof: MapG, SpcCan, SpcWay. Conditions: none.
-/
import Derived.Test.YtojgbcmhdnappaaGreatDoorBeEvCount
import Derived.Test.YtojgbcmhdnappaaGreatDoorBeSpcOf
import Derived.Deep.Cut
import Derived.Test.YtojgbcmhdnappaaGreatDoorBeSpcCls
import Derived.Test.YtojgbcmhdnappaaGreatDoorBeBddMap
namespace Go.Proofs.YtojgbcmhdnappaaGreatDoor
open Go.RowKit Go.Maps
structure ReadsG {α:Type} (lit:α→Lit) (ok:α→Prop) (D:DataW Value) (f:α→Option Value):Prop where
 has:∀ x,ok x→Maps.has D (lit x)=(f x).isSome
 at_:∀ x z,ok x→f x=some z→∀ d,D.atKey (lit x) d=.held z
 isMap:IsMap D
def MapG (kt:TypeId) {α:Type} (lit:α→Lit) (ok:α→Prop) (w:World) (b:Nat) (f:α→Option Value) (m:Nat):Prop:=∃ D,w.ownsMap Tryz.prog kt heldR b m D∧ReadsG lit ok D f
section
variable {kt:TypeId} {α:Type} {key:α→Value} {lit:α→Lit} {ok:α→Prop} {w w':World} {b m:Nat} {f:α→Option Value}
theorem mapG_made (w:World):MapG kt lit ok (w.alloc (.map #[] 0)) w.heap.size (fun _=>none) 0 :=
 ⟨_,World.ownsMap_made _ _ _ _,⟨fun _ _=>rfl,fun _ _ _ e=>(by cases e),isMap_empty⟩⟩
theorem MapG.same (h:MapG kt lit ok w b f m) (hb:w'.heap[b]?=w.heap[b]?):MapG kt lit ok w' b f m:=by
 obtain ⟨D,⟨es,clock,h1,h2⟩,h3⟩:=h
 exact ⟨D,⟨es,clock,hb.trans h1,h2⟩,h3⟩
theorem MapG.lt (h:MapG kt lit ok w b f m):b<w.heap.size:=by
 obtain ⟨D,h1,_⟩:=h
 exact h1.lt
theorem MapG.below (h:MapG kt lit ok w b f m) (hb:Below w.heap.size w w'):MapG kt lit ok w' b f m:=h.same (hb.block b h.lt)
theorem MapG.isM (h:MapG kt lit ok w b f m):∃ es c,w.heap[b]?=some (.map es c):=by
 obtain ⟨D,⟨es,clock,h1,h2⟩,h3⟩:=h
 exact ⟨es,clock,h1⟩
theorem ReadsG.put [DecidableEq α] {D:DataW Value} (h:ReadsG lit ok D f) (S:KeyS kt α key lit ok) {x:α} {z:Value} (hx:ok x):ReadsG lit ok (D.put (lit x) (.held z)) (fun y=>if y=x then some z else f y):=by
 refine ⟨fun y hy=>?_,fun y z' hy e d=>?_,h.isMap.put _ _⟩
 ·by_cases e:y=x
  ·subst e
   rw [if_pos rfl]
   exact has_put_same h.isMap (S.isKey y hy) _
  ·rw [if_neg e,has_put_other (S.ne hy hx e)]
   exact h.has y hy
 ·by_cases e':y=x
  ·subst e'
   rw [if_pos rfl] at e
   cases e
   exact atKey_put_same h.isMap (S.isKey y hy) _ _
  ·rw [if_neg e'] at e
   rw [atKey_put_other (S.ne hy hx e')]
   exact h.at_ y z' hy e d
theorem ReadsG.val {D:DataW Value} (h:ReadsG lit ok D f) {x:α} (hi:ok x) {v z0:Value} {ps:List MemPlace} (hv:heldR v=some (D.atKey (lit x) (.held z0),ps)):v=(f x).getD z0:=by
 simp only [heldR,Option.some.injEq,Prod.mk.injEq] at hv
 obtain ⟨hv,_⟩:=hv
 cases e:f x with
 | none =>
  rw [atKey_of_not_has (by rw [h.has x hi,e];rfl)] at hv
  injection hv
 | some z =>
  rw [h.at_ x z hi e] at hv
  injection hv
theorem MapG.look (S:KeyS kt α key lit ok) {t et:TypeId} (ht:Tryz.prog.underlying t=some (.map kt et)) {z0:Value} (hz:∀ w,(zeroValue et).run Tryz.prog w=.ok z0 w) (h:MapG kt lit ok w b f m) (x:α) (hi:ok x) :
  (Instr.lookup t (.map (some b)) (key x) true).run Tryz.prog w=.ok (.tuple #[(f x).getD z0,.bool (f x).isSome]) w:=by
 obtain ⟨D,h1,h2⟩:=h
 obtain ⟨v,ps,hrun,hv⟩:=h1.look_ok S.K ht (hz w) (zd:=.held z0) (zp:=[]) rfl (S.of x hi)
 rw [h2.has x hi] at hrun
 rw [←h2.val hi hv]
 exact hrun
theorem storeG [DecidableEq α] {ops:Array Oper} {rest:List Oper} {o:Oper} {a:Act} {Q:Exit→Act→World→Prop} (S:KeyS kt α key lit ok) (hg:o.guard=none) (mo xo yo:Operand) (t et:TypeId) (hop:o.op=Op.mapUpdate t mo xo yo) (ht:Tryz.prog.underlying t=some (.map kt et))
  (hm:a.eval mo=.map (some b)) (h:MapG kt lit ok w b f m) (x:α) (z:Value) (hx:a.eval xo=key x) (hy:a.eval yo=z) (hi:ok x) (hs:m≤1000000000)
  (hK:∀ w',MapG kt lit ok w' b (fun y=>if y=x then some z else f y) (m+1)→w.grownBy w' (some b)→wpList Tryz.prog ops Q rest (a.put o.dst undef) w'):wpList Tryz.prog ops Q (o :: rest) a w:=by
 obtain ⟨D,h1,h2⟩:=h
 refine wpList_mapUpdate_own w hg mo xo yo t hop kt et S.K ht _ b m D hm h1 (by simp only [maxLen];omega) _ _ (lit x) hx hy (S.of x hi) (.held z) [] rfl fun w' h3 h4=>?_
 exact hK w' ⟨_,h3,h2.put S hi⟩ h4
end
end Go.Proofs.YtojgbcmhdnappaaGreatDoor
namespace Go.Proofs.YtojgbcmhdnappaaGreatDoor
open Go.RowKit Go.Maps
set_option maxRecDepth 100000
theorem SpM.toB {w:World} {S B gn gu gt gc m:Nat} {vars:Int} {A:Ar} (h:SpM w S B gn gu gt gc vars A m):SpB w S B gn gu gt gc vars A:=⟨h.kS,h.ar,h.sp.wf⟩
theorem SpM.toN {w:World} {S B gn gu gt gc m:Nat} {vars:Int} {A:Ar} (h:SpM w S B gn gu gt gc vars A m):CtN A vars:=⟨h.sp.wf,h.sp.var,h.v6.1,by have:=h.v6.2;omega⟩
section
variable {w w' wr:World} {S B gn gu gt gc P vn v gd m:Nat} {A:Ar} {all:Value} {is:Bool} {f:Int→Option Value} {h:Int}
theorem mapG_ne {kt:TypeId} {α:Type} {lit:α→Lit} {ok:α→Prop} {F:α→Option Value} {t:TypeId} {g:Nat} {cs:Array Value} (h:MapG kt lit ok w gd F m) (hk:Blk w g t cs):g≠gd:=fun e=>by
 obtain ⟨es,c,hm⟩:=h.isM
 subst e
 cases hk.symm.trans hm
end
theorem SpcO.below {w w':World} {base P n:Nat} {cs:List (List Int)} (h:SpcO w base P n cs) (hb:Below w.heap.size w w'):SpcO w' base P n cs:=by
 obtain ⟨S,B,gn,gu,gt,gc,all,A,m,h1,h2,h3⟩:=h.is
 exact ⟨⟨S,B,gn,gu,gt,gc,all,A,m,h1.below hb h1.lt,⟨h2.sp.below hb,h2.has,h2.den⟩,h3⟩,h.ge⟩
end Go.Proofs.YtojgbcmhdnappaaGreatDoor
namespace Go.Proofs.YtojgbcmhdnappaaGreatDoor
theorem way_none (c:Nat→Bool→Nat):∀ k i,wayF c k i (fun _=>false)=none:=by
 intro k
 induction k with
 | zero=>intro i;rfl
 | succ k ih=>intro i;rw [wayF,ih];rfl
section
variable {A:Ar} {vn:Nat} {c:Nat→Bool→Nat}
theorem way_end (hv:VarA A (vn:Int)) {h:Int} (ht:(vn:Int)≤topA A h):wayF c 0 vn (den A h)=if h=1 then some (0,0) else none:=by
 have hn:gotA A h=none:=by
  cases e:gotA A h with
  | none=>rfl
  | some d=>have:=hv _ _ e;rw [top_some e] at ht;omega
 rw [wayF,den_none hn]
 by_cases h1:h=1
 ·subst h1;rfl
 ·rw [if_neg h1,if_neg (by simpa using h1)]
theorem way_zero (A:Ar) (k i:Nat):wayF c k i (den A 0)=none:=by
 have e:den A 0=fun _=>false:=by
  funext v
  have hn:gotA A 0=none:=gotA_low (by decide)
  rw [den_none hn]
  rfl
 rw [e,way_none]
theorem way_node (hw:WfA A) {h:Int} {d:Nd} {k i:Nat} (e:gotA A h=some d) (hd:d.var=(i:Int)) :
  wayF c (k+1) i (den A h)=pickF ((wayF c k (i+1) (den A d.high)).map fun p=>(p.1+c i true,p.2+2 ^ i)) ((wayF c k (i+1) (den A d.low)).map fun p=>(p.1+c i false,p.2)):=by
 have e1:(fun v=>den A h (upd v i true))=den A d.high:=by
  funext v
  rw [←hd]
  exact (den_kid hw e true).symm
 have e2:(fun v=>den A h (upd v i false))=den A d.low:=by
  funext v
  rw [←hd]
  exact (den_kid hw e false).symm
 rw [wayF,e1,e2]
theorem way_skip (hw:WfA A) {h:Int} {k i:Nat} (ht:(i:Int)<topA A h) :
  wayF c (k+1) i (den A h)=pickF ((wayF c k (i+1) (den A h)).map fun p=>(p.1+c i true,p.2+2 ^ i)) ((wayF c k (i+1) (den A h)).map fun p=>(p.1+c i false,p.2)):=by
 have e1:∀ b,(fun v=>den A h (upd v i b))=den A h:=fun b=>by
  funext v
  exact den_upd hw ht
 rw [wayF,e1,e1]
end
structure WayZ (K i:Nat) (o:Option (Nat×Nat)) (cost vals:Nat) (ok:Bool):Prop where
 is:o=if ok then some (cost,vals) else none
 cost:cost≤K*1000000
 vals:vals<2 ^ (i+K)∧vals % 2 ^ i=0
theorem WayZ.none (K i:Nat):WayZ K i none 0 0 false:=⟨rfl,Nat.zero_le _,Nat.two_pow_pos _,Nat.zero_mod _⟩
theorem way_mod {x i:Nat} (h:x % 2 ^ (i+1)=0):x % 2 ^ i=0∧(x+2 ^ i) % 2 ^ i=0∧x ||| 2 ^ i=x+2 ^ i:=by
 obtain ⟨q,rfl⟩:=Nat.dvd_of_mod_eq_zero h
 have e:2 ^ (i+1)*q=2 ^ i*(2*q):=by rw [Nat.pow_succ,Nat.mul_assoc]
 refine ⟨by rw [e];exact Nat.mul_mod_right _ _,by rw [e,←Nat.mul_succ];exact Nat.mul_mod_right _ _,?_⟩
 exact (Nat.two_pow_add_eq_or_of_lt (Nat.pow_lt_pow_right (by decide) (Nat.lt_succ_self i)) q).symm
theorem way_room {x i K:Nat} (h:x % 2 ^ (i+1)=0) (hx:x<2 ^ (i+1+K)):x+2 ^ i<2 ^ (i+(K+1)):=by
 obtain ⟨q,rfl⟩:=Nat.dvd_of_mod_eq_zero h
 have e:2 ^ (i+1+K)=2 ^ (i+1)*2 ^ K:=Nat.pow_add _ _ _
 have e2:i+(K+1)=i+1+K:=by omega
 rw [e2]
 rw [e] at hx ⊢
 have h1:q<2 ^ K:=Nat.lt_of_mul_lt_mul_left hx
 have h2:2 ^ (i+1)*q+2 ^ (i+1)≤2 ^ (i+1)*2 ^ K:=by rw [←Nat.mul_succ];exact Nat.mul_le_mul_left _ h1
 have h3:2 ^ i<2 ^ (i+1):=Nat.pow_lt_pow_right (by decide) (Nat.lt_succ_self i)
 omega
theorem WayZ.pick {K i ca va cb vb c1 c0:Nat} {ka kb:Bool} {oa ob:Option (Nat×Nat)} (ha:WayZ K (i+1) oa ca va ka) (hb:WayZ K (i+1) ob cb vb kb) (h1:c1≤1000000) (h0:c0≤1000000) :
  ((ka=false∨(kb=true∧cb+c0<ca+c1))→WayZ (K+1) i (pickF (oa.map fun p=>(p.1+c1,p.2+2 ^ i)) (ob.map fun p=>(p.1+c0,p.2))) (cb+c0) vb kb) ∧
  (¬(ka=false∨(kb=true∧cb+c0<ca+c1))→WayZ (K+1) i (pickF (oa.map fun p=>(p.1+c1,p.2+2 ^ i)) (ob.map fun p=>(p.1+c0,p.2))) (ca+c1) (va+2 ^ i) ka):=by
 have hm:=way_mod hb.vals.2
 have ha2:=way_mod ha.vals.2
 have hra:=way_room ha.vals.2 ha.vals.1
 have hrb:=hb.vals.1
 have eK:(K+1)*1000000=K*1000000+1000000:=Nat.succ_mul _ _
 have e2:i+1+K=i+(K+1):=by omega
 have hca:=ha.cost
 have hcb:=hb.cost
 rw [e2] at hrb
 refine ⟨fun h=>⟨?_,by omega,hrb,hm.1⟩,fun h=>⟨?_,by omega,hra,ha2.2.1⟩⟩
 ·rw [ha.is,hb.is]
  rcases h with rfl | ⟨rfl,hlt⟩
  ·cases kb <;> rfl
  ·cases ka
   ·rfl
   ·show pickF (some _) (some _)=_
    rw [pick_two,if_pos hlt]
    rfl
 ·rw [ha.is,hb.is]
  cases ka
  ·exact absurd (.inl rfl) h
  ·cases kb
   ·rfl
   ·show pickF (some _) (some _)=_
    rw [pick_two,if_neg (fun hlt=>h (.inr ⟨rfl,hlt⟩))]
    rfl
end Go.Proofs.YtojgbcmhdnappaaGreatDoor
