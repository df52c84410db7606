/-
  A part of the proof: CatChk. Conditions: none.
-/
import Derived.Test.YtojgbcmhdnappaaGreatDoorAlCalm
import Derived.Maps.OwnSet
import Derived.Maps.Views
import Derived.StringKeys
import Derived.DeepKeys3
import Derived.ChangeKeysEq
import Derived.Deep.RegionHeld3
namespace Go.Proofs.YtojgbcmhdnappaaGreatDoor
open Go.RowKit Go.Maps
open Classical
structure KeyN (kt:TypeId) (α:Type) (key:α→Value) (lit:α→Lit) (ok:α→Prop):Prop where
 K:Keyed Tryz.prog kt
 of:∀ x,ok x→keyOf Tryz.prog kt (key x)=some (lit x)
 inj:∀ x y,ok x→ok y→lit x=lit y→x=y
 isKey:∀ x,ok x→WideAt.IsKeyLit (lit x)
structure RdN {α:Type} (lit:α→Lit) (ok:α→Prop) (D:DataW Unit) (l:List α):Prop where
 has:∀ x,ok x→Maps.has D (lit x)=decide (x∈l)
 at_:∀ x,ok x→x∈l→∀ d,D.atKey (lit x) d=.lit (.bool true)
 isMap:IsMap D
 ok_:∀ x∈l,ok x
def SetN (kt:TypeId) {α:Type} (lit:α→Lit) (ok:α→Prop) (w:World) (g n:Nat) (l:List α):Prop:=∃ D,w.ownsMap Tryz.prog kt (plainElem Tryz.prog 4) g n D∧RdN lit ok D l∧Maps.size D=l.length
noncomputable def addK {α:Type} (l:List α) (x:α):List α:=if x∈l then l else l++[x]
section
variable {kt:TypeId} {α:Type} {key:α→Value} {lit:α→Lit} {ok:α→Prop} {w w':World} {g n:Nat} {l:List α}
theorem setN_made (w:World):SetN kt lit ok (w.alloc (.map #[] 0)) w.heap.size 0 [] :=
 ⟨_,World.ownsMap_made _ _ _ _,⟨fun _ _=>by simp [Maps.has],fun _ _ h=>absurd h List.not_mem_nil,isMap_empty,fun _ h=>absurd h List.not_mem_nil⟩,rfl⟩
theorem SetN.same (h:SetN kt lit ok w g n l) (hb:w'.heap[g]?=w.heap[g]?):SetN kt lit ok w' g n l:=by
 obtain ⟨D,⟨es,clock,h1,h2⟩,h3⟩:=h
 exact ⟨D,⟨es,clock,hb.trans h1,h2⟩,h3⟩
theorem SetN.lt (h:SetN kt lit ok w g n l):g<w.heap.size:=by
 obtain ⟨D,h1,_⟩:=h
 exact h1.lt
theorem SetN.below (h:SetN kt lit ok w g n l) {C:Nat} (hb:Below C w w') (hC:g<C):SetN kt lit ok w' g n l:=h.same (hb.block g hC)
theorem SetN.grown {r:Option Nat} (h:SetN kt lit ok w g n l) (hg:w.grownBy w' r) (hr:some g≠r):SetN kt lit ok w' g n l:=h.same (hg.block g h.lt hr)
theorem RdN.put (N:KeyN kt α key lit ok) {D:DataW Unit} (h:RdN lit ok D l) {x:α} (hx:ok x):RdN lit ok (D.put (lit x) (.lit (.bool true))) (addK l x):=by
 have hm:=h.isMap
 have mem:∀ y,y∈addK l x↔y=x∨y∈l:=by
  intro y
  unfold addK
  split
  ·rename_i hxl
   constructor
   ·exact .inr
   ·rintro (rfl | hy)
    ·exact hxl
    ·exact hy
  ·rw [List.mem_append,List.mem_singleton]
   exact Or.comm
 refine ⟨fun y hy=>?_,fun y hy hl d=>?_,?_,fun y hy=>?_⟩
 ·by_cases e:y=x
  ·subst e
   rw [has_put_same hm (N.isKey y hy)]
   exact (decide_eq_true ((mem y).2 (.inl rfl))).symm
  ·rw [has_put_other (fun e2=>e (N.inj y x hy hx e2)),h.has y hy]
   congr 1
   exact propext ⟨fun h9=>(mem y).2 (.inr h9),fun h9=>((mem y).1 h9).resolve_left e⟩
 ·by_cases e:y=x
  ·subst e
   exact atKey_put_same hm (N.isKey y hy) _ _
  ·rw [atKey_put_other (fun e2=>e (N.inj y x hy hx e2))]
   exact h.at_ y hy (((mem y).1 hl).resolve_left e) d
 ·obtain ⟨es,rfl⟩:=hm
  exact ⟨_,rfl⟩
 ·rcases (mem y).1 hy with rfl | h9
  ·exact hx
  ·exact h.ok_ y h9
theorem SetN.update (N:KeyN kt α key lit ok) {t:TypeId} (ht:Tryz.prog.underlying t=some (.map kt 4)) (h:SetN kt lit ok w g n l) (x:α) (hx:ok x) (hn:n≤1000000) :
  ∃ w',(Instr.mapUpdate t (.map (some g)) (key x) (.bool true)).run Tryz.prog w=.ok () w'∧SetN kt lit ok w' g (n+1) (addK l x)∧w.grownBy w' (some g):=by
 obtain ⟨D,h1,h2,h3⟩:=h
 obtain ⟨w',hrun,r1,r2⟩:=h1.update N.K ht (by simp only [maxLen];omega) (N.of x hx) (plainElem_bool Tryz.underlying4 true)
 refine ⟨w',hrun,⟨_,r1,h2.put N hx,?_⟩,r2⟩
 rw [size_put (h1.tidy N.K),h2.has x hx,h3]
 unfold addK
 by_cases e:x∈l
 ·simp [e]
 ·simp [e]
theorem SetN.look (N:KeyN kt α key lit ok) {t:TypeId} (ht:Tryz.prog.underlying t=some (.map kt 4)) (h:SetN kt lit ok w g n l) (x:α) (hx:ok x) :
  (Instr.lookup t (.map (some g)) (key x) false).run Tryz.prog w=.ok (.bool (decide (x∈l))) w:=by
 obtain ⟨D,h1,h2,_⟩:=h
 obtain ⟨v,ps,hrun,hv⟩:=h1.lookup N.K ht (show (zeroValue 4).run Tryz.prog w=.ok (.bool false) w by kernel_rfl) (zd:=.lit (.bool false)) (zp:=[]) (plainElem_bool Tryz.underlying4 false) (N.of x hx)
 have hd:D.atKey (lit x) (.lit (.bool false))=.lit (.bool (decide (x∈l))):=by
  by_cases e:x∈l
  ·rw [h2.at_ x hx e,decide_eq_true e]
  ·rw [atKey_of_not_has (by rw [h2.has x hx,decide_eq_false e]),decide_eq_false e]
 rw [hd] at hv
 have e:v=.bool (decide (x∈l)):=by
  have hu:=Tryz.underlying4
  cases v <;> simp [plainElem,hu] at hv
  rename_i b
  simp [hv]
 rw [←e]
 exact hrun
theorem SetN.look_t (N:KeyN kt α key lit ok) {t:TypeId} (ht:Tryz.prog.underlying t=some (.map kt 4)) (h:SetN kt lit ok w g n l) (x:α) (hx:ok x) (hm:x∈l) :
  (Instr.lookup t (.map (some g)) (key x) false).run Tryz.prog w=.ok (.bool true) w:=by have:=h.look N ht x hx;rw [decide_eq_true hm] at this;exact this
theorem SetN.look_f (N:KeyN kt α key lit ok) {t:TypeId} (ht:Tryz.prog.underlying t=some (.map kt 4)) (h:SetN kt lit ok w g n l) (x:α) (hx:ok x) (hm:x∉l) :
  (Instr.lookup t (.map (some g)) (key x) false).run Tryz.prog w=.ok (.bool false) w:=by have:=h.look N ht x hx;rw [decide_eq_false hm] at this;exact this
theorem SetN.more (h:SetN kt lit ok w g n l):SetN kt lit ok w g (n+1) l:=by
 obtain ⟨D,h1,h2⟩:=h
 exact ⟨D,h1.mono (Nat.le_succ _),h2⟩
end
def okS (s:ByteArray):Prop:=s.size≤21000
theorem keyNm:KeyN 9 ByteArray (fun s=>.string s) (fun s=>.string s.data.toList) okS :=
 ⟨string_keyed Tryz.underlying9,fun s h=>WideMaps.keyOf_string_mk Tryz.underlying9 (by unfold okS at h;simp only [maxLen];omega),fun s u _ _ e=>by
  injection e with e
  exact (bytes_back _ s rfl).symm.trans (bytes_back _ u e),fun _ _=>trivial⟩
def okI (a:ItR):Prop:=a.1.size≤21000∧I64 a.2.1∧I64 a.2.2.1∧I64 a.2.2.2
def itA (a:ItR):Array Value:=#[.string a.1,.int .i64 a.2.1,.int .i64 a.2.2.1,.int .i64 a.2.2.2]
def itLit (a:ItR):Lit:=.string (keyBytes [.string a.1.data.toList,.int .i64 a.2.1,.int .i64 a.2.2.1,.int .i64 a.2.2.2])
theorem lawIt:WideMaps.KeyLaw Tryz.prog 162:=deep_law (m:=6) (by omega) (by kernel_rfl) (by kernel_rfl) (by kernel_rfl)
theorem wfI64 {z:Int} (h:I64 z):(Lit.int .i64 z).wf=true:=WalkArith.wf_i64 (by unfold I64 at h;omega)
theorem structIt:∃ fs,Tryz.prog.underlying 162=some (.struct fs)∧fs.toList.map (fun f=>(f.name != "_",f.type,f.offset))=[(true,9,0),(true,30,1)] :=
 ⟨Tryz.prog.fieldsOf 162,by kernel_rfl,by kernel_rfl⟩
theorem keyIt_of {a:ItR} (h:okI a):keyOf Tryz.prog 162 (.agg (itA a))=some (itLit a):=by
 obtain ⟨s,x,y,z⟩:=a
 obtain ⟨h0,h1,h2,h3⟩:=h
 obtain ⟨fs,hu,hfs⟩:=structIt
 obtain ⟨f0,f1,hl⟩:∃ f0 f1,fs.toList=[f0,f1]:=by
  have h2:fs.toList.length=2:=by have:=congrArg List.length hfs;rw [List.length_map] at this;exact this
  generalize fs.toList=l at h2
  cases l with
  | nil=>cases h2
  | cons f0 r =>
   cases r with
   | nil=>cases h2
   | cons f1 r =>
    cases r with
    | nil=>exact ⟨f0,f1,rfl⟩
    | cons _ _=>simp at h2
 rw [hl] at hfs
 simp only [List.map_cons,List.map_nil,List.cons.injEq,Prod.mk.injEq,and_true] at hfs
 obtain ⟨⟨n0,t0,o0⟩,n1,t1,o1⟩:=hfs
 have hkt:Tryz.prog.keyType 162=true:=by kernel_rfl
 have hc:Tryz.prog.cellsOf 162=4:=by kernel_rfl
 have hcv:Tryz.prog.cellsOf 30=3:=by kernel_rfl
 have hci:Tryz.prog.cellsOf 3=1:=by kernel_rfl
 have hcs:Tryz.prog.cellsOf 9=1:=by kernel_rfl
 obtain ⟨m,hm⟩:∃ m,Tryz.prog.types.size=m+1+1:=⟨441-2,by kernel_rfl⟩
 have es:=Tryz.underlying9
 have ev:=Tryz.underlying30
 have ei:=Tryz.underlying3
 have hall:fs.all (fun f=>f.name != "_")=true:=by
  rw [←Array.all_toList,hl]
  simp only [List.all_cons,List.all_nil,n0,n1,Bool.and_true]
 have hsz:s.size≤maxLen:=by simp only [maxLen];simp only [] at h0;omega
 unfold keyOf itLit itA
 simp only [hu]
 rw [if_pos (by simp [hkt,Value.formed,hu,hc]),hm]
 unfold Program.keyLits
 simp only [hu,Value.cells]
 rw [if_pos ⟨by rw [hc];rfl,hall⟩,hl,List.mapM_cons,List.mapM_cons,List.mapM_nil,t0,t1,o0,o1,hcs,hcv]
 simp [Program.keyLits,es,ev,ei,hcv,hci,hsz,wfI64 h1,wfI64 h2,wfI64 h3,List.range,List.range.loop]
theorem keyIt:KeyN 162 ItR (fun a=>.agg (itA a)) itLit okI:=by
 refine ⟨.of_law lawIt,fun _ h=>keyIt_of h,fun x y hx hy e=>?_,fun _ _=>trivial⟩
 have e2:=lawIt.inj (keyIt_of hx) ((keyIt_of hy).trans (congrArg some e.symm))
 obtain ⟨s,a,b,c⟩:=x
 obtain ⟨s',a',b',c'⟩:=y
 unfold itA at e2
 simp at e2
 simp [e2]
end Go.Proofs.YtojgbcmhdnappaaGreatDoor
namespace Go.Proofs.YtojgbcmhdnappaaGreatDoor
open Go.RowKit Go.Maps
theorem SetN.heap {kt:TypeId} {α:Type} {lit:α→Lit} {ok:α→Prop} {w:World} {g n:Nat} {l:List α} (h:SetN kt lit ok w g n l):∃ es clock,w.heap[g]?=some (.map es clock)∧es.size=l.length:=by
 obtain ⟨D,⟨es,clock,hb,F,_,rfl⟩,_,h3⟩:=h
 refine ⟨es,clock,hb,?_⟩
 rw [←h3]
 simp [Maps.size,length_sorted]
theorem own_nomap {w:World} {b s n g:Nat} {e:TypeId} {v:Value} {xs:List Value} (h:w.ownsRow b e s v n xs) {es:Array MapEntry} {clock:Nat} (hm:w.heap[g]?=some (.map es clock)):v.ownBlock=none∨v.ownBlock≠some g:=by
 rcases h.2 with ⟨rfl,_⟩ | ⟨g',cap,cur,rfl,_,hg,_⟩
 ·exact .inl rfl
 ·refine .inr fun e9=>?_
  have e8:g'=g:=Option.some.inj e9
  subst e8
  rw [hg] at hm
  cases hm
theorem LnsR.grown_map {w w':World} {base g:Nat} {v:Value} {qs:List LnQ} (h:LnsR w base v qs) (hg:w.grownBy w' (some g)) (hm:∃ es clock,w.heap[g]?=some (.map es clock)):LnsR w' base v qs:=by
 obtain ⟨es,clock,hm⟩:=hm
 exact ⟨h.1.kept hg (own_nomap h.1 hm),fun q hq=>⟨OwnI.kept (h.2 q hq).1 hg (own_nomap (h.2 q hq).1 hm),(h.2 q hq).2⟩⟩
theorem LnsP.grown_map {w w':World} {base g:Nat} {v:Value} {qs:List LnQ} (h:LnsP w base v qs) (hg:w.grownBy w' (some g)) (hm:∃ es clock,w.heap[g]?=some (.map es clock)):LnsP w' base v qs:=by
 obtain ⟨es,clock,hm⟩:=hm
 exact ⟨h.1.kept hg (own_nomap h.1 hm),fun q hq=>⟨OwnP.kept (h.2 q hq).1 hg (own_nomap (h.2 q hq).1 hm),(h.2 q hq).2⟩⟩
theorem SetN.map {kt:TypeId} {α:Type} {lit:α→Lit} {ok:α→Prop} {w:World} {g n:Nat} {l:List α} (h:SetN kt lit ok w g n l):∃ es clock,w.heap[g]?=some (.map es clock):=by
 obtain ⟨es,clock,h1,_⟩:=h.heap
 exact ⟨es,clock,h1⟩
theorem SetN.lenIs {kt:TypeId} {α:Type} {lit:α→Lit} {ok:α→Prop} {w:World} {g n:Nat} {l:List α} (h:SetN kt lit ok w g n l) {t:TypeId} (ht:Tryz.prog.underlying t=some (.map kt 4)) (z:Int) (hz:z=(l.length:Int)) (ty:TypeId):(Builtin.len_ #[t] ty #[.map (some g)]).run Tryz.prog w=.ok (.int .i64 z) w:=by
 obtain ⟨D,h1,_,h5⟩:=h
 rw [hz,←h5]
 exact h1.len ht ty
end Go.Proofs.YtojgbcmhdnappaaGreatDoor
namespace Go.Proofs.YtojgbcmhdnappaaGreatDoor
open Go.RowKit
set_option maxRecDepth 100000
theorem infoInt_c:(Tryz.prog.info? 3).isSome=true:=by kernel_rfl
theorem cellsInt_c:Tryz.prog.cellsOf 3=1:=by kernel_rfl
def eq3 (x y z a b c:Int):Bool:=x==a&&(y==b&&z==c)
theorem eqlArr_c (T:TypeId) (hT:Tryz.prog.underlying T=some (.array 3 3)) (x y z a b c:Int) (w:World):(Op.equalIn 10000 T (.agg #[.int .i64 x,.int .i64 y,.int .i64 z]) (.agg #[.int .i64 a,.int .i64 b,.int .i64 c])).run Tryz.prog w=.ok (eq3 x y z a b c) w:=by
 obtain ⟨i,hi⟩:=Option.isSome_iff_exists.1 infoInt_c
 have hp:∀ (xs:Array Value) (j:Nat) (n:Int),xs[j]?=some (.int .i64 n)→(part 3 xs j).run Tryz.prog w=.ok (.int .i64 n) w:=fun xs j n h=>by simp [part,isAgg,run_underlying Tryz.underlying3,h]
 have he:∀ (a b:Int),(Op.equalIn 9999 3 (.int .i64 a) (.int .i64 b)).run Tryz.prog w=.ok (a==b) w:=fun a b=>run_equalIn_int w 9998 3 .i64 .i64 a b Tryz.underlying3
 rw [run_equalIn_array w 9999 _ _ hT hi,cellsInt_c,show List.range 3=[0,1,2] from rfl]
 unfold eq3
 by_cases h1:x=a
 ·by_cases h2:y=b
  ·by_cases h3:z=c
   ·simp [Op.eqItems,hp _ 0 x,hp _ 1 y,hp _ 2 z,he,h1,h2,h3]
   ·simp [Op.eqItems,hp _ 0 x,hp _ 1 y,hp _ 2 z,hp _ 2 c,he,h1,h2,h3]
  ·simp [Op.eqItems,hp _ 0 x,hp _ 1 y,hp _ 1 b,he,h1,h2]
 ·simp [Op.eqItems,hp _ 0 x,hp _ 0 a,he,h1]
theorem neqRV (x y z:Int) (w:World):(binOp .neq 30 (.agg #[.int .i64 x,.int .i64 y,.int .i64 z]) (.agg #[.int .i64 0,.int .i64 0,.int .i64 0])).run Tryz.prog w=.ok (.bool (!eq3 x y z 0 0 0)) w:=by
 rw [run_neq_struct,eqlArr_c _ Tryz.underlying30];rfl
theorem neqPV (x y z:Int) (w:World):(binOp .neq 85 (.agg #[.int .i64 x,.int .i64 y,.int .i64 z]) (.agg #[.int .i64 0,.int .i64 0,.int .i64 0])).run Tryz.prog w=.ok (.bool (!eq3 x y z 0 0 0)) w:=by
 rw [run_neq_struct,eqlArr_c _ Tryz.underlying85];rfl
noncomputable def chkF (k:Int) (n1 n2 o r z ok:Bool):Int :=
 if k<1∨4<k then 1 else if n1=false∨(k=2∨k=3)∧n2=false then 5 else if ¬(k=2∨k=3)∧o=false∨k=1∧r=false∨k=4∧z=false then 1 else if k≠4∧ok=false then 2 else 0
theorem eq3_z (a b c:Int):eq3 a b c 0 0 0=false↔¬(a=0∧b=0∧c=0):=by
 unfold eq3
 by_cases h1:a=0 <;> by_cases h2:b=0 <;> by_cases h3:c=0 <;> simp [h1,h2,h3]
theorem chk_is (k:Int) (nm:ByteArray) (ver:Nat→Int) (ot:ByteArray) (rg:List (Nat×Nat)):chkL ⟨k,nm,ver,ot,rg⟩=chkF k (nameB nm) (nameB ot) ot.toList.isEmpty rg.isEmpty (eq3 (ver 0) (ver 1) (ver 2) 0 0 0) (okB ver):=by
 unfold chkL chkF
 have e1:ot.size≠0↔ot.toList.isEmpty=false:=by
  rw [ByteArray.toList_eq]
  show ot.data.toList.length≠0↔_
  cases ot.data.toList <;> simp
 have e2:rg≠[]↔rg.isEmpty=false:=by cases rg <;> simp
 simp only [e1,e2,eq3_z]
def lnA (q:LnQ):Array Value:=#[.int .i64 q.1.k,.string q.1.name,.int .i64 (q.1.ver 0),.int .i64 (q.1.ver 1),.int .i64 (q.1.ver 2),.string q.1.other,.slice q.2.1 q.2.2.1 q.2.2.2]
def ChkP (x:LnR) (w:World) (e:Ending) (w':World):Prop:=e=.returned (.int .i64 (chkL x))∧Below w.heap.size w w'
def wiB (x:Int):Bool:=decide (0≤x)&&decide (x≤999)
theorem wiB_any (x:Int) (w:World):Calls Tryz.prog 129 #[.int .i64 x,.int .i64 0,.int .i64 999] w (fun e w'=>e=.returned (.bool (wiB x))∧w=w'):=within3_any x 0 999 w
def wkB (x:Int):Bool:=decide (1≤x)&&decide (x≤4)
theorem wkB_any (x:Int) (w:World):Calls Tryz.prog 129 #[.int .i64 x,.int .i64 1,.int .i64 4] w (fun e w'=>e=.returned (.bool (wkB x))∧w=w'):=within3_any x 1 4 w
theorem okB_wi (f:Nat→Int):okB f=(wiB (f 0)&&(wiB (f 1)&&wiB (f 2))):=by
 unfold okB wiB
 rw [Bool.eq_iff_iff]
 simp only [decide_eq_true_eq,Bool.and_eq_true]
 omega
theorem idxR0 (a b c:Int) (w:World):(Instr.index 30 (.agg #[.int .i64 a,.int .i64 b,.int .i64 c]) (.int .i64 0)).run Tryz.prog w=.ok (.int .i64 a) w:=by kernel_rfl
theorem idxR1 (a b c:Int) (w:World):(Instr.index 30 (.agg #[.int .i64 a,.int .i64 b,.int .i64 c]) (.int .i64 1)).run Tryz.prog w=.ok (.int .i64 b) w:=by kernel_rfl
theorem idxR2 (a b c:Int) (w:World):(Instr.index 30 (.agg #[.int .i64 a,.int .i64 b,.int .i64 c]) (.int .i64 2)).run Tryz.prog w=.ok (.int .i64 c) w:=by kernel_rfl
set_option maxHeartbeats 8000000 in
theorem refChk_any (q:LnQ) (hk:LnOk q.1) (hn:q.2.2.1=(flatI q.1.rg).length) (w:World):Calls Tryz.prog 75 #[.agg (lnA q)] w (ChkP q.1 w):=by
 obtain ⟨⟨k,nm,ver,ot,rg⟩,A,n,c⟩:=q
 have hnm:=hk.nm
 have hot:=hk.ot
 have hB:=hide ((Below.refl w.heap.size w).alloc (Nat.le_refl _) (.cells #[.int .i64 k,.string nm,.int .i64 (ver 0),.int .i64 (ver 1),.int .i64 (ver 2),.string ot,.slice A n c] 34))
 have hrg:n=0↔rg=[]:=by
  have:n=(flatI rg).length:=hn
  rw [this,flatI_len,flat_len]
  cases rg <;> simp
 simp only [] at hnm hot
 clear hn hk
 show Calls Tryz.prog 75 #[.agg #[.int .i64 k,.string nm,.int .i64 (ver 0),.int .i64 (ver 1),.int .i64 (ver 2),.string ot,.slice A n c]] w (fun e w'=>e=.returned (.int .i64 (chkL ⟨k,nm,ver,ot,rg⟩))∧Below w.heap.size w w')
 have HI0:=idxR0 (ver 0) (ver 1) (ver 2)
 have HI1:=idxR1 (ver 0) (ver 1) (ver 2)
 have HI2:=idxR2 (ver 0) (ver 1) (ver 2)
 have HNE:=neqRV (ver 0) (ver 1) (ver 2)
 have HN:=hide (fun W=>refName_any nm W (by omega))
 have HO:=hide (fun W=>refName_any ot W (by omega))
 cases hkb:wkB k with
 | false =>
  have hko:k<1∨4<k:=by unfold wkB at hkb;simp only [Bool.and_eq_false_iff,decide_eq_false_iff_not] at hkb;omega
  have hv:chkL ⟨k,nm,ver,ot,rg⟩=1:=by rw [chk_is,chkF,if_pos hko]
  clear hko
  rw [hv]
  clear hv
  go_enter Tryz.func75,Tryz.ntmps75
  go_wp2_with (first | (go_at_call 129;first | ((with_reducible refine (wkB_any _ _).mono ?_);rintro e w' ⟨rfl,rfl⟩) | ((with_reducible refine (wiB_any _ _).mono ?_);rintro e w' ⟨rfl,rfl⟩)) | (go_at_call 130;first | ((with_reducible refine (HN.out _).mono ?_);rintro e w' ⟨rfl,rfl⟩) | ((with_reducible refine (HO.out _).mono ?_);rintro e w' ⟨rfl,rfl⟩)))
  go_ret
  exact ⟨rfl,hB.out⟩
 | true =>
  have hk4:k=1∨k=2∨k=3∨k=4:=by unfold wkB at hkb;simp only [Bool.and_eq_true,decide_eq_true_eq] at hkb;omega
  rcases hk4 with rfl | rfl | rfl | rfl
  ·cases hnb:nameB nm with
   | false =>
    rw [hnb] at HN
    have hv:chkL ⟨1,nm,ver,ot,rg⟩=5:=by rw [chk_is];simp [chkF,hnb]
    rw [hv]
    clear hv
    go_enter Tryz.func75,Tryz.ntmps75
    go_wp2_with (first | (go_at_call 129;first | ((with_reducible refine (wkB_any _ _).mono ?_);rintro e w' ⟨rfl,rfl⟩) | ((with_reducible refine (wiB_any _ _).mono ?_);rintro e w' ⟨rfl,rfl⟩)) | (go_at_call 130;first | ((with_reducible refine (HN.out _).mono ?_);rintro e w' ⟨rfl,rfl⟩) | ((with_reducible refine (HO.out _).mono ?_);rintro e w' ⟨rfl,rfl⟩)))
    go_ret
    exact ⟨rfl,hB.out⟩
   | true =>
    rw [hnb] at HN
    cases hr2:ot.toList.isEmpty with
    | false =>
     have hr1:(!ot.toList.isEmpty)=true:=by rw [hr2];rfl
     have hr0:¬ot.toList=[]:=by intro e;rw [e] at hr2;cases hr2
     have hv:chkL ⟨1,nm,ver,ot,rg⟩=1:=by rw [chk_is];simp [chkF,hnb,hr0]
     rw [hv]
     clear hv
     go_enter Tryz.func75,Tryz.ntmps75
     go_wp2_with (first | (go_at_call 129;first | ((with_reducible refine (wkB_any _ _).mono ?_);rintro e w' ⟨rfl,rfl⟩) | ((with_reducible refine (wiB_any _ _).mono ?_);rintro e w' ⟨rfl,rfl⟩)) | (go_at_call 130;first | ((with_reducible refine (HN.out _).mono ?_);rintro e w' ⟨rfl,rfl⟩) | ((with_reducible refine (HO.out _).mono ?_);rintro e w' ⟨rfl,rfl⟩)))
     go_ret
     exact ⟨rfl,hB.out⟩
    | true =>
     have hr0:ot.toList=[]:=by simpa using hr2
     have hr1:(!ot.toList.isEmpty)=false:=by rw [hr2];rfl
     cases hrz:rg.isEmpty with
     | false =>
      have hr9:¬rg=[]:=by intro e;rw [e] at hrz;cases hrz
      have hz0:(0:Int)<(n:Int):=by have:n≠0:=fun e=>hr9 (hrg.1 e);omega
      have hv:chkL ⟨1,nm,ver,ot,rg⟩=1:=by rw [chk_is];simp [chkF,hnb,hr0,hr9]
      rw [hv]
      clear hv
      go_enter Tryz.func75,Tryz.ntmps75
      go_wp2_with (first | (go_at_call 129;first | ((with_reducible refine (wkB_any _ _).mono ?_);rintro e w' ⟨rfl,rfl⟩) | ((with_reducible refine (wiB_any _ _).mono ?_);rintro e w' ⟨rfl,rfl⟩)) | (go_at_call 130;first | ((with_reducible refine (HN.out _).mono ?_);rintro e w' ⟨rfl,rfl⟩) | ((with_reducible refine (HO.out _).mono ?_);rintro e w' ⟨rfl,rfl⟩)))
      go_ret
      exact ⟨rfl,hB.out⟩
     | true =>
      have hr9:rg=[]:=by simpa using hrz
      have hz0:¬(0:Int)<(n:Int):=by have:=hrg.2 hr9;omega
      cases h0:wiB (ver 0) with
      | false =>
       have hv:chkL ⟨1,nm,ver,ot,rg⟩=2:=by rw [chk_is];simp [chkF,hnb,hr0,hr9,okB_wi,h0]
       rw [hv]
       clear hv
       go_enter Tryz.func75,Tryz.ntmps75
       go_wp2_with (first | (go_at_call 129;first | ((with_reducible refine (wkB_any _ _).mono ?_);rintro e w' ⟨rfl,rfl⟩) | ((with_reducible refine (wiB_any _ _).mono ?_);rintro e w' ⟨rfl,rfl⟩)) | (go_at_call 130;first | ((with_reducible refine (HN.out _).mono ?_);rintro e w' ⟨rfl,rfl⟩) | ((with_reducible refine (HO.out _).mono ?_);rintro e w' ⟨rfl,rfl⟩)))
       refine wp_loop_rounds 1 ?_
       rw [rounds_succ]
       go_wp2_with (first | (go_at_call 129;first | ((with_reducible refine (wkB_any _ _).mono ?_);rintro e w' ⟨rfl,rfl⟩) | ((with_reducible refine (wiB_any _ _).mono ?_);rintro e w' ⟨rfl,rfl⟩)) | (go_at_call 130;first | ((with_reducible refine (HN.out _).mono ?_);rintro e w' ⟨rfl,rfl⟩) | ((with_reducible refine (HO.out _).mono ?_);rintro e w' ⟨rfl,rfl⟩)))
       go_ret
       exact ⟨rfl,hB.out⟩
      | true =>
       cases h1:wiB (ver 1) with
       | false =>
        have hv:chkL ⟨1,nm,ver,ot,rg⟩=2:=by rw [chk_is];simp [chkF,hnb,hr0,hr9,okB_wi,h0,h1]
        rw [hv]
        clear hv
        go_enter Tryz.func75,Tryz.ntmps75
        go_wp2_with (first | (go_at_call 129;first | ((with_reducible refine (wkB_any _ _).mono ?_);rintro e w' ⟨rfl,rfl⟩) | ((with_reducible refine (wiB_any _ _).mono ?_);rintro e w' ⟨rfl,rfl⟩)) | (go_at_call 130;first | ((with_reducible refine (HN.out _).mono ?_);rintro e w' ⟨rfl,rfl⟩) | ((with_reducible refine (HO.out _).mono ?_);rintro e w' ⟨rfl,rfl⟩)))
        refine wp_loop_rounds 2 ?_
        rw [rounds_succ]
        go_wp2_with (first | (go_at_call 129;first | ((with_reducible refine (wkB_any _ _).mono ?_);rintro e w' ⟨rfl,rfl⟩) | ((with_reducible refine (wiB_any _ _).mono ?_);rintro e w' ⟨rfl,rfl⟩)) | (go_at_call 130;first | ((with_reducible refine (HN.out _).mono ?_);rintro e w' ⟨rfl,rfl⟩) | ((with_reducible refine (HO.out _).mono ?_);rintro e w' ⟨rfl,rfl⟩)))
        rw [rounds_succ]
        go_wp2_with (first | (go_at_call 129;first | ((with_reducible refine (wkB_any _ _).mono ?_);rintro e w' ⟨rfl,rfl⟩) | ((with_reducible refine (wiB_any _ _).mono ?_);rintro e w' ⟨rfl,rfl⟩)) | (go_at_call 130;first | ((with_reducible refine (HN.out _).mono ?_);rintro e w' ⟨rfl,rfl⟩) | ((with_reducible refine (HO.out _).mono ?_);rintro e w' ⟨rfl,rfl⟩)))
        go_ret
        exact ⟨rfl,hB.out⟩
       | true =>
        cases h2:wiB (ver 2) with
        | false =>
         have hv:chkL ⟨1,nm,ver,ot,rg⟩=2:=by rw [chk_is];simp [chkF,hnb,hr0,hr9,okB_wi,h0,h1,h2]
         rw [hv]
         clear hv
         go_enter Tryz.func75,Tryz.ntmps75
         go_wp2_with (first | (go_at_call 129;first | ((with_reducible refine (wkB_any _ _).mono ?_);rintro e w' ⟨rfl,rfl⟩) | ((with_reducible refine (wiB_any _ _).mono ?_);rintro e w' ⟨rfl,rfl⟩)) | (go_at_call 130;first | ((with_reducible refine (HN.out _).mono ?_);rintro e w' ⟨rfl,rfl⟩) | ((with_reducible refine (HO.out _).mono ?_);rintro e w' ⟨rfl,rfl⟩)))
         refine wp_loop_rounds 3 ?_
         rw [rounds_succ]
         go_wp2_with (first | (go_at_call 129;first | ((with_reducible refine (wkB_any _ _).mono ?_);rintro e w' ⟨rfl,rfl⟩) | ((with_reducible refine (wiB_any _ _).mono ?_);rintro e w' ⟨rfl,rfl⟩)) | (go_at_call 130;first | ((with_reducible refine (HN.out _).mono ?_);rintro e w' ⟨rfl,rfl⟩) | ((with_reducible refine (HO.out _).mono ?_);rintro e w' ⟨rfl,rfl⟩)))
         rw [rounds_succ]
         go_wp2_with (first | (go_at_call 129;first | ((with_reducible refine (wkB_any _ _).mono ?_);rintro e w' ⟨rfl,rfl⟩) | ((with_reducible refine (wiB_any _ _).mono ?_);rintro e w' ⟨rfl,rfl⟩)) | (go_at_call 130;first | ((with_reducible refine (HN.out _).mono ?_);rintro e w' ⟨rfl,rfl⟩) | ((with_reducible refine (HO.out _).mono ?_);rintro e w' ⟨rfl,rfl⟩)))
         rw [rounds_succ]
         go_wp2_with (first | (go_at_call 129;first | ((with_reducible refine (wkB_any _ _).mono ?_);rintro e w' ⟨rfl,rfl⟩) | ((with_reducible refine (wiB_any _ _).mono ?_);rintro e w' ⟨rfl,rfl⟩)) | (go_at_call 130;first | ((with_reducible refine (HN.out _).mono ?_);rintro e w' ⟨rfl,rfl⟩) | ((with_reducible refine (HO.out _).mono ?_);rintro e w' ⟨rfl,rfl⟩)))
         go_ret
         exact ⟨rfl,hB.out⟩
        | true =>
         have hv:chkL ⟨1,nm,ver,ot,rg⟩=0:=by rw [chk_is];simp [chkF,hnb,hr0,hr9,okB_wi,h0,h1,h2]
         rw [hv]
         clear hv
         go_enter Tryz.func75,Tryz.ntmps75
         go_wp2_with (first | (go_at_call 129;first | ((with_reducible refine (wkB_any _ _).mono ?_);rintro e w' ⟨rfl,rfl⟩) | ((with_reducible refine (wiB_any _ _).mono ?_);rintro e w' ⟨rfl,rfl⟩)) | (go_at_call 130;first | ((with_reducible refine (HN.out _).mono ?_);rintro e w' ⟨rfl,rfl⟩) | ((with_reducible refine (HO.out _).mono ?_);rintro e w' ⟨rfl,rfl⟩)))
         refine wp_loop_rounds 4 ?_
         rw [rounds_succ]
         go_wp2_with (first | (go_at_call 129;first | ((with_reducible refine (wkB_any _ _).mono ?_);rintro e w' ⟨rfl,rfl⟩) | ((with_reducible refine (wiB_any _ _).mono ?_);rintro e w' ⟨rfl,rfl⟩)) | (go_at_call 130;first | ((with_reducible refine (HN.out _).mono ?_);rintro e w' ⟨rfl,rfl⟩) | ((with_reducible refine (HO.out _).mono ?_);rintro e w' ⟨rfl,rfl⟩)))
         rw [rounds_succ]
         go_wp2_with (first | (go_at_call 129;first | ((with_reducible refine (wkB_any _ _).mono ?_);rintro e w' ⟨rfl,rfl⟩) | ((with_reducible refine (wiB_any _ _).mono ?_);rintro e w' ⟨rfl,rfl⟩)) | (go_at_call 130;first | ((with_reducible refine (HN.out _).mono ?_);rintro e w' ⟨rfl,rfl⟩) | ((with_reducible refine (HO.out _).mono ?_);rintro e w' ⟨rfl,rfl⟩)))
         rw [rounds_succ]
         go_wp2_with (first | (go_at_call 129;first | ((with_reducible refine (wkB_any _ _).mono ?_);rintro e w' ⟨rfl,rfl⟩) | ((with_reducible refine (wiB_any _ _).mono ?_);rintro e w' ⟨rfl,rfl⟩)) | (go_at_call 130;first | ((with_reducible refine (HN.out _).mono ?_);rintro e w' ⟨rfl,rfl⟩) | ((with_reducible refine (HO.out _).mono ?_);rintro e w' ⟨rfl,rfl⟩)))
         rw [rounds_succ]
         go_wp2_with (first | (go_at_call 129;first | ((with_reducible refine (wkB_any _ _).mono ?_);rintro e w' ⟨rfl,rfl⟩) | ((with_reducible refine (wiB_any _ _).mono ?_);rintro e w' ⟨rfl,rfl⟩)) | (go_at_call 130;first | ((with_reducible refine (HN.out _).mono ?_);rintro e w' ⟨rfl,rfl⟩) | ((with_reducible refine (HO.out _).mono ?_);rintro e w' ⟨rfl,rfl⟩)))
         go_ret
         exact ⟨rfl,hB.out⟩
  ·cases hnb:nameB nm with
   | false =>
    rw [hnb] at HN
    have hv:chkL ⟨2,nm,ver,ot,rg⟩=5:=by rw [chk_is];simp [chkF,hnb]
    rw [hv]
    clear hv
    go_enter Tryz.func75,Tryz.ntmps75
    go_wp2_with (first | (go_at_call 129;first | ((with_reducible refine (wkB_any _ _).mono ?_);rintro e w' ⟨rfl,rfl⟩) | ((with_reducible refine (wiB_any _ _).mono ?_);rintro e w' ⟨rfl,rfl⟩)) | (go_at_call 130;first | ((with_reducible refine (HN.out _).mono ?_);rintro e w' ⟨rfl,rfl⟩) | ((with_reducible refine (HO.out _).mono ?_);rintro e w' ⟨rfl,rfl⟩)))
    go_ret
    exact ⟨rfl,hB.out⟩
   | true =>
    rw [hnb] at HN
    cases hob:nameB ot with
    | false =>
     rw [hob] at HO
     have hv:chkL ⟨2,nm,ver,ot,rg⟩=5:=by rw [chk_is];simp [chkF,hnb,hob]
     rw [hv]
     clear hv
     go_enter Tryz.func75,Tryz.ntmps75
     go_wp2_with (first | (go_at_call 129;first | ((with_reducible refine (wkB_any _ _).mono ?_);rintro e w' ⟨rfl,rfl⟩) | ((with_reducible refine (wiB_any _ _).mono ?_);rintro e w' ⟨rfl,rfl⟩)) | (go_at_call 130;first | ((with_reducible refine (HN.out _).mono ?_);rintro e w' ⟨rfl,rfl⟩) | ((with_reducible refine (HO.out _).mono ?_);rintro e w' ⟨rfl,rfl⟩)))
     go_ret
     exact ⟨rfl,hB.out⟩
    | true =>
     rw [hob] at HO
     cases h0:wiB (ver 0) with
     | false =>
      have hv:chkL ⟨2,nm,ver,ot,rg⟩=2:=by rw [chk_is];simp [chkF,hnb,hob,okB_wi,h0]
      rw [hv]
      clear hv
      go_enter Tryz.func75,Tryz.ntmps75
      go_wp2_with (first | (go_at_call 129;first | ((with_reducible refine (wkB_any _ _).mono ?_);rintro e w' ⟨rfl,rfl⟩) | ((with_reducible refine (wiB_any _ _).mono ?_);rintro e w' ⟨rfl,rfl⟩)) | (go_at_call 130;first | ((with_reducible refine (HN.out _).mono ?_);rintro e w' ⟨rfl,rfl⟩) | ((with_reducible refine (HO.out _).mono ?_);rintro e w' ⟨rfl,rfl⟩)))
      refine wp_loop_rounds 1 ?_
      rw [rounds_succ]
      go_wp2_with (first | (go_at_call 129;first | ((with_reducible refine (wkB_any _ _).mono ?_);rintro e w' ⟨rfl,rfl⟩) | ((with_reducible refine (wiB_any _ _).mono ?_);rintro e w' ⟨rfl,rfl⟩)) | (go_at_call 130;first | ((with_reducible refine (HN.out _).mono ?_);rintro e w' ⟨rfl,rfl⟩) | ((with_reducible refine (HO.out _).mono ?_);rintro e w' ⟨rfl,rfl⟩)))
      go_ret
      exact ⟨rfl,hB.out⟩
     | true =>
      cases h1:wiB (ver 1) with
      | false =>
       have hv:chkL ⟨2,nm,ver,ot,rg⟩=2:=by rw [chk_is];simp [chkF,hnb,hob,okB_wi,h0,h1]
       rw [hv]
       clear hv
       go_enter Tryz.func75,Tryz.ntmps75
       go_wp2_with (first | (go_at_call 129;first | ((with_reducible refine (wkB_any _ _).mono ?_);rintro e w' ⟨rfl,rfl⟩) | ((with_reducible refine (wiB_any _ _).mono ?_);rintro e w' ⟨rfl,rfl⟩)) | (go_at_call 130;first | ((with_reducible refine (HN.out _).mono ?_);rintro e w' ⟨rfl,rfl⟩) | ((with_reducible refine (HO.out _).mono ?_);rintro e w' ⟨rfl,rfl⟩)))
       refine wp_loop_rounds 2 ?_
       rw [rounds_succ]
       go_wp2_with (first | (go_at_call 129;first | ((with_reducible refine (wkB_any _ _).mono ?_);rintro e w' ⟨rfl,rfl⟩) | ((with_reducible refine (wiB_any _ _).mono ?_);rintro e w' ⟨rfl,rfl⟩)) | (go_at_call 130;first | ((with_reducible refine (HN.out _).mono ?_);rintro e w' ⟨rfl,rfl⟩) | ((with_reducible refine (HO.out _).mono ?_);rintro e w' ⟨rfl,rfl⟩)))
       rw [rounds_succ]
       go_wp2_with (first | (go_at_call 129;first | ((with_reducible refine (wkB_any _ _).mono ?_);rintro e w' ⟨rfl,rfl⟩) | ((with_reducible refine (wiB_any _ _).mono ?_);rintro e w' ⟨rfl,rfl⟩)) | (go_at_call 130;first | ((with_reducible refine (HN.out _).mono ?_);rintro e w' ⟨rfl,rfl⟩) | ((with_reducible refine (HO.out _).mono ?_);rintro e w' ⟨rfl,rfl⟩)))
       go_ret
       exact ⟨rfl,hB.out⟩
      | true =>
       cases h2:wiB (ver 2) with
       | false =>
        have hv:chkL ⟨2,nm,ver,ot,rg⟩=2:=by rw [chk_is];simp [chkF,hnb,hob,okB_wi,h0,h1,h2]
        rw [hv]
        clear hv
        go_enter Tryz.func75,Tryz.ntmps75
        go_wp2_with (first | (go_at_call 129;first | ((with_reducible refine (wkB_any _ _).mono ?_);rintro e w' ⟨rfl,rfl⟩) | ((with_reducible refine (wiB_any _ _).mono ?_);rintro e w' ⟨rfl,rfl⟩)) | (go_at_call 130;first | ((with_reducible refine (HN.out _).mono ?_);rintro e w' ⟨rfl,rfl⟩) | ((with_reducible refine (HO.out _).mono ?_);rintro e w' ⟨rfl,rfl⟩)))
        refine wp_loop_rounds 3 ?_
        rw [rounds_succ]
        go_wp2_with (first | (go_at_call 129;first | ((with_reducible refine (wkB_any _ _).mono ?_);rintro e w' ⟨rfl,rfl⟩) | ((with_reducible refine (wiB_any _ _).mono ?_);rintro e w' ⟨rfl,rfl⟩)) | (go_at_call 130;first | ((with_reducible refine (HN.out _).mono ?_);rintro e w' ⟨rfl,rfl⟩) | ((with_reducible refine (HO.out _).mono ?_);rintro e w' ⟨rfl,rfl⟩)))
        rw [rounds_succ]
        go_wp2_with (first | (go_at_call 129;first | ((with_reducible refine (wkB_any _ _).mono ?_);rintro e w' ⟨rfl,rfl⟩) | ((with_reducible refine (wiB_any _ _).mono ?_);rintro e w' ⟨rfl,rfl⟩)) | (go_at_call 130;first | ((with_reducible refine (HN.out _).mono ?_);rintro e w' ⟨rfl,rfl⟩) | ((with_reducible refine (HO.out _).mono ?_);rintro e w' ⟨rfl,rfl⟩)))
        rw [rounds_succ]
        go_wp2_with (first | (go_at_call 129;first | ((with_reducible refine (wkB_any _ _).mono ?_);rintro e w' ⟨rfl,rfl⟩) | ((with_reducible refine (wiB_any _ _).mono ?_);rintro e w' ⟨rfl,rfl⟩)) | (go_at_call 130;first | ((with_reducible refine (HN.out _).mono ?_);rintro e w' ⟨rfl,rfl⟩) | ((with_reducible refine (HO.out _).mono ?_);rintro e w' ⟨rfl,rfl⟩)))
        go_ret
        exact ⟨rfl,hB.out⟩
       | true =>
        have hv:chkL ⟨2,nm,ver,ot,rg⟩=0:=by rw [chk_is];simp [chkF,hnb,hob,okB_wi,h0,h1,h2]
        rw [hv]
        clear hv
        go_enter Tryz.func75,Tryz.ntmps75
        go_wp2_with (first | (go_at_call 129;first | ((with_reducible refine (wkB_any _ _).mono ?_);rintro e w' ⟨rfl,rfl⟩) | ((with_reducible refine (wiB_any _ _).mono ?_);rintro e w' ⟨rfl,rfl⟩)) | (go_at_call 130;first | ((with_reducible refine (HN.out _).mono ?_);rintro e w' ⟨rfl,rfl⟩) | ((with_reducible refine (HO.out _).mono ?_);rintro e w' ⟨rfl,rfl⟩)))
        refine wp_loop_rounds 4 ?_
        rw [rounds_succ]
        go_wp2_with (first | (go_at_call 129;first | ((with_reducible refine (wkB_any _ _).mono ?_);rintro e w' ⟨rfl,rfl⟩) | ((with_reducible refine (wiB_any _ _).mono ?_);rintro e w' ⟨rfl,rfl⟩)) | (go_at_call 130;first | ((with_reducible refine (HN.out _).mono ?_);rintro e w' ⟨rfl,rfl⟩) | ((with_reducible refine (HO.out _).mono ?_);rintro e w' ⟨rfl,rfl⟩)))
        rw [rounds_succ]
        go_wp2_with (first | (go_at_call 129;first | ((with_reducible refine (wkB_any _ _).mono ?_);rintro e w' ⟨rfl,rfl⟩) | ((with_reducible refine (wiB_any _ _).mono ?_);rintro e w' ⟨rfl,rfl⟩)) | (go_at_call 130;first | ((with_reducible refine (HN.out _).mono ?_);rintro e w' ⟨rfl,rfl⟩) | ((with_reducible refine (HO.out _).mono ?_);rintro e w' ⟨rfl,rfl⟩)))
        rw [rounds_succ]
        go_wp2_with (first | (go_at_call 129;first | ((with_reducible refine (wkB_any _ _).mono ?_);rintro e w' ⟨rfl,rfl⟩) | ((with_reducible refine (wiB_any _ _).mono ?_);rintro e w' ⟨rfl,rfl⟩)) | (go_at_call 130;first | ((with_reducible refine (HN.out _).mono ?_);rintro e w' ⟨rfl,rfl⟩) | ((with_reducible refine (HO.out _).mono ?_);rintro e w' ⟨rfl,rfl⟩)))
        rw [rounds_succ]
        go_wp2_with (first | (go_at_call 129;first | ((with_reducible refine (wkB_any _ _).mono ?_);rintro e w' ⟨rfl,rfl⟩) | ((with_reducible refine (wiB_any _ _).mono ?_);rintro e w' ⟨rfl,rfl⟩)) | (go_at_call 130;first | ((with_reducible refine (HN.out _).mono ?_);rintro e w' ⟨rfl,rfl⟩) | ((with_reducible refine (HO.out _).mono ?_);rintro e w' ⟨rfl,rfl⟩)))
        go_ret
        exact ⟨rfl,hB.out⟩
  ·cases hnb:nameB nm with
   | false =>
    rw [hnb] at HN
    have hv:chkL ⟨3,nm,ver,ot,rg⟩=5:=by rw [chk_is];simp [chkF,hnb]
    rw [hv]
    clear hv
    go_enter Tryz.func75,Tryz.ntmps75
    go_wp2_with (first | (go_at_call 129;first | ((with_reducible refine (wkB_any _ _).mono ?_);rintro e w' ⟨rfl,rfl⟩) | ((with_reducible refine (wiB_any _ _).mono ?_);rintro e w' ⟨rfl,rfl⟩)) | (go_at_call 130;first | ((with_reducible refine (HN.out _).mono ?_);rintro e w' ⟨rfl,rfl⟩) | ((with_reducible refine (HO.out _).mono ?_);rintro e w' ⟨rfl,rfl⟩)))
    go_ret
    exact ⟨rfl,hB.out⟩
   | true =>
    rw [hnb] at HN
    cases hob:nameB ot with
    | false =>
     rw [hob] at HO
     have hv:chkL ⟨3,nm,ver,ot,rg⟩=5:=by rw [chk_is];simp [chkF,hnb,hob]
     rw [hv]
     clear hv
     go_enter Tryz.func75,Tryz.ntmps75
     go_wp2_with (first | (go_at_call 129;first | ((with_reducible refine (wkB_any _ _).mono ?_);rintro e w' ⟨rfl,rfl⟩) | ((with_reducible refine (wiB_any _ _).mono ?_);rintro e w' ⟨rfl,rfl⟩)) | (go_at_call 130;first | ((with_reducible refine (HN.out _).mono ?_);rintro e w' ⟨rfl,rfl⟩) | ((with_reducible refine (HO.out _).mono ?_);rintro e w' ⟨rfl,rfl⟩)))
     go_ret
     exact ⟨rfl,hB.out⟩
    | true =>
     rw [hob] at HO
     cases h0:wiB (ver 0) with
     | false =>
      have hv:chkL ⟨3,nm,ver,ot,rg⟩=2:=by rw [chk_is];simp [chkF,hnb,hob,okB_wi,h0]
      rw [hv]
      clear hv
      go_enter Tryz.func75,Tryz.ntmps75
      go_wp2_with (first | (go_at_call 129;first | ((with_reducible refine (wkB_any _ _).mono ?_);rintro e w' ⟨rfl,rfl⟩) | ((with_reducible refine (wiB_any _ _).mono ?_);rintro e w' ⟨rfl,rfl⟩)) | (go_at_call 130;first | ((with_reducible refine (HN.out _).mono ?_);rintro e w' ⟨rfl,rfl⟩) | ((with_reducible refine (HO.out _).mono ?_);rintro e w' ⟨rfl,rfl⟩)))
      refine wp_loop_rounds 1 ?_
      rw [rounds_succ]
      go_wp2_with (first | (go_at_call 129;first | ((with_reducible refine (wkB_any _ _).mono ?_);rintro e w' ⟨rfl,rfl⟩) | ((with_reducible refine (wiB_any _ _).mono ?_);rintro e w' ⟨rfl,rfl⟩)) | (go_at_call 130;first | ((with_reducible refine (HN.out _).mono ?_);rintro e w' ⟨rfl,rfl⟩) | ((with_reducible refine (HO.out _).mono ?_);rintro e w' ⟨rfl,rfl⟩)))
      go_ret
      exact ⟨rfl,hB.out⟩
     | true =>
      cases h1:wiB (ver 1) with
      | false =>
       have hv:chkL ⟨3,nm,ver,ot,rg⟩=2:=by rw [chk_is];simp [chkF,hnb,hob,okB_wi,h0,h1]
       rw [hv]
       clear hv
       go_enter Tryz.func75,Tryz.ntmps75
       go_wp2_with (first | (go_at_call 129;first | ((with_reducible refine (wkB_any _ _).mono ?_);rintro e w' ⟨rfl,rfl⟩) | ((with_reducible refine (wiB_any _ _).mono ?_);rintro e w' ⟨rfl,rfl⟩)) | (go_at_call 130;first | ((with_reducible refine (HN.out _).mono ?_);rintro e w' ⟨rfl,rfl⟩) | ((with_reducible refine (HO.out _).mono ?_);rintro e w' ⟨rfl,rfl⟩)))
       refine wp_loop_rounds 2 ?_
       rw [rounds_succ]
       go_wp2_with (first | (go_at_call 129;first | ((with_reducible refine (wkB_any _ _).mono ?_);rintro e w' ⟨rfl,rfl⟩) | ((with_reducible refine (wiB_any _ _).mono ?_);rintro e w' ⟨rfl,rfl⟩)) | (go_at_call 130;first | ((with_reducible refine (HN.out _).mono ?_);rintro e w' ⟨rfl,rfl⟩) | ((with_reducible refine (HO.out _).mono ?_);rintro e w' ⟨rfl,rfl⟩)))
       rw [rounds_succ]
       go_wp2_with (first | (go_at_call 129;first | ((with_reducible refine (wkB_any _ _).mono ?_);rintro e w' ⟨rfl,rfl⟩) | ((with_reducible refine (wiB_any _ _).mono ?_);rintro e w' ⟨rfl,rfl⟩)) | (go_at_call 130;first | ((with_reducible refine (HN.out _).mono ?_);rintro e w' ⟨rfl,rfl⟩) | ((with_reducible refine (HO.out _).mono ?_);rintro e w' ⟨rfl,rfl⟩)))
       go_ret
       exact ⟨rfl,hB.out⟩
      | true =>
       cases h2:wiB (ver 2) with
       | false =>
        have hv:chkL ⟨3,nm,ver,ot,rg⟩=2:=by rw [chk_is];simp [chkF,hnb,hob,okB_wi,h0,h1,h2]
        rw [hv]
        clear hv
        go_enter Tryz.func75,Tryz.ntmps75
        go_wp2_with (first | (go_at_call 129;first | ((with_reducible refine (wkB_any _ _).mono ?_);rintro e w' ⟨rfl,rfl⟩) | ((with_reducible refine (wiB_any _ _).mono ?_);rintro e w' ⟨rfl,rfl⟩)) | (go_at_call 130;first | ((with_reducible refine (HN.out _).mono ?_);rintro e w' ⟨rfl,rfl⟩) | ((with_reducible refine (HO.out _).mono ?_);rintro e w' ⟨rfl,rfl⟩)))
        refine wp_loop_rounds 3 ?_
        rw [rounds_succ]
        go_wp2_with (first | (go_at_call 129;first | ((with_reducible refine (wkB_any _ _).mono ?_);rintro e w' ⟨rfl,rfl⟩) | ((with_reducible refine (wiB_any _ _).mono ?_);rintro e w' ⟨rfl,rfl⟩)) | (go_at_call 130;first | ((with_reducible refine (HN.out _).mono ?_);rintro e w' ⟨rfl,rfl⟩) | ((with_reducible refine (HO.out _).mono ?_);rintro e w' ⟨rfl,rfl⟩)))
        rw [rounds_succ]
        go_wp2_with (first | (go_at_call 129;first | ((with_reducible refine (wkB_any _ _).mono ?_);rintro e w' ⟨rfl,rfl⟩) | ((with_reducible refine (wiB_any _ _).mono ?_);rintro e w' ⟨rfl,rfl⟩)) | (go_at_call 130;first | ((with_reducible refine (HN.out _).mono ?_);rintro e w' ⟨rfl,rfl⟩) | ((with_reducible refine (HO.out _).mono ?_);rintro e w' ⟨rfl,rfl⟩)))
        rw [rounds_succ]
        go_wp2_with (first | (go_at_call 129;first | ((with_reducible refine (wkB_any _ _).mono ?_);rintro e w' ⟨rfl,rfl⟩) | ((with_reducible refine (wiB_any _ _).mono ?_);rintro e w' ⟨rfl,rfl⟩)) | (go_at_call 130;first | ((with_reducible refine (HN.out _).mono ?_);rintro e w' ⟨rfl,rfl⟩) | ((with_reducible refine (HO.out _).mono ?_);rintro e w' ⟨rfl,rfl⟩)))
        go_ret
        exact ⟨rfl,hB.out⟩
       | true =>
        have hv:chkL ⟨3,nm,ver,ot,rg⟩=0:=by rw [chk_is];simp [chkF,hnb,hob,okB_wi,h0,h1,h2]
        rw [hv]
        clear hv
        go_enter Tryz.func75,Tryz.ntmps75
        go_wp2_with (first | (go_at_call 129;first | ((with_reducible refine (wkB_any _ _).mono ?_);rintro e w' ⟨rfl,rfl⟩) | ((with_reducible refine (wiB_any _ _).mono ?_);rintro e w' ⟨rfl,rfl⟩)) | (go_at_call 130;first | ((with_reducible refine (HN.out _).mono ?_);rintro e w' ⟨rfl,rfl⟩) | ((with_reducible refine (HO.out _).mono ?_);rintro e w' ⟨rfl,rfl⟩)))
        refine wp_loop_rounds 4 ?_
        rw [rounds_succ]
        go_wp2_with (first | (go_at_call 129;first | ((with_reducible refine (wkB_any _ _).mono ?_);rintro e w' ⟨rfl,rfl⟩) | ((with_reducible refine (wiB_any _ _).mono ?_);rintro e w' ⟨rfl,rfl⟩)) | (go_at_call 130;first | ((with_reducible refine (HN.out _).mono ?_);rintro e w' ⟨rfl,rfl⟩) | ((with_reducible refine (HO.out _).mono ?_);rintro e w' ⟨rfl,rfl⟩)))
        rw [rounds_succ]
        go_wp2_with (first | (go_at_call 129;first | ((with_reducible refine (wkB_any _ _).mono ?_);rintro e w' ⟨rfl,rfl⟩) | ((with_reducible refine (wiB_any _ _).mono ?_);rintro e w' ⟨rfl,rfl⟩)) | (go_at_call 130;first | ((with_reducible refine (HN.out _).mono ?_);rintro e w' ⟨rfl,rfl⟩) | ((with_reducible refine (HO.out _).mono ?_);rintro e w' ⟨rfl,rfl⟩)))
        rw [rounds_succ]
        go_wp2_with (first | (go_at_call 129;first | ((with_reducible refine (wkB_any _ _).mono ?_);rintro e w' ⟨rfl,rfl⟩) | ((with_reducible refine (wiB_any _ _).mono ?_);rintro e w' ⟨rfl,rfl⟩)) | (go_at_call 130;first | ((with_reducible refine (HN.out _).mono ?_);rintro e w' ⟨rfl,rfl⟩) | ((with_reducible refine (HO.out _).mono ?_);rintro e w' ⟨rfl,rfl⟩)))
        rw [rounds_succ]
        go_wp2_with (first | (go_at_call 129;first | ((with_reducible refine (wkB_any _ _).mono ?_);rintro e w' ⟨rfl,rfl⟩) | ((with_reducible refine (wiB_any _ _).mono ?_);rintro e w' ⟨rfl,rfl⟩)) | (go_at_call 130;first | ((with_reducible refine (HN.out _).mono ?_);rintro e w' ⟨rfl,rfl⟩) | ((with_reducible refine (HO.out _).mono ?_);rintro e w' ⟨rfl,rfl⟩)))
        go_ret
        exact ⟨rfl,hB.out⟩
  ·cases hnb:nameB nm with
   | false =>
    rw [hnb] at HN
    have hv:chkL ⟨4,nm,ver,ot,rg⟩=5:=by rw [chk_is];simp [chkF,hnb]
    rw [hv]
    clear hv
    go_enter Tryz.func75,Tryz.ntmps75
    go_wp2_with (first | (go_at_call 129;first | ((with_reducible refine (wkB_any _ _).mono ?_);rintro e w' ⟨rfl,rfl⟩) | ((with_reducible refine (wiB_any _ _).mono ?_);rintro e w' ⟨rfl,rfl⟩)) | (go_at_call 130;first | ((with_reducible refine (HN.out _).mono ?_);rintro e w' ⟨rfl,rfl⟩) | ((with_reducible refine (HO.out _).mono ?_);rintro e w' ⟨rfl,rfl⟩)))
    go_ret
    exact ⟨rfl,hB.out⟩
   | true =>
    rw [hnb] at HN
    cases hr2:ot.toList.isEmpty with
    | false =>
     have hr1:(!ot.toList.isEmpty)=true:=by rw [hr2];rfl
     have hr0:¬ot.toList=[]:=by intro e;rw [e] at hr2;cases hr2
     have hv:chkL ⟨4,nm,ver,ot,rg⟩=1:=by rw [chk_is];simp [chkF,hnb,hr0]
     rw [hv]
     clear hv
     go_enter Tryz.func75,Tryz.ntmps75
     go_wp2_with (first | (go_at_call 129;first | ((with_reducible refine (wkB_any _ _).mono ?_);rintro e w' ⟨rfl,rfl⟩) | ((with_reducible refine (wiB_any _ _).mono ?_);rintro e w' ⟨rfl,rfl⟩)) | (go_at_call 130;first | ((with_reducible refine (HN.out _).mono ?_);rintro e w' ⟨rfl,rfl⟩) | ((with_reducible refine (HO.out _).mono ?_);rintro e w' ⟨rfl,rfl⟩)))
     go_ret
     exact ⟨rfl,hB.out⟩
    | true =>
     have hr0:ot.toList=[]:=by simpa using hr2
     have hr1:(!ot.toList.isEmpty)=false:=by rw [hr2];rfl
     cases hv3:eq3 (ver 0) (ver 1) (ver 2) 0 0 0 with
     | false =>
      have hv:chkL ⟨4,nm,ver,ot,rg⟩=1:=by rw [chk_is];simp [chkF,hnb,hr0,hv3]
      rw [hv]
      clear hv
      go_enter Tryz.func75,Tryz.ntmps75
      go_wp2_with (first | (go_at_call 129;first | ((with_reducible refine (wkB_any _ _).mono ?_);rintro e w' ⟨rfl,rfl⟩) | ((with_reducible refine (wiB_any _ _).mono ?_);rintro e w' ⟨rfl,rfl⟩)) | (go_at_call 130;first | ((with_reducible refine (HN.out _).mono ?_);rintro e w' ⟨rfl,rfl⟩) | ((with_reducible refine (HO.out _).mono ?_);rintro e w' ⟨rfl,rfl⟩)))
      go_ret
      exact ⟨rfl,hB.out⟩
     | true =>
      have hvz:ver 0=0∧ver 1=0∧ver 2=0:=by unfold eq3 at hv3;simpa using hv3
      have h0:wiB (ver 0)=true:=by rw [hvz.1];rfl
      have h1:wiB (ver 1)=true:=by rw [hvz.2.1];rfl
      have h2:wiB (ver 2)=true:=by rw [hvz.2.2];rfl
      clear hvz
      have hv:chkL ⟨4,nm,ver,ot,rg⟩=0:=by rw [chk_is];simp [chkF,hnb,hr0,hv3]
      rw [hv]
      clear hv
      go_enter Tryz.func75,Tryz.ntmps75
      go_wp2_with (first | (go_at_call 129;first | ((with_reducible refine (wkB_any _ _).mono ?_);rintro e w' ⟨rfl,rfl⟩) | ((with_reducible refine (wiB_any _ _).mono ?_);rintro e w' ⟨rfl,rfl⟩)) | (go_at_call 130;first | ((with_reducible refine (HN.out _).mono ?_);rintro e w' ⟨rfl,rfl⟩) | ((with_reducible refine (HO.out _).mono ?_);rintro e w' ⟨rfl,rfl⟩)))
      refine wp_loop_rounds 4 ?_
      rw [rounds_succ]
      go_wp2_with (first | (go_at_call 129;first | ((with_reducible refine (wkB_any _ _).mono ?_);rintro e w' ⟨rfl,rfl⟩) | ((with_reducible refine (wiB_any _ _).mono ?_);rintro e w' ⟨rfl,rfl⟩)) | (go_at_call 130;first | ((with_reducible refine (HN.out _).mono ?_);rintro e w' ⟨rfl,rfl⟩) | ((with_reducible refine (HO.out _).mono ?_);rintro e w' ⟨rfl,rfl⟩)))
      rw [rounds_succ]
      go_wp2_with (first | (go_at_call 129;first | ((with_reducible refine (wkB_any _ _).mono ?_);rintro e w' ⟨rfl,rfl⟩) | ((with_reducible refine (wiB_any _ _).mono ?_);rintro e w' ⟨rfl,rfl⟩)) | (go_at_call 130;first | ((with_reducible refine (HN.out _).mono ?_);rintro e w' ⟨rfl,rfl⟩) | ((with_reducible refine (HO.out _).mono ?_);rintro e w' ⟨rfl,rfl⟩)))
      rw [rounds_succ]
      go_wp2_with (first | (go_at_call 129;first | ((with_reducible refine (wkB_any _ _).mono ?_);rintro e w' ⟨rfl,rfl⟩) | ((with_reducible refine (wiB_any _ _).mono ?_);rintro e w' ⟨rfl,rfl⟩)) | (go_at_call 130;first | ((with_reducible refine (HN.out _).mono ?_);rintro e w' ⟨rfl,rfl⟩) | ((with_reducible refine (HO.out _).mono ?_);rintro e w' ⟨rfl,rfl⟩)))
      rw [rounds_succ]
      go_wp2_with (first | (go_at_call 129;first | ((with_reducible refine (wkB_any _ _).mono ?_);rintro e w' ⟨rfl,rfl⟩) | ((with_reducible refine (wiB_any _ _).mono ?_);rintro e w' ⟨rfl,rfl⟩)) | (go_at_call 130;first | ((with_reducible refine (HN.out _).mono ?_);rintro e w' ⟨rfl,rfl⟩) | ((with_reducible refine (HO.out _).mono ?_);rintro e w' ⟨rfl,rfl⟩)))
      go_ret
      exact ⟨rfl,hB.out⟩
theorem hasAny_is (f:Nat→Int):hasB anyC f=okB f:=by
 unfold hasB
 cases h:okB f with
 | false=>rfl
 | true =>
  unfold okB at h
  have h:=of_decide_eq_true h
  rw [Bool.true_and]
  unfold setS anyC numV3 endR
  simp only [List.any_cons,List.any_nil,Bool.or_false,Bool.and_eq_true,decide_eq_true_eq]
  omega
theorem chk_keep {w1 W:World} {bx:Nat} {k:Int} {nm ot:ByteArray} {ver:Nat→Int} {A:Option Addr} {n c:Nat} (h:Blk w1 bx 90 #[.int .i64 k,.string nm,.int .i64 (ver 0),.int .i64 (ver 1),.int .i64 (ver 2),.string ot,.slice A n c]) (hb:Below w1.heap.size w1 W) :
  W.cell? ⟨bx,0,none⟩=some (.int .i64 k)∧W.cell? ⟨bx,2,none⟩=some (.int .i64 (ver 0))∧W.cell? ⟨bx,3,none⟩=some (.int .i64 (ver 1))∧W.cell? ⟨bx,4,none⟩=some (.int .i64 (ver 2)):=by
 have h2:=h.below hb h.lt
 exact ⟨h2.cell 0,h2.cell 2,h2.cell 3,h2.cell 4⟩
set_option maxHeartbeats 16000000 in
theorem chk_any (q:LnQ) (hk:LnOk q.1) (w:World) (ho:OwnP w 0 (slQ q) q.1.rg):Calls Tryz.prog 132 #[.agg (lnA q)] w (ChkP q.1 w):=by
 obtain ⟨⟨k,nm,ver,ot,rg⟩,A,n,c⟩:=q
 have hnm:=hk.nm
 have hot:=hk.ot
 have HB0:=hide ((Below.refl w.heap.size w).alloc (Nat.le_refl _) (.cells #[.int .i64 k,.string nm,.int .i64 (ver 0),.int .i64 (ver 1),.int .i64 (ver 2),.string ot,.slice A n c] 90))
 have HK0:=hide (Blk.new w 90 #[.int .i64 k,.string nm,.int .i64 (ver 0),.int .i64 (ver 1),.int .i64 (ver 2),.string ot,.slice A n c])
 have HO0:=hide (OwnP.below (show OwnP w 0 (.slice A n c) rg from ho) ((Below.refl w.heap.size w).alloc (Nat.le_refl _) (.cells #[.int .i64 k,.string nm,.int .i64 (ver 0),.int .i64 (ver 1),.int .i64 (ver 2),.string ot,.slice A n c] 90)))
 simp only [] at hnm hot
 clear hk ho
 show Calls Tryz.prog 132 #[.agg #[.int .i64 k,.string nm,.int .i64 (ver 0),.int .i64 (ver 1),.int .i64 (ver 2),.string ot,.slice A n c]] w (fun e w'=>e=.returned (.int .i64 (chkL ⟨k,nm,ver,ot,rg⟩))∧Below w.heap.size w w')
 have HNE:=neqPV (ver 0) (ver 1) (ver 2)
 have HN:=hide (fun W=>name_any nm W (by omega))
 have HO:=hide (fun W=>name_any ot W (by omega))
 have HH:=hide (fun W u (h:OwnP W 0 u anyC)=>show Calls Tryz.prog 150 #[.agg #[u],.agg #[.int .i64 (ver 0),.int .i64 (ver 1),.int .i64 (ver 2)]] W (BoolP (okB ver) W) from (hasAny_is ver) ▸ has_any u anyC ver W h (by decide))
 unfold AtPost at HN HO
 by_cases hkl:k<1
 ·have hv:chkL ⟨k,nm,ver,ot,rg⟩=1:=by rw [chk_is,chkF,if_pos (.inl hkl)]
  rw [hv]
  clear hv
  have d0:(k==2)=false:=by rw [beq_eq_false_iff_ne];omega
  have d1:(k==3)=false:=by rw [beq_eq_false_iff_ne];omega
  go_enter Tryz.func132,Tryz.ntmps132
  go_wp2_with fail
  go_ret
  exact ⟨rfl,HB0.out⟩
 ·by_cases hkg:4<k
  ·have hv:chkL ⟨k,nm,ver,ot,rg⟩=1:=by rw [chk_is,chkF,if_pos (.inr hkg)]
   rw [hv]
   clear hv
   have d0:(k==2)=false:=by rw [beq_eq_false_iff_ne];omega
   have d1:(k==3)=false:=by rw [beq_eq_false_iff_ne];omega
   go_enter Tryz.func132,Tryz.ntmps132
   go_wp2_with fail
   go_ret
   exact ⟨rfl,HB0.out⟩
  ·have hk4:k=1∨k=2∨k=3∨k=4:=by omega
   clear hkl hkg
   rcases hk4 with rfl | rfl | rfl | rfl
   ·cases hnb:nameB nm with
    | false =>
     rw [hnb] at HN
     have hv:chkL ⟨1,nm,ver,ot,rg⟩=5:=by rw [chk_is];simp [chkF,hnb]
     rw [hv]
     clear hv
     go_enter Tryz.func132,Tryz.ntmps132
     go_wp2_with fail
     generalize World.alloc _ (.cells #[.int .i64 1,.string nm,.int .i64 (ver 0),.int .i64 (ver 1),.int .i64 (ver 2),.string ot,.slice A n c] 90)=w0 at HB0 HK0 HO0 ⊢
     refine (HN.out w0).mono ?_
     rintro e w1 ⟨rfl,hb1⟩
     have HB1:=hide (HB0.out.trans (hb1.mono HB0.out.size))
     have HK1:=hide (HK0.out.below hb1 HK0.out.lt)
     have HO1:=hide (HO0.out.below hb1)
     clear hb1 HB0 HK0 HO0
     obtain ⟨⟨c0,c1,c2,c3,c4,c5,c6⟩,_⟩:=blk7 HK1.out
     go_wp2_with fail
     clear c0 c1 c2 c3 c4 c5 c6
     go_ret
     exact ⟨rfl,HB1.out⟩
    | true =>
     rw [hnb] at HN
     cases hr2:ot.toList.isEmpty with
     | false =>
      have hr1:(!ot.toList.isEmpty)=true:=by rw [hr2];rfl
      have hr0:¬ot.toList=[]:=by intro e;rw [e] at hr2;cases hr2
      have hv:chkL ⟨1,nm,ver,ot,rg⟩=1:=by rw [chk_is];simp [chkF,hnb,hr0]
      rw [hv]
      clear hv
      go_enter Tryz.func132,Tryz.ntmps132
      go_wp2_with fail
      generalize World.alloc _ (.cells #[.int .i64 1,.string nm,.int .i64 (ver 0),.int .i64 (ver 1),.int .i64 (ver 2),.string ot,.slice A n c] 90)=w0 at HB0 HK0 HO0 ⊢
      refine (HN.out w0).mono ?_
      rintro e w1 ⟨rfl,hb1⟩
      have HB1:=hide (HB0.out.trans (hb1.mono HB0.out.size))
      have HK1:=hide (HK0.out.below hb1 HK0.out.lt)
      have HO1:=hide (HO0.out.below hb1)
      clear hb1 HB0 HK0 HO0
      obtain ⟨⟨c0,c1,c2,c3,c4,c5,c6⟩,_⟩:=blk7 HK1.out
      go_wp2_with fail
      clear c0 c1 c2 c3 c4 c5 c6
      go_ret
      exact ⟨rfl,HB1.out⟩
     | true =>
      have hr0:ot.toList=[]:=by simpa using hr2
      have hr1:(!ot.toList.isEmpty)=false:=by rw [hr2];rfl
      by_cases hr9:rg=[]
      ·have hE:=decide_eq_true hr9
       cases hok:okB ver with
       | false =>
        have hv:chkL ⟨1,nm,ver,ot,rg⟩=2:=by rw [chk_is];simp [chkF,hnb,hr0,hr9,hok]
        rw [hok] at HH
        rw [hv]
        clear hv
        go_enter Tryz.func132,Tryz.ntmps132
        go_wp2_with fail
        generalize World.alloc _ (.cells #[.int .i64 1,.string nm,.int .i64 (ver 0),.int .i64 (ver 1),.int .i64 (ver 2),.string ot,.slice A n c] 90)=w0 at HB0 HK0 HO0 ⊢
        refine (HN.out w0).mono ?_
        rintro e w1 ⟨rfl,hb1⟩
        have HB1:=hide (HB0.out.trans (hb1.mono HB0.out.size))
        have HK1:=hide (HK0.out.below hb1 HK0.out.lt)
        have HO1:=hide (HO0.out.below hb1)
        clear hb1 HB0 HK0 HO0
        obtain ⟨⟨c0,c1,c2,c3,c4,c5,c6⟩,_⟩:=blk7 HK1.out
        go_wp2_with fail
        clear c0 c1 c2 c3 c4 c5 c6
        have HE:=hide (empty_any _ rg w1 HO1.out)
        unfold EmptyP at HE
        rw [hE] at HE
        refine (HE.out).mono ?_
        rintro e w2 ⟨rfl,hb2⟩
        have HB2:=hide (HB1.out.trans (hb2.mono HB1.out.size))
        have HK2:=hide (HK1.out.below hb2 HK1.out.lt)
        have HO2:=hide (HO1.out.below hb2)
        clear hb2 HB1 HK1 HO1
        obtain ⟨⟨c0,c1,c2,c3,c4,c5,c6⟩,_⟩:=blk7 HK2.out
        go_wp2_with fail
        clear c0 c1 c2 c3 c4 c5 c6
        have bS:Below w2.heap.size w2 w2.drew:=(Below.refl _ _).drew
        obtain ⟨c0,c2,c3,c4⟩:=chk_keep HK2.out (Below.refl _ _)
        go_region_held3 (fun w'=>w'.cell? ⟨w.heap.size,0,none⟩=some (.int .i64 1)∧w'.cell? ⟨w.heap.size,2,none⟩=some (.int .i64 (ver 0))∧w'.cell? ⟨w.heap.size,3,none⟩=some (.int .i64 (ver 1))∧w'.cell? ⟨w.heap.size,4,none⟩=some (.int .i64 (ver 2)))
         (first | exact chk_keep HK2.out (bThen (bThen bS ba) bh) | exact chk_keep HK2.out (bThen bS ba) | exact chk_keep HK2.out bS | exact chk_keep HK2.out (Below.refl _ _))
         (first | (go_at_call 177;refine (any_any _).mono ?_;rintro e wa ⟨va,rfl,oa,ba⟩) | (go_at_call 150;refine (HH.out _ va (by exact oa.mono (Nat.zero_le _))).mono ?_;rintro e wh ⟨rfl,bh⟩))
        all_goals
         go_wp2_with fail
         go_ret
         exact ⟨rfl,HB2.out.trans ((bThen (bThen bS ba) bh).mono HB2.out.size)⟩
       | true =>
        have hv:chkL ⟨1,nm,ver,ot,rg⟩=0:=by rw [chk_is];simp [chkF,hnb,hr0,hr9,hok]
        rw [hok] at HH
        rw [hv]
        clear hv
        go_enter Tryz.func132,Tryz.ntmps132
        go_wp2_with fail
        generalize World.alloc _ (.cells #[.int .i64 1,.string nm,.int .i64 (ver 0),.int .i64 (ver 1),.int .i64 (ver 2),.string ot,.slice A n c] 90)=w0 at HB0 HK0 HO0 ⊢
        refine (HN.out w0).mono ?_
        rintro e w1 ⟨rfl,hb1⟩
        have HB1:=hide (HB0.out.trans (hb1.mono HB0.out.size))
        have HK1:=hide (HK0.out.below hb1 HK0.out.lt)
        have HO1:=hide (HO0.out.below hb1)
        clear hb1 HB0 HK0 HO0
        obtain ⟨⟨c0,c1,c2,c3,c4,c5,c6⟩,_⟩:=blk7 HK1.out
        go_wp2_with fail
        clear c0 c1 c2 c3 c4 c5 c6
        have HE:=hide (empty_any _ rg w1 HO1.out)
        unfold EmptyP at HE
        rw [hE] at HE
        refine (HE.out).mono ?_
        rintro e w2 ⟨rfl,hb2⟩
        have HB2:=hide (HB1.out.trans (hb2.mono HB1.out.size))
        have HK2:=hide (HK1.out.below hb2 HK1.out.lt)
        have HO2:=hide (HO1.out.below hb2)
        clear hb2 HB1 HK1 HO1
        obtain ⟨⟨c0,c1,c2,c3,c4,c5,c6⟩,_⟩:=blk7 HK2.out
        go_wp2_with fail
        clear c0 c1 c2 c3 c4 c5 c6
        have bS:Below w2.heap.size w2 w2.drew:=(Below.refl _ _).drew
        obtain ⟨c0,c2,c3,c4⟩:=chk_keep HK2.out (Below.refl _ _)
        go_region_held3 (fun w'=>w'.cell? ⟨w.heap.size,0,none⟩=some (.int .i64 1)∧w'.cell? ⟨w.heap.size,2,none⟩=some (.int .i64 (ver 0))∧w'.cell? ⟨w.heap.size,3,none⟩=some (.int .i64 (ver 1))∧w'.cell? ⟨w.heap.size,4,none⟩=some (.int .i64 (ver 2)))
         (first | exact chk_keep HK2.out (bThen (bThen bS ba) bh) | exact chk_keep HK2.out (bThen bS ba) | exact chk_keep HK2.out bS | exact chk_keep HK2.out (Below.refl _ _))
         (first | (go_at_call 177;refine (any_any _).mono ?_;rintro e wa ⟨va,rfl,oa,ba⟩) | (go_at_call 150;refine (HH.out _ va (by exact oa.mono (Nat.zero_le _))).mono ?_;rintro e wh ⟨rfl,bh⟩))
        all_goals
         go_wp2_with fail
         go_ret
         exact ⟨rfl,HB2.out.trans ((bThen (bThen bS ba) bh).mono HB2.out.size)⟩
      ·have hE:=decide_eq_false hr9
       have hv:chkL ⟨1,nm,ver,ot,rg⟩=1:=by rw [chk_is];simp [chkF,hnb,hr0,hr9]
       rw [hv]
       clear hv
       go_enter Tryz.func132,Tryz.ntmps132
       go_wp2_with fail
       generalize World.alloc _ (.cells #[.int .i64 1,.string nm,.int .i64 (ver 0),.int .i64 (ver 1),.int .i64 (ver 2),.string ot,.slice A n c] 90)=w0 at HB0 HK0 HO0 ⊢
       refine (HN.out w0).mono ?_
       rintro e w1 ⟨rfl,hb1⟩
       have HB1:=hide (HB0.out.trans (hb1.mono HB0.out.size))
       have HK1:=hide (HK0.out.below hb1 HK0.out.lt)
       have HO1:=hide (HO0.out.below hb1)
       clear hb1 HB0 HK0 HO0
       obtain ⟨⟨c0,c1,c2,c3,c4,c5,c6⟩,_⟩:=blk7 HK1.out
       go_wp2_with fail
       clear c0 c1 c2 c3 c4 c5 c6
       have HE:=hide (empty_any _ rg w1 HO1.out)
       unfold EmptyP at HE
       rw [hE] at HE
       refine (HE.out).mono ?_
       rintro e w2 ⟨rfl,hb2⟩
       have HB2:=hide (HB1.out.trans (hb2.mono HB1.out.size))
       have HK2:=hide (HK1.out.below hb2 HK1.out.lt)
       have HO2:=hide (HO1.out.below hb2)
       clear hb2 HB1 HK1 HO1
       obtain ⟨⟨c0,c1,c2,c3,c4,c5,c6⟩,_⟩:=blk7 HK2.out
       go_wp2_with fail
       clear c0 c1 c2 c3 c4 c5 c6
       go_ret
       exact ⟨rfl,HB2.out⟩
   ·cases hnb:nameB nm with
    | false =>
     rw [hnb] at HN
     have hv:chkL ⟨2,nm,ver,ot,rg⟩=5:=by rw [chk_is];simp [chkF,hnb]
     rw [hv]
     clear hv
     go_enter Tryz.func132,Tryz.ntmps132
     go_wp2_with fail
     generalize World.alloc _ (.cells #[.int .i64 2,.string nm,.int .i64 (ver 0),.int .i64 (ver 1),.int .i64 (ver 2),.string ot,.slice A n c] 90)=w0 at HB0 HK0 HO0 ⊢
     refine (HN.out w0).mono ?_
     rintro e w1 ⟨rfl,hb1⟩
     have HB1:=hide (HB0.out.trans (hb1.mono HB0.out.size))
     have HK1:=hide (HK0.out.below hb1 HK0.out.lt)
     have HO1:=hide (HO0.out.below hb1)
     clear hb1 HB0 HK0 HO0
     obtain ⟨⟨c0,c1,c2,c3,c4,c5,c6⟩,_⟩:=blk7 HK1.out
     go_wp2_with fail
     clear c0 c1 c2 c3 c4 c5 c6
     go_ret
     exact ⟨rfl,HB1.out⟩
    | true =>
     rw [hnb] at HN
     cases hob:nameB ot with
     | false =>
      rw [hob] at HO
      have hv:chkL ⟨2,nm,ver,ot,rg⟩=5:=by rw [chk_is];simp [chkF,hnb,hob]
      rw [hv]
      clear hv
      go_enter Tryz.func132,Tryz.ntmps132
      go_wp2_with fail
      generalize World.alloc _ (.cells #[.int .i64 2,.string nm,.int .i64 (ver 0),.int .i64 (ver 1),.int .i64 (ver 2),.string ot,.slice A n c] 90)=w0 at HB0 HK0 HO0 ⊢
      refine (HN.out w0).mono ?_
      rintro e w1 ⟨rfl,hb1⟩
      have HB1:=hide (HB0.out.trans (hb1.mono HB0.out.size))
      have HK1:=hide (HK0.out.below hb1 HK0.out.lt)
      have HO1:=hide (HO0.out.below hb1)
      clear hb1 HB0 HK0 HO0
      obtain ⟨⟨c0,c1,c2,c3,c4,c5,c6⟩,_⟩:=blk7 HK1.out
      go_wp2_with fail
      clear c0 c1 c2 c3 c4 c5 c6
      refine (HO.out w1).mono ?_
      rintro e w2 ⟨rfl,hb2⟩
      have HB2:=hide (HB1.out.trans (hb2.mono HB1.out.size))
      have HK2:=hide (HK1.out.below hb2 HK1.out.lt)
      have HO2:=hide (HO1.out.below hb2)
      clear hb2 HB1 HK1 HO1
      obtain ⟨⟨c0,c1,c2,c3,c4,c5,c6⟩,_⟩:=blk7 HK2.out
      go_wp2_with fail
      clear c0 c1 c2 c3 c4 c5 c6
      go_ret
      exact ⟨rfl,HB2.out⟩
     | true =>
      rw [hob] at HO
      cases hok:okB ver with
      | false =>
       have hv:chkL ⟨2,nm,ver,ot,rg⟩=2:=by rw [chk_is];simp [chkF,hnb,hob,hok]
       rw [hok] at HH
       rw [hv]
       clear hv
       go_enter Tryz.func132,Tryz.ntmps132
       go_wp2_with fail
       generalize World.alloc _ (.cells #[.int .i64 2,.string nm,.int .i64 (ver 0),.int .i64 (ver 1),.int .i64 (ver 2),.string ot,.slice A n c] 90)=w0 at HB0 HK0 HO0 ⊢
       refine (HN.out w0).mono ?_
       rintro e w1 ⟨rfl,hb1⟩
       have HB1:=hide (HB0.out.trans (hb1.mono HB0.out.size))
       have HK1:=hide (HK0.out.below hb1 HK0.out.lt)
       have HO1:=hide (HO0.out.below hb1)
       clear hb1 HB0 HK0 HO0
       obtain ⟨⟨c0,c1,c2,c3,c4,c5,c6⟩,_⟩:=blk7 HK1.out
       go_wp2_with fail
       clear c0 c1 c2 c3 c4 c5 c6
       refine (HO.out w1).mono ?_
       rintro e w2 ⟨rfl,hb2⟩
       have HB2:=hide (HB1.out.trans (hb2.mono HB1.out.size))
       have HK2:=hide (HK1.out.below hb2 HK1.out.lt)
       have HO2:=hide (HO1.out.below hb2)
       clear hb2 HB1 HK1 HO1
       obtain ⟨⟨c0,c1,c2,c3,c4,c5,c6⟩,_⟩:=blk7 HK2.out
       go_wp2_with fail
       clear c0 c1 c2 c3 c4 c5 c6
       have bS:Below w2.heap.size w2 w2.drew:=(Below.refl _ _).drew
       obtain ⟨c0,c2,c3,c4⟩:=chk_keep HK2.out (Below.refl _ _)
       go_region_held3 (fun w'=>w'.cell? ⟨w.heap.size,0,none⟩=some (.int .i64 2)∧w'.cell? ⟨w.heap.size,2,none⟩=some (.int .i64 (ver 0))∧w'.cell? ⟨w.heap.size,3,none⟩=some (.int .i64 (ver 1))∧w'.cell? ⟨w.heap.size,4,none⟩=some (.int .i64 (ver 2)))
        (first | exact chk_keep HK2.out (bThen (bThen bS ba) bh) | exact chk_keep HK2.out (bThen bS ba) | exact chk_keep HK2.out bS | exact chk_keep HK2.out (Below.refl _ _))
        (first | (go_at_call 177;refine (any_any _).mono ?_;rintro e wa ⟨va,rfl,oa,ba⟩) | (go_at_call 150;refine (HH.out _ va (by exact oa.mono (Nat.zero_le _))).mono ?_;rintro e wh ⟨rfl,bh⟩))
       all_goals
        go_wp2_with fail
        go_ret
        exact ⟨rfl,HB2.out.trans ((bThen (bThen bS ba) bh).mono HB2.out.size)⟩
      | true =>
       have hv:chkL ⟨2,nm,ver,ot,rg⟩=0:=by rw [chk_is];simp [chkF,hnb,hob,hok]
       rw [hok] at HH
       rw [hv]
       clear hv
       go_enter Tryz.func132,Tryz.ntmps132
       go_wp2_with fail
       generalize World.alloc _ (.cells #[.int .i64 2,.string nm,.int .i64 (ver 0),.int .i64 (ver 1),.int .i64 (ver 2),.string ot,.slice A n c] 90)=w0 at HB0 HK0 HO0 ⊢
       refine (HN.out w0).mono ?_
       rintro e w1 ⟨rfl,hb1⟩
       have HB1:=hide (HB0.out.trans (hb1.mono HB0.out.size))
       have HK1:=hide (HK0.out.below hb1 HK0.out.lt)
       have HO1:=hide (HO0.out.below hb1)
       clear hb1 HB0 HK0 HO0
       obtain ⟨⟨c0,c1,c2,c3,c4,c5,c6⟩,_⟩:=blk7 HK1.out
       go_wp2_with fail
       clear c0 c1 c2 c3 c4 c5 c6
       refine (HO.out w1).mono ?_
       rintro e w2 ⟨rfl,hb2⟩
       have HB2:=hide (HB1.out.trans (hb2.mono HB1.out.size))
       have HK2:=hide (HK1.out.below hb2 HK1.out.lt)
       have HO2:=hide (HO1.out.below hb2)
       clear hb2 HB1 HK1 HO1
       obtain ⟨⟨c0,c1,c2,c3,c4,c5,c6⟩,_⟩:=blk7 HK2.out
       go_wp2_with fail
       clear c0 c1 c2 c3 c4 c5 c6
       have bS:Below w2.heap.size w2 w2.drew:=(Below.refl _ _).drew
       obtain ⟨c0,c2,c3,c4⟩:=chk_keep HK2.out (Below.refl _ _)
       go_region_held3 (fun w'=>w'.cell? ⟨w.heap.size,0,none⟩=some (.int .i64 2)∧w'.cell? ⟨w.heap.size,2,none⟩=some (.int .i64 (ver 0))∧w'.cell? ⟨w.heap.size,3,none⟩=some (.int .i64 (ver 1))∧w'.cell? ⟨w.heap.size,4,none⟩=some (.int .i64 (ver 2)))
        (first | exact chk_keep HK2.out (bThen (bThen bS ba) bh) | exact chk_keep HK2.out (bThen bS ba) | exact chk_keep HK2.out bS | exact chk_keep HK2.out (Below.refl _ _))
        (first | (go_at_call 177;refine (any_any _).mono ?_;rintro e wa ⟨va,rfl,oa,ba⟩) | (go_at_call 150;refine (HH.out _ va (by exact oa.mono (Nat.zero_le _))).mono ?_;rintro e wh ⟨rfl,bh⟩))
       all_goals
        go_wp2_with fail
        go_ret
        exact ⟨rfl,HB2.out.trans ((bThen (bThen bS ba) bh).mono HB2.out.size)⟩
   ·cases hnb:nameB nm with
    | false =>
     rw [hnb] at HN
     have hv:chkL ⟨3,nm,ver,ot,rg⟩=5:=by rw [chk_is];simp [chkF,hnb]
     rw [hv]
     clear hv
     go_enter Tryz.func132,Tryz.ntmps132
     go_wp2_with fail
     generalize World.alloc _ (.cells #[.int .i64 3,.string nm,.int .i64 (ver 0),.int .i64 (ver 1),.int .i64 (ver 2),.string ot,.slice A n c] 90)=w0 at HB0 HK0 HO0 ⊢
     refine (HN.out w0).mono ?_
     rintro e w1 ⟨rfl,hb1⟩
     have HB1:=hide (HB0.out.trans (hb1.mono HB0.out.size))
     have HK1:=hide (HK0.out.below hb1 HK0.out.lt)
     have HO1:=hide (HO0.out.below hb1)
     clear hb1 HB0 HK0 HO0
     obtain ⟨⟨c0,c1,c2,c3,c4,c5,c6⟩,_⟩:=blk7 HK1.out
     go_wp2_with fail
     clear c0 c1 c2 c3 c4 c5 c6
     go_ret
     exact ⟨rfl,HB1.out⟩
    | true =>
     rw [hnb] at HN
     cases hob:nameB ot with
     | false =>
      rw [hob] at HO
      have hv:chkL ⟨3,nm,ver,ot,rg⟩=5:=by rw [chk_is];simp [chkF,hnb,hob]
      rw [hv]
      clear hv
      go_enter Tryz.func132,Tryz.ntmps132
      go_wp2_with fail
      generalize World.alloc _ (.cells #[.int .i64 3,.string nm,.int .i64 (ver 0),.int .i64 (ver 1),.int .i64 (ver 2),.string ot,.slice A n c] 90)=w0 at HB0 HK0 HO0 ⊢
      refine (HN.out w0).mono ?_
      rintro e w1 ⟨rfl,hb1⟩
      have HB1:=hide (HB0.out.trans (hb1.mono HB0.out.size))
      have HK1:=hide (HK0.out.below hb1 HK0.out.lt)
      have HO1:=hide (HO0.out.below hb1)
      clear hb1 HB0 HK0 HO0
      obtain ⟨⟨c0,c1,c2,c3,c4,c5,c6⟩,_⟩:=blk7 HK1.out
      go_wp2_with fail
      clear c0 c1 c2 c3 c4 c5 c6
      refine (HO.out w1).mono ?_
      rintro e w2 ⟨rfl,hb2⟩
      have HB2:=hide (HB1.out.trans (hb2.mono HB1.out.size))
      have HK2:=hide (HK1.out.below hb2 HK1.out.lt)
      have HO2:=hide (HO1.out.below hb2)
      clear hb2 HB1 HK1 HO1
      obtain ⟨⟨c0,c1,c2,c3,c4,c5,c6⟩,_⟩:=blk7 HK2.out
      go_wp2_with fail
      clear c0 c1 c2 c3 c4 c5 c6
      go_ret
      exact ⟨rfl,HB2.out⟩
     | true =>
      rw [hob] at HO
      cases hok:okB ver with
      | false =>
       have hv:chkL ⟨3,nm,ver,ot,rg⟩=2:=by rw [chk_is];simp [chkF,hnb,hob,hok]
       rw [hok] at HH
       rw [hv]
       clear hv
       go_enter Tryz.func132,Tryz.ntmps132
       go_wp2_with fail
       generalize World.alloc _ (.cells #[.int .i64 3,.string nm,.int .i64 (ver 0),.int .i64 (ver 1),.int .i64 (ver 2),.string ot,.slice A n c] 90)=w0 at HB0 HK0 HO0 ⊢
       refine (HN.out w0).mono ?_
       rintro e w1 ⟨rfl,hb1⟩
       have HB1:=hide (HB0.out.trans (hb1.mono HB0.out.size))
       have HK1:=hide (HK0.out.below hb1 HK0.out.lt)
       have HO1:=hide (HO0.out.below hb1)
       clear hb1 HB0 HK0 HO0
       obtain ⟨⟨c0,c1,c2,c3,c4,c5,c6⟩,_⟩:=blk7 HK1.out
       go_wp2_with fail
       clear c0 c1 c2 c3 c4 c5 c6
       refine (HO.out w1).mono ?_
       rintro e w2 ⟨rfl,hb2⟩
       have HB2:=hide (HB1.out.trans (hb2.mono HB1.out.size))
       have HK2:=hide (HK1.out.below hb2 HK1.out.lt)
       have HO2:=hide (HO1.out.below hb2)
       clear hb2 HB1 HK1 HO1
       obtain ⟨⟨c0,c1,c2,c3,c4,c5,c6⟩,_⟩:=blk7 HK2.out
       go_wp2_with fail
       clear c0 c1 c2 c3 c4 c5 c6
       have bS:Below w2.heap.size w2 w2.drew:=(Below.refl _ _).drew
       obtain ⟨c0,c2,c3,c4⟩:=chk_keep HK2.out (Below.refl _ _)
       go_region_held3 (fun w'=>w'.cell? ⟨w.heap.size,0,none⟩=some (.int .i64 3)∧w'.cell? ⟨w.heap.size,2,none⟩=some (.int .i64 (ver 0))∧w'.cell? ⟨w.heap.size,3,none⟩=some (.int .i64 (ver 1))∧w'.cell? ⟨w.heap.size,4,none⟩=some (.int .i64 (ver 2)))
        (first | exact chk_keep HK2.out (bThen (bThen bS ba) bh) | exact chk_keep HK2.out (bThen bS ba) | exact chk_keep HK2.out bS | exact chk_keep HK2.out (Below.refl _ _))
        (first | (go_at_call 177;refine (any_any _).mono ?_;rintro e wa ⟨va,rfl,oa,ba⟩) | (go_at_call 150;refine (HH.out _ va (by exact oa.mono (Nat.zero_le _))).mono ?_;rintro e wh ⟨rfl,bh⟩))
       all_goals
        go_wp2_with fail
        go_ret
        exact ⟨rfl,HB2.out.trans ((bThen (bThen bS ba) bh).mono HB2.out.size)⟩
      | true =>
       have hv:chkL ⟨3,nm,ver,ot,rg⟩=0:=by rw [chk_is];simp [chkF,hnb,hob,hok]
       rw [hok] at HH
       rw [hv]
       clear hv
       go_enter Tryz.func132,Tryz.ntmps132
       go_wp2_with fail
       generalize World.alloc _ (.cells #[.int .i64 3,.string nm,.int .i64 (ver 0),.int .i64 (ver 1),.int .i64 (ver 2),.string ot,.slice A n c] 90)=w0 at HB0 HK0 HO0 ⊢
       refine (HN.out w0).mono ?_
       rintro e w1 ⟨rfl,hb1⟩
       have HB1:=hide (HB0.out.trans (hb1.mono HB0.out.size))
       have HK1:=hide (HK0.out.below hb1 HK0.out.lt)
       have HO1:=hide (HO0.out.below hb1)
       clear hb1 HB0 HK0 HO0
       obtain ⟨⟨c0,c1,c2,c3,c4,c5,c6⟩,_⟩:=blk7 HK1.out
       go_wp2_with fail
       clear c0 c1 c2 c3 c4 c5 c6
       refine (HO.out w1).mono ?_
       rintro e w2 ⟨rfl,hb2⟩
       have HB2:=hide (HB1.out.trans (hb2.mono HB1.out.size))
       have HK2:=hide (HK1.out.below hb2 HK1.out.lt)
       have HO2:=hide (HO1.out.below hb2)
       clear hb2 HB1 HK1 HO1
       obtain ⟨⟨c0,c1,c2,c3,c4,c5,c6⟩,_⟩:=blk7 HK2.out
       go_wp2_with fail
       clear c0 c1 c2 c3 c4 c5 c6
       have bS:Below w2.heap.size w2 w2.drew:=(Below.refl _ _).drew
       obtain ⟨c0,c2,c3,c4⟩:=chk_keep HK2.out (Below.refl _ _)
       go_region_held3 (fun w'=>w'.cell? ⟨w.heap.size,0,none⟩=some (.int .i64 3)∧w'.cell? ⟨w.heap.size,2,none⟩=some (.int .i64 (ver 0))∧w'.cell? ⟨w.heap.size,3,none⟩=some (.int .i64 (ver 1))∧w'.cell? ⟨w.heap.size,4,none⟩=some (.int .i64 (ver 2)))
        (first | exact chk_keep HK2.out (bThen (bThen bS ba) bh) | exact chk_keep HK2.out (bThen bS ba) | exact chk_keep HK2.out bS | exact chk_keep HK2.out (Below.refl _ _))
        (first | (go_at_call 177;refine (any_any _).mono ?_;rintro e wa ⟨va,rfl,oa,ba⟩) | (go_at_call 150;refine (HH.out _ va (by exact oa.mono (Nat.zero_le _))).mono ?_;rintro e wh ⟨rfl,bh⟩))
       all_goals
        go_wp2_with fail
        go_ret
        exact ⟨rfl,HB2.out.trans ((bThen (bThen bS ba) bh).mono HB2.out.size)⟩
   ·cases hnb:nameB nm with
    | false =>
     rw [hnb] at HN
     have hv:chkL ⟨4,nm,ver,ot,rg⟩=5:=by rw [chk_is];simp [chkF,hnb]
     rw [hv]
     clear hv
     go_enter Tryz.func132,Tryz.ntmps132
     go_wp2_with fail
     generalize World.alloc _ (.cells #[.int .i64 4,.string nm,.int .i64 (ver 0),.int .i64 (ver 1),.int .i64 (ver 2),.string ot,.slice A n c] 90)=w0 at HB0 HK0 HO0 ⊢
     refine (HN.out w0).mono ?_
     rintro e w1 ⟨rfl,hb1⟩
     have HB1:=hide (HB0.out.trans (hb1.mono HB0.out.size))
     have HK1:=hide (HK0.out.below hb1 HK0.out.lt)
     have HO1:=hide (HO0.out.below hb1)
     clear hb1 HB0 HK0 HO0
     obtain ⟨⟨c0,c1,c2,c3,c4,c5,c6⟩,_⟩:=blk7 HK1.out
     go_wp2_with fail
     clear c0 c1 c2 c3 c4 c5 c6
     go_ret
     exact ⟨rfl,HB1.out⟩
    | true =>
     rw [hnb] at HN
     cases hr2:ot.toList.isEmpty with
     | false =>
      have hr1:(!ot.toList.isEmpty)=true:=by rw [hr2];rfl
      have hr0:¬ot.toList=[]:=by intro e;rw [e] at hr2;cases hr2
      have hv:chkL ⟨4,nm,ver,ot,rg⟩=1:=by rw [chk_is];simp [chkF,hnb,hr0]
      rw [hv]
      clear hv
      go_enter Tryz.func132,Tryz.ntmps132
      go_wp2_with fail
      generalize World.alloc _ (.cells #[.int .i64 4,.string nm,.int .i64 (ver 0),.int .i64 (ver 1),.int .i64 (ver 2),.string ot,.slice A n c] 90)=w0 at HB0 HK0 HO0 ⊢
      refine (HN.out w0).mono ?_
      rintro e w1 ⟨rfl,hb1⟩
      have HB1:=hide (HB0.out.trans (hb1.mono HB0.out.size))
      have HK1:=hide (HK0.out.below hb1 HK0.out.lt)
      have HO1:=hide (HO0.out.below hb1)
      clear hb1 HB0 HK0 HO0
      obtain ⟨⟨c0,c1,c2,c3,c4,c5,c6⟩,_⟩:=blk7 HK1.out
      go_wp2_with fail
      clear c0 c1 c2 c3 c4 c5 c6
      go_ret
      exact ⟨rfl,HB1.out⟩
     | true =>
      have hr0:ot.toList=[]:=by simpa using hr2
      have hr1:(!ot.toList.isEmpty)=false:=by rw [hr2];rfl
      cases hv3:eq3 (ver 0) (ver 1) (ver 2) 0 0 0 with
      | false =>
       have hv:chkL ⟨4,nm,ver,ot,rg⟩=1:=by rw [chk_is];simp [chkF,hnb,hr0,hv3]
       rw [hv]
       clear hv
       go_enter Tryz.func132,Tryz.ntmps132
       go_wp2_with fail
       generalize World.alloc _ (.cells #[.int .i64 4,.string nm,.int .i64 (ver 0),.int .i64 (ver 1),.int .i64 (ver 2),.string ot,.slice A n c] 90)=w0 at HB0 HK0 HO0 ⊢
       refine (HN.out w0).mono ?_
       rintro e w1 ⟨rfl,hb1⟩
       have HB1:=hide (HB0.out.trans (hb1.mono HB0.out.size))
       have HK1:=hide (HK0.out.below hb1 HK0.out.lt)
       have HO1:=hide (HO0.out.below hb1)
       clear hb1 HB0 HK0 HO0
       obtain ⟨⟨c0,c1,c2,c3,c4,c5,c6⟩,_⟩:=blk7 HK1.out
       go_wp2_with fail
       clear c0 c1 c2 c3 c4 c5 c6
       go_ret
       exact ⟨rfl,HB1.out⟩
      | true =>
       have hv:chkL ⟨4,nm,ver,ot,rg⟩=0:=by rw [chk_is];simp [chkF,hnb,hr0,hv3]
       rw [hv]
       clear hv
       go_enter Tryz.func132,Tryz.ntmps132
       go_wp2_with fail
       generalize World.alloc _ (.cells #[.int .i64 4,.string nm,.int .i64 (ver 0),.int .i64 (ver 1),.int .i64 (ver 2),.string ot,.slice A n c] 90)=w0 at HB0 HK0 HO0 ⊢
       refine (HN.out w0).mono ?_
       rintro e w1 ⟨rfl,hb1⟩
       have HB1:=hide (HB0.out.trans (hb1.mono HB0.out.size))
       have HK1:=hide (HK0.out.below hb1 HK0.out.lt)
       have HO1:=hide (HO0.out.below hb1)
       clear hb1 HB0 HK0 HO0
       obtain ⟨⟨c0,c1,c2,c3,c4,c5,c6⟩,_⟩:=blk7 HK1.out
       go_wp2_with fail
       clear c0 c1 c2 c3 c4 c5 c6
       obtain ⟨c0,c2,c3,c4⟩:=chk_keep HK1.out (Below.refl _ _)
       go_quiet (fail)
       go_wp2
       go_ret
       exact ⟨rfl,HB1.out.trans ((below_drewN (Below.refl _ _) _).mono HB1.out.size)⟩
end Go.Proofs.YtojgbcmhdnappaaGreatDoor
