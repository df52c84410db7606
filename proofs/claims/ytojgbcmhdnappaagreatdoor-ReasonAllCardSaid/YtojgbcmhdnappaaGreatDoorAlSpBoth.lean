/-
  A part of the proof: SpBoth. Conditions: none.
-/
import Derived.Test.YtojgbcmhdnappaaGreatDoorAlRgText
import Derived.Test.YtojgbcmhdnappaaGreatDoorAlRefCheck
import Derived.Shelf.GgSortFunc.InsertionK
import Derived.Lib.SlKept
import Derived.Lib.SliceRun
import Derived.Test.YtojgbcmhdnappaaGreatDoorAlRgLay
import Derived.Shelf.SlSortCmp.NoneTotal
import Derived.Deep.RegionHeld3
namespace Go.Proofs.YtojgbcmhdnappaaGreatDoor
open Go.RowKit
def spV (s:Nat×Nat):List Value:=[.int .i64 (s.1:Int),.int .i64 (s.2:Int)]
def spsV (l:List (Nat×Nat)):List Value:=l.flatMap spV
theorem spsV_len:∀ l:List (Nat×Nat),(spsV l).length=l.length*2
 | []=>rfl
 | q :: l=>by
  show (spV q++spsV l).length=_
  rw [List.length_append,spsV_len l,List.length_cons]
  show 2+_=_
  omega
theorem spsV_at:∀ (l:List (Nat×Nat)) (k j:Nat),k<l.length→j<2→(spsV l)[k*2+j]?=(spV l[k]!)[j]?
 | [],k,j,h,_=>absurd h (Nat.not_lt_zero k)
 | q :: l,0,j,_,hj=>by
  show (spV q++spsV l)[0*2+j]?=_
  rw [List.getElem?_append_left (by show 0*2+j<2;omega),Nat.zero_mul,Nat.zero_add]
  rfl
 | q :: l,k+1,j,h,hj=>by
  show (spV q++spsV l)[(k+1)*2+j]?=_
  rw [List.getElem?_append_right (by show 2≤(k+1)*2+j;omega),show (k+1)*2+j-(spV q).length=k*2+j by show (k+1)*2+j-2=_;omega,spsV_at l k j (by simp at h;omega) hj]
  simp
theorem spsV_app (a b:List (Nat×Nat)):spsV (a++b)=spsV a++spsV b:=by unfold spsV;rw [List.flatMap_append]
def OwnP (w:World) (base:Nat) (v:Value) (l:List (Nat×Nat)):Prop:=w.ownsRow base 254 2 v l.length (spsV l)
structure RowS (w:World) (g cap:Nat) (d:Array (Nat×Nat)):Prop where
 is:∃ cur,Blk w g 254 cur∧cur.size=cap*2∧d.size≤cap∧∀ i,i<d.size→cur[i*2]?=some (.int .i64 (d[i]!.1:Int))∧cur[i*2+1]?=some (.int .i64 (d[i]!.2:Int))
section
variable {w w':World} {base base' g cap:Nat} {v:Value} {l:List (Nat×Nat)} {d:Array (Nat×Nat)}
theorem OwnP.below (h:OwnP w base v l) (hb:Below w.heap.size w w'):OwnP w' base v l :=
 World.ownsRow.kept h (row:=none) ⟨hb.os,hb.tape,hb.output,hb.size,fun i hi _=>hb.block i hi⟩ (by cases v.ownBlock <;> simp)
theorem OwnP.kept {r:Option Nat} (h:OwnP w base v l) (hg:w.grownBy w' r) (hr:v.ownBlock=none∨v.ownBlock≠r):OwnP w' base v l:=World.ownsRow.kept h hg hr
theorem OwnP.mono (h:OwnP w base v l) (hb:base'≤base):OwnP w base' v l:=by
 refine ⟨h.1,?_⟩
 rcases h.2 with h2 | ⟨g,cap,cur,e,hg,r⟩
 ·exact .inl h2
 ·exact .inr ⟨g,cap,cur,e,Nat.le_trans hb hg,r⟩
theorem ownP_nil (w:World) (base:Nat):OwnP w base (.slice none 0 0) []:=World.ownsRow_nil _ _ _ _
theorem OwnP.len (h:OwnP w base v l):∃ A c,v=.slice A l.length c:=by
 rcases h.2 with ⟨rfl,h0⟩ | ⟨g,cap,cur,rfl,_⟩
 ·exact ⟨none,0,by rw [h0]⟩
 ·exact ⟨_,_,rfl⟩
theorem OwnP.form (h:OwnP w base v l):(v=.slice none 0 0∧l=[])∨∃ g cap,v=.slice (some ⟨g,0,none⟩) l.length cap∧base≤g∧cap≤maxLen∧RowS w g cap l.toArray:=by
 rcases h.2 with ⟨rfl,h0⟩ | ⟨g,cap,cur,rfl,hg,hgc,hle,hcm,hcs,hct⟩
 ·exact .inl ⟨rfl,List.length_eq_zero_iff.1 h0⟩
 ·refine .inr ⟨g,cap,rfl,hg,hcm,cur,hgc,hcs,by simpa using hle,fun i hi=>?_⟩
  have hi':i<l.length:=by simpa using hi
  have each:∀ j,j<2→cur[i*2+j]?=(spV l[i]!)[j]?:=fun j hj=>by
   rw [←spsV_at l i j hi' hj,←hct,List.getElem?_take_of_lt (by omega)]
   simp
  have e:l.toArray[i]! = l[i]! := by simp
  rw [e]
  exact ⟨each 0 (by omega),each 1 (by omega)⟩
theorem RowS.lt (h:RowS w g cap d):g<w.heap.size:=by obtain ⟨cur,hk,_⟩:=h.is;exact hk.lt
theorem RowS.cap_ (h:RowS w g cap d):d.size≤cap:=by obtain ⟨cur,hk,_,hd,_⟩:=h.is;exact hd
theorem RowS.cell (h:RowS w g cap d) {i:Nat} (hi:i<d.size):w.cell? ⟨g,i*2,none⟩=some (.int .i64 (d[i]!.1:Int))∧w.cell? ⟨g,i*2+1,none⟩=some (.int .i64 (d[i]!.2:Int)):=by
 obtain ⟨cur,hk,_,_,hc⟩:=h.is
 obtain ⟨c0,c1⟩:=hc i hi
 exact ⟨(hk.cell _).trans c0,(hk.cell _).trans c1⟩
theorem RowS.frozen (h:RowS w g cap d) (i:Nat):w.frozen? ⟨g,i,none⟩=false:=by obtain ⟨cur,hk,_⟩:=h.is;exact hk.frozen i
theorem RowS.some_ (h:RowS w g cap d) {i:Nat} (hi:i<cap*2):(w.cell? ⟨g,i,none⟩).isSome=true:=by
 obtain ⟨cur,hk,hs,_⟩:=h.is
 rw [hk.cell i,Array.getElem?_eq_getElem (by omega)]
 rfl
theorem RowS.below {B:Nat} (h:RowS w g cap d) (hb:Below B w w') (hg:g<B):RowS w' g cap d:=by
 obtain ⟨cur,hk,r⟩:=h.is
 exact ⟨cur,hk.below hb hg,r⟩
theorem RowS.alloc (h:RowS w g cap d) (o:Obj):RowS (w.alloc o) g cap d:=h.below ((Below.refl w.heap.size w).alloc (Nat.le_refl _) o) h.lt
theorem RowS.put (h:RowS w g cap d) {i:Nat} (hi:i<d.size) (a b:Nat):RowS ((w.setCell ⟨g,i*2,none⟩ (.int .i64 (a:Int))).setCell ⟨g,i*2+1,none⟩ (.int .i64 (b:Int))) g cap (d.setIfInBounds i (a,b)):=by
 obtain ⟨cur,hk,hs,hd,hc⟩:=h.is
 refine ⟨_,(hk.set_ (i*2) (.int .i64 (a:Int))).set_ (i*2+1) (.int .i64 (b:Int)),by simpa using hs,by simpa using hd,fun j hj=>?_⟩
 have hj':j<d.size:=by simpa using hj
 by_cases e:j=i
 ·subst e
  rw [Sort.getElem!_set_same d j _ hi]
  simp only [Array.getElem?_setIfInBounds]
  constructor
  ·rw [if_neg (by omega),if_pos trivial,if_pos (by omega)]
  ·rw [if_pos trivial,if_pos (by simp;omega)]
 ·rw [Sort.getElem!_set_other d i j _ e]
  simp only [Array.getElem?_setIfInBounds]
  rw [if_neg (by omega),if_neg (by omega),if_neg (by omega),if_neg (by omega)]
  exact hc j hj'
theorem RowS.own (h:RowS w g cap d) (hb:base≤g) (hm:cap≤maxLen):OwnP w base (.slice (some ⟨g,0,none⟩) d.size cap) d.toList:=by
 obtain ⟨cur,hk,hs,hd,hc⟩:=h.is
 refine ⟨spsV_len _,.inr ⟨g,cap,cur,by simp,hb,hk,by simpa using hd,hm,hs,?_⟩⟩
 apply List.ext_getElem?
 intro j
 by_cases hj:j<d.size*2
 ·have e1:j=j / 2*2+j % 2:=by omega
  have hq:j / 2<d.size:=by omega
  rw [List.getElem?_take_of_lt (by simpa using hj),e1,spsV_at _ _ _ (by simpa using hq) (by omega)]
  have e:d.toList[j / 2]! = d[j / 2]! := by
   rw [getElem!_pos d _ hq,getElem!_pos d.toList _ (by simpa using hq)]
   simp
  rw [e]
  obtain ⟨c0,c1⟩:=hc _ hq
  rcases (show j % 2=0∨j % 2=1 by omega) with h0 | h0
  ·rw [h0,Nat.add_zero]
   simpa [spV] using c0
  ·rw [h0]
   simpa [spV] using c1
 ·rw [List.getElem?_eq_none (by simp;omega),List.getElem?_eq_none (by rw [spsV_len];simp;omega)]
theorem RowS.holds (h:RowS w g cap d):Sort.HoldsK spV 2 w g 0 d:=by
 intro t ht
 rw [Sort.size_flatK] at ht
 have hq:t / 2<d.size:=by omega
 obtain ⟨c0,c1⟩:=h.cell hq
 rw [Sort.get_flatK _ _ _ _ ht,Nat.zero_add]
 refine ⟨?_,h.frozen t⟩
 have e1:t=t / 2*2+t % 2:=by omega
 rcases (show t % 2=0∨t % 2=1 by omega) with h0 | h0
 ·rw [h0]
  rw [h0,Nat.add_zero] at e1
  rw [←e1] at c0
  exact c0
 ·rw [h0]
  rw [h0] at e1
  rw [←e1] at c1
  exact c1
theorem RowS.sorted {d':Array (Nat×Nat)} {n:Nat} {os:Array Obj} (h:RowS w g cap d) (hs:d'.size=d.size):RowS (sortWorldK spV 2 w g 0 n d' os) g cap d':=by
 obtain ⟨cur,hk,hz,hd,hc⟩:=h.is
 refine ⟨Sort.putCells id 0 (Sort.flatK spV 2 d') cur,?_,by simp [Sort.putCells,hz],by omega,fun i hi=>?_⟩
 ·have hg:g<w.heap.size:=hk.lt
  unfold sortWorldK Sort.putRowK
  show (Sort.grow _ os).heap[g]?=_
  rw [Sort.heap_grow_old _ _ (by simpa [Sort.ahead] using hg)]
  have hk':w.heap[g]?=some (.cells cur 254 (0,0)):=hk
  simp [Sort.putRow,Sort.mapBlock,Sort.ahead,Array.getElem?_modify,hk',Sort.onCells]
 ·have a0:(Sort.flatK spV 2 d')[i*2]! = (spV d'[i]!)[0]! := by
   rw [Sort.get_flatK _ _ _ _ (by omega),show i*2 / 2=i by omega,show i*2 % 2=0 by omega]
  have a1:(Sort.flatK spV 2 d')[i*2+1]! = (spV d'[i]!)[1]! := by
   rw [Sort.get_flatK _ _ _ _ (by omega),show (i*2+1) / 2=i by omega,show (i*2+1) % 2=1 by omega]
  constructor
  ·simp only [Sort.putCells,Array.getElem?_mapIdx,Sort.size_flatK]
   rw [Array.getElem?_eq_getElem (show i*2<cur.size by omega)]
   simp only [Option.map_some,Nat.sub_zero,id_eq]
   rw [if_pos (by omega),a0]
   rfl
  ·simp only [Sort.putCells,Array.getElem?_mapIdx,Sort.size_flatK]
   rw [Array.getElem?_eq_getElem (show i*2+1<cur.size by omega)]
   simp only [Option.map_some,Nat.sub_zero,id_eq]
   rw [if_pos (by omega),a1]
   rfl
theorem only_sorted {n:Nat} {os:Array Obj}:w.grownBy (sortWorldK spV 2 w g 0 n d os) (some g):=by
 refine ⟨rfl,rfl,rfl,by simp [sortWorldK,Sort.putRowK,Sort.grow,Sort.ahead,Sort.putRow,Sort.mapBlock],fun k hk hne=>?_⟩
 unfold sortWorldK Sort.putRowK
 rw [Sort.heap_grow_old _ _ (by simpa [Sort.ahead] using hk)]
 have:g≠k:=fun e=>hne (by rw [e])
 simp [Sort.putRow,Sort.mapBlock,Sort.ahead,Array.getElem?_modify,this]
end
theorem spanInfo:(Tryz.prog.info? 254).map (fun i=>(i.zero,i.size,i.bytes))=some (some (.agg #[.int .i64 0,.int .i64 0]),2,16):=by kernel_rfl
theorem ownP_one (w:World) (base:Nat) (s:Nat×Nat) (hb:base≤w.heap.size):OwnP (w.alloc (.cells #[.int .i64 (s.1:Int),.int .i64 (s.2:Int)] 254)) base (.slice (some ⟨w.heap.size,0,none⟩) 1 1) [s] :=
 ⟨rfl,.inr ⟨w.heap.size,1,#[.int .i64 (s.1:Int),.int .i64 (s.2:Int)],rfl,hb,Blk.new w _ _,Nat.le_refl _,by simp [maxLen],rfl,rfl⟩⟩
theorem span_reads {w:World} {g:Nat} {q:Nat×Nat} (h:Blk w g 254 #[.int .i64 (q.1:Int),.int .i64 (q.2:Int)]):Reads w (g+1) 2 (some ⟨g,0,none⟩) 1 (spV q):=by
 refine ⟨rfl,fun _=>⟨_,rfl,Nat.lt_succ_self _,fun j x hx=>?_⟩⟩
 have c:=h.cell j
 have e:(⟨g,0,none⟩:Addr).add j=⟨g,j,none⟩:=by
  unfold Addr.add
  split
  ·rename_i h0;rw [h0]
  ·simp
 rw [e,c]
 match j,hx with
 | 0,hx=>exact hx
 | 1,hx=>exact hx
 | j+2,hx=>cases hx
theorem appP (w:World) {ops:Array Oper} {rest:List Oper} {o:Oper} {a:Act} {Q:Exit→Act→World→Prop} (hgd:o.guard=none) (s x:Operand) (t:TypeId)
  (ho:o.op=.call { callee:=.builtin .append,args:=#[s,x],argTypes:=#[t,t] }) (base:Nat) (ht:Tryz.prog.underlying t=some (.slice 254))
  (v:Value) (qs:List (Nat×Nat)) (hs:a.eval s=v) (hown:OwnP w base v qs) (b c:Nat) (q:Nat×Nat) (hx:a.eval x=.slice (some ⟨b,0,none⟩) 1 c) (hk:Blk w b 254 #[.int .i64 (q.1:Int),.int .i64 (q.2:Int)])
  (hl:qs.length≤4000000000) (hbase:base≤w.heap.size)
  (h:∀ v' w',OwnP w' base v' (qs++[q])→w.grownBy w' v.ownBlock→(v'.ownBlock=v.ownBlock∨v'.ownBlock=some w.heap.size)→wpList Tryz.prog ops Q rest (a.put o.dst v') w'):wpList Tryz.prog ops Q (o :: rest) a w:=by
 obtain ⟨i0,hi,hz0,hz1,hz2⟩:=info_parts spanInfo
 refine wpList_append_any w hgd s x t ho base 254 i0 (.agg #[.int .i64 0,.int .i64 0]) 2 16 ht hi hz0 hz1 hz2 rfl (by decide) v qs.length _ hs hown (b+1) _ 1 c (spV q) hx (span_reads hk) (fun u hu=>by
  simp only [spV,List.mem_cons,List.not_mem_nil,or_false] at hu
  rcases hu with rfl | rfl <;> rfl) (by simp only [maxLen];omega) (by omega) hbase ?_
 intro v' w' ho' hg' hor
 refine h v' w' ?_ hg' hor
 unfold OwnP
 rw [List.length_append,spsV_app,show spsV [q]=spV q by simp [spsV]]
 exact ho'
theorem Blk.setCells_ {g:Nat} {t:TypeId}:∀ (vs:List Value) (o:Nat) (w:World) (cs:Array Value),Blk w g t cs→w.grownBy (w.setCells g o vs) (some g)∧∃ cs',Blk (w.setCells g o vs) g t cs'∧cs'.size=cs.size∧∀ j,j<o→cs'[j]?=cs[j]?
 | [],o,w,cs,h=>⟨⟨rfl,rfl,rfl,Nat.le_refl _,fun _ _ _=>rfl⟩,cs,h,rfl,fun _ _=>rfl⟩
 | v :: r,o,w,cs,h=>by
  obtain ⟨hg,cs',hk,hs,hc⟩:=Blk.setCells_ r (o+1) _ _ (h.set_ o v)
  have g1:w.grownBy (w.setCell ⟨g,o,none⟩ v) (some g):=only_setCell ⟨rfl,rfl,rfl,Nat.le_refl _,fun _ _ _=>rfl⟩ (.inl rfl) v
  refine ⟨⟨hg.os.trans g1.os,hg.tape.trans g1.tape,hg.output.trans g1.output,Nat.le_trans g1.size hg.size,fun k hk hne=>(hg.block k (Nat.lt_of_lt_of_le hk g1.size) hne).trans (g1.block k hk hne)⟩,cs',hk,by simpa using hs,fun j hj=>?_⟩
  rw [hc j (by omega),Array.getElem?_setIfInBounds,if_neg (by omega)]
theorem clear_tail {w:World} {g cap n c t:Nat} {d:Array (Nat×Nat)} (h:RowS w g cap d) {i:Nat} (hn:0<n) (hi:i+n≤cap) (hd:i≤d.size) (ht:Tryz.prog.underlying t=some (.slice 254)) (ty:TypeId) :
  ∃ w',(Builtin.clear_ #[t] ty #[.slice (some ⟨g,i*2,none⟩) n c]).run Tryz.prog w=.ok (.tuple #[]) w'∧RowS w' g cap (d.extract 0 i)∧w.grownBy w' (some g):=by
 obtain ⟨i0,hi0,hz0,_,_⟩:=info_parts spanInfo
 have hv:∀ w,(zeroValue 254).run Tryz.prog w=.ok (.agg #[.int .i64 0,.int .i64 0]) w:=fun w=>by simp [zeroValue,typeInfo,hi0,hz0]
 have hcl:(Value.agg #[.int .i64 0,.int .i64 0]).cells=#[.int .i64 0,.int .i64 0]:=by simp [Value.cells]
 have hzc:(Builtin.zeroCells (Value.agg #[.int .i64 0,.int .i64 0]).cells n).toList=List.replicate (n*2) (.int .i64 0):=by
  rw [hcl]
  simp [Builtin.zeroCells]
  apply List.ext_getElem
  ·simp
  ·intro k h1 h2
   rcases (show k % 2=0∨k % 2=1 by omega) with h0 | h0 <;> simp [h0]
 have hst:=run_storeCells_cells (P:=Tryz.prog) g (i*2) (List.replicate (n*2) (.int .i64 0)) 0 w (fun j hj=>by rw [Nat.add_zero];exact h.some_ (by simp at hj;omega)) (fun j _=>h.frozen _) (by intro v hv';rw [List.eq_of_mem_replicate hv'];rfl)
 rw [Nat.add_zero] at hst
 obtain ⟨m,rfl⟩:∃ m,n=m+1:=⟨n-1,by omega⟩
 obtain ⟨cur,hk,hs,hdc,hc⟩:=h.is
 obtain ⟨hg,cs',hk',hs',hc'⟩:=Blk.setCells_ (List.replicate ((m+1)*2) (.int .i64 0)) (i*2) w cur hk
 refine ⟨_,?_,⟨cs',hk',by omega,by simp;omega,fun j hj=>?_⟩,hg⟩
 ·simp [Builtin.clear_,run_underlying ht,hv,hzc,hst]
 ·have hj1:j<d.size:=by simp at hj;omega
  have hj2:j<i:=by simp at hj;omega
  have e:(d.extract 0 i)[j]! = d[j]! := by
   rw [getElem!_pos _ j hj,getElem!_pos d j hj1]
   simp
  rw [e,hc' _ (by omega),hc' _ (by omega)]
  exact hc j hj1
end Go.Proofs.YtojgbcmhdnappaaGreatDoor
namespace Go.Proofs.YtojgbcmhdnappaaGreatDoor
open Go.RowKit
theorem isAggSp:∀ w,(isAgg 254).run Tryz.prog w=.ok true w:=fun w=>by kernel_rfl
theorem sizeOfSp:∀ w,(Go.sizeOf 254).run Tryz.prog w=.ok 2 w:=fun w=>by kernel_rfl
def emptyS (x:Nat×Nat):Bool:=decide (x.2≤x.1)
def Made1P (x:Nat×Nat) (w:World) (e:Ending) (w':World):Prop:=e=.returned (.bool (emptyS x))∧Below w.heap.size w w'
theorem made1_any (x:Nat×Nat) (w:World):Calls Tryz.prog 263 #[.agg #[.int .i64 (x.1:Int),.int .i64 (x.2:Int)]] w (Made1P x w):=by
 have hE:emptyS x=decide ((x.1:Int)≥(x.2:Int)):=by unfold emptyS;by_cases h:x.2≤x.1 <;> simp [h] <;> omega
 unfold Made1P
 rw [hE]
 go_enter Tryz.func263,Tryz.ntmps263
 go_wp2
 all_goals (go_ret;exact ⟨by first | rfl | simp_all,(Below.refl _ _).alloc (Nat.le_refl _) _⟩)
theorem enters_made1:∀ args w,(callFunc 263 args).run Tryz.prog w=.ok (.enter 263 args) w:=enters_of Tryz.func263 (by kernel_rfl) rfl
theorem made1_pred (w:World):PredBelow Tryz.prog 263 #[] (fun x=>.agg (spV x).toArray) emptyS w:=fun W x hb =>
 (made1_any x W).mono fun _ _ ⟨he,hw⟩=>⟨he,hb.trans (hw.mono hb.size)⟩
theorem enters_made2:∀ args w,(callFunc 265 args).run Tryz.prog w=.ok (.enter 265 args) w:=enters_of Tryz.func265 (by kernel_rfl) rfl
def cfS (x y:Nat×Nat):Int:=Lib.compareInt (x.1:Int) (y.1:Int)
theorem ltS (x y:Nat×Nat):ltOf cfS x y=decide (x.1<y.1):=by
 unfold ltOf cfS Lib.compareInt
 by_cases h1:x.1<y.1
 ·simp [h1]
 ·by_cases h2:y.1<x.1 <;> simp [h1,h2]
theorem swoS:Sort.SWO (ltOf cfS) where
 irrefl x:=by rw [ltS];simp
 trans x y z h1 h2:=by rw [ltS] at *;simp at *;omega
 ntrans x y z h1 h2:=by rw [ltS] at *;simp at *;omega
def Made2P (x y:Nat×Nat) (W:World) (e:Ending) (w':World):Prop:=e=.returned (.int .i64 (cfS x y))∧∃ q os',w'=Sort.grow (W.drewN q) os'
theorem made2_any (x y:Nat×Nat) (W:World):Calls Tryz.prog 265 #[.agg #[.int .i64 (x.1:Int),.int .i64 (x.2:Int)],.agg #[.int .i64 (y.1:Int),.int .i64 (y.2:Int)]] W (Made2P x y W):=by
 have hcon:=fun W'=>AnyG.cmp_Compare_int Tryz.cmpInt (x.1:Int) (y.1:Int) W'
 change ∀ W',Calls Tryz.prog 237 _ _ _ at hcon
 unfold Made2P cfS
 generalize Lib.compareInt (x.1:Int) (y.1:Int)=r at hcon ⊢
 go_enter Tryz.func265,Tryz.ntmps265
 go_wp2_with (go_at_call 237;refine (hcon _).mono ?_;rintro e w' ⟨rfl,rfl⟩)
 go_ret
 exact ⟨rfl,0,_,by rw [Sort.alloc_eq_grow,Sort.alloc_eq_grow,Sort.grow_grow];rfl⟩
theorem made2_lays (blk off size:Nat) (w:World):CmpLays Tryz.prog 265 #[] spV 2 cfS blk off size w:=fun _ _ _ _ x y=>made2_any x y _
def SortP (w:World) (g cap:Nat) (d:Array (Nat×Nat)) (e:Ending) (w':World):Prop :=
 e=.returned (.tuple #[])∧w.grownBy w' (some g)∧∃ d',RowS w' g cap d'∧d'.toList.Perm d.toList∧RiseS d'.toList
theorem sort_any (g cap:Nat) (d:Array (Nat×Nat)) (w:World) (h:RowS w g cap d) (hsz:d.size<4611686018427387904) :
  Calls Tryz.prog 264 #[.slice (some ⟨g,0,none⟩) d.size cap,.func (.func 265) #[] #[]] w (SortP w g cap d):=by
 refine (AnyQ.slices_SortFunc Tryz.sortSp 2 isAggSp sizeOfSp spV (fun _=>rfl) (fun x v hv=>by simp [spV] at hv;rcases hv with rfl | rfl <;> rfl) cfS swoS 265 #[] g 0 cap d w enters_made2 (made2_lays _ _ _ _) h.holds h.lt hsz).mono ?_
 rintro e w' ⟨rfl,d',n,os,hp,hs,rfl⟩
 refine ⟨rfl,only_sorted,d',h.sorted hp.1,?_,?_⟩
 ·have h2:=hp.2.2
  have e1:d'.extract 0 d.size=d':=by rw [←hp.1];simp
  have e2:d.extract 0 d.size=d:=by simp
  rw [e1,e2] at h2
  exact h2
 ·unfold RiseS
  rw [List.pairwise_iff_getElem]
  intro i j hi hj hij
  have hi':i<d'.size:=by simpa using hi
  have hj':j<d'.size:=by simpa using hj
  have:=hs i j (Nat.zero_le _) hij (by rw [←hp.1];exact hj')
  rw [ltS,getElem!_pos d' j hj',getElem!_pos d' i hi'] at this
  simp at this ⊢
  exact this
theorem idx_spec {α:Type} [Inhabited α] (p:α→Bool):∀ (l:List α) (i:Nat),(Lib.idxByFrom (fun _ y=>p y) default l i = -1∧∀ j,j<l.length→p l[j]! = false)∨∃ k,k<l.length∧Lib.idxByFrom (fun _ y=>p y) default l i=((i+k:Nat):Int)∧p l[k]! = true∧∀ j,j<k→p l[j]! = false
 | [],_=>.inl ⟨rfl,fun j hj=>absurd hj (Nat.not_lt_zero _)⟩
 | y :: r,i=>by
  cases h:p y with
  | true=>exact .inr ⟨0,by simp,by simp [Lib.idxByFrom,h],by simpa using h,fun j hj=>absurd hj (Nat.not_lt_zero _)⟩
  | false =>
   rcases idx_spec p r (i+1) with ⟨e,ha⟩ | ⟨k,hk,e,ht,ha⟩
   ·refine .inl ⟨by simp [Lib.idxByFrom,h,e],fun j hj=>?_⟩
    cases j with
    | zero=>simpa using h
    | succ j=>simpa using ha j (by simpa using hj)
   ·refine .inr ⟨k+1,by simpa using hk,by simp only [Lib.idxByFrom,h];rw [show (if false=true then (i:Int) else Lib.idxByFrom (fun _ y=>p y) default r (i+1))=Lib.idxByFrom (fun _ y=>p y) default r (i+1) from rfl,e];congr 1;omega,by simpa using ht,fun j hj=>?_⟩
    cases j with
    | zero=>simpa using h
    | succ j=>simpa using ha j (by omega)
def IdxP (w:World) (d:Array (Nat×Nat)) (e:Ending) (w':World):Prop:=e=.returned (.int .i64 (Lib.idxByFrom (fun _ y=>emptyS y) default d.toList 0))∧Below w.heap.size w w'
theorem idx_any (g cap:Nat) (d:Array (Nat×Nat)) (w:World) (h:RowS w g cap d) (hsz:d.size≤9223372036854775807) :
  Calls Tryz.prog 244 #[.slice (some ⟨g,0,none⟩) d.size cap,.func (.func 263) #[] #[]] w (IdxP w d):=by
 have hI:=AnyQ.slices_IndexFunc Tryz.idxSp 2 isAggSp sizeOfSp spV (fun _=>rfl) emptyS 263 #[] enters_made1 g 0 d.size cap d.toList w (made1_pred w) (by simp) hsz h.lt (fun j hj i v hv=>by
  have hj':j<d.size:=by simpa using hj
  obtain ⟨c0,c1⟩:=h.cell hj'
  have e:d.toList[j]! = d[j]! := by
   rw [getElem!_pos d _ hj',getElem!_pos d.toList _ hj]
   simp
  rw [e] at hv
  rw [Nat.zero_add]
  match i,hv with
  | 0,hv=>rw [←hv];exact c0
  | 1,hv=>rw [←hv];exact c1
  | i+2,hv=>cases hv)
 rw [List.take_of_length_le (by simp)] at hI
 exact hI
set_option maxRecDepth 100000 in
theorem idxNil_any (w:World):Calls Tryz.prog 244 #[.slice none 0 0,.func (.func 263) #[] #[]] w (IdxP w #[]):=by
 unfold IdxP
 go_enter Tryz.func244,Tryz.ntmps244
 go_wp2
 go_loopw [8] (fun iv wr=>iv=.int .i64 0∧wr=w) (fun _ _=>0)
 case atStart=>exact ⟨rfl,rfl⟩
 case round =>
  obtain ⟨rfl,rfl⟩:=hrel
  go_wp2
  go_ret
  exact ⟨rfl,Below.refl _ _⟩
end Go.Proofs.YtojgbcmhdnappaaGreatDoor
namespace Go.Proofs.YtojgbcmhdnappaaGreatDoor
open Go.RowKit
def DelP (w:World) (g cap:Nat) (d:Array (Nat×Nat)) (e:Ending) (w':World):Prop :=
 e=.returned (.slice (some ⟨g,0,none⟩) (fullS d.toList).length cap)∧RowS w' g cap (fullS d.toList).toArray∧w.grownBy w' (some g)
theorem full_kept (d:Array (Nat×Nat)):fullS d.toList=Lib.keptUpTo (fun j=>!emptyS d[j]!) d d.size:=by
 rw [Lib.keptUpTo_filter (fun x=>!emptyS x) d]
 unfold fullS emptyS
 congr 1
 funext x
 by_cases h:x.2≤x.1
 ·simp [h]
 ·simp [h];omega
theorem kept_row {kp:Nat→Bool} {d dk:Array (Nat×Nat)} {m k:Nat} (h:Lib.KeptInv kp d m k dk) (hm:m≤dk.size):dk.extract 0 k=(Lib.keptUpTo kp d m).toArray:=by
 have hk:=h.lt
 apply Array.ext
 ·simp [h.len];omega
 ·intro j h1 h2
  have hj:j<k:=by simp at h1;omega
  have hl:=h.low j hj
  rw [getElem!_pos dk j (by omega),List.getElem?_eq_getElem (by rw [h.len];exact hj)] at hl
  injection hl with hl
  simp [hl]
theorem full_all {d:Array (Nat×Nat)} (h:∀ j,j<d.toList.length→emptyS d.toList[j]! = false):fullS d.toList=d.toList:=by
 unfold fullS
 refine List.filter_eq_self.2 fun x hx=>?_
 obtain ⟨j,hj,rfl⟩:=List.getElem_of_mem hx
 have:=h j hj
 rw [getElem!_pos d.toList j hj] at this
 unfold emptyS at this
 simp at this ⊢
 exact this
theorem grown_below {a w w':World} {r:Option Nat} (h:a.grownBy w r) (hb:Below w.heap.size w w'):a.grownBy w' r :=
 ⟨hb.os.trans h.os,hb.tape.trans h.tape,hb.output.trans h.output,Nat.le_trans h.size hb.size,fun k hk hne=>(hb.block k (Nat.lt_of_lt_of_le hk h.size)).trans (h.block k hk hne)⟩
theorem grown_more {a w w':World} {r:Option Nat} (h:a.grownBy w r) (k:w.grownBy w' r):a.grownBy w' r :=
 ⟨k.os.trans h.os,k.tape.trans h.tape,k.output.trans h.output,Nat.le_trans h.size k.size,fun i hi hne=>(k.block i (Nat.lt_of_lt_of_le hi h.size) hne).trans (h.block i hi hne)⟩
theorem grown_refl (w:World) (r:Option Nat):w.grownBy w r:=⟨rfl,rfl,rfl,Nat.le_refl _,fun _ _ _=>rfl⟩
set_option maxRecDepth 100000 in
set_option maxHeartbeats 2000000 in
theorem delete_any (g cap:Nat) (d:Array (Nat×Nat)) (w:World) (h:RowS w g cap d) (hsz:d.size≤4000000000) :
  Calls Tryz.prog 262 #[.slice (some ⟨g,0,none⟩) d.size cap,.func (.func 263) #[] #[]] w (DelP w g cap d):=by
 have hI:=idx_any g cap d w h (by omega)
 have hcc:=h.cap_
 have HR:=hide h
 unfold IdxP at hI
 rcases idx_spec emptyS d.toList 0 with ⟨e1,hall⟩ | ⟨k0,hk0,e1,ht,hall⟩
 ·rw [e1] at hI
  have HA:=Lib.hid hall
  clear hall e1 h
  go_enter Tryz.func262,Tryz.ntmps262
  go_wp2_with (go_at_call 244;refine hI.mono ?_;rintro e w9 ⟨rfl,hb9⟩)
  go_ret
  unfold DelP
  rw [full_all HA.out]
  exact ⟨by simp,by simpa using HR.out.below hb9 HR.out.lt,only_of_below hb9 _⟩
 ·have hk0':k0<d.size:=by simpa using hk0
  rw [e1,Nat.zero_add] at hI
  have tl:∀ j,j<d.size→d.toList[j]! = d[j]! := fun j hj=>by
   rw [getElem!_pos d _ hj,getElem!_pos d.toList _ (by simpa using hj)]
   simp
  obtain ⟨kp,hkp⟩:∃ kp:Nat→Bool,kp=fun j=>!emptyS d[j]! := ⟨_,rfl⟩
  have hst:Lib.KeptInv kp d (k0+1) k0 d:=.start (fun j hj=>by rw [hkp];show (!emptyS d[j]!)=true;rw [←tl j (by omega),hall j hj];rfl) (by rw [hkp];show (!emptyS d[k0]!)=false;rw [←tl k0 hk0',ht];rfl)
  have HST:=hide hst
  have hK:fullS d.toList=Lib.keptUpTo kp d d.size:=by rw [hkp];exact full_kept d
  have HK:=Lib.hid hK
  have hne1:((k0:Int) == -1)=false:=beq_eq_false_iff_ne.2 (by omega)
  have HKP:=Lib.hid hkp
  clear hall e1 ht hk0 tl hkp hst hK h
  go_enter Tryz.func262,Tryz.ntmps262
  go_wp2_with (go_at_call 244;refine hI.mono ?_;rintro e w9 ⟨rfl,hb9⟩)
  have HR9:=hide (HR.out.below hb9 HR.out.lt)
  have HG9:=hide (only_of_below hb9 (some g))
  clear hI hb9
  go_loopw [5,6,7] (fun v5 v6 v7 wr=>∃ (i j:Nat) (dk:Array (Nat×Nat)),v5=.int .i64 i∧v6=.int .i64 j∧j≤d.size∧Hid (RowS wr g cap dk)∧Hid (w.grownBy wr (some g))∧Hid (Lib.KeptInv kp d j i dk)) (fun _ v6 _ _=>d.size-(intOf v6).toNat)
  case atStart=>exact ⟨k0,k0+1,d,rfl,by go_num,by omega,HR9,HG9,HST⟩
  case round =>
   clear HST HR9 HG9
   obtain ⟨i,j,dk,rfl,rfl,hjd,HRk,HGk,HI⟩:=hrel
   have hij:=HI.out.lt
   have hds:=HI.out.size
   by_cases hlt:j<d.size
   ·have hltz:(j:Int)<(d.size:Int):=by omega
    obtain ⟨c0,c1⟩:=HRk.out.cell (show j<dk.size by omega)
    rw [HI.out.high j (by omega)] at c0 c1
    have HM:=hide (fun W=>made1_any d[j]! W)
    have hu:=Lib.hid (rfl:d[j]! = d[j]!)
    have hkj:kp j=!emptyS d[j]! := by rw [HKP.out]
    have HKJ:=Lib.hid hkj
    have HPUT:=hide (HI.out.keep hlt)
    clear hkj
    generalize d[j]! = u at c0 c1 HM HKJ HPUT
    obtain ⟨ua,ub⟩:=u
    simp only at c0 c1 HM
    have HA1:=hide (HRk.out.alloc (.cells #[.int .i64 (ua:Int),.int .i64 (ub:Int)] 254))
    have HB1:=hide (Blk.new wr 254 #[.int .i64 (ua:Int),.int .i64 (ub:Int)])
    have HG1:=hide (grown_below HGk.out ((Below.refl wr.heap.size wr).alloc (Nat.le_refl _) (.cells #[.int .i64 (ua:Int),.int .i64 (ub:Int)] 254)))
    go_wp2_with fail
    refine (HM.out _).mono ?_
    generalize wr.heap.size=xb at HB1 ⊢
    generalize (wr.alloc (.cells #[.int .i64 (ua:Int),.int .i64 (ub:Int)] 254))=wx at HA1 HB1 HG1 ⊢
    rintro e wy ⟨rfl,hby⟩
    have HA2:=hide (HA1.out.below hby HA1.out.lt)
    have HB2:=hide (HB1.out.below hby HB1.out.lt)
    have HG2:=hide (grown_below HG1.out hby)
    clear hby HA1 HB1 HG1 HM c0 c1
    cases he:emptyS (ua,ub) with
    | true =>
     go_wp2_with fail
     go_round
     case rel=>exact ⟨i,j+1,dk,rfl,by go_num,by omega,HA2,HG2,HI.out.skip (by rw [HKJ.out,he];rfl)⟩
     case measure=>simp [intOf];omega
    | false =>
     have y0:=HB2.out.cell 0
     have y1:=HB2.out.cell 1
     obtain ⟨z0,z1⟩:=HA2.out.cell (show i<dk.size by omega)
     have f0:=HA2.out.frozen (i*2)
     have f1:=HA2.out.frozen (i*2+1)
     have hiz:(i:Int)<(d.size:Int):=by omega
     have HP:=hide (HA2.out.put (show i<dk.size by omega) ua ub)
     have HG3:=hide (only_setCell (only_setCell HG2.out (p:=⟨g,i*2,none⟩) (.inl rfl) (.int .i64 (ua:Int))) (p:=⟨g,i*2+1,none⟩) (.inl rfl) (.int .i64 (ub:Int)))
     have HKE:=HPUT.out (by rw [HKJ.out,he];rfl)
     go_wp2_with fail
     go_round
     case rel=>exact ⟨i+1,j+1,_,by go_num,by go_num,by omega,HP,HG3,HKE⟩
     case measure=>simp [intOf];omega
   ·obtain rfl:j=d.size:=by omega
    have hltz:¬(d.size:Int)<(d.size:Int):=by omega
    obtain ⟨wc,hcl,HRc,HGc⟩:=clear_tail (t:=86) (c:=cap-i) HRk.out (show 0<d.size-i by omega) (show i+(d.size-i)≤cap by omega) (by omega) (by kernel_rfl) 0
    have hiz:(i:Int)≤(d.size:Int):=by omega
    go_wp2_with fail
    go_ret
    unfold DelP
    rw [HK.out]
    refine ⟨by rw [HI.out.len];rfl,?_,grown_more HGk.out HGc⟩
    rw [←kept_row HI.out (by omega)]
    exact HRc
set_option maxRecDepth 100000 in
theorem deleteNil_any (w:World):Calls Tryz.prog 262 #[.slice none 0 0,.func (.func 263) #[] #[]] w (fun e w'=>e=.returned (.slice none 0 0)∧Below w.heap.size w w'):=by
 have hI:=idxNil_any w
 unfold IdxP at hI
 rw [show Lib.idxByFrom (fun _ y=>emptyS y) default (#[]:Array (Nat×Nat)).toList 0 = -1 from rfl] at hI
 go_enter Tryz.func262,Tryz.ntmps262
 go_wp2_with (go_at_call 244;refine hI.mono ?_;rintro e w9 ⟨rfl,hb9⟩)
 go_ret
 exact ⟨rfl,hb9⟩
def DelVP (w:World) (v:Value) (l:List (Nat×Nat)) (e:Ending) (w':World):Prop:=∃ v',e=.returned v'∧OwnP w' 0 v' (fullS l)∧v'.ownBlock=v.ownBlock∧w.grownBy w' v.ownBlock
theorem del_any (v:Value) (l:List (Nat×Nat)) (w:World) (h:OwnP w 0 v l) (hl:l.length≤4000000000) :
  Calls Tryz.prog 262 #[v,.func (.func 263) #[] #[]] w (DelVP w v l):=by
 rcases h.form with ⟨rfl,rfl⟩ | ⟨g,cap,rfl,_,hm,hr⟩
 ·refine (deleteNil_any w).mono ?_
  rintro e w' ⟨rfl,hb⟩
  exact ⟨_,rfl,ownP_nil _ _,rfl,only_of_below hb _⟩
 ·have hd:=delete_any g cap l.toArray w hr (by simpa using hl)
  rw [show l.toArray.size=l.length by simp] at hd
  refine hd.mono ?_
  rintro e w' ⟨rfl,hr2,hg⟩
  refine ⟨_,rfl,?_,rfl,hg⟩
  have h3:=hr2.own (base:=0) (Nat.zero_le _) hm
  simpa using h3
set_option maxRecDepth 100000 in
theorem sortNil_any (w:World):Calls Tryz.prog 264 #[.slice none 0 0,.func (.func 265) #[] #[]] w (fun e w'=>e=.returned (.tuple #[])∧w'=w) :=
 AnyF.slices_SortFunc_none Tryz.sortSp none 0 _ w
def SortVP (w:World) (v:Value) (l:List (Nat×Nat)) (e:Ending) (w':World):Prop:=e=.returned (.tuple #[])∧∃ l',OwnP w' 0 v l'∧l'.Perm l∧RiseS l'∧w.grownBy w' v.ownBlock
theorem sortV_any (v:Value) (l:List (Nat×Nat)) (w:World) (h:OwnP w 0 v l) (hl:l.length≤4000000000) :
  Calls Tryz.prog 264 #[v,.func (.func 265) #[] #[]] w (SortVP w v l):=by
 rcases h.form with ⟨rfl,rfl⟩ | ⟨g,cap,rfl,_,hm,hr⟩
 ·refine (sortNil_any w).mono ?_
  rintro e w' ⟨rfl,rfl⟩
  exact ⟨rfl,[],ownP_nil _ _,.refl _,List.Pairwise.nil,grown_refl _ _⟩
 ·have hd:=sort_any g cap l.toArray w hr (by simp;omega)
  rw [show l.toArray.size=l.length by simp] at hd
  refine hd.mono ?_
  rintro e w' ⟨rfl,hg,d',hr2,hp,hs⟩
  refine ⟨rfl,d'.toList,?_,by simpa using hp,hs,hg⟩
  have h3:=hr2.own (base:=0) (Nat.zero_le _) hm
  have hsz:d'.size=l.length:=by have:=hp.length_eq;simpa using this
  rw [hsz] at h3
  exact h3
theorem grown_new {a w:World} {r:Option Nat} (h:a.grownBy w r) {p:Addr} (hp:a.heap.size≤p.block) (u:Value):a.grownBy (w.setCell p u) r :=
 ⟨h.os,h.tape,h.output,by simpa [World.setCell] using h.size,fun i hi hne=>(Below.heap_setCell w p u i (by omega)).trans (h.block i hi hne)⟩
theorem grown_own {a w w':World} {r r':Option Nat} (h:a.grownBy w r) (k:w.grownBy w' r') (hr:∀ b,r'=some b→a.heap.size≤b):a.grownBy w' r :=
 ⟨k.os.trans h.os,k.tape.trans h.tape,k.output.trans h.output,Nat.le_trans h.size k.size,fun i hi hne=>(k.block i (Nat.lt_of_lt_of_le hi h.size) (fun e=>by have:=hr i e.symm;omega)).trans (h.block i hi hne)⟩
theorem OwnP.base_le {w:World} {base:Nat} {v:Value} {l:List (Nat×Nat)} (h:OwnP w base v l):∀ b,v.ownBlock=some b→base≤b∧b<w.heap.size:=fun b e=>World.ownsRow.lt h b e
theorem OwnP.last {w:World} {base gv cap:Nat} {done:List (Nat×Nat)} {c:Nat×Nat} (h:OwnP w base (.slice (some ⟨gv,0,none⟩) (done.length+1) cap) (done++[c])) (m:Nat) :
  OwnP (w.setCell ⟨gv,done.length*2+1,none⟩ (.int .i64 (m:Int))) base (.slice (some ⟨gv,0,none⟩) (done.length+1) cap) (done++[(c.1,m)]):=by
 rcases h.2 with ⟨h9,_⟩ | ⟨g',cap',cur,e,hg,hgc,hle,hcm,hcs,hct⟩
 ·cases h9
 ·injection e with e1 _ e2
  injection e1 with e1
  injection e1 with e1
  subst e1 e2
  have hk:Blk w gv 254 cur:=hgc
  rw [List.length_append,List.length_singleton] at hle hct
  refine ⟨spsV_len _,.inr ⟨gv,cap,_,by simp,hg,hk.set_ (done.length*2+1) (.int .i64 (m:Int)),by simpa using hle,hcm,by simpa using hcs,?_⟩⟩
  rw [List.length_append,List.length_singleton,spsV_app]
  rw [spsV_app] at hct
  apply List.ext_getElem?
  intro j
  have hj0:=congrArg (fun z:List Value=>z[j]?) hct
  have hsd:=spsV_len done
  by_cases hj:j<(done.length+1)*2
  ·simp only [List.getElem?_take_of_lt hj] at hj0 ⊢
   rw [Array.getElem?_toList] at hj0 ⊢
   rw [Array.getElem?_setIfInBounds]
   by_cases hl:done.length*2+1=j
   ·rw [if_pos hl,if_pos (by omega),List.getElem?_append_right (by omega),hsd,show j-done.length*2=1 by omega]
    rfl
   ·rw [if_neg hl,hj0]
    by_cases hl2:j<done.length*2
    ·rw [List.getElem?_append_left (by omega),List.getElem?_append_left (by omega)]
    ·rw [List.getElem?_append_right (by omega),List.getElem?_append_right (by omega),hsd,show j-done.length*2=0 by omega]
     rfl
  ·rw [List.getElem?_eq_none (by simp;omega),List.getElem?_eq_none (by simp [hsd,spsV_len];omega)]
end Go.Proofs.YtojgbcmhdnappaaGreatDoor
namespace Go.Proofs.YtojgbcmhdnappaaGreatDoor
open Go.RowKit
structure MadI (w:World) (r:Option Nat) (vl:Value) (k:List (Nat×Nat)) (i:Nat) (v:Value) (wr:World):Prop where
 is:∃ out,OwnP wr (w.heap.size+1) v out∧out.length≤i∧((i=0∧out=[])∨∃ done c,out=done++[c]∧madeS k=done++mgR c (k.drop i)∧0<i)
 row:OwnP wr 0 vl k
 low:∀ b,vl.ownBlock=some b→b<w.heap.size
 res:Blk wr w.heap.size 88 #[.slice none 0 0]
 fr:w.grownBy wr r
section
variable {w wr wr' w9:World} {r:Option Nat} {vl v v9:Value} {k:List (Nat×Nat)} {i:Nat}
theorem MadI.below (h:MadI w r vl k i v wr) (hb:Below wr.heap.size wr wr'):MadI w r vl k i v wr':=by
 obtain ⟨out,ho,hl,hs⟩:=h.is
 exact ⟨⟨out,ho.below hb,hl,hs⟩,h.row.below hb,h.low,h.res.below hb h.res.lt,grown_below h.fr hb⟩
theorem own_apart {a:Nat} {v vl:Value} (h1:∀ x,vl.ownBlock=some x→x<a) (h2:∀ x,v.ownBlock=some x→a<x):vl.ownBlock=none∨vl.ownBlock≠v.ownBlock:=by
 cases e:vl.ownBlock with
 | none=>exact .inl rfl
 | some x =>
  refine .inr fun e2=>?_
  have:=h1 x e
  have:=h2 x e2.symm
  omega
theorem MadI.app {out:List (Nat×Nat)} {s:Nat×Nat} (h:MadI w r vl k i v wr) (hown:OwnP wr (w.heap.size+1) v out) (ho:OwnP w9 (w.heap.size+1) v9 (out++[s])) (hg:wr.grownBy w9 v.ownBlock) (hd:k.drop i=s :: k.drop (i+1)) (hl:out.length≤i)
  (hc:(i=0∧out=[])∨∃ done c,out=done++[c]∧madeS k=done++mgR c (k.drop i)∧¬s.1≤c.2):MadI w r vl k (i+1) v9 w9:=by
 have hb:=hown.base_le
 refine ⟨⟨out++[s],ho,by simp;omega,.inr ⟨out,s,rfl,?_,by omega⟩⟩,h.row.kept hg (own_apart h.low fun x e=>Nat.lt_of_succ_le (hb x e).1),h.low,h.res.grown hg (fun e=>by have:=(hb _ e.symm).1;omega),grown_own h.fr hg (fun b e=>Nat.le_trans (Nat.le_succ _) (hb b e).1)⟩
 rcases hc with ⟨rfl,rfl⟩ | ⟨done,c,rfl,hm,hn⟩
 ·rw [show k=k.drop 0 from rfl,hd]
  rfl
 ·rw [hm,hd,mgR_out _ hn]
  simp
theorem MadI.ext {done:List (Nat×Nat)} {c s:Nat×Nat} {gv cap:Nat} (h:MadI w r vl k i (.slice (some ⟨gv,0,none⟩) (done.length+1) cap) wr) (hown:OwnP wr (w.heap.size+1) (.slice (some ⟨gv,0,none⟩) (done.length+1) cap) (done++[c])) (hd:k.drop i=s :: k.drop (i+1)) (hl:done.length+1≤i)
  (hm:madeS k=done++mgR c (k.drop i)) (hn:s.1≤c.2):MadI w r vl k (i+1) (.slice (some ⟨gv,0,none⟩) (done.length+1) cap) (wr.setCell ⟨gv,done.length*2+1,none⟩ (.int .i64 ((max c.2 s.2:Nat):Int))):=by
 have hb:=hown.base_le gv rfl
 have hg:wr.grownBy (wr.setCell ⟨gv,done.length*2+1,none⟩ (.int .i64 ((max c.2 s.2:Nat):Int))) (some gv):=only_setCell (grown_refl _ _) (.inl rfl) _
 refine ⟨⟨_,hown.last (max c.2 s.2),by simp;omega,.inr ⟨done,_,rfl,?_,by omega⟩⟩,h.row.kept hg (own_apart (v:=.slice (some ⟨gv,0,none⟩) (done.length+1) cap) h.low fun x e=>by have e2:gv=x:=Option.some.inj e;omega),h.low,h.res.far (by show w.heap.size≠gv;omega) _,grown_new h.fr (by show w.heap.size≤gv;omega) _⟩
 rw [hm,hd,mgR_in _ hn]
end
def MadeP (w:World) (v:Value) (l:List (Nat×Nat)) (e:Ending) (w':World):Prop :=
 ∃ v' l',e=.returned (.agg #[v'])∧OwnP w' w.heap.size v' l'∧CanF 0 l'∧(∀ n,setS l' n=setS l n)∧w.grownBy w' v.ownBlock
set_option maxRecDepth 100000 in
set_option maxHeartbeats 4000000 in
theorem made_any (v:Value) (l:List (Nat×Nat)) (w:World) (h:OwnP w 0 v l) (hl:l.length≤4000000000) (he:∀ s∈l,s.2≤endR) :
  Calls Tryz.prog 222 #[v] w (MadeP w v l):=by
 have HD:=hide fun W (h2:OwnP W 0 v l)=>del_any v l W h2 hl
 have HS:=hide fun v1 W (h2:OwnP W 0 v1 (fullS l))=>sortV_any v1 (fullS l) W h2 (Nat.le_trans (List.length_filter_le _ _) hl)
 have hlow:=h.base_le
 have HL:=Lib.hid hlow
 have HE:=Lib.hid he
 have ba:=(Below.refl w.heap.size w).alloc (Nat.le_refl _) (.cells #[.slice none 0 0] 88)
 have HO:=hide (h.below ba)
 have HB:=hide (Blk.new w 88 #[.slice none 0 0])
 have HG:=hide (only_of_below ba v.ownBlock)
 clear h he hlow ba
 go_enter Tryz.func222,Tryz.ntmps222
 go_wp2_with fail
 refine (HD.out _ HO.out).mono ?_
 generalize (w.alloc (.cells #[.slice none 0 0] 88))=wa at HO HB HG ⊢
 rintro e wb ⟨v1,rfl,ho1,hb1,hg1⟩
 have hne:some w.heap.size≠v.ownBlock:=fun e=>by have:=HL.out _ e.symm;omega
 have HB1:=hide (HB.out.grown hg1 hne)
 have HG1:=hide (grown_more HG.out hg1)
 have HO1:=hide ho1
 clear ho1 hg1 HO HB HG HD
 go_wp2_with fail
 refine (HS.out _ _ HO1.out).mono ?_
 rintro e wc ⟨rfl,k,ho2,hp2,hr2,hg2⟩
 rw [hb1] at hg2
 have HB2:=hide (HB1.out.grown hg2 hne)
 have HG2:=hide (grown_more HG1.out hg2)
 have HP:=Lib.hid hp2
 have HR:=Lib.hid hr2
 have hlow1:∀ b,v1.ownBlock=some b→b<w.heap.size:=fun b e=>(HL.out b (hb1 ▸ e)).2
 have hkl:k.length≤4000000000:=by rw [hp2.length_eq];exact Nat.le_trans (List.length_filter_le _ _) hl
 have HST:=hide (show MadI w v.ownBlock v1 k 0 (.slice none 0 0) wc from ⟨⟨[],ownP_nil _ _,Nat.le_refl _,.inl ⟨rfl,rfl⟩⟩,ho2,hlow1,HB2.out,HG2.out⟩)
 obtain ⟨A1,c1,hv1⟩:=ho2.len
 subst hv1
 clear ho2 hp2 hr2 hg2 HB1 HG1 HO1 HS HB2 HG2 hlow1
 go_wp2_with fail
 go_loopw [3,5,6,13] (fun v3 _ _ iv wr=>∃ i:Nat,i≤k.length∧iv=.int .i64 i∧Hid (MadI w v.ownBlock (.slice A1 k.length c1) k i v3 wr)) (fun _ _ _ iv _=>k.length-(intOf iv).toNat)
 case atStart=>exact ⟨0,Nat.zero_le _,rfl,HST⟩
 case round =>
  clear HST
  obtain ⟨i,hi,rfl,HM⟩:=hrel
  by_cases hlt:i<k.length
  ·have hltz:(i:Int)<(k.length:Int):=by omega
   rcases HM.out.row.form with ⟨h9,h8⟩ | ⟨g,cap,h9,_,_,hrow⟩
   ·subst h8
    exact absurd hlt (Nat.not_lt_zero _)
   ·injection h9 with h9 _ h9c
    subst h9 h9c
    have hgl:=HM.out.low g rfl
    obtain ⟨c0,c1'⟩:=hrow.cell (show i<k.toArray.size by simpa using hlt)
    have eki:k.toArray[i]! = k[i]! := by simp
    rw [eki] at c0 c1'
    have hdrop:k.drop i=k[i]! :: k.drop (i+1):=by
     rw [getElem!_pos k i hlt]
     exact List.drop_eq_getElem_cons hlt
    have HDR:=Lib.hid hdrop
    clear hdrop eki hrow
    generalize k[i]! = s at c0 c1' HDR
    obtain ⟨sa,sb⟩:=s
    simp only at c0 c1'
    obtain ⟨out,hown,hol,hst⟩:=HM.out.is
    have hwl:w.heap.size<wr.heap.size:=HM.out.res.lt
    have HB:=hide (Blk.new wr 254 #[.int .i64 (sa:Int),.int .i64 (sb:Int)])
    have ba:=(Below.refl wr.heap.size wr).alloc (Nat.le_refl _) (.cells #[.int .i64 (sa:Int),.int .i64 (sb:Int)] 254)
    have HOW:=hide (hown.below ba)
    have HM1:=hide (HM.out.below ba)
    clear hown HM ba
    rcases hst with ⟨rfl,rfl⟩ | ⟨done,c,rfl,hm,h0⟩
    ·obtain ⟨A3,c3,hv3⟩:=HOW.out.len
     subst hv3
     go_wp2_with fail
     generalize wr.heap.size=xb at HB hwl ⊢
     generalize (wr.alloc (.cells #[.int .i64 (sa:Int),.int .i64 (sb:Int)] 254))=wx at HB HOW HM1 ⊢
     go_quiet (fail)
     have bd:=below_drewN (Below.refl wx.heap.size wx) nq
     have HB2:=hide (HB.out.below bd HB.out.lt)
     have HOW2:=hide (HOW.out.below bd)
     have HM2:=hide (HM1.out.below bd)
     clear bd HB HOW HM1
     generalize wx.drewN nq=wy at HB2 HOW2 HM2 ⊢
     have y0:=HB2.out.cell 0
     have y1:=HB2.out.cell 1
     have ba:=(Below.refl wy.heap.size wy).alloc (Nat.le_refl _) (.cells #[.int .i64 (sa:Int),.int .i64 (sb:Int)] 254)
     have HN:=hide (Blk.new wy 254 #[.int .i64 (sa:Int),.int .i64 (sb:Int)])
     have HOW3:=hide (HOW2.out.below ba)
     have HM3:=hide (HM2.out.below ba)
     have HSZ:=Lib.hid (show w.heap.size+1≤(wy.alloc (.cells #[.int .i64 (sa:Int),.int .i64 (sb:Int)] 254)).heap.size by have:=HM3.out.res.lt;omega)
     clear ba HOW2 HM2
     go_wp2_with (at_builtin;refine appP _ rfl _ _ _ rfl (w.heap.size+1) Tryz.underlying86 _ [] rfl HOW3.out wy.heap.size 1 (sa,sb) rfl HN.out (by simp) HSZ.out ?_;intro v9 w9 ho9 hg9 hor9;have HN9:=hide (HM3.out.app HOW3.out ho9 hg9 HDR.out (Nat.le_refl _) (.inl ⟨rfl,rfl⟩));clear ho9 hg9 hor9)
     go_round
     case rel=>exact ⟨1,by omega,by go_num,HN9⟩
     case measure=>simp [intOf];omega
    ·rcases HOW.out.form with ⟨_,h9⟩ | ⟨gv,cv,rfl,hgv,hcv,hrv⟩
     ·exact absurd h9 (by simp)
     ·rw [List.length_append,List.length_singleton] at HOW HM1 hol ⊢
      have ec:(done++[c]).toArray[done.length]! = c:=by simp
      obtain ⟨_,z1⟩:=hrv.cell (show done.length<(done++[c]).toArray.size by simp)
      rw [ec] at z1
      have fz:=hrv.frozen (done.length*2+1)
      clear hrv ec
      go_wp2_with fail
      generalize wr.heap.size=xb at HB hwl ⊢
      generalize (wr.alloc (.cells #[.int .i64 (sa:Int),.int .i64 (sb:Int)] 254))=wx at HB HOW HM1 z1 fz ⊢
      by_cases hle:sa≤c.2
      ·have x0:=HB.out.cell 0
       have hlez:(sa:Int)≤(c.2:Int):=by omega
       go_quiet (fail)
       have bd:=below_drewN (Below.refl wx.heap.size wx) nq
       have HB2:=hide (HB.out.below bd HB.out.lt)
       have HOW2:=hide (HOW.out.below bd)
       have HM2:=hide (HM1.out.below bd)
       have z2:(wx.drewN nq).cell? ⟨gv,done.length*2+1,none⟩=some (.int .i64 (c.2:Int)):=z1
       have f2:(wx.drewN nq).frozen? ⟨gv,done.length*2+1,none⟩=false:=fz
       clear bd HB HOW HM1 z1 fz
       generalize wx.drewN nq=wy at HB2 HOW2 HM2 z2 f2 ⊢
       have y1:=HB2.out.cell 1
       go_wp2_with fail
       have HX:=hide ((HM2.out.ext HOW2.out HDR.out hol hm hle).below (below_drewN (Below.refl _ _) 1))
       have hmx:max (c.2:Int) (sb:Int)=((max c.2 sb:Nat):Int):=by omega
       go_region
       go_wp2_with fail
       go_round
       case rel=>exact ⟨i+1,by omega,by go_num,HX⟩
       case measure=>simp [intOf];omega
      ·have x0:=HB.out.cell 0
       have hlez:¬(sa:Int)≤(c.2:Int):=by omega
       go_quiet (fail)
       have bd:=below_drewN (Below.refl wx.heap.size wx) nq
       have HB2:=hide (HB.out.below bd HB.out.lt)
       have HOW2:=hide (HOW.out.below bd)
       have HM2:=hide (HM1.out.below bd)
       clear bd HB HOW HM1 z1 fz
       generalize wx.drewN nq=wy at HB2 HOW2 HM2 ⊢
       have y0:=HB2.out.cell 0
       have y1:=HB2.out.cell 1
       have ba:=(Below.refl wy.heap.size wy).alloc (Nat.le_refl _) (.cells #[.int .i64 (sa:Int),.int .i64 (sb:Int)] 254)
       have HN:=hide (Blk.new wy 254 #[.int .i64 (sa:Int),.int .i64 (sb:Int)])
       have HOW3:=hide (HOW2.out.below ba)
       have HM3:=hide (HM2.out.below ba)
       have HSZ:=Lib.hid (show w.heap.size+1≤(wy.alloc (.cells #[.int .i64 (sa:Int),.int .i64 (sb:Int)] 254)).heap.size by have:=HM3.out.res.lt;omega)
       clear ba HOW2 HM2
       go_wp2_with (at_builtin;refine appP _ rfl _ _ _ rfl (w.heap.size+1) Tryz.underlying86 _ (done++[c]) rfl HOW3.out wy.heap.size 1 (sa,sb) rfl HN.out (by simp;omega) HSZ.out ?_;intro v9 w9 ho9 hg9 hor9;have HN9:=hide (HM3.out.app HOW3.out ho9 hg9 HDR.out (by simp;omega) (.inr ⟨done,c,rfl,hm,hle⟩));clear ho9 hg9 hor9)
       go_round
       case rel=>exact ⟨i+1,by omega,by go_num,HN9⟩
       case measure=>simp [intOf];omega
  ·obtain rfl:i=k.length:=by omega
   have hltz:¬(k.length:Int)<(k.length:Int):=by omega
   obtain ⟨out,hown,hol,hst⟩:=HM.out.is
   obtain ⟨A3,c3,rfl⟩:=hown.len
   have hset:CanF 0 out∧∀ n,setS out n=setS l n:=by
    have hs:=made_spec l k HP.out HR.out HE.out
    rcases hst with ⟨h9,rfl⟩ | ⟨done,c,rfl,hm,h0⟩
    ·obtain rfl:k=[]:=List.length_eq_zero_iff.1 h9
     exact hs
    ·rw [List.drop_length,mgR_nil] at hm
     rw [←hm]
     exact hs
   have HB:=hide HM.out.res
   have y:=HB.out.cell 0
   have fy:=HB.out.frozen 0
   have HF:=hide (grown_new HM.out.fr (p:=⟨w.heap.size,0,none⟩) (Nat.le_refl _) (.slice A3 out.length c3))
   have HO:=hide (show OwnP (wr.setCell ⟨w.heap.size,0,none⟩ (.slice A3 out.length c3)) (w.heap.size+1) (.slice A3 out.length c3) out from hown.kept (only_setCell (g:=w.heap.size) (grown_refl _ _) (.inl rfl) _) (.inr fun e=>by have:=(hown.base_le _ e).1;omega))
   clear hown HM hst
   have n0:=(HB.out.set_ 0 (.slice A3 out.length c3)).cell 0
   go_wp2_with fail
   exact bodyPost_ret (v:=.agg #[.slice A3 out.length c3]) (by simp [results,Tryz.results222,go_sem,n0]) rfl ⟨_,out,rfl,HO.out.mono (Nat.le_succ _),hset.1,hset.2,HF.out⟩
end Go.Proofs.YtojgbcmhdnappaaGreatDoor
namespace Go.Proofs.YtojgbcmhdnappaaGreatDoor
open Go.RowKit
def RgP (w:World) (l:List (Nat×Nat)) (e:Ending) (w':World):Prop:=∃ v,e=.returned (.agg #[v])∧OwnP w' w.heap.size v l∧Below w.heap.size w w'
theorem any_any (w:World):Calls Tryz.prog 177 #[] w (RgP w anyC):=by
 have HO:=hide (ownP_one (w.alloc (.cells #[.slice (some ⟨w.heap.size+1,0,none⟩) 1 1] 88)) w.heap.size (0,endR) (by simp))
 have HB:=hide ((Blk.new w 88 #[.slice (some ⟨w.heap.size+1,0,none⟩) 1 1]).alloc (.cells #[.int .i64 0,.int .i64 1000000000] 254))
 have n0:=HB.out.cell 0
 go_enter Tryz.func177,Tryz.ntmps177
 go_wp2_with fail
 exact bodyPost_ret (v:=.agg #[.slice (some ⟨w.heap.size+1,0,none⟩) 1 1]) (by simp [results,Tryz.results177,go_sem,n0]) rfl ⟨_,rfl,by have h9:=HO.out;simp at h9;exact h9,((Below.refl w.heap.size w).alloc (Nat.le_refl _) _).alloc (by simp) _⟩
def EmptyP (w:World) (l:List (Nat×Nat)) (e:Ending) (w':World):Prop:=e=.returned (.bool (decide (l=[])))∧Below w.heap.size w w'
theorem empty_any (v:Value) (l:List (Nat×Nat)) (w:World) (h:OwnP w 0 v l):Calls Tryz.prog 140 #[.agg #[v]] w (EmptyP w l):=by
 obtain ⟨A,c,rfl⟩:=h.len
 have hb:decide (l=[])=((l.length:Int)==0):=by
  cases l with
  | nil=>rfl
  | cons a r=>simp;omega
 unfold EmptyP
 rw [hb]
 go_enter Tryz.func140,Tryz.ntmps140
 go_wp2_with fail
 go_ret
 exact ⟨rfl,(Below.refl w.heap.size w).alloc (Nat.le_refl _) _⟩
def GrowP (w:World) (e:Ending) (w':World):Prop:=∃ v,e=.returned v∧OwnP w' w.heap.size v []∧Below w.heap.size w w'
theorem grow_any (n:Nat) (w:World) (hn:n≤8000000000):Calls Tryz.prog 266 #[.slice none 0 0,.int .i64 (n:Int)] w (GrowP w):=by
 obtain ⟨i0,hi,hz0,hz1,hz2⟩:=info_parts spanInfo
 rcases Nat.eq_zero_or_pos n with rfl | h0
 ·refine (Any8.slices_Grow_room Tryz.growSp none 0 0 0 w (Nat.le_refl _) (by omega) (by omega) (by omega)).mono ?_
  rintro e w' ⟨rfl,rfl⟩
  exact ⟨_,rfl,ownP_nil _ _,Below.refl _ _⟩
 ·refine (Any8.slices_Grow_grow Tryz.growSp i0 (.agg #[.int .i64 0,.int .i64 0]) hi hz0 (by omega) none 0 0 n [] w (Nat.le_refl _) (by omega) (by rw [hz2];omega) (by omega) (by simp) (fun _=>rfl) (fun a h=>by cases h)).mono ?_
  rintro e w' ⟨rfl,rfl⟩
  have hge:=grownCap_ge w (0+n) 0 (Tryz.growSp_ren.t 25)
  have hle:=grownCap_le_maxLen w (0+n) 0 (Tryz.growSp_ren.t 25) (by simp [maxLen];omega)
  refine ⟨_,rfl,⟨rfl,.inr ⟨w.heap.size,_,_,rfl,Nat.le_refl _,Blk.new w.drew _ _,Nat.zero_le _,hle,?_,by simp [spsV]⟩⟩,(Below.refl w.heap.size w).drew.alloc (Nat.le_refl _) _⟩
  have hcl:(Value.agg #[.int .i64 0,.int .i64 0]).cells=#[.int .i64 0,.int .i64 0]:=by simp [Value.cells]
  rw [hcl]
  rw [Nat.zero_add] at hge ⊢
  simp [Builtin.zeroCells]
  omega
theorem appPs (w:World) {ops:Array Oper} {rest:List Oper} {o:Oper} {a:Act} {Q:Exit→Act→World→Prop} (hgd:o.guard=none) (s x:Operand) (t:TypeId)
  (ho:o.op=.call { callee:=.builtin .append,args:=#[s,x],argTypes:=#[t,t] }) (base:Nat) (ht:Tryz.prog.underlying t=some (.slice 254))
  (v:Value) (qs:List (Nat×Nat)) (hs:a.eval s=v) (hown:OwnP w base v qs) (A:Option Addr) (n c:Nat) (ps:List (Nat×Nat)) (hx:a.eval x=.slice A n c) (hk:OwnP w 0 (.slice A n c) ps)
  (hl:qs.length+ps.length≤8000000000) (hbase:base≤w.heap.size)
  (h:∀ v' w',OwnP w' base v' (qs++ps)→w.grownBy w' v.ownBlock→wpList Tryz.prog ops Q rest (a.put o.dst v') w'):wpList Tryz.prog ops Q (o :: rest) a w:=by
 obtain ⟨i0,hi,hz0,hz1,hz2⟩:=info_parts spanInfo
 obtain ⟨A',c',e⟩:=hk.len
 injection e with e1 e2 e3
 subst e1 e2 e3
 refine wpList_append_any w hgd s x t ho base 254 i0 (.agg #[.int .i64 0,.int .i64 0]) 2 16 ht hi hz0 hz1 hz2 rfl (by decide) v qs.length _ hs hown w.heap.size _ _ _ (spsV ps) hx (Reads.of_own hk) (fun u hu=>by
  unfold spsV at hu
  obtain ⟨q,_,hq⟩:=List.mem_flatMap.1 hu
  simp only [spV,List.mem_cons,List.not_mem_nil,or_false] at hq
  rcases hq with rfl | rfl <;> rfl) (by simp only [maxLen];omega) (by omega) hbase ?_
 intro v' w' ho' hg' hor
 refine h v' w' ?_ hg'
 unfold OwnP
 rw [List.length_append,spsV_app]
 exact ho'
def ConP (w:World) (l:List (Nat×Nat)) (e:Ending) (w':World):Prop:=∃ v,e=.returned v∧OwnP w' w.heap.size v l∧Below w.heap.size w w'
def sum2 (a b:Nat):Nat→Nat
 | 0=>0
 | 1=>a
 | _=>a+b
def pre2 (a b:List (Nat×Nat)):Nat→List (Nat×Nat)
 | 0=>[]
 | 1=>a
 | _=>a++b
set_option maxRecDepth 100000 in
set_option maxHeartbeats 2000000 in
theorem concat_any (b:Nat) (v1 v2:Value) (l1 l2:List (Nat×Nat)) (w:World) (hk:Blk w b 86 #[v1,v2]) (h1:OwnP w 0 v1 l1) (h2:OwnP w 0 v2 l2) (n1:l1.length≤1000000000) (n2:l2.length≤1000000000) :
  Calls Tryz.prog 225 #[.slice (some ⟨b,0,none⟩) 2 2] w (ConP w (l1++l2)):=by
 have HK:=hide hk
 have H1:=hide h1
 have H2:=hide h2
 obtain ⟨A1,c1,rfl⟩:=h1.len
 obtain ⟨A2,c2,rfl⟩:=h2.len
 clear h1 h2 hk
 go_enter Tryz.func225,Tryz.ntmps225
 go_wp2_with fail
 go_loopw [3,5,11] (fun v3 _ iv wr=>∃ i:Nat,i≤2∧iv=.int .i64 i∧v3=.int .i64 (sum2 l1.length l2.length i:Nat)∧wr=w) (fun _ _ iv _=>2-(intOf iv).toNat)
 case atStart=>exact ⟨0,by omega,rfl,rfl,rfl⟩
 case round =>
  obtain ⟨i,hi,rfl,rfl,hw⟩:=hrel
  have hw2:=hw.symm
  subst hw2
  have z0:=HK.out.cell 0
  have z1:=HK.out.cell 1
  rcases (show i=0∨i=1∨i=2 by omega) with rfl | rfl | rfl
  ·simp only [sum2]
   go_wp2_with fail
   go_round
   case rel=>exact ⟨1,by omega,by go_num,by simp,trivial⟩
   case measure=>simp [intOf]
  ·simp only [sum2]
   go_wp2_with fail
   go_round
   case rel=>exact ⟨2,by omega,by go_num,by simp,trivial⟩
   case measure=>simp [intOf]
  ·simp only [sum2]
   have HG:=hide (grow_any (l1.length+l2.length) w (by omega))
   rw [Int.natCast_add] at HG
   clear z0 z1
   go_wp2_with fail
   refine HG.out.mono ?_
   rintro e w1 ⟨vg,rfl,hog,hbg⟩
   have HST:=hide hog
   have HB:=hide hbg
   have HKB:=hide (HK.out.below hbg HK.out.lt)
   clear hog hbg HG
   go_wp2_with fail
   go_loopw [6,8,27] (fun v6 _ iv w2=>∃ i:Nat,i≤2∧iv=.int .i64 i∧Hid (OwnP w2 w.heap.size v6 (pre2 l1 l2 i))∧Hid (Below w.heap.size w w2)) (fun _ _ iv _=>2-(intOf iv).toNat)
   case atStart=>exact ⟨0,by omega,rfl,HST,HB⟩
   case round =>
    clear HST HB HKB
    obtain ⟨i,hi2,rfl,HO,HB⟩:=hrel
    have HKB:=hide (HK.out.below HB.out HK.out.lt)
    have z0:=HKB.out.cell 0
    have z1:=HKB.out.cell 1
    have H1':=hide (H1.out.below HB.out)
    have H2':=hide (H2.out.below HB.out)
    have hsz:=HB.out.size
    have HLT:=Lib.hid (fun k hk=>(HO.out.base_le k hk).1)
    rcases (show i=0∨i=1∨i=2 by omega) with rfl | rfl | rfl
    ·simp only [pre2] at HO
     go_wp2_with (at_builtin;refine appPs _ rfl _ _ _ rfl w.heap.size Tryz.underlying86 _ [] rfl HO.out _ _ _ l1 rfl H1'.out (by simp;omega) hsz ?_;intro v9 w9 ho9 hg9;have HO9:=hide (show OwnP w9 w.heap.size v9 (pre2 l1 l2 1) from ho9);have HB9:=hide (HB.out.grown hg9 hsz HLT.out);clear ho9 hg9)
     go_round
     case rel=>exact ⟨1,by omega,by go_num,HO9,HB9⟩
     case measure=>simp [intOf]
    ·simp only [pre2] at HO
     go_wp2_with (at_builtin;refine appPs _ rfl _ _ _ rfl w.heap.size Tryz.underlying86 _ l1 rfl HO.out _ _ _ l2 rfl H2'.out (by omega) hsz ?_;intro v9 w9 ho9 hg9;have HO9:=hide (show OwnP w9 w.heap.size v9 (pre2 l1 l2 2) from ho9);have HB9:=hide (HB.out.grown hg9 hsz HLT.out);clear ho9 hg9)
     go_round
     case rel=>exact ⟨2,by omega,by go_num,HO9,HB9⟩
     case measure=>simp [intOf]
    ·go_wp2_with fail
     go_ret
     exact ⟨_,rfl,HO.out,HB.out⟩
end Go.Proofs.YtojgbcmhdnappaaGreatDoor
namespace Go.Proofs.YtojgbcmhdnappaaGreatDoor
open Go.RowKit
def MadeC (w:World) (v0:Value) (F:Nat→Bool) (e:Ending) (w':World):Prop:=∃ v,e=.returned (.agg #[v])∧OwnP w' w.heap.size v (canOf F)∧w.grownBy w' v0.ownBlock
theorem made_own (w:World) (v:Value) (l:List (Nat×Nat)) (F:Nat→Bool) (h:OwnP w 0 v l) (hl:l.length≤4000000000) (he:∀ s∈l,s.2≤endR) (hF:∀ n,n<endR→setS l n=F n) :
  Calls Tryz.prog 222 #[v] w (MadeC w v F):=by
 refine (made_any v l w h hl he).mono ?_
 rintro e w' ⟨v',l',rfl,ho,hc,hs,hg⟩
 have hc2:canOf F=l':=canOf_eq hc fun n hn=>(hs n).trans (hF n hn)
 exact ⟨v',rfl,by rw [hc2];exact ho,hg⟩
theorem rg_end {w wy wz:World} {v v':Value} {l':List (Nat×Nat)} {res:Nat} {t:TypeId} {cs:Array Value} (hb:Below w.heap.size w wy) (ho:OwnP wz wy.heap.size v' l') (hg:wy.grownBy wz v.ownBlock) (hv:∀ b,v.ownBlock=some b→w.heap.size≤b∧b≠res) (hr:Blk wy res t cs) (hw:w.heap.size≤res) (u:Value) :
  Blk wz res t cs∧OwnP (wz.setCell ⟨res,0,none⟩ u) w.heap.size v' l'∧Below w.heap.size w (wz.setCell ⟨res,0,none⟩ u):=by
 have hrl:=hr.lt
 refine ⟨hr.grown hg (fun e=>(hv _ e.symm).2 rfl),(ho.kept (only_setCell (g:=res) (grown_refl _ _) (.inl rfl) u) (.inr fun e=>by have:=(ho.base_le _ e).1;omega)).mono hb.size,(hb.grown hg hb.size fun b e=>(hv b e).1).setCell hw u⟩
set_option maxRecDepth 100000 in
theorem or_any (v1 v2:Value) (a b:List (Nat×Nat)) (w:World) (h1:OwnP w 0 v1 a) (h2:OwnP w 0 v2 b) (ha:CanF 0 a) (hb:CanF 0 b) :
  Calls Tryz.prog 180 #[.agg #[v1],.agg #[v2]] w (RgP w (orC a b)):=by
 have la:=can_len ha
 have lb:=can_len hb
 unfold endR at la lb
 have b1:=(((Below.refl w.heap.size w).alloc (Nat.le_refl _) (.cells #[v1] 88)).alloc (by simp) (.cells #[v2] 88)).alloc (by simp;omega) (.cells #[.slice none 0 0] 88)
 have b2:=b1.alloc (by simp;omega) (.cells #[v1,v2] 86)
 have hk:=Blk.new (((w.alloc (.cells #[v1] 88)).alloc (.cells #[v2] 88)).alloc (.cells #[.slice none 0 0] 88)) 86 #[v1,v2]
 have hr:=(Blk.new ((w.alloc (.cells #[v1] 88)).alloc (.cells #[v2] 88)) 88 #[.slice none 0 0]).alloc (.cells #[v1,v2] 86)
 simp only [World.size_alloc] at hk hr
 have HK:=hide hk
 have HRES:=hide hr
 have H1:=hide (h1.below b2)
 have H2:=hide (h2.below b2)
 have HB:=hide b2
 have HA:=Lib.hid ha
 have HBB:=Lib.hid hb
 obtain ⟨A1,c1,rfl⟩:=h1.len
 obtain ⟨A2,c2,rfl⟩:=h2.len
 clear h1 h2 ha hb b1 b2 hk hr
 go_enter Tryz.func180,Tryz.ntmps180
 go_wp2_with fail
 generalize ((((w.alloc (.cells #[.slice A1 a.length c1] 88)).alloc (.cells #[.slice A2 b.length c2] 88)).alloc (.cells #[.slice none 0 0] 88)).alloc (.cells #[.slice A1 a.length c1,.slice A2 b.length c2] 86))=wx at HK HRES H1 H2 HB ⊢
 refine (concat_any _ _ _ a b wx HK.out H1.out H2.out la lb).mono ?_
 rintro e wy ⟨v,rfl,hov,hbv⟩
 have hby:=hide (HB.out.trans (hbv.mono HB.out.size))
 have HRY:=hide (HRES.out.below hbv HRES.out.lt)
 have HM:=hide (made_own wy v (a++b) (fun n=>setS a n||setS b n) (hov.mono (Nat.zero_le _)) (by simp;omega) (fun s hs=>by
  rcases List.mem_append.1 hs with h | h
  ·exact can_end HA.out s h
  ·exact can_end HBB.out s h) (fun n _=>by rw [setS_app]))
 have HV:=Lib.hid (fun b (e:v.ownBlock=some b)=>show w.heap.size≤b∧b≠w.heap.size+1+1 from by have h1:=(hov.base_le b e).1;have h2:=HRES.out.lt;omega)
 clear HK HRES H1 H2 HB hov hbv
 go_wp2_with fail
 refine HM.out.mono ?_
 rintro e wz ⟨v',rfl,ho,hg⟩
 obtain ⟨r1,r2,r3⟩:=rg_end hby.out ho hg HV.out HRY.out (by omega) v'
 have n0:=(r1.set_ 0 v').cell 0
 have o0:=r1.cell 0
 have f0:=r1.frozen 0
 have R2:=hide r2
 have R3:=hide r3
 have ev:=ho.len
 clear r1 r2 r3 ho hg HM HRY HV hby
 obtain ⟨A3,c3,rfl⟩:=ev
 go_wp2_with fail
 exact bodyPost_ret (v:=.agg #[.slice A3 (canOf fun n=>setS a n||setS b n).length c3]) (by simp [results,Tryz.results180,go_sem,n0]) rfl ⟨_,rfl,R2.out,R3.out⟩
structure NotI (w:World) (vl:Value) (a:List (Nat×Nat)) (i k:Nat) (v:Value) (wr:World):Prop where
 is:∃ out,OwnP wr (w.heap.size+2) v out∧out++notL k (a.drop i)=notL 0 a∧out.length=i
 row:OwnP wr 0 vl a
 low:∀ b,vl.ownBlock=some b→b<w.heap.size
 res:Blk wr (w.heap.size+1) 88 #[.slice none 0 0]
 bel:Below w.heap.size w wr
section
variable {w wr wr' w9:World} {vl v v9:Value} {a:List (Nat×Nat)} {i k:Nat}
theorem NotI.below (h:NotI w vl a i k v wr) (hb:Below wr.heap.size wr wr'):NotI w vl a i k v wr':=by
 obtain ⟨out,ho,hl,hs⟩:=h.is
 exact ⟨⟨out,ho.below hb,hl,hs⟩,h.row.below hb,h.low,h.res.below hb h.res.lt,h.bel.trans (hb.mono h.bel.size)⟩
theorem NotI.next {out:List (Nat×Nat)} {s:Nat×Nat} (h:NotI w vl a i k v wr) (hown:OwnP wr (w.heap.size+2) v out) (he:out++notL k (a.drop i)=notL 0 a) (hl:out.length=i) (ho:OwnP w9 (w.heap.size+2) v9 (out++[(k,s.1)])) (hg:wr.grownBy w9 v.ownBlock) (hd:a.drop i=s :: a.drop (i+1)) :
  NotI w vl a (i+1) s.2 v9 w9:=by
 have hb:=hown.base_le
 refine ⟨⟨_,ho,?_,by simp;omega⟩,h.row.kept hg (own_apart h.low fun x e=>by have:=(hb x e).1;omega),h.low,h.res.grown hg (fun e=>by have:=(hb _ e.symm).1;omega),h.bel.grown hg h.bel.size fun b e=>by have:=(hb b e).1;omega⟩
 rw [hd] at he
 rw [←he]
 simp [notL]
end
theorem notL_len:∀ (a:List (Nat×Nat)) (k:Nat),(notL k a).length=a.length+1
 | [],_=>rfl
 | s :: r,k=>by rw [notL,List.length_cons,notL_len r,List.length_cons]
set_option maxRecDepth 100000 in
set_option maxHeartbeats 2000000 in
theorem not_any (v:Value) (a:List (Nat×Nat)) (w:World) (h:OwnP w 0 v a) (ha:CanF 0 a):Calls Tryz.prog 223 #[.agg #[v]] w (RgP w (notC a)):=by
 have la:=can_len ha
 unfold endR at la
 have HA:=Lib.hid ha
 have hlow:=h.base_le
 have b1:=((Below.refl w.heap.size w).alloc (Nat.le_refl _) (.cells #[v] 88)).alloc (by simp) (.cells #[.slice none 0 0] 88)
 have hr:=Blk.new (w.alloc (.cells #[v] 88)) 88 #[.slice none 0 0]
 simp only [World.size_alloc] at hr
 have HST:=hide (show NotI w v a 0 0 (.slice none 0 0) ((w.alloc (.cells #[v] 88)).alloc (.cells #[.slice none 0 0] 88)) from ⟨⟨[],ownP_nil _ _,by simp,rfl⟩,h.below b1,fun b e=>(hlow b e).2,hr,b1⟩)
 obtain ⟨A,c,rfl⟩:=h.len
 clear h ha b1 hr hlow
 go_enter Tryz.func223,Tryz.ntmps223
 go_wp2_with fail
 generalize ((w.alloc (.cells #[.slice A a.length c] 88)).alloc (.cells #[.slice none 0 0] 88))=wS at HST ⊢
 go_loopw [3,4,6,10] (fun v3 v4 _ iv wr=>∃ (i k:Nat),i≤a.length∧iv=.int .i64 i∧v4=.int .i64 k∧Hid (NotI w (.slice A a.length c) a i k v3 wr)) (fun _ _ _ iv _=>a.length-(intOf iv).toNat)
 case atStart=>exact ⟨0,0,Nat.zero_le _,rfl,rfl,HST⟩
 case round =>
  clear HST
  obtain ⟨i,k,hi,rfl,rfl,HM⟩:=hrel
  by_cases hlt:i<a.length
  ·have hltz:(i:Int)<(a.length:Int):=by omega
   rcases HM.out.row.form with ⟨h9,h8⟩ | ⟨g,cap,h9,_,_,hrow⟩
   ·subst h8
    exact absurd hlt (Nat.not_lt_zero _)
   ·injection h9 with h9 _ h9c
    subst h9 h9c
    obtain ⟨c0,c1'⟩:=hrow.cell (show i<a.toArray.size by simpa using hlt)
    have eki:a.toArray[i]! = a[i]! := by simp
    rw [eki] at c0 c1'
    have hdrop:a.drop i=a[i]! :: a.drop (i+1):=by
     rw [getElem!_pos a i hlt]
     exact List.drop_eq_getElem_cons hlt
    have HDR:=Lib.hid hdrop
    clear hdrop eki hrow
    generalize a[i]! = s at c0 c1' HDR
    obtain ⟨sa,sb⟩:=s
    simp only at c0 c1'
    obtain ⟨out,hown,heq,hol⟩:=HM.out.is
    have b1:=(Below.refl wr.heap.size wr).alloc (Nat.le_refl _) (.cells #[.int .i64 (sa:Int),.int .i64 (sb:Int)] 254)
    have b2:=b1.alloc (by simp) (.cells #[.int .i64 (k:Int),.int .i64 (sa:Int)] 254)
    have HB:=hide ((Blk.new wr 254 #[.int .i64 (sa:Int),.int .i64 (sb:Int)]).alloc (.cells #[.int .i64 (k:Int),.int .i64 (sa:Int)] 254))
    have hn:=Blk.new (wr.alloc (.cells #[.int .i64 (sa:Int),.int .i64 (sb:Int)] 254)) 254 #[.int .i64 (k:Int),.int .i64 (sa:Int)]
    simp only [World.size_alloc] at hn
    have HN:=hide hn
    have HM2:=hide (HM.out.below b2)
    have HOW:=hide (hown.below b2)
    have HSZ:=Lib.hid (show w.heap.size+2≤((wr.alloc (.cells #[.int .i64 (sa:Int),.int .i64 (sb:Int)] 254)).alloc (.cells #[.int .i64 (k:Int),.int .i64 (sa:Int)] 254)).heap.size by have:=HM.out.res.lt;simp;omega)
    have HLT:=Lib.hid (fun b e=>(hown.base_le b e).2)
    have HEQ:=Lib.hid heq
    clear hown heq b1 b2 hn HM
    go_wp2_with (at_builtin;refine appP _ rfl _ _ _ rfl (w.heap.size+2) Tryz.underlying86 _ out rfl HOW.out (wr.heap.size+1) 1 (k,sa) rfl HN.out (by omega) HSZ.out ?_;intro v9 w9 ho9 hg9 hor9;have HN9:=hide (HM2.out.next (s:=(sa,sb)) HOW.out HEQ.out hol ho9 hg9 HDR.out);have HB9:=hide (HB.out.grown hg9 (fun e=>Nat.lt_irrefl _ (HLT.out _ e.symm)));have y1:=HB9.out.cell 1;clear ho9 hg9 hor9)
    go_round
    case rel=>exact ⟨i+1,sb,by omega,by go_num,rfl,HN9⟩
    case measure=>simp [intOf];omega
  ·obtain rfl:i=a.length:=by omega
   have hltz:¬(a.length:Int)<(a.length:Int):=by omega
   obtain ⟨out,hown,heq,hol⟩:=HM.out.is
   rw [List.drop_length] at heq
   have b1:=(Below.refl wr.heap.size wr).alloc (Nat.le_refl _) (.cells #[.int .i64 (k:Int),.int .i64 1000000000] 254)
   have HN:=hide (Blk.new wr 254 #[.int .i64 (k:Int),.int .i64 1000000000])
   have HOW:=hide (hown.below b1)
   have HM2:=hide (HM.out.below b1)
   have HSZ:=Lib.hid (show w.heap.size+2≤(wr.alloc (.cells #[.int .i64 (k:Int),.int .i64 1000000000] 254)).heap.size by have:=HM.out.res.lt;simp;omega)
   have HLL:=Lib.hid (show out.length≤4000000000 by omega)
   have HEQ:=Lib.hid (show out++[(k,endR)]=notL 0 a from heq)
   clear hown heq b1 HM
   go_wp2_with (at_builtin;refine appP _ rfl _ _ _ rfl (w.heap.size+2) Tryz.underlying86 _ out rfl HOW.out wr.heap.size 1 (k,endR) rfl HN.out HLL.out HSZ.out ?_;intro v9 w9 ho9 hg9 hor9;rw [HEQ.out] at ho9;have HO9:=hide ho9;have HR9:=hide (HM2.out.res.grown hg9 (fun e=>by have:=(HOW.out.base_le _ e.symm).1;omega));have HB9:=hide (HM2.out.bel.grown hg9 HM2.out.bel.size (fun b e=>by have:=(HOW.out.base_le b e).1;omega));clear ho9 hg9 hor9)
   refine (made_own w9 v9 (notL 0 a) (fun n=>!setS a n) (HO9.out.mono (Nat.zero_le _)) (by rw [notL_len];omega) (notL_end a 0 0 HA.out) (fun n hn=>notL_set a 0 0 HA.out (Nat.le_refl _) n (Nat.zero_le _) hn)).mono ?_
   rintro e wz ⟨v',rfl,ho,hg⟩
   obtain ⟨r1,r2,r3⟩:=rg_end HB9.out ho hg (fun b e=>by have:=(HO9.out.base_le b e).1;omega) HR9.out (by omega) v'
   have n0:=(r1.set_ 0 v').cell 0
   have o0:=r1.cell 0
   have f0:=r1.frozen 0
   have R2:=hide r2
   have R3:=hide r3
   have ev:=ho.len
   clear r1 r2 r3 ho hg HO9 HR9 HB9 HM2 HOW HN
   obtain ⟨A3,c3,rfl⟩:=ev
   go_wp2_with fail
   exact bodyPost_ret (v:=.agg #[.slice A3 (canOf fun n=>!setS a n).length c3]) (by simp [results,Tryz.results223,go_sem,n0]) rfl ⟨_,rfl,R2.out,R3.out⟩
end Go.Proofs.YtojgbcmhdnappaaGreatDoor
namespace Go.Proofs.YtojgbcmhdnappaaGreatDoor
open Go.RowKit
theorem bThen {u X Y:World} (h:Below u.heap.size u X) (k:Below X.heap.size X Y):Below u.heap.size u Y:=h.trans (k.mono h.size)
theorem and_keep {w W:World} {x:Nat} {v1 v2 v3:Value} (h:Blk w x 88 #[v1]∧Blk w (x+1) 88 #[v2]∧Blk w (x+1+1) 88 #[v3]) (hb:Below w.heap.size w W) :
  W.cell? ⟨x,0,none⟩=some v1∧W.cell? ⟨x+1,0,none⟩=some v2∧W.cell? ⟨x+1+1,0,none⟩=some v3∧W.frozen? ⟨x+1+1,0,none⟩=false :=
 ⟨(h.1.below hb h.1.lt).cell 0,(h.2.1.below hb h.2.1.lt).cell 0,(h.2.2.below hb h.2.2.lt).cell 0,(h.2.2.below hb h.2.2.lt).frozen 0⟩
theorem and_two {w W:World} {x:Nat} {v1 v2 v3:Value} (h:Blk w x 88 #[v1]∧Blk w (x+1) 88 #[v2]∧Blk w (x+1+1) 88 #[v3]) (hb:Below w.heap.size w W) :
  W.cell? ⟨x,0,none⟩=some v1∧W.cell? ⟨x+1,0,none⟩=some v2:=⟨(and_keep h hb).1,(and_keep h hb).2.1⟩
theorem and_far {w W:World} {x:Nat} {v1 v2 v3:Value} (h:Blk w x 88 #[v1]∧Blk w (x+1) 88 #[v2]∧Blk w (x+1+1) 88 #[v3]) (hb:Below w.heap.size w W) (u:Value) :
  (W.setCell ⟨x+1+1,0,none⟩ u).cell? ⟨x,0,none⟩=some v1∧(W.setCell ⟨x+1+1,0,none⟩ u).cell? ⟨x+1,0,none⟩=some v2 :=
 ⟨((h.1.below hb h.1.lt).far (by show x≠x+1+1;omega) u).cell 0,((h.2.1.below hb h.2.1.lt).far (by show x+1≠x+1+1;omega) u).cell 0⟩
theorem and_end {w wS W:World} {x:Nat} {v1 v2 v3 u:Value} {l:List (Nat×Nat)} {W4:World} (h:Blk wS x 88 #[v1]∧Blk wS (x+1) 88 #[v2]∧Blk wS (x+1+1) 88 #[v3]) (hw:Below w.heap.size w wS) (hx:x=w.heap.size) (hb:Below wS.heap.size wS W) (hc:Below W.heap.size W W4) (ho:OwnP W4 W.heap.size u l) :
  (W4.setCell ⟨x+1+1,0,none⟩ u).cell? ⟨x+1+1,0,none⟩=some u∧OwnP (W4.setCell ⟨x+1+1,0,none⟩ u) w.heap.size u l∧Below w.heap.size w (W4.setCell ⟨x+1+1,0,none⟩ u):=by
 have hB:=hb.trans (hc.mono hb.size)
 have hk:=h.2.2.below hB h.2.2.lt
 have hlt:x+1+1<W.heap.size:=Nat.lt_of_lt_of_le h.2.2.lt hb.size
 refine ⟨(hk.set_ 0 u).cell 0,(ho.kept (only_setCell (g:=x+1+1) (grown_refl _ _) (.inl rfl) u) (.inr fun e=>by have:=(ho.base_le _ e).1;omega)).mono (by omega),(hw.trans (hB.mono hw.size)).setCell (by show w.heap.size≤x+1+1;omega) u⟩
set_option maxRecDepth 100000 in
set_option maxHeartbeats 2000000 in
theorem and_any (v1 v2:Value) (a b:List (Nat×Nat)) (w:World) (h1:OwnP w 0 v1 a) (h2:OwnP w 0 v2 b) (ha:CanF 0 a) (hb:CanF 0 b) :
  Calls Tryz.prog 179 #[.agg #[v1],.agg #[v2]] w (RgP w (andC a b)):=by
 have na:=not_spec ha
 have nb:=not_spec hb
 have no:=or_spec na.1 nb.1
 have HIS:=Lib.hid (and_is ha hb)
 have b1:=(((Below.refl w.heap.size w).alloc (Nat.le_refl _) (.cells #[v1] 88)).alloc (by simp) (.cells #[v2] 88)).alloc (by simp;omega) (.cells #[.slice none 0 0] 88)
 have r1:=((Blk.new w 88 #[v1]).alloc (.cells #[v2] 88)).alloc (.cells #[.slice none 0 0] 88)
 have r2:=(Blk.new (w.alloc (.cells #[v1] 88)) 88 #[v2]).alloc (.cells #[.slice none 0 0] 88)
 have r3:=Blk.new ((w.alloc (.cells #[v1] 88)).alloc (.cells #[v2] 88)) 88 #[.slice none 0 0]
 simp only [World.size_alloc] at r2 r3
 have HF:=hide (And.intro r1 (And.intro r2 r3))
 have H1:=hide (h1.below b1)
 have H2:=hide (h2.below b1)
 have HB:=hide b1
 obtain ⟨A1,c1,rfl⟩:=h1.len
 obtain ⟨A2,c2,rfl⟩:=h2.len
 clear h1 h2 b1 r1 r2 r3
 go_enter Tryz.func179,Tryz.ntmps179
 go_wp2_with fail
 generalize (((w.alloc (.cells #[.slice A1 a.length c1] 88)).alloc (.cells #[.slice A2 b.length c2] 88)).alloc (.cells #[.slice none 0 0] 88))=wS at HF H1 H2 HB ⊢
 generalize (Value.slice A1 a.length c1)=x1 at HF H1 ⊢
 generalize (Value.slice A2 b.length c2)=x2 at HF H2 ⊢
 have HN1:=hide (fun (W:World) (args:Array Value) (e:args=#[.agg #[x1]]) (hW:Below wS.heap.size wS W)=>show Calls Tryz.prog 223 args W (RgP W (notC a)) from e ▸ not_any _ a W (H1.out.below hW) ha)
 have HN2:=hide (fun (W:World) (args:Array Value) (e:args=#[.agg #[x2]]) (hW:Below wS.heap.size wS W)=>show Calls Tryz.prog 223 args W (RgP W (notC b)) from e ▸ not_any _ b W (H2.out.below hW) hb)
 have HO:=hide (fun W u1 u2 (h:OwnP W 0 u1 (notC a)∧OwnP W 0 u2 (notC b))=>or_any u1 u2 _ _ W h.1 h.2 na.1 nb.1)
 have HN3:=hide (fun (W:World) (u:Value) (args:Array Value) (e:args=#[.agg #[u]]) (h:OwnP W 0 u (orC (notC a) (notC b)))=>show Calls Tryz.prog 223 args W (RgP W (notC (orC (notC a) (notC b)))) from e ▸ not_any u _ W h no.1)
 have bS:Below wS.heap.size wS wS.drew:=(Below.refl _ _).drew
 obtain ⟨z0,z1⟩:=and_two HF.out (Below.refl _ _)
 clear na nb no ha hb H1 H2
 go_region_held3 (fun w'=>w'.cell? ⟨w.heap.size,0,none⟩=some x1∧w'.cell? ⟨w.heap.size+1,0,none⟩=some x2)
  (first
   | exact and_far HF.out (bThen (bThen (bThen (bThen bS b1) b2) b3) b4) _
   | exact and_far HF.out (bThen (bThen (bThen (bThen bS b2) b1) b3) b4) _
   | exact and_two HF.out (bThen (bThen (bThen (bThen bS b1) b2) b3) b4)
   | exact and_two HF.out (bThen (bThen (bThen (bThen bS b2) b1) b3) b4)
   | exact and_two HF.out (bThen (bThen (bThen bS b1) b2) b3)
   | exact and_two HF.out (bThen (bThen (bThen bS b2) b1) b3)
   | exact and_two HF.out (bThen (bThen bS b1) b2)
   | exact and_two HF.out (bThen (bThen bS b2) b1)
   | exact and_two HF.out (bThen bS b1)
   | exact and_two HF.out (bThen bS b2)
   | exact and_two HF.out bS
   | exact and_two HF.out (Below.refl _ _))
  (first
   | (go_at_call 180;refine (HO.out _ _ _ (by first | exact ⟨(o1.mono (Nat.zero_le _)).below b2,o2.mono (Nat.zero_le _)⟩ | exact ⟨o1.mono (Nat.zero_le _),(o2.mono (Nat.zero_le _)).below b1⟩)).mono ?_;rintro e w3 ⟨u3,rfl,o3,b3⟩)
   | (go_at_call 223;refine (HN3.out _ u3 _ (by exact rfl) (by exact o3.mono (Nat.zero_le _))).mono ?_;rintro e w4 ⟨u4,rfl,o4,b4⟩;obtain ⟨A4,c4,rfl⟩:=o4.len;obtain ⟨_,_,zr,fr⟩:=and_keep HF.out (by first | exact bThen (bThen (bThen (bThen bS b1) b2) b3) b4 | exact bThen (bThen (bThen (bThen bS b2) b1) b3) b4))
   | (go_at_call 223;refine (HN1.out _ _ (by exact rfl) (by first | exact bThen bS b2 | exact bS)).mono ?_;rintro e w1 ⟨u1,rfl,o1,b1⟩)
   | (go_at_call 223;refine (HN2.out _ _ (by exact rfl) (by first | exact bThen bS b1 | exact bS)).mono ?_;rintro e w2 ⟨u2,rfl,o2,b2⟩))
 all_goals
  obtain ⟨n0,R2,R3⟩:=and_end HF.out HB.out rfl (by first | exact bThen (bThen (bThen bS b1) b2) b3 | exact bThen (bThen (bThen bS b2) b1) b3) b4 o4
  go_wp2_with fail
  exact bodyPost_ret (v:=.agg #[.slice A4 (notC (orC (notC a) (notC b))).length c4]) (by simp [results,Tryz.results179,go_sem,n0]) rfl ⟨_,rfl,by rw [HIS.out];exact R2,R3⟩
end Go.Proofs.YtojgbcmhdnappaaGreatDoor
