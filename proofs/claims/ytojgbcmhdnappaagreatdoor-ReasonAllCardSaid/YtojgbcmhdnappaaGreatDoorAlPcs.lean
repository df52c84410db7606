/-
  A part of the proof: RowK, ArenaOut, ToldLay, Told, Pcs. Conditions: none.
-/
import Derived.Test.YtojgbcmhdnappaaGreatDoorProg
import Derived.Test.YtojgbcmhdnappaaGreatDoorAlFr
import Derived.Test.YtojgbcmhdnappaaGreatDoorAlRefCheck
import Derived.Shelf.Strings.OnBuilder
import Derived.Shelf.LaysM
import Derived.Shelf.Strconv.Itoa3
import Derived.Lib.ItoaMem
import Derived.Lib.Join
import Derived.Lib.ItoaLen
import Derived.Lib.AppendIntMem
import Derived.Lib.ParseIntBTie
import Derived.Lib.Replace
import Derived.Lib.IndexBytes
import Derived.Lib.SplitLaws
namespace Go.Proofs.YtojgbcmhdnappaaGreatDoor
open Go.RowKit
structure ElK (α:Type) where
 t:TypeId
 K:Nat
 f:α→List Value
 pos:0<K
 len:∀ a,(f a).length=K
 one:∀ a,∀ u∈f a,u.oneCell'=true
section
variable {α:Type} (E:ElK α)
def ElK.row (l:List α):List Value:=l.flatMap E.f
theorem ElK.row_nil:E.row []=[]:=rfl
theorem ElK.row_cons (a:α) (l:List α):E.row (a :: l)=E.f a++E.row l:=rfl
theorem ElK.row_app (a b:List α):E.row (a++b)=E.row a++E.row b:=by unfold ElK.row;rw [List.flatMap_append]
theorem ElK.row_one (a:α):E.row [a]=E.f a:=by simp [ElK.row]
theorem ElK.row_len:∀ l:List α,(E.row l).length=l.length*E.K
 | []=>by simp [ElK.row]
 | a :: l=>by rw [E.row_cons,List.length_append,ElK.row_len l,E.len,List.length_cons,Nat.succ_mul,Nat.add_comm]
theorem ElK.row_at:∀ (l:List α) (k j:Nat) (h:k<l.length),j<E.K→(E.row l)[k*E.K+j]?=(E.f l[k])[j]?
 | [],k,_,h,_=>absurd h (Nat.not_lt_zero k)
 | a :: l,0,j,_,hj=>by
  rw [E.row_cons,List.getElem?_append_left (by rw [E.len];omega),Nat.zero_mul,Nat.zero_add]
  rfl
 | a :: l,k+1,j,h,hj=>by
  have e:(k+1)*E.K+j=E.K+(k*E.K+j):=by rw [Nat.succ_mul];omega
  rw [E.row_cons,e,List.getElem?_append_right (by rw [E.len];omega),E.len,Nat.add_sub_cancel_left,ElK.row_at l k j (by simpa using h) hj]
  rfl
theorem ElK.row_oneCell (l:List α):∀ u∈E.row l,u.oneCell'=true:=by
 intro u hu
 obtain ⟨a,_,h⟩:=List.mem_flatMap.1 hu
 exact E.one a u h
theorem ElK.row_drop:∀ (l:List α) (k:Nat),(E.row l).drop (k*E.K)=E.row (l.drop k)
 | l,0=>by simp
 | [],k+1=>by simp [ElK.row]
 | a :: l,k+1=>by
  have e:(k+1)*E.K=E.K+k*E.K:=by rw [Nat.succ_mul];omega
  rw [E.row_cons,e,List.drop_succ_cons,←ElK.row_drop l k,←List.drop_drop,List.drop_append_of_le_length (by rw [E.len];exact Nat.le_refl _),show (E.f a).drop E.K=[] from List.drop_eq_nil_of_le (by rw [E.len];exact Nat.le_refl _),List.nil_append]
def OwnK (w:World) (base:Nat) (v:Value) (l:List α):Prop:=w.ownsRow base E.t E.K v l.length (E.row l)
structure RowK (w:World) (g:Nat) (l:List α):Prop where
 is:∃ cur,Blk w g E.t cur∧l.length*E.K≤cur.size∧∀ k (h:k<l.length) j,j<E.K→cur[k*E.K+j]?=(E.f l[k])[j]?
end
section
variable {α:Type} {E:ElK α} {w w':World} {base base' g:Nat} {v:Value} {l:List α}
theorem OwnK.below (h:OwnK E w base v l) (hb:Below w.heap.size w w'):OwnK E w' base v l :=
 World.ownsRow.kept h (row:=none) ⟨hb.os,hb.tape,hb.output,hb.size,fun i hi _=>hb.block i hi⟩ (by cases v.ownBlock <;> simp)
theorem OwnK.kept {r:Option Nat} (h:OwnK E w base v l) (hg:w.grownBy w' r) (hr:v.ownBlock=none∨v.ownBlock≠r):OwnK E w' base v l:=World.ownsRow.kept h hg hr
theorem OwnK.mono (h:OwnK E w base v l) (hb:base'≤base):OwnK E w base' v l:=by
 refine ⟨h.1,?_⟩
 rcases h.2 with h2 | ⟨g,cap,cur,e,hg,r⟩
 ·exact .inl h2
 ·exact .inr ⟨g,cap,cur,e,Nat.le_trans hb hg,r⟩
theorem ownK_nil (E:ElK α) (w:World) (base:Nat):OwnK E w base (.slice none 0 0) []:=World.ownsRow_nil _ _ _ _
theorem OwnK.lt (h:OwnK E w base v l):∀ k,v.ownBlock=some k→base≤k∧k<w.heap.size:=World.ownsRow.lt h
theorem OwnK.len (h:OwnK E w base v l):∃ A c,v=.slice A l.length c∧l.length≤c:=by
 rcases h.2 with ⟨rfl,h0⟩ | ⟨g,cap,cur,rfl,_,_,hc,_⟩
 ·exact ⟨none,0,by rw [h0],by omega⟩
 ·exact ⟨_,_,rfl,hc⟩
theorem OwnK.fr {S:Nat→Prop} (h:OwnK E w base v l) (hf:Fr S w w') (hs:∀ k,v.ownBlock=some k→¬S k):OwnK E w' base v l:=by
 refine ⟨h.1,?_⟩
 rcases h.2 with h2 | ⟨g,cap,cur,rfl,hg,hgc,r⟩
 ·exact .inl h2
 ·have hk:Blk w g E.t cur:=hgc
  exact .inr ⟨g,cap,cur,rfl,hg,hk.fr hf (hs g rfl),r⟩
theorem OwnK.ne_blk {g:Nat} {t:TypeId} {cs:Array Value} (h:OwnK E w base v l) (hg:Blk w g t cs) (hne:E.t≠t):v.ownBlock≠some g:=own_blk_ne h hg hne
theorem OwnK.form (h:OwnK E w base v l):(v=.slice none 0 0∧l=[])∨∃ g cap,v=.slice (some ⟨g,0,none⟩) l.length cap∧base≤g∧l.length≤cap∧cap≤maxLen∧RowK E w g l:=by
 rcases h.2 with ⟨rfl,h0⟩ | ⟨g,cap,cur,rfl,hg,hgc,hle,hcm,hcs,hct⟩
 ·exact .inl ⟨rfl,List.length_eq_zero_iff.1 h0⟩
 ·refine .inr ⟨g,cap,rfl,hg,hle,hcm,cur,hgc,by rw [hcs];exact Nat.mul_le_mul_right _ hle,fun k hk j hj=>?_⟩
  have h1:k*E.K+j<l.length*E.K:=by
   have:(k+1)*E.K≤l.length*E.K:=Nat.mul_le_mul_right _ hk
   rw [Nat.succ_mul] at this
   omega
  rw [←E.row_at l k j hk hj,←hct,List.getElem?_take_of_lt h1]
  simp
theorem RowK.lt (h:RowK E w g l):g<w.heap.size:=by obtain ⟨cur,hk,_⟩:=h.is;exact hk.lt
theorem RowK.cell (h:RowK E w g l) {k j:Nat} (hk:k<l.length) (hj:j<E.K):w.cell? ⟨g,k*E.K+j,none⟩=(E.f l[k])[j]?:=by
 obtain ⟨cur,hb,_,hc⟩:=h.is
 exact (hb.cell _).trans (hc k hk j hj)
theorem RowK.frozen (h:RowK E w g l) (i:Nat):w.frozen? ⟨g,i,none⟩=false:=by obtain ⟨cur,hk,_⟩:=h.is;exact hk.frozen i
theorem one_readsK (E:ElK α) {w:World} {g:Nat} {a:α} (h:Blk w g E.t (E.f a).toArray):Reads w (g+1) E.K (some ⟨g,0,none⟩) 1 (E.row [a]):=by
 refine ⟨E.row_len _,fun _=>⟨_,rfl,Nat.lt_succ_self _,fun j x hx=>?_⟩⟩
 have e:(⟨g,0,none⟩:Addr).add j=⟨g,j,none⟩:=by
  unfold Addr.add
  split
  ·rename_i h0;rw [h0]
  ·simp
 rw [e,h.cell j]
 rw [E.row_one] at hx
 simpa using hx
theorem OwnK.reads {n c:Nat} {A:Option Addr} (h:OwnK E w base (.slice A n c) l):n=l.length∧Reads w w.heap.size E.K A l.length (E.row l):=by
 obtain ⟨A',c',e,_⟩:=h.len
 injection e with e1 e2 e3
 subst e1 e2 e3
 exact ⟨rfl,Reads.of_own h⟩
end
theorem appK {α:Type} (E:ElK α) (w:World) {ops:Array Oper} {rest:List Oper} {o:Oper} {a:Act} {Q:Exit→Act→World→Prop} {z:Value} {bytes:Nat} (hin:(Tryz.prog.info? E.t).map (fun i=>(i.zero,i.size,i.bytes))=some (some z,E.K,bytes)) (hz:z.cells.size=E.K) (hby:bytes≤1000) (hgd:o.guard=none) (s x:Operand) (t:TypeId)
  (ho:o.op=.call { callee:=.builtin .append,args:=#[s,x],argTypes:=#[t,t] }) (base:Nat) (ht:Tryz.prog.underlying t=some (.slice E.t))
  (v:Value) (l:List α) (hs:a.eval s=v) (hown:OwnK E w base v l) (A:Option Addr) (B c n:Nat) (m:List α) (hn:n=m.length) (hx:a.eval x=.slice A n c) (hr:Reads w B E.K A n (E.row m))
  (hl:l.length+m.length≤100000000) (hbase:base≤w.heap.size)
  (h:∀ v' w',OwnK E w' base v' (l++m)→w.grownBy w' v.ownBlock→(v'.ownBlock=v.ownBlock∨v'.ownBlock=some w.heap.size)→wpList Tryz.prog ops Q rest (a.put o.dst v') w'):wpList Tryz.prog ops Q (o :: rest) a w:=by
 obtain ⟨i0,hi,hz0,hz1,hz2⟩:=info_parts hin
 subst hn
 have hb2:(l.length+m.length)*bytes≤100000000*1000:=Nat.mul_le_mul hl hby
 refine wpList_append_any w hgd s x t ho base E.t i0 z E.K bytes ht hi hz0 hz1 hz2 hz E.pos v l.length _ hs hown B A m.length c (E.row m) hx hr (E.row_oneCell m) (by simp only [maxLen];omega) (by omega) hbase ?_
 intro v' w' ho' hg' hor
 refine h v' w' ?_ hg' hor
 unfold OwnK
 rw [List.length_append,E.row_app]
 exact ho'
theorem appK1 {α:Type} (E:ElK α) (w:World) {ops:Array Oper} {rest:List Oper} {o:Oper} {a:Act} {Q:Exit→Act→World→Prop} {z:Value} {bytes:Nat} (hin:(Tryz.prog.info? E.t).map (fun i=>(i.zero,i.size,i.bytes))=some (some z,E.K,bytes)) (hz:z.cells.size=E.K) (hby:bytes≤1000) (hgd:o.guard=none) (s x:Operand) (t:TypeId)
  (ho:o.op=.call { callee:=.builtin .append,args:=#[s,x],argTypes:=#[t,t] }) (base:Nat) (ht:Tryz.prog.underlying t=some (.slice E.t))
  (v:Value) (l:List α) (hs:a.eval s=v) (hown:OwnK E w base v l) (b c:Nat) (q:α) (hx:a.eval x=.slice (some ⟨b,0,none⟩) 1 c) (hk:Blk w b E.t (E.f q).toArray)
  (hl:l.length≤90000000) (hbase:base≤w.heap.size)
  (h:∀ v' w',OwnK E w' base v' (l++[q])→w.grownBy w' v.ownBlock→(v'.ownBlock=v.ownBlock∨v'.ownBlock=some w.heap.size)→wpList Tryz.prog ops Q rest (a.put o.dst v') w'):wpList Tryz.prog ops Q (o :: rest) a w :=
 appK E w hin hz hby hgd s x t ho base ht v l hs hown (some ⟨b,0,none⟩) (b+1) c 1 [q] rfl hx (one_readsK E hk) (by simp;omega) hbase h
end Go.Proofs.YtojgbcmhdnappaaGreatDoor
namespace Go.Proofs.YtojgbcmhdnappaaGreatDoor
structure Nd where
 var:Int
 low:Int
 high:Int
deriving DecidableEq
section
variable {hs:Nd→Nat} {ns:List Nd} {tab:List Int} {D:List Nat}
end
end Go.Proofs.YtojgbcmhdnappaaGreatDoor
namespace Go.Proofs.YtojgbcmhdnappaaGreatDoor
abbrev Ar:=List (Option Nd)
section
variable {A:Ar} {l:List Int} {seen:List Bool} {todo:List Int} {h:Int}
end
end Go.Proofs.YtojgbcmhdnappaaGreatDoor
namespace Go.Proofs.YtojgbcmhdnappaaGreatDoor
section
variable {hs:Nd→Nat} {A:Ar} {ns:List Nd} {us:List Bool} {tab:List Int} {n:Nd} {i k:Nat}
end
section
variable {hs:Nd→Nat} {A:Ar} {ns:List Nd} {us:List Bool} {l:List Int} {k:Nat}
end
end Go.Proofs.YtojgbcmhdnappaaGreatDoor
namespace Go.Proofs.YtojgbcmhdnappaaGreatDoor
section
variable {A:Ar} {l:List Int} {seen:List Bool} {todo:List Int}
end
end Go.Proofs.YtojgbcmhdnappaaGreatDoor
namespace Go.Proofs.YtojgbcmhdnappaaGreatDoor
section
variable {hs:Nd→Nat} {A:Ar} {ns:List Nd} {us:List Bool} {tab:List Int} {l:List Int}
end
end Go.Proofs.YtojgbcmhdnappaaGreatDoor
namespace Go.Proofs
open Go.Shelf
def Tryz.laysM171_ren:Go.Shelf.Ren:=⟨fun | 171=>64 | 243=>115 | 246=>164 | 283=>207 | 284=>208 | 285=>209 | 286=>210 | 129=>236 | 317=>248 | 318=>249 | 319=>250 | 320=>251 | 337=>276 | 338=>277 | n=>n,fun | 3=>3 | 9=>9 | 2=>2 | 4=>4 | 171=>323 | 0=>0 | 53=>279 | 37=>141 | 5=>5 | 173=>326 | 212=>366 | 51=>142 | 20=>20 | 213=>367 | 46=>61 | 232=>401 | 233=>402 | n=>n,fun | 17=>4 | 18=>10 | 19=>11 | n=>n⟩
theorem Tryz.laysM171:Go.Proofs.LaysM.n171 Tryz.prog Tryz.laysM171_ren:={
 mixed:=by kernel_rfl
 f129:=Tryz.func236.trans (congrArg some (by kernel_rfl))
 f171:=Tryz.func64.trans (congrArg some (by kernel_rfl))
 f243:=Tryz.func115.trans (congrArg some (by kernel_rfl))
 f246:=Tryz.func164.trans (congrArg some (by kernel_rfl))
 f283:=Tryz.func207.trans (congrArg some (by kernel_rfl))
 f284:=Tryz.func208.trans (congrArg some (by kernel_rfl))
 f285:=Tryz.func209.trans (congrArg some (by kernel_rfl))
 f286:=Tryz.func210.trans (congrArg some (by kernel_rfl))
 f317:=Tryz.func248.trans (congrArg some (by kernel_rfl))
 f318:=Tryz.func249.trans (congrArg some (by kernel_rfl))
 f319:=Tryz.func250.trans (congrArg some (by kernel_rfl))
 f320:=Tryz.func251.trans (congrArg some (by kernel_rfl))
 f337:=Tryz.func276.trans (congrArg some (by kernel_rfl))
 f338:=Tryz.func277.trans (congrArg some (by kernel_rfl))
 t0:=Tryz.underlying0
 a0:=Tryz.isAgg0
 z0:=Tryz.sizeOf0
 v0:=Tryz.zeroValue0
 t2:=Tryz.underlying2
 a2:=Tryz.isAgg2
 z2:=Tryz.sizeOf2
 v2:=Tryz.zeroValue2
 t3:=Tryz.underlying3
 a3:=Tryz.isAgg3
 z3:=Tryz.sizeOf3
 v3:=Tryz.zeroValue3
 t4:=Tryz.underlying4
 a4:=Tryz.isAgg4
 z4:=Tryz.sizeOf4
 v4:=Tryz.zeroValue4
 t5:=Tryz.underlying5
 a5:=Tryz.isAgg5
 z5:=Tryz.sizeOf5
 v5:=Tryz.zeroValue5
 t9:=Tryz.underlying9
 a9:=Tryz.isAgg9
 z9:=Tryz.sizeOf9
 v9:=Tryz.zeroValue9
 t20:=Tryz.underlying20
 a20:=Tryz.isAgg20
 z20:=Tryz.sizeOf20
 v20:=Tryz.zeroValue20
 t37:=Tryz.underlying141
 a37:=Tryz.isAgg141
 z37:=Tryz.sizeOf141
 v37:=Tryz.zeroValue141
 t46:=Tryz.underlying61
 a46:=Tryz.isAgg61
 z46:=Tryz.sizeOf61
 v46:=Tryz.zeroValue61
 t51:=Tryz.underlying142
 a51:=Tryz.isAgg142
 z51:=Tryz.sizeOf142
 v51:=Tryz.zeroValue142
 t53:=Tryz.underlying279
 a53:=Tryz.isAgg279
 z53:=Tryz.sizeOf279
 v53:=Tryz.zeroValue279
 t171:=Tryz.underlying323
 a171:=Tryz.isAgg323
 z171:=Tryz.sizeOf323
 v171:=Tryz.zeroValue323
 t173:=Tryz.underlying326
 a173:=Tryz.isAgg326
 z173:=Tryz.sizeOf326
 v173:=Tryz.zeroValue326
 t212:=Tryz.underlying366
 a212:=Tryz.isAgg366
 z212:=Tryz.sizeOf366
 v212:=Tryz.zeroValue366
 t213:=Tryz.underlying367
 a213:=Tryz.isAgg367
 z213:=Tryz.sizeOf367
 t232:=Tryz.underlying401
 a232:=Tryz.isAgg401
 z232:=Tryz.sizeOf401
 v232:=Tryz.zeroValue401
 t233:=Tryz.underlying402
 a233:=Tryz.isAgg402
 z233:=Tryz.sizeOf402
 v233:=Tryz.zeroValue402
 g17:=by kernel_rfl
 g18:=by kernel_rfl
 g19:=by kernel_rfl
 i0:=by kernel_rfl
 i2:=by kernel_rfl
 i3:=by kernel_rfl
 i4:=by kernel_rfl
 i5:=by kernel_rfl
 i9:=by kernel_rfl
 i20:=by kernel_rfl
 i37:=by kernel_rfl
 i46:=by kernel_rfl
 i51:=by kernel_rfl
 i53:=by kernel_rfl
 i171:=by kernel_rfl
 i173:=by kernel_rfl
 i212:=by kernel_rfl
 i232:=by kernel_rfl
 i233:=by kernel_rfl
 m17:=by kernel_rfl
 m18:=by kernel_rfl
 m19:=by kernel_rfl }
open Go.RowKit Go.Sort Go.Lib in
theorem Tryz.strconv_Itoa (n:Int) (h0 : -9223372036854775808≤n) (h1:n≤9223372036854775807) (w:World) (htab:Lib.TabIs Tryz.prog w "internal/strconv.uint64pow10" .u64 Lib.pow10Tab) :
  Calls Tryz.prog 64 #[.int .i64 n] w fun e w'=>e=.returned (.string ⟨(Lib.itoa n).toArray⟩)∧∃ k os,w'=grow (w.drewN k) os:=Any.strconv_Itoa Tryz.laysM171 n h0 h1 w htab
end Go.Proofs
namespace Go.Proofs.YtojgbcmhdnappaaGreatDoor
end Go.Proofs.YtojgbcmhdnappaaGreatDoor
namespace Go.Proofs.YtojgbcmhdnappaaGreatDoor
open Go.RowKit
theorem gPow:Tryz.prog.globalNamed "internal/strconv.uint64pow10" = some 4:=by kernel_rfl
structure GlobT (w:World):Prop where
 tab:Lib.TabIs Tryz.prog w "internal/strconv.uint64pow10" .u64 Lib.pow10Tab
theorem GlobT.blocks {w w':World} (h:GlobT w) (hb:∀ g,4=g→g<w.heap.size→w'.heap[g]?=w.heap[g]?):GlobT w':=by
 obtain ⟨h⟩:=h
 refine ⟨?_⟩
 unfold Lib.TabIs World.var? at h ⊢
 rw [gPow] at h ⊢
 simp only [Option.bind_some] at h ⊢
 have hlt:4<w.heap.size:=by
  rcases Nat.lt_or_ge 4 w.heap.size with h' | h'
  ·exact h'
  ·rw [Array.getElem?_eq_none h'] at h;cases h
 rw [hb _ rfl hlt]
 exact h
theorem GlobT.below {w w':World} (h:GlobT w) (hb:Below w.heap.size w w'):GlobT w':=h.blocks fun g _ hg=>hb.block g hg
end Go.Proofs.YtojgbcmhdnappaaGreatDoor
namespace Go.Proofs.YtojgbcmhdnappaaGreatDoor
def numF (l:List UInt8):Option Int:=match Lib.atoiAll l with | .ok v=>if Lib.itoa v=l then some v else none | _=>none
theorem numF_ok {l:List UInt8} {v:Int} (h:Lib.atoiAll l=.ok v):numF l=if Lib.itoa v=l then some v else none:=by unfold numF;rw [h]
theorem numF_range {l:List UInt8} (h:Lib.atoiAll l=.range):numF l=none:=by unfold numF;rw [h]
def partE (l:List UInt8):Int:=match numF l with | some v=>if v<0 then 3 else if 999<v then 2 else 0 | none=>3
def partV (l:List UInt8):Int:=(numF l).getD 0
end Go.Proofs.YtojgbcmhdnappaaGreatDoor
namespace Go.Proofs.YtojgbcmhdnappaaGreatDoor
theorem byte_at (c:UInt8):∀ (l:List UInt8) (i:Nat),Lib.indexByte l c=(i:Int)→c∉l.take i∧l=l.take i++c :: l.drop (i+1)
 | [],i,h=>by
  unfold Lib.indexByte at h
  omega
 | b :: l,i,h=>by
  unfold Lib.indexByte at h
  by_cases e:(b==c)=true
  ·rw [if_pos e] at h
   obtain rfl:i=0:=by omega
   rw [beq_iff_eq.1 e]
   simp
  ·rw [if_neg e] at h
   by_cases e2:(Lib.indexByte l c == -1)=true
   ·rw [if_pos e2] at h
    omega
   ·rw [if_neg e2] at h
    have hge:=Lib.indexByte_ge l c
    have hne:Lib.indexByte l c ≠ -1:=fun e3=>e2 (beq_iff_eq.2 e3)
    obtain ⟨j,rfl⟩:∃ j,i=j+1:=⟨i-1,by omega⟩
    obtain ⟨h1,h2⟩:=byte_at c l j (by omega)
    refine ⟨?_,?_⟩
    ·rw [List.take_succ_cons]
     intro hc
     rcases List.mem_cons.1 hc with e3 | e3
     ·exact e (beq_iff_eq.2 e3.symm)
     ·exact h1 e3
    ·rw [List.take_succ_cons,List.drop_succ_cons,List.cons_append,←h2]
def pcs (c:UInt8) (s:ByteArray):List ByteArray:=Lib.splitB ⟨#[c]⟩ 0 (Lib.countB s ⟨#[c]⟩) s
def pcL (c:UInt8) (s:ByteArray):List (List UInt8):=(pcs c s).map (·.data.toList)
theorem pcL_is (c:UInt8) (s:ByteArray):pcL c s=Lib.splitK [c] 0 (Lib.countB s ⟨#[c]⟩) s.data.toList:=Lib.splitB_data ⟨#[c]⟩ 0 _ s
theorem pcs_len (c:UInt8) (s:ByteArray):(pcs c s).length=Lib.countB s ⟨#[c]⟩+1:=Lib.splitB_all ⟨#[c]⟩ (by show 1≤1;omega) 0 _ s rfl
theorem pcL_len (c:UInt8) (s:ByteArray):(pcL c s).length=(pcs c s).length:=by unfold pcL;simp
theorem piece_le (c:UInt8) (s:ByteArray) {p:ByteArray} (h:p∈pcs c s):p.size≤s.size:=by
 have key:∀ (k:Nat) (s p:ByteArray),p∈Lib.splitB ⟨#[c]⟩ 0 k s→p.size≤s.size:=by
  intro k
  induction k with
  | zero=>intro s p h;rw [Lib.splitB_zero] at h;rw [List.mem_singleton.1 h];exact Nat.le_refl _
  | succ k ih =>
   intro s p h
   rw [Lib.splitB] at h
   split at h
   ·rw [List.mem_singleton.1 h];exact Nat.le_refl _
   ·rcases List.mem_cons.1 h with e | e
    ·rw [e,ByteArray.size_extract];omega
    ·have:=ih _ p e
     rw [ByteArray.size_extract] at this
     omega
 exact key _ _ _ h
def pcP (c:UInt8) (s:ByteArray) (j:Nat):ByteArray:=(pcs c s).getD j ⟨#[]⟩
theorem pcP_size (c:UInt8) (s:ByteArray) (j:Nat):(pcP c s j).size≤s.size:=by
 unfold pcP
 rcases Nat.lt_or_ge j (pcs c s).length with h | h
 ·rw [List.getD_eq_getElem?_getD,List.getElem?_eq_getElem h]
  exact piece_le c s (List.getElem_mem h)
 ·rw [List.getD_eq_getElem?_getD,List.getElem?_eq_none h]
  exact Nat.zero_le _
theorem pcL_at (c:UInt8) (s:ByteArray) {j:Nat} (h:j<(pcs c s).length):(pcL c s).getD j []=(pcP c s j).data.toList:=by
 unfold pcL pcP
 rw [List.getD_eq_getElem?_getD,List.getElem?_map,List.getD_eq_getElem?_getD,List.getElem?_eq_getElem h]
 rfl
end Go.Proofs.YtojgbcmhdnappaaGreatDoor
