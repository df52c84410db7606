/-
  A part of the proof: Spread, Own. Conditions: none.
-/
import Derived.Test.YtojgbcmhdnappaaGreatDoorAlRefCheck
import Derived.Test.YtojgbcmhdnappaaGreatDoorProg
import Derived.WalkKit
import Derived.WalkSpells
import Derived.WalkLawsBesides
import Derived.Lib.Hide
namespace Go.Proofs.YtojgbcmhdnappaaGreatDoor
def litT (tr:List Int) (x:Int):Int:=if x∈tr then 1 else if -x∈tr then -1 else 0
theorem litT_mem {tr:List Int} {x:Int} (h:x∈tr):litT tr x=1:=by unfold litT;rw [if_pos h]
theorem litT_neg {tr:List Int} {x:Int} (h:x∉tr) (h' : -x∈tr):litT tr x = -1:=by unfold litT;rw [if_neg h,if_pos h']
theorem litT_none {tr:List Int} {x:Int} (h:x∉tr) (h' : -x∉tr):litT tr x=0:=by unfold litT;rw [if_neg h,if_neg h']
def Cons (tr:List Int):Prop:=(∀ x∈tr,(1≤x∧x≤24)∨(-24≤x∧x ≤ -1))∧tr.Pairwise (fun x y=>x.natAbs≠y.natAbs)
theorem Cons.nil:Cons []:=⟨by simp,List.Pairwise.nil⟩
theorem Cons.no_both {tr:List Int} (h:Cons tr) {x:Int} (hx:x∈tr) : -x∉tr:=by
 intro hn
 have h0:x≠0:=by rcases h.1 x hx with h | h <;> omega
 have hne:x ≠ -x:=by omega
 have hp:=h.2
 have key:∀ l:List Int,l.Pairwise (fun x y=>x.natAbs≠y.natAbs)→x∈l → -x∈l→False:=by
  intro l
  induction l with
  | nil=>intro _ h _;cases h
  | cons a l ih =>
   intro hp h1 h2
   rw [List.pairwise_cons] at hp
   rcases List.mem_cons.1 h1 with e1 | h1
   ·rcases List.mem_cons.1 h2 with e2 | h2
    ·omega
    ·exact hp.1 _ h2 (by omega)
   ·rcases List.mem_cons.1 h2 with e2 | h2
    ·exact hp.1 _ h1 (by omega)
    ·exact ih hp.2 h1 h2
 exact key tr hp hx hn
theorem Cons.snoc {tr:List Int} (h:Cons tr) {x:Int} (hx:(1≤x∧x≤24)∨(-24≤x∧x ≤ -1)) (h1:x∉tr) (h2 : -x∉tr):Cons (tr++[x]):=by
 refine ⟨fun y hy=>?_,?_⟩
 ·rcases List.mem_append.1 hy with hy | hy
  ·exact h.1 y hy
  ·rw [List.mem_singleton.1 hy];exact hx
 ·rw [List.pairwise_append]
  refine ⟨h.2,List.pairwise_singleton _ _,fun a ha b hb=>?_⟩
  rw [List.mem_singleton.1 hb]
  intro e
  rcases Int.natAbs_eq_natAbs_iff.1 e with e | e
  ·exact h1 (e ▸ ha)
  ·exact h2 (by rw [←e];exact ha)
theorem nodup_le (m:Nat):∀ l:List Nat,l.Nodup→(∀ x∈l,x<m)→l.length≤m:=by
 induction m with
 | zero =>
  intro l _ h
  cases l with
  | nil=>exact Nat.le_refl _
  | cons a l=>exact absurd (h a (List.mem_cons_self ..)) (Nat.not_lt_zero _)
 | succ m ih =>
  intro l hn h
  have h1:=ih (l.erase m) (hn.erase m) fun x hx=>by
   have:=hn.mem_erase_iff.1 hx
   have:=h x this.2
   omega
  by_cases hm:m∈l
  ·rw [List.length_erase_of_mem hm] at h1
   omega
  ·rw [List.erase_of_not_mem hm] at h1
   omega
theorem Cons.len {tr:List Int} (h:Cons tr):tr.length≤24:=by
 have hn:(tr.map (fun x=>x.natAbs-1)).Nodup:=by
  rw [List.Nodup,List.pairwise_map]
  refine h.2.imp_of_mem fun {a b} ha hb hab e=>hab ?_
  rcases h.1 a ha with h1 | h1 <;> rcases h.1 b hb with h2 | h2 <;> omega
 have:=nodup_le 24 _ hn fun x hx=>by
  obtain ⟨a,ha,rfl⟩:=List.mem_map.1 hx
  rcases h.1 a ha with h1 | h1 <;> omega
 simpa using this
def unitGo (tr:List Int) (left:Int):List Int→Int×Bool
 | []=>(left,decide (left≠0))
 | x :: xs=>if x∈tr then (0,true) else if -x∈tr then unitGo tr left xs else if left≠0∧left≠x then (0,true) else unitGo tr x xs
def unitF (tr c:List Int):Int×Bool:=unitGo tr 0 c
def leftGo (tr:List Int) (hl:Bool×List Int):List Int→Bool×List Int
 | []=>hl
 | x :: xs=>leftGo tr (if x∈tr then (true,hl.2) else if -x∉tr∧x∉hl.2 then (hl.1,hl.2++[x]) else hl) xs
def leftF (tr c:List Int):Bool×List Int:=leftGo tr (false,[]) c
theorem leftGo_mono (tr:List Int):∀ (c:List Int) (hl:Bool×List Int),(hl.1=true→(leftGo tr hl c).1=true)∧hl.2.length≤(leftGo tr hl c).2.length:=by
 intro c
 induction c with
 | nil=>intro hl;exact ⟨id,Nat.le_refl _⟩
 | cons x xs ih =>
  intro hl
  unfold leftGo
  have:=ih (if x∈tr then (true,hl.2) else if -x∉tr∧x∉hl.2 then (hl.1,hl.2++[x]) else hl)
  refine ⟨fun h=>this.1 ?_,Nat.le_trans ?_ this.2⟩
  ·split
   ·rfl
   ·split <;> exact h
  ·split
   ·exact Nat.le_refl _
   ·split
    ·simp
    ·exact Nat.le_refl _
theorem leftGo_ok (tr:List Int) (P:Int→Prop) (x:Int) (hl:Bool×List Int) (hP:P x) (h1:hl.2.Nodup) (h2:∀ y∈hl.2,P y) :
  (leftGo tr hl [x]).2.Nodup∧∀ y∈(leftGo tr hl [x]).2,P y:=by
 unfold leftGo leftGo
 split
 ·exact ⟨h1,h2⟩
 ·split
  ·rename_i h
   refine ⟨?_,fun y hy=>?_⟩
   ·rw [List.Nodup,List.pairwise_append]
    refine ⟨h1,List.pairwise_singleton _ _,fun a ha b hb=>?_⟩
    rw [List.mem_singleton.1 hb]
    intro e
    exact h.2 (e ▸ ha)
   ·rcases List.mem_append.1 hy with hy | hy
    ·exact h2 y hy
    ·rw [List.mem_singleton.1 hy];exact hP
  ·exact ⟨h1,h2⟩
theorem lits_len (l:List Int) (h1:l.Nodup) (h2:∀ y∈l,(1≤y∧y≤24)∨(-24≤y∧y ≤ -1)):l.length≤49:=by
 have hn:(l.map (fun x=>(x+24).toNat)).Nodup:=by
  rw [List.Nodup,List.pairwise_map]
  refine h1.imp_of_mem fun {a b} ha hb hab e=>hab ?_
  rcases h2 a ha with h | h <;> rcases h2 b hb with h' | h' <;> omega
 have:=nodup_le 49 _ hn fun x hx=>by
  obtain ⟨a,ha,rfl⟩:=List.mem_map.1 hx
  rcases h2 a ha with h | h <;> omega
 simpa using this
theorem leftGo_one (tr:List Int) (hl:Bool×List Int) (x:Int):leftGo tr hl [x]=(if x∈tr then (true,hl.2) else if -x∉tr∧x∉hl.2 then (hl.1,hl.2++[x]) else hl):=rfl
theorem unit_left (tr:List Int):∀ (c:List Int) (left:Int) (l:List Int),(left=0∧l=[]∨left≠0∧l=[left])→(∀ x∈c,x≠0) →
  (unitGo tr left c=(0,true)∧((leftGo tr (false,l) c).1=true∨1<(leftGo tr (false,l) c).2.length)) ∨
  (unitGo tr left c=(0,false)∧(leftGo tr (false,l) c)=(false,[])) ∨
  (∃ x,x≠0∧unitGo tr left c=(x,true)∧(leftGo tr (false,l) c)=(false,[x])):=by
 intro c
 induction c with
 | nil =>
  intro left l h _
  rcases h with ⟨rfl,rfl⟩ | ⟨h,rfl⟩
  ·exact .inr (.inl ⟨rfl,rfl⟩)
  ·exact .inr (.inr ⟨left,h,by simp [unitGo,h],rfl⟩)
 | cons x xs ih =>
  intro left l h hc
  have hx:x≠0:=hc x (List.mem_cons_self ..)
  have hxs:∀ y∈xs,y≠0:=fun y hy=>hc y (List.mem_cons_of_mem _ hy)
  unfold unitGo leftGo
  by_cases h1:x∈tr
  ·rw [if_pos h1,if_pos h1]
   exact .inl ⟨rfl,.inl ((leftGo_mono tr xs (true,l)).1 rfl)⟩
  ·rw [if_neg h1,if_neg h1]
   by_cases h2 : -x∈tr
   ·rw [if_pos h2,if_neg (fun hh=>hh.1 h2)]
    exact ih left l h hxs
   ·rw [if_neg h2]
    rcases h with ⟨rfl,rfl⟩ | ⟨h,rfl⟩
    ·rw [if_neg (by omega),if_pos ⟨h2,by simp⟩]
     exact ih x [x] (.inr ⟨hx,rfl⟩) hxs
    ·by_cases h3:left=x
     ·subst h3
      rw [if_neg (by omega),if_neg (fun hh=>hh.2 (List.mem_singleton.2 rfl))]
      exact ih left [left] (.inr ⟨h,rfl⟩) hxs
     ·rw [if_pos ⟨h,h3⟩,if_pos ⟨h2,fun hh=>h3 (List.mem_singleton.1 hh).symm⟩]
      refine .inl ⟨rfl,.inr (Nat.lt_of_lt_of_le ?_ (leftGo_mono tr xs (false,[left]++[x])).2)⟩
      simp
theorem unitGo_mem (tr:List Int):∀ (c:List Int) (left x:Int),unitGo tr left c=(x,true)→x≠0→x=left∨(x∈c∧x∉tr ∧ -x∉tr):=by
 intro c
 induction c with
 | nil=>intro left x h _;simp [unitGo] at h;exact .inl h.1.symm
 | cons y ys ih =>
  intro left x h hx
  unfold unitGo at h
  by_cases h1:y∈tr
  ·rw [if_pos h1] at h;simp at h;exact absurd h.symm hx
  ·rw [if_neg h1] at h
   by_cases h2 : -y∈tr
   ·rw [if_pos h2] at h
    rcases ih left x h hx with e | ⟨e,e2⟩
    ·exact .inl e
    ·exact .inr ⟨List.mem_cons_of_mem _ e,e2⟩
   ·rw [if_neg h2] at h
    split at h
    ·simp at h;exact absurd h.symm hx
    ·rcases ih y x h hx with e | ⟨e,e2⟩
     ·subst e;exact .inr ⟨List.mem_cons_self ..,h1,h2⟩
     ·exact .inr ⟨List.mem_cons_of_mem _ e,e2⟩
def scanF (tr:List Int):List (List Int)→Nat→Option (Nat×Int)
 | [],_=>none
 | c :: cs,i=>if unitF tr c=(0,true) then scanF tr cs (i+1) else some (i,(unitF tr c).1)
def spreadF:Nat→List (List Int)→List Int→List Int×Int
 | 0,_,tr=>(tr,-1)
 | f+1,ls,tr=>match scanF tr ls 0 with
  | none=>(tr,-1)
  | some (i,x)=>if x=0 then (tr,i) else spreadF f ls (tr++[x])
def spreadR (ls:List (List Int)) (tr:List Int):List Int×Int:=spreadF (25-tr.length) ls tr
theorem scanF_none (tr:List Int) (ls:List (List Int)) (i k:Nat) (h:ls.length≤k):scanF tr (ls.drop k) i=none:=by rw [List.drop_eq_nil_of_le h];rfl
theorem scanF_skip (tr:List Int) (ls:List (List Int)) (k:Nat) (hk:k<ls.length) (h:unitF tr (ls.getD k [])=(0,true)):scanF tr (ls.drop k) k=scanF tr (ls.drop (k+1)) (k+1):=by
 rw [getD_cons_drop ls k [] hk,scanF,if_pos h]
theorem scanF_hit (tr:List Int) (ls:List (List Int)) (k:Nat) (hk:k<ls.length) (x:Int) (b:Bool) (h:unitF tr (ls.getD k [])=(x,b)) (hn:(x,b)≠(0,true)):scanF tr (ls.drop k) k=some (k,x):=by
 rw [getD_cons_drop ls k [] hk,scanF,if_neg (by rw [h];exact hn),h]
theorem spread_none {ls:List (List Int)} {tr:List Int} (hc:Cons tr) (h:scanF tr ls 0=none):spreadR ls tr=(tr,-1):=by
 have:=hc.len
 unfold spreadR
 rw [show 25-tr.length=(24-tr.length)+1 by omega,spreadF,h]
theorem spread_bad {ls:List (List Int)} {tr:List Int} (hc:Cons tr) {i:Nat} (h:scanF tr ls 0=some (i,0)):spreadR ls tr=(tr,(i:Int)):=by
 have:=hc.len
 unfold spreadR
 rw [show 25-tr.length=(24-tr.length)+1 by omega,spreadF,h]
 simp
theorem spread_unit {ls:List (List Int)} {tr:List Int} (hc:Cons tr) {i:Nat} {x:Int} (h:scanF tr ls 0=some (i,x)) (hx:x≠0):spreadR ls tr=spreadR ls (tr++[x]):=by
 have:=hc.len
 unfold spreadR
 rw [show 25-tr.length=(24-tr.length)+1 by omega,spreadF,h]
 simp only [if_neg hx,List.length_append,List.length_singleton]
 congr 1
 omega
end Go.Proofs.YtojgbcmhdnappaaGreatDoor
namespace Go.Proofs.YtojgbcmhdnappaaGreatDoor
open Go.RowKit
theorem intInfo2:(Tryz.prog.info? 3).map (fun i=>(i.zero,i.size,i.bytes))=some (some (.int .i64 0),1,8):=by kernel_rfl
def Own (w:World) (base:Nat) (v:Value) (zs:List Int):Prop :=
 w.ownsRow base 3 1 v zs.length (zs.map (Value.int .i64))∧zs.length≤maxLen∧∀ z∈zs,I64 z
section
variable {w w':World} {base:Nat} {v:Value} {zs:List Int}
theorem Own.nil (w:World) (base:Nat):Own w base (.slice none 0 0) []:=⟨World.ownsRow_nil _ _ _ _,Nat.zero_le _,by simp⟩
theorem Own.form (h:Own w base v zs):∃ A c,v=.slice A zs.length c∧zs.length≤c:=by
 rcases h.1.2 with ⟨rfl,h0⟩ | ⟨g,cap,cur,rfl,_,_,hc,_⟩
 ·exact ⟨none,0,by rw [h0],by omega⟩
 ·exact ⟨_,_,rfl,hc⟩
theorem Own.lt (h:Own w base v zs):∀ k,v.ownBlock=some k→base≤k∧k<w.heap.size:=h.1.lt
theorem Own.kept {row:Option Nat} (h:Own w base v zs) (hg:w.grownBy w' row) (hne:v.ownBlock=none∨v.ownBlock≠row):Own w' base v zs:=⟨h.1.kept hg hne,h.2⟩
theorem Own.alloc (h:Own w base v zs) (o:Obj):Own (w.alloc o) base v zs:=⟨h.1.alloc o,h.2⟩
theorem Own.drew (h:Own w base v zs):Own w.drew base v zs:=h
theorem Own.below (h:Own w base v zs) (hb:Below w.heap.size w w'):Own w' base v zs :=
 h.kept (row:=none) ⟨hb.os,hb.tape,hb.output,hb.size,fun i hi _=>hb.block i hi⟩ (by cases v.ownBlock <;> simp)
theorem Own.ints {A:Option Addr} {n c:Nat} (h:Own w base (.slice A n c) zs):Ints w w.heap.size A n zs:=by
 have hn:n=zs.length:=by
  obtain ⟨A',c',e,_⟩:=h.form
  cases e
  rfl
 subst hn
 exact ⟨rfl,h.2.1,h.2.2,Reads.of_own h.1⟩
theorem Own.ne_blk {g:Nat} {t:TypeId} {cs:Array Value} (h:Own w base v zs) (hg:Blk w g t cs) (hne:3≠t):v.ownBlock≠some g:=own_blk_ne h.1 hg hne
theorem Own.setBlk {g:Nat} {t:TypeId} {cs:Array Value} (h:Own w base v zs) (hg:Blk w g t cs) (hne:3≠t) (i:Nat) (u:Value):Own (w.setCell ⟨g,i,none⟩ u) base v zs :=
 h.kept (row:=some g) (only_setCell (World.grownBy.refl w _) (.inl rfl) u) (.inr (h.ne_blk hg hne))
end
theorem one_news (w:World) (z:Int) (g:Nat) (hc:w.cell? ⟨g,0,none⟩=some (.int .i64 z)):Reads w (g+1) 1 (some ⟨g,0,none⟩) 1 [Value.int .i64 z]:=by
 refine ⟨rfl,fun _=>⟨_,rfl,Nat.lt_succ_self _,fun j u hu=>?_⟩⟩
 match j,hu with
 | 0,hu=>simp at hu;subst hu;simpa [Addr.add] using hc
theorem ints_one {w:World} {x:Int} {g:Nat} (hc:w.cell? ⟨g,0,none⟩=some (.int .i64 x)) (hx:I64 x):Ints w w.heap.size (some ⟨g,0,none⟩) 1 [x]:=by
 refine ⟨rfl,by simp [maxLen],fun z hz=>by rw [List.mem_singleton.1 hz];exact hx,rfl,fun _=>⟨_,rfl,World.block_lt_of_cell? w _ hc,fun j u hu=>?_⟩⟩
 match j,hu with
 | 0,hu=>simp at hu;subst hu;simpa [Addr.add] using hc
theorem own_empty (w:World) (base:Nat) (hb:base≤w.heap.size):Own (w.alloc (.cells #[] 3)) base (.slice (some ⟨w.heap.size,0,none⟩) 0 0) [] :=
 ⟨World.ownsRow_lit (e:=3) (size:=1) w #[] 0 hb (Nat.zero_le _) rfl,Nat.zero_le _,by simp⟩
theorem Own.appended {w':World} {base:Nat} {zs ys:List Int} {v':Value} (h1:∀ z∈zs,I64 z) (h2:∀ z∈ys,I64 z) (hl:zs.length+ys.length≤1099511627776)
  (ho':w'.ownsRow base 3 1 v' (zs.length+ys.length) (zs.map (Value.int .i64)++ys.map (Value.int .i64))):Own w' base v' (zs++ys):=by
 refine ⟨?_,?_,?_⟩
 ·rw [List.length_append,List.map_append];exact ho'
 ·rw [List.length_append];simp only [maxLen];omega
 ·intro y hy
  rcases List.mem_append.1 hy with hy | hy
  ·exact h1 y hy
  ·exact h2 y hy
theorem appS (w:World) {ops:Array Oper} {rest:List Oper} {o:Oper} {a:Act} {Q:Exit→Act→World→Prop} (hgd:o.guard=none) (s x:Operand) (t:TypeId)
  (ho:o.op=.call { callee:=.builtin .append,args:=#[s,x],argTypes:=#[t,t] }) (base:Nat) (ht:Tryz.prog.underlying t=some (.slice 3))
  (v:Value) (zs:List Int) (hs:a.eval s=v) (hown:Own w base v zs) (A:Option Addr) (m c:Nat) (ys:List Int) (hx:a.eval x=.slice A m c) (hr:Ints w w.heap.size A m ys)
  (hl:zs.length+ys.length≤1099511627776) (hbase:base≤w.heap.size)
  (h:∀ v' w',Own w' base v' (zs++ys)→w.grownBy w' v.ownBlock→(v'.ownBlock=v.ownBlock∨v'.ownBlock=some w.heap.size)→wpList Tryz.prog ops Q rest (a.put o.dst v') w'):wpList Tryz.prog ops Q (o :: rest) a w:=by
 obtain ⟨i0,hi,hz0,hz1,hz2⟩:=info_parts intInfo2
 obtain rfl:=hr.1
 refine wpList_append_any w hgd s x t ho base 3 i0 (.int .i64 0) 1 8 ht hi hz0 hz1 hz2 rfl (by decide) v zs.length _ hs hown.1 w.heap.size A ys.length c (ys.map (Value.int .i64)) hx hr.2.2.2 (by intro u hu;obtain ⟨z,_,rfl⟩:=List.mem_map.1 hu;rfl) (by simp only [maxLen];omega) (by omega) hbase ?_
 intro v' w' ho' hg' hor
 exact h v' w' (Own.appended hown.2.2 hr.2.2.1 hl ho') hg' hor
theorem stepS (w:World) {ops:Array Oper} {o:Oper} {a:Act} {K:Act→World→Prop} {Q:Exit→Act→World→Prop} {E:Prop} (hgd:o.guard=none) (s x:Operand) (t:TypeId)
  (ho:o.op=.call { callee:=.builtin .append,args:=#[s,x],argTypes:=#[t,t] }) (base:Nat) (ht:Tryz.prog.underlying t=some (.slice 3))
  (v:Value) (zs:List Int) (hs:a.eval s=v) (hown:Own w base v zs) (A:Option Addr) (m c:Nat) (ys:List Int) (hx:a.eval x=.slice A m c) (hr:Ints w w.heap.size A m ys)
  (hl:zs.length+ys.length≤1099511627776) (hbase:base≤w.heap.size)
  (h:∀ v' w',Own w' base v' (zs++ys)→w.grownBy w' v.ownBlock→(v'.ownBlock=v.ownBlock∨v'.ownBlock=some w.heap.size)→K (a.put o.dst v') w') :
  if Region.wanted o (yielded ops a.tmps)=true then Oper.wp Tryz.prog o a w K Q else E:=by
 obtain ⟨i0,hi,hz0,hz1,hz2⟩:=info_parts intInfo2
 obtain rfl:=hr.1
 refine step_append_any w hgd s x t ho base 3 i0 (.int .i64 0) 1 8 ht hi hz0 hz1 hz2 rfl (by decide) v zs.length _ hs hown.1 w.heap.size A ys.length c (ys.map (Value.int .i64)) hx hr.2.2.2 (by intro u hu;obtain ⟨z,_,rfl⟩:=List.mem_map.1 hu;rfl) (by simp only [maxLen];omega) (by omega) hbase ?_
 intro v' w' ho' hg' hor
 exact h v' w' (Own.appended hown.2.2 hr.2.2.1 hl ho') hg' hor
theorem app1 (w:World) {ops:Array Oper} {rest:List Oper} {o:Oper} {a:Act} {Q:Exit→Act→World→Prop} (hgd:o.guard=none) (s x:Operand) (t:TypeId)
  (ho:o.op=.call { callee:=.builtin .append,args:=#[s,x],argTypes:=#[t,t] }) (base:Nat) (ht:Tryz.prog.underlying t=some (.slice 3))
  (v:Value) (zs:List Int) (hs:a.eval s=v) (hown:Own w base v zs) (g c:Nat) (z:Int) (hx:a.eval x=.slice (some ⟨g,0,none⟩) 1 c) (hc:w.cell? ⟨g,0,none⟩=some (.int .i64 z)) (hz:I64 z)
  (hl:zs.length≤1099511627776) (hbase:base≤w.heap.size)
  (h:∀ v' w',Own w' base v' (zs++[z])→w.grownBy w' v.ownBlock→(v'.ownBlock=v.ownBlock∨v'.ownBlock=some w.heap.size)→wpList Tryz.prog ops Q rest (a.put o.dst v') w'):wpList Tryz.prog ops Q (o :: rest) a w:=by
 obtain ⟨i0,hi,hz0,hz1,hz2⟩:=info_parts intInfo2
 refine wpList_append_any w hgd s x t ho base 3 i0 (.int .i64 0) 1 8 ht hi hz0 hz1 hz2 rfl (by decide) v zs.length _ hs hown.1 (g+1) (some ⟨g,0,none⟩) 1 c [.int .i64 z] hx (one_news w z g hc) (by simp;rfl) (by simp only [maxLen];omega) (by omega) hbase ?_
 intro v' w' ho' hg' hor
 refine h v' w' ⟨?_,?_,?_⟩ hg' hor
 ·rw [List.length_append,List.map_append];exact ho'
 ·rw [List.length_append];simp only [maxLen,List.length_singleton];omega
 ·intro y hy
  rcases List.mem_append.1 hy with hy | hy
  ·exact hown.2.2 y hy
  ·rw [List.mem_singleton.1 hy];exact hz
end Go.Proofs.YtojgbcmhdnappaaGreatDoor
