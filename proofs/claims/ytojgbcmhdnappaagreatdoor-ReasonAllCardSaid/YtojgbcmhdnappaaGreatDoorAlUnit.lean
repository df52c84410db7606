/-
  A part of the proof: Has, Unit. Conditions: none.
-/
import Derived.Test.YtojgbcmhdnappaaGreatDoorAlAt
import Derived.Test.YtojgbcmhdnappaaGreatDoorAlOwn
import Derived.Deep.LoopGhost
namespace Go.Proofs.YtojgbcmhdnappaaGreatDoor
open Go.RowKit
set_option maxHeartbeats 400000 in
theorem hasL_any (x:Int) (A:Option Addr) (n c:Nat) (zs:List Int) (w:World) (h:Ints w w.heap.size A n zs) :
  Calls Tryz.prog 158 #[.slice A n c,.int .i64 x] w fun e w'=>e=.returned (.bool (decide (x∈zs)))∧w=w':=by
 have hn:=h.le
 have hlen:=Lib.hid h.len
 go_enter Tryz.func158,Tryz.ntmps158
 go_wp2
 go_loop [6,9] (fun _ i=>∃ k:Nat,k≤n∧i=.int .i64 k∧Hid (x∉zs.take k)) (fun _ i=>n-(intOf i).toNat)
 case atStart=>exact ⟨0,Nat.zero_le _,rfl,Lib.hid (by simp)⟩
 case round =>
  obtain ⟨k,hk,rfl,hd⟩:=hrel
  by_cases hlt:k<n
  ·obtain ⟨ad,rfl,hb,hc⟩:=h.at_ hlt
   have hkl:=Lib.hid (show k<zs.length by rw [hlen.out];exact hlt)
   obtain ⟨y,hy⟩:∃ y,zs.getD k 0=y:=⟨_,rfl⟩
   rw [hy] at hc
   have HY:=Lib.hid hy
   clear hy
   by_cases e:x=y
   ·have hm:=Lib.hid (show x∈zs by
     rw [e,←HY.out,List.getD_eq_getElem?_getD,List.getElem?_eq_getElem hkl.out];exact List.getElem_mem hkl.out)
    have he:(x==y)=true:=beq_iff_eq.2 e
    clear e
    go_wp2
    go_ret
    exact ⟨ret_bool (decide_eq_true hm.out).symm,rfl⟩
   ·have he:(x==y)=false:=beq_eq_false_iff_ne.2 e
    have HE:=Lib.hid e
    clear e
    go_wp2
    go_round
    case rel=>exact ⟨k+1,by omega,by go_num,Lib.hid (by rw [take_snoc zs k 0 hkl.out,HY.out];simp;exact ⟨hd.out,HE.out⟩)⟩
    case measure=>simp [intOf];omega
  ·go_wp2
   go_ret
   exact ⟨ret_bool (by rw [take_all zs k (by have:=hlen.out;omega)] at hd;exact (decide_eq_false hd.out).symm),rfl⟩
def stCells (tr:List Int) (v:Value):Array Value:=((List.range 24).map (fun i:Nat=>Value.int .i64 (litT tr (i+1)))++[v]).toArray
theorem stCells_at (tr:List Int) (v:Value) (i:Nat) (h:i<24):(stCells tr v)[i]?=some (.int .i64 (litT tr (i+1))):=by
 unfold stCells
 simp [List.getElem?_append,h]
theorem stCells_last (tr:List Int) (v:Value):(stCells tr v)[24]?=some v:=by
 unfold stCells
 simp
theorem litT_flip {tr:List Int} (hc:Cons tr) (x:Int):litT tr (-x) = -(litT tr x):=by
 unfold litT
 by_cases h1:x∈tr
 ·have h2:=hc.no_both h1
  rw [if_pos h1,if_neg h2,if_pos (by rw [Int.neg_neg];exact h1)]
 ·rw [if_neg h1]
  by_cases h2 : -x∈tr
  ·rw [if_pos h2,if_pos h2];rfl
  ·rw [if_neg h2,if_neg h2,Int.neg_neg,if_neg h1];rfl
theorem litT_bd (tr:List Int) (x:Int) : -1≤litT tr x∧litT tr x≤1:=by
 unfold litT
 split
 ·omega
 ·split <;> omega
theorem is_any (x:Int) (b:Nat) (tr:List Int) (v:Value) (w:World) (h:Blk w b 270 (stCells tr v)) (hc:Cons tr) (hx:(1≤x∧x≤24)∨(-24≤x∧x ≤ -1)) :
  Calls Tryz.prog 246 #[.pointer (some ⟨b,0,none⟩),.int .i64 x] w fun e w'=>e=.returned (.int .i64 (litT tr x))∧w=w':=by
 rcases hx with hx | hx
 ·obtain ⟨i,rfl⟩:∃ i:Nat,x=(i:Int)+1:=⟨(x-1).toNat,by omega⟩
  have hi:i<24:=by omega
  have hcell:w.cell? ⟨b,i,none⟩=some (.int .i64 (litT tr (i+1))):=(h.cell i).trans (stCells_at tr v i hi)
  generalize litT tr ((i:Int)+1)=y at hcell
  go_enter Tryz.func246,Tryz.ntmps246
  go_wp2
  go_ret
  exact ⟨rfl,rfl⟩
 ·obtain ⟨i,rfl⟩:∃ i:Nat,x = -((i:Int)+1):=⟨(-x-1).toNat,by omega⟩
  have hi:i<24:=by omega
  have hcell:w.cell? ⟨b,i,none⟩=some (.int .i64 (litT tr (i+1))):=(h.cell i).trans (stCells_at tr v i hi)
  have hb:=litT_bd tr (i+1)
  have HF:=Lib.hid (litT_flip hc (i+1))
  generalize litT tr ((i:Int)+1)=y at hcell HF hb
  go_enter Tryz.func246,Tryz.ntmps246
  go_wp2
  go_ret
  exact ⟨ret_int HF.out.symm,rfl⟩
structure St (w:World) (S:Nat→Prop) (b base:Nat) (v:Value) (tr:List Int):Prop where
 cons:Cons tr
 blk:Blk w b 270 (stCells tr v)
 own:Own w base v tr
 prot:∀ i,S i→i<w.heap.size∧i≠b∧v.ownBlock≠some i
 base:base≤w.heap.size
def StPost (w:World) (S:Nat→Prop) (b base:Nat) (tr:List Int) (w':World):Prop:=∃ v',St w' S b base v' tr∧Keep S w w'
def SetPost (w:World) (S:Nat→Prop) (b base:Nat) (tr:List Int) (e:Ending) (w':World):Prop:=e=.returned (.tuple #[])∧StPost w S b base tr w'
theorem litT_snoc (tr:List Int) (x y:Int):litT (tr++[x]) y=if y=x then 1 else if y∈tr then 1 else if -y=x then -1 else litT tr y:=by
 unfold litT
 by_cases h0:y=x
 ·subst h0;simp
 ·by_cases h1:y∈tr
  ·simp [h0,h1]
  ·by_cases h2 : -y=x
   ·simp [h0,h1,h2]
   ·simp [h0,h1,h2]
theorem stCells_set (tr:List Int) (x:Int) (v v':Value) (i:Nat) (u:Int) (hi:i<24) (h1:x∉tr) (h2 : -x∉tr) (hx:(x=(i:Int)+1∧u=1)∨(x = -((i:Int)+1)∧u = -1)) :
  ((stCells tr v).setIfInBounds i (.int .i64 u)).setIfInBounds 24 v'=stCells (tr++[x]) v':=by
 apply Array.ext_getElem?
 intro j
 have hs:(stCells tr v).size=25:=by simp [stCells]
 by_cases hj24:24=j
 ·subst hj24
  rw [stCells_last,Array.getElem?_setIfInBounds_self_of_lt (by simp [hs])]
 ·rw [Array.getElem?_setIfInBounds,if_neg hj24,Array.getElem?_setIfInBounds]
  by_cases hj:j<24
  ·rw [stCells_at _ _ j hj]
   by_cases hij:i=j
   ·subst hij
    rw [if_pos rfl,if_pos (by omega),stCells_at _ _ i hi]
    rcases hx with ⟨rfl,rfl⟩ | ⟨rfl,rfl⟩
    ·rw [litT_snoc,if_pos rfl]
    ·rw [litT_snoc,if_neg (by omega),if_neg (by intro hm;exact h2 (by rw [Int.neg_neg];exact hm)),if_pos rfl]
   ·rw [if_neg hij,stCells_at _ _ j hj,litT_snoc]
    have e1:((j:Int)+1)≠x:=by rcases hx with ⟨rfl,_⟩ | ⟨rfl,_⟩ <;> omega
    have e2 : -((j:Int)+1)≠x:=by rcases hx with ⟨rfl,_⟩ | ⟨rfl,_⟩ <;> omega
    rw [if_neg e1,if_neg e2]
    by_cases hm:((j:Int)+1)∈tr
    ·rw [if_pos hm,litT_mem hm]
    ·rw [if_neg hm]
  ·have hs':(stCells (tr++[x]) v').size=25:=by simp [stCells]
   rw [if_neg (by omega),Array.getElem?_eq_none (by omega),Array.getElem?_eq_none (by omega)]
theorem World.size_alloc' (w:World) (o:Obj):(w.alloc o).heap.size=w.heap.size+1:=by simp
theorem size_setCell (w:World) (p:Addr) (u:Value):(w.setCell p u).heap.size=w.heap.size:=by simp [World.setCell]
set_option maxRecDepth 100000 in
set_option maxHeartbeats 1000000 in
theorem set_any (S:Nat→Prop) (x:Int) (b base:Nat) (v:Value) (tr:List Int) (w:World) (h:St w S b base v tr) (hx:(1≤x∧x≤24)∨(-24≤x∧x ≤ -1)) (hx1:x∉tr) (hx2 : -x∉tr) :
  Calls Tryz.prog 156 #[.pointer (some ⟨b,0,none⟩),.int .i64 x] w (SetPost w S b base (tr++[x])):=by
 obtain ⟨hc,hblk,hown,hprot,hbase⟩:=h
 have hlen:=hc.len
 have HPR:=hide hprot
 clear hprot
 rcases hx with hx | hx
 ·obtain ⟨i,rfl⟩:∃ i:Nat,x=(i:Int)+1:=⟨(x-1).toNat,by omega⟩
  have hi:i<24:=by omega
  have hcell:w.cell? ⟨b,i,none⟩=some (.int .i64 (litT tr (i+1))):=(hblk.cell i).trans (stCells_at tr v i hi)
  have hlast:w.cell? ⟨b,24,none⟩=some v:=(hblk.cell 24).trans (stCells_last tr v)
  have hf1:=hblk.frozen i
  have hf2:=hblk.frozen 24
  have HO:=hide ((hown.setBlk hblk (by decide) i (.int .i64 1)).alloc (.cells #[.int .i64 ((i:Int)+1)] 3))
  have HB:=hide ((hblk.set_ i (.int .i64 1)).alloc (.cells #[.int .i64 ((i:Int)+1)] 3))
  have HNE:=hide (hown.ne_blk hblk (by decide))
  have HL:=hide (Keep.setCell (w:=w) (p:=⟨b,i,none⟩) (show ¬S b from fun hs=>(HPR.out b hs).2.1 rfl) (.int .i64 1))
  have HS:=hide (stCells_set tr ((i:Int)+1) v)
  have HX:=hide (show ((w.setCell ⟨b,i,none⟩ (.int .i64 1)).alloc (.cells #[.int .i64 ((i:Int)+1)] 3)).cell? ⟨w.heap.size,0,none⟩=some (.int .i64 ((i:Int)+1)) by rw [World.cell?_alloc_at _ _ _ _ (size_setCell _ _ _).symm];rfl)
  have HSZ:=hide (show w.heap.size≤((w.setCell ⟨b,i,none⟩ (.int .i64 1)).alloc (.cells #[.int .i64 ((i:Int)+1)] 3)).heap.size by rw [World.size_alloc',size_setCell];omega)
  have HZ:=hide (show base≤((w.setCell ⟨b,i,none⟩ (.int .i64 1)).alloc (.cells #[.int .i64 ((i:Int)+1)] 3)).heap.size from by rw [World.size_alloc',size_setCell];omega)
  have HI:=hide (show I64 ((i:Int)+1) by unfold I64;omega)
  clear hown hblk
  go_enter Tryz.func156,Tryz.ntmps156
  go_wp2_with (at_builtin;go_loud (refine app1 _ rfl _ _ 31 rfl base Tryz.underlying31 v tr rfl HO.out w.heap.size 1 ((i:Int)+1) rfl HX.out HI.out (by omega) HZ.out ?_;intro v' w1 ho1 hg1 hor;obtain ⟨A1,c1,rfl,_⟩:=ho1.form;have HB1:=hide (HB.out.grown hg1 (fun e=>HNE.out e.symm));have hc1:=(HB1.out.cell 24);have hf3:=(HB1.out.frozen 24);rw [show ((stCells tr v).setIfInBounds i (.int .i64 1))[24]?=some v by rw [Array.getElem?_setIfInBounds_ne (by omega),stCells_last]] at hc1))
  go_end0
  simp only [List.length_append,List.length_singleton] at ho1 hor
  refine ⟨rfl,.slice A1 (tr.length+1) c1,⟨hc.snoc (by omega) hx1 hx2,?_,ho1.setBlk HB1.out (by decide) 24 _,?_,?_⟩,?_⟩
  ·rw [←HS.out (.slice A1 (tr.length+1) c1) i 1 hi hx1 hx2 (.inl ⟨rfl,rfl⟩)]
   exact HB1.out.set_ 24 _
  ·intro j hj
   obtain ⟨p1,p2,p3⟩:=HPR.out j hj
   refine ⟨?_,p2,?_⟩
   ·rw [size_setCell]
    exact Nat.lt_of_lt_of_le p1 (Nat.le_trans HSZ.out hg1.size)
   ·rcases hor with e | e
    ·rw [e];exact p3
    ·rw [e]
     intro e2
     cases e2
     exact absurd p1 (Nat.not_lt.2 HSZ.out)
  ·rw [size_setCell]
   exact Nat.le_trans HZ.out hg1.size
  ·refine (HL.out.trans (Keep.alloc (fun j hj=>by rw [size_setCell];exact (HPR.out j hj).1) _)).trans ((Keep.grown hg1 fun j hj=>⟨Nat.lt_of_lt_of_le (HPR.out j hj).1 HSZ.out,fun e=>(HPR.out j hj).2.2 e.symm⟩).trans (Keep.setCell (fun hs=>(HPR.out b hs).2.1 rfl) _))
 ·obtain ⟨i,rfl⟩:∃ i:Nat,x = -((i:Int)+1):=⟨(-x-1).toNat,by omega⟩
  have hi:i<24:=by omega
  have hcell:w.cell? ⟨b,i,none⟩=some (.int .i64 (litT tr (i+1))):=(hblk.cell i).trans (stCells_at tr v i hi)
  have hlast:w.cell? ⟨b,24,none⟩=some v:=(hblk.cell 24).trans (stCells_last tr v)
  have hf1:=hblk.frozen i
  have hf2:=hblk.frozen 24
  have HO:=hide ((hown.setBlk hblk (by decide) i (.int .i64 (-1))).alloc (.cells #[.int .i64 (-((i:Int)+1))] 3))
  have HB:=hide ((hblk.set_ i (.int .i64 (-1))).alloc (.cells #[.int .i64 (-((i:Int)+1))] 3))
  have HNE:=hide (hown.ne_blk hblk (by decide))
  have HL:=hide (Keep.setCell (w:=w) (p:=⟨b,i,none⟩) (show ¬S b from fun hs=>(HPR.out b hs).2.1 rfl) (.int .i64 (-1)))
  have HS:=hide (stCells_set tr (-((i:Int)+1)) v)
  have HX:=hide (show ((w.setCell ⟨b,i,none⟩ (.int .i64 (-1))).alloc (.cells #[.int .i64 (-((i:Int)+1))] 3)).cell? ⟨w.heap.size,0,none⟩=some (.int .i64 (-((i:Int)+1))) by rw [World.cell?_alloc_at _ _ _ _ (size_setCell _ _ _).symm];rfl)
  have HSZ:=hide (show w.heap.size≤((w.setCell ⟨b,i,none⟩ (.int .i64 (-1))).alloc (.cells #[.int .i64 (-((i:Int)+1))] 3)).heap.size by rw [World.size_alloc',size_setCell];omega)
  have HZ:=hide (show base≤((w.setCell ⟨b,i,none⟩ (.int .i64 (-1))).alloc (.cells #[.int .i64 (-((i:Int)+1))] 3)).heap.size from by rw [World.size_alloc',size_setCell];omega)
  have HI:=hide (show I64 (-((i:Int)+1)) by unfold I64;omega)
  clear hown hblk
  go_enter Tryz.func156,Tryz.ntmps156
  go_wp2_with (at_builtin;go_loud (refine app1 _ rfl _ _ 31 rfl base Tryz.underlying31 v tr rfl HO.out w.heap.size 1 (-((i:Int)+1)) rfl HX.out HI.out (by omega) HZ.out ?_;intro v' w1 ho1 hg1 hor;obtain ⟨A1,c1,rfl,_⟩:=ho1.form;have HB1:=hide (HB.out.grown hg1 (fun e=>HNE.out e.symm));have hc1:=(HB1.out.cell 24);have hf3:=(HB1.out.frozen 24);rw [show ((stCells tr v).setIfInBounds i (.int .i64 (-1)))[24]?=some v by rw [Array.getElem?_setIfInBounds_ne (by omega),stCells_last]] at hc1))
  go_end0
  simp only [List.length_append,List.length_singleton] at ho1 hor
  refine ⟨rfl,.slice A1 (tr.length+1) c1,⟨hc.snoc (by omega) hx1 hx2,?_,ho1.setBlk HB1.out (by decide) 24 _,?_,?_⟩,?_⟩
  ·rw [←HS.out (.slice A1 (tr.length+1) c1) i (-1) hi hx1 hx2 (.inr ⟨rfl,rfl⟩)]
   exact HB1.out.set_ 24 _
  ·intro j hj
   obtain ⟨p1,p2,p3⟩:=HPR.out j hj
   refine ⟨?_,p2,?_⟩
   ·rw [size_setCell]
    exact Nat.lt_of_lt_of_le p1 (Nat.le_trans HSZ.out hg1.size)
   ·rcases hor with e | e
    ·rw [e];exact p3
    ·rw [e]
     intro e2
     cases e2
     exact absurd p1 (Nat.not_lt.2 HSZ.out)
  ·rw [size_setCell]
   exact Nat.le_trans HZ.out hg1.size
  ·refine (HL.out.trans (Keep.alloc (fun j hj=>by rw [size_setCell];exact (HPR.out j hj).1) _)).trans ((Keep.grown hg1 fun j hj=>⟨Nat.lt_of_lt_of_le (HPR.out j hj).1 HSZ.out,fun e=>(HPR.out j hj).2.2 e.symm⟩).trans (Keep.setCell (fun hs=>(HPR.out b hs).2.1 rfl) _))
end Go.Proofs.YtojgbcmhdnappaaGreatDoor
namespace Go.Proofs.YtojgbcmhdnappaaGreatDoor
open Go.RowKit
theorem ret_two {a a':Int} {b b':Bool} (h:a=a') (h':b=b'):Ending.returned (.tuple #[.int .i64 a,.bool b])=.returned (.tuple #[.int .i64 a',.bool b']):=by rw [h,h']
def litOk (x:Int):Prop:=(1≤x∧x≤24)∨(-24≤x∧x ≤ -1)
set_option maxHeartbeats 2000000 in
theorem unit_any (b:Nat) (tr:List Int) (v:Value) (A:Option Addr) (n c:Nat) (zs:List Int) (w:World) (h:Blk w b 270 (stCells tr v)) (hcn:Cons tr) (hi:Ints w w.heap.size A n zs) (hok:∀ x∈zs,litOk x) :
  Calls Tryz.prog 203 #[.pointer (some ⟨b,0,none⟩),.slice A n c] w fun e w'=>e=.returned (.tuple #[.int .i64 (unitF tr zs).1,.bool (unitF tr zs).2])∧w=w':=by
 have hn:=hi.le
 have hlen:=Lib.hid hi.len
 have HOK:=hide hok
 have HIS:=hide (fun x hx=>is_any x b tr v w h hcn hx)
 clear hok h
 go_enter Tryz.func203,Tryz.ntmps203
 go_wp2
 go_loop [6,8,11,18] (fun l _ i _=>∃ (k:Nat) (left:Int),k≤n∧i=.int .i64 k∧l=.int .i64 left∧Hid (unitGo tr left (zs.drop k)=unitF tr zs)) (fun _ _ i _=>n-(intOf i).toNat)
 case atStart=>exact ⟨0,0,Nat.zero_le _,rfl,rfl,Lib.hid rfl⟩
 case round =>
  obtain ⟨k,left,hk,rfl,rfl,hd⟩:=hrel
  by_cases hlt:k<n
  ·obtain ⟨ad,rfl,hb,hc⟩:=hi.at_ hlt
   have hkl:=Lib.hid (show k<zs.length by rw [hlen.out];exact hlt)
   have hmem:zs.getD k 0∈zs:=by
    rw [List.getD_eq_getElem?_getD,List.getElem?_eq_getElem hkl.out];exact List.getElem_mem hkl.out
   have hx:=HOK.out _ hmem
   have hcall:=HIS.out _ hx
   have hdrop:=Lib.hid (getD_cons_drop zs k 0 hkl.out)
   clear hmem
   generalize zs.getD k 0=x at hcall hc hdrop hx
   have h0:x≠0:=by rcases hx with hx | hx <;> omega
   by_cases h1:x∈tr
   ·rw [litT_mem h1] at hcall
    have HC:=hide hcall
    have HF:=Lib.hid (show unitF tr zs=(0,true) by rw [←hd.out,hdrop.out,unitGo,if_pos h1])
    clear hcall hx h0
    clear h1
    go_wp2_with (go_at_call 246;refine (HC.out).mono ?_;rintro e w' ⟨rfl,rfl⟩)
    go_ret2
    exact ⟨ret_two (by rw [HF.out]) (by rw [HF.out]),rfl⟩
   ·by_cases h2 : -x∈tr
    ·rw [litT_neg h1 h2] at hcall
     have HC:=hide hcall
     have HF:=Lib.hid (show unitGo tr left (zs.drop (k+1))=unitF tr zs by rw [←hd.out,hdrop.out,unitGo,if_neg h1,if_pos h2])
     clear hcall hx h0
     clear h1 h2
     go_wp2_with (go_at_call 246;refine (HC.out).mono ?_;rintro e w' ⟨rfl,rfl⟩)
     go_round
     case rel=>exact ⟨k+1,left,by omega,by go_num,rfl,HF⟩
     case measure=>simp [intOf];omega
    ·rw [litT_none h1 h2] at hcall
     have HC:=hide hcall
     clear hcall
     by_cases h3:left=0
     ·subst h3
      have HF:=Lib.hid (show unitGo tr x (zs.drop (k+1))=unitF tr zs by rw [←hd.out,hdrop.out,unitGo,if_neg h1,if_neg h2,if_neg (by simp)])
      clear h1 h2 hx h0
      go_wp2_with (go_at_call 246;refine (HC.out).mono ?_;rintro e w' ⟨rfl,rfl⟩)
      go_round
      case rel=>exact ⟨k+1,x,by omega,by go_num,rfl,HF⟩
      case measure=>simp [intOf];omega
     ·by_cases h4:left=x
      ·subst h4
       have HF:=Lib.hid (show unitGo tr left (zs.drop (k+1))=unitF tr zs by rw [←hd.out,hdrop.out,unitGo,if_neg h1,if_neg h2,if_neg (by simp)])
       have e0:(left != 0)=true:=by simp [h3]
       clear h1 h2 hx h0 h3
       go_wp2_with (go_at_call 246;refine (HC.out).mono ?_;rintro e w' ⟨rfl,rfl⟩)
       go_round
       case rel=>exact ⟨k+1,left,by omega,by go_num,rfl,HF⟩
       case measure=>simp [intOf];omega
      ·have HF:=Lib.hid (show unitF tr zs=(0,true) by rw [←hd.out,hdrop.out,unitGo,if_neg h1,if_neg h2,if_pos ⟨h3,h4⟩])
       have e0:(left != 0)=true:=by simp [h3]
       have e1:(left != x)=true:=by simp [h4]
       clear h1 h2 hx h0 h3 h4
       go_wp2_with (go_at_call 246;refine (HC.out).mono ?_;rintro e w' ⟨rfl,rfl⟩)
       go_ret2
       exact ⟨ret_two (by rw [HF.out]) (by rw [HF.out]),rfl⟩
  ·have HF:=Lib.hid (show unitF tr zs=(left,decide (left≠0)) by rw [←hd.out,List.drop_eq_nil_of_le (by have:=hlen.out;omega)];rfl)
   go_wp2
   go_ret2
   exact ⟨ret_two (by rw [HF.out]) (by rw [HF.out];by_cases e:left=0 <;> simp [e]),rfl⟩
theorem unit_three (tr c:List Int) (hc:∀ x∈c,litOk x):unitF tr c=(0,true)∨unitF tr c=(0,false)∨∃ x,x≠0∧unitF tr c=(x,true)∧litOk x∧x∉tr ∧ -x∉tr:=by
 rcases unit_left tr c 0 [] (.inl ⟨rfl,rfl⟩) (fun x hx=>by rcases hc x hx with h | h <;> omega) with ⟨h,_⟩ | ⟨h,_⟩ | ⟨x,hx,h,_⟩
 ·exact .inl h
 ·exact .inr (.inl h)
 ·rcases unitGo_mem tr c 0 x h hx with e | ⟨e,h1,h2⟩
  ·exact absurd e hx
  ·exact .inr (.inr ⟨x,hx,h,hc x e,h1,h2⟩)
def SpreadPost (w:World) (S:Nat→Prop) (b base:Nat) (r:List Int×Int) (e:Ending) (w':World):Prop:=e=.returned (.int .i64 r.2)∧StPost w S b base r.1 w'
def okRows (ls:List (List Int)):Prop:=∀ k,k<ls.length→∀ x∈ls.getD k [],litOk x
structure SpreadRel (S:Nat→Prop) (b base:Nat) (A:Option Addr) (n:Nat) (ls:List (List Int)) (tr:List Int) (w:World) (k:Nat) (tr':List Int) (v':Value) (wr:World):Prop where
 st:St wr S b base v' tr'
 cl:ClsP wr S A n ls
 kp:Keep S w wr
 sc:scanF tr' (ls.drop k) k=scanF tr' ls 0
 sp:spreadR ls tr'=spreadR ls tr
set_option maxRecDepth 100000 in
set_option maxHeartbeats 2000000 in
theorem spread_any (S:Nat→Prop) (b base:Nat) (v:Value) (tr:List Int) (A:Option Addr) (n c:Nat) (ls:List (List Int)) (w:World) (h:St w S b base v tr) (hcl:ClsP w S A n ls) (hok:okRows ls) :
  Calls Tryz.prog 153 #[.pointer (some ⟨b,0,none⟩),.slice A n c] w (SpreadPost w S b base (spreadR ls tr)):=by
 have hn:n≤9223372036854775807:=hcl.2.1
 have hlen:=Lib.hid hcl.1
 have HOK:=hide hok
 have HR:=hide (show SpreadRel S b base A n ls tr w 0 tr v w from ⟨h,hcl,Keep.refl _ _,rfl,rfl⟩)
 clear hok h hcl
 go_enter Tryz.func153,Tryz.ntmps153
 go_wp2
 go_loopg [5,6,7] ((25-tr.length)*(n+1)+n) (fun gg i _ _ wr=>∃ (k:Nat) (tr':List Int) (v':Value),k≤n∧i=.int .i64 k∧Hid (SpreadRel S b base A n ls tr w k tr' v' wr)∧(25-tr'.length)*(n+1)+(n-k)≤gg)
 case atStart=>exact ⟨0,tr,v,Nat.zero_le _,rfl,HR,by omega⟩
 case round =>
  clear HR
  obtain ⟨k,tr',v',hk,rfl,hR,hg⟩:=hrel
  by_cases hlt:k<n
  ·obtain ⟨ad,A',n',c',hA,_,hc,_,hi⟩:=(hR.out.cl.cls (fun i hi=>(hR.out.st.prot i hi).1)).at_ hlt
   subst hA
   have hkl:=Lib.hid (show k<ls.length by rw [hlen.out];exact hlt)
   have hU:=unit_any b tr' v' A' n' c' (ls.getD k []) wr hR.out.st.blk hR.out.st.cons hi (HOK.out k hkl.out)
   have H3:=hide (unit_three tr' (ls.getD k []) (HOK.out k hkl.out))
   clear hi
   rcases H3.out with h3 | h3 | ⟨x,hx,h3,hxo,hx1,hx2⟩
   ·rw [h3] at hU
    have HU:=hide hU
    have HF:=hide (scanF_skip tr' ls k hkl.out h3)
    clear hU h3 H3
    go_wp2_with (go_at_call 203;refine (HU.out).mono ?_;rintro e w' ⟨rfl,rfl⟩)
    go_roundg ((25-tr'.length)*(n+1)+(n-(k+1)))
    case measure=>omega
    case rel=>exact ⟨k+1,tr',v',by omega,by go_num,hide ⟨hR.out.st,hR.out.cl,hR.out.kp,by rw [←HF.out];exact hR.out.sc,hR.out.sp⟩,Nat.le_refl _⟩
   ·rw [h3] at hU
    have HU:=hide hU
    have HF:=hide (spread_bad hR.out.st.cons (i:=k) (by rw [←hR.out.sc];exact scanF_hit tr' ls k hkl.out 0 false h3 (by simp)))
    clear hU h3 H3
    go_wp2_with (go_at_call 203;refine (HU.out).mono ?_;rintro e w' ⟨rfl,rfl⟩)
    go_ret
    rw [←hR.out.sp,HF.out]
    exact ⟨rfl,v',hR.out.st,hR.out.kp⟩
   ·rw [h3] at hU
    have HU:=hide hU
    have HF:=hide (spread_unit hR.out.st.cons (by rw [←hR.out.sc];exact scanF_hit tr' ls k hkl.out x true h3 (by simp [hx])) hx)
    have HS:=hide (set_any S x b base v' tr' wr hR.out.st hxo hx1 hx2)
    have hx0:(x != 0)=true:=by simp [hx]
    have hL:=hR.out.st.cons.len
    clear hU h3 H3 hxo hx1 hx2 hx
    go_wp2_with (first | (go_at_call 203;refine (HU.out).mono ?_;rintro e w' ⟨rfl,rfl⟩) | (go_at_call 156;refine (HS.out).mono ?_;rintro e w2 ⟨rfl,v2,hst2,hkp2⟩;have HST:=hide hst2;have HKP:=hide hkp2;clear hst2 hkp2))
    have hm:(25-(tr'++[x]).length)*(n+1)+n<(25-tr'.length)*(n+1)+(n-k):=by
     rw [List.length_append,List.length_singleton,show 25-tr'.length=(25-(tr'.length+1))+1 by omega,Nat.succ_mul]
     omega
    go_roundg ((25-(tr'++[x]).length)*(n+1)+n)
    case measure=>omega
    case rel=>exact ⟨0,tr'++[x],v2,Nat.zero_le _,by go_num,hide ⟨HST.out,hR.out.cl.keep HKP.out,hR.out.kp.trans HKP.out,rfl,by rw [←HF.out];exact hR.out.sp⟩,by omega⟩
  ·have HF:=hide (spread_none hR.out.st.cons (by rw [←hR.out.sc];exact scanF_none tr' ls k k (by have:=hlen.out;omega)))
   go_wp2
   go_ret
   rw [←hR.out.sp,HF.out]
   exact ⟨rfl,v',hR.out.st,hR.out.kp⟩
end Go.Proofs.YtojgbcmhdnappaaGreatDoor
