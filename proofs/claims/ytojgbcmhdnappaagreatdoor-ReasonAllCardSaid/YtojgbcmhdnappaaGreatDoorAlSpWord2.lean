/-
  A part of the proof: SpWord2. Conditions: none.
-/
import Derived.Test.YtojgbcmhdnappaaGreatDoorAlVerD
import Derived.Test.YtojgbcmhdnappaaGreatDoorAlRgText
import Derived.Test.YtojgbcmhdnappaaGreatDoorAlSpBoth
namespace Go.Proofs.YtojgbcmhdnappaaGreatDoor
open Go.RowKit
def PartOk (f:Nat→Int):Prop:=∀ j,j<3→0≤f j∧f j≤1000
theorem partV_le {l:List UInt8} (h:partE l=0):0≤partV l∧partV l≤999:=by
 unfold partE at h
 unfold partV
 cases e:numF l with
 | none=>rw [e] at h;simp at h
 | some v =>
  rw [e] at h
  simp only at h
  split at h
  ·cases h
  ·split at h
   ·cases h
   ·simp only [Option.getD_some]
    omega
theorem verE_parts {s:ByteArray} (h:verE s=0):∀ j,j<3→partE (dotB s j)=0:=by
 unfold verE at h
 split at h
 ·split at h
  ·split at h
   ·intro j hj
    rcases (show j=0∨j=1∨j=2 by omega) with rfl | rfl | rfl <;> assumption
   ·rename_i h9;exact absurd h h9
  ·rename_i h9;exact absurd h h9
 ·cases h
theorem verV_le {s:ByteArray} (h:verE s=0) (j:Nat) (hj:j<3):0≤verV s j∧verV s j≤999:=by
 rw [verV_ok h]
 exact partV_le (verE_parts h j hj)
def NumbP (n:Nat) (w:World) (e:Ending) (w':World):Prop:=e=.returned (.int .i64 (n:Int))∧Below w.heap.size w w'
theorem numV3_is {f:Nat→Int} (h:PartOk f):(numV3 f:Int)=f 0*1000000+f 1*1000+f 2:=by
 have h0:=h 0 (by omega)
 have h1:=h 1 (by omega)
 have h2:=h 2 (by omega)
 unfold numV3
 omega
theorem numb_any (f:Nat→Int) (w:World) (h:PartOk f):Calls Tryz.prog 198 #[.agg (verArr f)] w (NumbP (numV3 f) w):=by
 have h0:=h 0 (by omega)
 have h1:=h 1 (by omega)
 have h2:=h 2 (by omega)
 have hn:=numV3_is h
 unfold NumbP
 rw [hn]
 unfold verArr
 clear hn h
 generalize f 0=a at h0 ⊢
 generalize f 1=b at h1 ⊢
 generalize f 2=c at h2 ⊢
 go_enter Tryz.func198,Tryz.ntmps198
 go_wp2_with fail
 go_ret
 exact ⟨by first | rfl | (refine congrArg Ending.returned (congrArg (Value.int .i64) ?_);omega),(Below.refl w.heap.size w).alloc (Nat.le_refl _) _⟩
theorem refNum_any (f:Nat→Int) (w:World) (h:PartOk f):Calls Tryz.prog 170 #[.agg (verArr f)] w (NumbP (numV3 f) w):=by
 have h0:=h 0 (by omega)
 have h1:=h 1 (by omega)
 have h2:=h 2 (by omega)
 have hn:=numV3_is h
 unfold NumbP
 rw [hn]
 unfold verArr
 clear hn h
 generalize f 0=a at h0 ⊢
 generalize f 1=b at h1 ⊢
 generalize f 2=c at h2 ⊢
 go_enter Tryz.func170,Tryz.ntmps170
 go_wp2_with fail
 go_ret
 exact ⟨by first | rfl | (refine congrArg Ending.returned (congrArg (Value.int .i64) ?_);omega),(Below.refl w.heap.size w).alloc (Nat.le_refl _) _⟩
def fun3 (a b c:Int):Nat→Int:=fun j=>if j=0 then a else if j=1 then b else c
theorem fun3_ok {a b c:Int} (ha:0≤a∧a≤1000) (hb:0≤b∧b≤1000) (hc:0≤c∧c≤1000):PartOk (fun3 a b c):=fun j _=>by
 unfold fun3
 split
 ·exact ha
 ·split
  ·exact hb
  ·exact hc
theorem caret_any (f:Nat→Int) (w:World) (h:∀ j,j<3→0≤f j∧f j≤999):Calls Tryz.prog 224 #[.agg (verArr f)] w (NumbP (caretN f) w):=by
 have h0:=h 0 (by omega)
 have h1:=h 1 (by omega)
 have h2:=h 2 (by omega)
 have e1:numV3 (fun3 (f 0+1) 0 0)=((f 0).toNat+1)*1000000:=by
  show (f 0+1).toNat*1000000+(0:Int).toNat*1000+(0:Int).toNat=_
  omega
 have e2:numV3 (fun3 0 (f 1+1) 0)=((f 1).toNat+1)*1000:=by
  show (0:Int).toNat*1000000+(f 1+1).toNat*1000+(0:Int).toNat=_
  omega
 have e3:numV3 (fun3 0 0 (f 2+1))=(f 2).toNat+1:=by
  show (0:Int).toNat*1000000+(0:Int).toNat*1000+(f 2+1).toNat=_
  omega
 have e:NumbP (caretN f) w=NumbP (if 0<f 0 then numV3 (fun3 (f 0+1) 0 0) else if 0<f 1 then numV3 (fun3 0 (f 1+1) 0) else numV3 (fun3 0 0 (f 2+1))) w:=by
  rw [e1,e2,e3]
  rfl
 rw [e]
 clear e e1 e2 e3 h
 unfold verArr
 generalize f 0=a at h0 ⊢
 generalize f 1=b at h1 ⊢
 generalize f 2=c at h2 ⊢
 have n1:=Lib.hid fun W=>numb_any (fun3 (a+1) 0 0) W (fun3_ok (by omega) (by omega) (by omega))
 have n2:=Lib.hid fun W=>numb_any (fun3 0 (b+1) 0) W (fun3_ok (by omega) (by omega) (by omega))
 have n3:=Lib.hid fun W=>numb_any (fun3 0 0 (c+1)) W (fun3_ok (by omega) (by omega) (by omega))
 have ba:=(Below.refl w.heap.size w).alloc (Nat.le_refl _) (.cells #[.int .i64 a,.int .i64 b,.int .i64 c] 85)
 by_cases ha:0<a
 ·rw [if_pos ha]
  go_enter Tryz.func224,Tryz.ntmps224
  go_wp2_with (go_at_call 198;refine (n1.out _).mono ?_;rintro e w9 ⟨rfl,hb9⟩)
  go_ret
  exact ⟨rfl,verThen ba hb9⟩
 ·rw [if_neg ha]
  by_cases hb:0<b
  ·rw [if_pos hb]
   go_enter Tryz.func224,Tryz.ntmps224
   go_wp2_with (go_at_call 198;refine (n2.out _).mono ?_;rintro e w9 ⟨rfl,hb9⟩)
   go_ret
   exact ⟨rfl,verThen ba hb9⟩
  ·rw [if_neg hb]
   go_enter Tryz.func224,Tryz.ntmps224
   go_wp2_with (go_at_call 198;refine (n3.out _).mono ?_;rintro e w9 ⟨rfl,hb9⟩)
   go_ret
   exact ⟨rfl,verThen ba hb9⟩
end Go.Proofs.YtojgbcmhdnappaaGreatDoor
namespace Go.Proofs.YtojgbcmhdnappaaGreatDoor
open Go.RowKit
def WordP (s:ByteArray) (w:World) (e:Ending) (w':World):Prop :=
 ∃ v er,e=.returned (.tuple #[.agg #[v],er])∧IsErr w' er (wordE s.data.toList,-1)∧(wordE s.data.toList=0→OwnP w' w.heap.size v (wordC s.data.toList))∧(wordE s.data.toList≠0→v=.slice none 0 0)∧Below w.heap.size w w'
def opsB:List UInt8:=[61,33,60,62,94,126]
theorem idx_op (c:UInt8):(isOp c=true∧0≤Lib.indexByte opsB c)∨(isOp c=false∧Lib.indexByte opsB c<0):=by
 by_cases h1:c=61
 ·subst h1;exact .inl ⟨rfl,by decide⟩
 by_cases h2:c=33
 ·subst h2;exact .inl ⟨rfl,by decide⟩
 by_cases h3:c=60
 ·subst h3;exact .inl ⟨rfl,by decide⟩
 by_cases h4:c=62
 ·subst h4;exact .inl ⟨rfl,by decide⟩
 by_cases h5:c=94
 ·subst h5;exact .inl ⟨rfl,by decide⟩
 by_cases h6:c=126
 ·subst h6;exact .inl ⟨rfl,by decide⟩
 refine .inr ⟨by simp [isOp,h1,h2,h3,h4,h5,h6],?_⟩
 simp [opsB,Lib.indexByte,Ne.symm h1,Ne.symm h2,Ne.symm h3,Ne.symm h4,Ne.symm h5,Ne.symm h6]
theorem op_take {l:List UInt8} {k:Nat} (h:∀ c∈l.take k,isOp c=true) (hk:k<l.length) (hn:isOp l[k]=false):opL l=l.take k∧restL l=l.drop k:=by
 have e:l=l.take k++l.drop k:=(List.take_append_drop k l).symm
 have e2:l.drop k=l[k] :: l.drop (k+1):=List.drop_eq_getElem_cons hk
 unfold opL restL
 constructor
 ·conv=>lhs;rw [e]
  rw [List.takeWhile_append_of_pos h,e2,List.takeWhile_cons_of_neg (by rw [hn];simp),List.append_nil]
 ·conv=>lhs;rw [e]
  rw [List.dropWhile_append_of_pos h,e2,List.dropWhile_cons_of_neg (by rw [hn];simp)]
theorem op_all {l:List UInt8} (h:∀ c∈l,isOp c=true):restL l=[]:=by
 unfold restL
 have:=List.dropWhile_append_of_pos (p:=isOp) (l₁:=l) (l₂:=[]) h
 simpa using this
theorem sub_from (s:ByteArray) (k:Nat):s.extract k s.size=baL (s.data.toList.drop k):=by
 apply ByteArray.ext
 unfold baL
 rw [ByteArray.data_extract]
 apply Array.ext'
 simp
 exact List.take_of_length_le (by simp)
theorem sub_to (s:ByteArray) (k:Nat):s.extract 0 k=baL (s.data.toList.take k):=by
 apply ByteArray.ext
 unfold baL
 rw [ByteArray.data_extract]
 apply Array.ext'
 simp
theorem idxByte_any (c:UInt8) (W:World):Calls Tryz.prog 119 #[.string ⟨#[61,33,60,62,94,126]⟩,.int .u8 (c.toNat:Int)] W (fun e w'=>e=.returned (.int .i64 (Lib.indexByte opsB c))∧w'=W):=by
 have h:=Tryz.strings_IndexByte ⟨#[61,33,60,62,94,126]⟩ (c.toNat:Int) W
 rw [show ((c.toNat:Int).toNat).toUInt8=c by simp] at h
 exact h
theorem setS_row (f t n:Nat):setS (rowC f t) n=setS [(f,t)] n:=by
 unfold rowC
 by_cases h:f<t
 ·rw [if_pos h]
 ·rw [if_neg h]
  simp [setS]
  omega
theorem made_at (f t:Nat) (ht:t≤endR) (W W':World) (b:Nat) (fz tz:Int) (hb:b=W.heap.size) (hW:W'=W.alloc (.cells #[.int .i64 fz,.int .i64 tz] 254)) (hf:fz=(f:Int)) (h2:tz=(t:Int)) :
  Calls Tryz.prog 222 #[.slice (some ⟨b,0,none⟩) 1 1] W' (RgP W (rowC f t)):=by
 subst hb hW hf h2
 have ho:=ownP_one W W.heap.size (f,t) (Nat.le_refl _)
 have hm:=made_any _ [(f,t)] _ (ho.mono (Nat.zero_le _)) (by simp) (by simpa using ht)
 refine hm.mono ?_
 rintro e w' ⟨v,l,rfl,hv,hc,hs,hg⟩
 have hl:l=rowC f t:=can_same _ _ 0 hc (row_can ht) fun n _ _=>by rw [hs,setS_row]
 subst hl
 have hb:=(Below.refl W.heap.size W).alloc (Nat.le_refl _) (.cells #[.int .i64 (f:Int),.int .i64 (t:Int)] 254)
 exact ⟨v,rfl,hv.mono hb.size,hb.grown hg hb.size fun b e=>by have e2:W.heap.size=b:=Option.some.inj e;omega⟩
theorem op_cases (o:List UInt8):o=[]∨o=[61]∨o=[33]∨o=[60]∨o=[60,61]∨o=[62]∨o=[62,61]∨o=[94]∨o=[126]∨(o≠[]∧o≠[61]∧o≠[33]∧o≠[60]∧o≠[60,61]∧o≠[62]∧o≠[62,61]∧o≠[94]∧o≠[126]):=by
  by_cases h0:o=[];· exact .inl h0
  by_cases h1:o=[61];· exact .inr (.inl h1)
  by_cases h2:o=[33];· exact .inr (.inr (.inl h2))
  by_cases h3:o=[60];· exact .inr (.inr (.inr (.inl h3)))
  by_cases h4:o=[60,61];· exact .inr (.inr (.inr (.inr (.inl h4))))
  by_cases h5:o=[62];· exact .inr (.inr (.inr (.inr (.inr (.inl h5)))))
  by_cases h6:o=[62,61];· exact .inr (.inr (.inr (.inr (.inr (.inr (.inl h6))))))
  by_cases h7:o=[94];· exact .inr (.inr (.inr (.inr (.inr (.inr (.inr (.inl h7)))))))
  by_cases h8:o=[126];· exact .inr (.inr (.inr (.inr (.inr (.inr (.inr (.inr (.inl h8))))))))
  exact .inr (.inr (.inr (.inr (.inr (.inr (.inr (.inr (.inr ⟨h0,h1,h2,h3,h4,h5,h6,h7,h8⟩))))))))
theorem res_end {w W W4:World} {res:Nat} {t:TypeId} {cs:Array Value} {u:Value} {l:List (Nat×Nat)} (hk:Blk W res t cs) (hr:w.heap.size≤res) (hw:Below w.heap.size w W) (hc:Below W.heap.size W W4) (ho:OwnP W4 W.heap.size u l) :
  Blk W4 res t cs∧(W4.setCell ⟨res,0,none⟩ u).cell? ⟨res,0,none⟩=(cs.setIfInBounds 0 u)[0]?∧OwnP (W4.setCell ⟨res,0,none⟩ u) w.heap.size u l∧Below w.heap.size w (W4.setCell ⟨res,0,none⟩ u):=by
 have hk4:=hk.below hc hk.lt
 have hlt:=hk.lt
 refine ⟨hk4,(hk4.set_ 0 u).cell 0,(ho.kept (only_setCell (g:=res) (grown_refl _ _) (.inl rfl) u) (.inr fun e=>by have:=(ho.base_le _ e).1;omega)).mono hw.size,(hw.trans (hc.mono hw.size)).setCell hr u⟩
theorem baL_list (l:List UInt8):(baL l).toList=l:=by rw [ByteArray.toList_eq];unfold baL;simp
theorem baL_size (l:List UInt8):(baL l).size=l.length:=by unfold baL;show l.toArray.size=_;simp
set_option maxRecDepth 100000 in
set_option maxHeartbeats 2000000 in
theorem word_walk (s:ByteArray) (w:World) (hG:GlobV w) (hs:s.size≤1000) (h1:s.data.toList≠anyW) (h2:s.data.toList≠noneW):Calls Tryz.prog 178 #[.string s] w (WordP s w):=by
 have e1:(s.toList==[97,110,121])=false:=by rw [ByteArray.toList_eq];exact beq_eq_false_iff_ne.2 h1
 have e2:(s.toList==[110,111,110,101])=false:=by rw [ByteArray.toList_eq];exact beq_eq_false_iff_ne.2 h2
 have HL:=Lib.hid (show s.data.toList.length=s.size from rfl)
 go_enter Tryz.func178,Tryz.ntmps178
 go_wp2_with fail
 go_loopw [4] (fun v4 wr=>∃ k:Nat,k≤s.size∧v4=.int .i64 k∧wr=(w.alloc (.cells #[.slice none 0 0] 88))∧Hid (∀ c∈s.data.toList.take k,isOp c=true)) (fun v4 _=>s.size-(intOf v4).toNat)
 case atStart=>exact ⟨0,Nat.zero_le _,rfl,rfl,hide (by simp)⟩
 case round =>
  obtain ⟨k,hk,rfl,hw,HK⟩:=hrel
  subst hw
  by_cases hlt:k<s.size
  ·have hltz:(k:Int)<(s.size:Int):=by omega
   have hkl:k<s.data.toList.length:=hlt
   have hsk:s.data.toList[k]=s[k]:=by simp;rfl
   have HI:=Lib.hid fun W=>idxByte_any s[k] W
   have HT:=Lib.hid (show s.data.toList.take (k+1)=s.data.toList.take k++[s[k]] by rw [List.take_succ_eq_append_getElem hkl,hsk])
   rcases idx_op s[k] with ⟨ho,hi⟩ | ⟨ho,hi⟩
   ·have HK2:=hide (show ∀ c∈s.data.toList.take (k+1),isOp c=true from by
     rw [HT.out]
     intro c hc
     rcases List.mem_append.1 hc with h | h
     ·exact HK.out c h
     ·rw [List.mem_singleton.1 h];exact ho)
    clear ho hsk
    generalize Lib.indexByte opsB s[k]=x at HI hi
    go_wp2_with (go_at_call 119;refine (HI.out _).mono ?_;rintro e w9 ⟨rfl,rfl⟩)
    go_round
    case rel=>exact ⟨k+1,by omega,by go_num,trivial,HK2⟩
    case measure=>simp [intOf];omega
   ·obtain ⟨ho1,ho2⟩:=op_take HK.out hkl (by rw [hsk];exact ho)
    have hp:s.extract k s.size=baL (restL s.data.toList):=by rw [ho2,sub_from s k]
    have hq:s.extract 0 k=baL (opL s.data.toList):=by rw [ho1,sub_to s k]
    have hx:¬(0:Int)≤Lib.indexByte opsB s[k]:=by omega
    clear ho hsk ho1 ho2 HT HK
    generalize Lib.indexByte opsB s[k]=x at HI hi hx
    go_wp2_with (go_at_call 119;refine (HI.out _).mono ?_;rintro e w9 ⟨rfl,rfl⟩)
    have HR0:=hide (Blk.new w 88 #[.slice none 0 0])
    have HB0:=hide ((Below.refl w.heap.size w).alloc (Nat.le_refl _) (.cells #[.slice none 0 0] 88))
    have hrs:(baL (restL s.data.toList)).size≤21000:=by
     rw [←hp,ByteArray.size_extract]
     omega
    refine (verParse_any (baL (restL s.data.toList)) _ (hG.below HB0.out) hrs).mono ?_
    generalize (w.alloc (.cells #[.slice none 0 0] 88))=wa at HR0 HB0 ⊢
    rintro e wb ⟨er,rfl,her,hbb⟩
    unfold verArr
    have HR1:=hide (HR0.out.below hbb HR0.out.lt)
    have HB1:=hide (HB0.out.trans (hbb.mono HB0.out.size))
    clear HR0 HB0 hbb HI e1 e2
    have HWE:=Lib.hid (show wordE s.data.toList=if verE (baL (restL s.data.toList))≠0 then verE (baL (restL s.data.toList)) else if opK (opL s.data.toList)=0 then 3 else 0 by unfold wordE;rw [if_neg (fun h=>h.elim h1 h2)])
    have HWC:=Lib.hid (show wordC s.data.toList=opC (opK (opL s.data.toList)) (verV (baL (restL s.data.toList))) by unfold wordC;rw [if_neg h1,if_neg h2])
    by_cases hv:verE (baL (restL s.data.toList))=0
    ·rcases her with ⟨_,rfl⟩ | ⟨_,h9,_⟩ | ⟨_,_,h9,_⟩
     ·have hle:=verV_le hv
      rw [hv] at HWE
      have HNU:=hide fun W=>numb_any (verV (baL (restL s.data.toList))) W (fun j hj=>by have:=hle j hj;omega)
      have HCA:=hide fun W=>caret_any (verV (baL (restL s.data.toList))) W hle
      have HTI:=hide fun W=>numb_any (fun3 (verV (baL (restL s.data.toList)) 0) (verV (baL (restL s.data.toList)) 1+1) 0) W (fun3_ok (by have:=hle 0 (by omega);omega) (by have:=hle 1 (by omega);omega) (by omega))
      have et:numV3 (fun3 (verV (baL (restL s.data.toList)) 0) (verV (baL (restL s.data.toList)) 1+1) 0)=tildeN (verV (baL (restL s.data.toList))):=by
       have h0:=hle 0 (by omega)
       have h1:=hle 1 (by omega)
       show (verV (baL (restL s.data.toList)) 0).toNat*1000000+(verV (baL (restL s.data.toList)) 1+1).toNat*1000+(0:Int).toNat=(verV (baL (restL s.data.toList)) 0).toNat*1000000+((verV (baL (restL s.data.toList)) 1).toNat+1)*1000
       omega
      rw [et] at HTI
      unfold verArr at HNU HCA HTI
      simp only [fun3,if_true,if_neg (show ¬(1:Nat)=0 by omega),if_neg (show ¬(2:Nat)=0 by omega),if_neg (show ¬(2:Nat)=1 by omega)] at HTI
      have HRV:=hide (HR1.out.alloc (.cells #[.int .i64 (verV (baL (restL s.data.toList)) 0),.int .i64 (verV (baL (restL s.data.toList)) 1),.int .i64 (verV (baL (restL s.data.toList)) 2)] 85))
      have HBV:=hide (HB1.out.alloc HB1.out.size (.cells #[.int .i64 (verV (baL (restL s.data.toList)) 0),.int .i64 (verV (baL (restL s.data.toList)) 1),.int .i64 (verV (baL (restL s.data.toList)) 2)] 85))
      have HVV:=hide (Blk.new wb 85 #[.int .i64 (verV (baL (restL s.data.toList)) 0),.int .i64 (verV (baL (restL s.data.toList)) 1),.int .i64 (verV (baL (restL s.data.toList)) 2)])
      generalize verV (baL (restL s.data.toList))=f at hle HWC HNU HCA HTI et HRV HBV HVV ⊢
      have h0:=hle 0 (by omega)
      have h1':=hle 1 (by omega)
      have hN:numV3 f≤999999999:=by
       have h2':=hle 2 (by omega)
       unfold numV3
       omega
      have hC:caretN f≤1000000000:=by
       have h2':=hle 2 (by omega)
       unfold caretN
       repeat' split
       all_goals omega
      have hT:tildeN f≤1000000000:=by
       unfold tildeN
       omega
      generalize hNN:numV3 f=N at HNU hN
      generalize hop:opL s.data.toList=o at hq HWE HWC
      have hN0:(N:Int)≤999999999:=by omega
      rcases op_cases o with rfl | rfl | rfl | rfl | rfl | rfl | rfl | rfl | rfl | ⟨q0,q1,q2,q3,q4,q5,q6,q7,q8⟩
      ·have hq2:s.extract 0 k=⟨#[]⟩:=hq
       have HLL:=Lib.hid (show opC (opK []) f=rowC (N) (N+1) from by rw [←hNN];rfl)
       clear hq
       go_wp2_with fail
       refine (HNU.out _).mono ?_
       generalize (wb.alloc (.cells #[.int .i64 (f 0),.int .i64 (f 1),.int .i64 (f 2)] 85))=wc at HRV HBV HVV ⊢
       generalize wb.heap.size=vb at HVV ⊢
       rintro e wd ⟨rfl,hbd⟩
       have HR2:=hide (HRV.out.below hbd HRV.out.lt)
       have HV2:=hide (HVV.out.below hbd HVV.out.lt)
       have HB2:=hide (HBV.out.trans (hbd.mono HBV.out.size))
       clear HRV HBV HVV hbd
       have hBX:=HB2.out.alloc HB2.out.size (.cells #[.int .i64 (N:Int),.int .i64 ((N:Int)+1)] 254)
       have hRX:=HR2.out.alloc (.cells #[.int .i64 (N:Int),.int .i64 ((N:Int)+1)] 254)
       go_wp2_with fail
       refine (made_at (N) (N+1) (by unfold endR;omega) (wd.alloc (.cells #[.int .i64 (N:Int),.int .i64 ((N:Int)+1)] 254)) _ _ _ _ (by simp) rfl (by first | rfl | simp [endR]) (by first | rfl | simp [endR])).mono ?_
       rintro e w8 ⟨v8,rfl,ho8,hb8⟩
       rw [←HLL.out] at ho8
       obtain ⟨k1,n0,R2,R3⟩:=res_end (hRX) (Nat.le_refl _) hBX hb8 ho8
       have r0:=k1.cell 0
       have f0:=k1.frozen 0
       have K2:=hide R2
       have K3:=hide R3
       have ev:=ho8.len
       clear k1 R2 R3 ho8 hb8
       obtain ⟨A8,c8,rfl⟩:=ev
       go_wp2_with fail
       exact bodyPost_ret (v:=.tuple #[.agg #[.slice A8 (opC (opK []) f).length c8],.nilIface]) (by simp [results,Tryz.results178,go_sem,n0]) rfl ⟨_,_,rfl,.inl ⟨by rw [HWE.out];rfl,rfl⟩,fun _=>by rw [HWC.out];exact K2.out,fun h=>absurd (by rw [HWE.out];rfl) h,K3.out⟩
      ·have hq2:s.extract 0 k=⟨#[61]⟩:=hq
       have HLL:=Lib.hid (show opC (opK [61]) f=rowC (N) (N+1) from by rw [←hNN];rfl)
       clear hq
       go_wp2_with fail
       refine (HNU.out _).mono ?_
       generalize (wb.alloc (.cells #[.int .i64 (f 0),.int .i64 (f 1),.int .i64 (f 2)] 85))=wc at HRV HBV HVV ⊢
       generalize wb.heap.size=vb at HVV ⊢
       rintro e wd ⟨rfl,hbd⟩
       have HR2:=hide (HRV.out.below hbd HRV.out.lt)
       have HV2:=hide (HVV.out.below hbd HVV.out.lt)
       have HB2:=hide (HBV.out.trans (hbd.mono HBV.out.size))
       clear HRV HBV HVV hbd
       have hBX:=HB2.out.alloc HB2.out.size (.cells #[.int .i64 (N:Int),.int .i64 ((N:Int)+1)] 254)
       have hRX:=HR2.out.alloc (.cells #[.int .i64 (N:Int),.int .i64 ((N:Int)+1)] 254)
       go_wp2_with fail
       refine (made_at (N) (N+1) (by unfold endR;omega) (wd.alloc (.cells #[.int .i64 (N:Int),.int .i64 ((N:Int)+1)] 254)) _ _ _ _ (by simp) rfl (by first | rfl | simp [endR]) (by first | rfl | simp [endR])).mono ?_
       rintro e w8 ⟨v8,rfl,ho8,hb8⟩
       rw [←HLL.out] at ho8
       obtain ⟨k1,n0,R2,R3⟩:=res_end (hRX) (Nat.le_refl _) hBX hb8 ho8
       have r0:=k1.cell 0
       have f0:=k1.frozen 0
       have K2:=hide R2
       have K3:=hide R3
       have ev:=ho8.len
       clear k1 R2 R3 ho8 hb8
       obtain ⟨A8,c8,rfl⟩:=ev
       go_wp2_with fail
       exact bodyPost_ret (v:=.tuple #[.agg #[.slice A8 (opC (opK [61]) f).length c8],.nilIface]) (by simp [results,Tryz.results178,go_sem,n0]) rfl ⟨_,_,rfl,.inl ⟨by rw [HWE.out];rfl,rfl⟩,fun _=>by rw [HWC.out];exact K2.out,fun h=>absurd (by rw [HWE.out];rfl) h,K3.out⟩
      ·have hq2:s.extract 0 k=⟨#[33]⟩:=hq
       have HLL:=Lib.hid (show opC (opK [33]) f=notC (rowC (N) (N+1)) from by rw [←hNN];rfl)
       clear hq
       go_wp2_with fail
       refine (HNU.out _).mono ?_
       generalize (wb.alloc (.cells #[.int .i64 (f 0),.int .i64 (f 1),.int .i64 (f 2)] 85))=wc at HRV HBV HVV ⊢
       generalize wb.heap.size=vb at HVV ⊢
       rintro e wd ⟨rfl,hbd⟩
       have HR2:=hide (HRV.out.below hbd HRV.out.lt)
       have HV2:=hide (HVV.out.below hbd HVV.out.lt)
       have HB2:=hide (HBV.out.trans (hbd.mono HBV.out.size))
       clear HRV HBV HVV hbd
       have hBX:=HB2.out.alloc HB2.out.size (.cells #[.int .i64 0,.int .i64 0] 254)
       have hRX:=HR2.out.alloc (.cells #[.int .i64 0,.int .i64 0] 254)
       go_wp2_with fail
       refine (made_at (N) (N+1) (by unfold endR;omega) (wd.alloc (.cells #[.int .i64 0,.int .i64 0] 254)) _ _ _ _ (by simp) rfl (by first | rfl | simp [endR]) (by first | rfl | simp [endR])).mono ?_
       rintro e w7 ⟨v7,rfl,ho7,hb7⟩
       have hRX7:=hRX.below hb7 hRX.lt
       have hBX7:=hBX.trans (hb7.mono hBX.size)
       have hNT:=not_any v7 _ w7 (ho7.mono (Nat.zero_le _)) (row_can (f:=N) (t:=N+1) (by unfold endR;omega))
       clear hRX hBX ho7 hb7
       go_wp2_with fail
       refine hNT.mono ?_
       rintro e w8 ⟨v8,rfl,ho8,hb8⟩
       rw [←HLL.out] at ho8
       obtain ⟨k1,n0,R2,R3⟩:=res_end (hRX7) (Nat.le_refl _) hBX7 hb8 ho8
       have r0:=k1.cell 0
       have f0:=k1.frozen 0
       have K2:=hide R2
       have K3:=hide R3
       have ev:=ho8.len
       clear k1 R2 R3 ho8 hb8
       obtain ⟨A8,c8,rfl⟩:=ev
       go_wp2_with fail
       exact bodyPost_ret (v:=.tuple #[.agg #[.slice A8 (opC (opK [33]) f).length c8],.nilIface]) (by simp [results,Tryz.results178,go_sem,n0]) rfl ⟨_,_,rfl,.inl ⟨by rw [HWE.out];rfl,rfl⟩,fun _=>by rw [HWC.out];exact K2.out,fun h=>absurd (by rw [HWE.out];rfl) h,K3.out⟩
      ·have hq2:s.extract 0 k=⟨#[60]⟩:=hq
       have HLL:=Lib.hid (show opC (opK [60]) f=rowC (0) (N) from by rw [←hNN];rfl)
       clear hq
       go_wp2_with fail
       refine (HNU.out _).mono ?_
       generalize (wb.alloc (.cells #[.int .i64 (f 0),.int .i64 (f 1),.int .i64 (f 2)] 85))=wc at HRV HBV HVV ⊢
       generalize wb.heap.size=vb at HVV ⊢
       rintro e wd ⟨rfl,hbd⟩
       have HR2:=hide (HRV.out.below hbd HRV.out.lt)
       have HV2:=hide (HVV.out.below hbd HVV.out.lt)
       have HB2:=hide (HBV.out.trans (hbd.mono HBV.out.size))
       clear HRV HBV HVV hbd
       have hBX:=HB2.out.alloc HB2.out.size (.cells #[.int .i64 0,.int .i64 (N:Int)] 254)
       have hRX:=HR2.out.alloc (.cells #[.int .i64 0,.int .i64 (N:Int)] 254)
       go_wp2_with fail
       refine (made_at (0) (N) (by unfold endR;omega) (wd.alloc (.cells #[.int .i64 0,.int .i64 (N:Int)] 254)) _ _ _ _ (by simp) rfl (by first | rfl | simp [endR]) (by first | rfl | simp [endR])).mono ?_
       rintro e w8 ⟨v8,rfl,ho8,hb8⟩
       rw [←HLL.out] at ho8
       obtain ⟨k1,n0,R2,R3⟩:=res_end (hRX) (Nat.le_refl _) hBX hb8 ho8
       have r0:=k1.cell 0
       have f0:=k1.frozen 0
       have K2:=hide R2
       have K3:=hide R3
       have ev:=ho8.len
       clear k1 R2 R3 ho8 hb8
       obtain ⟨A8,c8,rfl⟩:=ev
       go_wp2_with fail
       exact bodyPost_ret (v:=.tuple #[.agg #[.slice A8 (opC (opK [60]) f).length c8],.nilIface]) (by simp [results,Tryz.results178,go_sem,n0]) rfl ⟨_,_,rfl,.inl ⟨by rw [HWE.out];rfl,rfl⟩,fun _=>by rw [HWC.out];exact K2.out,fun h=>absurd (by rw [HWE.out];rfl) h,K3.out⟩
      ·have hq2:s.extract 0 k=⟨#[60,61]⟩:=hq
       have HLL:=Lib.hid (show opC (opK [60,61]) f=rowC (0) (N+1) from by rw [←hNN];rfl)
       clear hq
       go_wp2_with fail
       refine (HNU.out _).mono ?_
       generalize (wb.alloc (.cells #[.int .i64 (f 0),.int .i64 (f 1),.int .i64 (f 2)] 85))=wc at HRV HBV HVV ⊢
       generalize wb.heap.size=vb at HVV ⊢
       rintro e wd ⟨rfl,hbd⟩
       have HR2:=hide (HRV.out.below hbd HRV.out.lt)
       have HV2:=hide (HVV.out.below hbd HVV.out.lt)
       have HB2:=hide (HBV.out.trans (hbd.mono HBV.out.size))
       clear HRV HBV HVV hbd
       have hBX:=HB2.out.alloc HB2.out.size (.cells #[.int .i64 0,.int .i64 ((N:Int)+1)] 254)
       have hRX:=HR2.out.alloc (.cells #[.int .i64 0,.int .i64 ((N:Int)+1)] 254)
       go_wp2_with fail
       refine (made_at (0) (N+1) (by unfold endR;omega) (wd.alloc (.cells #[.int .i64 0,.int .i64 ((N:Int)+1)] 254)) _ _ _ _ (by simp) rfl (by first | rfl | simp [endR]) (by first | rfl | simp [endR])).mono ?_
       rintro e w8 ⟨v8,rfl,ho8,hb8⟩
       rw [←HLL.out] at ho8
       obtain ⟨k1,n0,R2,R3⟩:=res_end (hRX) (Nat.le_refl _) hBX hb8 ho8
       have r0:=k1.cell 0
       have f0:=k1.frozen 0
       have K2:=hide R2
       have K3:=hide R3
       have ev:=ho8.len
       clear k1 R2 R3 ho8 hb8
       obtain ⟨A8,c8,rfl⟩:=ev
       go_wp2_with fail
       exact bodyPost_ret (v:=.tuple #[.agg #[.slice A8 (opC (opK [60,61]) f).length c8],.nilIface]) (by simp [results,Tryz.results178,go_sem,n0]) rfl ⟨_,_,rfl,.inl ⟨by rw [HWE.out];rfl,rfl⟩,fun _=>by rw [HWC.out];exact K2.out,fun h=>absurd (by rw [HWE.out];rfl) h,K3.out⟩
      ·have hq2:s.extract 0 k=⟨#[62]⟩:=hq
       have HLL:=Lib.hid (show opC (opK [62]) f=rowC (N+1) (endR) from by rw [←hNN];rfl)
       clear hq
       go_wp2_with fail
       refine (HNU.out _).mono ?_
       generalize (wb.alloc (.cells #[.int .i64 (f 0),.int .i64 (f 1),.int .i64 (f 2)] 85))=wc at HRV HBV HVV ⊢
       generalize wb.heap.size=vb at HVV ⊢
       rintro e wd ⟨rfl,hbd⟩
       have HR2:=hide (HRV.out.below hbd HRV.out.lt)
       have HV2:=hide (HVV.out.below hbd HVV.out.lt)
       have HB2:=hide (HBV.out.trans (hbd.mono HBV.out.size))
       clear HRV HBV HVV hbd
       have hBX:=HB2.out.alloc HB2.out.size (.cells #[.int .i64 ((N:Int)+1),.int .i64 1000000000] 254)
       have hRX:=HR2.out.alloc (.cells #[.int .i64 ((N:Int)+1),.int .i64 1000000000] 254)
       go_wp2_with fail
       refine (made_at (N+1) (endR) (Nat.le_refl _) (wd.alloc (.cells #[.int .i64 ((N:Int)+1),.int .i64 1000000000] 254)) _ _ _ _ (by simp) rfl (by first | rfl | simp [endR]) (by first | rfl | simp [endR])).mono ?_
       rintro e w8 ⟨v8,rfl,ho8,hb8⟩
       rw [←HLL.out] at ho8
       obtain ⟨k1,n0,R2,R3⟩:=res_end (hRX) (Nat.le_refl _) hBX hb8 ho8
       have r0:=k1.cell 0
       have f0:=k1.frozen 0
       have K2:=hide R2
       have K3:=hide R3
       have ev:=ho8.len
       clear k1 R2 R3 ho8 hb8
       obtain ⟨A8,c8,rfl⟩:=ev
       go_wp2_with fail
       exact bodyPost_ret (v:=.tuple #[.agg #[.slice A8 (opC (opK [62]) f).length c8],.nilIface]) (by simp [results,Tryz.results178,go_sem,n0]) rfl ⟨_,_,rfl,.inl ⟨by rw [HWE.out];rfl,rfl⟩,fun _=>by rw [HWC.out];exact K2.out,fun h=>absurd (by rw [HWE.out];rfl) h,K3.out⟩
      ·have hq2:s.extract 0 k=⟨#[62,61]⟩:=hq
       have HLL:=Lib.hid (show opC (opK [62,61]) f=rowC (N) (endR) from by rw [←hNN];rfl)
       clear hq
       go_wp2_with fail
       refine (HNU.out _).mono ?_
       generalize (wb.alloc (.cells #[.int .i64 (f 0),.int .i64 (f 1),.int .i64 (f 2)] 85))=wc at HRV HBV HVV ⊢
       generalize wb.heap.size=vb at HVV ⊢
       rintro e wd ⟨rfl,hbd⟩
       have HR2:=hide (HRV.out.below hbd HRV.out.lt)
       have HV2:=hide (HVV.out.below hbd HVV.out.lt)
       have HB2:=hide (HBV.out.trans (hbd.mono HBV.out.size))
       clear HRV HBV HVV hbd
       have hBX:=HB2.out.alloc HB2.out.size (.cells #[.int .i64 (N:Int),.int .i64 1000000000] 254)
       have hRX:=HR2.out.alloc (.cells #[.int .i64 (N:Int),.int .i64 1000000000] 254)
       go_wp2_with fail
       refine (made_at (N) (endR) (Nat.le_refl _) (wd.alloc (.cells #[.int .i64 (N:Int),.int .i64 1000000000] 254)) _ _ _ _ (by simp) rfl (by first | rfl | simp [endR]) (by first | rfl | simp [endR])).mono ?_
       rintro e w8 ⟨v8,rfl,ho8,hb8⟩
       rw [←HLL.out] at ho8
       obtain ⟨k1,n0,R2,R3⟩:=res_end (hRX) (Nat.le_refl _) hBX hb8 ho8
       have r0:=k1.cell 0
       have f0:=k1.frozen 0
       have K2:=hide R2
       have K3:=hide R3
       have ev:=ho8.len
       clear k1 R2 R3 ho8 hb8
       obtain ⟨A8,c8,rfl⟩:=ev
       go_wp2_with fail
       exact bodyPost_ret (v:=.tuple #[.agg #[.slice A8 (opC (opK [62,61]) f).length c8],.nilIface]) (by simp [results,Tryz.results178,go_sem,n0]) rfl ⟨_,_,rfl,.inl ⟨by rw [HWE.out];rfl,rfl⟩,fun _=>by rw [HWC.out];exact K2.out,fun h=>absurd (by rw [HWE.out];rfl) h,K3.out⟩
      ·have hq2:s.extract 0 k=⟨#[94]⟩:=hq
       have HLL:=Lib.hid (show opC (opK [94]) f=rowC (N) (caretN f) from by rw [←hNN];rfl)
       clear hq
       go_wp2_with fail
       refine (HNU.out _).mono ?_
       generalize (wb.alloc (.cells #[.int .i64 (f 0),.int .i64 (f 1),.int .i64 (f 2)] 85))=wc at HRV HBV HVV ⊢
       generalize wb.heap.size=vb at HVV ⊢
       rintro e wd ⟨rfl,hbd⟩
       have HR2:=hide (HRV.out.below hbd HRV.out.lt)
       have HV2:=hide (HVV.out.below hbd HVV.out.lt)
       have HB2:=hide (HBV.out.trans (hbd.mono HBV.out.size))
       clear HRV HBV HVV hbd
       have HZ:=hide (Blk.new wd 254 #[.int .i64 0,.int .i64 0])
       have HR3:=hide (HR2.out.alloc (.cells #[.int .i64 0,.int .i64 0] 254))
       have HV3:=hide (HV2.out.alloc (.cells #[.int .i64 0,.int .i64 0] 254))
       have HB3:=hide (HB2.out.alloc HB2.out.size (.cells #[.int .i64 0,.int .i64 0] 254))
       have hlx:w.heap.size≤wd.heap.size:=HB2.out.size
       clear HR2 HV2 HB2
       have y0:=HV3.out.cell 0
       have y1:=HV3.out.cell 1
       have y2:=HV3.out.cell 2
       go_wp2_with fail
       refine (HCA.out _).mono ?_
       clear y0 y1 y2
       generalize (wd.alloc (.cells #[.int .i64 0,.int .i64 0] 254))=we at HZ HR3 HV3 HB3 ⊢
       generalize wd.heap.size=xb at HZ hlx ⊢
       rintro e wf ⟨rfl,hbf⟩
       have HZ4:=hide (HZ.out.below hbf HZ.out.lt)
       have HR4:=hide (HR3.out.below hbf HR3.out.lt)
       have HB4:=hide (HB3.out.trans (hbf.mono HB3.out.size))
       have hnx:w.heap.size≠xb:=HR4.out.ne_ HZ4.out (by decide)
       clear HZ HR3 HV3 HB3 hbf
       have z0:=HZ4.out.cell 0
       have z1:=HZ4.out.cell 1
       have g0:=HZ4.out.frozen 0
       have g1:=HZ4.out.frozen 1
       have hRX:=(HR4.out.far (p:=⟨xb,0,none⟩) hnx (.int .i64 (N:Int))).far (p:=⟨xb,1,none⟩) hnx (.int .i64 (caretN f:Int))
       have hBX:=(HB4.out.setCell (p:=⟨xb,0,none⟩) hlx (.int .i64 (N:Int))).setCell (p:=⟨xb,1,none⟩) hlx (.int .i64 (caretN f:Int))
       have hZX:=(HZ4.out.set_ 0 (.int .i64 (N:Int))).set_ 1 (.int .i64 (caretN f:Int))
       have z2:=hZX.cell 0
       have z3:=hZX.cell 1
       go_wp2_with fail
       refine (made_at (N) (caretN f) (hC) ((wf.setCell ⟨xb,0,none⟩ (.int .i64 (N:Int))).setCell ⟨xb,1,none⟩ (.int .i64 (caretN f:Int))) _ _ _ _ (by simp) rfl rfl rfl).mono ?_
       rintro e w8 ⟨v8,rfl,ho8,hb8⟩
       rw [←HLL.out] at ho8
       obtain ⟨k1,n0,R2,R3⟩:=res_end (hRX) (Nat.le_refl _) hBX hb8 ho8
       have r0:=k1.cell 0
       have f0:=k1.frozen 0
       have K2:=hide R2
       have K3:=hide R3
       have ev:=ho8.len
       clear k1 R2 R3 ho8 hb8
       obtain ⟨A8,c8,rfl⟩:=ev
       go_wp2_with fail
       exact bodyPost_ret (v:=.tuple #[.agg #[.slice A8 (opC (opK [94]) f).length c8],.nilIface]) (by simp [results,Tryz.results178,go_sem,n0]) rfl ⟨_,_,rfl,.inl ⟨by rw [HWE.out];rfl,rfl⟩,fun _=>by rw [HWC.out];exact K2.out,fun h=>absurd (by rw [HWE.out];rfl) h,K3.out⟩
      ·have hq2:s.extract 0 k=⟨#[126]⟩:=hq
       have HLL:=Lib.hid (show opC (opK [126]) f=rowC (N) (tildeN f) from by rw [←hNN];rfl)
       clear hq
       go_wp2_with fail
       refine (HNU.out _).mono ?_
       generalize (wb.alloc (.cells #[.int .i64 (f 0),.int .i64 (f 1),.int .i64 (f 2)] 85))=wc at HRV HBV HVV ⊢
       generalize wb.heap.size=vb at HVV ⊢
       rintro e wd ⟨rfl,hbd⟩
       have HR2:=hide (HRV.out.below hbd HRV.out.lt)
       have HV2:=hide (HVV.out.below hbd HVV.out.lt)
       have HB2:=hide (HBV.out.trans (hbd.mono HBV.out.size))
       clear HRV HBV HVV hbd
       have HZ:=hide (Blk.new wd 254 #[.int .i64 0,.int .i64 0])
       have HR3:=hide (HR2.out.alloc (.cells #[.int .i64 0,.int .i64 0] 254))
       have HV3:=hide (HV2.out.alloc (.cells #[.int .i64 0,.int .i64 0] 254))
       have HB3:=hide (HB2.out.alloc HB2.out.size (.cells #[.int .i64 0,.int .i64 0] 254))
       have hlx:w.heap.size≤wd.heap.size:=HB2.out.size
       clear HR2 HV2 HB2
       have y0:=HV3.out.cell 0
       have y1:=HV3.out.cell 1
       have y2:=HV3.out.cell 2
       go_wp2_with fail
       refine (HTI.out _).mono ?_
       clear y0 y1 y2
       generalize (wd.alloc (.cells #[.int .i64 0,.int .i64 0] 254))=we at HZ HR3 HV3 HB3 ⊢
       generalize wd.heap.size=xb at HZ hlx ⊢
       rintro e wf ⟨rfl,hbf⟩
       have HZ4:=hide (HZ.out.below hbf HZ.out.lt)
       have HR4:=hide (HR3.out.below hbf HR3.out.lt)
       have HB4:=hide (HB3.out.trans (hbf.mono HB3.out.size))
       have hnx:w.heap.size≠xb:=HR4.out.ne_ HZ4.out (by decide)
       clear HZ HR3 HV3 HB3 hbf
       have z0:=HZ4.out.cell 0
       have z1:=HZ4.out.cell 1
       have g0:=HZ4.out.frozen 0
       have g1:=HZ4.out.frozen 1
       have hRX:=(HR4.out.far (p:=⟨xb,0,none⟩) hnx (.int .i64 (N:Int))).far (p:=⟨xb,1,none⟩) hnx (.int .i64 (tildeN f:Int))
       have hBX:=(HB4.out.setCell (p:=⟨xb,0,none⟩) hlx (.int .i64 (N:Int))).setCell (p:=⟨xb,1,none⟩) hlx (.int .i64 (tildeN f:Int))
       have hZX:=(HZ4.out.set_ 0 (.int .i64 (N:Int))).set_ 1 (.int .i64 (tildeN f:Int))
       have z2:=hZX.cell 0
       have z3:=hZX.cell 1
       go_wp2_with fail
       refine (made_at (N) (tildeN f) (hT) ((wf.setCell ⟨xb,0,none⟩ (.int .i64 (N:Int))).setCell ⟨xb,1,none⟩ (.int .i64 (tildeN f:Int))) _ _ _ _ (by simp) rfl rfl rfl).mono ?_
       rintro e w8 ⟨v8,rfl,ho8,hb8⟩
       rw [←HLL.out] at ho8
       obtain ⟨k1,n0,R2,R3⟩:=res_end (hRX) (Nat.le_refl _) hBX hb8 ho8
       have r0:=k1.cell 0
       have f0:=k1.frozen 0
       have K2:=hide R2
       have K3:=hide R3
       have ev:=ho8.len
       clear k1 R2 R3 ho8 hb8
       obtain ⟨A8,c8,rfl⟩:=ev
       go_wp2_with fail
       exact bodyPost_ret (v:=.tuple #[.agg #[.slice A8 (opC (opK [126]) f).length c8],.nilIface]) (by simp [results,Tryz.results178,go_sem,n0]) rfl ⟨_,_,rfl,.inl ⟨by rw [HWE.out];rfl,rfl⟩,fun _=>by rw [HWC.out];exact K2.out,fun h=>absurd (by rw [HWE.out];rfl) h,K3.out⟩
      ·have hTL:(baL o).toList=o:=baL_list o
       have b0:(baL o).toList.isEmpty=false:=by rw [hTL];cases o with | nil=>exact absurd rfl q0 | cons x r=>rfl
       have b1:((baL o).toList==[61])=false:=by rw [hTL];exact beq_eq_false_iff_ne.2 q1
       have b2:((baL o).toList==[33])=false:=by rw [hTL];exact beq_eq_false_iff_ne.2 q2
       have b3:((baL o).toList==[60])=false:=by rw [hTL];exact beq_eq_false_iff_ne.2 q3
       have b4:((baL o).toList==[60,61])=false:=by rw [hTL];exact beq_eq_false_iff_ne.2 q4
       have b5:((baL o).toList==[62])=false:=by rw [hTL];exact beq_eq_false_iff_ne.2 q5
       have b6:((baL o).toList==[62,61])=false:=by rw [hTL];exact beq_eq_false_iff_ne.2 q6
       have b7:((baL o).toList==[94])=false:=by rw [hTL];exact beq_eq_false_iff_ne.2 q7
       have b8:((baL o).toList==[126])=false:=by rw [hTL];exact beq_eq_false_iff_ne.2 q8
       clear hTL
       have hk0:opK o=0:=by unfold opK;rw [if_neg (by simp [q0,q1]),if_neg q2,if_neg q3,if_neg q4,if_neg q5,if_neg q6,if_neg q8,if_neg q7]
       have hW3:wordE s.data.toList=3:=by rw [HWE.out,hk0];rfl
       go_wp2_with fail
       refine (HNU.out _).mono ?_
       generalize (wb.alloc (.cells #[.int .i64 (f 0),.int .i64 (f 1),.int .i64 (f 2)] 85))=wc at HRV HBV HVV ⊢
       generalize wb.heap.size=vb at HVV ⊢
       rintro e wd ⟨rfl,hbd⟩
       have HR2:=hide (HRV.out.below hbd HRV.out.lt)
       have HV2:=hide (HVV.out.below hbd HVV.out.lt)
       have HB2:=hide (HBV.out.trans (hbd.mono HBV.out.size))
       clear HRV HBV HVV hbd
       have hRX:=hide (HR2.out.alloc (.cells #[.int .i64 0,.int .i64 0] 254))
       have hBX:=hide ((HB2.out.alloc HB2.out.size (.cells #[.int .i64 0,.int .i64 0] 254)).setCell (p:=⟨w.heap.size,0,none⟩) (Nat.le_refl _) (.slice none 0 0))
       have r0:=hRX.out.cell 0
       have f0:=hRX.out.frozen 0
       have n0:=(hRX.out.set_ 0 (.slice none 0 0)).cell 0
       go_wp2_with fail
       exact bodyPost_ret (v:=.tuple #[.agg #[.slice none 0 0],.iface 41 (.int .i64 3)]) (by simp [results,Tryz.results178,go_sem,n0]) rfl ⟨_,_,rfl,by rw [hW3];exact .inr (.inl ⟨rfl,by decide,by decide,rfl⟩),fun h=>absurd (hW3.symm.trans h) (by decide),fun _=>rfl,hBX.out⟩
     ·exact absurd hv (by simp at h9;omega)
     ·exact absurd hv (by simp at h9;omega)
    ·have hne:wordE s.data.toList=verE (baL (restL s.data.toList)):=by rw [HWE.out,if_pos hv]
     rcases her with ⟨h9,_⟩ | ⟨_,h8,h7,rfl⟩ | ⟨_,_,_,_,h9,_⟩
     ·exact absurd (congrArg Prod.fst h9) hv
     ·have HRV:=hide (HR1.out.alloc (.cells #[.int .i64 (verV (baL (restL s.data.toList)) 0),.int .i64 (verV (baL (restL s.data.toList)) 1),.int .i64 (verV (baL (restL s.data.toList)) 2)] 85))
      have HBV:=hide (HB1.out.alloc HB1.out.size (.cells #[.int .i64 (verV (baL (restL s.data.toList)) 0),.int .i64 (verV (baL (restL s.data.toList)) 1),.int .i64 (verV (baL (restL s.data.toList)) 2)] 85))
      generalize hEE:verE (baL (restL s.data.toList))=E at hne h8 h7 hv ⊢
      generalize verV (baL (restL s.data.toList))=f at HRV HBV ⊢
      have r0:=HRV.out.cell 0
      have f0:=HRV.out.frozen 0
      have HB2:=hide (HBV.out.setCell (p:=⟨w.heap.size,0,none⟩) (Nat.le_refl _) (.slice none 0 0))
      have n0:=(HRV.out.set_ 0 (.slice none 0 0)).cell 0
      go_wp2_with fail
      exact bodyPost_ret (v:=.tuple #[.agg #[.slice none 0 0],.iface 41 (.int .i64 E)]) (by simp [results,Tryz.results178,go_sem,n0]) rfl ⟨_,_,rfl,.inr (.inl ⟨rfl,by rw [hne];exact h8,by rw [hne];exact h7,by rw [hne]⟩),fun h=>absurd (hne.symm.trans h) hv,fun _=>rfl,HB2.out⟩
     ·exact absurd (show (0:Int) ≤ -1 from h9) (by decide)
  ·obtain rfl:k=s.size:=by omega
   have hltz:¬(s.size:Int)<(s.size:Int):=by omega
   have HR0:=hide (Blk.new w 88 #[.slice none 0 0])
   have HB0:=hide ((Below.refl w.heap.size w).alloc (Nat.le_refl _) (.cells #[.slice none 0 0] 88))
   have hre:baL (restL s.data.toList)=ByteArray.empty:=by
    rw [op_all (l:=s.data.toList) (by have:=HK.out;rwa [←HL.out,List.take_length] at this)]
    rfl
   have hve:verE ByteArray.empty=3:=verE_len (by rw [dot_len];decide)
   have hw3:wordE s.data.toList=3:=by
    unfold wordE
    rw [if_neg (fun h=>h.elim h1 h2),hre,if_pos (by rw [hve];decide),hve]
   have hvp:=verParse_any ByteArray.empty (w.alloc (.cells #[.slice none 0 0] 88)) (hG.below HB0.out) (by decide)
   unfold VerP at hvp
   rw [hve] at hvp
   clear hre hve HK
   go_wp2_with fail
   refine hvp.mono ?_
   generalize (w.alloc (.cells #[.slice none 0 0] 88))=wa at HR0 HB0 ⊢
   rintro e wb ⟨er,rfl,her,hbb⟩
   unfold verArr
   generalize verV ByteArray.empty=f
   have HRV:=hide ((HR0.out.below hbb HR0.out.lt).alloc (.cells #[.int .i64 (f 0),.int .i64 (f 1),.int .i64 (f 2)] 85))
   have HBV:=hide ((HB0.out.trans (hbb.mono HB0.out.size)).alloc (Nat.le_trans HB0.out.size hbb.size) (.cells #[.int .i64 (f 0),.int .i64 (f 1),.int .i64 (f 2)] 85))
   clear HR0 HB0 hbb hvp
   rcases her with ⟨h9,_⟩ | ⟨_,_,_,rfl⟩ | ⟨_,_,_,_,h9,_⟩
   ·exact absurd (congrArg Prod.fst h9) (by decide)
   ·have r0:=HRV.out.cell 0
    have f0:=HRV.out.frozen 0
    have HB2:=hide (HBV.out.setCell (p:=⟨w.heap.size,0,none⟩) (Nat.le_refl _) (.slice none 0 0))
    have n0:=(HRV.out.set_ 0 (.slice none 0 0)).cell 0
    go_wp2_with fail
    exact bodyPost_ret (v:=.tuple #[.agg #[.slice none 0 0],.iface 41 (.int .i64 3)]) (by simp [results,Tryz.results178,go_sem,n0]) rfl ⟨_,_,rfl,by rw [hw3];exact .inr (.inl ⟨rfl,by decide,by decide,rfl⟩),fun h=>absurd (hw3.symm.trans h) (by decide),fun _=>rfl,HB2.out⟩
   ·exact absurd (show (0:Int) ≤ -1 from h9) (by decide)
end Go.Proofs.YtojgbcmhdnappaaGreatDoor
namespace Go.Proofs.YtojgbcmhdnappaaGreatDoor
open Go.RowKit
theorem word_known (w:World):Calls Tryz.prog 178 #[.string ⟨#[97,110,121]⟩] w (WordP ⟨#[97,110,121]⟩ w):=by
 have hE:wordE anyW=0:=by unfold wordE;rw [if_pos (.inl rfl)]
 have hC:wordC anyW=anyC:=by unfold wordC;rw [if_pos rfl]
 have HR:=hide (Blk.new w 88 #[.slice none 0 0])
 have HB:=hide ((Below.refl w.heap.size w).alloc (Nat.le_refl _) (.cells #[.slice none 0 0] 88))
 go_enter Tryz.func178,Tryz.ntmps178
 go_wp2_with fail
 refine (any_any _).mono ?_
 generalize (w.alloc (.cells #[.slice none 0 0] 88))=wa at HR HB ⊢
 rintro e w8 ⟨v8,rfl,ho8,hb8⟩
 obtain ⟨k1,n0,R2,R3⟩:=res_end HR.out (Nat.le_refl _) HB.out hb8 ho8
 have r0:=k1.cell 0
 have f0:=k1.frozen 0
 have K2:=hide R2
 have K3:=hide R3
 have ev:=ho8.len
 clear k1 R2 R3 ho8 hb8 HR HB
 obtain ⟨A8,c8,rfl⟩:=ev
 go_wp2_with fail
 exact bodyPost_ret (v:=.tuple #[.agg #[.slice A8 anyC.length c8],.nilIface]) (by simp [results,Tryz.results178,go_sem,n0]) rfl ⟨_,_,rfl,.inl ⟨by rw [show wordE (ByteArray.mk #[97,110,121]).data.toList=0 from hE],rfl⟩,fun _=>by rw [show wordC (ByteArray.mk #[97,110,121]).data.toList=anyC from hC];exact K2.out,fun h=>absurd (show wordE (ByteArray.mk #[97,110,121]).data.toList=0 from hE) h,K3.out⟩
theorem word_none (w:World):Calls Tryz.prog 178 #[.string ⟨#[110,111,110,101]⟩] w (WordP ⟨#[110,111,110,101]⟩ w):=by
 have hE:wordE noneW=0:=by unfold wordE;rw [if_pos (.inr rfl)]
 have hC:wordC noneW=[]:=by unfold wordC;rw [if_neg (by decide),if_pos rfl]
 have HR:=hide (Blk.new w 88 #[.slice none 0 0])
 have HB:=hide ((Below.refl w.heap.size w).alloc (Nat.le_refl _) (.cells #[.slice none 0 0] 88))
 have n0:=HR.out.cell 0
 go_enter Tryz.func178,Tryz.ntmps178
 go_wp2_with fail
 exact bodyPost_ret (v:=.tuple #[.agg #[.slice none 0 0],.nilIface]) (by simp [results,Tryz.results178,go_sem,n0]) rfl ⟨_,_,rfl,.inl ⟨by rw [show wordE (ByteArray.mk #[110,111,110,101]).data.toList=0 from hE],rfl⟩,fun _=>by rw [show wordC (ByteArray.mk #[110,111,110,101]).data.toList=[] from hC];exact ownP_nil _ _,fun _=>rfl,HB.out⟩
theorem word_any (s:ByteArray) (w:World) (hG:GlobV w) (hs:s.size≤1000):Calls Tryz.prog 178 #[.string s] w (WordP s w):=by
 by_cases h1:s.data.toList=anyW
 ·have e:s=⟨#[97,110,121]⟩:=(bytes_back anyW s h1.symm).symm
  rw [e]
  exact word_known w
 ·by_cases h2:s.data.toList=noneW
  ·have e:s=⟨#[110,111,110,101]⟩:=(bytes_back noneW s h2.symm).symm
   rw [e]
   exact word_none w
  ·exact word_walk s w hG hs h1 h2
end Go.Proofs.YtojgbcmhdnappaaGreatDoor
