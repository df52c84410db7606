/-
  A part of the proof: LawRg, CatPure, CatLay. Conditions: none.
-/
import Derived.Test.YtojgbcmhdnappaaGreatDoorAlRefParse
import Derived.Test.YtojgbcmhdnappaaGreatDoorAlSpWord2
import Derived.Test.YtojgbcmhdnappaaGreatDoorAlSpBoth
import Derived.Deep.RegionHeld3
import Derived.Test.YtojgbcmhdnappaaGreatDoorAlRefOps
import Derived.IntWalk
import Derived.Test.YtojgbcmhdnappaaGreatDoorAlSpParse
import Derived.Test.YtojgbcmhdnappaaGreatDoorAlRgText
import Derived.Test.YtojgbcmhdnappaaGreatDoorAlVerB
import Derived.Lib.CutLaws
import Derived.Lib.SlicesS
import Derived.Shelf.SlGeneric
import Derived.Shelf.Strings.Cut
import Derived.Shelf.SlicesG.Turned
import Derived.Test.YtojgbcmhdnappaaGreatDoorProg
namespace Go.Proofs.YtojgbcmhdnappaaGreatDoor
open Go.RowKit
set_option maxRecDepth 100000
def FineP (w:World):Prop:=w.cell? ⟨0,0,none⟩=some (.int .i64 0)∧w.cell? ⟨0,1,none⟩=some (.int .i64 (-1))
theorem FineP.below {w w':World} (h:FineP w) (hb:Below w.heap.size w w'):FineP w':=⟨(hb.cell (lt_of_cell h.1)).trans h.1,(hb.cell (lt_of_cell h.2)).trans h.2⟩
def BothP (s:ByteArray) (f:Int×Int):Prop:=if 1000<s.size then f=((4:Int),(-1:Int)) else ∃ q:Int×Nat,rangeR s=.inl q∧f=(q.1,(q.2:Int))
end Go.Proofs.YtojgbcmhdnappaaGreatDoor
namespace Go.Proofs.YtojgbcmhdnappaaGreatDoor
def wordS (s:ByteArray):ByteArray:=⟨(Lib.cut s.data.toList [32]).1.toArray⟩
def tailS (s:ByteArray):ByteArray:=⟨(Lib.cut s.data.toList [32]).2.1.toArray⟩
theorem blank_hit {s:ByteArray} {i:Nat} (h:Lib.indexByte s.data.toList 32=i):wordS s=s.extract 0 i∧tailS s=s.extract (i+1) s.size:=by
 have h':Lib.indexB s ⟨#[32]⟩=i:=(Lib.index_one s.data.toList 32).trans h
 exact ⟨(Lib.cutB_hit s ⟨#[32]⟩ i h').1,(Lib.cutB_hit s ⟨#[32]⟩ i h').2.1⟩
theorem blank_miss {s:ByteArray} (h:Lib.indexByte s.data.toList 32 = -1):wordS s=s∧tailS s=ByteArray.empty:=by
 have h':Lib.indexB s ⟨#[32]⟩ = -1:=(Lib.index_one s.data.toList 32).trans h
 exact ⟨(Lib.cutB_miss s ⟨#[32]⟩ h').1,(Lib.cutB_miss s ⟨#[32]⟩ h').2.1⟩
theorem blank_or (s:ByteArray):Lib.indexByte s.data.toList 32 = -1∨∃ i:Nat,Lib.indexByte s.data.toList 32=i∧i<s.size:=by
 rcases Lib.indexB_cases s ⟨#[32]⟩ with h | ⟨i,h,hi⟩
 ·exact .inl ((Lib.index_one s.data.toList 32).symm.trans h)
 ·exact .inr ⟨i,(Lib.index_one s.data.toList 32).symm.trans h,by have:(⟨#[32]⟩:ByteArray).size=1:=rfl;omega⟩
theorem wordS_size (s:ByteArray):(wordS s).size≤s.size:=by
 rcases blank_or s with h | ⟨i,h,hi⟩
 ·rw [(blank_miss h).1];exact Nat.le_refl _
 ·rw [(blank_hit h).1,ByteArray.size_extract];omega
theorem tailS_size (s:ByteArray):(tailS s).size≤s.size:=by
 rcases blank_or s with h | ⟨i,h,hi⟩
 ·rw [(blank_miss h).2];exact Nat.zero_le _
 ·rw [(blank_hit h).2,ByteArray.size_extract];omega
def kindB:List ByteArray:=[⟨#[]⟩,⟨#[112,97,99,107,97,103,101]⟩,⟨#[110,101,101,100,115]⟩,⟨#[99,108,97,115,104,101,115]⟩,⟨#[114,111,111,116]⟩]
def kindK (w:ByteArray):Nat:=if w=kindB[1] then 1 else if w=kindB[2] then 2 else if w=kindB[3] then 3 else if w=kindB[4] then 4 else 0
theorem kindK_le (w : ByteArray) : kindK w ≤ 4 := by unfold kindK; repeat' split
                                                     all_goals omega
theorem kind_idx (w:ByteArray):(1≤Lib.idxOfS kindB w∧Lib.idxOfS kindB w=(kindK w:Int)∧1≤kindK w)∨(Lib.idxOfS kindB w<1∧kindK w=0):=by
 unfold kindK
 split
 ·rename_i h;subst h;exact .inl (by decide +kernel)
 ·split
  ·rename_i h;subst h;exact .inl (by decide +kernel)
  ·split
   ·rename_i h;subst h;exact .inl (by decide +kernel)
   ·split
    ·rename_i h;subst h;exact .inl (by decide +kernel)
    ·rename_i h1 h2 h3 h4
     refine .inr ⟨?_,rfl⟩
     by_cases h0:w=⟨#[]⟩
     ·subst h0;decide +kernel
     ·show Lib.idxFromS kindB w 0<1
      unfold kindB at h1 h2 h3 h4 ⊢
      unfold Lib.idxFromS
      rw [if_neg (fun e=>h0 e.symm)]
      unfold Lib.idxFromS
      rw [if_neg (fun e=>h1 e.symm)]
      unfold Lib.idxFromS
      rw [if_neg (fun e=>h2 e.symm)]
      unfold Lib.idxFromS
      rw [if_neg (fun e=>h3 e.symm)]
      unfold Lib.idxFromS
      rw [if_neg (fun e=>h4 e.symm)]
      show (-1:Int)<1
      decide
theorem kind_is (w:ByteArray) (k:Nat) (h1:1≤k) (h4:k≤4):kindB.getD k ByteArray.empty=w↔kindK w=k:=by
 have e:k=1∨k=2∨k=3∨k=4:=by omega
 constructor
 ·rintro rfl
  rcases e with rfl | rfl | rfl | rfl <;> decide +kernel
 ·intro h
  unfold kindK at h
  split at h
  ·rename_i hw;subst hw;subst h;rfl
  ·split at h
   ·rename_i hw;subst hw;subst h;rfl
   ·split at h
    ·rename_i hw;subst hw;subst h;rfl
    ·split at h
     ·rename_i hw;subst hw;subst h;rfl
     ·omega
noncomputable def rgR (s:ByteArray):(Int×Int) ⊕ List (Nat×Nat) :=
 if 1000<s.size then .inl (4,-1) else match rangeR s with
 | .inl q=>.inl (q.1,(q.2:Int))
 | .inr l=>.inr l
structure LnR where
 k:Int
 name:ByteArray
 ver:Nat→Int
 other:ByteArray
 rg:List (Nat×Nat)
noncomputable def lineR2 (k:Nat) (name:ByteArray) (ver:Nat→Int) (r:ByteArray):(Int×Int) ⊕ LnR :=
 if k=1 then (if r=ByteArray.empty then .inr ⟨1,name,ver,ByteArray.empty,[]⟩ else .inl (3,-1))
 else match rgR (tailS r) with
 | .inl f=>.inl f
 | .inr l=>.inr ⟨k,name,ver,wordS r,l⟩
noncomputable def lineR (s:ByteArray):(Int×Int) ⊕ LnR :=
 let k:=kindK (wordS s)
 let name:=wordS (tailS s)
 let r:=tailS (tailS s)
 if k=0 then .inl (3,-1)
 else if k=4 then (match rgR r with
  | .inl f=>.inl f
  | .inr l=>.inr ⟨4,name,fun _=>0,ByteArray.empty,l⟩)
 else if verE (wordS r)≠0 then .inl (verE (wordS r),-1)
 else lineR2 k name (verV (wordS r)) (tailS r)
end Go.Proofs.YtojgbcmhdnappaaGreatDoor
namespace Go.Proofs
open Go.Shelf
def Tryz.lays145_ren:Go.Shelf.Ren:=⟨fun | 145=>125 | 220=>175 | 219=>220 | 217=>166 | 225=>259 | 224=>260 | 267=>261 | 266=>212 | 314=>283 | n=>n,fun | 9=>9 | 4=>4 | 59=>234 | 3=>3 | 5=>5 | 46=>61 | 146=>219 | 51=>142 | n=>n,fun | 1=>5 | n=>n⟩
theorem Tryz.lays145:Go.Proofs.Lays.n145 Tryz.prog Tryz.lays145_ren:={
 mixed:=by kernel_rfl
 f145:=Tryz.func125.trans (congrArg some (by kernel_rfl))
 f217:=Tryz.func166.trans (congrArg some (by kernel_rfl))
 f219:=Tryz.func220.trans (congrArg some (by kernel_rfl))
 f220:=Tryz.func175.trans (congrArg some (by kernel_rfl))
 f224:=Tryz.func260.trans (congrArg some (by kernel_rfl))
 f225:=Tryz.func259.trans (congrArg some (by kernel_rfl))
 f266:=Tryz.func212.trans (congrArg some (by kernel_rfl))
 f267:=Tryz.func261.trans (congrArg some (by kernel_rfl))
 f314:=Tryz.func283.trans (congrArg some (by kernel_rfl))
 t3:=Tryz.underlying3
 a3:=Tryz.isAgg3
 z3:=Tryz.sizeOf3
 v3:=Tryz.zeroValue3
 t4:=Tryz.underlying4
 a4:=Tryz.isAgg4
 z4:=Tryz.sizeOf4
 v4:=Tryz.zeroValue4
 t5:=Tryz.underlying5
 a5:=Tryz.isAgg5
 z5:=Tryz.sizeOf5
 v5:=Tryz.zeroValue5
 t9:=Tryz.underlying9
 a9:=Tryz.isAgg9
 z9:=Tryz.sizeOf9
 v9:=Tryz.zeroValue9
 t46:=Tryz.underlying61
 a46:=Tryz.isAgg61
 z46:=Tryz.sizeOf61
 v46:=Tryz.zeroValue61
 t51:=Tryz.underlying142
 a51:=Tryz.isAgg142
 z51:=Tryz.sizeOf142
 v51:=Tryz.zeroValue142
 t59:=Tryz.underlying234
 a59:=Tryz.isAgg234
 z59:=Tryz.sizeOf234
 v59:=Tryz.zeroValue234
 t146:=Tryz.underlying219
 a146:=Tryz.isAgg219
 z146:=Tryz.sizeOf219
 v146:=Tryz.zeroValue219
 g1:=by kernel_rfl }
open Go.RowKit Go.Lib in
theorem Tryz.strings_Cut (s sep:ByteArray) (m:Int) (w:World) (hs:s.size<4294967281) (hm:w.cell? ⟨5,0,none⟩=some (.int .i64 m)) :
  Calls Tryz.prog 125 #[.string s,.string sep] w fun e w'=>e=.returned (.tuple #[.string ⟨(Lib.cut s.data.toList sep.data.toList).1.toArray⟩,.string ⟨(Lib.cut s.data.toList sep.data.toList).2.1.toArray⟩,.bool (Lib.cut s.data.toList sep.data.toList).2.2])∧∃ n,w'=w.drewN n:=Any.strings_Cut Tryz.lays145 s sep m w hs hm
def Tryz.laysSlN30_f126_ren:Go.Shelf.Ren:=⟨fun | 30=>126 | n=>n,fun | 25=>147 | 26=>9 | 3=>3 | 0=>0 | 4=>4 | n=>n,fun | n=>n⟩
theorem Tryz.laysSlN30_f126:Go.Proofs.SlLaysN.n30 Tryz.prog Tryz.laysSlN30_f126_ren:={
 mixed:=by kernel_rfl
 f30:=⟨Tryz.f126.name,by decide,Tryz.func126.trans (congrArg some (by kernel_rfl))⟩
 t0:=Tryz.underlying0
 a0:=Tryz.isAgg0
 z0:=Tryz.sizeOf0
 v0:=Tryz.zeroValue0
 t3:=Tryz.underlying3
 a3:=Tryz.isAgg3
 z3:=Tryz.sizeOf3
 v3:=Tryz.zeroValue3
 t4:=Tryz.underlying4
 a4:=Tryz.isAgg4
 z4:=Tryz.sizeOf4
 v4:=Tryz.zeroValue4
 t25:=Tryz.underlying147
 a25:=Tryz.isAgg147
 z25:=Tryz.sizeOf147
 v25:=Tryz.zeroValue147
 t26:=Tryz.underlying9
 a26:=Tryz.isAgg9
 z26:=Tryz.sizeOf9
 v26:=Tryz.zeroValue9 }
open Go.Lib in
theorem Tryz.slices_Index_string (b off n c:Nat) (zs:List ByteArray) (x:ByteArray) (w:World) (hz:n≤zs.length) (hbig:n≤9223372036854775807) (hc:∀ j,j<zs.length→w.cell? ⟨b,off+j,none⟩=some (.string (zs.getD j ByteArray.empty))) :
  Calls Tryz.prog 126 #[.slice (some ⟨b,off,none⟩) n c,.string x] w fun e w'=>e=.returned (.int .i64 (Lib.idxOfS (zs.take n) x))∧w'=w:=AnyG.slices_Index_string Tryz.laysSlN30_f126 b off n c zs x w hz hbig hc
end Go.Proofs
