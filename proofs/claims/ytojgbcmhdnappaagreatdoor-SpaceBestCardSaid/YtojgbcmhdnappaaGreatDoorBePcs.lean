/-
  A part of the proof: ToldLay, Told, Pcs. Conditions: none.
-/
import Derived.Shelf.Strings.OnBuilder
import Derived.Shelf.LaysM
import Derived.Shelf.Strconv.Itoa3
import Derived.Test.YtojgbcmhdnappaaGreatDoorProg
import Derived.Lib.ItoaMem
import Derived.Lib.Join
import Derived.Lib.ItoaLen
import Derived.Test.YtojgbcmhdnappaaGreatDoorBeRowK
import Derived.Lib.AppendIntMem
import Derived.Lib.ParseIntBTie
import Derived.Lib.Replace
import Derived.Lib.IndexBytes
import Derived.Lib.SplitLaws
namespace Go.Proofs
open Go.Shelf
def Tryz.laysM171_ren:Go.Shelf.Ren:=⟨fun | 171=>64 | 243=>115 | 246=>164 | 283=>207 | 284=>208 | 285=>209 | 286=>210 | 129=>236 | 317=>248 | 318=>249 | 319=>250 | 320=>251 | 337=>276 | 338=>277 | n=>n,fun | 3=>3 | 9=>9 | 2=>2 | 4=>4 | 171=>323 | 0=>0 | 53=>279 | 37=>141 | 5=>5 | 173=>326 | 212=>366 | 51=>142 | 20=>20 | 213=>367 | 46=>61 | 232=>401 | 233=>402 | n=>n,fun | 17=>4 | 18=>10 | 19=>11 | n=>n⟩
theorem Tryz.laysM171:Go.Proofs.LaysM.n171 Tryz.prog Tryz.laysM171_ren:={
 mixed:=by kernel_rfl
 f129:=Tryz.func236.trans (congrArg some (by kernel_rfl))
 f171:=Tryz.func64.trans (congrArg some (by kernel_rfl))
 f243:=Tryz.func115.trans (congrArg some (by kernel_rfl))
 f246:=Tryz.func164.trans (congrArg some (by kernel_rfl))
 f283:=Tryz.func207.trans (congrArg some (by kernel_rfl))
 f284:=Tryz.func208.trans (congrArg some (by kernel_rfl))
 f285:=Tryz.func209.trans (congrArg some (by kernel_rfl))
 f286:=Tryz.func210.trans (congrArg some (by kernel_rfl))
 f317:=Tryz.func248.trans (congrArg some (by kernel_rfl))
 f318:=Tryz.func249.trans (congrArg some (by kernel_rfl))
 f319:=Tryz.func250.trans (congrArg some (by kernel_rfl))
 f320:=Tryz.func251.trans (congrArg some (by kernel_rfl))
 f337:=Tryz.func276.trans (congrArg some (by kernel_rfl))
 f338:=Tryz.func277.trans (congrArg some (by kernel_rfl))
 t0:=Tryz.underlying0
 a0:=Tryz.isAgg0
 z0:=Tryz.sizeOf0
 v0:=Tryz.zeroValue0
 t2:=Tryz.underlying2
 a2:=Tryz.isAgg2
 z2:=Tryz.sizeOf2
 v2:=Tryz.zeroValue2
 t3:=Tryz.underlying3
 a3:=Tryz.isAgg3
 z3:=Tryz.sizeOf3
 v3:=Tryz.zeroValue3
 t4:=Tryz.underlying4
 a4:=Tryz.isAgg4
 z4:=Tryz.sizeOf4
 v4:=Tryz.zeroValue4
 t5:=Tryz.underlying5
 a5:=Tryz.isAgg5
 z5:=Tryz.sizeOf5
 v5:=Tryz.zeroValue5
 t9:=Tryz.underlying9
 a9:=Tryz.isAgg9
 z9:=Tryz.sizeOf9
 v9:=Tryz.zeroValue9
 t20:=Tryz.underlying20
 a20:=Tryz.isAgg20
 z20:=Tryz.sizeOf20
 v20:=Tryz.zeroValue20
 t37:=Tryz.underlying141
 a37:=Tryz.isAgg141
 z37:=Tryz.sizeOf141
 v37:=Tryz.zeroValue141
 t46:=Tryz.underlying61
 a46:=Tryz.isAgg61
 z46:=Tryz.sizeOf61
 v46:=Tryz.zeroValue61
 t51:=Tryz.underlying142
 a51:=Tryz.isAgg142
 z51:=Tryz.sizeOf142
 v51:=Tryz.zeroValue142
 t53:=Tryz.underlying279
 a53:=Tryz.isAgg279
 z53:=Tryz.sizeOf279
 v53:=Tryz.zeroValue279
 t171:=Tryz.underlying323
 a171:=Tryz.isAgg323
 z171:=Tryz.sizeOf323
 v171:=Tryz.zeroValue323
 t173:=Tryz.underlying326
 a173:=Tryz.isAgg326
 z173:=Tryz.sizeOf326
 v173:=Tryz.zeroValue326
 t212:=Tryz.underlying366
 a212:=Tryz.isAgg366
 z212:=Tryz.sizeOf366
 v212:=Tryz.zeroValue366
 t213:=Tryz.underlying367
 a213:=Tryz.isAgg367
 z213:=Tryz.sizeOf367
 t232:=Tryz.underlying401
 a232:=Tryz.isAgg401
 z232:=Tryz.sizeOf401
 v232:=Tryz.zeroValue401
 t233:=Tryz.underlying402
 a233:=Tryz.isAgg402
 z233:=Tryz.sizeOf402
 v233:=Tryz.zeroValue402
 g17:=by kernel_rfl
 g18:=by kernel_rfl
 g19:=by kernel_rfl
 i0:=by kernel_rfl
 i2:=by kernel_rfl
 i3:=by kernel_rfl
 i4:=by kernel_rfl
 i5:=by kernel_rfl
 i9:=by kernel_rfl
 i20:=by kernel_rfl
 i37:=by kernel_rfl
 i46:=by kernel_rfl
 i51:=by kernel_rfl
 i53:=by kernel_rfl
 i171:=by kernel_rfl
 i173:=by kernel_rfl
 i212:=by kernel_rfl
 i232:=by kernel_rfl
 i233:=by kernel_rfl
 m17:=by kernel_rfl
 m18:=by kernel_rfl
 m19:=by kernel_rfl }
open Go.RowKit Go.Sort Go.Lib in
theorem Tryz.strconv_Itoa (n:Int) (h0 : -9223372036854775808≤n) (h1:n≤9223372036854775807) (w:World) (htab:Lib.TabIs Tryz.prog w "internal/strconv.uint64pow10" .u64 Lib.pow10Tab) :
  Calls Tryz.prog 64 #[.int .i64 n] w fun e w'=>e=.returned (.string ⟨(Lib.itoa n).toArray⟩)∧∃ k os,w'=grow (w.drewN k) os:=Any.strconv_Itoa Tryz.laysM171 n h0 h1 w htab
end Go.Proofs
namespace Go.Proofs.YtojgbcmhdnappaaGreatDoor
end Go.Proofs.YtojgbcmhdnappaaGreatDoor
namespace Go.Proofs.YtojgbcmhdnappaaGreatDoor
open Go.RowKit
theorem gPow:Tryz.prog.globalNamed "internal/strconv.uint64pow10" = some 4:=by kernel_rfl
structure GlobT (w:World):Prop where
 tab:Lib.TabIs Tryz.prog w "internal/strconv.uint64pow10" .u64 Lib.pow10Tab
theorem GlobT.blocks {w w':World} (h:GlobT w) (hb:∀ g,4=g→g<w.heap.size→w'.heap[g]?=w.heap[g]?):GlobT w':=by
 obtain ⟨h⟩:=h
 refine ⟨?_⟩
 unfold Lib.TabIs World.var? at h ⊢
 rw [gPow] at h ⊢
 simp only [Option.bind_some] at h ⊢
 have hlt:4<w.heap.size:=by
  rcases Nat.lt_or_ge 4 w.heap.size with h' | h'
  ·exact h'
  ·rw [Array.getElem?_eq_none h'] at h;cases h
 rw [hb _ rfl hlt]
 exact h
theorem GlobT.below {w w':World} (h:GlobT w) (hb:Below w.heap.size w w'):GlobT w':=h.blocks fun g _ hg=>hb.block g hg
end Go.Proofs.YtojgbcmhdnappaaGreatDoor
namespace Go.Proofs.YtojgbcmhdnappaaGreatDoor
def numF (l:List UInt8):Option Int:=match Lib.atoiAll l with | .ok v=>if Lib.itoa v=l then some v else none | _=>none
theorem numF_ok {l:List UInt8} {v:Int} (h:Lib.atoiAll l=.ok v):numF l=if Lib.itoa v=l then some v else none:=by unfold numF;rw [h]
theorem numF_range {l:List UInt8} (h:Lib.atoiAll l=.range):numF l=none:=by unfold numF;rw [h]
def partE (l:List UInt8):Int:=match numF l with | some v=>if v<0 then 3 else if 999<v then 2 else 0 | none=>3
def partV (l:List UInt8):Int:=(numF l).getD 0
end Go.Proofs.YtojgbcmhdnappaaGreatDoor
namespace Go.Proofs.YtojgbcmhdnappaaGreatDoor
theorem byte_at (c:UInt8):∀ (l:List UInt8) (i:Nat),Lib.indexByte l c=(i:Int)→c∉l.take i∧l=l.take i++c :: l.drop (i+1)
 | [],i,h=>by
  unfold Lib.indexByte at h
  omega
 | b :: l,i,h=>by
  unfold Lib.indexByte at h
  by_cases e:(b==c)=true
  ·rw [if_pos e] at h
   obtain rfl:i=0:=by omega
   rw [beq_iff_eq.1 e]
   simp
  ·rw [if_neg e] at h
   by_cases e2:(Lib.indexByte l c == -1)=true
   ·rw [if_pos e2] at h
    omega
   ·rw [if_neg e2] at h
    have hge:=Lib.indexByte_ge l c
    have hne:Lib.indexByte l c ≠ -1:=fun e3=>e2 (beq_iff_eq.2 e3)
    obtain ⟨j,rfl⟩:∃ j,i=j+1:=⟨i-1,by omega⟩
    obtain ⟨h1,h2⟩:=byte_at c l j (by omega)
    refine ⟨?_,?_⟩
    ·rw [List.take_succ_cons]
     intro hc
     rcases List.mem_cons.1 hc with e3 | e3
     ·exact e (beq_iff_eq.2 e3.symm)
     ·exact h1 e3
    ·rw [List.take_succ_cons,List.drop_succ_cons,List.cons_append,←h2]
def pcs (c:UInt8) (s:ByteArray):List ByteArray:=Lib.splitB ⟨#[c]⟩ 0 (Lib.countB s ⟨#[c]⟩) s
def pcL (c:UInt8) (s:ByteArray):List (List UInt8):=(pcs c s).map (·.data.toList)
theorem pcL_is (c:UInt8) (s:ByteArray):pcL c s=Lib.splitK [c] 0 (Lib.countB s ⟨#[c]⟩) s.data.toList:=Lib.splitB_data ⟨#[c]⟩ 0 _ s
theorem pcs_len (c:UInt8) (s:ByteArray):(pcs c s).length=Lib.countB s ⟨#[c]⟩+1:=Lib.splitB_all ⟨#[c]⟩ (by show 1≤1;omega) 0 _ s rfl
theorem pcL_len (c:UInt8) (s:ByteArray):(pcL c s).length=(pcs c s).length:=by unfold pcL;simp
theorem piece_le (c:UInt8) (s:ByteArray) {p:ByteArray} (h:p∈pcs c s):p.size≤s.size:=by
 have key:∀ (k:Nat) (s p:ByteArray),p∈Lib.splitB ⟨#[c]⟩ 0 k s→p.size≤s.size:=by
  intro k
  induction k with
  | zero=>intro s p h;rw [Lib.splitB_zero] at h;rw [List.mem_singleton.1 h];exact Nat.le_refl _
  | succ k ih =>
   intro s p h
   rw [Lib.splitB] at h
   split at h
   ·rw [List.mem_singleton.1 h];exact Nat.le_refl _
   ·rcases List.mem_cons.1 h with e | e
    ·rw [e,ByteArray.size_extract];omega
    ·have:=ih _ p e
     rw [ByteArray.size_extract] at this
     omega
 exact key _ _ _ h
def pcP (c:UInt8) (s:ByteArray) (j:Nat):ByteArray:=(pcs c s).getD j ⟨#[]⟩
theorem pcP_size (c:UInt8) (s:ByteArray) (j:Nat):(pcP c s j).size≤s.size:=by
 unfold pcP
 rcases Nat.lt_or_ge j (pcs c s).length with h | h
 ·rw [List.getD_eq_getElem?_getD,List.getElem?_eq_getElem h]
  exact piece_le c s (List.getElem_mem h)
 ·rw [List.getD_eq_getElem?_getD,List.getElem?_eq_none h]
  exact Nat.zero_le _
theorem pcL_at (c:UInt8) (s:ByteArray) {j:Nat} (h:j<(pcs c s).length):(pcL c s).getD j []=(pcP c s j).data.toList:=by
 unfold pcL pcP
 rw [List.getD_eq_getElem?_getD,List.getElem?_map,List.getD_eq_getElem?_getD,List.getElem?_eq_getElem h]
 rfl
end Go.Proofs.YtojgbcmhdnappaaGreatDoor
