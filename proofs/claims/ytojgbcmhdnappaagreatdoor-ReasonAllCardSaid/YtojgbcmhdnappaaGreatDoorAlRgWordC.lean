/-
  A part of the proof: RgTrim, RgWordC. Conditions: none.
-/
import Derived.Shelf.Strings.SlTrimAscii
import Derived.Test.YtojgbcmhdnappaaGreatDoorProg
import Derived.Test.YtojgbcmhdnappaaGreatDoorAlRgText
import Derived.Test.YtojgbcmhdnappaaGreatDoorAlSpWord2
namespace Go.Proofs
open Go.Shelf
def Tryz.lays161_ren:Go.Shelf.Ren:=⟨fun | 161=>169 | 231=>215 | 227=>216 | 233=>217 | 235=>218 | 228=>257 | 197=>192 | 151=>258 | 260=>240 | 152=>282 | 137=>119 | 119=>287 | 224=>260 | 225=>259 | 217=>166 | 266=>212 | n=>n,fun | 9=>9 | 4=>4 | 3=>3 | 5=>5 | 117=>333 | 116=>332 | 0=>0 | 124=>336 | 105=>300 | 21=>21 | 119=>387 | 46=>61 | 139=>390 | 138=>389 | n=>n,fun | 3=>6 | 4=>7 | n=>n⟩
theorem Tryz.lays161:Go.Proofs.Lays.n161 Tryz.prog Tryz.lays161_ren:={
 mixed:=by kernel_rfl
 f119:=Tryz.func287.trans (congrArg some (by kernel_rfl))
 f137:=Tryz.func119.trans (congrArg some (by kernel_rfl))
 f151:=Tryz.func258.trans (congrArg some (by kernel_rfl))
 f152:=Tryz.func282.trans (congrArg some (by kernel_rfl))
 f161:=Tryz.func169.trans (congrArg some (by kernel_rfl))
 f197:=Tryz.func192.trans (congrArg some (by kernel_rfl))
 f217:=Tryz.func166.trans (congrArg some (by kernel_rfl))
 f224:=Tryz.func260.trans (congrArg some (by kernel_rfl))
 f225:=Tryz.func259.trans (congrArg some (by kernel_rfl))
 f227:=Tryz.func216.trans (congrArg some (by kernel_rfl))
 f228:=Tryz.func257.trans (congrArg some (by kernel_rfl))
 f231:=Tryz.func215.trans (congrArg some (by kernel_rfl))
 f233:=Tryz.func217.trans (congrArg some (by kernel_rfl))
 f235:=Tryz.func218.trans (congrArg some (by kernel_rfl))
 f260:=Tryz.func240.trans (congrArg some (by kernel_rfl))
 f266:=Tryz.func212.trans (congrArg some (by kernel_rfl))
 t0:=Tryz.underlying0
 a0:=Tryz.isAgg0
 z0:=Tryz.sizeOf0
 v0:=Tryz.zeroValue0
 t3:=Tryz.underlying3
 a3:=Tryz.isAgg3
 z3:=Tryz.sizeOf3
 v3:=Tryz.zeroValue3
 t4:=Tryz.underlying4
 a4:=Tryz.isAgg4
 z4:=Tryz.sizeOf4
 v4:=Tryz.zeroValue4
 t5:=Tryz.underlying5
 a5:=Tryz.isAgg5
 z5:=Tryz.sizeOf5
 v5:=Tryz.zeroValue5
 t9:=Tryz.underlying9
 a9:=Tryz.isAgg9
 z9:=Tryz.sizeOf9
 v9:=Tryz.zeroValue9
 t21:=Tryz.underlying21
 a21:=Tryz.isAgg21
 z21:=Tryz.sizeOf21
 v21:=Tryz.zeroValue21
 t46:=Tryz.underlying61
 a46:=Tryz.isAgg61
 z46:=Tryz.sizeOf61
 v46:=Tryz.zeroValue61
 t105:=Tryz.underlying300
 a105:=Tryz.isAgg300
 z105:=Tryz.sizeOf300
 v105:=Tryz.zeroValue300
 t116:=Tryz.underlying332
 a116:=Tryz.isAgg332
 z116:=Tryz.sizeOf332
 t117:=Tryz.underlying333
 a117:=Tryz.isAgg333
 z117:=Tryz.sizeOf333
 v117:=Tryz.zeroValue333
 t119:=Tryz.underlying387
 a119:=Tryz.isAgg387
 z119:=Tryz.sizeOf387
 t124:=Tryz.underlying336
 a124:=Tryz.isAgg336
 z124:=Tryz.sizeOf336
 v124:=Tryz.zeroValue336
 t138:=Tryz.underlying389
 a138:=Tryz.isAgg389
 z138:=Tryz.sizeOf389
 v138:=Tryz.zeroValue389
 t139:=Tryz.underlying390
 a139:=Tryz.isAgg390
 z139:=Tryz.sizeOf390
 v139:=Tryz.zeroValue390
 g3:=by kernel_rfl
 g4:=by kernel_rfl }
end Go.Proofs
namespace Go.Proofs.YtojgbcmhdnappaaGreatDoor
def spW (c:UInt8):List UInt8→List (List UInt8)
 | []=>[[]]
 | b :: l=>if b=c then [] :: spW c l else match spW c l with
  | []=>[[b]]
  | x :: r=>(b :: x) :: r
theorem spW_app {c:UInt8}:∀ {x:List UInt8} (l:List UInt8),c∉x→spW c (x++c :: l)=x :: spW c l
 | [],l,_=>by simp [spW]
 | b :: x,l,h=>by
  have hb:b≠c:=fun e=>h (by simp [e])
  have ih:=spW_app (x:=x) l (fun e=>h (List.mem_cons_of_mem _ e))
  rw [List.cons_append,spW,if_neg hb,ih]
theorem spW_one {c:UInt8}:∀ {x:List UInt8},c∉x→spW c x=[x]
 | [],_=>rfl
 | b :: x,h=>by
  have hb:b≠c:=fun e=>h (by simp [e])
  rw [spW,if_neg hb,spW_one (x:=x) (fun e=>h (List.mem_cons_of_mem _ e))]
theorem split_spW (c:UInt8):∀ (k:Nat) (l:List UInt8),Lib.count l [c]=k→Lib.splitK [c] 0 k l=spW c l
 | 0,l,h=>by
  rw [Lib.count_one] at h
  have hc:c∉l:=List.count_eq_zero.1 h
  rw [spW_one hc]
  rfl
 | k+1,l,h=>by
  unfold Lib.splitK
  by_cases e:(Lib.index l [c] == -1)=true
  ·rw [Lib.count_miss (beq_iff_eq.1 e)] at h
   omega
  ·rw [if_neg e]
   have hge:=Lib.index_ge l [c]
   have hne:Lib.index l [c] ≠ -1:=fun e3=>e (beq_iff_eq.2 e3)
   obtain ⟨i,hi⟩:∃ i:Nat,Lib.index l [c]=(i:Int):=⟨(Lib.index l [c]).toNat,by omega⟩
   obtain ⟨h1,h2⟩:=byte_at c l i (by rw [←Lib.index_one];exact hi)
   have h3:=Lib.count_hit (sub:=[c]) (by simp) hi
   rw [show [c].length=1 from rfl] at h3
   have ih:=split_spW c k (l.drop (i+1)) (by omega)
   rw [hi,Int.toNat_natCast,Nat.add_zero,show [c].length=1 from rfl,ih]
   conv=>rhs;rw [h2]
   rw [spW_app _ h1]
theorem pcL_spW (c:UInt8) (s:ByteArray):pcL c s=spW c s.data.toList:=by
 rw [pcL_is]
 exact split_spW c _ _ rfl
theorem resW_blank (l:List UInt8) (a:Nat) (acc:List (Nat×Nat)) (sm:Bool):resW (spW 32 (32 :: l)) a acc sm=resW (spW 32 l) (a+1) acc sm:=by
 rw [spW,if_pos rfl,resW_empty]
theorem resW_end (a:Nat) (acc:List (Nat×Nat)) (sm:Bool):resW (spW 32 []) a acc sm=.inr (acc,sm):=by
 rw [spW,resW_empty,resW_nil]
theorem resW_fault {x:List UInt8} (l:List UInt8) (a:Nat) (acc:List (Nat×Nat)) (sm:Bool) (hx:32∉x) (h0:x≠[]) (hl:l=[]∨∃ r,l=32 :: r) (he:wordE x≠0):resW (spW 32 (x++l)) a acc sm=.inl (wordE x,a):=by
 rcases hl with rfl | ⟨r,rfl⟩
 ·rw [List.append_nil,spW_one hx,resW_bad _ _ _ _ h0 he]
 ·rw [spW_app r hx,resW_bad _ _ _ _ h0 he]
theorem resW_word {x:List UInt8} (l:List UInt8) (a:Nat) (acc:List (Nat×Nat)) (sm:Bool) (hx:32∉x) (h0:x≠[]) (hl:l=[]∨∃ r,l=32 :: r) (he:wordE x=0):resW (spW 32 (x++l)) a acc sm=resW (spW 32 l) (a+x.length) (andC acc (wordC x)) true:=by
 rcases hl with rfl | ⟨r,rfl⟩
 ·rw [List.append_nil,spW_one hx,resW_good _ _ _ _ h0 he,resW_nil,resW_end]
 ·rw [spW_app r hx,resW_good _ _ _ _ h0 he,resW_blank]
end Go.Proofs.YtojgbcmhdnappaaGreatDoor
namespace Go.Proofs.YtojgbcmhdnappaaGreatDoor
open Go.RowKit
structure StrR (w:World) (b:Nat) (ws:List ByteArray):Prop where
 lt:b<w.heap.size
 at_:∀ j,j<ws.length→w.cell? ⟨b,j,none⟩=some (.string (ws.getD j ⟨#[]⟩))
theorem StrR.below {w w':World} {b:Nat} {ws:List ByteArray} (h:StrR w b ws) (hb:Below w.heap.size w w'):StrR w' b ws :=
 ⟨Nat.lt_of_lt_of_le h.lt hb.size,fun j hj=>(hb.cell (p:=⟨b,j,none⟩) h.lt).trans (h.at_ j hj)⟩
theorem strR_blk {w:World} {b:Nat} {ws:List ByteArray} (h:Blk w b 9 (ws.map Value.string).toArray):StrR w b ws:=by
 refine ⟨h.lt,fun j hj=>(h.cell j).trans ?_⟩
 rw [List.getElem?_toArray,List.getElem?_map,List.getD_eq_getElem?_getD,List.getElem?_eq_getElem hj]
 rfl
def SplP (ws:List ByteArray) (w:World) (e:Ending) (w':World):Prop:=e=.returned (.slice (some ⟨w.heap.size,0,none⟩) ws.length ws.length)∧StrR w' w.heap.size ws∧Below w.heap.size w w'
theorem splitAt_any (s sep:ByteArray) (w:World) (hG:GlobV w) (hs:s.size≤21000) (h1:1≤sep.size):Calls Tryz.prog 90 #[.string s,.string sep] w (SplP (Lib.splitB sep 0 (Lib.countB s sep) s) w):=by
 obtain ⟨m,hm⟩:=hG.mx
 refine (Tryz.strings_Split s sep m w (by omega) hm h1).mono ?_
 rintro e w' ⟨rfl,rfl⟩
 have hl:(Lib.splitB sep 0 (Lib.countB s sep) s).length=Lib.countB s sep+1:=Lib.splitB_all sep h1 0 _ s rfl
 exact ⟨by rw [hl],strR_blk (Blk.new w 9 _),(Below.refl _ _).alloc (Nat.le_refl _) _⟩
theorem bars_any (s:ByteArray) (w:World) (hG:GlobV w) (hs:s.size≤21000):Calls Tryz.prog 90 #[.string s,.string ⟨#[124,124]⟩] w (SplP (barL s) w):=splitAt_any s ⟨#[124,124]⟩ w hG hs (by decide)
theorem blanks_any (s:ByteArray) (w:World) (hG:GlobV w) (hs:s.size≤21000):Calls Tryz.prog 90 #[.string s,.string ⟨#[32]⟩] w (SplP (pcs 32 s) w):=splitAt_any s ⟨#[32]⟩ w hG hs (by decide)
theorem bar_le {s p:ByteArray} (h:p∈barL s):p.size≤s.size:=piece_size _ _ s p h
end Go.Proofs.YtojgbcmhdnappaaGreatDoor
namespace Go.Proofs.YtojgbcmhdnappaaGreatDoor
theorem num_le {f:Nat→Int} (h:∀ j,j<3→0≤f j∧f j≤999):numV3 f+1≤endR∧caretN f≤endR∧tildeN f≤endR:=by
 have h0:=h 0 (by omega)
 have h1:=h 1 (by omega)
 have h2:=h 2 (by omega)
 unfold endR
 refine ⟨?_,?_,?_⟩
 ·unfold numV3
  omega
 ·unfold caretN
  repeat' split
  all_goals omega
 ·unfold tildeN
  omega
theorem opC_can (k:Nat) {f:Nat→Int} (h:∀ j,j<3→0≤f j∧f j≤999):CanF 0 (opC k f):=by
 obtain ⟨hn,hc,ht⟩:=num_le h
 unfold opC
 split
 ·exact row_can hn
 ·split
  ·exact (not_spec (row_can hn)).1
  ·split
   ·exact row_can (by omega)
   ·split
    ·exact row_can hn
    ·split
     ·exact row_can (Nat.le_refl _)
     ·split
      ·exact row_can (Nat.le_refl _)
      ·split
       ·exact row_can ht
       ·exact row_can hc
theorem wordC_can {s:List UInt8} (h:wordE s=0):CanF 0 (wordC s):=by
 unfold wordC
 by_cases h1:s=anyW
 ·rw [if_pos h1];exact any_can
 ·rw [if_neg h1]
  by_cases h2:s=noneW
  ·rw [if_pos h2];trivial
  ·rw [if_neg h2]
   have hv:verE (baL (restL s))=0:=by
    unfold wordE at h
    rw [if_neg (fun h=>h.elim h1 h2)] at h
    by_cases e:verE (baL (restL s))=0
    ·exact e
    ·rw [if_pos e] at h;exact absurd h e
   exact opC_can _ (verV_le hv)
end Go.Proofs.YtojgbcmhdnappaaGreatDoor
