/-
  A part of the proof: VerB. Conditions: none.
-/
import Derived.Test.YtojgbcmhdnappaaGreatDoorAlPcs
import Derived.Test.YtojgbcmhdnappaaGreatDoorAlVerLay
import Derived.Test.YtojgbcmhdnappaaGreatDoorAlAt
import Derived.Lib.SmallJoins
namespace Go.Proofs.YtojgbcmhdnappaaGreatDoor
open Go.RowKit
structure GlobV (w:World):Prop where
 e:GlobE w
 t:GlobT w
 mx:∃ m,w.cell? ⟨5,0,none⟩=some (.int .i64 m)
 syn:∃ tp p,w.cell? ⟨8,0,none⟩=some (.iface tp p)
 rng:∃ tp p,w.cell? ⟨9,0,none⟩=some (.iface tp p)
theorem GlobV.below {w w':World} (h:GlobV w) (hb:Below w.heap.size w w'):GlobV w':=by
 obtain ⟨m,hm⟩:=h.mx
 obtain ⟨t1,p1,h1⟩:=h.syn
 obtain ⟨t2,p2,h2⟩:=h.rng
 exact ⟨h.e.below hb,h.t.below hb,⟨m,(hb.cell (lt_of_cell hm)).trans hm⟩,⟨t1,p1,(hb.cell (lt_of_cell h1)).trans h1⟩,⟨t2,p2,(hb.cell (lt_of_cell h2)).trans h2⟩⟩
def ReadP (l:List UInt8) (w:World) (e:Ending) (w':World):Prop :=
 ((∃ v,Lib.atoiAll l=.ok v∧I64 v∧e=.returned (.tuple #[.int .i64 v,.nilIface]))∨(numF l=none∧∃ x t p,e=.returned (.tuple #[.int .i64 x,.iface t p])))∧Below w.heap.size w w'
theorem no_num {l:List UInt8} {r:Lib.NumEnd Int} (h:¬∃ v,Lib.atoiAll l=.ok v) (h3:Lib.atoiAll l≠.range) (hr:∀ v,r≠.ok v:=by intro v e;cases e) (hr3:r≠.range:=by intro e;cases e):Lib.atoiAll l=r:=by
 generalize Lib.atoiAll l=q at h h3
 cases q with
 | ok v=>exact absurd ⟨v,rfl⟩ h
 | range=>exact absurd rfl h3
 | _ =>
  cases r with
  | ok v=>exact absurd rfl (hr v)
  | range=>exact absurd rfl hr3
  | _=>rfl
theorem numF_no {l:List UInt8} (h:¬∃ v,Lib.atoiAll l=.ok v):numF l=none:=by
 unfold numF
 split
 ·rename_i v e
  exact absurd ⟨v,e⟩ h
 ·rfl
theorem i64_atoi {l:List UInt8} {v:Int} (h:Lib.atoiAll l=.ok v):I64 v:=by
 rw [←Lib.parseIntB_64] at h
 have:=Lib.parseIntB_bounds h
 rw [show (2:Nat) ^ (64-1)=9223372036854775808 by decide] at this
 unfold I64;omega
theorem atoi_any (s:ByteArray) (w:World) (hG:GlobV w) (hs:s.size≤21000):Calls Tryz.prog 176 #[.string s] w (ReadP s.data.toList w):=by
 obtain ⟨t1,p1,h1⟩:=hG.syn
 obtain ⟨t2,p2,h2⟩:=hG.rng
 by_cases h:∃ v,Lib.atoiAll s.data.toList=.ok v
 ·obtain ⟨v,h⟩:=h
  refine (Tryz.strconv_Atoi_ok s (by omega) v h w).mono ?_
  rintro e w' ⟨rfl,hw⟩
  refine ⟨.inl ⟨v,h,i64_atoi h,rfl⟩,?_⟩
  rcases hw with rfl | ⟨t,rfl⟩
  ·exact Below.refl _ _
  ·exact Lib.bytesWorld_below _ _ _
 ·by_cases h3:Lib.atoiAll s.data.toList=.range
  ·refine (Tryz.strconv_Atoi_range s (by omega) h3 _ w h2 (.inr ⟨_,_,rfl⟩)).mono ?_
   rintro e w' ⟨N,rfl,_,_,hb⟩
   exact ⟨.inr ⟨numF_range h3,_,_,_,rfl⟩,hb⟩
  ·refine (Any.strconv_Atoi_syntax Tryz.laysC172 s (by omega) (no_num h h3) _ w h1 (.inr ⟨_,_,rfl⟩)).mono ?_
   rintro e w' ⟨N,rfl,_,_,hb⟩
   exact ⟨.inr ⟨numF_no h,_,_,_,rfl⟩,hb⟩
theorem parseInt_any (s:ByteArray) (w:World) (hG:GlobV w) (hs:s.size≤21000):Calls Tryz.prog 167 #[.string s,.int .i64 10,.int .i64 64] w (ReadP s.data.toList w):=by
 obtain ⟨t1,p1,h1⟩:=hG.syn
 obtain ⟨t2,p2,h2⟩:=hG.rng
 by_cases h:∃ v,Lib.atoiAll s.data.toList=.ok v
 ·obtain ⟨v,h⟩:=h
  refine (Tryz.strconv_ParseInt_10_at64_ok s (by omega) v (by rw [Lib.parseIntB_64];exact h) w).mono ?_
  rintro e w' ⟨rfl,hw⟩
  refine ⟨.inl ⟨v,h,i64_atoi h,rfl⟩,?_⟩
  rcases hw with rfl | ⟨t,rfl⟩
  ·exact Below.refl _ _
  ·exact Lib.bytesWorld_below _ _ _
 ·by_cases h3:Lib.atoiAll s.data.toList=.range
  ·refine (Tryz.strconv_ParseInt_10_at64_range s (by omega) (by rw [Lib.parseIntB_64];exact h3) _ w h2 (.inr ⟨_,_,rfl⟩)).mono ?_
   rintro e w' ⟨N,rfl,_,_,hb⟩
   exact ⟨.inr ⟨numF_range h3,_,_,_,rfl⟩,hb⟩
  ·refine (Any.strconv_ParseInt_10_at64_syntax Tryz.laysC174 s (by omega) (by rw [Lib.parseIntB_64];exact no_num h h3) _ w h1 (.inr ⟨_,_,rfl⟩)).mono ?_
   rintro e w' ⟨N,rfl,_,_,hb⟩
   exact ⟨.inr ⟨numF_no h,_,_,_,rfl⟩,hb⟩
def TextP (n:Int) (w:World) (e:Ending) (w':World):Prop:=e=.returned (.string ⟨(Lib.itoa n).toArray⟩)∧Below w.heap.size w w'
theorem itoa_any (n:Int) (w:World) (hG:GlobT w) (hn:I64 n):Calls Tryz.prog 64 #[.int .i64 n] w (TextP n w):=by
 refine (Tryz.strconv_Itoa n hn.1 hn.2 w hG.tab).mono ?_
 rintro e w' ⟨rfl,kk,os,rfl⟩
 exact ⟨rfl,Lib.below_grow w.heap.size w (Nat.le_refl _) kk os⟩
theorem formatInt_any (n:Int) (w:World) (hG:GlobT w) (hn:I64 n):Calls Tryz.prog 168 #[.int .i64 n,.int .i64 10] w (TextP n w):=by
 refine (Tryz.strconv_FormatInt_10 n hn.1 hn.2 w hG.tab).mono ?_
 rintro e w' ⟨rfl,kk,os,rfl⟩
 exact ⟨rfl,Lib.below_grow w.heap.size w (Nat.le_refl _) kk os⟩
end Go.Proofs.YtojgbcmhdnappaaGreatDoor
namespace Go.Proofs.YtojgbcmhdnappaaGreatDoor
open Go.RowKit
def dotL (s:ByteArray):List ByteArray:=Lib.splitB ⟨#[46]⟩ 0 (Lib.countB s ⟨#[46]⟩) s
theorem dot_len (s:ByteArray):(dotL s).length=Lib.countB s ⟨#[46]⟩+1:=Lib.splitB_all ⟨#[46]⟩ (by decide) 0 _ s rfl
theorem piece_size (sep:ByteArray):∀ (k:Nat) (s p:ByteArray),p∈Lib.splitB sep 0 k s→p.size≤s.size
 | 0,s,p,h=>by rw [Lib.splitB_zero] at h;rw [List.mem_singleton.1 h];exact Nat.le_refl _
 | k+1,s,p,h=>by
  rw [Lib.splitB] at h
  split at h
  ·rw [List.mem_singleton.1 h];exact Nat.le_refl _
  ·rcases List.mem_cons.1 h with e | e
   ·rw [e,ByteArray.size_extract];omega
   ·have:=piece_size sep k _ p e
    rw [ByteArray.size_extract] at this
    omega
theorem dot_size {s p:ByteArray} (h:p∈dotL s):p.size≤s.size:=piece_size _ _ s p h
def dotP (s:ByteArray) (j:Nat):ByteArray:=(dotL s).getD j ⟨#[]⟩
def dotB (s:ByteArray) (j:Nat):List UInt8:=(dotP s j).data.toList
theorem dotP_size (s:ByteArray) (j:Nat):(dotP s j).size≤s.size:=by
 unfold dotP
 rcases Nat.lt_or_ge j (dotL s).length with h | h
 ·rw [List.getD_eq_getElem?_getD,List.getElem?_eq_getElem h]
  exact dot_size (List.getElem_mem h)
 ·rw [List.getD_eq_getElem?_getD,List.getElem?_eq_none h]
  exact Nat.zero_le _
def verE (s:ByteArray):Int :=
 if (dotL s).length=3 then if partE (dotB s 0)=0 then if partE (dotB s 1)=0 then partE (dotB s 2) else partE (dotB s 1) else partE (dotB s 0) else 3
def verV (s:ByteArray) (j:Nat):Int:=if verE s=0 then partV (dotB s j) else 0
theorem partE_cases (l:List UInt8):partE l=0∨partE l=2∨partE l=3:=by
 unfold partE
 split
 ·split
  ·exact .inr (.inr rfl)
  ·split
   ·exact .inr (.inl rfl)
   ·exact .inl rfl
 ·exact .inr (.inr rfl)
theorem verE_cases (s:ByteArray):verE s=0∨verE s=2∨verE s=3:=by
 unfold verE
 repeat' split
 all_goals first | exact .inr (.inr rfl) | exact partE_cases _
def okTo (s:ByteArray) (i:Nat):Prop:=∀ j,j<i→partE (dotB s j)=0
theorem verE_len {s:ByteArray} (h:(dotL s).length≠3):verE s=3:=by unfold verE;rw [if_neg h]
theorem verE_at {s:ByteArray} {i:Nat} (hl:(dotL s).length=3) (hi:i<3) (h:okTo s i) (hne:partE (dotB s i)≠0):verE s=partE (dotB s i):=by
 unfold verE
 rw [if_pos hl]
 rcases (show i=0∨i=1∨i=2 by omega) with rfl | rfl | rfl
 ·rw [if_neg hne]
 ·rw [if_pos (h 0 (by omega)),if_neg hne]
 ·rw [if_pos (h 0 (by omega)),if_pos (h 1 (by omega))]
theorem verE_ok {s:ByteArray} (hl:(dotL s).length=3) (h:okTo s 3):verE s=0:=by
 unfold verE
 rw [if_pos hl,if_pos (h 0 (by omega)),if_pos (h 1 (by omega)),h 2 (by omega)]
theorem verV_no {s:ByteArray} (h:verE s≠0) (j:Nat):verV s j=0:=by unfold verV;rw [if_neg h]
theorem verV_ok {s:ByteArray} (h:verE s=0) (j:Nat):verV s j=partV (dotB s j):=by unfold verV;rw [if_pos h]
def valI (s:ByteArray) (i j:Nat):Int:=if j<i then partV (dotB s j) else 0
def verArr (f:Nat→Int):Array Value:=#[.int .i64 (f 0),.int .i64 (f 1),.int .i64 (f 2)]
theorem verArr_set (s:ByteArray) {i:Nat} (hi:i<3):(verArr (valI s i)).setIfInBounds i (.int .i64 (partV (dotB s i)))=verArr (valI s (i+1)):=by
 rcases (show i=0∨i=1∨i=2 by omega) with rfl | rfl | rfl <;> simp [verArr,valI]
theorem verArr_end {s:ByteArray} (h:verE s=0):verArr (valI s 3)=verArr (verV s):=by simp [verArr,valI,verV_ok h]
theorem verArr_no {s:ByteArray} (h:verE s≠0):verArr (verV s)=verArr fun _=>0:=by simp [verArr,verV_no h]
theorem partE_none {l:List UInt8} (h:numF l=none):partE l=3:=by unfold partE;rw [h]
theorem partE_neg {l:List UInt8} {v:Int} (h:numF l=some v) (hv:v<0):partE l=3:=by unfold partE;rw [h];simp only;rw [if_pos hv]
theorem partE_big {l:List UInt8} {v:Int} (h:numF l=some v) (h0:¬v<0) (hv:999<v):partE l=2:=by unfold partE;rw [h];simp only;rw [if_neg h0,if_pos hv]
theorem partE_fine {l:List UInt8} {v:Int} (h:numF l=some v) (h0:¬v<0) (hv:¬999<v):partE l=0∧partV l=v:=by unfold partE partV;rw [h];simp only;rw [if_neg h0,if_neg hv];exact ⟨rfl,rfl⟩
def SplitP (s:ByteArray) (w:World) (e:Ending) (w':World):Prop :=
 e=.returned (.slice (some ⟨w.heap.size,0,none⟩) (dotL s).length (dotL s).length)∧(∀ j,j<(dotL s).length→w'.cell? ⟨w.heap.size,j,none⟩=some (.string (dotP s j)))∧w.heap.size<w'.heap.size∧Below w.heap.size w w'
theorem split_any (s:ByteArray) (w:World) (hG:GlobV w) (hs:s.size≤21000):Calls Tryz.prog 90 #[.string s,.string ⟨#[46]⟩] w (SplitP s w):=by
 obtain ⟨m,hm⟩:=hG.mx
 refine (Tryz.strings_Split s ⟨#[46]⟩ m w (by omega) hm (by decide)).mono ?_
 rintro e w' ⟨rfl,rfl⟩
 refine ⟨by rw [dot_len],fun j hj=>?_,by simp,(Below.refl _ _).alloc (Nat.le_refl _) _⟩
 have h1:=(Blk.new w 9 ((dotL s).map Value.string).toArray).cell j
 refine h1.trans ?_
 unfold dotP
 rw [List.getElem?_toArray,List.getElem?_map,List.getD_eq_getElem?_getD,List.getElem?_eq_getElem hj]
 rfl
def NumP (l:List UInt8) (w:World) (e:Ending) (w':World):Prop:=e=.returned (.tuple #[.int .i64 ((numF l).getD 0),.bool (numF l).isSome])∧Below w.heap.size w w'
theorem bytes_back (l:List UInt8) (s:ByteArray) (h:l=s.data.toList):(⟨l.toArray⟩:ByteArray)=s:=by subst h;rfl
theorem bytes_bne {l:List UInt8} {s:ByteArray} (h:l≠s.data.toList):((⟨l.toArray⟩:ByteArray).toList==s.toList)=false:=by
 rw [ByteArray.toList_eq,ByteArray.toList_eq]
 exact beq_eq_false_iff_ne.2 fun e=>h (by simpa using e)
set_option maxHeartbeats 1000000 in
theorem number_any (s:ByteArray) (w:World) (hG:GlobV w) (hs:s.size≤21000):Calls Tryz.prog 120 #[.string s] w (NumP s.data.toList w):=by
 have HR:=hide (parseInt_any s w hG hs)
 have HG:=hide hG
 clear hG
 go_enter Tryz.func120,Tryz.ntmps120
 go_wp2_with fail
 refine (HR.out).mono ?_
 rintro e w1 ⟨⟨v,hok,hv,rfl⟩ | ⟨hn,x,t,p,rfl⟩,hb⟩
 ·have HT:=hide (formatInt_any v w1 (HG.out.below hb).t hv)
  have HB:=hide hb
  unfold TextP at HT
  by_cases he:Lib.itoa v=s.data.toList
  ·have HN:=Lib.hid (show numF s.data.toList=some v by rw [numF_ok hok,if_pos he])
   rw [bytes_back _ _ he] at HT
   clear hb hok he
   go_wp2_with fail
   refine (HT.out).mono ?_
   rintro e w2 ⟨rfl,hb2⟩
   have HB2:=hide (HB.out.trans (hb2.mono HB.out.size))
   have hss:(s.toList==s.toList)=true:=by simp
   have hsn:(!(s.toList==s.toList))=false:=by simp
   clear hb2
   go_wp2
   go_ret2
   exact ⟨by rw [HN.out];first | rfl | (rw [show IntKind.i64.wrap v=v from IntKind.wrap_i64_of_range hv.1 hv.2];rfl),HB2.out⟩
  ·have HN:=Lib.hid (show numF s.data.toList=none by rw [numF_ok hok,if_neg he])
   have hq:=bytes_bne he
   generalize (⟨(Lib.itoa v).toArray⟩:ByteArray)=q at HT hq
   have hqn:(!(q.toList==s.toList))=true:=by rw [hq];rfl
   clear hb hok he
   go_wp2_with fail
   refine (HT.out).mono ?_
   rintro e w2 ⟨rfl,hb2⟩
   have HB2:=hide (HB.out.trans (hb2.mono HB.out.size))
   clear hb2
   go_wp2
   go_ret2
   exact ⟨by rw [HN.out];rfl,HB2.out⟩
 ·have HN:=Lib.hid hn
  have HB:=hide hb
  clear hn hb
  go_wp2
  go_ret2
  exact ⟨by rw [HN.out];rfl,HB.out⟩
end Go.Proofs.YtojgbcmhdnappaaGreatDoor
