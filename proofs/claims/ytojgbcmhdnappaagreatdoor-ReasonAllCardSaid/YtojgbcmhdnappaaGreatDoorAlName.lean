/-
  A part of the proof: TrimLay, Name. Conditions: none.
-/
import Derived.Shelf.Strings.SlTrimAscii
import Derived.Test.YtojgbcmhdnappaaGreatDoorProg
import Derived.Test.YtojgbcmhdnappaaGreatDoorAlAt
namespace Go.Proofs
open Go.Shelf
def Tryz.lays160_ren:Go.Shelf.Ren:=⟨fun | 160=>226 | 232=>267 | 231=>215 | 227=>216 | 234=>268 | 233=>217 | 236=>269 | 235=>218 | 228=>257 | 271=>285 | 151=>258 | 197=>192 | 120=>296 | 152=>282 | 260=>240 | 137=>119 | 119=>287 | 224=>260 | 225=>259 | 217=>166 | 266=>212 | n=>n,fun | 9=>9 | 4=>4 | 3=>3 | 5=>5 | 117=>333 | 116=>332 | 0=>0 | 124=>336 | 21=>21 | 105=>300 | 46=>61 | 119=>387 | 139=>390 | 138=>389 | n=>n,fun | 3=>6 | 4=>7 | n=>n⟩
theorem Tryz.lays160:Go.Proofs.Lays.n160 Tryz.prog Tryz.lays160_ren:={
 mixed:=by kernel_rfl
 f119:=Tryz.func287.trans (congrArg some (by kernel_rfl))
 f120:=Tryz.func296.trans (congrArg some (by kernel_rfl))
 f137:=Tryz.func119.trans (congrArg some (by kernel_rfl))
 f151:=Tryz.func258.trans (congrArg some (by kernel_rfl))
 f152:=Tryz.func282.trans (congrArg some (by kernel_rfl))
 f160:=Tryz.func226.trans (congrArg some (by kernel_rfl))
 f197:=Tryz.func192.trans (congrArg some (by kernel_rfl))
 f217:=Tryz.func166.trans (congrArg some (by kernel_rfl))
 f224:=Tryz.func260.trans (congrArg some (by kernel_rfl))
 f225:=Tryz.func259.trans (congrArg some (by kernel_rfl))
 f227:=Tryz.func216.trans (congrArg some (by kernel_rfl))
 f228:=Tryz.func257.trans (congrArg some (by kernel_rfl))
 f231:=Tryz.func215.trans (congrArg some (by kernel_rfl))
 f232:=Tryz.func267.trans (congrArg some (by kernel_rfl))
 f233:=Tryz.func217.trans (congrArg some (by kernel_rfl))
 f234:=Tryz.func268.trans (congrArg some (by kernel_rfl))
 f235:=Tryz.func218.trans (congrArg some (by kernel_rfl))
 f236:=Tryz.func269.trans (congrArg some (by kernel_rfl))
 f260:=Tryz.func240.trans (congrArg some (by kernel_rfl))
 f266:=Tryz.func212.trans (congrArg some (by kernel_rfl))
 f271:=Tryz.func285.trans (congrArg some (by kernel_rfl))
 t0:=Tryz.underlying0
 a0:=Tryz.isAgg0
 z0:=Tryz.sizeOf0
 v0:=Tryz.zeroValue0
 t3:=Tryz.underlying3
 a3:=Tryz.isAgg3
 z3:=Tryz.sizeOf3
 v3:=Tryz.zeroValue3
 t4:=Tryz.underlying4
 a4:=Tryz.isAgg4
 z4:=Tryz.sizeOf4
 v4:=Tryz.zeroValue4
 t5:=Tryz.underlying5
 a5:=Tryz.isAgg5
 z5:=Tryz.sizeOf5
 v5:=Tryz.zeroValue5
 t9:=Tryz.underlying9
 a9:=Tryz.isAgg9
 z9:=Tryz.sizeOf9
 v9:=Tryz.zeroValue9
 t21:=Tryz.underlying21
 a21:=Tryz.isAgg21
 z21:=Tryz.sizeOf21
 v21:=Tryz.zeroValue21
 t46:=Tryz.underlying61
 a46:=Tryz.isAgg61
 z46:=Tryz.sizeOf61
 v46:=Tryz.zeroValue61
 t105:=Tryz.underlying300
 a105:=Tryz.isAgg300
 z105:=Tryz.sizeOf300
 v105:=Tryz.zeroValue300
 t116:=Tryz.underlying332
 a116:=Tryz.isAgg332
 z116:=Tryz.sizeOf332
 t117:=Tryz.underlying333
 a117:=Tryz.isAgg333
 z117:=Tryz.sizeOf333
 v117:=Tryz.zeroValue333
 t119:=Tryz.underlying387
 a119:=Tryz.isAgg387
 z119:=Tryz.sizeOf387
 t124:=Tryz.underlying336
 a124:=Tryz.isAgg336
 z124:=Tryz.sizeOf336
 v124:=Tryz.zeroValue336
 t138:=Tryz.underlying389
 a138:=Tryz.isAgg389
 z138:=Tryz.sizeOf389
 v138:=Tryz.zeroValue389
 t139:=Tryz.underlying390
 a139:=Tryz.isAgg390
 z139:=Tryz.sizeOf390
 v139:=Tryz.zeroValue390
 g3:=by kernel_rfl
 g4:=by kernel_rfl }
end Go.Proofs
namespace Go.Proofs.YtojgbcmhdnappaaGreatDoor
open Go.RowKit Go.Shelf Go.Lib
def charOk (c:UInt8):Bool:=decide ((97≤c.toNat∧c.toNat≤122)∨(48≤c.toNat∧c.toNat≤57)∨c.toNat=45)
def theCut:List UInt8:=[97,98,99,100,101,102,103,104,105,106,107,108,109,110,111,112,113,114,115,116,117,118,119,120,121,122,48,49,50,51,52,53,54,55,56,57,45]
structure NameOk (s:ByteArray):Prop where
 pos:0<s.size
 few:s.size≤12
 low:97≤(s.data.toList.getD 0 0).toNat
 top:(s.data.toList.getD 0 0).toNat≤122
 all:∀ c∈s.data.toList,charOk c=true
 any:s.toList≠[97,110,121]
 none:s.toList≠[110,111,110,101]
open Classical in
noncomputable def nameB (s:ByteArray):Bool:=decide (NameOk s)
theorem nameB_f {s:ByteArray} (h:¬NameOk s):false=nameB s:=by unfold nameB;simp [h]
theorem nameB_t {s:ByteArray} (h:NameOk s):true=nameB s:=by unfold nameB;simp [h]
theorem size_len (s:ByteArray):s.data.toList.length=s.size:=rfl
theorem first_byte (s:ByteArray) (h:0<s.size):s[0]'h=s.data.toList.getD 0 0:=by
 have:0<s.data.toList.length:=by rw [size_len];exact h
 rw [List.getD_eq_getElem?_getD,List.getElem?_eq_getElem this]
 rfl
theorem cut_ok (c:UInt8):theCut.contains c=charOk c:=by
 have h:∀ n:Fin 256,theCut.contains (UInt8.ofNat n.val)=charOk (UInt8.ofNat n.val):=by decide +kernel
 have:=h ⟨c.toNat,c.toNat_lt⟩
 simpa using this
theorem nm_empty {s:ByteArray} (h:s.toList=[]):¬NameOk s:=fun k=>by
 have h0:=k.pos
 rw [toList_data] at h
 have:=congrArg List.length h
 rw [size_len,List.length_nil] at this
 omega
theorem nm_long {s:ByteArray} (h:(12:Int)<(s.size:Int)):¬NameOk s:=fun k=>by have:=k.few;omega
theorem nm_low {s:ByteArray} (h0:0<s.size) (h:((s[0]'h0).toNat:Int)<97):¬NameOk s:=fun k=>by
 have:=k.low
 rw [←first_byte s h0] at this
 omega
theorem nm_high {s:ByteArray} (h0:0<s.size) (h:(122:Int)<((s[0]'h0).toNat:Int)):¬NameOk s:=fun k=>by
 have:=k.top
 rw [←first_byte s h0] at this
 omega
theorem nm_any {s:ByteArray} (h:s.toList=[97,110,121]):¬NameOk s:=fun k=>k.any h
theorem nm_none {s:ByteArray} (h:s.toList=[110,111,110,101]):¬NameOk s:=fun k=>k.none h
theorem drop_nil (p:UInt8→Bool):∀ l:List UInt8,l.dropWhile p=[]↔∀ c∈l,p c=true:=by
 intro l
 induction l with
 | nil=>simp
 | cons a l ih =>
  by_cases h:p a=true
  ·rw [List.dropWhile_cons_of_pos h,ih]
   simp [h]
  ·rw [List.dropWhile_cons_of_neg h]
   simp [h]
theorem drop_head (p:UInt8→Bool):∀ l:List UInt8,l.dropWhile p≠[]→∃ a∈l.dropWhile p,p a=false:=by
 intro l
 induction l with
 | nil=>intro h;exact absurd rfl h
 | cons a l ih =>
  intro h
  by_cases hp:p a=true
  ·rw [List.dropWhile_cons_of_pos hp] at h ⊢
   exact ih h
  ·rw [List.dropWhile_cons_of_neg hp]
   exact ⟨a,List.mem_cons_self ..,by simpa using hp⟩
theorem trim_nil (l:List UInt8):Lib.trimS l theCut=[]↔∀ c∈l,charOk c=true:=by
 unfold Lib.trimS Lib.trimLeftS Lib.trimRightS
 rw [drop_nil]
 constructor
 ·intro h
  by_cases hn:l.reverse.dropWhile (theCut.contains ·)=[]
  ·have:=(drop_nil _ _).1 hn
   intro c hc
   rw [←cut_ok]
   exact this c (List.mem_reverse.2 hc)
  ·obtain ⟨a,ha,hp⟩:=drop_head _ _ hn
   have:=h a (List.mem_reverse.2 ha)
   rw [hp] at this
   cases this
 ·intro h c hc
  have hm:c∈l:=by
   have:=List.mem_reverse.1 hc
   exact List.mem_reverse.1 ((List.dropWhile_sublist _).subset this)
  show theCut.contains c=true
  rw [cut_ok]
  exact h c hm
theorem nm_trim {s r:ByteArray} (hr:r.toList=[]↔∀ c∈s.data.toList,charOk c=true) (h:¬r.toList=[]):¬NameOk s:=fun k=>h (hr.2 k.all)
theorem nm_last {s:ByteArray} (h0:0<s.size) (hz:¬s.toList=[]) (h12:(s.size:Int)≤12) (h97:(97:Int)≤((s[0]'h0).toNat:Int)) (h122:((s[0]'h0).toNat:Int)≤122) (hall:∀ c∈s.data.toList,charOk c=true) (hna:¬s.toList=[97,110,121]) :
  (!s.toList.isEmpty&&!s.toList==[97,110,121]&&!s.toList==[110,111,110,101])=nameB s:=by
 have e1:s.toList.isEmpty=false:=by simpa using hz
 have e2:(s.toList==[97,110,121])=false:=by simpa using hna
 rw [e1,e2]
 by_cases hn:s.toList=[110,111,110,101]
 ·rw [show (s.toList==[110,111,110,101])=true by simpa using hn]
  exact nameB_f (nm_none hn)
 ·rw [show (s.toList==[110,111,110,101])=false by simpa using hn]
  exact nameB_t ⟨h0,by omega,by rw [←first_byte s h0];omega,by rw [←first_byte s h0];omega,hall,hna,hn⟩
set_option maxRecDepth 100000 in
set_option maxHeartbeats 1000000 in
theorem name_any (s:ByteArray) (w:World) (hs:s.size≤9223372036854775807) :
  Calls Tryz.prog 181 #[.string s] w (AtPost w (nameB s)):=by
 have hcon:=Any.strings_Trim_laid Tryz.lays160 (by kernel_rfl) s ⟨#[97,98,99,100,101,102,103,104,105,106,107,108,109,110,111,112,113,114,115,116,117,118,119,120,121,122,48,49,50,51,52,53,54,55,56,57,45]⟩ w hs (by decide) (ascii_of_all (by decide))
 change Calls Tryz.prog 226 _ _ (fun e w'=>e=.returned (.string ⟨(Lib.trimS s.data.toList theCut).toArray⟩)∧Below w.heap.size w w') at hcon
 obtain ⟨r,hr⟩:∃ r:ByteArray,r=⟨(Lib.trimS s.data.toList theCut).toArray⟩:=⟨_,rfl⟩
 rw [←hr] at hcon
 have HR:=Lib.hid (show r.toList=[]↔∀ c∈s.data.toList,charOk c=true by rw [toList_data,hr];simpa using trim_nil s.data.toList)
 clear hr
 by_cases hz:s.toList=[]
 ·go_enter Tryz.func181,Tryz.ntmps181
  go_wp2_with fail
  go_ret
  exact ⟨ret_bool (nameB_f (nm_empty hz)),Below.refl _ _⟩
 ·have hp:0<s.size:=by
   rcases Nat.eq_zero_or_pos s.size with h | h
   ·exfalso
    apply hz
    rw [toList_data]
    exact List.eq_nil_of_length_eq_zero (by rw [size_len];exact h)
   ·exact h
  go_enter Tryz.func181,Tryz.ntmps181
  go_wp2_with (go_at_call 226;refine hcon.mono ?_;rintro e w' ⟨rfl,hB⟩)
  all_goals
   go_ret
   first
    | exact ⟨ret_bool (nm_last hp hz ‹_› ‹_› ‹_› (HR.out.1 ‹_›) ‹_›),hB⟩
    | exact ⟨ret_bool (nameB_f (nm_any ‹_›)),hB⟩
    | exact ⟨ret_bool (nameB_f (nm_trim HR.out ‹_›)),hB⟩
    | exact ⟨ret_bool (nameB_f (nm_high hp ‹_›)),Below.refl _ _⟩
    | exact ⟨ret_bool (nameB_f (nm_low hp ‹_›)),Below.refl _ _⟩
    | exact ⟨ret_bool (nameB_f (nm_long ‹_›)),Below.refl _ _⟩
theorem all_take_bytes (l:List UInt8) (k:Nat) (c:UInt8) (hk:l[k]?=some c) (h:∀ x∈l.take k,charOk x=true) (hc:charOk c=true):∀ x∈l.take (k+1),charOk x=true:=by
 intro x hx
 rw [List.take_add_one,hk] at hx
 rcases List.mem_append.1 hx with hx | hx
 ·exact h x hx
 ·simp at hx;rw [hx];exact hc
theorem charOk_t {c:UInt8} (h:(97≤c.toNat∧c.toNat≤122)∨(48≤c.toNat∧c.toNat≤57)∨c.toNat=45):charOk c=true:=decide_eq_true h
theorem charOk_f {c:UInt8} (h:¬((97≤c.toNat∧c.toNat≤122)∨(48≤c.toNat∧c.toNat≤57)∨c.toNat=45)):charOk c=false:=decide_eq_false h
theorem nm_char {s:ByteArray} {k:Nat} {c:UInt8} (hk:s.data.toList[k]?=some c) (h:charOk c=false):¬NameOk s:=fun n=>by
 have:=n.all c (List.mem_of_getElem? hk)
 rw [h] at this
 cases this
set_option maxHeartbeats 2000000 in
theorem refName_any (s:ByteArray) (w:World) (hs:s.size≤9223372036854775807) :
  Calls Tryz.prog 130 #[.string s] w fun e w'=>e=.returned (.bool (nameB s))∧w=w':=by
 by_cases h1:s.size=0
 ·have hz:s.toList=[]:=by
   rw [toList_data]
   exact List.eq_nil_of_length_eq_zero (by rw [size_len];exact h1)
  have hz0:s.size<1:=by omega
  have HZ:=Lib.hid hz
  clear h1 hz
  go_enter Tryz.func130,Tryz.ntmps130
  go_wp2
  go_ret
  exact ⟨ret_bool (nameB_f (nm_empty HZ.out)),rfl⟩
 have hp:0<s.size:=by omega
 have hp1:1≤s.size:=hp
 clear h1
 by_cases h12:12<s.size
 ·go_enter Tryz.func130,Tryz.ntmps130
  go_wp2
  go_ret
  exact ⟨ret_bool (nameB_f (nm_long (by omega))),rfl⟩
 by_cases h97:((s[0]'hp).toNat:Int)<97
 ·go_enter Tryz.func130,Tryz.ntmps130
  go_wp2
  go_ret
  exact ⟨ret_bool (nameB_f (nm_low hp h97)),rfl⟩
 by_cases h122:(122:Int)<((s[0]'hp).toNat:Int)
 ·go_enter Tryz.func130,Tryz.ntmps130
  go_wp2
  go_ret
  exact ⟨ret_bool (nameB_f (nm_high hp h122)),rfl⟩
 by_cases ha:s.toList=[97,110,121]
 ·have ha':(s.toList==[97,110,121])=true:=by simpa using ha
  have HA:=Lib.hid ha
  clear ha
  go_enter Tryz.func130,Tryz.ntmps130
  go_wp2
  go_ret
  exact ⟨ret_bool (nameB_f (nm_any HA.out)),rfl⟩
 by_cases hn:s.toList=[110,111,110,101]
 ·have ha':(s.toList==[97,110,121])=false:=by simpa using ha
  have hn':(s.toList==[110,111,110,101])=true:=by simpa using hn
  have HN:=Lib.hid hn
  clear hn ha
  go_enter Tryz.func130,Tryz.ntmps130
  go_wp2
  go_ret
  exact ⟨ret_bool (nameB_f (nm_none HN.out)),rfl⟩
 have ha':(s.toList==[97,110,121])=false:=by simpa using ha
 have hn':(s.toList==[110,111,110,101])=false:=by simpa using hn
 have HA:=Lib.hid ha
 have HN:=Lib.hid hn
 clear ha hn
 go_enter Tryz.func130,Tryz.ntmps130
 go_wp2
 go_loop [3,4,33] (fun _ _ i=>∃ k:Nat,k≤s.size∧i=.int .i64 k∧Hid (∀ x∈s.data.toList.take k,charOk x=true)) (fun _ _ i=>s.size-(RowKit.intOf i).toNat)
 case atStart=>exact ⟨0,Nat.zero_le _,rfl,Lib.hid (by simp)⟩
 case round =>
  obtain ⟨k,hk,rfl,hd⟩:=hrel
  by_cases hlt:k<s.size
  ·have HB:=Lib.hid (show s.data.toList[k]?=some (s[k]'hlt) by
    have:k<s.data.toList.length:=by rw [size_len];exact hlt
    rw [List.getElem?_eq_getElem this];rfl)
   have hx:((s[k]'hlt).toNat:Int)<45∨(45≤((s[k]'hlt).toNat:Int)∧((s[k]'hlt).toNat:Int)≤45)∨(46≤((s[k]'hlt).toNat:Int)∧((s[k]'hlt).toNat:Int)≤47)∨(48≤((s[k]'hlt).toNat:Int)∧((s[k]'hlt).toNat:Int)≤57) ∨
     (58≤((s[k]'hlt).toNat:Int)∧((s[k]'hlt).toNat:Int)≤96)∨(97≤((s[k]'hlt).toNat:Int)∧((s[k]'hlt).toNat:Int)≤122)∨122<((s[k]'hlt).toNat:Int):=by omega
   rcases hx with hx | ⟨hx,hx'⟩ | ⟨hx,hx'⟩ | ⟨hx,hx'⟩ | ⟨hx,hx'⟩ | ⟨hx,hx'⟩ | hx
   ·have b45:(((s[k]'hlt).toNat:Int)==45)=false:=by simp;omega
    have n45:(!(((s[k]'hlt).toNat:Int)==45))=true:=by rw [b45];rfl
    have b97:decide ((97:Int)≤((s[k]'hlt).toNat:Int))=false:=by simp;omega
    have n97:(!decide ((97:Int)≤((s[k]'hlt).toNat:Int)))=true:=by rw [b97];rfl
    have b48:decide ((48:Int)≤((s[k]'hlt).toNat:Int))=false:=by simp;omega
    have n48:(!decide ((48:Int)≤((s[k]'hlt).toNat:Int)))=true:=by rw [b48];rfl
    have b122:decide (((s[k]'hlt).toNat:Int)≤122)=true:=by simp;omega
    have n122:(!decide (((s[k]'hlt).toNat:Int)≤122))=false:=by rw [b122];rfl
    have b57:decide (((s[k]'hlt).toNat:Int)≤57)=true:=by simp;omega
    have n57:(!decide (((s[k]'hlt).toNat:Int)≤57))=false:=by rw [b57];rfl
    go_wp2
    go_ret
    exact ⟨ret_bool (nameB_f (nm_char HB.out (charOk_f (by omega)))),rfl⟩
   ·have b45:(((s[k]'hlt).toNat:Int)==45)=true:=by simp;omega
    have n45:(!(((s[k]'hlt).toNat:Int)==45))=false:=by rw [b45];rfl
    have b97:decide ((97:Int)≤((s[k]'hlt).toNat:Int))=false:=by simp;omega
    have n97:(!decide ((97:Int)≤((s[k]'hlt).toNat:Int)))=true:=by rw [b97];rfl
    have b48:decide ((48:Int)≤((s[k]'hlt).toNat:Int))=false:=by simp;omega
    have n48:(!decide ((48:Int)≤((s[k]'hlt).toNat:Int)))=true:=by rw [b48];rfl
    have b122:decide (((s[k]'hlt).toNat:Int)≤122)=true:=by simp;omega
    have n122:(!decide (((s[k]'hlt).toNat:Int)≤122))=false:=by rw [b122];rfl
    have b57:decide (((s[k]'hlt).toNat:Int)≤57)=true:=by simp;omega
    have n57:(!decide (((s[k]'hlt).toNat:Int)≤57))=false:=by rw [b57];rfl
    go_wp2
    go_round
    case rel=>exact ⟨k+1,by omega,by go_num,Lib.hid (all_take_bytes _ k _ HB.out hd.out (charOk_t (by omega)))⟩
    case measure=>simp [RowKit.intOf];omega
   ·have b45:(((s[k]'hlt).toNat:Int)==45)=false:=by simp;omega
    have n45:(!(((s[k]'hlt).toNat:Int)==45))=true:=by rw [b45];rfl
    have b97:decide ((97:Int)≤((s[k]'hlt).toNat:Int))=false:=by simp;omega
    have n97:(!decide ((97:Int)≤((s[k]'hlt).toNat:Int)))=true:=by rw [b97];rfl
    have b48:decide ((48:Int)≤((s[k]'hlt).toNat:Int))=false:=by simp;omega
    have n48:(!decide ((48:Int)≤((s[k]'hlt).toNat:Int)))=true:=by rw [b48];rfl
    have b122:decide (((s[k]'hlt).toNat:Int)≤122)=true:=by simp;omega
    have n122:(!decide (((s[k]'hlt).toNat:Int)≤122))=false:=by rw [b122];rfl
    have b57:decide (((s[k]'hlt).toNat:Int)≤57)=true:=by simp;omega
    have n57:(!decide (((s[k]'hlt).toNat:Int)≤57))=false:=by rw [b57];rfl
    go_wp2
    go_ret
    exact ⟨ret_bool (nameB_f (nm_char HB.out (charOk_f (by omega)))),rfl⟩
   ·have b45:(((s[k]'hlt).toNat:Int)==45)=false:=by simp;omega
    have n45:(!(((s[k]'hlt).toNat:Int)==45))=true:=by rw [b45];rfl
    have b97:decide ((97:Int)≤((s[k]'hlt).toNat:Int))=false:=by simp;omega
    have n97:(!decide ((97:Int)≤((s[k]'hlt).toNat:Int)))=true:=by rw [b97];rfl
    have b48:decide ((48:Int)≤((s[k]'hlt).toNat:Int))=true:=by simp;omega
    have n48:(!decide ((48:Int)≤((s[k]'hlt).toNat:Int)))=false:=by rw [b48];rfl
    have b122:decide (((s[k]'hlt).toNat:Int)≤122)=true:=by simp;omega
    have n122:(!decide (((s[k]'hlt).toNat:Int)≤122))=false:=by rw [b122];rfl
    have b57:decide (((s[k]'hlt).toNat:Int)≤57)=true:=by simp;omega
    have n57:(!decide (((s[k]'hlt).toNat:Int)≤57))=false:=by rw [b57];rfl
    go_wp2
    go_round
    case rel=>exact ⟨k+1,by omega,by go_num,Lib.hid (all_take_bytes _ k _ HB.out hd.out (charOk_t (by omega)))⟩
    case measure=>simp [RowKit.intOf];omega
   ·have b45:(((s[k]'hlt).toNat:Int)==45)=false:=by simp;omega
    have n45:(!(((s[k]'hlt).toNat:Int)==45))=true:=by rw [b45];rfl
    have b97:decide ((97:Int)≤((s[k]'hlt).toNat:Int))=false:=by simp;omega
    have n97:(!decide ((97:Int)≤((s[k]'hlt).toNat:Int)))=true:=by rw [b97];rfl
    have b48:decide ((48:Int)≤((s[k]'hlt).toNat:Int))=true:=by simp;omega
    have n48:(!decide ((48:Int)≤((s[k]'hlt).toNat:Int)))=false:=by rw [b48];rfl
    have b122:decide (((s[k]'hlt).toNat:Int)≤122)=true:=by simp;omega
    have n122:(!decide (((s[k]'hlt).toNat:Int)≤122))=false:=by rw [b122];rfl
    have b57:decide (((s[k]'hlt).toNat:Int)≤57)=false:=by simp;omega
    have n57:(!decide (((s[k]'hlt).toNat:Int)≤57))=true:=by rw [b57];rfl
    go_wp2
    go_ret
    exact ⟨ret_bool (nameB_f (nm_char HB.out (charOk_f (by omega)))),rfl⟩
   ·have b45:(((s[k]'hlt).toNat:Int)==45)=false:=by simp;omega
    have n45:(!(((s[k]'hlt).toNat:Int)==45))=true:=by rw [b45];rfl
    have b97:decide ((97:Int)≤((s[k]'hlt).toNat:Int))=true:=by simp;omega
    have n97:(!decide ((97:Int)≤((s[k]'hlt).toNat:Int)))=false:=by rw [b97];rfl
    have b48:decide ((48:Int)≤((s[k]'hlt).toNat:Int))=true:=by simp;omega
    have n48:(!decide ((48:Int)≤((s[k]'hlt).toNat:Int)))=false:=by rw [b48];rfl
    have b122:decide (((s[k]'hlt).toNat:Int)≤122)=true:=by simp;omega
    have n122:(!decide (((s[k]'hlt).toNat:Int)≤122))=false:=by rw [b122];rfl
    have b57:decide (((s[k]'hlt).toNat:Int)≤57)=false:=by simp;omega
    have n57:(!decide (((s[k]'hlt).toNat:Int)≤57))=true:=by rw [b57];rfl
    go_wp2
    go_round
    case rel=>exact ⟨k+1,by omega,by go_num,Lib.hid (all_take_bytes _ k _ HB.out hd.out (charOk_t (by omega)))⟩
    case measure=>simp [RowKit.intOf];omega
   ·have b45:(((s[k]'hlt).toNat:Int)==45)=false:=by simp;omega
    have n45:(!(((s[k]'hlt).toNat:Int)==45))=true:=by rw [b45];rfl
    have b97:decide ((97:Int)≤((s[k]'hlt).toNat:Int))=true:=by simp;omega
    have n97:(!decide ((97:Int)≤((s[k]'hlt).toNat:Int)))=false:=by rw [b97];rfl
    have b48:decide ((48:Int)≤((s[k]'hlt).toNat:Int))=true:=by simp;omega
    have n48:(!decide ((48:Int)≤((s[k]'hlt).toNat:Int)))=false:=by rw [b48];rfl
    have b122:decide (((s[k]'hlt).toNat:Int)≤122)=false:=by simp;omega
    have n122:(!decide (((s[k]'hlt).toNat:Int)≤122))=true:=by rw [b122];rfl
    have b57:decide (((s[k]'hlt).toNat:Int)≤57)=false:=by simp;omega
    have n57:(!decide (((s[k]'hlt).toNat:Int)≤57))=true:=by rw [b57];rfl
    go_wp2
    go_ret
    exact ⟨ret_bool (nameB_f (nm_char HB.out (charOk_f (by omega)))),rfl⟩
  ·have HF:=Lib.hid (show NameOk s from ⟨hp,by omega,by rw [←first_byte s hp];omega,by rw [←first_byte s hp];omega,by rw [List.take_of_length_le (by rw [size_len];omega)] at hd;exact hd.out,HA.out,HN.out⟩)
   go_wp2
   go_ret
   exact ⟨ret_bool (nameB_t HF.out),rfl⟩
end Go.Proofs.YtojgbcmhdnappaaGreatDoor
