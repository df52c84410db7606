/-
  A part of the proof: ToldLay, Told, Pcs. Conditions: none.
-/
import Derived.Shelf.Strings.OnBuilder
import Derived.Shelf.LaysM
import Derived.Shelf.Strconv.Itoa3
import Derived.Test.YtojgbcmhdnappaaGreatDoorProg
import Derived.Lib.ItoaMem
import Derived.Lib.Join
import Derived.Lib.ItoaLen
import Derived.Test.YtojgbcmhdnappaaGreatDoorInRowK
import Derived.Lib.AppendIntMem
import Derived.Lib.ParseIntBTie
import Derived.Lib.Replace
import Derived.Lib.IndexBytes
import Derived.Lib.SplitLaws
namespace Go.Proofs
open Go.Shelf
def Tryz.lays156_ren:Go.Shelf.Ren:=⟨fun | 156=>65 | 165=>116 | 166=>82 | 169=>86 | 240=>139 | 241=>165 | 276=>186 | 277=>211 | n=>n,fun | 31=>147 | 9=>9 | 3=>3 | 4=>4 | 0=>0 | 20=>20 | 72=>173 | 76=>126 | 70=>171 | 37=>141 | 75=>37 | 127=>256 | 164=>296 | 5=>5 | 80=>59 | n=>n,fun | n=>n⟩
theorem Tryz.lays156:Go.Proofs.Lays.n156 Tryz.prog Tryz.lays156_ren:={
 mixed:=by kernel_rfl
 f156:=Tryz.func65.trans (congrArg some (by kernel_rfl))
 f165:=Tryz.func116.trans (congrArg some (by kernel_rfl))
 f166:=Tryz.func82.trans (congrArg some (by kernel_rfl))
 f169:=Tryz.func86.trans (congrArg some (by kernel_rfl))
 f240:=Tryz.func139.trans (congrArg some (by kernel_rfl))
 f241:=Tryz.func165.trans (congrArg some (by kernel_rfl))
 f276:=Tryz.func186.trans (congrArg some (by kernel_rfl))
 f277:=Tryz.func211.trans (congrArg some (by kernel_rfl))
 t0:=Tryz.underlying0
 a0:=Tryz.isAgg0
 z0:=Tryz.sizeOf0
 v0:=Tryz.zeroValue0
 t3:=Tryz.underlying3
 a3:=Tryz.isAgg3
 z3:=Tryz.sizeOf3
 v3:=Tryz.zeroValue3
 t4:=Tryz.underlying4
 a4:=Tryz.isAgg4
 z4:=Tryz.sizeOf4
 v4:=Tryz.zeroValue4
 t9:=Tryz.underlying9
 a9:=Tryz.isAgg9
 z9:=Tryz.sizeOf9
 v9:=Tryz.zeroValue9
 t20:=Tryz.underlying20
 a20:=Tryz.isAgg20
 z20:=Tryz.sizeOf20
 v20:=Tryz.zeroValue20
 t31:=Tryz.underlying147
 a31:=Tryz.isAgg147
 z31:=Tryz.sizeOf147
 v31:=Tryz.zeroValue147
 t37:=Tryz.underlying141
 a37:=Tryz.isAgg141
 z37:=Tryz.sizeOf141
 v37:=Tryz.zeroValue141
 t70:=Tryz.underlying171
 a70:=Tryz.isAgg171
 z70:=Tryz.sizeOf171
 v70:=Tryz.zeroValue171
 t72:=Tryz.underlying173
 a72:=Tryz.isAgg173
 z72:=Tryz.sizeOf173
 v72:=Tryz.zeroValue173
 t75:=Tryz.underlying37
 a75:=Tryz.isAgg37
 z75:=Tryz.sizeOf37
 v75:=Tryz.zeroValue37
 t76:=Tryz.underlying126
 a76:=Tryz.isAgg126
 z76:=Tryz.sizeOf126
 v76:=Tryz.zeroValue126
 t127:=Tryz.underlying256
 a127:=Tryz.isAgg256
 z127:=Tryz.sizeOf256
 v127:=Tryz.zeroValue256
 t164:=Tryz.underlying296
 a164:=Tryz.isAgg296
 z164:=Tryz.sizeOf296
 v164:=Tryz.zeroValue296 }
theorem Tryz.Builder_Extra_156:Builder.Extra Tryz.prog Tryz.lays156_ren:={
 sizeBuilder:=by kernel_rfl
 liesBuilder:=by kernel_rfl
 t5:=Tryz.underlying5
 a5:=Tryz.isAgg5
 z5:=Tryz.sizeOf5
 v5:=Tryz.zeroValue5
 infoByte:=by kernel_rfl
 cellsByte:=by kernel_rfl
 sizeByte:=by kernel_rfl
 neB5:=by decide }
open Go.RowKit in
theorem Tryz.strings_Join_none (a:Option Addr) (c:Nat) (sep:ByteArray) (w:World) :
  Calls Tryz.prog 65 #[.slice a 0 c,.string sep] w fun e w'=>e=.returned (.string ⟨#[]⟩)∧w'=w:=Any.strings_Join_none Tryz.lays156 Tryz.Builder_Extra_156 a c sep w
open Go.RowKit in
theorem Tryz.strings_Join (bk o c:Nat) (xs:List ByteArray) (sep:ByteArray) (w:World) (hcells:∀ (j:Nat) x,xs[j]?=some x→w.cell? ⟨bk,o+j,none⟩=some (.string x)) (hbk:bk<w.heap.size) (hN:xs.length≤140737488355328) (hcap:xs.length≤c) (hlen:(Lib.join (xs.map (·.data.toList)) sep.data.toList).length≤140737488355328) :
  Calls Tryz.prog 65 #[.slice (some ⟨bk,o,none⟩) xs.length c,.string sep] w fun e w'=>e=.returned (.string ⟨(Lib.join (xs.map (·.data.toList)) sep.data.toList).toArray⟩)∧Below w.heap.size w w':=Any.strings_Join Tryz.lays156 Tryz.Builder_Extra_156 bk o c xs sep w hcells hbk hN hcap hlen
def Tryz.laysM171_ren:Go.Shelf.Ren:=⟨fun | 171=>64 | 243=>115 | 246=>164 | 283=>207 | 284=>208 | 285=>209 | 286=>210 | 129=>236 | 317=>248 | 318=>249 | 319=>250 | 320=>251 | 337=>276 | 338=>277 | n=>n,fun | 3=>3 | 9=>9 | 2=>2 | 4=>4 | 171=>323 | 0=>0 | 53=>279 | 37=>141 | 5=>5 | 173=>326 | 212=>366 | 51=>142 | 20=>20 | 213=>367 | 46=>61 | 232=>401 | 233=>402 | n=>n,fun | 17=>4 | 18=>10 | 19=>11 | n=>n⟩
theorem Tryz.laysM171:Go.Proofs.LaysM.n171 Tryz.prog Tryz.laysM171_ren:={
 mixed:=by kernel_rfl
 f129:=Tryz.func236.trans (congrArg some (by kernel_rfl))
 f171:=Tryz.func64.trans (congrArg some (by kernel_rfl))
 f243:=Tryz.func115.trans (congrArg some (by kernel_rfl))
 f246:=Tryz.func164.trans (congrArg some (by kernel_rfl))
 f283:=Tryz.func207.trans (congrArg some (by kernel_rfl))
 f284:=Tryz.func208.trans (congrArg some (by kernel_rfl))
 f285:=Tryz.func209.trans (congrArg some (by kernel_rfl))
 f286:=Tryz.func210.trans (congrArg some (by kernel_rfl))
 f317:=Tryz.func248.trans (congrArg some (by kernel_rfl))
 f318:=Tryz.func249.trans (congrArg some (by kernel_rfl))
 f319:=Tryz.func250.trans (congrArg some (by kernel_rfl))
 f320:=Tryz.func251.trans (congrArg some (by kernel_rfl))
 f337:=Tryz.func276.trans (congrArg some (by kernel_rfl))
 f338:=Tryz.func277.trans (congrArg some (by kernel_rfl))
 t0:=Tryz.underlying0
 a0:=Tryz.isAgg0
 z0:=Tryz.sizeOf0
 v0:=Tryz.zeroValue0
 t2:=Tryz.underlying2
 a2:=Tryz.isAgg2
 z2:=Tryz.sizeOf2
 v2:=Tryz.zeroValue2
 t3:=Tryz.underlying3
 a3:=Tryz.isAgg3
 z3:=Tryz.sizeOf3
 v3:=Tryz.zeroValue3
 t4:=Tryz.underlying4
 a4:=Tryz.isAgg4
 z4:=Tryz.sizeOf4
 v4:=Tryz.zeroValue4
 t5:=Tryz.underlying5
 a5:=Tryz.isAgg5
 z5:=Tryz.sizeOf5
 v5:=Tryz.zeroValue5
 t9:=Tryz.underlying9
 a9:=Tryz.isAgg9
 z9:=Tryz.sizeOf9
 v9:=Tryz.zeroValue9
 t20:=Tryz.underlying20
 a20:=Tryz.isAgg20
 z20:=Tryz.sizeOf20
 v20:=Tryz.zeroValue20
 t37:=Tryz.underlying141
 a37:=Tryz.isAgg141
 z37:=Tryz.sizeOf141
 v37:=Tryz.zeroValue141
 t46:=Tryz.underlying61
 a46:=Tryz.isAgg61
 z46:=Tryz.sizeOf61
 v46:=Tryz.zeroValue61
 t51:=Tryz.underlying142
 a51:=Tryz.isAgg142
 z51:=Tryz.sizeOf142
 v51:=Tryz.zeroValue142
 t53:=Tryz.underlying279
 a53:=Tryz.isAgg279
 z53:=Tryz.sizeOf279
 v53:=Tryz.zeroValue279
 t171:=Tryz.underlying323
 a171:=Tryz.isAgg323
 z171:=Tryz.sizeOf323
 v171:=Tryz.zeroValue323
 t173:=Tryz.underlying326
 a173:=Tryz.isAgg326
 z173:=Tryz.sizeOf326
 v173:=Tryz.zeroValue326
 t212:=Tryz.underlying366
 a212:=Tryz.isAgg366
 z212:=Tryz.sizeOf366
 v212:=Tryz.zeroValue366
 t213:=Tryz.underlying367
 a213:=Tryz.isAgg367
 z213:=Tryz.sizeOf367
 t232:=Tryz.underlying401
 a232:=Tryz.isAgg401
 z232:=Tryz.sizeOf401
 v232:=Tryz.zeroValue401
 t233:=Tryz.underlying402
 a233:=Tryz.isAgg402
 z233:=Tryz.sizeOf402
 v233:=Tryz.zeroValue402
 g17:=by kernel_rfl
 g18:=by kernel_rfl
 g19:=by kernel_rfl
 i0:=by kernel_rfl
 i2:=by kernel_rfl
 i3:=by kernel_rfl
 i4:=by kernel_rfl
 i5:=by kernel_rfl
 i9:=by kernel_rfl
 i20:=by kernel_rfl
 i37:=by kernel_rfl
 i46:=by kernel_rfl
 i51:=by kernel_rfl
 i53:=by kernel_rfl
 i171:=by kernel_rfl
 i173:=by kernel_rfl
 i212:=by kernel_rfl
 i232:=by kernel_rfl
 i233:=by kernel_rfl
 m17:=by kernel_rfl
 m18:=by kernel_rfl
 m19:=by kernel_rfl }
open Go.RowKit Go.Sort Go.Lib in
theorem Tryz.strconv_Itoa (n:Int) (h0 : -9223372036854775808≤n) (h1:n≤9223372036854775807) (w:World) (htab:Lib.TabIs Tryz.prog w "internal/strconv.uint64pow10" .u64 Lib.pow10Tab) :
  Calls Tryz.prog 64 #[.int .i64 n] w fun e w'=>e=.returned (.string ⟨(Lib.itoa n).toArray⟩)∧∃ k os,w'=grow (w.drewN k) os:=Any.strconv_Itoa Tryz.laysM171 n h0 h1 w htab
end Go.Proofs
namespace Go.Proofs.YtojgbcmhdnappaaGreatDoor
def textF (zs:List Int):List UInt8:=Lib.join (zs.map Lib.itoa) [32]
theorem text_cons (x:Int) (r:List Int):textF (x :: r)=Lib.itoa x++(if r=[] then [] else 32 :: textF r):=by
 cases r with
 | nil=>simp [textF,Lib.join_one]
 | cons y r =>
  unfold textF
  rw [List.map_cons,Lib.join_cons,List.map_cons,Lib.join_cons,if_neg (by simp)]
  simp [Lib.joinTail]
theorem textF_len:∀ (zs:List Int),(∀ z∈zs,-9223372036854775808≤z∧z≤9223372036854775807)→(textF zs).length≤22*zs.length:=by
 intro zs
 induction zs with
 | nil=>intro _;exact Nat.le_refl _
 | cons x r ih =>
  intro h
  have h1:=Lib.itoa_length_le x (h x (List.mem_cons_self ..)).1 (h x (List.mem_cons_self ..)).2
  have h2:=ih (fun z hz=>h z (List.mem_cons_of_mem _ hz))
  rw [text_cons,List.length_append,List.length_cons]
  split
  ·simp;omega
  ·rw [List.length_cons];omega
end Go.Proofs.YtojgbcmhdnappaaGreatDoor
namespace Go.Proofs.YtojgbcmhdnappaaGreatDoor
open Go.RowKit
theorem gPow:Tryz.prog.globalNamed "internal/strconv.uint64pow10" = some 4:=by kernel_rfl
structure GlobT (w:World):Prop where
 tab:Lib.TabIs Tryz.prog w "internal/strconv.uint64pow10" .u64 Lib.pow10Tab
theorem GlobT.blocks {w w':World} (h:GlobT w) (hb:∀ g,4=g→g<w.heap.size→w'.heap[g]?=w.heap[g]?):GlobT w':=by
 obtain ⟨h⟩:=h
 refine ⟨?_⟩
 unfold Lib.TabIs World.var? at h ⊢
 rw [gPow] at h ⊢
 simp only [Option.bind_some] at h ⊢
 have hlt:4<w.heap.size:=by
  rcases Nat.lt_or_ge 4 w.heap.size with h' | h'
  ·exact h'
  ·rw [Array.getElem?_eq_none h'] at h;cases h
 rw [hb _ rfl hlt]
 exact h
theorem GlobT.below {w w':World} (h:GlobT w) (hb:Below w.heap.size w w'):GlobT w':=h.blocks fun g _ hg=>hb.block g hg
theorem stringInfo:(Tryz.prog.info? 9).map (fun i=>(i.zero,i.size,i.bytes))=some (some (.string ⟨#[]⟩),1,16):=by kernel_rfl
def OwnS (w:World) (base:Nat) (v:Value) (xs:List ByteArray):Prop:=w.ownsRow base 9 1 v xs.length (xs.map Value.string)
theorem one_newsS (w:World) (u:Value) (g:Nat) (hc:w.cell? ⟨g,0,none⟩=some u):Reads w (g+1) 1 (some ⟨g,0,none⟩) 1 [u]:=by
 refine ⟨rfl,fun _=>⟨_,rfl,Nat.lt_succ_self _,fun j x hx=>?_⟩⟩
 match j,hx with
 | 0,hx=>simp at hx;subst hx;simpa [Addr.add] using hc
theorem appStr (w:World) {ops:Array Oper} {rest:List Oper} {o:Oper} {a:Act} {Q:Exit→Act→World→Prop} (hgd:o.guard=none) (s x:Operand) (t:TypeId)
  (ho:o.op=.call { callee:=.builtin .append,args:=#[s,x],argTypes:=#[t,t] }) (base:Nat) (ht:Tryz.prog.underlying t=some (.slice 9))
  (v:Value) (xs:List ByteArray) (hs:a.eval s=v) (hown:OwnS w base v xs) (g c:Nat) (hx:a.eval x=.slice (some ⟨g,0,none⟩) 1 c) (y:ByteArray) (hc:w.cell? ⟨g,0,none⟩=some (.string y))
  (hl:xs.length≤4000000000) (hbase:base≤w.heap.size)
  (h:∀ v' w',OwnS w' base v' (xs++[y])→w.grownBy w' v.ownBlock→(v'.ownBlock=v.ownBlock∨v'.ownBlock=some w.heap.size)→wpList Tryz.prog ops Q rest (a.put o.dst v') w'):wpList Tryz.prog ops Q (o :: rest) a w:=by
 obtain ⟨i0,hi,hz0,hz1,hz2⟩:=info_parts stringInfo
 refine wpList_append_any w hgd s x t ho base 9 i0 (.string ⟨#[]⟩) 1 16 ht hi hz0 hz1 hz2 rfl (by decide) v xs.length _ hs hown (g+1) (some ⟨g,0,none⟩) 1 c [.string y] hx (one_newsS w _ g hc) (by simp;rfl) (by simp only [maxLen];omega) (by omega) hbase ?_
 intro v' w' ho' hg' hor
 refine h v' w' ?_ hg' hor
 unfold OwnS
 rw [List.length_append,List.length_singleton,List.map_append]
 exact ho'
theorem add0 (g j:Nat):(⟨g,0,none⟩:Addr).add j=⟨g,0+j,none⟩:=by
 unfold Addr.add
 split
 ·rename_i h;rw [h]
 ·rfl
def strsF (zs:List Int):List ByteArray:=zs.map fun z=>⟨(Lib.itoa z).toArray⟩
theorem strs_join (zs:List Int):Lib.join ((strsF zs).map (·.data.toList)) [32]=textF zs:=by
 unfold textF strsF
 rw [List.map_map]
 congr 1
def ToldPost (w:World) (zs:List Int) (e:Ending) (w':World):Prop:=e=.returned (.string ⟨(textF zs).toArray⟩)∧Below w.heap.size w w'
structure ToldI (w0:World) (zs:List Int) (k:Nat) (v:Value) (w:World):Prop where
 bel:Below w0.heap.size w0 w
 own:OwnS w w0.heap.size v (strsF (zs.take k))
set_option maxRecDepth 100000 in
set_option maxHeartbeats 2000000 in
theorem textW_any (A:Option Addr) (n c:Nat) (zs:List Int) (w:World) (hG:GlobT w) (h:Ints w w.heap.size A n zs) (hn:n≤1000) :
  Calls Tryz.prog 18 #[.slice A n c] w (ToldPost w zs):=by
 have HI:=hide h
 have HG:=hide hG
 have HL:=Lib.hid h.len
 clear h hG
 go_enter Tryz.func18,Tryz.ntmps18
 go_wp2
 go_loopw [3,8] (fun v i wr=>∃ k:Nat,k≤n∧i=.int .i64 k∧Hid (ToldI w zs k v wr)) (fun _ i _=>n-(intOf i).toNat)
 case atStart=>exact ⟨0,Nat.zero_le _,rfl,hide ⟨Below.refl _ _,World.ownsRow_nil _ _ _ _⟩⟩
 case round =>
  obtain ⟨k,hk,rfl,hT⟩:=hrel
  by_cases hlt:k<n
  ·obtain ⟨ad,rfl,hb,hc⟩:=HI.out.at_ hlt
   have hkl:=Lib.hid (show k<zs.length by rw [HL.out];exact hlt)
   have hc2:wr.cell? (ad.add k)=some (.int .i64 (zs.getD k 0)):=(hT.out.bel.cell (by rw [block_of_add];exact hb)).trans hc
   have hx:=HI.out.2.2.1 (zs.getD k 0) (by rw [List.getD_eq_getElem?_getD,List.getElem?_eq_getElem hkl.out];exact List.getElem_mem hkl.out)
   have HTK:=Lib.hid (show strsF (zs.take (k+1))=strsF (zs.take k)++[⟨(Lib.itoa (zs.getD k 0)).toArray⟩] by unfold strsF;rw [take_snoc zs k 0 hkl.out,List.map_append];rfl)
   have HLS:=Lib.hid (show (strsF (zs.take k)).length≤1000 by unfold strsF;rw [List.length_map,List.length_take];omega)
   clear hc
   generalize zs.getD k 0=z at hc2 hx HTK
   have HIT:=hide (Tryz.strconv_Itoa z hx.1 hx.2 wr (HG.out.below hT.out.bel).tab)
   clear hx
   go_wp2_with fail
   refine (HIT.out).mono ?_
   rintro e w3 ⟨rfl,kk,os,rfl⟩
   have HB3:=hide (Lib.below_grow wr.heap.size wr (Nat.le_refl _) kk os)
   generalize Sort.grow (wr.drewN kk) os=w3 at HB3 ⊢
   have HBA:=hide ((hT.out.bel.trans (HB3.out.mono hT.out.bel.size)).alloc (hT.out.bel.trans (HB3.out.mono hT.out.bel.size)).size (.cells #[.string ⟨(Lib.itoa z).toArray⟩] 9))
   have HOA:=hide (show OwnS (w3.alloc (.cells #[.string ⟨(Lib.itoa z).toArray⟩] 9)) w.heap.size _ (strsF (zs.take k)) from (hT.out.own.kept (row:=none) ⟨HB3.out.os,HB3.out.tape,HB3.out.output,HB3.out.size,fun i hi _=>HB3.out.block i hi⟩ (by cases (Value.ownBlock _) <;> simp)).alloc _)
   have HCA:=Lib.hid (show (w3.alloc (.cells #[.string ⟨(Lib.itoa z).toArray⟩] 9)).cell? ⟨w3.heap.size,0,none⟩=some (.string ⟨(Lib.itoa z).toArray⟩) by simp)
   have HLT:=hide (show ∀ k,_→_ from hT.out.own.lt)
   go_wp2_with (at_builtin;refine appStr _ rfl _ _ 147 rfl w.heap.size Tryz.underlying147 _ (strsF (zs.take k)) rfl HOA.out w3.heap.size 1 rfl ⟨(Lib.itoa z).toArray⟩ HCA.out (by have:=HLS.out;omega) HBA.out.size ?_;intro v1 w1 ho1 hg1 hor;have HO1:=hide ho1;have HB1:=hide (HBA.out.grown hg1 HBA.out.size (fun k hk=>(HLT.out k hk).1));clear ho1 hg1 hor)
   go_roundw
   case rel=>exact ⟨k+1,by omega,by go_num,hide ⟨HB1.out,by rw [HTK.out];exact HO1.out⟩⟩
   case measure=>simp [intOf];omega
  ·obtain rfl:k=n:=by omega
   have hown:=hT.out.own
   rw [List.take_of_length_le (Nat.le_of_eq HL.out)] at hown
   have HB:=hide hT.out.bel
   have HSL:(strsF zs).length=k:=by unfold strsF;rw [List.length_map,HL.out]
   have HOW:=hide hown
   clear hT
   rcases hown.2 with ⟨rfl,h0⟩ | ⟨g,cap,cur,rfl,hg,hgc,hle,hcm,_⟩
   ·rw [HSL] at h0
    subst h0
    obtain rfl:zs=[]:=List.eq_nil_of_length_eq_zero HL.out
    have HJ:=hide (Tryz.strings_Join_none none 0 ⟨#[32]⟩ wr)
    clear hown
    go_wp2_with fail
    refine (HJ.out).mono ?_
    rintro e w3 ⟨rfl,rfl⟩
    go_wp2
    go_ret
    exact ⟨rfl,HB.out⟩
   ·have hcl:=hown.cells (g:=g) rfl
    have hbk:=(hown.lt g rfl).2
    have HJ:=hide (Tryz.strings_Join g 0 cap (strsF zs) ⟨#[32]⟩ wr (fun j x hx=>by
     have:=hcl j (.string x) (by rw [List.getElem?_map,hx];rfl)
     rw [add0 g j] at this
     exact this) hbk (by rw [HSL];omega) hle (by
     rw [show (ByteArray.data ⟨#[32]⟩).toList=[32] from rfl,strs_join]
     have:=textF_len zs HI.out.2.2.1
     rw [HL.out] at this
     omega))
    rw [show (ByteArray.data ⟨#[32]⟩).toList=[32] from rfl,strs_join,HSL] at HJ
    rw [HSL]
    clear hown hcl HOW
    go_wp2_with fail
    refine (HJ.out).mono ?_
    rintro e w3 ⟨rfl,hb3⟩
    have HB3:=hide (HB.out.trans (hb3.mono HB.out.size))
    clear hb3
    go_wp2
    go_ret
    exact ⟨rfl,HB3.out⟩
end Go.Proofs.YtojgbcmhdnappaaGreatDoor
namespace Go.Proofs.YtojgbcmhdnappaaGreatDoor
def numF (l:List UInt8):Option Int:=match Lib.atoiAll l with | .ok v=>if Lib.itoa v=l then some v else none | _=>none
theorem numF_ok {l:List UInt8} {v:Int} (h:Lib.atoiAll l=.ok v):numF l=if Lib.itoa v=l then some v else none:=by unfold numF;rw [h]
theorem numF_range {l:List UInt8} (h:Lib.atoiAll l=.range):numF l=none:=by unfold numF;rw [h]
def partE (l:List UInt8):Int:=match numF l with | some v=>if v<0 then 3 else if 999<v then 2 else 0 | none=>3
def partV (l:List UInt8):Int:=(numF l).getD 0
end Go.Proofs.YtojgbcmhdnappaaGreatDoor
namespace Go.Proofs.YtojgbcmhdnappaaGreatDoor
theorem byte_at (c:UInt8):∀ (l:List UInt8) (i:Nat),Lib.indexByte l c=(i:Int)→c∉l.take i∧l=l.take i++c :: l.drop (i+1)
 | [],i,h=>by
  unfold Lib.indexByte at h
  omega
 | b :: l,i,h=>by
  unfold Lib.indexByte at h
  by_cases e:(b==c)=true
  ·rw [if_pos e] at h
   obtain rfl:i=0:=by omega
   rw [beq_iff_eq.1 e]
   simp
  ·rw [if_neg e] at h
   by_cases e2:(Lib.indexByte l c == -1)=true
   ·rw [if_pos e2] at h
    omega
   ·rw [if_neg e2] at h
    have hge:=Lib.indexByte_ge l c
    have hne:Lib.indexByte l c ≠ -1:=fun e3=>e2 (beq_iff_eq.2 e3)
    obtain ⟨j,rfl⟩:∃ j,i=j+1:=⟨i-1,by omega⟩
    obtain ⟨h1,h2⟩:=byte_at c l j (by omega)
    refine ⟨?_,?_⟩
    ·rw [List.take_succ_cons]
     intro hc
     rcases List.mem_cons.1 hc with e3 | e3
     ·exact e (beq_iff_eq.2 e3.symm)
     ·exact h1 e3
    ·rw [List.take_succ_cons,List.drop_succ_cons,List.cons_append,←h2]
def pcs (c:UInt8) (s:ByteArray):List ByteArray:=Lib.splitB ⟨#[c]⟩ 0 (Lib.countB s ⟨#[c]⟩) s
def pcL (c:UInt8) (s:ByteArray):List (List UInt8):=(pcs c s).map (·.data.toList)
theorem pcL_is (c:UInt8) (s:ByteArray):pcL c s=Lib.splitK [c] 0 (Lib.countB s ⟨#[c]⟩) s.data.toList:=Lib.splitB_data ⟨#[c]⟩ 0 _ s
theorem pcs_len (c:UInt8) (s:ByteArray):(pcs c s).length=Lib.countB s ⟨#[c]⟩+1:=Lib.splitB_all ⟨#[c]⟩ (by show 1≤1;omega) 0 _ s rfl
theorem pcL_len (c:UInt8) (s:ByteArray):(pcL c s).length=(pcs c s).length:=by unfold pcL;simp
theorem piece_le (c:UInt8) (s:ByteArray) {p:ByteArray} (h:p∈pcs c s):p.size≤s.size:=by
 have key:∀ (k:Nat) (s p:ByteArray),p∈Lib.splitB ⟨#[c]⟩ 0 k s→p.size≤s.size:=by
  intro k
  induction k with
  | zero=>intro s p h;rw [Lib.splitB_zero] at h;rw [List.mem_singleton.1 h];exact Nat.le_refl _
  | succ k ih =>
   intro s p h
   rw [Lib.splitB] at h
   split at h
   ·rw [List.mem_singleton.1 h];exact Nat.le_refl _
   ·rcases List.mem_cons.1 h with e | e
    ·rw [e,ByteArray.size_extract];omega
    ·have:=ih _ p e
     rw [ByteArray.size_extract] at this
     omega
 exact key _ _ _ h
def pcP (c:UInt8) (s:ByteArray) (j:Nat):ByteArray:=(pcs c s).getD j ⟨#[]⟩
theorem pcP_size (c:UInt8) (s:ByteArray) (j:Nat):(pcP c s j).size≤s.size:=by
 unfold pcP
 rcases Nat.lt_or_ge j (pcs c s).length with h | h
 ·rw [List.getD_eq_getElem?_getD,List.getElem?_eq_getElem h]
  exact piece_le c s (List.getElem_mem h)
 ·rw [List.getD_eq_getElem?_getD,List.getElem?_eq_none h]
  exact Nat.zero_le _
theorem pcL_at (c:UInt8) (s:ByteArray) {j:Nat} (h:j<(pcs c s).length):(pcL c s).getD j []=(pcP c s j).data.toList:=by
 unfold pcL pcP
 rw [List.getD_eq_getElem?_getD,List.getElem?_map,List.getD_eq_getElem?_getD,List.getElem?_eq_getElem h]
 rfl
end Go.Proofs.YtojgbcmhdnappaaGreatDoor
