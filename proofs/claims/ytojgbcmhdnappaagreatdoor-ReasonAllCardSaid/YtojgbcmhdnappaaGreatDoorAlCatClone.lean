/-
  A part of the proof: ItLay, CatClone. Conditions: none.
-/
import Derived.Shelf.SlGeneric
import Derived.Shelf.SlSortCmp.WholeK
import Derived.Shelf.SlSortCmp.NoneTotal
import Derived.Test.YtojgbcmhdnappaaGreatDoorProg
import Derived.Test.YtojgbcmhdnappaaGreatDoorAlReaPure
import Derived.Deep.RegionLaw
namespace Go.Proofs
open Go.Shelf
def Tryz.sortIt_ren:Go.Shelf.Ren:=⟨fun | 6=>133 | 15=>183 | 14=>182 | 28=>235 | 29=>236 | 20=>227 | 21=>228 | 22=>229 | 23=>230 | 24=>231 | 25=>232 | 26=>233 | 27=>234 | 46=>270 | 47=>271 | 48=>272 | 49=>273 | 50=>274 | 57=>286 | n=>n,fun | 22=>190 | 24=>194 | 25=>251 | 3=>3 | 39=>61 | 0=>0 | 53=>142 | 55=>279 | 4=>4 | 46=>342 | 45=>341 | 50=>228 | 5=>5 | 9=>9 | 66=>381 | 70=>385 | 76=>399 | 77=>320 | n=>n,fun | n=>n⟩
theorem Tryz.sortIt:Go.Proofs.SlLaysF0.n6 Tryz.prog Tryz.sortIt_ren:={
 mixed:=by kernel_rfl
 f6:=⟨Tryz.f133.name,by decide,Tryz.func133.trans (congrArg some (by kernel_rfl))⟩
 f14:=⟨Tryz.f182.name,by decide,Tryz.func182.trans (congrArg some (by kernel_rfl))⟩
 f15:=Tryz.func183.trans (congrArg some (by kernel_rfl))
 f20:=⟨Tryz.f227.name,by decide,Tryz.func227.trans (congrArg some (by kernel_rfl))⟩
 f21:=⟨Tryz.f228.name,by decide,Tryz.func228.trans (congrArg some (by kernel_rfl))⟩
 f22:=⟨Tryz.f229.name,by decide,Tryz.func229.trans (congrArg some (by kernel_rfl))⟩
 f23:=⟨Tryz.f230.name,by decide,Tryz.func230.trans (congrArg some (by kernel_rfl))⟩
 f24:=⟨Tryz.f231.name,by decide,Tryz.func231.trans (congrArg some (by kernel_rfl))⟩
 f25:=⟨Tryz.f232.name,by decide,Tryz.func232.trans (congrArg some (by kernel_rfl))⟩
 f26:=⟨Tryz.f233.name,by decide,Tryz.func233.trans (congrArg some (by kernel_rfl))⟩
 f27:=⟨Tryz.f234.name,by decide,Tryz.func234.trans (congrArg some (by kernel_rfl))⟩
 f28:=Tryz.func235.trans (congrArg some (by kernel_rfl))
 f29:=Tryz.func236.trans (congrArg some (by kernel_rfl))
 f46:=⟨Tryz.f270.name,by decide,Tryz.func270.trans (congrArg some (by kernel_rfl))⟩
 f47:=Tryz.func271.trans (congrArg some (by kernel_rfl))
 f48:=Tryz.func272.trans (congrArg some (by kernel_rfl))
 f49:=⟨Tryz.f273.name,by decide,Tryz.func273.trans (congrArg some (by kernel_rfl))⟩
 f50:=⟨Tryz.f274.name,by decide,Tryz.func274.trans (congrArg some (by kernel_rfl))⟩
 f57:=⟨Tryz.f286.name,by decide,Tryz.func286.trans (congrArg some (by kernel_rfl))⟩
 t0:=Tryz.underlying0
 a0:=Tryz.isAgg0
 z0:=Tryz.sizeOf0
 v0:=Tryz.zeroValue0
 t3:=Tryz.underlying3
 a3:=Tryz.isAgg3
 z3:=Tryz.sizeOf3
 v3:=Tryz.zeroValue3
 t4:=Tryz.underlying4
 a4:=Tryz.isAgg4
 z4:=Tryz.sizeOf4
 v4:=Tryz.zeroValue4
 t5:=Tryz.underlying5
 a5:=Tryz.isAgg5
 z5:=Tryz.sizeOf5
 v5:=Tryz.zeroValue5
 t9:=Tryz.underlying9
 a9:=Tryz.isAgg9
 z9:=Tryz.sizeOf9
 v9:=Tryz.zeroValue9
 t22:=Tryz.underlying190
 a22:=Tryz.isAgg190
 z22:=Tryz.sizeOf190
 v22:=Tryz.zeroValue190
 t25:=Tryz.underlying251
 a25:=Tryz.isAgg251
 z25:=Tryz.sizeOf251
 v25:=Tryz.zeroValue251
 t39:=Tryz.underlying61
 a39:=Tryz.isAgg61
 z39:=Tryz.sizeOf61
 v39:=Tryz.zeroValue61
 t45:=Tryz.underlying341
 a45:=Tryz.isAgg341
 z45:=Tryz.sizeOf341
 v45:=Tryz.zeroValue341
 t46:=Tryz.underlying342
 a46:=Tryz.isAgg342
 z46:=Tryz.sizeOf342
 v46:=Tryz.zeroValue342
 t50:=Tryz.underlying228
 a50:=Tryz.isAgg228
 z50:=Tryz.sizeOf228
 v50:=Tryz.zeroValue228
 t53:=Tryz.underlying142
 a53:=Tryz.isAgg142
 z53:=Tryz.sizeOf142
 v53:=Tryz.zeroValue142
 t55:=Tryz.underlying279
 a55:=Tryz.isAgg279
 z55:=Tryz.sizeOf279
 v55:=Tryz.zeroValue279
 t66:=Tryz.underlying381
 a66:=Tryz.isAgg381
 z66:=Tryz.sizeOf381
 v66:=Tryz.zeroValue381
 t70:=Tryz.underlying385
 a70:=Tryz.isAgg385
 z70:=Tryz.sizeOf385
 v70:=Tryz.zeroValue385
 t76:=Tryz.underlying399
 a76:=Tryz.isAgg399
 z76:=Tryz.sizeOf399
 v76:=Tryz.zeroValue399
 t77:=Tryz.underlying320
 a77:=Tryz.isAgg320
 z77:=Tryz.sizeOf320
 v77:=Tryz.zeroValue320 }
end Go.Proofs
namespace Go.Proofs.YtojgbcmhdnappaaGreatDoor
open Go.RowKit
set_option maxRecDepth 100000
structure GrowD (w w':World):Prop where
 bel:Below w.heap.size w w'
 dr:w.drawn≤w'.drawn
theorem GrowD.refl (w:World):GrowD w w:=⟨Below.refl _ _,Nat.le_refl _⟩
theorem GrowD.trans {a b c:World} (h:GrowD a b) (k:GrowD b c):GrowD a c:=⟨h.bel.trans (k.bel.mono h.bel.size),Nat.le_trans h.dr k.dr⟩
theorem GrowD.drew (w:World):GrowD w w.drew:=⟨(Below.refl _ _).drew,Nat.le_succ _⟩
theorem GrowD.drewN (w:World) (n:Nat):GrowD w (w.drewN n):=⟨below_drewN (Below.refl _ _) n,Nat.le_add_right _ _⟩
theorem GrowD.alloc (w:World) (o:Obj):GrowD w (w.alloc o):=⟨(Below.refl _ _).alloc (Nat.le_refl _) o,Nat.le_refl _⟩
theorem growD_is {w w':World} (h:GrowD w w'):∃ q os',w'=Sort.grow (w.drewN q) os':=by
 obtain ⟨⟨h1,h2,h3,h4,h5⟩,h6⟩:=h
 refine ⟨w'.drawn-w.drawn,w'.heap.extract w.heap.size w'.heap.size,?_⟩
 obtain ⟨heap,tape,drawn,os,output⟩:=w
 obtain ⟨heap',tape',drawn',os',output'⟩:=w'
 simp only [] at h1 h2 h3 h4 h5 h6
 subst h1 h2 h3
 have hh:heap'=heap++heap'.extract heap.size heap'.size:=by
  apply Array.ext_getElem?
  intro k
  by_cases hk:k<heap.size
  ·rw [h5 k hk,Array.getElem?_append_left hk]
  ·rw [Array.getElem?_append_right (by omega),Array.getElem?_extract]
   by_cases hk2:k<heap'.size
   ·rw [if_pos (by omega)]
    congr 1
    omega
   ·rw [if_neg (by omega),Array.getElem?_eq_none (by omega)]
 have hd:drawn'=drawn+(drawn'-drawn):=by omega
 show World.mk heap' _ _ _ _=World.mk (heap++_) _ _ _ _
 rw [←hh]
 simp only [World.drewN]
 rw [←hd]
theorem noNaN_any (x:ByteArray) (w:World):Calls Tryz.prog 184 #[.string x] w (fun e w'=>e=.returned (.bool false)∧w'=w):=by
 go_enter Tryz.func184,Tryz.ntmps184
 go_wp2
 go_ret
 exact ⟨by simp,rfl⟩
theorem cmpStr_any (x y:ByteArray) (w:World):Calls Tryz.prog 136 #[.string x,.string y] w (fun e w'=>e=.returned (.int .i64 (cmpS x y))∧w'=w):=by
 have hc:cmpS x y=if Op.bytesLess x.toList y.toList then -1 else if Op.bytesLess y.toList x.toList then 1 else 0:=rfl
 have hle:(Op.bytesLess x.toList y.toList||x.toList==y.toList)=!Op.bytesLess y.toList x.toList:=by
  rw [bytes_less,bytes_less,ByteArray.toList_eq,ByteArray.toList_eq]
  rcases lists_tri x.data.toList y.data.toList with h | h | h
  ·have h1:¬y.data.toList<x.data.toList:=fun k=>List.lt_irrefl _ (List.lt_trans h k)
   simp [h,h1]
  ·simp [h,List.lt_irrefl]
  ·have h1:¬x.data.toList<y.data.toList:=fun k=>List.lt_irrefl _ (List.lt_trans h k)
   have h2:x.data.toList≠y.data.toList:=fun e=>by rw [e] at h;exact List.lt_irrefl _ h
   rw [decide_eq_false h1,decide_eq_true h,Bool.false_or,Bool.not_true]
   exact beq_eq_false_iff_ne.2 h2
 cases h1:Op.bytesLess x.toList y.toList with
 | true =>
  rw [h1,if_pos rfl] at hc
  rw [hc]
  clear hle hc
  go_enter Tryz.func136,Tryz.ntmps136
  go_wp2_with (first | (go_at_call 184;refine (noNaN_any _ _).mono ?_;rintro e w' ⟨rfl,rfl⟩))
  go_ret
  exact ⟨rfl,rfl⟩
 | false =>
  rw [h1,if_neg (by decide)] at hc
  cases h2:Op.bytesLess y.toList x.toList with
  | true =>
   rw [h2,if_pos rfl] at hc
   rw [h1,h2] at hle
   have h3:(x.toList==y.toList)=false:=by simpa using hle
   rw [hc]
   clear hle hc
   go_enter Tryz.func136,Tryz.ntmps136
   go_wp2_with (first | (go_at_call 184;refine (noNaN_any _ _).mono ?_;rintro e w' ⟨rfl,rfl⟩))
   go_ret
   exact ⟨rfl,rfl⟩
  | false =>
   rw [h2,if_neg (by decide)] at hc
   rw [h1,h2] at hle
   have h3:(x.toList==y.toList)=true:=by simpa using hle
   rw [hc]
   clear hle hc
   go_enter Tryz.func136,Tryz.ntmps136
   go_wp2_with (first | (go_at_call 184;refine (noNaN_any _ _).mono ?_;rintro e w' ⟨rfl,rfl⟩))
   go_ret
   exact ⟨rfl,rfl⟩
def orI (a b:Int):Int:=if a≠0 then a else b
theorem cmpOr_any (a b:Int) (g c:Nat) (w:World) (h0:w.cell? ⟨g,0,none⟩=some (.int .i64 a)) (h1:w.cell? ⟨g,1,none⟩=some (.int .i64 b)):Calls Tryz.prog 135 #[.slice (some ⟨g,0,none⟩) 2 c] w (fun e w'=>e=.returned (.int .i64 (orI a b))∧w'=w):=by
 cases ha:(a==0) with
 | false =>
  have hv:orI a b=a:=by unfold orI;rw [if_pos (by simpa using ha)]
  have ha2:(!(a==0))=true:=by rw [ha];rfl
  rw [hv]
  clear hv
  go_enter Tryz.func135,Tryz.ntmps135
  go_wp2
  refine wp_loop_rounds 1 ?_
  rw [rounds_succ]
  go_wp2
  go_ret
  exact ⟨rfl,rfl⟩
 | true =>
  have ha3:a=0:=by simpa using ha
  have ha2:(!(a==0))=false:=by rw [ha];rfl
  cases hb:(b==0) with
  | false =>
   have hv:orI a b=b:=by unfold orI;rw [if_neg (by simpa using ha3)]
   have hb2:(!(b==0))=true:=by rw [hb];rfl
   rw [hv]
   clear hv ha3
   go_enter Tryz.func135,Tryz.ntmps135
   go_wp2
   refine wp_loop_rounds 2 ?_
   rw [rounds_succ]
   go_wp2
   rw [rounds_succ]
   go_wp2
   go_ret
   exact ⟨rfl,rfl⟩
  | true =>
   have hb3:b=0:=by simpa using hb
   have hv:orI a b=0:=by unfold orI;rw [if_neg (by simpa using ha3),hb3]
   have hb2:(!(b==0))=false:=by rw [hb];rfl
   rw [hv]
   clear hv ha3 hb3
   go_enter Tryz.func135,Tryz.ntmps135
   go_wp2
   refine wp_loop_rounds 3 ?_
   rw [rounds_succ]
   go_wp2
   rw [rounds_succ]
   go_wp2
   rw [rounds_succ]
   go_wp2
   go_ret
   exact ⟨rfl,rfl⟩
set_option maxHeartbeats 2000000 in
theorem verCmpG_any (a b:Nat→Int) (w:World):Calls Tryz.prog 137 #[.agg (verArr a),.agg (verArr b)] w (fun e w'=>e=.returned (.int .i64 (cmpV a b))∧GrowD w w'):=by
 have HB:=hide ((GrowD.alloc w (.cells #[.int .i64 (a 0),.int .i64 (a 1),.int .i64 (a 2)] 85)).trans (GrowD.alloc _ (.cells #[.int .i64 (b 0),.int .i64 (b 1),.int .i64 (b 2)] 85)))
 have hk2:=(Blk.new w 85 #[.int .i64 (a 0),.int .i64 (a 1),.int .i64 (a 2)]).alloc (.cells #[.int .i64 (b 0),.int .i64 (b 1),.int .i64 (b 2)] 85)
 have hk4:=Blk.new (w.alloc (.cells #[.int .i64 (a 0),.int .i64 (a 1),.int .i64 (a 2)] 85)) 85 #[.int .i64 (b 0),.int .i64 (b 1),.int .i64 (b 2)]
 rw [show (w.alloc (.cells #[.int .i64 (a 0),.int .i64 (a 1),.int .i64 (a 2)] 85)).heap.size=w.heap.size+1 by simp] at hk4
 have HC:=Lib.hid (fun (q:Nat)=>compare_any _ _ _ _ a b (((w.alloc (.cells #[.int .i64 (a 0),.int .i64 (a 1),.int .i64 (a 2)] 85)).alloc (.cells #[.int .i64 (b 0),.int .i64 (b 1),.int .i64 (b 2)] 85)).drewN q) (hk2.drewN q) (hk4.drewN q))
 have hsl:=slice_ver
 clear hk2 hk4
 go_enter Tryz.func137,Tryz.ntmps137
 unfold verArr
 go_wp2
 generalize ((w.alloc (.cells #[.int .i64 (a 0),.int .i64 (a 1),.int .i64 (a 2)] 85)).alloc (.cells #[.int .i64 (b 0),.int .i64 (b 1),.int .i64 (b 2)] 85))=w1 at HB HC ⊢
 have HC2:=Lib.hid (fun (wx:World) (hx:∃ q,wx=w1.drewN q)=>show Calls Tryz.prog 185 #[.slice (some ⟨w.heap.size,0,none⟩) 3 3,.slice (some ⟨w.heap.size+1,0,none⟩) 3 3] wx (fun e w'=>e=.returned (.int .i64 (cmpV a b))∧GrowD w1 w') from by
  obtain ⟨q,rfl⟩:=hx
  refine (HC.out q).mono ?_
  rintro e w' ⟨h1,q2,rfl⟩
  exact ⟨h1,(GrowD.drewN w1 q).trans (GrowD.drewN _ q2)⟩)
 clear HC
 go_region_with (go_at_call 185;refine (HC2.out _ (by first | exact ⟨0,rfl⟩ | exact ⟨1,rfl⟩ | exact ⟨2,rfl⟩)).mono ?_;rintro e w9 ⟨rfl,hb9⟩)
 all_goals
  go_wp2
  go_ret
  exact ⟨rfl,HB.out.trans hb9⟩
theorem cfI_or (a b:ItR):orI (cmpS a.1 b.1) (cmpV (itV b) (itV a))=cfI a b:=rfl
theorem two_keep {w W:World} {g h:Nat} {t t':TypeId} {a0 a1 a2 a3 b0 b1 b2 b3:Value} (hg:Blk w g t #[a0,a1,a2,a3]) (hh:Blk w h t' #[b0,b1,b2,b3]) (hb:GrowD w W) :
  W.cell? ⟨g,0,none⟩=some a0∧W.cell? ⟨g,1,none⟩=some a1∧W.cell? ⟨g,2,none⟩=some a2∧W.cell? ⟨g,3,none⟩=some a3∧W.cell? ⟨h,0,none⟩=some b0∧W.cell? ⟨h,1,none⟩=some b1∧W.cell? ⟨h,2,none⟩=some b2∧W.cell? ⟨h,3,none⟩=some b3:=by
 have h1:=hg.below hb.bel hg.lt
 have h2:=hh.below hb.bel hh.lt
 exact ⟨h1.cell 0,h1.cell 1,h1.cell 2,h1.cell 3,h2.cell 0,h2.cell 1,h2.cell 2,h2.cell 3⟩
set_option maxHeartbeats 8000000 in
theorem new1_any (a b:ItR) (w:World):Calls Tryz.prog 134 #[.agg (itA a),.agg (itA b)] w (fun e w'=>e=.returned (.int .i64 (cfI a b))∧GrowD w w'):=by
 have HB:=hide ((GrowD.alloc w (.cells #[.string a.1,.int .i64 a.2.1,.int .i64 a.2.2.1,.int .i64 a.2.2.2] 194)).trans (GrowD.alloc _ (.cells #[.string b.1,.int .i64 b.2.1,.int .i64 b.2.2.1,.int .i64 b.2.2.2] 194)))
 have hk2:=(Blk.new w 194 #[.string a.1,.int .i64 a.2.1,.int .i64 a.2.2.1,.int .i64 a.2.2.2]).alloc (.cells #[.string b.1,.int .i64 b.2.1,.int .i64 b.2.2.1,.int .i64 b.2.2.2] 194)
 have hk3:=Blk.new (w.alloc (.cells #[.string a.1,.int .i64 a.2.1,.int .i64 a.2.2.1,.int .i64 a.2.2.2] 194)) 194 #[.string b.1,.int .i64 b.2.1,.int .i64 b.2.2.1,.int .i64 b.2.2.2]
 rw [World.size_alloc] at hk3
 have HK2:=hide hk2
 have HK3:=hide hk3
 have HV:=hide (fun W=>verCmpG_any (itV b) (itV a) W)
 have HIS:=Lib.hid (cfI_or a b)
 unfold itA
 simp only [itV_arr] at HV
 clear hk2 hk3
 go_enter Tryz.func134,Tryz.ntmps134
 go_wp2_with fail
 generalize World.alloc _ (.cells #[.string b.1,.int .i64 b.2.1,.int .i64 b.2.2.1,.int .i64 b.2.2.2] 194)=w0 at HB HK2 HK3 ⊢
 generalize w.heap.size+1=b3 at HK3 ⊢
 generalize w.heap.size=b2 at HK2 ⊢
 generalize cmpV (itV b) (itV a)=cv at HV HIS
 have HS:=hide (fun W=>cmpStr_any a.1 b.1 W)
 generalize cmpS a.1 b.1=cs at HS HIS
 have HO:=hide (fun (W:World) (g:Nat) (h:W.cell? ⟨g,0,none⟩=some (.int .i64 cs)∧W.cell? ⟨g,1,none⟩=some (.int .i64 cv))=>cmpOr_any cs cv g 2 W h.1 h.2)
 have bS:GrowD w0 w0.drew:=GrowD.drew w0
 obtain ⟨z0,z1,z2,z3,z4,z5,z6,z7⟩:=two_keep HK2.out HK3.out (GrowD.refl _)
 go_region_held3 (fun w'=>w'.cell? ⟨b2,0,none⟩=some (.string a.1)∧w'.cell? ⟨b2,1,none⟩=some (.int .i64 a.2.1)∧w'.cell? ⟨b2,2,none⟩=some (.int .i64 a.2.2.1)∧w'.cell? ⟨b2,3,none⟩=some (.int .i64 a.2.2.2)∧w'.cell? ⟨b3,0,none⟩=some (.string b.1)∧w'.cell? ⟨b3,1,none⟩=some (.int .i64 b.2.1)∧w'.cell? ⟨b3,2,none⟩=some (.int .i64 b.2.2.1)∧w'.cell? ⟨b3,3,none⟩=some (.int .i64 b.2.2.2))
  (first | exact two_keep HK2.out HK3.out ((bS.trans gv).trans (GrowD.alloc _ _)) | exact two_keep HK2.out HK3.out (bS.trans gv) | exact two_keep HK2.out HK3.out bS | exact two_keep HK2.out HK3.out (GrowD.refl _))
  (first
   | (go_at_call 136;refine (HS.out _).mono ?_;rintro e w1 ⟨rfl,rfl⟩)
   | (go_at_call 137;refine (HV.out _).mono ?_;rintro e wv ⟨rfl,gv⟩)
   | (go_at_call 135;refine (HO.out _ _ (by exact ⟨by simp,by simp⟩)).mono ?_;rintro e w1 ⟨rfl,rfl⟩))
 all_goals
  go_wp2_with fail
  go_ret
  exact ⟨by rw [←HIS.out];rfl,HB.out.trans ((bS.trans gv).trans (GrowD.alloc _ _))⟩
theorem new1_lays (blk off size:Nat) (w:World):CmpLays Tryz.prog 134 #[] itF 4 cfI blk off size w:=fun _ _ _ _ x y=>(new1_any x y _).mono fun _ _ ⟨he,hw⟩=>⟨he,growD_is hw⟩
theorem enters_new1:∀ args w,(callFunc 134 args).run Tryz.prog w=.ok (.enter 134 args) w:=enters_of Tryz.func134 (by kernel_rfl) rfl
theorem isAggIt:∀ w,(isAgg 194).run Tryz.prog w=.ok true w:=fun w=>by kernel_rfl
theorem sizeOfIt:∀ w,(Go.sizeOf 194).run Tryz.prog w=.ok 4 w:=fun w=>by kernel_rfl
section
variable {α:Type} [Inhabited α] {E:ElK α} {w:World} {base g n cap m:Nat} {l:List α} {d':Array α} {os:Array Obj}
theorem OwnK.holds (h:OwnK E w base (.slice (some ⟨g,0,none⟩) l.length cap) l):Sort.HoldsK E.f E.K w g 0 l.toArray:=by
 rcases h.form with ⟨h9,_⟩ | ⟨g',cap',e,_,_,_,hr⟩
 ·injection h9 with h9;cases h9
 ·injection e with e1 _ _
  injection e1 with e1
  injection e1 with e1
  subst e1
  intro t ht
  rw [Sort.size_flatK] at ht
  have hp:=E.pos
  have hq:t / E.K<l.length:=by
   rw [Nat.div_lt_iff_lt_mul hp]
   simpa using ht
  have hm:t % E.K<E.K:=Nat.mod_lt _ hp
  have hc:=hr.cell hq hm
  have e2:t / E.K*E.K+t % E.K=t:=Nat.div_add_mod' t E.K
  rw [e2] at hc
  rw [Sort.get_flatK _ _ _ _ ht,Nat.zero_add]
  refine ⟨?_,hr.frozen t⟩
  rw [hc]
  have e3:l.toArray[t / E.K]! = l[t / E.K]:=by rw [getElem!_pos l.toArray _ (by simpa using hq)];simp
  rw [e3,List.getElem?_eq_getElem (by rw [E.len];exact hm),getElem!_pos _ _ (by rw [E.len];exact hm)]
  rfl
theorem OwnK.sorted (h:OwnK E w base (.slice (some ⟨g,0,none⟩) l.length cap) l) (hs:d'.size=l.length):OwnK E (sortWorldK E.f E.K w g 0 m d' os) base (.slice (some ⟨g,0,none⟩) l.length cap) d'.toList:=by
 have hlen:d'.toList.length=l.length:=by simpa using hs
 rcases h.2 with ⟨h9,_⟩ | ⟨g',cap',cur,e,hg,hgc,hle,hcm,hcs,hct⟩
 ·injection h9 with h9;cases h9
 ·injection e with e1 _ e2
  injection e1 with e1
  injection e1 with e1
  subst e1 e2
  have hk:Blk w g E.t cur:=hgc
  have hp:=E.pos
  have hmul:l.length*E.K≤cap*E.K:=Nat.mul_le_mul_right _ hle
  refine ⟨E.row_len _,.inr ⟨g,cap,Sort.putCells id 0 (Sort.flatK E.f E.K d') cur,by rw [hlen],hg,?_,by rw [hlen];exact hle,hcm,by simp [Sort.putCells,hcs],?_⟩⟩
  ·have hlt:g<w.heap.size:=hk.lt
   unfold sortWorldK Sort.putRowK
   show (Sort.grow _ os).heap[g]?=_
   rw [Sort.heap_grow_old _ _ (by simpa [Sort.ahead] using hlt)]
   have hk':w.heap[g]?=some (.cells cur E.t (0,0)):=hk
   simp [Sort.putRow,Sort.mapBlock,Sort.ahead,Array.getElem?_modify,hk',Sort.onCells]
  ·apply List.ext_getElem?
   intro j
   by_cases hj:j<d'.size*E.K
   ·have hq:j / E.K<d'.toList.length:=by
     rw [Nat.div_lt_iff_lt_mul hp]
     simpa using hj
    have hm:j % E.K<E.K:=Nat.mod_lt _ hp
    have e2:j / E.K*E.K+j % E.K=j:=Nat.div_add_mod' j E.K
    have hr:=E.row_at d'.toList (j / E.K) (j % E.K) hq hm
    rw [e2] at hr
    rw [hr,List.getElem?_take_of_lt (by rw [hlen,←hs];exact hj),Array.getElem?_toList]
    simp only [Sort.putCells,Array.getElem?_mapIdx,Sort.size_flatK]
    rw [Array.getElem?_eq_getElem (show j<cur.size by rw [hcs];rw [hs] at hj;omega)]
    simp only [Option.map_some,Nat.sub_zero,id_eq]
    rw [if_pos (by omega),Sort.get_flatK _ _ _ _ hj,List.getElem?_eq_getElem (by rw [E.len];exact hm),getElem!_pos d' (j / E.K) (by simpa using hq),getElem!_pos _ _ (by rw [E.len];exact hm)]
    simp
   ·rw [List.getElem?_eq_none (by simp [hlen];rw [hs] at hj;omega),List.getElem?_eq_none (by rw [E.row_len,hlen];rw [hs] at hj;omega)]
end
theorem only_sortedK {α:Type} [Inhabited α] {enc:α→List Value} {k:Nat} {w:World} {g m:Nat} {d:Array α} {os:Array Obj}:w.grownBy (sortWorldK enc k w g 0 m d os) (some g):=by
 refine ⟨rfl,rfl,rfl,by simp [sortWorldK,Sort.putRowK,Sort.grow,Sort.ahead,Sort.putRow,Sort.mapBlock],fun i hi hne=>?_⟩
 unfold sortWorldK Sort.putRowK
 rw [Sort.heap_grow_old _ _ (by simpa [Sort.ahead] using hi)]
 have:g≠i:=fun e=>hne (by rw [e])
 simp [Sort.putRow,Sort.mapBlock,Sort.ahead,Array.getElem?_modify,this]
def SortTP (w:World) (base:Nat) (v:Value) (l:List ItR) (e:Ending) (w':World):Prop:=e=.returned (.tuple #[])∧OwnK elJ w' base v (srtI l)∧w.grownBy w' v.ownBlock
theorem sortIt_any (v:Value) (base:Nat) (l:List ItR) (w:World) (h:OwnK elJ w base v l) (hl:l.length≤1000000):Calls Tryz.prog 133 #[v,.func (.func 134) #[] #[]] w (SortTP w base v l):=by
 rcases h.form with ⟨rfl,rfl⟩ | ⟨g,cap,rfl,hg,_,_,hr⟩
 ·refine (AnyF.slices_SortFunc_none Tryz.sortIt none 0 _ w).mono ?_
  rintro e w' ⟨rfl,rfl⟩
  exact ⟨rfl,ownK_nil _ _ _,World.grownBy.refl _ _⟩
 ·refine (AnyQ.slices_SortFunc Tryz.sortIt 4 isAggIt sizeOfIt itF (fun _=>rfl) itF_one cfI swoI 134 #[] g 0 cap l.toArray w enters_new1 (new1_lays _ _ _ _) h.holds hr.lt (by simp;omega)).mono ?_
  rintro e w' ⟨rfl,d',n,os,hp,hs,rfl⟩
  have hsz:d'.size=l.length:=by simpa using hp.1
  have h2:=hp.2.2
  have e1:d'.extract 0 l.toArray.size=d':=by rw [←hp.1];simp
  have e2:l.toArray.extract 0 l.toArray.size=l.toArray:=by simp
  rw [e1,e2] at h2
  have hrise:RiseT d'.toList:=by
   unfold RiseT
   rw [List.pairwise_iff_getElem]
   intro i j hi hj hij
   have hi':i<d'.size:=by simpa using hi
   have hj':j<d'.size:=by simpa using hj
   have h9:=hs i j (Nat.zero_le _) hij (by rw [←hp.1];exact hj')
   rw [getElem!_pos d' j hj',getElem!_pos d' i hi'] at h9
   have h8:ltI d'[j] d'[i]=false:=h9
   simpa using h8
  have hd:d'.toList=srtI l:=by
   obtain ⟨r1,r2⟩:=srtI_spec l
   exact rise_one hrise r1 ((show d'.toList.Perm l by simpa using h2).trans r2.symm)
  have hso:=OwnK.sorted (m:=n) (os:=os) h hsz
  refine ⟨rfl,?_,only_sortedK⟩
  rw [←hd]
  unfold OwnK at hso ⊢
  rw [show d'.toList.length=l.length by simpa using hsz] at hso ⊢
  exact hso
end Go.Proofs.YtojgbcmhdnappaaGreatDoor
namespace Go.Proofs.YtojgbcmhdnappaaGreatDoor
open Go.RowKit
set_option maxRecDepth 100000
theorem stepK1 {α:Type} (E:ElK α) (w:World) {ops:Array Oper} {o:Oper} {a:Act} {K:Act→World→Prop} {Q:Exit→Act→World→Prop} {X:Prop} {z:Value} {bytes:Nat} (hin:(Tryz.prog.info? E.t).map (fun i=>(i.zero,i.size,i.bytes))=some (some z,E.K,bytes)) (hz:z.cells.size=E.K) (hby:bytes≤1000) (hgd:o.guard=none) (s x:Operand) (t:TypeId)
  (ho:o.op=.call { callee:=.builtin .append,args:=#[s,x],argTypes:=#[t,t] }) (base:Nat) (ht:Tryz.prog.underlying t=some (.slice E.t))
  (v:Value) (l:List α) (hs:a.eval s=v) (hown:OwnK E w base v l) (b c:Nat) (q:α) (hx:a.eval x=.slice (some ⟨b,0,none⟩) 1 c) (hk:Blk w b E.t (E.f q).toArray)
  (hl:l.length≤90000000) (hbase:base≤w.heap.size)
  (h:∀ v' w',OwnK E w' base v' (l++[q])→w.grownBy w' v.ownBlock→(v'.ownBlock=v.ownBlock∨v'.ownBlock=some w.heap.size)→K (a.put o.dst v') w') :
  if Region.wanted o (yielded ops a.tmps)=true then Oper.wp Tryz.prog o a w K Q else X:=by
 obtain ⟨i0,hi,hz0,hz1,hz2⟩:=info_parts hin
 have hb2:(l.length+1)*bytes≤100000000*1000:=Nat.mul_le_mul (by omega) hby
 refine step_append_any w hgd s x t ho base E.t i0 z E.K bytes ht hi hz0 hz1 hz2 hz E.pos v l.length _ hs hown (b+1) (some ⟨b,0,none⟩) 1 c (E.row [q]) hx (one_readsK E hk) (E.row_oneCell [q]) (by simp only [maxLen];omega) (by omega) hbase ?_
 intro v' w' ho' hg' hor
 refine h v' w' ?_ hg' hor
 unfold OwnK
 rw [List.length_append,E.row_app]
 exact ho'
theorem ownK_empty {α:Type} (E:ElK α) (w:World) (base:Nat) (hb:base≤w.heap.size):OwnK E (w.alloc (.cells #[] E.t)) base (.slice (some ⟨w.heap.size,0,none⟩) 0 0) [] :=
 World.ownsRow_lit (e:=E.t) (size:=E.K) w #[] 0 hb (Nat.zero_le _) (by simp)
theorem nilLn_none (n c:Nat) (w:World):(binOp .eql 165 (.slice none n c) (.slice none 0 0)).run Tryz.prog w=.ok (.bool true) w:=by kernel_rfl
theorem nilLn_some (ad:Addr) (n c:Nat) (w:World):(binOp .eql 165 (.slice (some ad) n c) (.slice none 0 0)).run Tryz.prog w=.ok (.bool false) w:=by kernel_rfl
theorem nilIt_none (n c:Nat) (w:World):(binOp .eql 190 (.slice none n c) (.slice none 0 0)).run Tryz.prog w=.ok (.bool true) w:=by kernel_rfl
theorem nilIt_some (ad:Addr) (n c:Nat) (w:World):(binOp .eql 190 (.slice (some ad) n c) (.slice none 0 0)).run Tryz.prog w=.ok (.bool false) w:=by kernel_rfl
def CloneK {α:Type} (E:ElK α) (l:List α) (w:World) (e:Ending) (w':World):Prop:=∃ v,e=.returned v∧OwnK E w' w.heap.size v l∧Below w.heap.size w w'
set_option maxHeartbeats 4000000 in
theorem cloneLn_any (v:Value) (l:List LnQ) (w:World) (h:OwnK elP w 0 v l) (hl:l.length≤1000000):Calls Tryz.prog 138 #[v] w (CloneK elP l w):=by
 have HO:=hide (h.below ((Below.refl w.heap.size w).alloc (Nat.le_refl _) (.cells #[] 90)))
 have HB:=hide ((Below.refl w.heap.size w).alloc (Nat.le_refl _) (.cells #[] 90))
 have HE:=hide (ownK_empty elP w w.heap.size (Nat.le_refl _))
 rcases h.form with ⟨rfl,rfl⟩ | ⟨g,cap,rfl,_⟩
 ·have hn:=nilLn_none
  go_enter Tryz.func138,Tryz.ntmps138
  go_wp2_with fail
  go_ret
  exact ⟨_,rfl,ownK_nil _ _ _,Below.refl _ _⟩
 ·have hn:=nilLn_some
  clear h
  obtain ⟨_,hr⟩:=HO.out.reads
  have HR:=hide hr
  clear hr
  go_enter Tryz.func138,Tryz.ntmps138
  go_wp2_with (first | (at_builtin;refine appK elP _ linePInfo rfl (by decide) rfl _ _ 165 rfl w.heap.size Tryz.underlying165 _ [] rfl HE.out _ _ _ _ l rfl rfl HR.out (by simp;omega) HB.out.size ?_;intro v' w' ho' hg' hor))
  go_ret
  exact ⟨v',rfl,by simpa using ho',HB.out.grown hg' HB.out.size (fun k e=>by have:w.heap.size=k:=Option.some.inj e;omega)⟩
set_option maxHeartbeats 4000000 in
theorem cloneIt_any (v:Value) (l:List ItR) (w:World) (h:OwnK elJ w 0 v l) (hl:l.length≤1000000):Calls Tryz.prog 148 #[v] w (CloneK elJ l w):=by
 have HO:=hide (h.below ((Below.refl w.heap.size w).alloc (Nat.le_refl _) (.cells #[] 194)))
 have HB:=hide ((Below.refl w.heap.size w).alloc (Nat.le_refl _) (.cells #[] 194))
 have HE:=hide (ownK_empty elJ w w.heap.size (Nat.le_refl _))
 rcases h.form with ⟨rfl,rfl⟩ | ⟨g,cap,rfl,_⟩
 ·have hn:=nilIt_none
  go_enter Tryz.func148,Tryz.ntmps148
  go_wp2_with fail
  go_ret
  exact ⟨_,rfl,ownK_nil _ _ _,Below.refl _ _⟩
 ·have hn:=nilIt_some
  clear h
  obtain ⟨_,hr⟩:=HO.out.reads
  have HR:=hide hr
  clear hr
  go_enter Tryz.func148,Tryz.ntmps148
  go_wp2_with (first | (at_builtin;refine appK elJ _ itemJInfo rfl (by decide) rfl _ _ 190 rfl w.heap.size Tryz.underlying190 _ [] rfl HE.out _ _ _ _ l rfl rfl HR.out (by simp;omega) HB.out.size ?_;intro v' w' ho' hg' hor))
  go_ret
  exact ⟨v',rfl,by simpa using ho',HB.out.grown hg' HB.out.size (fun k e=>by have:w.heap.size=k:=Option.some.inj e;omega)⟩
end Go.Proofs.YtojgbcmhdnappaaGreatDoor
