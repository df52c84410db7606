/-
  A part of the proof: RefParse. Conditions: none.
-/
import Derived.Test.YtojgbcmhdnappaaGreatDoorAlRefOps
import Derived.Test.YtojgbcmhdnappaaGreatDoorAlSpWord2
import Derived.Test.YtojgbcmhdnappaaGreatDoorAlRgWordC
namespace Go.Proofs.YtojgbcmhdnappaaGreatDoor
open Go.RowKit
set_option maxRecDepth 100000
theorem contains_op:(fun c=>opsB.contains c)=isOp:=by
 funext c
 simp [opsB,isOp,Bool.or_assoc]
 rfl
theorem info116:(Tryz.prog.info? (Tryz.lays161_ren.t 116)).map (fun i=>(i.zero,i.size))=some (some (.agg (Array.replicate 256 (.bool false))),256):=by kernel_rfl
def TrimP (s:ByteArray) (w:World) (e:Ending) (w':World):Prop:=e=.returned (.string (baL (restL s.data.toList)))∧Below w.heap.size w w'
theorem trim_any (s:ByteArray) (w:World):Calls Tryz.prog 169 #[.string s,.string ⟨#[61,33,60,62,94,126]⟩] w (TrimP s w):=by
 have h:=Any.strings_TrimLeft_laid Tryz.lays161 info116 s ⟨#[61,33,60,62,94,126]⟩ w (by decide) (by
  intro j b hb
  have hm:=List.mem_of_getElem? hb
  simp at hm
  rcases hm with rfl | rfl | rfl | rfl | rfl | rfl <;> decide)
 have e:Lib.trimLeftS s.data.toList [61,33,60,62,94,126]=restL s.data.toList:=by
  unfold Lib.trimLeftS restL
  rw [←contains_op]
  rfl
 rw [show (ByteArray.mk #[61,33,60,62,94,126]).data.toList=[61,33,60,62,94,126] from rfl,e] at h
 exact h
def RefWordP (s:ByteArray) (w:World) (e:Ending) (w':World):Prop :=
 ∃ v,e=.returned (.tuple #[v,.int .i64 (wordE s.data.toList)])∧(wordE s.data.toList=0→OwnI w' w.heap.size v (flatI (wordC s.data.toList)))∧Below w.heap.size w w'
set_option maxHeartbeats 4000000 in
theorem refWord_walk (s:ByteArray) (w:World) (hG:GlobV w) (hs:s.size≤1000) (h1:s.data.toList≠anyW) (h2:s.data.toList≠noneW):Calls Tryz.prog 122 #[.string s] w (RefWordP s w):=by
 have e1:(s.toList==[97,110,121])=false:=by rw [ByteArray.toList_eq];exact beq_eq_false_iff_ne.2 h1
 have e2:(s.toList==[110,111,110,101])=false:=by rw [ByteArray.toList_eq];exact beq_eq_false_iff_ne.2 h2
 have HWE:=Lib.hid (show wordE s.data.toList=if verE (baL (restL s.data.toList))≠0 then verE (baL (restL s.data.toList)) else if opK (opL s.data.toList)=0 then 3 else 0 by unfold wordE;rw [if_neg (fun h=>h.elim h1 h2)])
 have HWC:=Lib.hid (show wordC s.data.toList=opC (opK (opL s.data.toList)) (verV (baL (restL s.data.toList))) by unfold wordC;rw [if_neg h1,if_neg h2])
 have hlen:(opL s.data.toList).length+(baL (restL s.data.toList)).size=s.size:=by
  rw [baL_size,←List.length_append,op_rest]
  rfl
 have hq:s.extract 0 (opL s.data.toList).length=baL (opL s.data.toList):=by
  rw [sub_to]
  congr 1
  conv=>lhs;arg 2;rw [←op_rest s.data.toList]
  simp
 have hrs:(baL (restL s.data.toList)).size≤21000:=by omega
 have hsub:(s.size:Int)-((baL (restL s.data.toList)).size:Int)=((opL s.data.toList).length:Int):=by omega
 have hsz:(opL s.data.toList).length≤s.size:=by omega
 have HT:=hide (trim_any s w)
 unfold TrimP at HT
 generalize baL (restL s.data.toList)=r at HWE HWC hrs hsub HT
 generalize opL s.data.toList=o at HWE HWC hq hsub hsz
 clear hlen
 generalize hk:o.length=k at hq hsub hsz
 have hkz:(k:Int)≤(s.size:Int):=by omega
 go_enter Tryz.func122,Tryz.ntmps122
 go_wp2_with fail
 refine HT.out.mono ?_
 rintro e wa ⟨rfl,hba⟩
 have HBA:=hide hba
 go_wp2_with fail
 refine (refVerParse_any r wa (hG.below hba) hrs).mono ?_
 clear hba HT e1 e2
 rintro e wb ⟨rfl,hbb⟩
 unfold verArr
 have HBB:=hide (HBA.out.trans (hbb.mono HBA.out.size))
 clear hbb
 by_cases hv:verE r=0
 ·have hle:=verV_le hv
  rw [hv] at HWE
  rw [hv]
  have HNU:=hide fun W=>refNum_any (verV r) W (fun j hj=>by have:=hle j hj;omega)
  have HTI:=hide fun W=>refNum_any (fun3 (verV r 0) (verV r 1+1) 0) W (fun3_ok (by have:=hle 0 (by omega);omega) (by have:=hle 1 (by omega);omega) (by omega))
  have et:numV3 (fun3 (verV r 0) (verV r 1+1) 0)=tildeN (verV r):=by
   have h0:=hle 0 (by omega)
   have h1:=hle 1 (by omega)
   show (verV r 0).toNat*1000000+(verV r 1+1).toNat*1000+(0:Int).toNat=(verV r 0).toNat*1000000+((verV r 1).toNat+1)*1000
   omega
  rw [et] at HTI
  unfold verArr at HNU HTI
  simp only [fun3,if_true,if_neg (show ¬(1:Nat)=0 by omega),if_neg (show ¬(2:Nat)=0 by omega),if_neg (show ¬(2:Nat)=1 by omega)] at HTI
  have HBV:=hide (HBB.out.alloc HBB.out.size (.cells #[.int .i64 (verV r 0),.int .i64 (verV r 1),.int .i64 (verV r 2)] 30))
  have HVV:=hide (Blk.new wb 30 #[.int .i64 (verV r 0),.int .i64 (verV r 1),.int .i64 (verV r 2)])
  generalize verV r=f at hle HWC HNU HTI et HBV HVV ⊢
  have h0':=hle 0 (by omega)
  have h1':=hle 1 (by omega)
  have h2':=hle 2 (by omega)
  have hN:numV3 f≤999999999:=by
   unfold numV3
   omega
  generalize hNN:numV3 f=N at HNU hN
  have hN0:(N:Int)≤999999999:=by omega
  rcases op_cases o with rfl | rfl | rfl | rfl | rfl | rfl | rfl | rfl | rfl | ⟨q0,q1,q2,q3,q4,q5,q6,q7,q8⟩
  ·have hq2:s.extract 0 k=⟨#[]⟩:=hq
   clear hq
   have HLL:=Lib.hid (show opC (opK []) f=rowC (N) (N+1) from by rw [←hNN];rfl)
   go_wp2_with fail
   refine (HNU.out _).mono ?_
   generalize (wb.alloc (.cells #[.int .i64 (f 0),.int .i64 (f 1),.int .i64 (f 2)] 30))=wc at HBV HVV ⊢
   generalize wb.heap.size=vb at HVV ⊢
   rintro e wd ⟨rfl,hbd⟩
   have HV2:=hide (HVV.out.below hbd HVV.out.lt)
   have HB2:=hide (HBV.out.trans (hbd.mono HBV.out.size))
   clear HBV HVV hbd
   have hrow:=row_any (N) (N+1) wd
   rw [Int.natCast_add] at hrow
   skip
   go_wp2_with fail
   refine hrow.mono ?_
   rintro e w8 ⟨v8,rfl,ho8,hb8⟩
   rw [←HLL.out,←HWC.out] at ho8
   go_wp2_with fail
   go_ret2
   exact ⟨_,by rw [HWE.out];rfl,fun _=>ho8.mono HB2.out.size,HB2.out.trans (hb8.mono HB2.out.size)⟩
  ·have hq2:s.extract 0 k=⟨#[61]⟩:=hq
   clear hq
   have HLL:=Lib.hid (show opC (opK [61]) f=rowC (N) (N+1) from by rw [←hNN];rfl)
   go_wp2_with fail
   refine (HNU.out _).mono ?_
   generalize (wb.alloc (.cells #[.int .i64 (f 0),.int .i64 (f 1),.int .i64 (f 2)] 30))=wc at HBV HVV ⊢
   generalize wb.heap.size=vb at HVV ⊢
   rintro e wd ⟨rfl,hbd⟩
   have HV2:=hide (HVV.out.below hbd HVV.out.lt)
   have HB2:=hide (HBV.out.trans (hbd.mono HBV.out.size))
   clear HBV HVV hbd
   have hrow:=row_any (N) (N+1) wd
   rw [Int.natCast_add] at hrow
   skip
   go_wp2_with fail
   refine hrow.mono ?_
   rintro e w8 ⟨v8,rfl,ho8,hb8⟩
   rw [←HLL.out,←HWC.out] at ho8
   go_wp2_with fail
   go_ret2
   exact ⟨_,by rw [HWE.out];rfl,fun _=>ho8.mono HB2.out.size,HB2.out.trans (hb8.mono HB2.out.size)⟩
  ·have hq2:s.extract 0 k=⟨#[33]⟩:=hq
   clear hq
   have HLL:=Lib.hid (show opC (opK [33]) f=notC (rowC (N) (N+1)) from by rw [←hNN];rfl)
   go_wp2_with fail
   refine (HNU.out _).mono ?_
   generalize (wb.alloc (.cells #[.int .i64 (f 0),.int .i64 (f 1),.int .i64 (f 2)] 30))=wc at HBV HVV ⊢
   generalize wb.heap.size=vb at HVV ⊢
   rintro e wd ⟨rfl,hbd⟩
   have HV2:=hide (HVV.out.below hbd HVV.out.lt)
   have HB2:=hide (HBV.out.trans (hbd.mono HBV.out.size))
   clear HBV HVV hbd
   have hrow:=row_any N (N+1) wd
   rw [Int.natCast_add] at hrow
   go_wp2_with fail
   refine hrow.mono ?_
   rintro e w7 ⟨v7,rfl,ho7,hb7⟩
   go_wp2_with fail
   refine (refNot_any v7 _ w7 (ho7.mono (Nat.zero_le _)) (row_can (f:=N) (t:=N+1) (by unfold endR;omega))).mono ?_
   rintro e w8 ⟨v8,rfl,ho8,hb8⟩
   have HB3:=hide (HB2.out.trans (hb7.mono HB2.out.size))
   rw [←HLL.out,←HWC.out] at ho8
   go_wp2_with fail
   go_ret2
   exact ⟨_,by rw [HWE.out];rfl,fun _=>ho8.mono HB3.out.size,HB3.out.trans (hb8.mono HB3.out.size)⟩
  ·have hq2:s.extract 0 k=⟨#[60]⟩:=hq
   clear hq
   have HLL:=Lib.hid (show opC (opK [60]) f=rowC (0) (N) from by rw [←hNN];rfl)
   go_wp2_with fail
   refine (HNU.out _).mono ?_
   generalize (wb.alloc (.cells #[.int .i64 (f 0),.int .i64 (f 1),.int .i64 (f 2)] 30))=wc at HBV HVV ⊢
   generalize wb.heap.size=vb at HVV ⊢
   rintro e wd ⟨rfl,hbd⟩
   have HV2:=hide (HVV.out.below hbd HVV.out.lt)
   have HB2:=hide (HBV.out.trans (hbd.mono HBV.out.size))
   clear HBV HVV hbd
   have hrow:=row_any (0) (N) wd
   skip
   skip
   go_wp2_with fail
   refine hrow.mono ?_
   rintro e w8 ⟨v8,rfl,ho8,hb8⟩
   rw [←HLL.out,←HWC.out] at ho8
   go_wp2_with fail
   go_ret2
   exact ⟨_,by rw [HWE.out];rfl,fun _=>ho8.mono HB2.out.size,HB2.out.trans (hb8.mono HB2.out.size)⟩
  ·have hq2:s.extract 0 k=⟨#[60,61]⟩:=hq
   clear hq
   have HLL:=Lib.hid (show opC (opK [60,61]) f=rowC (0) (N+1) from by rw [←hNN];rfl)
   go_wp2_with fail
   refine (HNU.out _).mono ?_
   generalize (wb.alloc (.cells #[.int .i64 (f 0),.int .i64 (f 1),.int .i64 (f 2)] 30))=wc at HBV HVV ⊢
   generalize wb.heap.size=vb at HVV ⊢
   rintro e wd ⟨rfl,hbd⟩
   have HV2:=hide (HVV.out.below hbd HVV.out.lt)
   have HB2:=hide (HBV.out.trans (hbd.mono HBV.out.size))
   clear HBV HVV hbd
   have hrow:=row_any (0) (N+1) wd
   rw [Int.natCast_add] at hrow
   skip
   go_wp2_with fail
   refine hrow.mono ?_
   rintro e w8 ⟨v8,rfl,ho8,hb8⟩
   rw [←HLL.out,←HWC.out] at ho8
   go_wp2_with fail
   go_ret2
   exact ⟨_,by rw [HWE.out];rfl,fun _=>ho8.mono HB2.out.size,HB2.out.trans (hb8.mono HB2.out.size)⟩
  ·have hq2:s.extract 0 k=⟨#[62]⟩:=hq
   clear hq
   have HLL:=Lib.hid (show opC (opK [62]) f=rowC (N+1) (endR) from by rw [←hNN];rfl)
   go_wp2_with fail
   refine (HNU.out _).mono ?_
   generalize (wb.alloc (.cells #[.int .i64 (f 0),.int .i64 (f 1),.int .i64 (f 2)] 30))=wc at HBV HVV ⊢
   generalize wb.heap.size=vb at HVV ⊢
   rintro e wd ⟨rfl,hbd⟩
   have HV2:=hide (HVV.out.below hbd HVV.out.lt)
   have HB2:=hide (HBV.out.trans (hbd.mono HBV.out.size))
   clear HBV HVV hbd
   have hrow:=row_any (N+1) (endR) wd
   rw [Int.natCast_add] at hrow
   rw [show ((endR:Nat):Int)=1000000000 from rfl] at hrow
   go_wp2_with fail
   refine hrow.mono ?_
   rintro e w8 ⟨v8,rfl,ho8,hb8⟩
   rw [←HLL.out,←HWC.out] at ho8
   go_wp2_with fail
   go_ret2
   exact ⟨_,by rw [HWE.out];rfl,fun _=>ho8.mono HB2.out.size,HB2.out.trans (hb8.mono HB2.out.size)⟩
  ·have hq2:s.extract 0 k=⟨#[62,61]⟩:=hq
   clear hq
   have HLL:=Lib.hid (show opC (opK [62,61]) f=rowC (N) (endR) from by rw [←hNN];rfl)
   go_wp2_with fail
   refine (HNU.out _).mono ?_
   generalize (wb.alloc (.cells #[.int .i64 (f 0),.int .i64 (f 1),.int .i64 (f 2)] 30))=wc at HBV HVV ⊢
   generalize wb.heap.size=vb at HVV ⊢
   rintro e wd ⟨rfl,hbd⟩
   have HV2:=hide (HVV.out.below hbd HVV.out.lt)
   have HB2:=hide (HBV.out.trans (hbd.mono HBV.out.size))
   clear HBV HVV hbd
   have hrow:=row_any (N) (endR) wd
   skip
   rw [show ((endR:Nat):Int)=1000000000 from rfl] at hrow
   go_wp2_with fail
   refine hrow.mono ?_
   rintro e w8 ⟨v8,rfl,ho8,hb8⟩
   rw [←HLL.out,←HWC.out] at ho8
   go_wp2_with fail
   go_ret2
   exact ⟨_,by rw [HWE.out];rfl,fun _=>ho8.mono HB2.out.size,HB2.out.trans (hb8.mono HB2.out.size)⟩
  ·have hq2:s.extract 0 k=⟨#[94]⟩:=hq
   clear hq
   have HLL:=Lib.hid (show opC (opK [94]) f=rowC (N) (caretN f) from by rw [←hNN];rfl)
   go_wp2_with fail
   refine (HNU.out _).mono ?_
   generalize (wb.alloc (.cells #[.int .i64 (f 0),.int .i64 (f 1),.int .i64 (f 2)] 30))=wc at HBV HVV ⊢
   generalize wb.heap.size=vb at HVV ⊢
   rintro e wd ⟨rfl,hbd⟩
   have HV2:=hide (HVV.out.below hbd HVV.out.lt)
   have HB2:=hide (HBV.out.trans (hbd.mono HBV.out.size))
   clear HBV HVV hbd
   have y0:=HV2.out.cell 0
   have y1:=HV2.out.cell 1
   have y2:=HV2.out.cell 2
   have z0:∀ o,(wd.alloc o).cell? ⟨vb,0,none⟩=some (.int .i64 (f 0)):=fun o=>(HV2.out.alloc o).cell 0
   have z1:∀ o,(wd.alloc o).cell? ⟨vb,1,none⟩=some (.int .i64 (f 1)):=fun o=>(HV2.out.alloc o).cell 1
   have z2:∀ o,(wd.alloc o).cell? ⟨vb,2,none⟩=some (.int .i64 (f 2)):=fun o=>(HV2.out.alloc o).cell 2
   by_cases ha:0<f 0
   ·by_cases hb:0<f 1
    ·have HCX:=hide fun W=>refNum_any (fun3 (f 0+1) 0 0) W (fun3_ok (by omega) (by omega) (by omega))
     have ec:numV3 (fun3 (f 0+1) 0 0)=caretN f:=by
      show (f 0+1).toNat*1000000+(0:Int).toNat*1000+(0:Int).toNat=caretN f
      unfold caretN
      rw [if_pos ha]
      omega
     rw [ec] at HCX
     unfold verArr at HCX
     simp only [fun3,if_true,if_neg (show ¬(1:Nat)=0 by omega),if_neg (show ¬(2:Nat)=0 by omega),if_neg (show ¬(2:Nat)=1 by omega)] at HCX
     go_wp2_with fail
     refine (HCX.out _).mono ?_
     rintro e we ⟨rfl,hbe⟩
     have HB3:=hide ((HB2.out.alloc HB2.out.size _).trans (hbe.mono (by have:=HB2.out.size;simp;omega)))
     clear hbe HB2
     go_wp2_with fail
     refine (row_any N (caretN f) _).mono ?_
     rintro e w8 ⟨v8,rfl,ho8,hb8⟩
     rw [←HLL.out,←HWC.out] at ho8
     go_wp2_with fail
     go_ret2
     exact ⟨_,by rw [HWE.out];rfl,fun _=>ho8.mono HB3.out.size,HB3.out.trans (hb8.mono HB3.out.size)⟩
    ·have HCX:=hide fun W=>refNum_any (fun3 (f 0+1) 0 0) W (fun3_ok (by omega) (by omega) (by omega))
     have ec:numV3 (fun3 (f 0+1) 0 0)=caretN f:=by
      show (f 0+1).toNat*1000000+(0:Int).toNat*1000+(0:Int).toNat=caretN f
      unfold caretN
      rw [if_pos ha]
      omega
     rw [ec] at HCX
     unfold verArr at HCX
     simp only [fun3,if_true,if_neg (show ¬(1:Nat)=0 by omega),if_neg (show ¬(2:Nat)=0 by omega),if_neg (show ¬(2:Nat)=1 by omega)] at HCX
     go_wp2_with fail
     refine (HCX.out _).mono ?_
     rintro e we ⟨rfl,hbe⟩
     have HB3:=hide ((HB2.out.alloc HB2.out.size _).trans (hbe.mono (by have:=HB2.out.size;simp;omega)))
     clear hbe HB2
     go_wp2_with fail
     refine (row_any N (caretN f) _).mono ?_
     rintro e w8 ⟨v8,rfl,ho8,hb8⟩
     rw [←HLL.out,←HWC.out] at ho8
     go_wp2_with fail
     go_ret2
     exact ⟨_,by rw [HWE.out];rfl,fun _=>ho8.mono HB3.out.size,HB3.out.trans (hb8.mono HB3.out.size)⟩
   ·by_cases hb:0<f 1
    ·have HCX:=hide fun W=>refNum_any (fun3 (f 0) (f 1+1) 0) W (fun3_ok (by omega) (by omega) (by omega))
     have ec:numV3 (fun3 (f 0) (f 1+1) 0)=caretN f:=by
      show (f 0).toNat*1000000+(f 1+1).toNat*1000+(0:Int).toNat=caretN f
      unfold caretN
      rw [if_neg ha,if_pos hb]
      omega
     rw [ec] at HCX
     unfold verArr at HCX
     simp only [fun3,if_true,if_neg (show ¬(1:Nat)=0 by omega),if_neg (show ¬(2:Nat)=0 by omega),if_neg (show ¬(2:Nat)=1 by omega)] at HCX
     go_wp2_with fail
     refine (HCX.out _).mono ?_
     rintro e we ⟨rfl,hbe⟩
     have HB3:=hide ((HB2.out.alloc HB2.out.size _).trans (hbe.mono (by have:=HB2.out.size;simp;omega)))
     clear hbe HB2
     go_wp2_with fail
     refine (row_any N (caretN f) _).mono ?_
     rintro e w8 ⟨v8,rfl,ho8,hb8⟩
     rw [←HLL.out,←HWC.out] at ho8
     go_wp2_with fail
     go_ret2
     exact ⟨_,by rw [HWE.out];rfl,fun _=>ho8.mono HB3.out.size,HB3.out.trans (hb8.mono HB3.out.size)⟩
    ·have HCX:=hide fun W=>refNum_any (fun3 (f 0) (f 1) (f 2+1)) W (fun3_ok (by omega) (by omega) (by omega))
     have ec:numV3 (fun3 (f 0) (f 1) (f 2+1))=caretN f:=by
      show (f 0).toNat*1000000+(f 1).toNat*1000+(f 2+1).toNat=caretN f
      unfold caretN
      rw [if_neg ha,if_neg hb]
      omega
     rw [ec] at HCX
     unfold verArr at HCX
     simp only [fun3,if_true,if_neg (show ¬(1:Nat)=0 by omega),if_neg (show ¬(2:Nat)=0 by omega),if_neg (show ¬(2:Nat)=1 by omega)] at HCX
     go_wp2_with fail
     refine (HCX.out _).mono ?_
     rintro e we ⟨rfl,hbe⟩
     have HB3:=hide ((HB2.out.alloc HB2.out.size _).trans (hbe.mono (by have:=HB2.out.size;simp;omega)))
     clear hbe HB2
     go_wp2_with fail
     refine (row_any N (caretN f) _).mono ?_
     rintro e w8 ⟨v8,rfl,ho8,hb8⟩
     rw [←HLL.out,←HWC.out] at ho8
     go_wp2_with fail
     go_ret2
     exact ⟨_,by rw [HWE.out];rfl,fun _=>ho8.mono HB3.out.size,HB3.out.trans (hb8.mono HB3.out.size)⟩
  ·have hq2:s.extract 0 k=⟨#[126]⟩:=hq
   clear hq
   have HLL:=Lib.hid (show opC (opK [126]) f=rowC (N) (tildeN f) from by rw [←hNN];rfl)
   go_wp2_with fail
   refine (HNU.out _).mono ?_
   generalize (wb.alloc (.cells #[.int .i64 (f 0),.int .i64 (f 1),.int .i64 (f 2)] 30))=wc at HBV HVV ⊢
   generalize wb.heap.size=vb at HVV ⊢
   rintro e wd ⟨rfl,hbd⟩
   have HV2:=hide (HVV.out.below hbd HVV.out.lt)
   have HB2:=hide (HBV.out.trans (hbd.mono HBV.out.size))
   clear HBV HVV hbd
   have y0:=HV2.out.cell 0
   have y1:=HV2.out.cell 1
   go_wp2_with fail
   refine (HTI.out _).mono ?_
   rintro e we ⟨rfl,hbe⟩
   have HB3:=hide (HB2.out.trans (hbe.mono HB2.out.size))
   clear y0 y1 hbe HB2 HV2
   go_wp2_with fail
   refine (row_any N (tildeN f) _).mono ?_
   rintro e w8 ⟨v8,rfl,ho8,hb8⟩
   rw [←HLL.out,←HWC.out] at ho8
   go_wp2_with fail
   go_ret2
   exact ⟨_,by rw [HWE.out];rfl,fun _=>ho8.mono HB3.out.size,HB3.out.trans (hb8.mono HB3.out.size)⟩
  ·have hTL:(baL o).toList=o:=baL_list o
   have b0:(baL o).toList.isEmpty=false:=by rw [hTL];cases o with | nil=>exact absurd rfl q0 | cons x r=>rfl
   have b1:((baL o).toList==[61])=false:=by rw [hTL];exact beq_eq_false_iff_ne.2 q1
   have b2:((baL o).toList==[33])=false:=by rw [hTL];exact beq_eq_false_iff_ne.2 q2
   have b3:((baL o).toList==[60])=false:=by rw [hTL];exact beq_eq_false_iff_ne.2 q3
   have b4:((baL o).toList==[60,61])=false:=by rw [hTL];exact beq_eq_false_iff_ne.2 q4
   have b5:((baL o).toList==[62])=false:=by rw [hTL];exact beq_eq_false_iff_ne.2 q5
   have b6:((baL o).toList==[62,61])=false:=by rw [hTL];exact beq_eq_false_iff_ne.2 q6
   have b7:((baL o).toList==[94])=false:=by rw [hTL];exact beq_eq_false_iff_ne.2 q7
   have b8:((baL o).toList==[126])=false:=by rw [hTL];exact beq_eq_false_iff_ne.2 q8
   clear hTL
   have hk0:opK o=0:=by unfold opK;rw [if_neg (by simp [q0,q1]),if_neg q2,if_neg q3,if_neg q4,if_neg q5,if_neg q6,if_neg q8,if_neg q7]
   have hW3:wordE s.data.toList=3:=by rw [HWE.out,hk0];rfl
   go_wp2_with fail
   refine (HNU.out _).mono ?_
   generalize (wb.alloc (.cells #[.int .i64 (f 0),.int .i64 (f 1),.int .i64 (f 2)] 30))=wc at HBV HVV ⊢
   generalize wb.heap.size=vb at HVV ⊢
   rintro e wd ⟨rfl,hbd⟩
   have HV2:=hide (HVV.out.below hbd HVV.out.lt)
   have HB2:=hide (HBV.out.trans (hbd.mono HBV.out.size))
   clear HBV HVV hbd
   go_wp2_with fail
   go_ret2
   exact ⟨_,by rw [hW3];rfl,fun h=>absurd (hW3.symm.trans h) (by decide),HB2.out⟩
 ·have hne:wordE s.data.toList=verE r:=by rw [HWE.out,if_pos hv]
  have HBV:=hide (HBB.out.alloc HBB.out.size (.cells #[.int .i64 (verV r 0),.int .i64 (verV r 1),.int .i64 (verV r 2)] 30))
  have hvb:(verE r==0)=false:=beq_eq_false_iff_ne.2 hv
  generalize verE r=E at hv hne hvb ⊢
  generalize verV r=f at HBV ⊢
  go_wp2_with fail
  go_ret2
  exact ⟨_,by rw [hne];rfl,fun h=>absurd (hne.symm.trans h) hv,HBV.out⟩
end Go.Proofs.YtojgbcmhdnappaaGreatDoor
namespace Go.Proofs.YtojgbcmhdnappaaGreatDoor
open Go.RowKit
theorem refWord_known (w:World):Calls Tryz.prog 122 #[.string ⟨#[97,110,121]⟩] w (RefWordP ⟨#[97,110,121]⟩ w):=by
 have hE:wordE (ByteArray.mk #[97,110,121]).data.toList=0:=by unfold wordE;rw [if_pos (.inl rfl)]
 have hC0:wordC anyW=rowC 0 endR:=by unfold wordC;rw [if_pos rfl];rfl
 have hC:wordC (ByteArray.mk #[97,110,121]).data.toList=rowC 0 endR:=hC0
 have hrow:=row_any 0 endR w
 rw [show ((endR:Nat):Int)=1000000000 from rfl,show ((0:Nat):Int)=0 from rfl] at hrow
 unfold RefWordP
 rw [hE,hC]
 go_enter Tryz.func122,Tryz.ntmps122
 go_wp2_with (go_at_call 121;refine hrow.mono ?_;rintro e w9 ⟨v,rfl,ho,hb9⟩)
 go_ret2
 first | exact ⟨_,rfl,fun _=>ho,hb9⟩ | exact ⟨_,rfl,ho,hb9⟩
theorem refWord_none (w:World):Calls Tryz.prog 122 #[.string ⟨#[110,111,110,101]⟩] w (RefWordP ⟨#[110,111,110,101]⟩ w):=by
 have hE:wordE (ByteArray.mk #[110,111,110,101]).data.toList=0:=by unfold wordE;rw [if_pos (.inr rfl)]
 have hC0:wordC noneW=[]:=by unfold wordC;rw [if_neg (by decide),if_pos rfl]
 have hC:wordC (ByteArray.mk #[110,111,110,101]).data.toList=[]:=hC0
 unfold RefWordP
 rw [hE,hC]
 go_enter Tryz.func122,Tryz.ntmps122
 go_wp2_with fail
 go_ret2
 first | exact ⟨_,rfl,fun _=>ownI_nil _ _,Below.refl _ _⟩ | exact ⟨_,rfl,ownI_nil _ _,Below.refl _ _⟩
theorem refWord_any (s:ByteArray) (w:World) (hG:GlobV w) (hs:s.size≤1000):Calls Tryz.prog 122 #[.string s] w (RefWordP s w):=by
 by_cases h1:s.data.toList=anyW
 ·have e:s=⟨#[97,110,121]⟩:=(bytes_back anyW s h1.symm).symm
  rw [e]
  exact refWord_known w
 ·by_cases h2:s.data.toList=noneW
  ·have e:s=⟨#[110,111,110,101]⟩:=(bytes_back noneW s h2.symm).symm
   rw [e]
   exact refWord_none w
  ·exact refWord_walk s w hG hs h1 h2
end Go.Proofs.YtojgbcmhdnappaaGreatDoor
namespace Go.Proofs.YtojgbcmhdnappaaGreatDoor
open Go.RowKit
set_option maxRecDepth 100000
def RefParseP (s:ByteArray) (w:World) (e:Ending) (w':World):Prop :=
 (∃ v f,(if 1000<s.size then f=((4:Int),(-1:Int)) else ∃ q:Int×Nat,rangeR s=.inl q∧f=(q.1,(q.2:Int)))∧f.1≠0∧e=.returned (.tuple #[v,.agg #[.int .i64 f.1,.int .i64 f.2]])∧Below w.heap.size w w') ∨
 ∃ v l,s.size≤1000∧rangeR s=.inr l∧CanF 0 l∧e=.returned (.tuple #[v,.agg #[.int .i64 0,.int .i64 (-1)]])∧OwnI w' w.heap.size v (flatI l)∧Below w.heap.size w w'
structure RpI (wS:World) (p:ByteArray) (a0 j a:Nat) (v9 v8:Value) (wr:World):Prop where
 is:∃ acc sm,v9=.bool sm∧OwnI wr wS.heap.size v8 (flatI acc)∧CanF 0 acc∧resW ((pcL 32 p).drop j) a acc sm=resW (pcL 32 p) a0 anyC false
 at_:a≤a0+2000*j
 bel:Below wS.heap.size wS wr
structure RpO (wS:World) (s:ByteArray) (i b:Nat) (v4:Value) (wr:World):Prop where
 is:∃ out,OwnI wr wS.heap.size v4 (flatI out)∧CanF 0 out∧resT ((barL s).drop i) b out=rangeR s
 at_:b≤2000*i
 bel:Below wS.heap.size wS wr
set_option maxHeartbeats 4000000 in
theorem refParse_any (s:ByteArray) (w:World) (hG:GlobV w) (hF:w.cell? ⟨0,0,none⟩=some (.int .i64 0)∧w.cell? ⟨0,1,none⟩=some (.int .i64 (-1))) (hs:s.size≤21000) :
    Calls Tryz.prog 73 #[.string s] w (RefParseP s w):=by
  have HR:=hide (Blk.new w 80 #[.int .i64 0,.int .i64 0])
  have HB:=hide ((Below.refl w.heap.size w).alloc (Nat.le_refl _) (.cells #[.int .i64 0,.int .i64 0] 80))
  by_cases hl:1000<s.size
  · have hz:(s.size:Int) > 1000:=by omega
    go_enter Tryz.func73,Tryz.ntmps73
    go_wp2_with (go_at_call 35;refine (bare_any 4 _).mono ?_;rintro e w9 ⟨rfl,rfl⟩)
    have n0:=(((Blk.new w 80 #[.int .i64 4,.int .i64 (-1)]).alloc (.cells #[.int .i64 4,.int .i64 (-1)] 80))).cell 0
    have n1:=(((Blk.new w 80 #[.int .i64 4,.int .i64 (-1)]).alloc (.cells #[.int .i64 4,.int .i64 (-1)] 80))).cell 1
    exact bodyPost_ret (v:=.tuple #[.slice none 0 0,.agg #[.int .i64 4,.int .i64 (-1)]]) (by simp [results,Tryz.results73,go_sem,n0,n1]) rfl (.inl ⟨_,(4,-1),by rw [if_pos hl],by decide,rfl,((Below.refl w.heap.size w).alloc (Nat.le_refl _) _).alloc (by simp) _⟩)
  · have hz:¬(s.size:Int) > 1000:=by omega
    have hSp:=hide (bars_any s (w.alloc (.cells #[.int .i64 0,.int .i64 0] 80)) (hG.below HB.out) (by omega))
    go_enter Tryz.func73,Tryz.ntmps73
    go_wp2_with (go_at_call 90;refine hSp.out.mono ?_;rintro e w9 ⟨rfl,hstr,hb9⟩)
    have hbw:=HB.out.trans (hb9.mono HB.out.size)
    have HBW:=hide hbw
    have HRW:=hide (HR.out.below hb9 HR.out.lt)
    simp only [World.size_alloc] at hstr
    have HSTR:=hide hstr
    have HST:=hide (show RpO w9 s 0 0 (.slice none 0 0) w9 from ⟨⟨[],ownI_nil _ _,trivial,rfl⟩,by omega,Below.refl _ _⟩)
    clear hSp hb9 hstr HB HR hbw
    go_loopw [4,5,7,8,9,10,12,13,14,22] (fun v4 v5 _ _ _ _ _ _ _ iv wr=>∃ i b:Nat,i≤(barL s).length∧iv=.int .i64 i∧v5=.int .i64 b∧Hid (RpO w9 s i b v4 wr)) (fun _ _ _ _ _ _ _ _ _ iv _=>(barL s).length-(intOf iv).toNat)
    case atStart=>exact ⟨0,0,Nat.zero_le _,rfl,rfl,HST⟩
    case round =>
      clear HST
      obtain ⟨i,b,hi,rfl,rfl,HM⟩:=hrel
      have hbl:(barL s).length≤2000:=by
        have h1:(barL s).length=Lib.countB s barS+1:=Lib.splitB_all barS (by decide) 0 _ s rfl
        have h2:=Lib.count_le s.data.toList [124,124]
        have h3:Lib.countB s barS=Lib.count s.data.toList [124,124]:=rfl
        have h4:s.data.toList.length=s.size:=rfl
        omega
      by_cases hlt:i<(barL s).length
      · have hltz:(i:Int)<((barL s).length:Int):=by omega
        obtain ⟨out,ho,hc,hr⟩:=HM.out.is
        have hbel:=HM.out.bel
        have hcell:=(HSTR.out.below hbel).at_ i hlt
        have hmem:(barL s).getD i ⟨#[]⟩∈barL s:=by
          rw [List.getD_eq_getElem?_getD,List.getElem?_eq_getElem hlt]
          exact List.getElem_mem hlt
        have hps:=bar_le hmem
        have hdr:(barL s).drop i=(barL s).getD i ⟨#[]⟩ :: (barL s).drop (i+1):=by
          rw [List.drop_eq_getElem_cons hlt,List.getD_eq_getElem?_getD,List.getElem?_eq_getElem hlt]
          rfl
        rw [hdr] at hr
        have HAT:=Lib.hid HM.out.at_
        generalize (barL s).getD i ⟨#[]⟩=p at hcell hps hr
        have HRR:=Lib.hid hr
        have HO:=hide ho
        have HBL:=hide hbel
        have hrow:=row_any 0 endR wr
        rw [show ((endR:Nat):Int)=1000000000 from rfl,show ((0:Nat):Int)=0 from rfl] at hrow
        have HGW:=hide (hG.below (HBW.out.trans (hbel.mono HBW.out.size)))
        clear hr ho hmem hdr HM hbel
        go_wp2_with fail
        refine hrow.mono ?_
        rintro e wa ⟨v8,rfl,ho8,hb8⟩
        have HO1:=hide (HO.out.below hb8)
        have HB1:=hide (HBL.out.trans (hb8.mono HBL.out.size))
        have HG1:=hide (HGW.out.below hb8)
        have HO8:=hide (ho8.mono HBL.out.size)
        clear hrow hb8 ho8 HO HBL HGW
        go_wp2_with fail
        refine (blanks_any p wa HG1.out (by omega)).mono ?_
        rintro e wb ⟨rfl,hsb,hbb⟩
        have HO2:=hide (HO1.out.below hbb)
        have HG2:=hide (HG1.out.below hbb)
        have HSW:=hide hsb
        have HI0:=hide (show RpI w9 p b 0 b (.bool false) v8 wb from ⟨⟨anyC,false,rfl,HO8.out.below hbb,any_can,rfl⟩,by omega,HB1.out.trans (hbb.mono HB1.out.size)⟩)
        have hwl:(pcs 32 p).length≤2000:=by
          have h1:=pcs_len 32 p
          have h2:=Lib.count_le p.data.toList [32]
          have h3:Lib.countB p ⟨#[32]⟩=Lib.count p.data.toList [32]:=rfl
          have h4:p.data.toList.length=p.size:=rfl
          omega
        have hb2:b≤4000000:=by have:=HAT.out;omega
        have HLB:=Lib.hid hb2
        clear hsb hbb HO1 HG1 HO8 HB1
        go_wp2_with fail
        go_loopw [8,9,10,12,13,14,31] (fun v8 v9 v10 _ _ _ jv w2=>∃ j a:Nat,j≤(pcs 32 p).length∧jv=.int .i64 j∧v10=.int .i64 a∧Hid (RpI w9 p b j a v9 v8 w2)∧Hid (OwnI w2 w9.heap.size u4 (flatI out))∧Hid (Below wb.heap.size wb w2)) (fun _ _ _ _ _ _ jv _=>(pcs 32 p).length-(intOf jv).toNat)
        case atStart=>exact ⟨0,b,Nat.zero_le _,rfl,rfl,HI0,HO2,hide (Below.refl _ _)⟩
        case round =>
          clear HI0 HO2
          obtain ⟨j,a,hj,rfl,rfl,HI,HO,HBW2⟩:=hrel
          by_cases hjl:j<(pcs 32 p).length
          · have hjz:(j:Int)<((pcs 32 p).length:Int):=by omega
            have hcw:=(HSW.out.below HBW2.out).at_ j hjl
            obtain ⟨acc,sm,rfl,hoa,hca,hra⟩:=HI.out.is
            have hd2:(pcL 32 p).drop j=((pcs 32 p).getD j ⟨#[]⟩).data.toList :: (pcL 32 p).drop (j+1):=by
              have hl9:j<(pcL 32 p).length:=by rw [pcL_len];exact hjl
              have h9:=pcL_at 32 p hjl
              rw [List.getD_eq_getElem?_getD,List.getElem?_eq_getElem hl9] at h9
              rw [List.drop_eq_getElem_cons hl9]
              exact congrArg (· :: _) h9
            rw [hd2] at hra
            have hxs:((pcs 32 p).getD j ⟨#[]⟩).size≤1000:=by
              have:=pcP_size 32 p j
              unfold pcP at this
              omega
            generalize (pcs 32 p).getD j ⟨#[]⟩=x at hcw hra hxs
            have HAA:=Lib.hid HI.out.at_
            have ha4:(a:Int)≤8000000:=by have:=HAA.out;have:=HLB.out;omega
            have hxz:(x.size:Int)≤1000:=by omega
            have HBE:=hide HI.out.bel
            have HOA:=hide hoa
            have HRA:=Lib.hid hra
            have hG9:=HG2.out.below HBW2.out
            clear hra hd2 HI hoa
            by_cases hx0:x.data.toList=[]
            · have ex:x=⟨#[]⟩:=(bytes_back [] x hx0.symm).symm
              subst ex
              have HN:=hide (show RpI w9 p b (j+1) (a+1) (.bool sm) u8 wr from ⟨⟨acc,sm,rfl,HOA.out,hca,by have:=HRA.out;rw [hx0,resW_empty] at this;exact this⟩,by have:=HAA.out;omega,HBE.out⟩)
              clear HRA
              go_wp2_with fail
              go_round
              case rel=>exact ⟨j+1,a+1,by omega,by go_num,by go_num,HN,HO,HBW2⟩
              case measure=>simp [intOf];omega
            · have e0:x.toList.isEmpty=false:=by
                rw [ByteArray.toList_eq]
                cases h9:x.data.toList with
                | nil=>exact absurd h9 hx0
                | cons c r=>rfl
              have HW:=hide (refWord_any x wr hG9 hxs)
              unfold RefWordP at HW
              by_cases hE:wordE x.data.toList=0
              · have hgd:=resW_good ((pcL 32 p).drop (j+1)) a acc sm hx0 hE
                have HGD:=Lib.hid (hgd.symm.trans HRA.out)
                have hcw2:=wordC_can hE
                have hand:=and_spec hca hcw2
                rw [hE] at HW
                clear hgd hG9
                go_wp2_with fail
                refine HW.out.mono ?_
                rintro e wx ⟨vx,rfl,hox,hbx⟩
                have HOX:=hide (hox trivial)
                have HAN:=hide (refAnd_any _ _ acc (wordC x.data.toList) wx ((HOA.out.below hbx).mono (Nat.zero_le _)) (HOX.out.mono (Nat.zero_le _)) hca hcw2)
                have HOU:=hide (HO.out.below hbx)
                have HBX:=hide (HBE.out.trans (hbx.mono HBE.out.size))
                have HBY:=hide (HBW2.out.trans (hbx.mono HBW2.out.size))
                clear hox hbx
                go_wp2_with fail
                refine HAN.out.mono ?_
                rintro e wy ⟨vy,rfl,hoy,hby⟩
                have HN:=hide (show RpI w9 p b (j+1) (a+x.data.toList.length+1) (.bool true) vy wy from ⟨⟨_,true,rfl,hoy.mono HBX.out.size,hand.1,HGD.out⟩,by have:=HAA.out;have h9:x.data.toList.length=x.size:=rfl;omega,HBX.out.trans (hby.mono HBX.out.size)⟩)
                have HOV:=hide (HOU.out.below hby)
                have HBV:=hide (HBY.out.trans (hby.mono HBY.out.size))
                clear hoy hby
                go_wp2_with fail
                go_round
                case rel=>exact ⟨j+1,a+x.data.toList.length+1,by omega,by go_num,by have h9:x.data.toList.length=x.size:=rfl;rw [h9];go_num,HN,HOV,HBV⟩
                case measure=>simp [intOf];omega
              · have hbd:=resW_bad ((pcL 32 p).drop (j+1)) a acc sm hx0 hE
                have HBD:=Lib.hid (hbd.symm.trans HRA.out)
                clear hbd hG9
                have hEb:(wordE x.data.toList==0)=false:=beq_eq_false_iff_ne.2 hE
                generalize wordE x.data.toList=E at HW HBD hE hEb
                go_wp2_with fail
                refine HW.out.mono ?_
                rintro e wx ⟨vx,rfl,hox,hbx⟩
                have HRX:=hide ((HRW.out.below HBE.out HRW.out.lt).below hbx (Nat.lt_of_lt_of_le HRW.out.lt HBE.out.size))
                have HBX:=hide (HBW.out.trans ((HBE.out.trans (hbx.mono HBE.out.size)).mono HBW.out.size))
                have r0:=HRX.out.cell 0
                have r1:=HRX.out.cell 1
                have f0:=HRX.out.frozen 0
                have f1:=HRX.out.frozen 1
                have HN:=hide ((HRX.out.set_ 0 (.int .i64 E)).set_ 1 (.int .i64 (a:Int)))
                have n0:=HN.out.cell 0
                have n1:=HN.out.cell 1
                have HBZ:=hide ((HBX.out.setCell (p:=⟨w.heap.size,0,none⟩) (Nat.le_refl _) (.int .i64 E)).setCell (p:=⟨w.heap.size,1,none⟩) (Nat.le_refl _) (.int .i64 (a:Int)))
                have HRT:=Lib.hid (show rangeR s=.inl (E,a) from HRR.out.symm.trans (resT_bad _ out (HBD.out.symm)))
                clear hox hbx
                go_wp2_with fail
                exact bodyPost_ret (v:=.tuple #[.slice none 0 0,.agg #[.int .i64 E,.int .i64 (a:Int)]]) (by simp [results,Tryz.results73,go_sem,n0,n1]) rfl (.inl ⟨_,(E,(a:Int)),by rw [if_neg hl];exact ⟨(E,a),HRT.out,rfl⟩,hE,rfl,HBZ.out⟩)
          · obtain rfl:j=(pcs 32 p).length:=by omega
            have hjz:¬((pcs 32 p).length:Int)<((pcs 32 p).length:Int):=by omega
            obtain ⟨acc,sm,rfl,hoa,hca,hra⟩:=HI.out.is
            rw [←pcL_len,List.drop_length,resW_nil] at hra
            have hbz:(b:Int)≤4000000:=by omega
            have hpz:(p.size:Int)≤1000:=by omega
            cases sm with
            | true =>
              have hor:=or_spec hc hca
              have HOR:=hide (refOr_any _ _ out acc wr (HO.out.mono (Nat.zero_le _)) (hoa.mono (Nat.zero_le _)) hc hca)
              have hRT:=resT_good ((barL s).drop (i+1)) out hra.symm
              have HRT:=Lib.hid (hRT.symm.trans HRR.out)
              have HBE:=hide HI.out.bel
              clear hRT
              go_wp2_with fail
              refine HOR.out.mono ?_
              rintro e wz ⟨v4,rfl,ho4,hb4⟩
              have HN:=hide (show RpO w9 s (i+1) (b+p.size+2) v4 wz from ⟨⟨_,ho4.mono HBE.out.size,hor.1,HRT.out⟩,by have:=HAT.out;omega,HBE.out.trans (hb4.mono HBE.out.size)⟩)
              clear ho4 hb4
              go_wp2_with fail
              go_round
              case rel=>exact ⟨i+1,b+p.size+2,by omega,by go_num,by go_num,HN⟩
              case measure=>simp [intOf];omega
            | false =>
              have hRT:=resT_none ((barL s).drop (i+1)) out hra.symm
              have HRT:=Lib.hid (HRR.out.symm.trans hRT)
              clear hRT
              have HRX:=hide (HRW.out.below HI.out.bel HRW.out.lt)
              have HBX:=hide (HBW.out.trans (HI.out.bel.mono HBW.out.size))
              have r0:=HRX.out.cell 0
              have r1:=HRX.out.cell 1
              have f0:=HRX.out.frozen 0
              have f1:=HRX.out.frozen 1
              have HN:=hide ((HRX.out.set_ 0 (.int .i64 3)).set_ 1 (.int .i64 ((b:Int)+(p.size:Int))))
              have n0:=HN.out.cell 0
              have n1:=HN.out.cell 1
              have HBZ:=hide ((HBX.out.setCell (p:=⟨w.heap.size,0,none⟩) (Nat.le_refl _) (.int .i64 3)).setCell (p:=⟨w.heap.size,1,none⟩) (Nat.le_refl _) (.int .i64 ((b:Int)+(p.size:Int))))
              go_wp2_with fail
              exact bodyPost_ret (v:=.tuple #[.slice none 0 0,.agg #[.int .i64 3,.int .i64 ((b:Int)+(p.size:Int))]]) (by simp [results,Tryz.results73,go_sem,n0,n1]) rfl (.inl ⟨_,(3,(b:Int)+(p.size:Int)),by rw [if_neg hl];exact ⟨(3,b+p.size),HRT.out,by simp⟩,show (3:Int)≠0 by decide,rfl,HBZ.out⟩)
      · obtain rfl:i=(barL s).length:=by omega
        have hltz:¬((barL s).length:Int)<((barL s).length:Int):=by omega
        obtain ⟨out,ho,hc,hr⟩:=HM.out.is
        rw [List.drop_length,resT_nil] at hr
        have HBX:=hide (HBW.out.trans (HM.out.bel.mono HBW.out.size))
        have g0:=(HBX.out.cell (lt_of_cell hF.1)).trans hF.1
        have g1:=(HBX.out.cell (p:=⟨0,1,none⟩) (lt_of_cell hF.2)).trans hF.2
        have HRX:=hide (HRW.out.below HM.out.bel HRW.out.lt)
        have r0:=HRX.out.cell 0
        have r1:=HRX.out.cell 1
        have f0:=HRX.out.frozen 0
        have f1:=HRX.out.frozen 1
        go_wp2_with fail
        go_region
        have HN:=hide (((HRX.out.set_ 0 (.int .i64 0)).set_ 1 (.int .i64 (-1))).drew)
        have n0:=HN.out.cell 0
        have n1:=HN.out.cell 1
        have hh:∀ k,u4.ownBlock=some k→w.heap.size<k:=fun k e=>Nat.lt_of_lt_of_le HRW.out.lt (ho.base_le k e).1
        have ha:u4.ownBlock=none∨u4.ownBlock≠some w.heap.size:=by
          cases e:u4.ownBlock with
          | none=>exact .inl rfl
          | some k=>exact .inr fun e2=>by have:=hh k e;have e3:k=w.heap.size:=Option.some.inj e2;omega
        have HO:=hide ((((ho.kept (only_setCell (g:=w.heap.size) ⟨rfl,rfl,rfl,Nat.le_refl _,fun _ _ _=>rfl⟩ (p:=⟨w.heap.size,0,none⟩) (.inl rfl) (.int .i64 0)) ha).kept (only_setCell (g:=w.heap.size) ⟨rfl,rfl,rfl,Nat.le_refl _,fun _ _ _=>rfl⟩ (p:=⟨w.heap.size,1,none⟩) (.inl rfl) (.int .i64 (-1))) ha).below (Below.refl _ _).drew).mono HBW.out.size)
        have HBZ:=hide (((HBX.out.setCell (p:=⟨w.heap.size,0,none⟩) (Nat.le_refl _) (.int .i64 0)).setCell (p:=⟨w.heap.size,1,none⟩) (Nat.le_refl _) (.int .i64 (-1))).drew)
        clear ho ha hh
        go_wp2_with fail
        exact bodyPost_ret (v:=.tuple #[u4,.agg #[.int .i64 0,.int .i64 (-1)]]) (by simp [results,Tryz.results73,go_sem,n0,n1]) rfl (.inr ⟨_,out,by omega,hr.symm,hc,rfl,HO.out,HBZ.out⟩)
end Go.Proofs.YtojgbcmhdnappaaGreatDoor
