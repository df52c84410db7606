/-
  A part of the proof: RefSpread. Conditions: none.
-/
import Derived.Test.YtojgbcmhdnappaaGreatDoorAlUnit
import Derived.WalkMore
import Derived.ScopeJumps
import Derived.Deep.RegionHeld3
import Derived.Deep.RegionLaw
namespace Go.Proofs.YtojgbcmhdnappaaGreatDoor
open Go.RowKit
theorem consT_of {α:Type} {us:List α} {n:Nat} (h:us.length=n+1):∃ a r,us=a :: r∧r.length=n:=by
 cases us with
 | nil=>cases h
 | cons a r=>exact ⟨a,r,rfl,by simpa using h⟩
theorem list63 (us:List Value) (h0:us.length=63):∃ u2 u3 u4 u5 u6 u7 u8 u9 u10 u11 u12 u13 u14 u15 u16 u17 u18 u19 u20 u21 u22 u23 u24 u25 u26 u27 u28 u29 u30 u31 u32 u33 u34 u35 u36 u37 u38 u39 u40 u41 u42 u43 u44 u45 u46 u47 u48 u49 u50 u51 u52 u53 u54 u55 u56 u57 u58 u59 u60 u61 u62 u63 u64:Value,us=[u2,u3,u4,u5,u6,u7,u8,u9,u10,u11,u12,u13,u14,u15,u16,u17,u18,u19,u20,u21,u22,u23,u24,u25,u26,u27,u28,u29,u30,u31,u32,u33,u34,u35,u36,u37,u38,u39,u40,u41,u42,u43,u44,u45,u46,u47,u48,u49,u50,u51,u52,u53,u54,u55,u56,u57,u58,u59,u60,u61,u62,u63,u64]:=by
 obtain ⟨u2,r1,rfl,h1⟩:=consT_of h0
 obtain ⟨u3,r2,rfl,h2⟩:=consT_of h1
 obtain ⟨u4,r3,rfl,h3⟩:=consT_of h2
 obtain ⟨u5,r4,rfl,h4⟩:=consT_of h3
 obtain ⟨u6,r5,rfl,h5⟩:=consT_of h4
 obtain ⟨u7,r6,rfl,h6⟩:=consT_of h5
 obtain ⟨u8,r7,rfl,h7⟩:=consT_of h6
 obtain ⟨u9,r8,rfl,h8⟩:=consT_of h7
 obtain ⟨u10,r9,rfl,h9⟩:=consT_of h8
 obtain ⟨u11,r10,rfl,h10⟩:=consT_of h9
 obtain ⟨u12,r11,rfl,h11⟩:=consT_of h10
 obtain ⟨u13,r12,rfl,h12⟩:=consT_of h11
 obtain ⟨u14,r13,rfl,h13⟩:=consT_of h12
 obtain ⟨u15,r14,rfl,h14⟩:=consT_of h13
 obtain ⟨u16,r15,rfl,h15⟩:=consT_of h14
 obtain ⟨u17,r16,rfl,h16⟩:=consT_of h15
 obtain ⟨u18,r17,rfl,h17⟩:=consT_of h16
 obtain ⟨u19,r18,rfl,h18⟩:=consT_of h17
 obtain ⟨u20,r19,rfl,h19⟩:=consT_of h18
 obtain ⟨u21,r20,rfl,h20⟩:=consT_of h19
 obtain ⟨u22,r21,rfl,h21⟩:=consT_of h20
 obtain ⟨u23,r22,rfl,h22⟩:=consT_of h21
 obtain ⟨u24,r23,rfl,h23⟩:=consT_of h22
 obtain ⟨u25,r24,rfl,h24⟩:=consT_of h23
 obtain ⟨u26,r25,rfl,h25⟩:=consT_of h24
 obtain ⟨u27,r26,rfl,h26⟩:=consT_of h25
 obtain ⟨u28,r27,rfl,h27⟩:=consT_of h26
 obtain ⟨u29,r28,rfl,h28⟩:=consT_of h27
 obtain ⟨u30,r29,rfl,h29⟩:=consT_of h28
 obtain ⟨u31,r30,rfl,h30⟩:=consT_of h29
 obtain ⟨u32,r31,rfl,h31⟩:=consT_of h30
 obtain ⟨u33,r32,rfl,h32⟩:=consT_of h31
 obtain ⟨u34,r33,rfl,h33⟩:=consT_of h32
 obtain ⟨u35,r34,rfl,h34⟩:=consT_of h33
 obtain ⟨u36,r35,rfl,h35⟩:=consT_of h34
 obtain ⟨u37,r36,rfl,h36⟩:=consT_of h35
 obtain ⟨u38,r37,rfl,h37⟩:=consT_of h36
 obtain ⟨u39,r38,rfl,h38⟩:=consT_of h37
 obtain ⟨u40,r39,rfl,h39⟩:=consT_of h38
 obtain ⟨u41,r40,rfl,h40⟩:=consT_of h39
 obtain ⟨u42,r41,rfl,h41⟩:=consT_of h40
 obtain ⟨u43,r42,rfl,h42⟩:=consT_of h41
 obtain ⟨u44,r43,rfl,h43⟩:=consT_of h42
 obtain ⟨u45,r44,rfl,h44⟩:=consT_of h43
 obtain ⟨u46,r45,rfl,h45⟩:=consT_of h44
 obtain ⟨u47,r46,rfl,h46⟩:=consT_of h45
 obtain ⟨u48,r47,rfl,h47⟩:=consT_of h46
 obtain ⟨u49,r48,rfl,h48⟩:=consT_of h47
 obtain ⟨u50,r49,rfl,h49⟩:=consT_of h48
 obtain ⟨u51,r50,rfl,h50⟩:=consT_of h49
 obtain ⟨u52,r51,rfl,h51⟩:=consT_of h50
 obtain ⟨u53,r52,rfl,h52⟩:=consT_of h51
 obtain ⟨u54,r53,rfl,h53⟩:=consT_of h52
 obtain ⟨u55,r54,rfl,h54⟩:=consT_of h53
 obtain ⟨u56,r55,rfl,h55⟩:=consT_of h54
 obtain ⟨u57,r56,rfl,h56⟩:=consT_of h55
 obtain ⟨u58,r57,rfl,h57⟩:=consT_of h56
 obtain ⟨u59,r58,rfl,h58⟩:=consT_of h57
 obtain ⟨u60,r59,rfl,h59⟩:=consT_of h58
 obtain ⟨u61,r60,rfl,h60⟩:=consT_of h59
 obtain ⟨u62,r61,rfl,h61⟩:=consT_of h60
 obtain ⟨u63,r62,rfl,h62⟩:=consT_of h61
 obtain ⟨u64,r63,rfl,h63⟩:=consT_of h62
 obtain rfl:=List.eq_nil_of_length_eq_zero h63
 exact ⟨_,_,_,_,_,_,_,_,_,_,_,_,_,_,_,_,_,_,_,_,_,_,_,_,_,_,_,_,_,_,_,_,_,_,_,_,_,_,_,_,_,_,_,_,_,_,_,_,_,_,_,_,_,_,_,_,_,_,_,_,_,_,_,rfl⟩
theorem wp_scope_jumps1 {P:Program} {a:Act} {w:World} {Q:Exit→Act→World→Prop} {c rest:Code} (l:Nat) (J:Act→World→Prop) (μ:Act→World→Nat) (hf:findLabel c l=some rest)
  (pass:∀ a w,J a w→rest.wp P (Exit.jump l (fun a' w'=>J a' w'∧μ a' w'<μ a w) Q) a w)
  (first:(∀ a w,J a w→rest.wp P (Exit.jump l J Q) a w)→c.wp P (Exit.jump l J Q) a w):(Code.scope c).wp P Q a w :=
 wp_scope_jumps l J μ hf (first fun a w h=>Code.wp_mono (fun e a' w' he=>by
  cases e <;> first | exact he | exact ⟨he.1,he.2.1⟩) (pass a w h)) pass
def lenOf:Value→Nat
 | .slice _ n _=>n
 | _=>0
structure RefJ (ls:List (List Int)) (R:List Int×Int) (D:Nat→Prop) (w0:World) (At:Option Addr) (nt ct:Nat) (tr:List Int) (w:World):Prop where
 ints:Ints w w.heap.size At nt tr
 cap:nt≤ct
 cons:Cons tr
 bel:Below w0.heap.size w0 w
 sp:spreadR ls tr=R
 dm:0<nt→∀ ad,At=some ad→D ad.block∨w0.heap.size≤ad.block
structure RefL (ls:List (List Int)) (tr:List Int) (w:World) (k:Nat) (wr:World):Prop where
 bel:Below w.heap.size w wr
 sc:scanF tr (ls.drop k) k=scanF tr ls 0
structure RefI (tr zs:List Int) (w:World) (j:Nat) (hb:Bool) (left:List Int) (v:Value) (wr:World):Prop where
 bel:Below w.heap.size w wr
 own:Own wr w.heap.size v left
 go:leftGo tr (hb,left) (zs.drop j)=leftF tr zs
 nd:left.Nodup
 ok:∀ x∈left,litOk x
theorem RefI.len {tr zs:List Int} {w:World} {j:Nat} {hb:Bool} {left:List Int} {v:Value} {wr:World} (h:RefI tr zs w j hb left v wr):left.length≤49:=lits_len left h.nd h.ok
def RefSpreadPostD (w0:World) (D:Nat→Prop) (R:List Int×Int) (e:Ending) (w':World):Prop:=∃ A n c,e=.returned (.tuple #[.slice A n c,.int .i64 R.2])∧n≤c∧Ints w' w'.heap.size A n R.1∧Cons R.1∧Below w0.heap.size w0 w'∧(0<n→∀ ad,A=some ad→D ad.block∨w0.heap.size≤ad.block)
theorem own_cell {w:World} {base:Nat} {v:Value} {x:Int} (h:Own w base v [x]):∃ g cap,v=.slice (some ⟨g,0,none⟩) 1 cap∧w.cell? ⟨g,0,none⟩=some (.int .i64 x):=by
 obtain ⟨g,cap,hv,_⟩:=h.1.form (by simp)
 subst hv
 have:=h.1.cellAt 0 (by simp)
 exact ⟨g,cap,rfl,this⟩
theorem keepC {w w':World} {a:Addr} {v:Value} (h:w.cell? a=some v) (hb:Below w.heap.size w w'):w'.cell? a=some v:=(hb.cell (lt_of_cell h)).trans h
theorem ints_to {w w':World} {B:Nat} {A:Option Addr} {n:Nat} {zs:List Int} (h:Ints w B A n zs) (hB:B≤w.heap.size) (hb:Below w.heap.size w w'):Ints w' w'.heap.size A n zs :=
 ((h.more hB).below hb).more hb.size
theorem own_lit {g n c k:Nat} (h:(Value.slice (some ⟨g,0,none⟩) n c).ownBlock=some k):g=k:=by
 injection h
theorem lt_heap {w0 w:World} (h:Below w0.heap.size w0 w):w0.heap.size≤w.heap.size:=h.size
set_option maxRecDepth 100000 in
set_option maxHeartbeats 4000000 in
theorem refSpread_core (R:List Int×Int) (D:Nat→Prop) (w0:World) (tr:List Int) (A At:Option Addr) (n c nt ct:Nat) (ls:List (List Int)) (w:World) (hcl0:Cls w0 w0.heap.size A n ls) (hok:okRows ls) (hJ:Hid (RefJ ls R D w0 At nt ct tr w)) :
  Calls Tryz.prog 157 #[.slice A n c,.slice At nt ct] w (RefSpreadPostD w0 D R):=by
 have hn:=hcl0.le
 have hlen:=Lib.hid hcl0.1
 have HOK:=hide hok
 have HCL:=hide hcl0
 clear hok hcl0
 go_enter Tryz.func157,Tryz.ntmps157
 go_wp2
 refine wp_scope_jumps1 0 (fun a' w'=>∃ (us:List Value) (At':Option Addr) (nt' ct':Nat) (tr':List Int),us.length=63∧a'={ tmps:=(.slice A n c :: .slice At' nt' ct' :: us).toArray,defers:=[] }∧Hid (RefJ ls R D w0 At' nt' ct' tr' w')) (fun a' _=>25-lenOf (a'.tmps.getD 1 undef)) rfl ?pass ?first
 case' first =>
  intro pass
  clear pass
  go_wp2
  go_step3
 case' pass =>
  clear hJ
  clear w At nt ct tr
  rintro a' w ⟨us,At,nt,ct,tr,hus,rfl,hJ⟩
  obtain ⟨u2,u3,u4,u5,u6,u7,u8,u9,u10,u11,u12,u13,u14,u15,u16,u17,u18,u19,u20,u21,u22,u23,u24,u25,u26,u27,u28,u29,u30,u31,u32,u33,u34,u35,u36,u37,u38,u39,u40,u41,u42,u43,u44,u45,u46,u47,u48,u49,u50,u51,u52,u53,u54,u55,u56,u57,u58,u59,u60,u61,u62,u63,u64,rfl⟩:=list63 us hus
  clear hus
  change Code.wp Tryz.prog _ _ { tmps:=#[.slice A n c,.slice At nt ct,u2,u3,u4,u5,u6,u7,u8,u9,u10,u11,u12,u13,u14,u15,u16,u17,u18,u19,u20,u21,u22,u23,u24,u25,u26,u27,u28,u29,u30,u31,u32,u33,u34,u35,u36,u37,u38,u39,u40,u41,u42,u43,u44,u45,u46,u47,u48,u49,u50,u51,u52,u53,u54,u55,u56,u57,u58,u59,u60,u61,u62,u63,u64],defers:=[] } _
 all_goals
  go_wp2
  have hJi:=hJ.out.ints
  have hJn:=hJi.le
  have hcl:=HCL.out.below hJ.out.bel
  have HH:=hide (lt_heap hJ.out.bel)
  clear hJi
  go_loopw [1,14] (fun s1 i wr=>∃ k:Nat,s1=.slice At nt ct∧k≤n∧i=.int .i64 k∧Hid (RefL ls tr w k wr)) (fun _ i _=>n-(intOf i).toNat)
  case atStart=>exact ⟨0,rfl,Nat.zero_le _,rfl,hide ⟨Below.refl _ _,rfl⟩⟩
  case round =>
   obtain ⟨k,rfl,hk,rfl,hL⟩:=hrel
   by_cases hlt:k<n
   ·obtain ⟨ad,A',n',c',rfl,hb,hc,hcc,hi⟩:=hcl.at_ hlt
    have hbw:=Nat.lt_of_lt_of_le hb HH.out
    have hc2:wr.cell? (ad.add k)=some (.slice A' n' c'):=(hL.out.bel.cell (by rw [block_of_add];exact hbw)).trans hc
    have hkl:=Lib.hid (show k<ls.length by rw [hlen.out];exact hlt)
    have HOKK:=hide (HOK.out k hkl.out)
    have HU:=hide (unit_left tr (ls.getD k []) 0 [] (.inl ⟨rfl,rfl⟩) (fun x hx=>by rcases HOK.out k hkl.out x hx with h | h <;> omega))
    have hi2:=(hi.more HH.out).below hL.out.bel
    have hn':=hi.le
    have HIL:=Lib.hid hi.len
    have HSK:=hide (fun h=>scanF_skip tr ls k hkl.out h)
    have HHIT:=hide (fun x b h1 h2=>scanF_hit tr ls k hkl.out x b h1 h2)
    generalize ls.getD k []=zs at hi hi2 HOKK HU HIL HSK HHIT
    have hi3:=hi2.more hL.out.bel.size
    clear hi hi2
    obtain ⟨wo,rfl⟩:∃ wo:World,wo=wr:=⟨_,rfl⟩
    go_wp2
    go_loopw [8,9,21] (fun s8 s9 i wi=>∃ (j:Nat) (hb:Bool) (left:List Int),j≤n'∧i=.int .i64 j∧s9=.bool hb∧Hid (RefI tr zs wo j hb left s8 wi)) (fun _ _ i _=>n'-(intOf i).toNat)
    case atStart=>exact ⟨0,false,[],Nat.zero_le _,rfl,rfl,hide ⟨Below.refl _ _,Own.nil _ _,rfl,List.nodup_nil,by simp⟩⟩
    case round =>
     obtain ⟨j,hb,left,hj,rfl,rfl,hI⟩:=hrel
     by_cases hlt2:j<n'
     ·obtain ⟨ad2,rfl,hb2,hcx⟩:=hi3.at_ hlt2
      have hjl:=Lib.hid (show j<zs.length by rw [HIL.out];exact hlt2)
      have hcx2:wr.cell? (ad2.add j)=some (.int .i64 (zs.getD j 0)):=(hI.out.bel.cell (by rw [block_of_add];exact hb2)).trans hcx
      have hmem:zs.getD j 0∈zs:=by
       rw [List.getD_eq_getElem?_getD,List.getElem?_eq_getElem hjl.out];exact List.getElem_mem hjl.out
      have hxo:=HOKK.out _ hmem
      have HD:=Lib.hid (getD_cons_drop zs j 0 hjl.out)
      clear hmem hcx
      generalize zs.getD j 0=x at hcx2 hxo HD
      have hbx : -24≤x∧x≤24:=by rcases hxo with h | h <;> omega
      have htI:=(((hJ.out.ints.below hL.out.bel).more hL.out.bel.size).below hI.out.bel).more hI.out.bel.size
      have H1:=hide (hasL_any x At nt ct tr wr htI)
      have H2:=hide (hasL_any (-x) At nt ct tr wr htI)
      have hil:=hI.out.len
      clear htI
      obtain ⟨A8,c8,rfl,_⟩:=hI.out.own.form
      have H3:=hide (hasL_any x A8 left.length c8 left wr hI.out.own.ints)
      have HST:=hide (leftGo_ok tr litOk x (hb,left) hxo hI.out.nd hI.out.ok)
      have HGO:=Lib.hid (show leftGo tr (leftGo tr (hb,left) [x]) (zs.drop (j+1))=leftF tr zs by rw [←hI.out.go,HD.out];rfl)
      rw [leftGo_one] at HST HGO
      by_cases h1:x∈tr
      ·rw [decide_eq_true h1] at H1
       rw [if_pos h1] at HST HGO
       clear h1 hxo
       go_wp2_with (go_at_call 158;refine (H1.out).mono ?_;rintro e w' ⟨rfl,rfl⟩)
       go_roundw
       case rel=>exact ⟨j+1,true,left,by omega,by go_num,rfl,hide ⟨hI.out.bel,hI.out.own,HGO.out,HST.out.1,HST.out.2⟩⟩
       case measure=>simp [intOf];omega
      ·by_cases h2 : -x∈tr
       ·rw [decide_eq_false h1] at H1
        rw [decide_eq_true h2] at H2
        rw [if_neg h1,if_neg (fun h=>h.1 h2)] at HST HGO
        clear h1 h2 hxo
        go_wp2_with (first | (go_at_call_of 158 (-x);refine (H2.out).mono ?_;rintro e w' ⟨rfl,rfl⟩) | (go_at_call 158;refine (H1.out).mono ?_;rintro e w' ⟨rfl,rfl⟩))
        go_roundw
        case rel=>exact ⟨j+1,hb,left,by omega,by go_num,rfl,hide ⟨hI.out.bel,hI.out.own,HGO.out,HST.out.1,HST.out.2⟩⟩
        case measure=>simp [intOf];omega
       ·rw [decide_eq_false h1] at H1
        rw [decide_eq_false h2] at H2
        by_cases h3:x∈left
        ·rw [decide_eq_true h3] at H3
         rw [if_neg h1,if_neg (fun h=>h.2 h3)] at HST HGO
         clear h1 h2 h3 hxo
         go_wp2_with fail
         refine (H1.out).mono ?_
         rintro e w' ⟨rfl,rfl⟩
         go_wp2_with fail
         refine (H2.out).mono ?_
         rintro e w' ⟨rfl,rfl⟩
         go_wp2_with fail
         refine (H3.out).mono ?_
         rintro e w' ⟨rfl,rfl⟩
         go_wp2
         go_roundw
         case rel=>exact ⟨j+1,hb,left,by omega,by go_num,rfl,hide ⟨hI.out.bel,hI.out.own,HGO.out,HST.out.1,HST.out.2⟩⟩
         case measure=>simp [intOf];omega
        ·rw [decide_eq_false h3] at H3
         rw [if_neg h1,if_pos ⟨h2,h3⟩] at HST HGO
         have HXI:=Lib.hid (show I64 x by unfold I64;omega)
         have HOA:=hide (hI.out.own.alloc (.cells #[.int .i64 x] 3))
         have HCA:=Lib.hid (show (wr.alloc (.cells #[.int .i64 x] 3)).cell? ⟨wr.heap.size,0,none⟩=some (.int .i64 x) by simp)
         have HBA:=Lib.hid (show wo.heap.size≤(wr.alloc (.cells #[.int .i64 x] 3)).heap.size by have:=hI.out.bel.size;simp;omega)
         clear h1 h2 h3 hxo
         go_wp2_with fail
         refine (H1.out).mono ?_
         rintro e w' ⟨rfl,rfl⟩
         go_wp2_with fail
         refine (H2.out).mono ?_
         rintro e w' ⟨rfl,rfl⟩
         go_wp2_with fail
         refine (H3.out).mono ?_
         rintro e w' ⟨rfl,rfl⟩
         go_wp2_with (at_builtin;refine app1 _ rfl _ _ 31 rfl wo.heap.size Tryz.underlying31 _ left rfl HOA.out wr.heap.size 1 x rfl HCA.out HXI.out (by omega) HBA.out ?_;intro v' w1 ho1 hg1 hor;have HO1:=hide ho1;have HG1:=hide hg1;have HLT:=hide (hI.out.own.lt);clear ho1 hg1 hor)
         go_roundw
         case rel=>exact ⟨j+1,hb,left++[x],by omega,by go_num,rfl,hide ⟨(hI.out.bel.alloc hI.out.bel.size _).grown HG1.out HBA.out (fun k hk=>(HLT.out k hk).1),HO1.out,HGO.out,HST.out.1,HST.out.2⟩⟩
         case measure=>simp [intOf];omega
     ·have HE:=Lib.hid (show (hb,left)=leftF tr zs by have:=hI.out.go;rw [List.drop_eq_nil_of_le (by have:=HIL.out;omega)] at this;exact this)
      obtain ⟨A8,c8,rfl,_⟩:=hI.out.own.form
      have hBW:=hide (hL.out.bel.trans (hI.out.bel.mono hL.out.bel.size))
      rcases HU.out with ⟨hu,hor⟩ | ⟨hu,hlf⟩ | ⟨x,hx0,hu,hlf⟩
      ·have HN:=Lib.hid (HSK.out hu)
       have hor2:hb=true∨1<left.length:=by
        rw [show leftGo tr (false,[]) zs=(hb,left) from HE.out.symm] at hor
        exact hor
       clear hu hor HU
       rcases hb with _ | _
       ·have hl1:1<left.length:=by
         rcases hor2 with h | h
         ·cases h
         ·exact h
        clear hor2
        go_wp2
        go_roundw
        case rel=>exact ⟨k+1,rfl,by omega,by go_num,hide ⟨hBW.out,by rw [←HN.out];exact hL.out.sc⟩⟩
        case measure=>simp [intOf];omega
       ·clear hor2
        go_wp2
        go_roundw
        case rel=>exact ⟨k+1,rfl,by omega,by go_num,hide ⟨hBW.out,by rw [←HN.out];exact hL.out.sc⟩⟩
        case measure=>simp [intOf];omega
      ·have he:(hb,left)=(false,[]):=by rw [HE.out];exact hlf
       obtain ⟨rfl,rfl⟩:=Prod.mk.inj he
       have HF:=Lib.hid (show R=(tr,(k:Int)) by rw [←hJ.out.sp];exact spread_bad hJ.out.cons (by rw [←hL.out.sc];exact HHIT.out 0 false hu (by simp)))
       clear he hu hlf HU
       go_wp2
       simp only [Exit.jump]
       go_ret2
       rw [HF.out]
       exact ⟨At,nt,ct,rfl,hJ.out.cap,(hJ.out.ints.below hBW.out).more hBW.out.size,hJ.out.cons,hJ.out.bel.trans (hBW.out.mono HH.out),hJ.out.dm⟩
      ·have he:(hb,left)=(false,[x]):=by rw [HE.out];exact hlf
       obtain ⟨rfl,rfl⟩:=Prod.mk.inj he
       have HM:=hide (unitGo_mem tr zs 0 x hu hx0)
       have HSC:=Lib.hid (show scanF tr ls 0=some (k,x) by rw [←hL.out.sc];exact HHIT.out x true hu (by simp [hx0]))
       clear he hu hlf HU
       go_wp2
       obtain ⟨g8,cp8,hv8,hc8⟩:=own_cell hI.out.own
       cases hv8
       have HXI:=Lib.hid (show I64 x by have:=hI.out.own.2.2 x (List.mem_singleton.2 rfl);exact this)
       have HTI:=hide (hJ.out.ints.below hBW.out)
       have HTL:=hJ.out.cons.len
       have HBS:=hide hBW.out.size
       have HTN:=Lib.hid hJ.out.ints.len
       have HE1:=hide (own_empty wr wr.heap.size (Nat.le_refl _))
       have HE2:=hide (show Own ((wr.alloc (.cells #[.int .i64 x] 3)).alloc (.cells #[] 3)) wr.heap.size (.slice (some ⟨wr.heap.size+1,0,none⟩) 0 0) [] from by have:=own_empty (wr.alloc (.cells #[.int .i64 x] 3)) wr.heap.size (by simp);rw [World.size_alloc'] at this;exact this)
       have HL8:=lt_of_cell hc8
       go_region_held3 (fun w'=>w'.cell? ⟨g8,0,none⟩=some (.int .i64 x)) (first | assumption | (simp;done) | (refine keepC hc8 ?_;repeat (first | exact Below.refl _ _ | exact hb1 | exact hb2 | refine Below.drew ?_ | refine Below.alloc ?_ (by simp <;> omega) _ | refine Below.alloc ?_ hb1.size _)))
        (first
         | (refine stepS _ (by rfl) (.tmp 55) (.tmp 56) 31 (by rfl) wr.heap.size Tryz.underlying31 _ [] (by rfl) ?_ _ _ _ tr (by rfl) ?_ ?_ ?_ ?_;(first | exact HE1.out.drew | exact (HE1.out.alloc _).drew | exact HE2.out.drew);(refine ints_to HTI.out HBS.out ?_;repeat (first | exact Below.refl _ _ | refine Below.drew ?_ | refine Below.alloc ?_ (by simp <;> omega) _));(simp;omega);(simp <;> omega);intro v1 w1 ho1 hg1 hor1;have hb1:Below wr.heap.size wr w1:=(by refine Below.grown ?_ hg1 (by simp <;> omega) (fun k hk=>(by have:=own_lit hk;omega));repeat (first | exact Below.refl _ _ | refine Below.drew ?_ | refine Below.alloc ?_ (by simp <;> omega) _)))
         | (refine stepS _ (by rfl) (.tmp 57) (.tmp 61) 31 (by rfl) wr.heap.size Tryz.underlying31 _ ([]++tr) (by rfl) ?_ _ _ _ [x] (by rfl) ?_ ?_ ?_ ?_;(first | exact ho1 | exact ho1.alloc _);(first | exact ints_one (by simp) HXI.out | (refine ints_one (World.grownBy.cell hg1 ?_ ?_) HXI.out;simp;intro e;have h9:=own_lit e.symm;simp at h9));(simp;omega);(first | exact hb1.size | (simp;have:=hb1.size;omega));intro v2 w2 ho2 hg2 hor2;have hb2:Below wr.heap.size wr w2:=(by refine Below.grown ?_ hg2 (by first | exact hb1.size | (simp;have:=hb1.size;omega)) (fun k hk=>(ho1.lt k hk).1);repeat (first | exact Below.refl _ _ | exact hb1 | refine Below.drew ?_ | refine Below.alloc ?_ (by simp <;> omega) _ | refine Below.alloc ?_ hb1.size _))))
       all_goals
        have HO2:=hide ho2
        have HB2:=hide hb2
        obtain ⟨A2,c2,rfl,hcap⟩:=ho2.form
        clear ho2 hb2 ho1 hg1 hor1 hb1 hg2 hor2
        go_wp2
        go_step3
        have hI2:=HO2.out.ints
        simp only [List.nil_append,List.length_append,List.length_singleton] at hI2 hcap
        have hlt9:25-(tr.length+1)<25-nt:=by have:=HTN.out;omega
        have HWW:=Nat.le_trans hJ.out.bel.size hBW.out.size
        have hJ2:RefJ ls R D w0 A2 (tr.length+1) c2 (tr++[x]) w2:=by
         rcases HM.out with e | ⟨e1,e2,e3⟩
         ·exact absurd e hx0
         ·exact ⟨hI2,hcap,hJ.out.cons.snoc (HOKK.out x e1) e2 e3,hJ.out.bel.trans ((hBW.out.trans (HB2.out.mono hBW.out.size)).mono HH.out),by rw [←hJ.out.sp];exact (spread_unit hJ.out.cons HSC.out hx0).symm,fun _ ad e=>.inr (Nat.le_trans HWW (HO2.out.lt ad.block (by rw [e];rfl)).1)⟩
        first
         | exact ⟨rfl,⟨_,A2,_,c2,tr++[x],rfl,rfl,hide hJ2⟩,hlt9⟩
         | exact ⟨rfl,_,A2,_,c2,tr++[x],rfl,rfl,hide hJ2⟩
   ·have HF:=Lib.hid (show R=(tr,-1) by rw [←hJ.out.sp];exact spread_none hJ.out.cons (by rw [←hL.out.sc];exact scanF_none tr ls k k (by have:=hlen.out;omega)))
    go_wp2
    simp only [Exit.jump]
    go_ret2
    rw [HF.out]
    exact ⟨At,nt,ct,rfl,hJ.out.cap,(hJ.out.ints.below hL.out.bel).more hL.out.bel.size,hJ.out.cons,hJ.out.bel.trans (hL.out.bel.mono HH.out),hJ.out.dm⟩
theorem refSpread_anyD (D:Nat→Prop) (tr:List Int) (A At:Option Addr) (n c nt ct:Nat) (ls:List (List Int)) (w:World) (hcl:Cls w w.heap.size A n ls) (htr:Ints w w.heap.size At nt tr) (hcap:nt≤ct) (hc:Cons tr) (hok:okRows ls) (hD:0<nt→∀ ad,At=some ad→D ad.block) :
  Calls Tryz.prog 157 #[.slice A n c,.slice At nt ct] w (RefSpreadPostD w D (spreadR ls tr)) :=
 refSpread_core (spreadR ls tr) D w tr A At n c nt ct ls w hcl hok (hide ⟨htr,hcap,hc,Below.refl _ _,rfl,fun hn ad e=>.inl (hD hn ad e)⟩)
end Go.Proofs.YtojgbcmhdnappaaGreatDoor
