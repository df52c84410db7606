/-
  A part of the proof: CatIdx, RulePure, ReaPure. Conditions: none.
-/
import Derived.Test.YtojgbcmhdnappaaGreatDoorAlCatChk
import Derived.Laws.StructEq
namespace Go.Proofs.YtojgbcmhdnappaaGreatDoor
open Go.RowKit
open Classical
set_option maxRecDepth 100000
theorem eqlArr_d (d:Nat) (T:TypeId) (hT:Tryz.prog.underlying T=some (.array 3 3)) (x y z a b c:Int) (w:World):(Op.equalIn (d+2) T (.agg #[.int .i64 x,.int .i64 y,.int .i64 z]) (.agg #[.int .i64 a,.int .i64 b,.int .i64 c])).run Tryz.prog w=.ok (eq3 x y z a b c) w:=by
 obtain ⟨i,hi⟩:=Option.isSome_iff_exists.1 infoInt_c
 have hp:∀ (xs:Array Value) (j:Nat) (n:Int),xs[j]?=some (.int .i64 n)→(part 3 xs j).run Tryz.prog w=.ok (.int .i64 n) w:=fun xs j n h=>by simp [part,isAgg,run_underlying Tryz.underlying3,h]
 have he:∀ (a b:Int),(Op.equalIn (d+1) 3 (.int .i64 a) (.int .i64 b)).run Tryz.prog w=.ok (a==b) w:=fun a b=>run_equalIn_int w d 3 .i64 .i64 a b Tryz.underlying3
 rw [run_equalIn_array w (d+1) _ _ hT hi,cellsInt_c,show List.range 3=[0,1,2] from rfl]
 unfold eq3
 by_cases h1:x=a
 ·by_cases h2:y=b
  ·by_cases h3:z=c
   ·simp [Op.eqItems,hp _ 0 x,hp _ 1 y,hp _ 2 z,he,h1,h2,h3]
   ·simp [Op.eqItems,hp _ 0 x,hp _ 1 y,hp _ 2 z,hp _ 2 c,he,h1,h2,h3]
  ·simp [Op.eqItems,hp _ 0 x,hp _ 1 y,hp _ 1 b,he,h1,h2]
 ·simp [Op.eqItems,hp _ 0 x,hp _ 0 a,he,h1]
theorem item_eq (a b:ItR):(a.1.toList==b.1.toList&&eq3 a.2.1 a.2.2.1 a.2.2.2 b.2.1 b.2.2.1 b.2.2.2)=decide (a=b):=by
 obtain ⟨s,x,y,z⟩:=a
 obtain ⟨u,x',y',z'⟩:=b
 rw [Bool.eq_iff_iff]
 unfold eq3
 simp only [Bool.and_eq_true,beq_iff_eq,decide_eq_true_eq,Prod.mk.injEq]
 constructor
 ·rintro ⟨h1,h2,h3,h4⟩
  rw [ByteArray.toList_eq,ByteArray.toList_eq] at h1
  exact ⟨(bytes_back _ s rfl).symm.trans (bytes_back _ u h1),h2,h3,h4⟩
 ·rintro ⟨rfl,rfl,rfl,rfl⟩
  exact ⟨rfl,rfl,rfl,rfl⟩
theorem eqlIt_gen (T V:TypeId) (fs:List Field) (hu:Tryz.prog.underlying T=some (.struct (Tryz.prog.fieldsOf T))) (hs:Tryz.prog.stoodInHeld T=false) (hl:(Tryz.prog.fieldsOf T).toList=fs) (hfs:fs.map (fun f=>(f.name != "_",f.type,f.offset))=[(true,9,0),(true,V,1)]) (hV:Tryz.prog.underlying V=some (.array 3 3))
  (hp0:∀ s (x y z:Int) w,(part 9 #[.string s,.int .i64 x,.int .i64 y,.int .i64 z] 0).run Tryz.prog w=.ok (.string s) w) (hp1:∀ s (x y z:Int) w,(part V #[.string s,.int .i64 x,.int .i64 y,.int .i64 z] 1).run Tryz.prog w=.ok (.agg #[.int .i64 x,.int .i64 y,.int .i64 z]) w)
  (a b:ItR) (w:World):(binOp .eql T (.agg (itA a)) (.agg (itA b))).run Tryz.prog w=.ok (.bool (decide (a=b))) w:=by
 obtain ⟨f0,f1,hff⟩:∃ f0 f1,fs=[f0,f1]:=by
  have h2:fs.length=2:=by have:=congrArg List.length hfs;rw [List.length_map] at this;exact this
  cases fs with
  | nil=>cases h2
  | cons f0 r =>
   cases r with
   | nil=>cases h2
   | cons f1 r =>
    cases r with
    | nil=>exact ⟨f0,f1,rfl⟩
    | cons _ _=>simp at h2
 subst hff
 simp only [List.map_cons,List.map_nil,List.cons.injEq,Prod.mk.injEq,and_true] at hfs
 obtain ⟨⟨n0,t0,o0⟩,n1,t1,o1⟩:=hfs
 have n0':f0.name≠ "_" := by simpa using n0
 have n1':f1.name≠ "_" := by simpa using n1
 obtain ⟨s,x,y,z⟩:=a
 obtain ⟨u,x',y',z'⟩:=b
 have e0:(Op.equalIn 9999 9 (.string s) (.string u)).run Tryz.prog w=.ok (s.toList==u.toList) w:=run_equalIn_string w 9998 9 s u Tryz.underlying9
 have e1:=eqlArr_d 9997 V hV x y z x' y' z' w
 rw [run_eql_struct,run_equalIn_struct w 9999 T _ _ hu hs,hl]
 have hd:=item_eq (s,x,y,z) (u,x',y',z')
 simp only [] at hd
 rw [←hd]
 unfold itA
 cases hsu:s.toList==u.toList with
 | false=>simp [Op.eqFields,n0',t0,o0,hp0,e0,hsu]
 | true =>
  rw [hsu] at e0
  cases hv:eq3 x y z x' y' z' with
  | false =>
   rw [hv] at e1
   simp [Op.eqFields,n0',n1',t0,o0,t1,o1,hp0,hp1,e0,e1]
  | true =>
   rw [hv] at e1
   simp [Op.eqFields,n0',n1',t0,o0,t1,o1,hp0,hp1,e0,e1]
theorem eqlJ (a b:ItR) (w:World):(binOp .eql 194 (.agg (itA a)) (.agg (itA b))).run Tryz.prog w=.ok (.bool (decide (a=b))) w :=
 eqlIt_gen 194 85 _ (by kernel_rfl) (by kernel_rfl) rfl (by kernel_rfl) Tryz.underlying85 (fun _ _ _ _ _=>by kernel_rfl) (fun _ _ _ _ _=>by kernel_rfl) a b w
theorem eqlI (a b:ItR) (w:World):(binOp .eql 162 (.agg (itA a)) (.agg (itA b))).run Tryz.prog w=.ok (.bool (decide (a=b))) w :=
 eqlIt_gen 162 30 _ (by kernel_rfl) (by kernel_rfl) rfl (by kernel_rfl) Tryz.underlying30 (fun _ _ _ _ _=>by kernel_rfl) (fun _ _ _ _ _=>by kernel_rfl) a b w
noncomputable def posF (x:ItR):List ItR→Nat→Int
 | [],_ => -1
 | a :: r,i=>if a=x then (i:Int) else posF x r (i+1)
noncomputable def posN (its:List ItR) (x:ItR):Int:=posF x its 0
theorem posF_hit {x a:ItR} {r:List ItR} {i:Nat} (h:a=x):posF x (a :: r) i=i:=by rw [posF,if_pos h]
theorem posF_miss {x a:ItR} {r:List ItR} {i:Nat} (h:a≠x):posF x (a :: r) i=posF x r (i+1):=by rw [posF,if_neg h]
theorem posF_cases (x:ItR):∀ (l:List ItR) (i:Nat),(x∈l∧(i:Int)≤posF x l i∧posF x l i<(i:Int)+l.length)∨(x∉l∧posF x l i = -1)
 | [],i=>.inr ⟨List.not_mem_nil,rfl⟩
 | a :: r,i=>by
  by_cases h:a=x
  ·rw [posF_hit h]
   exact .inl ⟨by rw [h];exact List.mem_cons_self,by omega,by simp;omega⟩
  ·rw [posF_miss h]
   rcases posF_cases x r (i+1) with ⟨h1,h2,h3⟩ | ⟨h1,h2⟩
   ·exact .inl ⟨List.mem_cons_of_mem _ h1,by omega,by simp;omega⟩
   ·exact .inr ⟨by simp [h1,Ne.symm h],h2⟩
theorem posN_in {l:List ItR} {x:ItR} (h:x∈l):0≤posN l x∧posN l x<l.length:=by
 rcases posF_cases x l 0 with ⟨_,h2,h3⟩ | ⟨h1,_⟩
 ·exact ⟨by simpa [posN] using h2,by simpa [posN] using h3⟩
 ·exact absurd h h1
theorem posN_out {l:List ItR} {x:ItR} (h:x∉l):posN l x = -1:=by
 rcases posF_cases x l 0 with ⟨h1,_⟩ | ⟨_,h2⟩
 ·exact absurd h1 h
 ·exact h2
def PosP (its:List ItR) (x:ItR) (w:World) (e:Ending) (w':World):Prop:=e=.returned (.int .i64 (posN its x))∧Below w.heap.size w w'
theorem posN_drop {its:List ItR} {x:ItR} {i:Nat} (hi:i<its.length) (h:posF x (its.drop i) i=posN its x):(its[i]=x→posN its x=i)∧(its[i]≠x→posF x (its.drop (i+1)) (i+1)=posN its x):=by
 rw [List.drop_eq_getElem_cons hi] at h
 exact ⟨fun e=>by rw [posF_hit e] at h;exact h.symm,fun e=>by rw [posF_miss e] at h;exact h⟩
theorem OwnK.rowAt {α:Type} {E:ElK α} {w:World} {A:Option Addr} {n c i:Nat} {l:List α} {base:Nat} (h:OwnK E w base (.slice A n c) l) (hi:i<l.length):∃ g,A=some ⟨g,0,none⟩∧RowK E w g l:=by
 rcases h.form with ⟨_,h0⟩ | ⟨g,cap,e,_,_,_,hr⟩
 ·rw [h0] at hi;simp at hi
 ·injection e with e1 _ _;exact ⟨g,e1,hr⟩
set_option maxHeartbeats 4000000 in
theorem idxIt_any (v:Value) (its:List ItR) (x:ItR) (w:World) (h:OwnK elJ w 0 v its) (hl:its.length≤1000000):Calls Tryz.prog 149 #[v,.agg (itA x)] w (PosP its x w):=by
 obtain ⟨A,c,rfl,hc⟩:=h.len
 have HB:=hide ((Below.refl w.heap.size w).alloc (Nat.le_refl _) (.cells #[.string x.1,.int .i64 x.2.1,.int .i64 x.2.2.1,.int .i64 x.2.2.2] 194))
 have HK:=hide (Blk.new w 194 #[.string x.1,.int .i64 x.2.1,.int .i64 x.2.2.1,.int .i64 x.2.2.2])
 have HO:=hide (h.below ((Below.refl w.heap.size w).alloc (Nat.le_refl _) (.cells #[.string x.1,.int .i64 x.2.1,.int .i64 x.2.2.1,.int .i64 x.2.2.2] 194)))
 have HEQ:=hide (fun (a b:ItR) (w:World)=>eqlJ a b w)
 clear h
 unfold itA
 go_enter Tryz.func149,Tryz.ntmps149
 go_wp2_with fail
 generalize World.alloc _ (.cells #[.string x.1,.int .i64 x.2.1,.int .i64 x.2.2.1,.int .i64 x.2.2.2] 194)=w0 at HB HK HO ⊢
 generalize hbx:w.heap.size=bx at HK ⊢
 go_loopw [8] (fun iv wr=>∃ i:Nat,i≤its.length∧iv=.int .i64 i∧Hid (Below w0.heap.size w0 wr)∧Hid (posF x (its.drop i) i=posN its x)) (fun iv _=>its.length-(intOf iv).toNat)
 case atStart=>exact ⟨0,Nat.zero_le _,rfl,hide (Below.refl _ _),Lib.hid rfl⟩
 case round =>
  obtain ⟨i,hi,rfl,HW,HP⟩:=hrel
  by_cases hlt:i<its.length
  ·have hltz:(i:Int)<(its.length:Int):=by omega
   obtain ⟨g,rfl,hr⟩:=(HO.out.below HW.out).rowAt hlt
   obtain ⟨y0,y1,y2,y3⟩:=row4 rfl rfl hr hlt
   have hk:=HK.out.below HW.out HK.out.lt
   have k0:=hk.cell 0
   have k1:=hk.cell 1
   have k2:=hk.cell 2
   have k3:=hk.cell 3
   obtain ⟨hh,hm⟩:=posN_drop hlt HP.out
   have heq:=HEQ.out x its[i]
   unfold itA at heq
   clear hk hr
   by_cases he:its[i]=x
   ·rw [decide_eq_true he.symm] at heq
    have HR:=Lib.hid (hh he)
    clear he hh hm
    generalize its[i]=y at y0 y1 y2 y3 heq
    go_wp2_with fail
    go_quiet (fail)
    go_wp2
    go_ret
    exact ⟨by rw [HR.out];rfl,HB.out.trans (((HW.out).trans ((below_drewN (Below.refl _ _) _).mono HW.out.size)).mono HB.out.size)⟩
   ·rw [decide_eq_false (fun e=>he e.symm)] at heq
    have HR:=Lib.hid (hm he)
    clear he hh hm
    generalize its[i]=y at y0 y1 y2 y3 heq
    go_wp2_with fail
    go_quiet (fail)
    go_wp2
    go_roundw
    case rel=>exact ⟨i+1,by omega,by go_num,hide (HW.out.trans ((below_drewN (Below.refl _ _) _).mono HW.out.size)),HR⟩
    case measure=>simp [intOf];omega
  ·obtain rfl:i=its.length:=by omega
   have hltz:¬(its.length:Int)<(its.length:Int):=by omega
   have hp:=HP.out
   rw [List.drop_length,posF] at hp
   have HR:=Lib.hid hp
   clear hp
   go_wp2_with fail
   go_ret
   exact ⟨by rw [←HR.out];rfl,HB.out.trans (HW.out.mono HB.out.size)⟩
set_option maxHeartbeats 4000000 in
theorem refNum_at (v:Value) (its:List ItR) (x:ItR) (w:World) (h:OwnK elI w 0 v its) (hl:its.length≤1000000):Calls Tryz.prog 93 #[v,.agg (itA x)] w (PosP its x w):=by
 obtain ⟨A,c,rfl,hc⟩:=h.len
 have HB:=hide ((Below.refl w.heap.size w).alloc (Nat.le_refl _) (.cells #[.string x.1,.int .i64 x.2.1,.int .i64 x.2.2.1,.int .i64 x.2.2.2] 162))
 have HK:=hide (Blk.new w 162 #[.string x.1,.int .i64 x.2.1,.int .i64 x.2.2.1,.int .i64 x.2.2.2])
 have HO:=hide (h.below ((Below.refl w.heap.size w).alloc (Nat.le_refl _) (.cells #[.string x.1,.int .i64 x.2.1,.int .i64 x.2.2.1,.int .i64 x.2.2.2] 162)))
 have HEQ:=hide (fun (a b:ItR) (w:World)=>eqlI a b w)
 clear h
 unfold itA
 go_enter Tryz.func93,Tryz.ntmps93
 go_wp2_with fail
 generalize World.alloc _ (.cells #[.string x.1,.int .i64 x.2.1,.int .i64 x.2.2.1,.int .i64 x.2.2.2] 162)=w0 at HB HK HO ⊢
 generalize hbx:w.heap.size=bx at HK ⊢
 go_loopw [9] (fun iv wr=>∃ i:Nat,i≤its.length∧iv=.int .i64 i∧Hid (Below w0.heap.size w0 wr)∧Hid (posF x (its.drop i) i=posN its x)) (fun iv _=>its.length-(intOf iv).toNat)
 case atStart=>exact ⟨0,Nat.zero_le _,rfl,hide (Below.refl _ _),Lib.hid rfl⟩
 case round =>
  obtain ⟨i,hi,rfl,HW,HP⟩:=hrel
  by_cases hlt:i<its.length
  ·have hltz:(i:Int)<(its.length:Int):=by omega
   obtain ⟨g,rfl,hr⟩:=(HO.out.below HW.out).rowAt hlt
   obtain ⟨y0,y1,y2,y3⟩:=row4 rfl rfl hr hlt
   have hk:=HK.out.below HW.out HK.out.lt
   have k0:=hk.cell 0
   have k1:=hk.cell 1
   have k2:=hk.cell 2
   have k3:=hk.cell 3
   have klt:=hk.lt
   obtain ⟨hh,hm⟩:=posN_drop hlt HP.out
   have heq:=HEQ.out x its[i]
   unfold itA at heq
   clear hk hr
   by_cases he:its[i]=x
   ·rw [decide_eq_true he.symm] at heq
    have HR:=Lib.hid (hh he)
    clear he hh hm
    generalize its[i]=y at y0 y1 y2 y3 heq
    go_wp2_with fail
    go_ret
    exact ⟨by rw [HR.out];rfl,HB.out.trans ((HW.out.alloc HW.out.size _).mono HB.out.size)⟩
   ·rw [decide_eq_false (fun e=>he e.symm)] at heq
    have HR:=Lib.hid (hm he)
    clear he hh hm
    generalize its[i]=y at y0 y1 y2 y3 heq
    have HN:=hide (HW.out.alloc HW.out.size (.cells #[.string y.1,.int .i64 y.2.1,.int .i64 y.2.2.1,.int .i64 y.2.2.2] 162))
    go_wp2_with fail
    go_round
    case rel=>exact ⟨i+1,by omega,by go_num,HN,HR⟩
    case measure=>simp [intOf];omega
  ·obtain rfl:i=its.length:=by omega
   have hltz:¬(its.length:Int)<(its.length:Int):=by omega
   have hp:=HP.out
   rw [List.drop_length,posF] at hp
   have HR:=Lib.hid hp
   clear hp
   go_wp2_with fail
   go_ret
   exact ⟨by rw [←HR.out];rfl,HB.out.trans (HW.out.mono HB.out.size)⟩
structure CatM (w:World) (g:Nat) (vl vi:Value) (its:List ItR):Prop where
 blk:Blk w g 246 #[vl,vi]
 own:OwnK elJ w 0 vi its
theorem CatM.below {w w':World} {g:Nat} {vl vi:Value} {its:List ItR} (h:CatM w g vl vi its) (hb:Below w.heap.size w w'):CatM w' g vl vi its:=⟨h.blk.below hb h.blk.lt,h.own.below hb⟩
theorem num_keep {w W:World} {g bx:Nat} {vl vi:Value} {a b c:Value} {its:List ItR} (h:CatM w g vl vi its) (hk:Blk w bx 85 #[a,b,c]) (hb:Below w.heap.size w W) :
  W.cell? ⟨g,1,none⟩=some vi∧W.cell? ⟨bx,0,none⟩=some a∧W.cell? ⟨bx,1,none⟩=some b∧W.cell? ⟨bx,2,none⟩=some c:=by
 have h2:=h.blk.below hb h.blk.lt
 have k2:=hk.below hb hk.lt
 exact ⟨h2.cell 1,k2.cell 0,k2.cell 1,k2.cell 2⟩
set_option maxHeartbeats 4000000 in
theorem catNum_any (g:Nat) (vl vi:Value) (its:List ItR) (x:ItR) (w:World) (h:CatM w g vl vi its) (hl:its.length≤1000000):Calls Tryz.prog 98 #[.pointer (some ⟨g,0,none⟩),.string x.1,.agg #[.int .i64 x.2.1,.int .i64 x.2.2.1,.int .i64 x.2.2.2]] w (PosP its x w):=by
 have hal:=(Below.refl w.heap.size w).alloc (Nat.le_refl _) (.cells #[.int .i64 x.2.1,.int .i64 x.2.2.1,.int .i64 x.2.2.2] 85)
 have HB:=hide hal
 have HM:=hide (h.below hal)
 have HK:=hide (Blk.new w 85 #[.int .i64 x.2.1,.int .i64 x.2.2.1,.int .i64 x.2.2.2])
 obtain ⟨A,c,rfl,_⟩:=h.own.len
 clear hal h
 go_enter Tryz.func98,Tryz.ntmps98
 go_wp2_with fail
 generalize World.alloc _ (.cells #[.int .i64 x.2.1,.int .i64 x.2.2.1,.int .i64 x.2.2.2] 85)=w0 at HB HM HK ⊢
 generalize w.heap.size=bx at HK ⊢
 have HI:=hide (fun (W:World) (hb:Below w0.heap.size w0 W)=>idxIt_any _ its x W (HM.out.below hb).own hl)
 unfold itA at HI
 have bS:Below w0.heap.size w0 w0.drew:=(Below.refl _ _).drew
 obtain ⟨z0,z1,z2,z3⟩:=num_keep HM.out HK.out (Below.refl _ _)
 go_region_held3 (fun w'=>w'.cell? ⟨g,1,none⟩=some (.slice A its.length c)∧w'.cell? ⟨bx,0,none⟩=some (.int .i64 x.2.1)∧w'.cell? ⟨bx,1,none⟩=some (.int .i64 x.2.2.1)∧w'.cell? ⟨bx,2,none⟩=some (.int .i64 x.2.2.2))
  (first | exact num_keep HM.out HK.out (bThen bS b1) | exact num_keep HM.out HK.out bS | exact num_keep HM.out HK.out (Below.refl _ _))
  (first | (go_at_call 149;refine (HI.out _ (by first | exact bS | exact Below.refl _ _)).mono ?_;rintro e w1 ⟨rfl,b1⟩))
 all_goals
  go_wp2_with fail
  go_ret
  exact ⟨rfl,HB.out.trans ((bThen bS b1).mono HB.out.size)⟩
end Go.Proofs.YtojgbcmhdnappaaGreatDoor
namespace Go.Proofs.YtojgbcmhdnappaaGreatDoor
open Classical
theorem passB_in:∀ (its:List ItR) (ls:List LnR) (i:Nat),(passB its ls i).1=0→∀ x∈ls,x.k=2∨x.k=3→itL x∈its
 | _,[],_,_,_,hx,_=>absurd hx List.not_mem_nil
 | its,y :: r,i,h,x,hx,hk=>by
  rw [passB] at h
  split at h
  ·simp at h
  ·rename_i h0
   rcases List.mem_cons.1 hx with rfl | hx
   ·exact Classical.byContradiction fun c=>h0 ⟨hk,c⟩
   ·exact passB_in its r (i+1) h x hx hk
theorem itemsF_perm (ls:List LnR):(itemsF ls).Perm (onesL ls):=(srtI_spec _).2
theorem catR_in {ls:List LnR} {its:List ItR} (h:catR ls=.inr its):∀ x∈ls,x.k=2∨x.k=3→itL x∈itemsF ls:=by
 intro x hx hk
 have e:=(catR_ok h).1
 unfold catR at h
 split at h
 ·cases h
 ·split at h
  ·cases h
  ·rename_i its' h1
   split at h
   ·rename_i hb
    injection h with h
    subst h
    rw [(itemsF_perm ls).mem_iff,←e]
    exact passB_in _ ls 0 hb x hx hk
   ·cases h
theorem catR_few {ls:List LnR} {its:List ItR} (h:catR ls=.inr its):(itemsF ls).length≤24∧(itemsF ls).Nodup:=by
 obtain ⟨e,h1,h2,_⟩:=catR_ok h
 rw [(itemsF_perm ls).length_eq,←e]
 exact ⟨h1,(itemsF_perm ls).nodup_iff.2 (by rw [←e];exact h2)⟩
theorem amF_range (nm:ByteArray) (rg:List (Nat×Nat)):∀ (its:List ItR) (i:Nat),∀ z∈amF nm rg its i,(i:Int)≤z∧z<(i:Int)+its.length
 | [],_,_,hz=>absurd hz List.not_mem_nil
 | a :: r,i,z,hz=>by
  have ih:=amF_range nm rg r (i+1)
  unfold amF at hz
  rw [List.length_cons]
  split at hz
  ·rcases List.mem_cons.1 hz with rfl | hz
   ·omega
   ·have:=ih z hz;omega
  ·have:=ih z hz;omega
theorem amF_len (nm:ByteArray) (rg:List (Nat×Nat)):∀ (its:List ItR) (i:Nat),(amF nm rg its i).length≤its.length
 | [],_=>Nat.le_refl _
 | a :: r,i=>by
  have ih:=amF_len nm rg r (i+1)
  unfold amF
  rw [List.length_cons]
  split
  ·rw [List.length_cons];omega
  ·omega
end Go.Proofs.YtojgbcmhdnappaaGreatDoor
namespace Go.Proofs.YtojgbcmhdnappaaGreatDoor
open Classical
abbrev RuR:=List Int×Int
noncomputable def twinR (nm:ByteArray) (k:Nat):List ItR→Nat→List RuR
 | [],_=>[]
 | a :: r,i=>if a.1=nm then ([-(i:Int)-1,-(k:Int)-1],-1) :: twinR nm k r (i+1) else twinR nm k r (i+1)
noncomputable def twinsR (its:List ItR):List ItR→Nat→List RuR
 | [],_=>[]
 | b :: r,k=>twinR b.1 k (its.take k) 0++twinsR its r (k+1)
def upF (zs:List Int):List Int:=zs.map (· + 1)
noncomputable def ruL (its:List ItR) (x:LnR) (n:Nat):List RuR :=
 if x.k=4 then [(upF (amF x.name x.rg its 0),(n:Int))]
 else if x.k=2 then [(-(posN its (itL x)+1) :: upF (amF x.other x.rg its 0),(n:Int))]
 else if x.k=3 then (amF x.other x.rg its 0).map fun z=>([-(posN its (itL x)+1),-z-1],(n:Int))
 else []
noncomputable def rusL (its:List ItR):List LnR→Nat→List RuR
 | [],_=>[]
 | x :: r,n=>ruL its x n++rusL its r (n+1)
noncomputable def rulesF (its:List ItR) (ls:List LnR):List RuR:=twinsR its its 0++rusL its ls 0
def onlyF (ru:List RuR) (bs:List Bool):List (List Int):=(ru.filter fun c=>decide (c.2<0)||bs.getD c.2.toNat false).map (·.1)
theorem twinR_step {nm:ByteArray} {k i:Nat} {l:List ItR} {out all:List RuR} (h:i<l.length) (hp:out++twinR nm k (l.drop i) i=all) :
  (l[i].1=nm→(out++[([-(i:Int)-1,-(k:Int)-1],-1)])++twinR nm k (l.drop (i+1)) (i+1)=all)∧(l[i].1≠nm→out++twinR nm k (l.drop (i+1)) (i+1)=all):=by
 rw [List.drop_eq_getElem_cons h,twinR] at hp
 refine ⟨fun hc=>?_,fun hc=>?_⟩
 ·rw [if_pos hc] at hp
  rw [←hp,List.append_assoc]
  rfl
 ·rw [if_neg hc] at hp
  exact hp
theorem twinsR_step {its:List ItR} {k:Nat} {out all:List RuR} (h:k<its.length) (hp:out++twinsR its (its.drop k) k=all) :
  (out++twinR its[k].1 k (its.take k) 0)++twinsR its (its.drop (k+1)) (k+1)=all:=by
 rw [List.drop_eq_getElem_cons h,twinsR] at hp
 rw [←hp,List.append_assoc]
theorem rusL_step {its:List ItR} {ls:List LnR} {n:Nat} {out all:List RuR} (h:n<ls.length) (hp:out++rusL its (ls.drop n) n=all) :
  (out++ruL its ls[n] n)++rusL its (ls.drop (n+1)) (n+1)=all:=by
 rw [List.drop_eq_getElem_cons h,rusL] at hp
 rw [←hp,List.append_assoc]
theorem twinR_len (nm:ByteArray) (k:Nat):∀ (l:List ItR) (i:Nat),(twinR nm k l i).length≤l.length
 | [],_=>Nat.le_refl _
 | a :: r,i=>by
  have ih:=twinR_len nm k r (i+1)
  unfold twinR
  rw [List.length_cons]
  split
  ·rw [List.length_cons];omega
  ·omega
theorem twinsR_len (its:List ItR):∀ (l:List ItR) (k:Nat),(twinsR its l k).length≤l.length*its.length
 | [],_=>Nat.zero_le _
 | b :: r,k=>by
  have ih:=twinsR_len its r (k+1)
  have h:=twinR_len b.1 k (its.take k) 0
  have h2:(its.take k).length≤its.length:=by rw [List.length_take];omega
  unfold twinsR
  rw [List.length_append,List.length_cons,Nat.succ_mul]
  omega
theorem ruL_len (its:List ItR) (x:LnR) (n:Nat):(ruL its x n).length≤its.length+1:=by
 unfold ruL
 have h:=amF_len x.other x.rg its 0
 repeat' split
 all_goals simp
 all_goals omega
theorem rusL_len (its:List ItR):∀ (l:List LnR) (n:Nat),(rusL its l n).length≤l.length*(its.length+1)
 | [],_=>Nat.zero_le _
 | x :: r,n=>by
  have ih:=rusL_len its r (n+1)
  have h:=ruL_len its x n
  unfold rusL
  rw [List.length_append,List.length_cons,Nat.succ_mul]
  omega
theorem ruL_root {its:List ItR} {x:LnR} (h:x.k=4) (n:Nat):ruL its x n=[(upF (amF x.name x.rg its 0),(n:Int))]:=by unfold ruL;rw [if_pos h]
theorem ruL_needs {its:List ItR} {x:LnR} (h:x.k=2) (n:Nat):ruL its x n=[(-(posN its (itL x)+1) :: upF (amF x.other x.rg its 0),(n:Int))]:=by unfold ruL;rw [if_neg (by omega),if_pos h]
theorem ruL_clash {its:List ItR} {x:LnR} (h:x.k=3) (n:Nat):ruL its x n=(amF x.other x.rg its 0).map fun z=>([-(posN its (itL x)+1),-z-1],(n:Int)):=by unfold ruL;rw [if_neg (by omega),if_neg (by omega),if_pos h]
theorem ruL_none {its:List ItR} {x:LnR} (h2:x.k≠2) (h3:x.k≠3) (h4:x.k≠4) (n:Nat):ruL its x n=[]:=by unfold ruL;rw [if_neg h4,if_neg h2,if_neg h3]
end Go.Proofs.YtojgbcmhdnappaaGreatDoor
namespace Go.Proofs.YtojgbcmhdnappaaGreatDoor
open Classical
def saysF:List LnR→Nat→List Nat
 | [],_=>[]
 | x :: r,i=>if x.k=1 then saysF r (i+1) else i :: saysF r (i+1)
theorem saysF_snoc (l:List LnR) (x:LnR):∀ i,saysF (l++[x]) i=if x.k=1 then saysF l i else saysF l i++[i+l.length]:=by
 induction l with
 | nil=>intro i;by_cases h:x.k=1 <;> simp [saysF,h]
 | cons y r ih =>
  intro i
  rw [List.cons_append,saysF,saysF,ih,List.length_cons]
  by_cases hx:x.k=1
  ·by_cases hy:y.k=1 <;> simp [hx,hy]
  ·by_cases hy:y.k=1
   ·rw [if_pos hy,if_pos hy,if_neg hx,if_neg hx,show i+1+r.length=i+(r.length+1) by omega]
   ·rw [if_neg hy,if_neg hy,if_neg hx,if_neg hx,List.cons_append,show i+1+r.length=i+(r.length+1) by omega]
theorem saysF_take {l:List LnR} {j:Nat} (h:j<l.length):saysF (l.take (j+1)) 0=if l[j].k=1 then saysF (l.take j) 0 else saysF (l.take j) 0++[j]:=by
 rw [List.take_add_one,List.getElem?_eq_getElem h,Option.toList_some,saysF_snoc]
 simp only [List.length_take,Nat.zero_add,Nat.min_eq_left (Nat.le_of_lt h)]
theorem saysF_rng:∀ (l:List LnR) (i:Nat),(∀ x∈saysF l i,i≤x∧x<i+l.length)∧(saysF l i).Pairwise (· < ·):=by
  intro l
  induction l with
  | nil=>intro i;exact ⟨fun x hx=>absurd hx List.not_mem_nil,List.Pairwise.nil⟩
  | cons y r ih =>
    intro i
    obtain ⟨h1,h2⟩:=ih (i+1)
    have h3:∀ x∈saysF r (i+1),i≤x∧x<i+(r.length+1):=fun x hx=>by have:=h1 x hx;omega
    rw [saysF,List.length_cons]
    by_cases hy:y.k=1
    · rw [if_pos hy];exact ⟨h3,h2⟩
    · rw [if_neg hy]
      refine ⟨fun x hx=>?_,List.pairwise_cons.2 ⟨fun x hx=>by have:=h1 x hx;omega,h2⟩⟩
      rcases List.mem_cons.1 hx with rfl | hx
      · omega
      · exact h3 x hx
theorem saysF_len (l:List LnR) (i:Nat):(saysF l i).length≤l.length:=by
 induction l generalizing i with
 | nil=>exact Nat.le_refl _
 | cons y r ih =>
  have:=ih (i+1)
  rw [saysF]
  split
  ·rw [List.length_cons];omega
  ·rw [List.length_cons,List.length_cons];omega
def onF (sy:List Nat) (set:Nat):Nat→Nat→Bool
 | 0,_=>false
 | k+1,i=>if sy[k]?=some i then set.testBit k else onF sy set k i
def onLB (sy:List Nat) (set k n:Nat):List Bool:=(List.range n).map (onF sy set k)
theorem onLB_len (sy:List Nat) (set k n:Nat):(onLB sy set k n).length=n:=by unfold onLB;rw [List.length_map,List.length_range]
theorem onLB_at (sy:List Nat) (set k n i:Nat) (h:i<n):(onLB sy set k n).getD i false=onF sy set k i:=by
 unfold onLB
 rw [List.getD_eq_getElem?_getD,List.getElem?_map,List.getElem?_range h]
 rfl
theorem onLB_get (sy:List Nat) (set k n i:Nat) (h:i<(onLB sy set k n).length):(onLB sy set k n)[i]=onF sy set k i:=by
 simp only [onLB,List.getElem_map,List.getElem_range]
theorem onLB_zero (sy:List Nat) (set n:Nat):onLB sy set 0 n=List.replicate n false:=by
 refine List.ext_getElem (by rw [onLB_len,List.length_replicate]) fun i h1 h2=>?_
 rw [onLB_get,List.getElem_replicate]
 rfl
theorem onLB_set (sy:List Nat) (set k n:Nat) (h:k<sy.length):onLB sy set (k+1) n=(onLB sy set k n).set sy[k] (set.testBit k):=by
 refine List.ext_getElem (by rw [List.length_set,onLB_len,onLB_len]) fun i h1 h2=>?_
 rw [List.getElem_set,onLB_get,onLB_get,onF,List.getElem?_eq_getElem h]
 by_cases e:sy[k]=i
 ·rw [if_pos (congrArg some e),if_pos e]
 ·rw [if_neg (fun c=>e (Option.some.inj c)),if_neg e]
theorem onF_out {sy:List Nat} {set:Nat} {n:Nat} (h:∀ x∈sy,x<n):∀ k i,n≤i→onF sy set k i=false:=by
 intro k
 induction k with
 | zero=>intro i _;rfl
 | succ k ih =>
  intro i hi
  rw [onF,if_neg,ih i hi]
  intro e
  have:=h i (List.mem_of_getElem? e)
  omega
theorem onlyF_same {R:List RuR} {bs bs':List Bool} (h:∀ i,bs.getD i false=bs'.getD i false):onlyF R bs=onlyF R bs':=by
 unfold onlyF
 congr 1
 refine List.filter_congr fun c _=>?_
 rw [h]
theorem onlyF_on (R:List RuR) {sy:List Nat} {set k n n':Nat} (h:∀ x∈sy,x<n) (h':n≤n'):onlyF R (onLB sy set k n)=onlyF R (onLB sy set k n'):=by
 refine onlyF_same fun i=>?_
 by_cases hi:i<n
 ·rw [onLB_at _ _ _ _ _ hi,onLB_at _ _ _ _ _ (by omega)]
 ·have e:(onLB sy set k n).getD i false=false:=by
   rw [List.getD_eq_getElem?_getD,List.getElem?_eq_none (by rw [onLB_len];omega)]
   rfl
  rw [e]
  by_cases hi':i<n'
  ·rw [onLB_at _ _ _ _ _ hi',onF_out h k i (by omega)]
  ·rw [List.getD_eq_getElem?_getD,List.getElem?_eq_none (by rw [onLB_len];omega)]
   rfl
def coreF (ok:Nat→Bool) (set:Nat):Nat→Bool
 | 0=>!ok set
 | k+1=>if set.testBit k then coreF ok set k&&ok (set-2 ^ k) else coreF ok set k
def fixF (ok:Nat→Bool) (all set:Nat):Nat→Bool
 | 0=>ok (all-set)
 | k+1=>if set.testBit k then fixF ok all set k&&!ok (all-set+2 ^ k) else fixF ok all set k
def coresF (ok:Nat→Bool) (m n:Nat):List Nat:=(List.range n).filter fun set=>coreF ok set m
def fixesF (ok:Nat→Bool) (m n:Nat):List Nat:=(List.range n).filter fun set=>fixF ok (2 ^ m-1) set m
theorem coresF_succ (ok:Nat→Bool) (m n:Nat):coresF ok m (n+1)=if coreF ok n m=true then coresF ok m n++[n] else coresF ok m n:=by
 unfold coresF
 rw [List.range_succ,List.filter_append,List.filter_cons,List.filter_nil]
 split
 ·rfl
 ·rw [List.append_nil]
theorem fixesF_succ (ok:Nat→Bool) (m n:Nat):fixesF ok m (n+1)=if fixF ok (2 ^ m-1) n m=true then fixesF ok m n++[n] else fixesF ok m n:=by
 unfold fixesF
 rw [List.range_succ,List.filter_append,List.filter_cons,List.filter_nil]
 split
 ·rfl
 ·rw [List.append_nil]
theorem coresF_len (ok:Nat→Bool) (m n:Nat):(coresF ok m n).length≤n:=by
 unfold coresF
 have:=List.length_filter_le (fun set=>coreF ok set m) (List.range n)
 rw [List.length_range] at this
 exact this
theorem fixesF_len (ok:Nat→Bool) (m n:Nat):(fixesF ok m n).length≤n:=by
 unfold fixesF
 have:=List.length_filter_le (fun set=>fixF ok (2 ^ m-1) set m) (List.range n)
 rw [List.length_range] at this
 exact this
theorem bit_le {set k:Nat} (h:set.testBit k=true):2 ^ k≤set:=Nat.ge_two_pow_of_testBit h
theorem all_less {m set:Nat} (h:set<2 ^ m) (i:Nat):(2 ^ m-1-set).testBit i=(decide (i<m)&&!set.testBit i):=by
 rw [show 2 ^ m-1-set=2 ^ m-(set+1) by omega,Nat.testBit_two_pow_sub_succ h]
end Go.Proofs.YtojgbcmhdnappaaGreatDoor
