/-
  Best: for every input the law returns true, and each argument reads as it read before; and its tied card. Conditions: none beyond the row's own (the listed package-level variables hold what the program's text lays).
-/
import Derived.Test.YtojgbcmhdnappaaGreatDoorRows
import Derived.Test.YtojgbcmhdnappaaGreatDoorBeAt
import Derived.ProofKit
import Derived.LaidMore
import Derived.LaidHandle
import Derived.OpenShut
import Derived.LaidLaws
import Derived.Stop.Joined
import Derived.Deep.Matrix
import Derived.JoinedOf
import Derived.RowKitTokens
import Derived.Test.YtojgbcmhdnappaaGreatDoorBeVerB
import Derived.Lay
import Derived.Lib.LaidTab
import Derived.Stop.LaidErr
import Derived.Shelf.Vars
import Derived.Handed
import Derived.Test.YtojgbcmhdnappaaGreatDoorBeCatLine
import Derived.ChangeArms
import Derived.ChangeSlices
import Derived.Test.YtojgbcmhdnappaaGreatDoorBeLawBest
import Derived.Test.YtojgbcmhdnappaaGreatDoorCards
import Derived.Test.YtojgbcmhdnappaaGreatDoorTie
import Derived.SevenTiedAt
import Derived.Deep.Grids
namespace Go.Proofs.YtojgbcmhdnappaaGreatDoor
open Go.ChangeShapes Go.WideShapes Go.ChangeAt Go.WideElems Go.RowKit Go.Deep
theorem own:ownKnob Tryz.prog.godebug=none:=by kernel_rfl
theorem gErr:Tryz.prog.globalNamed "errors.errorType" = some 3:=by kernel_rfl
theorem rtRow:(Tryz.prog.cutTypes.find? (·.1== "internal/reflectlite.rtype")).map (·.2)=some 351:=by kernel_rfl
theorem oneRow:((List.range 441).filter fun t=>Tryz.prog.rowNamed t [101,114,114,111,114])=[37]:=by kernel_rfl
theorem tsize:Tryz.prog.types.size=441:=by kernel_rfl
theorem cellsInt:Tryz.prog.cellsOf 3=1:=by kernel_rfl
theorem laidOut:laidOutB Tryz.prog=true:=by kernel_rfl
theorem cell_of_handle {W:World} {l:List (String×DataW Unit)} (h:handlesMet Tryz.prog l W) (hm:("errors.errorType",Rows.laid_errors_errorType)∈l) :
  W.cell? ⟨3,0,none⟩=some (.iface 351 (.agg #[.pointer (some ⟨12,37,none⟩)])):=by
 obtain ⟨name,u,ty,e1,e2,e3,e4,e5⟩:=h _ hm
 have en:name=[101,114,114,111,114]:=(Option.some.inj e1).symm
 subst en
 obtain rfl:=Option.some.inj (rtRow.symm.trans e2)
 have hmm:ty∈(List.range 441).filter fun t=>Tryz.prog.rowNamed t [101,114,114,111,114]:=List.mem_filter.2 ⟨List.mem_range.2 (by rw [←tsize];exact e3),e4⟩
 rw [oneRow] at hmm
 obtain rfl:=List.mem_singleton.1 hmm
 have hh:typeHandle Tryz.prog 37=.pointer (some ⟨12,37,none⟩):=by kernel_rfl
 rw [hh] at e5
 simpa using World.var?_cell gErr e5 0
section
variable {H:Type} {enc:TypeId×Value→H} {W:World}
theorem trodAll_below {ts:List TypeId}:∀ {vs:List Value} {ds:List (DataW H)} {ps:List MemPlace} {W':World},(ts.all fun t=>Tryz.prog.readableRec t&&decide (t<Tryz.prog.types.size))=true →
  DataW.TrodAll enc Tryz.prog W 0 (fun _=>true) true ts vs ds ps→Below W.heap.size W W'→(∀ x∈ps,x.block<W.heap.size)→DataW.TrodAll enc Tryz.prog W' 0 (fun b=>decide (b<W.heap.size)) true ts vs ds ps:=by
 induction ts with
 | nil =>
  intro vs ds ps W' _ h _ _
  obtain ⟨rfl,rfl,rfl⟩:=trodAll_nil h
  exact trodAll_mk0
 | cons t ts ih =>
  intro vs ds ps W' hr h hb hlt
  obtain ⟨v,vs',d,ds',p,q,rfl,rfl,rfl,hd,hrest⟩:=trodAll_cons h
  rw [List.all_cons,Bool.and_eq_true,Bool.and_eq_true] at hr
  exact trodAll_cons_mk (Below.trod laidOut hr.1.1 (of_decide_eq_true hr.1.2) hd hb fun x hx=>hlt x (List.mem_append.2 (.inl hx)))
   (ih hr.2 hrest hb fun x hx=>hlt x (List.mem_append.2 (.inr hx)))
theorem law_post {f:Func} {s:ChangeSpec} {W':World} {args:Array Value} {ds gs:List (DataW H)} {before:List MemPlace} (hres:f.resultTypes.toList=[4]) (hsz:f.resultTypes.size=1)
  (hv:s.vars=[]) (hW:DataW.Whole enc Tryz.prog f.params.toList s.vars false W args.toList ds gs before) (hfn:s.fn H ds={ results:=[.lit (.bool true)],args:=ds })
  (hall:(f.params.toList.all fun t=>Tryz.prog.readableRec t&&decide (t<Tryz.prog.types.size))=true) (hb:Below W.heap.size W W') :
  s.post enc Tryz.prog f false true false false W args (.bool true) W':=by
 have hlt:∀ p∈before,p.block<W.heap.size:=fun p hp=>hW.lt p hp
 have hW0:=hW
 obtain ⟨p,q,hA,hV,rfl,_,_⟩:=hW
 rw [hv] at hV
 obtain ⟨rfl,rfl⟩:gs=[]∧q=[]:=by
  cases gs with
  | nil=>exact ⟨rfl,hV⟩
  | cons g r=>exact absurd hV (by intro h;cases h)
 rw [List.append_nil] at hlt
 refine ⟨ds,[],_,[],p,[],hW0,?_,?_,?_,?_,fun h=>by cases h⟩
 ·rw [List.append_nil,hfn,hres,hsz]
  exact trodAll_mk1 (shut_bool Tryz.underlying4 true)
 ·rw [List.append_nil,hfn]
  exact trodAll_below hall hA hb hlt
 ·rw [List.append_nil,hfn,hv]
  rfl
 ·exact hb.frame _
theorem reads_of_cells {a:Addr} {n:Nat} {zs:List Value} (hl:zs.length=n) (hc:∀ c,c<n→∃ u,zs[c]?=some u∧W.cell? (a.add c)=some u):Reads W W.heap.size 1 (some a) n zs:=by
 refine ⟨by omega,fun hn=>⟨a,rfl,?_,?_⟩⟩
 ·obtain ⟨u,_,h0⟩:=hc 0 hn
  have:=lt_of_cell h0
  rw [block_of_add] at this
  exact this
 ·intro j u hu
  have hj:j<n:=by
   rw [←hl]
   rcases Nat.lt_or_ge j zs.length with h | h
   ·exact h
   ·rw [List.getElem?_eq_none h] at hu;cases hu
  obtain ⟨u',h1,h2⟩:=hc j hj
  rw [hu] at h1
  cases h1
  exact h2
theorem ints_of_row {A:Option Addr} {L C:Nat} {Z:List Int} (h1:L≤C) (h2:C≤maxLen) (h3:Z.length=C) (h4:∀ n∈Z,(Lit.int .i64 n).wf=true) (h5:A=none→C=0)
  (h6:∀ a',A=some a'→∀ c,c<C→W.cell? (a'.add c)=some (.int .i64 (Z.getD c 0))):Ints W W.heap.size A L (Z.take L):=by
 refine ⟨by rw [List.length_take];omega,by omega,fun z hz=>bounds_i64 (h4 z (List.mem_of_mem_take hz)),?_⟩
 cases A with
 | none =>
  have:=h5 rfl
  obtain rfl:L=0:=by omega
  rw [List.take_zero]
  exact Reads.none_
 | some a =>
  refine reads_of_cells (by rw [List.length_map,List.length_take];omega) fun c hc=>⟨.int .i64 (Z.getD c 0),?_,h6 a rfl c (by omega)⟩
  rw [List.getElem?_map,List.getElem?_take_of_lt hc,List.getElem?_eq_getElem (by omega),List.getD_eq_getElem?_getD,List.getElem?_eq_getElem (by omega)]
  rfl
theorem ints_of_cells {a:Addr} {n c:Nat} {zs:List Int} (hl:n≤c) (hm:c≤maxLen) (hz:zs.length=c) (hc:∀ j,j<c→W.cell? (a.add j)=some (.int .i64 (zs.getD j 0))) (hw:∀ z∈zs,(Lit.int .i64 z).wf=true):Ints W W.heap.size (some a) n (zs.take n) :=
 ints_of_row hl hm hz hw (fun h=>by cases h) (fun a' ha c hc'=>by cases ha;exact hc c hc')
set_option maxRecDepth 100000 in
theorem open_intsl {v:Value} {d:DataW H} {p:List MemPlace} {j:Nat} (hv:Value.okWide Tryz.prog W .any j 31 v) (h:DataW.Trod enc Tryz.prog W 0 (fun _=>true) true 31 v d p) :
  ∃ A n c zs,v=.slice A n c∧n≤c∧Ints W W.heap.size A n zs:=by
 obtain ⟨a0,len,cap,rfl⟩:=okWide_slice Tryz.underlying31 hv
 obtain ⟨fuel,hf⟩:=h
 rcases open_ints Tryz.underlying31 Tryz.underlying3 cellsInt hf with ⟨hcs,_⟩ | ⟨a,len',cap',zs,hcs,_,hl,hm,hz,_,hcell,hw⟩
 ·simp only [Value.cells,List.cons.injEq,and_true] at hcs
  cases hcs
  exact ⟨none,0,0,[],rfl,Nat.le_refl _,Ints.nil _ _⟩
 ·simp only [Value.cells,List.cons.injEq,and_true] at hcs
  cases hcs
  exact ⟨some a,len,cap,zs.take len,rfl,hl,ints_of_cells hl hm (by simpa using hz) (fun j hj=>hcell j (by simp at hz;omega)) hw⟩
end
end Go.Proofs.YtojgbcmhdnappaaGreatDoor
namespace Go.Proofs.YtojgbcmhdnappaaGreatDoor
open Go.ChangeShapes Go.WideShapes Go.ChangeAt Go.WideElems Go.RowKit Go.Deep
theorem gPowV:Tryz.prog.globalNamed "internal/strconv.uint64pow10" = some 4:=by kernel_rfl
theorem tPowV:(Tryz.prog.globals[4]?).map (·.type)=some 366:=by kernel_rfl
theorem dPowV:(Rows.laid_internal_strconv_uint64pow10:DataW Unit)=Lib.tabData .u64 Lib.pow10Tab:=by kernel_rfl
theorem cellsU64V:Tryz.prog.cellsOf 279=1:=by kernel_rfl
theorem cellsPowV:Tryz.prog.cellsOf 366=20:=by kernel_rfl
theorem gRngV:Tryz.prog.globalNamed "strconv.ErrRange" = some 9:=by kernel_rfl
theorem tRngV:(Tryz.prog.globals[9]?).map (·.type)=some 37:=by kernel_rfl
theorem gSynV:Tryz.prog.globalNamed "strconv.ErrSyntax" = some 8:=by kernel_rfl
theorem tSynV:(Tryz.prog.globals[8]?).map (·.type)=some 37:=by kernel_rfl
theorem cell_of_sentinel {n nm:String} {d:DataW Unit} {r:List (String×DataW Unit)} {W:World} {g:Nat} (h:laidMet Tryz.prog ((n,.iface nm d) :: r) W) (hg:Tryz.prog.globalNamed n=some g) (ht:(Tryz.prog.globals[g]?).map (·.type)=some 37) :
  ∃ tp p,W.cell? ⟨g,0,none⟩=some (.iface tp p):=by
 obtain ⟨ps,⟨g0,t0,cs0,f0,p0,q0,hg0,ht0,hv0,hd0,_,e0⟩,_,hrows⟩:=h
 obtain rfl:=Option.some.inj (hg.symm.trans hg0)
 obtain rfl:=Option.some.inj (ht.symm.trans ht0)
 obtain ⟨f1,u,v,hcs,_,_⟩:=iface_of_trod Tryz.underlying37 hd0
 refine ⟨u,v,?_⟩
 rw [World.var?_cell hg0 hv0 0,←Array.getElem?_toList,hcs]
 rfl
theorem globT_of_head {r:List (String×DataW Unit)} {W:World} (h:laidMet Tryz.prog (("internal/strconv.uint64pow10",Rows.laid_internal_strconv_uint64pow10) :: r) W):GlobT W:=by
 obtain ⟨ps,⟨g2,t2,cs2,f2,p2,q2,hg2,ht2,hv2,hd2,_,_⟩,_,_⟩:=h
 obtain rfl:=Option.some.inj (gPowV.symm.trans hg2)
 obtain rfl:=Option.some.inj (tPowV.symm.trans ht2)
 rw [dPowV] at hd2
 refine ⟨?_⟩
 unfold Lib.TabIs
 rw [hv2,←Lib.cells_of_tab Tryz.underlying366 Tryz.underlying279 cellsU64V cellsPowV hd2]
theorem shape_max {W:World} (h:W.ShapedOpen Tryz.prog):∃ m,W.cell? ⟨5,0,none⟩=some (.int .i64 m) :=
 cell_of_shapedOpen_int h (t:=3) (zero:=#[.int .i64 0]) (of_decide_eq_true (by kernel_rfl)) (by kernel_rfl) rfl (by kernel_rfl) (by kernel_rfl) Tryz.underlying3
theorem returns_shaped {H:Type} {enc:TypeId×Value→H} {a:Assume} {C:Checked} {os:Os} {f:FuncId} {fn:Func} {s:ChangeSpec} {conds:List PathCond} {apart fresh handsOn again:Bool} {X:World→Array Value→Prop}
    (hX:∀ (w w':World) (args:Array Value),w.heap=w'.heap→X w args→X w' args)
    (own:ownKnob C.prog.godebug=none) (started:os.Started) (noInit:C.prog.inits.idxOf? f=none) (hfn:C.prog.funcs[f]?=some fn)
    (witness:∃ (w:World) (tape:Tape) (i:Input),w.os=os∧(w.forCall tape i).Shaped C.prog∧i.vars=[]∧Input.okWide C.prog (w.forCall tape i) .any w.heap.size f i ∧
      ((s.pre enc C.prog fn conds apart (w.forCall tape i).memory i.args∧X (w.forCall tape i).memory i.args)∧sizedMet enc C.prog fn (OpenSpec.ofChange s) apart (w.forCall tape i).memory i.args)∧a.holds C.prog (lone (Frame.enter C.prog f i.args .normal) [] (w.forCall tape i)))
    (contract:∀ (W:World) (base:Nat) (args:Array Value) (ds gs:List (DataW H)) (before:List MemPlace),
      (∀ (j:Nat) t v,fn.params[j]?=some t→args[j]?=some v→Value.okWide C.prog W .any base t v) →
      DataW.Whole enc C.prog fn.params.toList s.vars apart W args.toList ds gs before →
      (DataW.weightsEach C.prog (fn.params.toList++s.plain.varTypes C.prog) (ds++gs)).all (· ≤ reachBytes)=true→X W args→W.ShapedOpen C.prog →
      Calls C.prog f args W fun e W'=>∃ v,e=.returned v∧s.post enc C.prog fn apart fresh handsOn again W args v W') :
    ReturnsInHanded a C os f .any (fun w args=>(s.pre enc C.prog fn conds apart w args∧X w args)∧sizedMet enc C.prog fn (OpenSpec.ofChange s) apart w args) (s.post enc C.prog fn apart fresh handsOn again):=by
  refine returnsInHanded_of_calls own started noInit witness ?_
  intro w tape i _ hsh _ hok hpre _
  obtain ⟨_,_,_,fn',hfn',_,_,_,_,hval⟩:=hok
  have e:fn'=fn:=Option.some.inj (hfn'.symm.trans hfn)
  subst e
  obtain ⟨⟨⟨ds,gs,before,hw,_⟩,hx⟩,hz⟩:=hpre
  have hw':=DataW.Whole.of_heap (w':=w.forCall tape i) (by rfl) hw
  refine (contract (w.forCall tape i) w.heap.size i.args ds gs before hval hw' (hz.weights hw) (hX _ _ _ (by rfl) hx) hsh).mono fun e W' ⟨v,he,hp⟩=>?_
  subst he
  exact ChangeSpec.post_blind hp
end Go.Proofs.YtojgbcmhdnappaaGreatDoor
namespace Go.Proofs.YtojgbcmhdnappaaGreatDoor
open Go.ChangeShapes Go.WideShapes Go.ChangeAt Go.WideElems Go.RowKit Go.Deep
def laidC:List (String×DataW Unit):=[("math/bits.deBruijn32tab",Rows.laid_math_bits_deBruijn32tab),("math/bits.deBruijn64tab",Rows.laid_math_bits_deBruijn64tab),("internal/strconv.uint64pow10",Rows.laid_internal_strconv_uint64pow10),("unicode/utf8.acceptRanges",Rows.laid_unicode_utf8_acceptRanges),("errors.errorType",Rows.laid_errors_errorType),("strconv.ErrRange",Rows.laid_strconv_ErrRange),("strconv.ErrSyntax",Rows.laid_strconv_ErrSyntax),("solspace/solspaceref.kinds",Rows.laid_solspace_solspaceref_kinds),("solspace/solspaceref.Fine",Rows.laid_solspace_solspaceref_Fine),("unicode/utf8.first",Rows.laid_unicode_utf8_first)]
def laidC2:List (String×DataW Unit):=[("math/bits.deBruijn32tab",Rows.laid_math_bits_deBruijn32tab),("math/bits.deBruijn64tab",Rows.laid_math_bits_deBruijn64tab),("internal/strconv.uint64pow10",Rows.laid_internal_strconv_uint64pow10),("unicode/utf8.acceptRanges",Rows.laid_unicode_utf8_acceptRanges),("strconv.ErrRange",Rows.laid_strconv_ErrRange),("strconv.ErrSyntax",Rows.laid_strconv_ErrSyntax),("solspace/solspaceref.kinds",Rows.laid_solspace_solspaceref_kinds),("solspace/solspaceref.Fine",Rows.laid_solspace_solspaceref_Fine),("unicode/utf8.first",Rows.laid_unicode_utf8_first)]
noncomputable def startC (os:Os):World:=(World.doorLaid Tryz.prog 400 os).layVars Tryz.prog laidC2
theorem startC_two (os:Os) (args:Array Value):laidMet Tryz.prog laidC2 ((startC os).forCall (fun _ _=>0) ⟨#[],args,[]⟩).memory:=by
 have e1:(laidC2.filter fun x=>(laidC2.map (·.1)).contains x.1)=laidC2:=by kernel_rfl
 have e2:(laidC2.filter fun x=>!(laidC2.map (·.1)).contains x.1)=[]:=by kernel_rfl
 have h:laidMet Tryz.prog laidC2 (startC os):=laidMet_layVars (w0:=World.doorLaid Tryz.prog 400 os) (laidC2.map (·.1)) [] (by rw [e1];rfl) (by rw [e1];kernel_rfl) (by rw [e1];kernel_rfl) (by rw [e2];exact LaidIn.none)
 exact h.of_heap (by simp [World.memory,World.forCall,Input.heap])
theorem startC_met (os:Os) (args:Array Value):laidMetH Tryz.prog laidC ((startC os).forCall (fun _ _=>0) ⟨#[],args,[]⟩).memory :=
 laidMetH_of_parts (startC_two os args) (by kernel_rfl)
theorem gFineC:Tryz.prog.globalNamed "solspace/solspaceref.Fine" = some 0:=by kernel_rfl
theorem tFineC:(Tryz.prog.globals[0]?).map (·.type)=some 80:=by kernel_rfl
theorem cellsFaultC:Tryz.prog.cellsOf 80=2:=by kernel_rfl
theorem cellsErrnoC:Tryz.prog.cellsOf 41=1:=by kernel_rfl
theorem cellsIntC:Tryz.prog.cellsOf 3=1:=by kernel_rfl
set_option maxRecDepth 100000 in
theorem fineC_of_head {r:List (String×DataW Unit)} {W:World} (h:laidMet Tryz.prog (("solspace/solspaceref.Fine",Rows.laid_solspace_solspaceref_Fine) :: r) W):FineP W:=by
 obtain ⟨ps,⟨g0,t0,cs0,f0,p0,q0,hg0,ht0,hv0,hd0,_,_⟩,_,_⟩:=h
 obtain rfl:=Option.some.inj (gFineC.symm.trans hg0)
 obtain rfl:=Option.some.inj (tFineC.symm.trans ht0)
 obtain ⟨y0,y1,n,hx,hl,h0,h1⟩:=trod_struct2 Tryz.underlying80 hd0
 rw [cellsFaultC] at hl
 obtain ⟨l⟩:=cs0
 match l,hl with
 | [c0,c1],_ =>
  rw [cellsErrnoC] at h0
  rw [cellsIntC] at h1
  obtain ⟨a,ea,rfl,_⟩:=DataW.trod_int Tryz.underlying41 h0
  obtain ⟨b,eb,rfl,_⟩:=DataW.trod_int Tryz.underlying3 h1
  simp at ea eb
  subst ea eb
  simp only [Rows.laid_solspace_solspaceref_Fine,Prod.mk.injEq,DataW.agg.injEq,List.cons.injEq,DataW.lit.injEq,Lit.int.injEq] at hx
  obtain ⟨⟨⟨_,rfl⟩,⟨_,rfl⟩,_⟩,_⟩:=hx
  have c0:=World.var?_cell hg0 hv0 0
  have c1:=World.var?_cell hg0 hv0 1
  exact ⟨by simpa using c0,by simpa using c1⟩
theorem gKindsC:Tryz.prog.globalNamed "solspace/solspaceref.kinds" = some 1:=by kernel_rfl
theorem tKindsC:(Tryz.prog.globals[1]?).map (·.type)=some 147:=by kernel_rfl
theorem cellsStrC:Tryz.prog.cellsOf 9=1:=by kernel_rfl
set_option maxRecDepth 100000 in
theorem kinds_of_head {r:List (String×DataW Unit)} {W:World} (h:laidMet Tryz.prog (("solspace/solspaceref.kinds",Rows.laid_solspace_solspaceref_kinds) :: r) W):KindsP W:=by
 obtain ⟨ps,⟨g0,t0,cs0,f0,p0,q0,hg0,ht0,hv0,hd0,_,_⟩,_,_⟩:=h
 obtain rfl:=Option.some.inj (gKindsC.symm.trans hg0)
 obtain rfl:=Option.some.inj (tKindsC.symm.trans ht0)
 obtain ⟨l0⟩:=cs0
 rcases DataW.trod_slice Tryz.underlying147 hd0 with ⟨_,hx⟩ | ⟨a,len,cap,elems,rest,n,_,hcs,hx,_,hlc,_,hel,hcell,_,_⟩
 ·have h9:=congrArg Prod.fst hx
  simp only [Rows.laid_solspace_solspaceref_kinds] at h9
  cases h9
 ·have h9:DataW.slice [DataW.lit (.string []),.lit (.string [112,97,99,107,97,103,101]),.lit (.string [110,101,101,100,115]),.lit (.string [99,108,97,115,104,101,115]),.lit (.string [114,111,111,116])] []=DataW.slice (elems.map (·.1)) (rest.map (·.1)):=congrArg Prod.fst hx
  injection h9 with h8 _
  have h5:len=5:=by rw [←hel];have:=congrArg List.length h8;simp at this;omega
  subst h5
  have c0:=World.var?_cell hg0 hv0 0
  obtain rfl:l0=[.slice (some a) 5 cap]:=by simpa using hcs
  have each:∀ k,k<5→W.cell? (a.add k)=some (.string (kindB.getD k ByteArray.empty)):=by
   intro k hk
   have hk':k<elems.length:=by omega
   have h1:=hcell k hk
   rw [cellsStrC,Nat.mul_one,List.getElem?_eq_getElem hk'] at h1
   cases hc:W.cells? 0 (a.add k) 1 with
   | none=>rw [hc] at h1;cases h1
   | some cs =>
    rw [hc] at h1
    obtain ⟨s,rfl,hd,_⟩:=DataW.trod_string Tryz.underlying9 h1
    have h2:=cell_of_cells?_one hc
    rw [h2]
    have h3:(elems[k]).1=.lit (.string s.data.toList):=by rw [hd]
    have h4:(elems.map (·.1))[k]?=some (.lit (.string s.data.toList)):=by rw [List.getElem?_map,List.getElem?_eq_getElem hk',Option.map_some,h3]
    rw [←h8] at h4
    rcases (show k=0∨k=1∨k=2∨k=3∨k=4 by omega) with rfl | rfl | rfl | rfl | rfl <;>
    ·simp only [List.getElem?_cons_zero,List.getElem?_cons_succ,Option.some.injEq,DataW.lit.injEq,Lit.string.injEq] at h4
     exact congrArg (fun z=>some (Value.string z)) (bytes_back _ s h4).symm
  obtain ⟨b,off,spot⟩:=a
  have hsp:spot=none:=by
   have h1:=each 0 (by omega)
   unfold Addr.add at h1
   rw [if_pos rfl] at h1
   cases spot with
   | none=>rfl
   | some sp =>
    unfold World.cell? at h1
    split at h1 <;> simp at h1
  subst hsp
  refine ⟨b,off,cap,by simpa using c0,fun k hk=>?_⟩
  have:=each k hk
  rwa [Addr.add_lit] at this
theorem globV_of_laidC {W:World} (h:laidMetH Tryz.prog laidC W) (hs:W.ShapedOpen Tryz.prog):GlobV W∧FineP W∧KindsP W:=by
 have h':laidMet Tryz.prog laidC2 W∧handlesMet Tryz.prog [("errors.errorType",Rows.laid_errors_errorType)] W:=h
 have h3:=laidMet.tail (laidMet.tail h'.1)
 have h5:=laidMet.tail (laidMet.tail h3)
 exact ⟨⟨⟨cell_of_handle h'.2 (List.mem_singleton.2 rfl)⟩,globT_of_head h3,shape_max hs,cell_of_sentinel (laidMet.tail h5) gSynV tSynV,cell_of_sentinel h5 gRngV tRngV⟩,fineC_of_head (laidMet.tail (laidMet.tail (laidMet.tail h5))),kinds_of_head (laidMet.tail (laidMet.tail h5))⟩
end Go.Proofs.YtojgbcmhdnappaaGreatDoor
namespace Go.Proofs.YtojgbcmhdnappaaGreatDoor
open Go.ChangeShapes Go.WideShapes Go.ChangeAt Go.WideElems Go.RowKit Go.Deep
set_option maxRecDepth 100000 in
theorem spaceBest_lifted (os:Os) (started:os.Started) (H:Type) (enc:TypeId×Value→H) :
  ReturnsInHanded {} Tryz.checked os 5 .any (fun w args=>(Rows.spaceBestSpec.pre enc Tryz.prog Tryz.f5 [] false w args∧laidMetH Tryz.prog laidC w)∧sizedMet enc Tryz.prog Tryz.f5 (OpenSpec.ofChange Rows.spaceBestSpec) false w args)
   (Rows.spaceBestSpec.post enc Tryz.prog Tryz.f5 false true false false):=by
 refine returns_shaped (C:=Tryz.checked) (X:=fun w _=>laidMetH Tryz.prog laidC w) (fun _ _ _ hh h=>h.of_heap hh) own started (by kernel_rfl) Tryz.func5
  (ChangeSpec.witness_shaped (enc:=enc) (C:=Tryz.checked) (os:=os) (X:=fun w _=>laidMetH Tryz.prog laidC w) false (startC os) #[.string (ByteArray.mk #[]),.int .u64 0,.slice none 0 0] 8 rfl (World.shaped_of_RefB (by kernel_rfl) (by kernel_rfl)) (by kernel_rfl) (by kernel_rfl) (by kernel_rfl) (startC_met os _)) ?_
 intro W base args ds gs before hval0 hW _ hL hS
 have hval:∀ (j:Nat) t v,Tryz.f5.params[j]?=some t→args[j]?=some v→Value.okWide Tryz.prog W .any base t v:=hval0
 have hW':=hW
 obtain ⟨p,q,hA0,hV,rfl,hfz,hnd⟩:=hW
 have hA:DataW.TrodAll enc Tryz.prog W 0 (fun _=>true) true Tryz.f5.params.toList args.toList ds p:=hA0
 rw [Tryz.params5] at hA hval
 obtain ⟨v0,v1,v2,d0,d1,d2,p0,p1,p2,rfl,rfl,rfl,h0,h1,h2⟩:=trodAll_three hA
 obtain ⟨s0,rfl,rfl,rfl,hs0⟩:=Go.ChangeMaps.open_string Tryz.underlying9 (hval 0 9 v0 rfl rfl) h0
 obtain ⟨x1,rfl,rfl,rfl,wx1⟩:=open_int Tryz.underlying61 (hval 1 61 v1 rfl rfl) h1
 have hu1:=bounds_u64 wx1
 obtain ⟨A2,n2,c2,zs2,rfl,_,hz2⟩:=open_intsl (hval 2 31 v2 rfl rfl) h2
 have hgl:=globV_of_laidC hL hS
 refine (lawBest_walk s0 x1 A2 n2 c2 zs2 W hgl.1 hgl.2.1 hgl.2.2 hs0 hu1.1 hu1.2 hz2).mono fun e W' ⟨he,hb⟩=>?_
 subst he
 exact ⟨_,rfl,law_post (by kernel_rfl) (by kernel_rfl) rfl hW' rfl (by kernel_rfl) hb⟩
theorem andT {a b:Bool} (ha:a=true) (hb:b=true):(a&&b)=true:=by rw [ha,hb];rfl
set_option maxHeartbeats 4000000 in
theorem spaceBest_closed:joinedFacts Tryz.prog 5 Tryz.f5 Rows.spaceBestSpec Rows.spaceBestRow=true:=by
 unfold joinedFacts
 repeat' (with_reducible refine andT ?_ ?_)
 all_goals as_aux_lemma=>kernel_rfl
theorem spaceBest_func:Tryz.prog.funcNamed Rows.spaceBestRow.func=some 5:=by kernel_rfl
theorem spaceBest_row:Rows.SpaceBestSaid :=
 OpenClaim.holds_of_wide 5 Tryz.f5 rfl rfl rfl rfl rfl rfl rfl ⟨rfl,rfl,rfl,rfl,rfl⟩ rfl rfl rfl rfl rfl spaceBest_func Tryz.func5 spaceBest_closed
  (of_decide_eq_true (by kernel_rfl)) (by unfold Func.isWrapper;first | (rw [if_pos (by decide +kernel)];kernel_rfl) | (rw [if_neg (by decide +kernel)];exact ⟨rfl,rfl⟩))
  (fun os started H enc _=>spaceBest_lifted os started H enc)
theorem spaceBest_wf:Rows.spaceBestRow.wfByText (OpenSpec.ofChange Rows.spaceBestSpec)=true:=by kernel_rfl
theorem spaceBest_looks:Rows.spaceBestCard.stood.looks=Tryz.prog.looks []:=by kernel_rfl
theorem spaceBest_goes:false=Rows.spaceBestRow.goesBy Tryz.prog:=by kernel_rfl
theorem spaceBest_main:Tryz.checked.prog.mainIs=some (Rows.spaceBestCard.stood.harness.1,Rows.spaceBestCard.stood.harness.2.toList):=by kernel_rfl
theorem spaceBest_card:Rows.SpaceBestCardSaid :=
 Claim7.holds_tied_plain_at .later [] [.data,.data,.data,.data,.handle,.sentinel,.sentinel,.data,.data,.pinned] true Rows.spaceBestCard.stood.harness Rows.spaceBestCard.stood.looks
  spaceBest_row (fun _ h=>by cases h) spaceBest_wf (fun _ h=>by cases h) spaceBest_row_tie rfl ⟨rfl,rfl⟩ spaceBest_main rfl
  (fun f fn hf hfn=>by
   obtain rfl:f=5:=Option.some.inj (spaceBest_func.symm.trans hf) |>.symm
   obtain rfl:fn=Tryz.f5:=(Option.some.inj (Tryz.func5.symm.trans hfn)).symm
   exact ⟨spaceBest_looks,fun j t ht=>by
    rw [Tryz.params5] at ht
    have hm:t∈[9,61,31]:=by simpa using Array.mem_of_getElem? ht
    have hall:([9,61,31].all fun u=>!Tryz.prog.wantsStandIn u)=true:=by as_aux_lemma=>kernel_rfl
    exact (show Tryz.prog.wantsStandIn t=false by simpa using List.all_eq_true.1 hall t hm)⟩)
  spaceBest_goes
end Go.Proofs.YtojgbcmhdnappaaGreatDoor
