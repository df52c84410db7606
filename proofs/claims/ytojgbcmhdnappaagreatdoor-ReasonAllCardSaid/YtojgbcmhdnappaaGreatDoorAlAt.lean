/-
  A part of the proof: At. Conditions: none.
-/
import Derived.Test.YtojgbcmhdnappaaGreatDoorProg
import Derived.WalkKit
import Derived.LaidEql
import Derived.Stop.Asserts
import Derived.RowKitTokens
import Derived.Test.YtojgbcmhdnappaaGreatDoorAlRefCheck
namespace Go.Proofs.YtojgbcmhdnappaaGreatDoor
open Go.RowKit Go.Extern.Stop Go.Stop Go.Extern
theorem valueOfP (t:Addr) (w:World):(ReflectliteValue.unpack (.iface 261 (.pointer (some t)))).run Tryz.prog w
  = .ok (.agg #[.pointer (some ⟨12,261,none⟩),.pointer (some ⟨w.heap.size,0,none⟩),.int .u64 150]) (w.alloc (.cells #[.pointer (some t)] 261)):=by kernel_rfl
theorem typeP (a:Addr) (w:World):(ReflectliteValue.methodAny (ReflectliteValue.valueError "reflectlite.Value.Type" 0) (fun t _ _ _=>ReflectliteType.toType t) #[.agg #[.pointer (some ⟨12,261,none⟩),.pointer (some a),.int .u64 150]]).run Tryz.prog w
  = .ok (.iface 351 (.agg #[.pointer (some ⟨12,261,none⟩)])) w:=by kernel_rfl
theorem methodKind (h:Value) (w:World):(Go.method 541 351 (.agg #[h]) "Kind").run Tryz.prog w=.ok (315,h) w:=by kernel_rfl
theorem kindP (w:World):((ReflectliteType.abiMethod fun t=>(fun a:Nat=>Value.int IntKind.u8 (a:Int)) <$> Rtype.kind t) #[.pointer (some ⟨12,261,none⟩)]).run Tryz.prog w=.ok (.int .u8 22) w:=by kernel_rfl
theorem kindE (w:World):((ReflectliteType.abiMethod fun t=>(fun a:Nat=>Value.int IntKind.u8 (a:Int)) <$> Rtype.kind t) #[.pointer (some ⟨12,41,none⟩)]).run Tryz.prog w=.ok (.int .u8 2) w:=by kernel_rfl
theorem rlm (z:Sem Value) (f:TypeId→Addr→Nat→Nat→Sem Value) (v:Value) :
  ReflectliteValue.method z f #[v]=(do match ←ReflectliteValue.parts v with | none=>z | some (t,a,fl)=>f t a fl (fl % 32)):=rfl
theorem partsP (a:Addr) (w:World):(ReflectliteValue.parts (.agg #[.pointer (some ⟨12,261,none⟩),.pointer (some a),.int .u64 150])).run Tryz.prog w=.ok (some (261,a,150)) w:=by kernel_rfl
theorem isNilP (a p:Addr) (W:World) (ha:W.cell? a=some (.pointer (some p))) :
  (ReflectliteValue.method (ReflectliteValue.valueError "reflectlite.Value.IsNil" 0) ReflectliteValue.isNil #[.agg #[.pointer (some ⟨12,261,none⟩),.pointer (some a),.int .u64 150]]).run Tryz.prog W=.ok (.bool false) W:=by
 rw [rlm]
 simp only [Sem.run_bind,partsP,Result.andThen]
 simp [ReflectliteValue.isNil,loadVar,isAgg,underlying,Tryz.underlying261,ha,Result.andThen]
theorem methodElem (h:Value) (w:World):(Go.method 541 351 (.agg #[h]) "Elem").run Tryz.prog w=.ok (329,.agg #[h]) w:=by kernel_rfl
theorem methodImplements (h:Value) (w:World):(Go.method 541 351 (.agg #[h]) "Implements").run Tryz.prog w=.ok (330,.agg #[h]) w:=by kernel_rfl
theorem methodAssignableTo (h:Value) (w:World):(Go.method 541 351 (.agg #[h]) "AssignableTo").run Tryz.prog w=.ok (327,.agg #[h]) w:=by kernel_rfl
theorem elemP (w:World):(ReflectliteType.method ReflectliteType.elem #[.agg #[.pointer (some ⟨12,261,none⟩)]]).run Tryz.prog w=.ok (.iface 351 (.agg #[.pointer (some ⟨12,41,none⟩)])) w:=by kernel_rfl
theorem implementsE (w:World):(ReflectliteType.relation "Implements" ReflectliteType.implements_ #[.agg #[.pointer (some ⟨12,41,none⟩)],.iface 351 (.agg #[.pointer (some ⟨12,37,none⟩)])]).run Tryz.prog w=.ok (.bool true) w:=by kernel_rfl
theorem typeOfE (v:Value) (w:World):(ReflectliteType.typeOf #[.iface 41 v]).run Tryz.prog w=.ok (.iface 351 (.agg #[.pointer (some ⟨12,41,none⟩)])) w:=by kernel_rfl
theorem typeOfAt (v:Value) (w:World):(ReflectliteType.typeOf #[.iface 183 v]).run Tryz.prog w=.ok (.iface 351 (.agg #[.pointer (some ⟨12,183,none⟩)])) w:=by kernel_rfl
theorem assignableE (w:World):(ReflectliteType.relation "AssignableTo" ReflectliteType.assignableTo #[.agg #[.pointer (some ⟨12,41,none⟩)],.iface 351 (.agg #[.pointer (some ⟨12,41,none⟩)])]).run Tryz.prog w=.ok (.bool true) w:=by kernel_rfl
theorem assignableAt (w:World):(ReflectliteType.relation "AssignableTo" ReflectliteType.assignableTo #[.agg #[.pointer (some ⟨12,183,none⟩)],.iface 351 (.agg #[.pointer (some ⟨12,41,none⟩)])]).run Tryz.prog w=.ok (.bool false) w:=by kernel_rfl
theorem valueOfE (n:Int) (w:World):(ReflectliteValue.unpack (.iface 41 (.int .i64 n))).run Tryz.prog w
  = .ok (.agg #[.pointer (some ⟨12,41,none⟩),.pointer (some ⟨w.heap.size,0,none⟩),.int .u64 130]) (w.alloc (.cells #[.int .i64 n] 41)):=by kernel_rfl
theorem elemOfP (w:World):(Rtype.elem? 261).run Tryz.prog w=.ok (some 41) w:=by kernel_rfl
theorem mkE (p:Addr) (w:World):(ReflectliteValue.mk 41 p ReflectliteValue.flagAddr).run Tryz.prog w=.ok (.agg #[.pointer (some ⟨12,41,none⟩),.pointer (some p),.int .u64 386]) w:=by kernel_rfl
theorem elemV (a p:Addr) (W:World) (ha:W.cell? a=some (.pointer (some p))) :
  (ReflectliteValue.method (ReflectliteValue.valueError "reflectlite.Value.Elem" 0) ReflectliteValue.elem #[.agg #[.pointer (some ⟨12,261,none⟩),.pointer (some a),.int .u64 150]]).run Tryz.prog W
   = .ok (.agg #[.pointer (some ⟨12,41,none⟩),.pointer (some p),.int .u64 386]) W:=by
 rw [rlm]
 simp only [Sem.run_bind,partsP,Result.andThen]
 simp [ReflectliteValue.elem,loadVar,isAgg,underlying,Tryz.underlying261,ha,Result.andThen,elemOfP,mkE]
theorem rls (v x:Value):ReflectliteValue.set #[v,x]=(do
  let (some (dst,a,fl),some (src,b,_)):=(←ReflectliteValue.parts v,←ReflectliteValue.parts x)
   | unsupported (.noEntry "extern/(internal/reflectlite.Value).Set.zeroValue")
  if fl / ReflectliteValue.flagAddr % 2==0 then unsupported (.noEntry "extern/(internal/reflectlite.Value).Set.unaddressable")
  let val ←loadVar src b
  if ←Rtype.directlyAssignable dst src then storeVar dst a val
  else if ←Rtype.implements dst src then
   if (←Rtype.kind src)==20 then
    match val with
    | .nilIface=>unsupported (.noEntry "extern/reflectlite: a nil value of one interface type handed on as a value of another")
    | _=>storeVar dst a val
   else storeVar dst a (.iface src val)
  else panicString ("reflectlite.Set: value of type " ++ (←Rtype.spelt src)++ " is not assignable to type " ++ (←Rtype.spelt dst))
  pure (.tuple #[])):=rfl
theorem partsEa (a:Addr) (w:World):(ReflectliteValue.parts (.agg #[.pointer (some ⟨12,41,none⟩),.pointer (some a),.int .u64 386])).run Tryz.prog w=.ok (some (41,a,386)) w:=by kernel_rfl
theorem partsE (a:Addr) (w:World):(ReflectliteValue.parts (.agg #[.pointer (some ⟨12,41,none⟩),.pointer (some a),.int .u64 130])).run Tryz.prog w=.ok (some (41,a,130)) w:=by kernel_rfl
theorem directE (w:World):(Rtype.directlyAssignable 41 41).run Tryz.prog w=.ok true w:=by kernel_rfl
theorem setE (ta b:Addr) (n:Int) (old:Value) (W:World) (hb:W.cell? b=some (.int .i64 n)) (ht:W.cell? ta=some old) (hf:W.frozen? ta=false) :
  (ReflectliteValue.set #[.agg #[.pointer (some ⟨12,41,none⟩),.pointer (some ta),.int .u64 386],.agg #[.pointer (some ⟨12,41,none⟩),.pointer (some b),.int .u64 130]]).run Tryz.prog W
   = .ok (.tuple #[]) (W.setCell ta (.int .i64 n)):=by
 rw [rls]
 simp only [Sem.run_bind,partsEa,partsE,Result.andThen]
 simp [ReflectliteValue.flagAddr,loadVar,isAgg,underlying,Tryz.underlying41,hb,Result.andThen,directE,storeVar,Value.cells,storeCells,Addr.add]
 rw [run_store Tryz.prog W ta _ _ (by rfl)]
 simp [ht,hf]
theorem assertAsAt (v:Value) (w:World):(Instr.typeAssert (.iface 183 v) 37 356 true).run Tryz.prog w=.ok (.tuple #[.nilIface,.bool false]) w :=
 run_typeAssert_lacksB Tryz.underlying356 (by kernel_rfl) (by kernel_rfl) v _ w
theorem assertUnwrapAt (v:Value) (w:World):(Instr.typeAssert (.iface 183 v) 37 243 true).run Tryz.prog w=.ok (.tuple #[.iface 183 v,.bool true]) w :=
 run_typeAssert_hasB Tryz.underlying243 (by kernel_rfl) v _ w
theorem assertUnwrapE (v:Value) (w:World):(Instr.typeAssert (.iface 41 v) 37 243 true).run Tryz.prog w=.ok (.tuple #[.nilIface,.bool false]) w :=
 run_typeAssert_lacksB Tryz.underlying243 (by kernel_rfl) (by kernel_rfl) v _ w
theorem methodUnwrap (v:Addr) (w:World):(Go.method 541 183 (.pointer (some v)) "Unwrap").run Tryz.prog w=.ok (322,.pointer (some v)) w:=by kernel_rfl
end Go.Proofs.YtojgbcmhdnappaaGreatDoor
namespace Go.Proofs.YtojgbcmhdnappaaGreatDoor
open Go.RowKit Go.Extern.Stop Go.Stop Go.Extern
set_option maxHeartbeats 4000000 in
theorem as_errno (n:Int) (t:Addr) (old:Value) (w:World) (hG:GlobE w) (ht0:w.cell? t=some old) (hf0:w.frozen? t=false) :
  Calls Tryz.prog 146 #[.iface 41 (.int .i64 n),.iface 261 (.pointer (some t))] w fun ev w'=>ev=.returned (.bool true)∧((((w.alloc (.cells #[.pointer (some t)] 261)).alloc (.cells #[.pointer (some ⟨12,261,none⟩),.pointer (some ⟨w.heap.size,0,none⟩),.int .u64 150] 304)).alloc (.cells #[.pointer (some ⟨12,261,none⟩),.pointer (some ⟨w.heap.size,0,none⟩),.int .u64 150] 304)).alloc (.cells #[.int .i64 n] 41)).setCell t (.int .i64 n)=w':=by
 have hV:=@run_callFunc_extern Tryz.prog 193 _ (fun args=>ReflectliteValue.unpack (args.getD 0 (.tuple #[]))) Tryz.func193 (by kernel_rfl) (by kernel_rfl) (by kernel_rfl) (by kernel_rfl)
 have hT:=@run_callFunc_extern Tryz.prog 194 _ (ReflectliteValue.methodAny (ReflectliteValue.valueError "reflectlite.Value.Type" 0) (fun t _ _ _=>ReflectliteType.toType t)) Tryz.func194 (by kernel_rfl) (by kernel_rfl) (by kernel_rfl) (by kernel_rfl)
 have hN:=@run_callFunc_extern Tryz.prog 195 _ (ReflectliteValue.method (ReflectliteValue.valueError "reflectlite.Value.IsNil" 0) ReflectliteValue.isNil) Tryz.func195 (by kernel_rfl) (by kernel_rfl) (by kernel_rfl) (by kernel_rfl)
 have hK:=@run_callFunc_extern Tryz.prog 315 _ (ReflectliteType.abiMethod fun t=>do pure (.int .u8 (←Rtype.kind t))) Tryz.func315 (by kernel_rfl) (by kernel_rfl) (by kernel_rfl) (by kernel_rfl)
 have hL:=@run_callFunc_extern Tryz.prog 329 _ (ReflectliteType.method ReflectliteType.elem) Tryz.func329 (by kernel_rfl) (by kernel_rfl) (by kernel_rfl) (by kernel_rfl)
 have hI:=@run_callFunc_extern Tryz.prog 330 _ (ReflectliteType.relation "Implements" ReflectliteType.implements_) Tryz.func330 (by kernel_rfl) (by kernel_rfl) (by kernel_rfl) (by kernel_rfl)
 have hO:=@run_callFunc_extern Tryz.prog 241 _ ReflectliteType.typeOf Tryz.func241 (by kernel_rfl) (by kernel_rfl) (by kernel_rfl) (by kernel_rfl)
 have hA:=@run_callFunc_extern Tryz.prog 327 _ (ReflectliteType.relation "AssignableTo" ReflectliteType.assignableTo) Tryz.func327 (by kernel_rfl) (by kernel_rfl) (by kernel_rfl) (by kernel_rfl)
 have hE:=@run_callFunc_extern Tryz.prog 242 _ (ReflectliteValue.method (ReflectliteValue.valueError "reflectlite.Value.Elem" 0) ReflectliteValue.elem) Tryz.func242 (by kernel_rfl) (by kernel_rfl) (by kernel_rfl) (by kernel_rfl)
 have hS:=@run_callFunc_extern Tryz.prog 243 _ ReflectliteValue.set Tryz.func243 (by kernel_rfl) (by kernel_rfl) (by kernel_rfl) (by kernel_rfl)
 have tO:=typeOfE
 have mA:=methodAssignableTo
 have aE:=assignableE
 have vE:=valueOfE
 have vP:=valueOfP
 have tP:=typeP
 have mK:=methodKind
 have mE:=methodElem
 have mI:=methodImplements
 have kP:=kindP
 have kE:=kindE
 have eP:=elemP
 have iE:=implementsE
 have nP:=isNilP ⟨w.heap.size,0,none⟩ t ((w.alloc (.cells #[.pointer (some t)] 261)).alloc (.cells #[.pointer (some ⟨12,261,none⟩),.pointer (some ⟨w.heap.size,0,none⟩),.int .u64 150] 304)) (by simp)
 have hlt:=lt_of_cell hG.e0
 have hg2:((w.alloc (.cells #[.pointer (some t)] 261)).alloc (.cells #[.pointer (some ⟨12,261,none⟩),.pointer (some ⟨w.heap.size,0,none⟩),.int .u64 150] 304)).cell? ⟨3,0,none⟩=some (.iface 351 (.agg #[.pointer (some ⟨12,37,none⟩)])):=by
  have h0:3<w.heap.size:=hlt
  rw [World.cell?_alloc_lt _ _ ⟨3,0,none⟩ (by simp <;> omega),World.cell?_alloc_lt _ _ ⟨3,0,none⟩ hlt];exact hG.e0
 have htl:t.block<w.heap.size:=lt_of_cell ht0
 have el:=elemV ⟨w.heap.size,0,none⟩ t (((w.alloc (.cells #[.pointer (some t)] 261)).alloc (.cells #[.pointer (some ⟨12,261,none⟩),.pointer (some ⟨w.heap.size,0,none⟩),.int .u64 150] 304)).alloc (.cells #[.pointer (some ⟨12,261,none⟩),.pointer (some ⟨w.heap.size,0,none⟩),.int .u64 150] 304)) (by rw [World.cell?_alloc_lt _ _ ⟨w.heap.size,0,none⟩ (by simp;omega)];simp)
 have st:=setE t ⟨w.heap.size+1+1+1,0,none⟩ n old ((((w.alloc (.cells #[.pointer (some t)] 261)).alloc (.cells #[.pointer (some ⟨12,261,none⟩),.pointer (some ⟨w.heap.size,0,none⟩),.int .u64 150] 304)).alloc (.cells #[.pointer (some ⟨12,261,none⟩),.pointer (some ⟨w.heap.size,0,none⟩),.int .u64 150] 304)).alloc (.cells #[.int .i64 n] 41))
  (by rw [World.cell?_alloc_at _ _ _ _ (by simp)];rfl)
  (by rw [World.cell?_alloc_lt _ _ t (by simp <;> omega),World.cell?_alloc_lt _ _ t (by simp;omega),World.cell?_alloc_lt _ _ t (by simp;omega),World.cell?_alloc_lt _ _ t htl];exact ht0)
  (by rw [World.frozen?_alloc_old _ _ t (by simp;omega),World.frozen?_alloc_old _ _ t (by simp;omega),World.frozen?_alloc_old _ _ t (by simp;omega),World.frozen?_alloc_old _ _ t (Nat.ne_of_lt htl)];exact hf0)
 clear hlt
 go_enter Tryz.func146,Tryz.ntmps146
 go_wp2
 refine wp_loop_rounds 1 ?_
 rw [rounds_succ]
 go_wp2
 go_ret
 exact ⟨rfl,rfl⟩
theorem unwrap_any (b:Nat) (c p:Int) (w:World) (hb:Blk w b 185 #[.int .i64 c,.int .i64 p]) :
  Calls Tryz.prog 322 #[.pointer (some ⟨b,0,none⟩)] w fun e w'=>e=.returned (.iface 41 (.int .i64 c))∧w=w':=by
 have h0:w.cell? ⟨b,0,none⟩=some (.int .i64 c):=hb.cell 0
 go_enter Tryz.func322,Tryz.ntmps322
 go_wp2
 go_ret
 exact ⟨rfl,rfl⟩
set_option maxHeartbeats 4000000 in
theorem as_at (b:Nat) (n p:Int) (t:Addr) (old:Value) (w:World) (hG:GlobE w) (hbk:Blk w b 185 #[.int .i64 n,.int .i64 p]) (ht0:w.cell? t=some old) (hf0:w.frozen? t=false) :
  Calls Tryz.prog 146 #[.iface 183 (.pointer (some ⟨b,0,none⟩)),.iface 261 (.pointer (some t))] w fun ev w'=>ev=.returned (.bool true)∧((((w.alloc (.cells #[.pointer (some t)] 261)).alloc (.cells #[.pointer (some ⟨12,261,none⟩),.pointer (some ⟨w.heap.size,0,none⟩),.int .u64 150] 304)).alloc (.cells #[.pointer (some ⟨12,261,none⟩),.pointer (some ⟨w.heap.size,0,none⟩),.int .u64 150] 304)).alloc (.cells #[.int .i64 n] 41)).setCell t (.int .i64 n)=w':=by
 have hV:=@run_callFunc_extern Tryz.prog 193 _ (fun args=>ReflectliteValue.unpack (args.getD 0 (.tuple #[]))) Tryz.func193 (by kernel_rfl) (by kernel_rfl) (by kernel_rfl) (by kernel_rfl)
 have hT:=@run_callFunc_extern Tryz.prog 194 _ (ReflectliteValue.methodAny (ReflectliteValue.valueError "reflectlite.Value.Type" 0) (fun t _ _ _=>ReflectliteType.toType t)) Tryz.func194 (by kernel_rfl) (by kernel_rfl) (by kernel_rfl) (by kernel_rfl)
 have hN:=@run_callFunc_extern Tryz.prog 195 _ (ReflectliteValue.method (ReflectliteValue.valueError "reflectlite.Value.IsNil" 0) ReflectliteValue.isNil) Tryz.func195 (by kernel_rfl) (by kernel_rfl) (by kernel_rfl) (by kernel_rfl)
 have hK:=@run_callFunc_extern Tryz.prog 315 _ (ReflectliteType.abiMethod fun t=>do pure (.int .u8 (←Rtype.kind t))) Tryz.func315 (by kernel_rfl) (by kernel_rfl) (by kernel_rfl) (by kernel_rfl)
 have hL:=@run_callFunc_extern Tryz.prog 329 _ (ReflectliteType.method ReflectliteType.elem) Tryz.func329 (by kernel_rfl) (by kernel_rfl) (by kernel_rfl) (by kernel_rfl)
 have hI:=@run_callFunc_extern Tryz.prog 330 _ (ReflectliteType.relation "Implements" ReflectliteType.implements_) Tryz.func330 (by kernel_rfl) (by kernel_rfl) (by kernel_rfl) (by kernel_rfl)
 have hO:=@run_callFunc_extern Tryz.prog 241 _ ReflectliteType.typeOf Tryz.func241 (by kernel_rfl) (by kernel_rfl) (by kernel_rfl) (by kernel_rfl)
 have hA:=@run_callFunc_extern Tryz.prog 327 _ (ReflectliteType.relation "AssignableTo" ReflectliteType.assignableTo) Tryz.func327 (by kernel_rfl) (by kernel_rfl) (by kernel_rfl) (by kernel_rfl)
 have hE:=@run_callFunc_extern Tryz.prog 242 _ (ReflectliteValue.method (ReflectliteValue.valueError "reflectlite.Value.Elem" 0) ReflectliteValue.elem) Tryz.func242 (by kernel_rfl) (by kernel_rfl) (by kernel_rfl) (by kernel_rfl)
 have hS:=@run_callFunc_extern Tryz.prog 243 _ ReflectliteValue.set Tryz.func243 (by kernel_rfl) (by kernel_rfl) (by kernel_rfl) (by kernel_rfl)
 have tO:=typeOfE
 have tA:=typeOfAt
 have aA:=assignableAt
 have asA:=assertAsAt
 have asU:=assertUnwrapAt
 have mU:=methodUnwrap
 have mA:=methodAssignableTo
 have aE:=assignableE
 have vE:=valueOfE
 have vP:=valueOfP
 have tP:=typeP
 have mK:=methodKind
 have mE:=methodElem
 have mI:=methodImplements
 have kP:=kindP
 have kE:=kindE
 have eP:=elemP
 have iE:=implementsE
 have nP:=isNilP ⟨w.heap.size,0,none⟩ t ((w.alloc (.cells #[.pointer (some t)] 261)).alloc (.cells #[.pointer (some ⟨12,261,none⟩),.pointer (some ⟨w.heap.size,0,none⟩),.int .u64 150] 304)) (by simp)
 have hlt:=lt_of_cell hG.e0
 have hg2:((w.alloc (.cells #[.pointer (some t)] 261)).alloc (.cells #[.pointer (some ⟨12,261,none⟩),.pointer (some ⟨w.heap.size,0,none⟩),.int .u64 150] 304)).cell? ⟨3,0,none⟩=some (.iface 351 (.agg #[.pointer (some ⟨12,37,none⟩)])):=by
  have h0:3<w.heap.size:=hlt
  rw [World.cell?_alloc_lt _ _ ⟨3,0,none⟩ (by simp <;> omega),World.cell?_alloc_lt _ _ ⟨3,0,none⟩ hlt];exact hG.e0
 have htl:t.block<w.heap.size:=lt_of_cell ht0
 have el:=elemV ⟨w.heap.size,0,none⟩ t (((w.alloc (.cells #[.pointer (some t)] 261)).alloc (.cells #[.pointer (some ⟨12,261,none⟩),.pointer (some ⟨w.heap.size,0,none⟩),.int .u64 150] 304)).alloc (.cells #[.pointer (some ⟨12,261,none⟩),.pointer (some ⟨w.heap.size,0,none⟩),.int .u64 150] 304)) (by rw [World.cell?_alloc_lt _ _ ⟨w.heap.size,0,none⟩ (by simp;omega)];simp)
 have st:=setE t ⟨w.heap.size+1+1+1,0,none⟩ n old ((((w.alloc (.cells #[.pointer (some t)] 261)).alloc (.cells #[.pointer (some ⟨12,261,none⟩),.pointer (some ⟨w.heap.size,0,none⟩),.int .u64 150] 304)).alloc (.cells #[.pointer (some ⟨12,261,none⟩),.pointer (some ⟨w.heap.size,0,none⟩),.int .u64 150] 304)).alloc (.cells #[.int .i64 n] 41))
  (by rw [World.cell?_alloc_at _ _ _ _ (by simp)];rfl)
  (by rw [World.cell?_alloc_lt _ _ t (by simp <;> omega),World.cell?_alloc_lt _ _ t (by simp;omega),World.cell?_alloc_lt _ _ t (by simp;omega),World.cell?_alloc_lt _ _ t htl];exact ht0)
  (by rw [World.frozen?_alloc_old _ _ t (by simp;omega),World.frozen?_alloc_old _ _ t (by simp;omega),World.frozen?_alloc_old _ _ t (by simp;omega),World.frozen?_alloc_old _ _ t (Nat.ne_of_lt htl)];exact hf0)
 clear hlt
 have HB:=hide (((hbk.alloc (.cells #[.pointer (some t)] 261)).alloc (.cells #[.pointer (some ⟨12,261,none⟩),.pointer (some ⟨w.heap.size,0,none⟩),.int .u64 150] 304)).alloc (.cells #[.pointer (some ⟨12,261,none⟩),.pointer (some ⟨w.heap.size,0,none⟩),.int .u64 150] 304))
 clear hbk
 go_enter Tryz.func146,Tryz.ntmps146
 go_wp2
 refine wp_loop_rounds 2 ?_
 rw [rounds_succ]
 go_wp2_with (go_at_call 322;refine (unwrap_any b n p _ HB.out).mono ?_;rintro e w' ⟨rfl,rfl⟩)
 rw [rounds_succ]
 go_wp2
 go_ret
 exact ⟨rfl,rfl⟩
end Go.Proofs.YtojgbcmhdnappaaGreatDoor
namespace Go.Proofs.YtojgbcmhdnappaaGreatDoor
open Go.RowKit
def TellPost (w:World) (c:Int) (e:Ending) (w':World):Prop:=e=.returned (.int .i64 c)∧Below w.heap.size w w'
set_option maxHeartbeats 1000000 in
theorem tell_nil (w:World):Calls Tryz.prog 92 #[.nilIface] w (TellPost w 0):=by
 go_enter Tryz.func92,Tryz.ntmps92
 go_wp2
 go_ret
 exact ⟨rfl,Below.refl _ _⟩
set_option maxHeartbeats 1000000 in
theorem tell_errno (c:Int) (w:World) (hG:GlobE w):Calls Tryz.prog 92 #[.iface 41 (.int .i64 c)] w (TellPost w c):=by
 have hb0:=(Below.refl w.heap.size w).alloc (Nat.le_refl _) (.cells #[.int .i64 0] 41)
 have HC:=hide (as_errno c ⟨w.heap.size,0,none⟩ (.int .i64 0) (w.alloc (.cells #[.int .i64 0] 41)) (hG.below hb0) (by simp) (by simp))
 have HB:=Lib.hid hb0
 clear hb0
 go_enter Tryz.func92,Tryz.ntmps92
 go_wp2_with (go_at_call 146;refine (HC.out).mono ?_;rintro e w' ⟨rfl,rfl⟩)
 go_ret
 exact ⟨rfl,((((((Below.refl _ _).alloc (Nat.le_refl _) _).alloc (by simp) _).alloc (by simp;omega) _).alloc (by simp;omega) _).alloc (by simp;omega) _)⟩
set_option maxHeartbeats 1000000 in
theorem tell_at (b:Nat) (c p:Int) (w:World) (hG:GlobE w) (hbk:Blk w b 185 #[.int .i64 c,.int .i64 p]):Calls Tryz.prog 92 #[.iface 183 (.pointer (some ⟨b,0,none⟩))] w (TellPost w c):=by
 have hb0:=(Below.refl w.heap.size w).alloc (Nat.le_refl _) (.cells #[.int .i64 0] 41)
 have HC:=hide (as_at b c p ⟨w.heap.size,0,none⟩ (.int .i64 0) (w.alloc (.cells #[.int .i64 0] 41)) (hG.below hb0) (hbk.alloc _) (by simp) (by simp))
 have HB:=Lib.hid hb0
 clear hb0 hbk
 go_enter Tryz.func92,Tryz.ntmps92
 go_wp2_with (go_at_call 146;refine (HC.out).mono ?_;rintro e w' ⟨rfl,rfl⟩)
 go_ret
 exact ⟨rfl,((((((Below.refl _ _).alloc (Nat.le_refl _) _).alloc (by simp) _).alloc (by simp;omega) _).alloc (by simp;omega) _).alloc (by simp;omega) _)⟩
def PlacePost (w:World) (f:Int×Int) (e:Ending) (w':World):Prop:=e=.returned (.tuple #[.int .i64 f.1,.int .i64 f.2])∧Below w.heap.size w w'
theorem assertAtAt (v:Value) (w:World):(Instr.typeAssert (.iface 183 v) 37 183 true).run Tryz.prog w=.ok (.tuple #[v,.bool true]) w:=by kernel_rfl
theorem assertAtE (v:Value) (w:World):(Instr.typeAssert (.iface 41 v) 37 183 true).run Tryz.prog w=.ok (.tuple #[.pointer none,.bool false]) w:=by kernel_rfl
set_option maxHeartbeats 1000000 in
theorem place_nil (w:World):Calls Tryz.prog 79 #[.nilIface] w (PlacePost w (0,-1)):=by
 go_enter Tryz.func79,Tryz.ntmps79
 go_wp2_with (go_at_call 92;refine (tell_nil _).mono ?_;rintro e w' ⟨rfl,hb⟩)
 refine wp_loop_rounds 1 ?_
 rw [rounds_succ]
 go_wp2
 go_ret2
 exact ⟨rfl,hb⟩
set_option maxHeartbeats 1000000 in
theorem place_errno (c:Int) (w:World) (hG:GlobE w):Calls Tryz.prog 79 #[.iface 41 (.int .i64 c)] w (PlacePost w (c,-1)):=by
 have a1:=assertAtE
 have a2:=assertUnwrapE
 go_enter Tryz.func79,Tryz.ntmps79
 go_wp2_with (go_at_call 92;refine (tell_errno c _ hG).mono ?_;rintro e w' ⟨rfl,hb⟩)
 refine wp_loop_rounds 1 ?_
 rw [rounds_succ]
 go_wp2
 go_ret2
 exact ⟨rfl,hb⟩
set_option maxHeartbeats 1000000 in
theorem place_at (b:Nat) (c p:Int) (w:World) (hG:GlobE w) (hbk:Blk w b 185 #[.int .i64 c,.int .i64 p]):Calls Tryz.prog 79 #[.iface 183 (.pointer (some ⟨b,0,none⟩))] w (PlacePost w (c,p)):=by
 have a1:=assertAtAt
 have HK:=hide hbk
 have HT:=hide (tell_at b c p w hG hbk)
 clear hbk
 go_enter Tryz.func79,Tryz.ntmps79
 go_wp2_with (go_at_call 92;refine (HT.out).mono ?_;rintro e w1 ⟨rfl,hb⟩;have hc1:w1.cell? ⟨b,1,none⟩=some (.int .i64 p):=(HK.out.below hb HK.out.lt).cell 1)
 refine wp_loop_rounds 1 ?_
 rw [rounds_succ]
 go_wp2
 go_region
 go_wp2
 go_ret2
 exact ⟨rfl,hb.drew⟩
def atB (f g:Int×Int):Bool:=decide (f.1=g.1∧f.2=g.2)
def AtPost (w:World) (b:Bool) (e:Ending) (w':World):Prop:=e=.returned (.bool b)∧Below w.heap.size w w'
set_option maxHeartbeats 1000000 in
theorem at_of (v:Value) (f g:Int×Int) (w:World)
  (HP:Hid (Calls Tryz.prog 79 #[v] (w.alloc (.cells #[.int .i64 g.1,.int .i64 g.2] 80)) (PlacePost (w.alloc (.cells #[.int .i64 g.1,.int .i64 g.2] 80)) f))) :
  Calls Tryz.prog 37 #[v,faultV g] w (AtPost w (atB f g)):=by
 obtain ⟨f1,f2⟩:=f
 obtain ⟨g1,g2⟩:=g
 unfold faultV
 by_cases h1:f1=g1
 ·by_cases h2:f2=g2
  ·go_enter Tryz.func37,Tryz.ntmps37
   go_wp2_with (go_at_call 79;refine (HP.out).mono ?_;rintro e w1 ⟨rfl,hb⟩;have c0:w1.cell? ⟨w.heap.size,0,none⟩=some (.int .i64 g1):=(hb.cell (by simp)).trans (by simp);have c1:w1.cell? ⟨w.heap.size,1,none⟩=some (.int .i64 g2):=(hb.cell (by simp)).trans (by simp))
   go_ret
   exact ⟨ret_bool (by simp [atB,h1,h2]),((Below.refl _ _).alloc (Nat.le_refl _) _).trans (hb.mono (by simp))⟩
  ·go_enter Tryz.func37,Tryz.ntmps37
   go_wp2_with (go_at_call 79;refine (HP.out).mono ?_;rintro e w1 ⟨rfl,hb⟩;have c0:w1.cell? ⟨w.heap.size,0,none⟩=some (.int .i64 g1):=(hb.cell (by simp)).trans (by simp);have c1:w1.cell? ⟨w.heap.size,1,none⟩=some (.int .i64 g2):=(hb.cell (by simp)).trans (by simp))
   go_ret
   exact ⟨ret_bool (by simp [atB,h1,h2]),((Below.refl _ _).alloc (Nat.le_refl _) _).trans (hb.mono (by simp))⟩
 ·go_enter Tryz.func37,Tryz.ntmps37
  go_wp2_with (go_at_call 79;refine (HP.out).mono ?_;rintro e w1 ⟨rfl,hb⟩;have c0:w1.cell? ⟨w.heap.size,0,none⟩=some (.int .i64 g1):=(hb.cell (by simp)).trans (by simp);have c1:w1.cell? ⟨w.heap.size,1,none⟩=some (.int .i64 g2):=(hb.cell (by simp)).trans (by simp))
  go_ret
  exact ⟨ret_bool (by simp [atB,h1]),((Below.refl _ _).alloc (Nat.le_refl _) _).trans (hb.mono (by simp))⟩
theorem IsErr.below {w w':World} {v:Value} {f:Int×Int} (h:IsErr w v f) (hb:Below w.heap.size w w'):IsErr w' v f:=by
 rcases h with h | h | ⟨b,hlt,h1,h2,h3,h4,h5⟩
 ·exact .inl h
 ·exact .inr (.inl h)
 ·exact .inr (.inr ⟨b,Nat.lt_of_lt_of_le hlt hb.size,h1,h2,h3,h4,h5.below hb hlt⟩)
theorem at_anyE (v:Value) (f g:Int×Int) (w:World) (hG:GlobE w) (h:IsErr w v f) :
  Calls Tryz.prog 37 #[v,faultV g] w (AtPost w (atB f g)):=by
 have hb0:=(Below.refl w.heap.size w).alloc (Nat.le_refl _) (.cells #[.int .i64 g.1,.int .i64 g.2] 80)
 have hG1:=hG.below hb0
 refine at_of v f g w (hide ?_)
 rcases h.below hb0 with ⟨rfl,rfl⟩ | ⟨h1,_,_,rfl⟩ | ⟨b,hlt,_,_,_,rfl,hbk⟩
 ·exact place_nil _
 ·have:=place_errno f.1 _ hG1
  rw [←h1] at this
  exact this
 ·exact place_at b f.1 f.2 _ hG1 hbk
theorem atB_self (f:Int×Int):atB f f=true:=by simp [atB]
end Go.Proofs.YtojgbcmhdnappaaGreatDoor
namespace Go.Proofs.YtojgbcmhdnappaaGreatDoor
open Go.RowKit
theorem errBelowB {w w':World} {v:Value} {f:Int×Int} (h:IsErr w v f) (hb:Below w.heap.size w w'):IsErr w' v f:=by
 rcases h with h | h | ⟨b,h1,h2,h3,h4,h5,h6⟩
 ·exact .inl h
 ·exact .inr (.inl h)
 ·exact .inr (.inr ⟨b,Nat.lt_of_lt_of_le h1 hb.size,h2,h3,h4,h5,h6.below hb h1⟩)
end Go.Proofs.YtojgbcmhdnappaaGreatDoor
