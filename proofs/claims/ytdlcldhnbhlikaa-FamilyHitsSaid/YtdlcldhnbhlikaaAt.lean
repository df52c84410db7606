/-
  errors.As at the target *api.Errno: closed facts on the model's entries for internal/reflectlite (after the guide's worked text ToyasAs). errors.As at the target *api.Errno, by its contracts: at an Errno, at an *api.At. api.Tell, plain.Place and the law's own 'at': whether an error is a fault. The law's bare: an error is this one, without a place.
-/
import Derived.Test.YtdlcldhnbhlikaaProg
import Derived.WalkKit
import Derived.LaidEql
import Derived.Stop.Asserts
import Derived.RowKitTokens
import Derived.Test.YtdlcldhnbhlikaaRefCheck
namespace Go.Proofs.Ytdlcldhnbhlikaa
open Go.RowKit Go.Extern.Stop Go.Stop Go.Extern

theorem kindE (w : World) : ((ReflectliteType.abiMethod fun t => (fun a : Nat => Value.int IntKind.u8 (a : Int)) <$> Rtype.kind t) #[.pointer (some ⟨0, 65, none⟩)]).run Try.prog w = .ok (.int .u8 2) w := by kernel_rfl
theorem rlm (z : Sem Value) (f : TypeId → Addr → Nat → Nat → Sem Value) (v : Value) :
    ReflectliteValue.method z f #[v] = (do match ← ReflectliteValue.parts v with | none => z | some (t, a, fl) => f t a fl (fl % 32)) := rfl
theorem valueOfE (n : Int) (w : World) : (ReflectliteValue.unpack (.iface 65 (.int .i64 n))).run Try.prog w
    = .ok (.agg #[.pointer (some ⟨0, 65, none⟩), .pointer (some ⟨w.heap.size, 0, none⟩), .int .u64 130]) (w.alloc (.cells #[.int .i64 n] 65)) := by kernel_rfl
theorem mkE (p : Addr) (w : World) : (ReflectliteValue.mk 65 p ReflectliteValue.flagAddr).run Try.prog w = .ok (.agg #[.pointer (some ⟨0, 65, none⟩), .pointer (some p), .int .u64 386]) w := by kernel_rfl
theorem rls (v x : Value) : ReflectliteValue.set #[v, x] = (do
    let (some (dst, a, fl), some (src, b, _)) := (← ReflectliteValue.parts v, ← ReflectliteValue.parts x)
      | unsupported (.noEntry "extern/(internal/reflectlite.Value).Set.zeroValue")
    if fl / ReflectliteValue.flagAddr % 2 == 0 then unsupported (.noEntry "extern/(internal/reflectlite.Value).Set.unaddressable")
    let val ← loadVar src b
    if ← Rtype.directlyAssignable dst src then storeVar dst a val
    else if ← Rtype.implements dst src then
      if (← Rtype.kind src) == 20 then
        match val with
        | .nilIface => unsupported (.noEntry "extern/reflectlite: a nil value of one interface type handed on as a value of another")
        | _ => storeVar dst a val
      else storeVar dst a (.iface src val)
    else panicString ("reflectlite.Set: value of type " ++ (← Rtype.spelt src) ++ " is not assignable to type " ++ (← Rtype.spelt dst))
    pure (.tuple #[])) := rfl
theorem partsEa (a : Addr) (w : World) : (ReflectliteValue.parts (.agg #[.pointer (some ⟨0, 65, none⟩), .pointer (some a), .int .u64 386])).run Try.prog w = .ok (some (65, a, 386)) w := by kernel_rfl
theorem partsE (a : Addr) (w : World) : (ReflectliteValue.parts (.agg #[.pointer (some ⟨0, 65, none⟩), .pointer (some a), .int .u64 130])).run Try.prog w = .ok (some (65, a, 130)) w := by kernel_rfl
theorem directE (w : World) : (Rtype.directlyAssignable 65 65).run Try.prog w = .ok true w := by kernel_rfl
theorem setE (ta b : Addr) (n : Int) (old : Value) (W : World) (hb : W.cell? b = some (.int .i64 n)) (ht : W.cell? ta = some old) (hf : W.frozen? ta = false) :
    (ReflectliteValue.set #[.agg #[.pointer (some ⟨0, 65, none⟩), .pointer (some ta), .int .u64 386], .agg #[.pointer (some ⟨0, 65, none⟩), .pointer (some b), .int .u64 130]]).run Try.prog W
      = .ok (.tuple #[]) (W.setCell ta (.int .i64 n)) := by
  rw [rls]
  simp only [Sem.run_bind, partsEa, partsE, Result.andThen]
  simp [ReflectliteValue.flagAddr, loadVar, isAgg, underlying, Try.underlying65, hb, Result.andThen, directE, storeVar, Value.cells, storeCells, Addr.add]
  rw [run_store Try.prog W ta _ _ (by rfl)]
  simp [ht, hf]
end Go.Proofs.Ytdlcldhnbhlikaa
namespace Go.Proofs.Ytdlcldhnbhlikaa
open Go.RowKit Go.Extern.Stop Go.Stop Go.Extern

end Go.Proofs.Ytdlcldhnbhlikaa
namespace Go.Proofs.Ytdlcldhnbhlikaa
open Go.RowKit

def TellPost (w : World) (c : Int) (e : Ending) (w' : World) : Prop := e = .returned (.int .i64 c) ∧ Below w.heap.size w w'

def PlacePost (w : World) (f : Int × Int) (e : Ending) (w' : World) : Prop := e = .returned (.tuple #[.int .i64 f.1, .int .i64 f.2]) ∧ Below w.heap.size w w'
def atB (f g : Int × Int) : Bool := decide (f.1 = g.1 ∧ f.2 = g.2)
def AtPost (w : World) (b : Bool) (e : Ending) (w' : World) : Prop := e = .returned (.bool b) ∧ Below w.heap.size w w'

theorem atB_self (f : Int × Int) : atB f f = true := by simp [atB]
end Go.Proofs.Ytdlcldhnbhlikaa
namespace Go.Proofs.Ytdlcldhnbhlikaa
open Go.RowKit

end Go.Proofs.Ytdlcldhnbhlikaa
