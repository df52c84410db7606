/-
  A part of the proof: BldFr, BldLay. Conditions: none.
-/
import Derived.Test.YtmncoldaemcnlaaGreatDoorCmCatNew
import Derived.Lib.OthersKept
import Derived.Shelf.Strings.BuilderK
import Derived.Test.YtmncoldaemcnlaaGreatDoorCmToldLay
namespace Go.Proofs.YtmncoldaemcnlaaGreatDoor
open Go.RowKit
theorem ownsRow_others {w w' : World} {base b s n : Nat} {T e9 : TypeId} {e : TypeId} {v : Value} {xs : List Value} {cs : Array Value} (h : w.ownsRow base e s v n xs) (ho : Lib.OthersKept e9 (some b) w w') (hb : Blk w b T cs) (hT : T ≠ e) (he : e ≠ e9) : w'.ownsRow base e s v n xs := by
 refine ⟨h.1, ?_⟩
 rcases h.2 with h2 | ⟨g, cap, cur, e1, hg, hgc, r⟩
 ·exact .inl h2
 ·refine .inr ⟨g, cap, cur, e1, hg, ho g _ hgc (fun e2 => ?_) (fun c fz e2 => ?_), r⟩
  ·obtain rfl : g = b := Option.some.inj e2
   unfold Blk at hb
   rw [hb] at hgc
   injection hgc with hgc
   injection hgc with _ h3 _
   exact hT h3
  ·injection e2 with _ h3 _
   exact he h3
theorem LnsP.others {w w' : World} {base b : Nat} {v : Value} {qs : List LnQ} {cs : Array Value} (h : LnsP w base v qs) (ho : Lib.OthersKept 5 (some b) w w') (hb : Blk w b 150 cs) : LnsP w' base v qs :=
 ⟨ownsRow_others h.1 ho hb (by decide) (by decide), fun q hq => ⟨ownsRow_others (h.2 q hq).1 ho hb (by decide) (by decide), (h.2 q hq).2⟩⟩
end Go.Proofs.YtmncoldaemcnlaaGreatDoor
namespace Go.Proofs
open Go.Shelf
theorem Tryz.laysW166 : Go.Proofs.Lays.n166 Tryz.prog Tryz.lays156_ren := {
 mixed := Tryz.lays156.mixed
 f166 := Tryz.lays156.f166
 f240 := Tryz.lays156.f240
 f276 := Tryz.lays156.f276
 t0 := Tryz.lays156.t0
 a0 := Tryz.lays156.a0
 z0 := Tryz.lays156.z0
 v0 := Tryz.lays156.v0
 t3 := Tryz.lays156.t3
 a3 := Tryz.lays156.a3
 z3 := Tryz.lays156.z3
 v3 := Tryz.lays156.v3
 t4 := Tryz.lays156.t4
 a4 := Tryz.lays156.a4
 z4 := Tryz.lays156.z4
 v4 := Tryz.lays156.v4
 t9 := Tryz.lays156.t9
 a9 := Tryz.lays156.a9
 z9 := Tryz.lays156.z9
 v9 := Tryz.lays156.v9
 t20 := Tryz.lays156.t20
 a20 := Tryz.lays156.a20
 z20 := Tryz.lays156.z20
 v20 := Tryz.lays156.v20
 t37 := Tryz.lays156.t37
 a37 := Tryz.lays156.a37
 z37 := Tryz.lays156.z37
 v37 := Tryz.lays156.v37
 t70 := Tryz.lays156.t70
 a70 := Tryz.lays156.a70
 z70 := Tryz.lays156.z70
 v70 := Tryz.lays156.v70
 t72 := Tryz.lays156.t72
 a72 := Tryz.lays156.a72
 z72 := Tryz.lays156.z72
 v72 := Tryz.lays156.v72
 t75 := Tryz.lays156.t75
 a75 := Tryz.lays156.a75
 z75 := Tryz.lays156.z75
 v75 := Tryz.lays156.v75
 t164 := Tryz.lays156.t164
 a164 := Tryz.lays156.a164
 z164 := Tryz.lays156.z164
 v164 := Tryz.lays156.v164 }
theorem Tryz.laysW169 : Go.Proofs.Lays.n169 Tryz.prog Tryz.lays156_ren := {
 mixed := Tryz.lays156.mixed
 f169 := Tryz.lays156.f169
 t0 := Tryz.lays156.t0
 a0 := Tryz.lays156.a0
 z0 := Tryz.lays156.z0
 v0 := Tryz.lays156.v0
 t3 := Tryz.lays156.t3
 a3 := Tryz.lays156.a3
 z3 := Tryz.lays156.z3
 v3 := Tryz.lays156.v3
 t9 := Tryz.lays156.t9
 a9 := Tryz.lays156.a9
 z9 := Tryz.lays156.z9
 v9 := Tryz.lays156.v9
 t37 := Tryz.lays156.t37
 a37 := Tryz.lays156.a37
 z37 := Tryz.lays156.z37
 v37 := Tryz.lays156.v37
 t70 := Tryz.lays156.t70
 a70 := Tryz.lays156.a70
 z70 := Tryz.lays156.z70
 v70 := Tryz.lays156.v70
 t72 := Tryz.lays156.t72
 a72 := Tryz.lays156.a72
 z72 := Tryz.lays156.z72
 v72 := Tryz.lays156.v72
 t127 := Tryz.lays156.t127
 a127 := Tryz.lays156.a127
 z127 := Tryz.lays156.z127
 v127 := Tryz.lays156.v127 }
def Tryz.laysW167_ren : Go.Shelf.Ren := ⟨fun | 167 => 71 | 240 => 109 | 276 => 149 | n => n, fun | 31 => 108 | 9 => 9 | 3 => 3 | 4 => 4 | 0 => 0 | 20 => 20 | 72 => 150 | 76 => 151 | 70 => 147 | 37 => 148 | 75 => 40 | 127 => 194 | 164 => 226 | 5 => 5 | 80 => 44 | n => n, fun | n => n⟩
theorem Tryz.laysW167 : Go.Proofs.Lays.n167 Tryz.prog Tryz.laysW167_ren := {
 mixed := by kernel_rfl
 f167 := Tryz.func71.trans (congrArg some (by kernel_rfl))
 f240 := Tryz.func109.trans (congrArg some (by kernel_rfl))
 f276 := Tryz.func149.trans (congrArg some (by kernel_rfl))
 t0 := Tryz.underlying0
 a0 := Tryz.isAgg0
 z0 := Tryz.sizeOf0
 v0 := Tryz.zeroValue0
 t4 := Tryz.underlying4
 a4 := Tryz.isAgg4
 z4 := Tryz.sizeOf4
 v4 := Tryz.zeroValue4
 t5 := Tryz.underlying5
 a5 := Tryz.isAgg5
 z5 := Tryz.sizeOf5
 v5 := Tryz.zeroValue5
 t9 := Tryz.underlying9
 a9 := Tryz.isAgg9
 z9 := Tryz.sizeOf9
 v9 := Tryz.zeroValue9
 t20 := Tryz.underlying20
 a20 := Tryz.isAgg20
 z20 := Tryz.sizeOf20
 v20 := Tryz.zeroValue20
 t37 := Tryz.underlying148
 a37 := Tryz.isAgg148
 z37 := Tryz.sizeOf148
 v37 := Tryz.zeroValue148
 t70 := Tryz.underlying147
 a70 := Tryz.isAgg147
 z70 := Tryz.sizeOf147
 v70 := Tryz.zeroValue147
 t72 := Tryz.underlying150
 a72 := Tryz.isAgg150
 z72 := Tryz.sizeOf150
 v72 := Tryz.zeroValue150
 t75 := Tryz.underlying40
 a75 := Tryz.isAgg40
 z75 := Tryz.sizeOf40
 v75 := Tryz.zeroValue40
 t164 := Tryz.underlying226
 a164 := Tryz.isAgg226
 z164 := Tryz.sizeOf226
 v164 := Tryz.zeroValue226 }
theorem Tryz.Builder_ExtraW167 : Builder.Extra Tryz.prog Tryz.laysW167_ren := {
 sizeBuilder := by kernel_rfl
 liesBuilder := by kernel_rfl
 t5 := Tryz.underlying5
 a5 := Tryz.isAgg5
 z5 := Tryz.sizeOf5
 v5 := Tryz.zeroValue5
 infoByte := by kernel_rfl
 cellsByte := by kernel_rfl
 sizeByte := by kernel_rfl
 neB5 := by decide }
open Go.RowKit in
theorem Tryz.Builder_WriteString_k (B b : Nat) (bs : List Value) (s : ByteArray) (w : World) (h : Lib.IsBuilderF 150 5 B b bs w) (hlen : bs.length + s.size ≤ 140737488355328) (hBw : B ≤ w.heap.size) :
  Calls Tryz.prog 70 #[.pointer (some ⟨b, 0, none⟩), .string s] w fun e w' => e = .returned (.tuple #[.int .i64 s.size, .nilIface]) ∧ (Lib.BuilderAtF 150 5 B b (.pointer (some ⟨b, 0, none⟩)) (bs ++ Lib.strCells s) w' ∧ Below B w w' ∧ Lib.OthersKept 5 (some b) w w') := Any.Builder_WriteString_k Tryz.laysW166 Tryz.Builder_Extra_156 B b bs s w h hlen hBw
open Go.RowKit in
theorem Tryz.Builder_WriteByte_k (B b : Nat) (bs : List Value) (c : Int) (w : World) (h : Lib.IsBuilderF 150 5 B b bs w) (hlen : bs.length + 1 ≤ 140737488355328) (hBw : B ≤ w.heap.size) :
  Calls Tryz.prog 71 #[.pointer (some ⟨b, 0, none⟩), .int .u8 c] w fun e w' => e = .returned .nilIface ∧ (Lib.BuilderAtF 150 5 B b (.pointer (some ⟨b, 0, none⟩)) (bs ++ [.int .u8 c]) w' ∧ Below B w w' ∧ Lib.OthersKept 5 (some b) w w') := Any.Builder_WriteByte_k Tryz.laysW167 Tryz.Builder_ExtraW167 B b bs c w h hlen hBw
open Go.RowKit in
theorem Tryz.Builder_String_any_k (B b : Nat) (l : List UInt8) (w : World) (h : Lib.IsBuilderF 150 5 B b (Lib.byteCells l) w) (hBw : B ≤ w.heap.size) :
  Calls Tryz.prog 72 #[.pointer (some ⟨b, 0, none⟩)] w fun e w' => e = .returned (.string ⟨l.toArray⟩) ∧ (Lib.IsBuilderF 150 5 B b (Lib.byteCells l) w' ∧ Below B w w' ∧ Lib.OthersKept 5 (some b) w w') := Any.Builder_String_any_k Tryz.laysW169 Tryz.Builder_Extra_156 B b l w h hBw
end Go.Proofs
