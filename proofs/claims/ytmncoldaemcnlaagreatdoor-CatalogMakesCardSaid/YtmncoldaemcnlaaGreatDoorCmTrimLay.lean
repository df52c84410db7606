/-
  A part of the proof: LawRg, CatPure, CatLine, TrimLay. Conditions: none.
-/
import Derived.Test.YtmncoldaemcnlaaGreatDoorCmRefParse
import Derived.Test.YtmncoldaemcnlaaGreatDoorCmRefText
import Derived.Test.YtmncoldaemcnlaaGreatDoorCmSpParse
import Derived.Test.YtmncoldaemcnlaaGreatDoorCmRgText
import Derived.Test.YtmncoldaemcnlaaGreatDoorCmVerB
import Derived.Lib.CutLaws
import Derived.Lib.SlicesS
import Derived.IntWalk
import Derived.BigQuiet
import Derived.Shelf.SlGeneric
import Derived.Shelf.Strings.Cut
import Derived.Shelf.SlicesG.Turned
import Derived.Test.YtmncoldaemcnlaaGreatDoorProg
import Derived.Shelf.Strings.SlTrimAscii
namespace Go.Proofs.YtmncoldaemcnlaaGreatDoor
open Go.RowKit
set_option maxRecDepth 100000
def FineP (w : World) : Prop := w.cell? ⟨1, 0, none⟩ = some (.int .i64 0) ∧ w.cell? ⟨1, 1, none⟩ = some (.int .i64 (-1))
theorem FineP.below {w w' : World} (h : FineP w) (hb : Below w.heap.size w w') : FineP w' := ⟨(hb.cell (lt_of_cell h.1)).trans h.1, (hb.cell (lt_of_cell h.2)).trans h.2⟩
end Go.Proofs.YtmncoldaemcnlaaGreatDoor
namespace Go.Proofs.YtmncoldaemcnlaaGreatDoor
def wordS (s : ByteArray) : ByteArray := ⟨(Lib.cut s.data.toList [32]).1.toArray⟩
def tailS (s : ByteArray) : ByteArray := ⟨(Lib.cut s.data.toList [32]).2.1.toArray⟩
def kindB : List ByteArray := [⟨#[]⟩, ⟨#[112, 97, 99, 107, 97, 103, 101]⟩, ⟨#[110, 101, 101, 100, 115]⟩, ⟨#[99, 108, 97, 115, 104, 101, 115]⟩, ⟨#[114, 111, 111, 116]⟩]
def kindK (w : ByteArray) : Nat := if w = kindB[1] then 1 else if w = kindB[2] then 2 else if w = kindB[3] then 3 else if w = kindB[4] then 4 else 0
noncomputable def rgR (s : ByteArray) : (Int × Int) ⊕ List (Nat × Nat) :=
 if 1000 < s.size then .inl (4, -1) else match rangeR s with
 | .inl q => .inl (q.1, (q.2 : Int))
 | .inr l => .inr l
structure LnR where
 k : Int
 name : ByteArray
 ver : Nat → Int
 other : ByteArray
 rg : List (Nat × Nat)
noncomputable def lineR2 (k : Nat) (name : ByteArray) (ver : Nat → Int) (r : ByteArray) : (Int × Int) ⊕ LnR :=
 if k = 1 then (if r = ByteArray.empty then .inr ⟨1, name, ver, ByteArray.empty, []⟩ else .inl (3, -1))
 else match rgR (tailS r) with
 | .inl f => .inl f
 | .inr l => .inr ⟨k, name, ver, wordS r, l⟩
noncomputable def lineR (s : ByteArray) : (Int × Int) ⊕ LnR :=
 let k := kindK (wordS s)
 let name := wordS (tailS s)
 let r := tailS (tailS s)
 if k = 0 then .inl (3, -1)
 else if k = 4 then (match rgR r with
  | .inl f => .inl f
  | .inr l => .inr ⟨4, name, fun _ => 0, ByteArray.empty, l⟩)
 else if verE (wordS r) ≠ 0 then .inl (verE (wordS r), -1)
 else lineR2 k name (verV (wordS r)) (tailS r)
end Go.Proofs.YtmncoldaemcnlaaGreatDoor
namespace Go.Proofs.YtmncoldaemcnlaaGreatDoor
open Go.RowKit
set_option maxRecDepth 100000
structure KindsP (w : World) : Prop where
 is : ∃ b off c, w.cell? ⟨0, 0, none⟩ = some (.slice (some ⟨b, off, none⟩) 5 c) ∧ ∀ k, k < 5 → w.cell? ⟨b, off + k, none⟩ = some (.string (kindB.getD k ByteArray.empty))
theorem KindsP.below {w w' : World} (h : KindsP w) (hb : Below w.heap.size w w') : KindsP w' := by
 obtain ⟨b, off, c, h1, h2⟩ := h.is
 exact ⟨b, off, c, (hb.cell (lt_of_cell h1)).trans h1, fun k hk => (hb.cell (p := ⟨b, off + k, none⟩) (lt_of_cell (h2 k hk))).trans (h2 k hk)⟩
def lnC (x : LnR) (v : Value) : Array Value := #[.int .i64 x.k, .string x.name, .int .i64 (x.ver 0), .int .i64 (x.ver 1), .int .i64 (x.ver 2), .string x.other, v]
def ln0 : LnR := ⟨0, ⟨#[]⟩, fun _ => 0, ⟨#[]⟩, []⟩
structure LxI (w : World) (bx : Nat) (cs : Array Value) (wr : World) : Prop where
 b2 : Blk wr w.heap.size 27 (lnC ln0 (.slice none 0 0))
 b3 : Blk wr (w.heap.size + 1) 30 #[.int .i64 0, .int .i64 0]
 bx_ : Blk wr bx 27 cs
 lo : w.heap.size + 1 < bx
 bel : Below w.heap.size w wr
section
variable {w wr wr' : World} {bx : Nat} {cs : Array Value}
theorem LxI.below (h : LxI w bx cs wr) (hb : Below wr.heap.size wr wr') : LxI w bx cs wr' := ⟨h.b2.below hb h.b2.lt, h.b3.below hb h.b3.lt, h.bx_.below hb h.bx_.lt, h.lo, h.bel.trans (hb.mono h.bel.size)⟩
theorem LxI.set_ (h : LxI w bx cs wr) (i : Nat) (u : Value) : LxI w bx (cs.setIfInBounds i u) (wr.setCell ⟨bx, i, none⟩ u) :=
 ⟨h.b2.far (by have := h.lo; show w.heap.size ≠ bx; omega) u, h.b3.far (by have := h.lo; show w.heap.size + 1 ≠ bx; omega) u, h.bx_.set_ i u, h.lo, h.bel.setCell (p := ⟨bx, i, none⟩) (by have := h.lo; show w.heap.size ≤ bx; omega) u⟩
theorem LxI.drew (h : LxI w bx cs wr) : LxI w bx cs wr.drew := ⟨h.b2, h.b3, h.bx_, h.lo, h.bel.drew⟩
end
theorem blk7 {w : World} {g : Nat} {t : TypeId} {a0 a1 a2 a3 a4 a5 a6 : Value} (h : Blk w g t #[a0, a1, a2, a3, a4, a5, a6]) :
  (w.cell? ⟨g, 0, none⟩ = some a0 ∧ w.cell? ⟨g, 1, none⟩ = some a1 ∧ w.cell? ⟨g, 2, none⟩ = some a2 ∧ w.cell? ⟨g, 3, none⟩ = some a3 ∧ w.cell? ⟨g, 4, none⟩ = some a4 ∧ w.cell? ⟨g, 5, none⟩ = some a5 ∧ w.cell? ⟨g, 6, none⟩ = some a6) ∧
  w.frozen? ⟨g, 0, none⟩ = false ∧ w.frozen? ⟨g, 1, none⟩ = false ∧ w.frozen? ⟨g, 2, none⟩ = false ∧ w.frozen? ⟨g, 3, none⟩ = false ∧ w.frozen? ⟨g, 4, none⟩ = false ∧ w.frozen? ⟨g, 5, none⟩ = false ∧ w.frozen? ⟨g, 6, none⟩ = false :=
 ⟨⟨h.cell 0, h.cell 1, h.cell 2, h.cell 3, h.cell 4, h.cell 5, h.cell 6⟩, h.frozen 0, h.frozen 1, h.frozen 2, h.frozen 3, h.frozen 4, h.frozen 5, h.frozen 6⟩
theorem blk2 {w : World} {g : Nat} {t : TypeId} {a0 a1 : Value} (h : Blk w g t #[a0, a1]) : (w.cell? ⟨g, 0, none⟩ = some a0 ∧ w.cell? ⟨g, 1, none⟩ = some a1) ∧ w.frozen? ⟨g, 0, none⟩ = false ∧ w.frozen? ⟨g, 1, none⟩ = false := ⟨⟨h.cell 0, h.cell 1⟩, h.frozen 0, h.frozen 1⟩
theorem LxI.fr7 {w wr : World} {g : Nat} (S : Nat → Prop) (h : Below w.heap.size w wr) (hg : S g) (hw : w.heap.size ≤ g) (a0 a1 a2 a3 a4 a5 a6 : Value) :
  Fr S wr (((((((wr.setCell ⟨g, 0, none⟩ a0).setCell ⟨g, 1, none⟩ a1).setCell ⟨g, 2, none⟩ a2).setCell ⟨g, 3, none⟩ a3).setCell ⟨g, 4, none⟩ a4).setCell ⟨g, 5, none⟩ a5).setCell ⟨g, 6, none⟩ a6) ∧ Below w.heap.size w (((((((wr.setCell ⟨g, 0, none⟩ a0).setCell ⟨g, 1, none⟩ a1).setCell ⟨g, 2, none⟩ a2).setCell ⟨g, 3, none⟩ a3).setCell ⟨g, 4, none⟩ a4).setCell ⟨g, 5, none⟩ a5).setCell ⟨g, 6, none⟩ a6) :=
 ⟨(((((((Fr.refl S wr).set_ (p := ⟨g, 0, none⟩) hg a0).set_ (p := ⟨g, 1, none⟩) hg a1).set_ (p := ⟨g, 2, none⟩) hg a2).set_ (p := ⟨g, 3, none⟩) hg a3).set_ (p := ⟨g, 4, none⟩) hg a4).set_ (p := ⟨g, 5, none⟩) hg a5).set_ (p := ⟨g, 6, none⟩) hg a6,
  ((((((h.setCell (p := ⟨g, 0, none⟩) hw a0).setCell (p := ⟨g, 1, none⟩) hw a1).setCell (p := ⟨g, 2, none⟩) hw a2).setCell (p := ⟨g, 3, none⟩) hw a3).setCell (p := ⟨g, 4, none⟩) hw a4).setCell (p := ⟨g, 5, none⟩) hw a5).setCell (p := ⟨g, 6, none⟩) hw a6⟩
theorem blk7_set {wr : World} {g : Nat} {t : TypeId} {x0 x1 x2 x3 x4 x5 x6 : Value} (h : Blk wr g t #[x0, x1, x2, x3, x4, x5, x6]) (a0 a1 a2 a3 a4 a5 a6 : Value) : Blk (((((((wr.setCell ⟨g, 0, none⟩ a0).setCell ⟨g, 1, none⟩ a1).setCell ⟨g, 2, none⟩ a2).setCell ⟨g, 3, none⟩ a3).setCell ⟨g, 4, none⟩ a4).setCell ⟨g, 5, none⟩ a5).setCell ⟨g, 6, none⟩ a6) g t #[a0, a1, a2, a3, a4, a5, a6] := by
 have s0 : Blk _ g t #[a0, x1, x2, x3, x4, x5, x6] := h.set_ 0 a0
 have s1 : Blk _ g t #[a0, a1, x2, x3, x4, x5, x6] := s0.set_ 1 a1
 have s2 : Blk _ g t #[a0, a1, a2, x3, x4, x5, x6] := s1.set_ 2 a2
 have s3 : Blk _ g t #[a0, a1, a2, a3, x4, x5, x6] := s2.set_ 3 a3
 have s4 : Blk _ g t #[a0, a1, a2, a3, a4, x5, x6] := s3.set_ 4 a4
 have s5 : Blk _ g t #[a0, a1, a2, a3, a4, a5, x6] := s4.set_ 5 a5
 have s6 : Blk _ g t #[a0, a1, a2, a3, a4, a5, a6] := s5.set_ 6 a6
 exact s6
theorem OwnI.fr {S : Nat → Prop} {w w' : World} {base : Nat} {v : Value} {l : List Int} (h : OwnI w base v l) (hf : Fr S w w') (hs : ∀ k, base ≤ k → ¬ S k) : OwnI w' base v l := by
 refine ⟨h.1, ?_⟩
 rcases h.2 with h2 | ⟨g, cap, cur, e, hg, hgc, r⟩
 ·exact .inl h2
 ·have hk : Blk w g 3 cur := hgc
  exact .inr ⟨g, cap, cur, e, hg, hk.fr hf (hs g hg), r⟩
end Go.Proofs.YtmncoldaemcnlaaGreatDoor
namespace Go.Proofs.YtmncoldaemcnlaaGreatDoor
open Go.RowKit
set_option maxRecDepth 100000
structure PxI (w : World) (cs : Array Value) (wr : World) : Prop where
 b2 : Blk wr w.heap.size 38 cs
 bel : Below w.heap.size w wr
section
variable {w wr wr' : World} {cs : Array Value}
theorem PxI.below (h : PxI w cs wr) (hb : Below wr.heap.size wr wr') : PxI w cs wr' := ⟨h.b2.below hb h.b2.lt, h.bel.trans (hb.mono h.bel.size)⟩
theorem PxI.set_ (h : PxI w cs wr) (i : Nat) (u : Value) : PxI w (cs.setIfInBounds i u) (wr.setCell ⟨w.heap.size, i, none⟩ u) := ⟨h.b2.set_ i u, h.bel.setCell (p := ⟨w.heap.size, i, none⟩) (Nat.le_refl _) u⟩
theorem PxI.all {x0 x1 x2 x3 x4 x5 x6 : Value} (h : PxI w #[x0, x1, x2, x3, x4, x5, x6] wr) (a0 a1 a2 a3 a4 a5 a6 : Value) :
  PxI w #[a0, a1, a2, a3, a4, a5, a6] (((((((wr.setCell ⟨w.heap.size, 0, none⟩ a0).setCell ⟨w.heap.size, 1, none⟩ a1).setCell ⟨w.heap.size, 2, none⟩ a2).setCell ⟨w.heap.size, 3, none⟩ a3).setCell ⟨w.heap.size, 4, none⟩ a4).setCell ⟨w.heap.size, 5, none⟩ a5).setCell ⟨w.heap.size, 6, none⟩ a6) ∧
  Fr (fun k => k = w.heap.size) wr (((((((wr.setCell ⟨w.heap.size, 0, none⟩ a0).setCell ⟨w.heap.size, 1, none⟩ a1).setCell ⟨w.heap.size, 2, none⟩ a2).setCell ⟨w.heap.size, 3, none⟩ a3).setCell ⟨w.heap.size, 4, none⟩ a4).setCell ⟨w.heap.size, 5, none⟩ a5).setCell ⟨w.heap.size, 6, none⟩ a6) :=
 have hh := LxI.fr7 (fun k => k = w.heap.size) h.bel (g := w.heap.size) rfl (Nat.le_refl _) a0 a1 a2 a3 a4 a5 a6
 ⟨⟨blk7_set h.b2 a0 a1 a2 a3 a4 a5 a6, hh.2⟩, hh.1⟩
end
end Go.Proofs.YtmncoldaemcnlaaGreatDoor
namespace Go.Proofs
open Go.Shelf
def Tryz.lays160_ren : Go.Shelf.Ren := ⟨fun | 160 => 137 | 232 => 178 | 231 => 165 | 227 => 166 | 234 => 179 | 233 => 167 | 236 => 180 | 235 => 168 | 228 => 202 | 271 => 208 | 151 => 203 | 197 => 156 | 120 => 228 | 152 => 218 | 260 => 189 | 137 => 86 | 119 => 231 | 224 => 205 | 225 => 204 | 217 => 121 | 266 => 161 | n => n, fun | 9 => 9 | 4 => 4 | 3 => 3 | 5 => 5 | 117 => 248 | 116 => 247 | 0 => 0 | 124 => 251 | 21 => 21 | 105 => 231 | 46 => 47 | 119 => 295 | 139 => 298 | 138 => 297 | n => n, fun | 3 => 4 | 4 => 5 | n => n⟩
theorem Tryz.lays160 : Go.Proofs.Lays.n160 Tryz.prog Tryz.lays160_ren := {
 mixed := by kernel_rfl
 f119 := Tryz.func231.trans (congrArg some (by kernel_rfl))
 f120 := Tryz.func228.trans (congrArg some (by kernel_rfl))
 f137 := Tryz.func86.trans (congrArg some (by kernel_rfl))
 f151 := Tryz.func203.trans (congrArg some (by kernel_rfl))
 f152 := Tryz.func218.trans (congrArg some (by kernel_rfl))
 f160 := Tryz.func137.trans (congrArg some (by kernel_rfl))
 f197 := Tryz.func156.trans (congrArg some (by kernel_rfl))
 f217 := Tryz.func121.trans (congrArg some (by kernel_rfl))
 f224 := Tryz.func205.trans (congrArg some (by kernel_rfl))
 f225 := Tryz.func204.trans (congrArg some (by kernel_rfl))
 f227 := Tryz.func166.trans (congrArg some (by kernel_rfl))
 f228 := Tryz.func202.trans (congrArg some (by kernel_rfl))
 f231 := Tryz.func165.trans (congrArg some (by kernel_rfl))
 f232 := Tryz.func178.trans (congrArg some (by kernel_rfl))
 f233 := Tryz.func167.trans (congrArg some (by kernel_rfl))
 f234 := Tryz.func179.trans (congrArg some (by kernel_rfl))
 f235 := Tryz.func168.trans (congrArg some (by kernel_rfl))
 f236 := Tryz.func180.trans (congrArg some (by kernel_rfl))
 f260 := Tryz.func189.trans (congrArg some (by kernel_rfl))
 f266 := Tryz.func161.trans (congrArg some (by kernel_rfl))
 f271 := Tryz.func208.trans (congrArg some (by kernel_rfl))
 t0 := Tryz.underlying0
 a0 := Tryz.isAgg0
 z0 := Tryz.sizeOf0
 v0 := Tryz.zeroValue0
 t3 := Tryz.underlying3
 a3 := Tryz.isAgg3
 z3 := Tryz.sizeOf3
 v3 := Tryz.zeroValue3
 t4 := Tryz.underlying4
 a4 := Tryz.isAgg4
 z4 := Tryz.sizeOf4
 v4 := Tryz.zeroValue4
 t5 := Tryz.underlying5
 a5 := Tryz.isAgg5
 z5 := Tryz.sizeOf5
 v5 := Tryz.zeroValue5
 t9 := Tryz.underlying9
 a9 := Tryz.isAgg9
 z9 := Tryz.sizeOf9
 v9 := Tryz.zeroValue9
 t21 := Tryz.underlying21
 a21 := Tryz.isAgg21
 z21 := Tryz.sizeOf21
 v21 := Tryz.zeroValue21
 t46 := Tryz.underlying47
 a46 := Tryz.isAgg47
 z46 := Tryz.sizeOf47
 v46 := Tryz.zeroValue47
 t105 := Tryz.underlying231
 a105 := Tryz.isAgg231
 z105 := Tryz.sizeOf231
 v105 := Tryz.zeroValue231
 t116 := Tryz.underlying247
 a116 := Tryz.isAgg247
 z116 := Tryz.sizeOf247
 t117 := Tryz.underlying248
 a117 := Tryz.isAgg248
 z117 := Tryz.sizeOf248
 v117 := Tryz.zeroValue248
 t119 := Tryz.underlying295
 a119 := Tryz.isAgg295
 z119 := Tryz.sizeOf295
 t124 := Tryz.underlying251
 a124 := Tryz.isAgg251
 z124 := Tryz.sizeOf251
 v124 := Tryz.zeroValue251
 t138 := Tryz.underlying297
 a138 := Tryz.isAgg297
 z138 := Tryz.sizeOf297
 v138 := Tryz.zeroValue297
 t139 := Tryz.underlying298
 a139 := Tryz.isAgg298
 z139 := Tryz.sizeOf298
 v139 := Tryz.zeroValue298
 g3 := by kernel_rfl
 g4 := by kernel_rfl }
end Go.Proofs
