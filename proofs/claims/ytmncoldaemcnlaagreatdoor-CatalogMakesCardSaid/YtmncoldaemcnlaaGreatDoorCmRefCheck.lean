/-
  A part of the proof: RefCheck. Conditions: none.
-/
import Derived.Test.YtmncoldaemcnlaaGreatDoorCmFr
import Derived.Test.YtmncoldaemcnlaaGreatDoorProg
import Derived.WalkKit
import Derived.WalkSpells
import Derived.WalkLawsBesides
import Derived.BigQuiet
import Derived.Lib.Hide
import Derived.Shelf.Abstract
namespace Go.Proofs.YtmncoldaemcnlaaGreatDoor
open Go.RowKit Go.WideShapes Go.ChangeShapes
theorem ret_bool {a b : Bool} (h : a = b) : Ending.returned (.bool a) = .returned (.bool b) := by rw [h]
theorem hide {p : Prop} (h : p) : Hid p := h
def I64 (z : Int) : Prop := -9223372036854775808 ≤ z ∧ z ≤ 9223372036854775807
def Ints (w : World) (B : Nat) (A : Option Addr) (n : Nat) (zs : List Int) : Prop :=
 zs.length = n ∧ n ≤ maxLen ∧ (∀ z ∈ zs, I64 z) ∧ Reads w B 1 A n (zs.map (Value.int .i64))
def Cls (w : World) (B : Nat) (A : Option Addr) (n : Nat) (ls : List (List Int)) : Prop :=
 ls.length = n ∧ n ≤ maxLen ∧ ∃ vs : List Value, Reads w B 1 A n vs ∧ ∀ k, k < n → ∃ A' n' c', vs[k]? = some (.slice A' n' c') ∧ n' ≤ c' ∧ Ints w B A' n' (ls.getD k [])
section
variable {w w' : World} {B B' n : Nat} {A : Option Addr} {zs : List Int} {ls : List (List Int)}
theorem Ints.len (h : Ints w B A n zs) : zs.length = n := h.1
theorem Ints.le (h : Ints w B A n zs) : n ≤ 9223372036854775807 := by have := h.2.1; unfold maxLen at this; exact this
theorem Ints.i64 (h : Ints w B A n zs) {z : Int} (hz : z ∈ zs) : I64 z := h.2.2.1 z hz
theorem Ints.at_ {k : Nat} (h : Ints w B A n zs) (hk : k < n) : ∃ ad, A = some ad ∧ ad.block < B ∧ w.cell? (ad.add k) = some (.int .i64 (zs.getD k 0)) := by
 obtain ⟨ad, u, rfl, hb, hu, hc⟩ := h.2.2.2.at_ hk
 have hl : k < zs.length := by rw [h.1]; exact hk
 rw [List.getElem?_map, List.getElem?_eq_getElem hl] at hu
 simp only [Option.map_some, Option.some.injEq] at hu
 subst hu
 exact ⟨ad, rfl, hb, by rw [hc, List.getD_eq_getElem?_getD, List.getElem?_eq_getElem hl]; rfl⟩
theorem Ints.keep (h : Ints w B A n zs) (hk : ∀ p : Addr, p.block < B → w'.cell? p = w.cell? p) : Ints w' B A n zs := ⟨h.1, h.2.1, h.2.2.1, h.2.2.2.keep hk⟩
theorem Ints.more (h : Ints w B A n zs) (hB : B ≤ B') : Ints w B' A n zs := ⟨h.1, h.2.1, h.2.2.1, h.2.2.2.more hB⟩
theorem Ints.below (h : Ints w B A n zs) (hb : Below B w w') : Ints w' B A n zs := h.keep fun _ hp => hb.cell hp
theorem Ints.nil (w : World) (B : Nat) : Ints w B none 0 [] := ⟨rfl, Nat.zero_le _, by simp, Reads.none_⟩
theorem Cls.len (h : Cls w B A n ls) : ls.length = n := h.1
theorem Cls.le (h : Cls w B A n ls) : n ≤ 9223372036854775807 := by have := h.2.1; unfold maxLen at this; exact this
theorem Cls.at_ {k : Nat} (h : Cls w B A n ls) (hk : k < n) : ∃ ad A' n' c', A = some ad ∧ ad.block < B ∧ w.cell? (ad.add k) = some (.slice A' n' c') ∧ n' ≤ c' ∧ Ints w B A' n' (ls.getD k []) := by
 obtain ⟨_, _, vs, hr, hv⟩ := h
 obtain ⟨ad, u, rfl, hb, hu, hc⟩ := hr.at_ hk
 obtain ⟨A', n', c', hu', hcc, hi⟩ := hv k hk
 rw [hu] at hu'
 cases hu'
 exact ⟨ad, A', n', c', rfl, hb, hc, hcc, hi⟩
theorem Cls.keep (h : Cls w B A n ls) (hk : ∀ p : Addr, p.block < B → w'.cell? p = w.cell? p) : Cls w' B A n ls := by
 obtain ⟨h1, h2, vs, hr, hv⟩ := h
 refine ⟨h1, h2, vs, hr.keep hk, fun k hkn => ?_⟩
 obtain ⟨A', n', c', hu', hcc, hi⟩ := hv k hkn
 exact ⟨A', n', c', hu', hcc, hi.keep hk⟩
theorem Cls.more (h : Cls w B A n ls) (hB : B ≤ B') : Cls w B' A n ls := by
 obtain ⟨h1, h2, vs, hr, hv⟩ := h
 refine ⟨h1, h2, vs, hr.more hB, fun k hkn => ?_⟩
 obtain ⟨A', n', c', hu', hcc, hi⟩ := hv k hkn
 exact ⟨A', n', c', hu', hcc, hi.more hB⟩
theorem Cls.below (h : Cls w B A n ls) (hb : Below B w w') : Cls w' B A n ls := h.keep fun _ hp => hb.cell hp
end
structure Keep (S : Nat → Prop) (w w' : World) : Prop where
 os : w'.os = w.os
 tape : w'.tape = w.tape
 output : w'.output = w.output
 size : w.heap.size ≤ w'.heap.size
 block : ∀ i, S i → w'.heap[i]? = w.heap[i]?
section
variable {S : Nat → Prop} {w w' w'' : World} {B n : Nat} {A : Option Addr} {zs : List Int} {ls : List (List Int)}
theorem Keep.refl (S : Nat → Prop) (w : World) : Keep S w w := ⟨rfl, rfl, rfl, Nat.le_refl _, fun _ _ => rfl⟩
theorem Keep.trans (h : Keep S w w') (h' : Keep S w' w'') : Keep S w w'' :=
 ⟨h'.os.trans h.os, h'.tape.trans h.tape, h'.output.trans h.output, Nat.le_trans h.size h'.size, fun i hi => (h'.block i hi).trans (h.block i hi)⟩
theorem Keep.of_below (hS : ∀ i, S i → i < B) (h : Below B w w') : Keep S w w' := ⟨h.os, h.tape, h.output, h.size, fun i hi => h.block i (hS i hi)⟩
theorem Keep.below (h : Keep S w w') (hS : ∀ i, i < B → S i) : Below B w w' := ⟨h.os, h.tape, h.output, h.size, fun i hi => h.block i (hS i hi)⟩
theorem Keep.grown {row : Option Nat} (hg : w.grownBy w' row) (hS : ∀ i, S i → i < w.heap.size ∧ some i ≠ row) : Keep S w w' :=
 ⟨hg.os, hg.tape, hg.output, hg.size, fun i hi => hg.block i (hS i hi).1 (hS i hi).2⟩
theorem Keep.setCell {p : Addr} (hp : ¬ S p.block) (u : Value) : Keep S w (w.setCell p u) :=
 ⟨rfl, rfl, rfl, by simp [World.setCell], fun i hi => Below.heap_setCell _ _ _ _ (fun e => hp (e ▸ hi))⟩
theorem Keep.alloc (hS : ∀ i, S i → i < w.heap.size) (o : Obj) : Keep S w (w.alloc o) := .of_below hS ((Below.refl w.heap.size w).alloc (Nat.le_refl _) o)
theorem Keep.cell (h : Keep S w w') {p : Addr} (hp : S p.block) : w'.cell? p = w.cell? p := World.cell?_of_block (h.block _ hp)
theorem Keep.mono {S' : Nat → Prop} (h : Keep S w w') (hS : ∀ i, S' i → S i) : Keep S' w w' := ⟨h.os, h.tape, h.output, h.size, fun i hi => h.block i (hS i hi)⟩
theorem Keep.blk (h : Keep S w w') {g : Nat} {t : TypeId} {cs : Array Value} (hg : Blk w g t cs) (hs : S g) : Blk w' g t cs := (h.block g hs).trans hg
def IntsP (w : World) (S : Nat → Prop) (A : Option Addr) (n : Nat) (zs : List Int) : Prop :=
 zs.length = n ∧ n ≤ maxLen ∧ (∀ z ∈ zs, I64 z) ∧ (0 < n → ∃ ad, A = some ad ∧ S ad.block ∧ ∀ j u, (zs.map (Value.int .i64))[j]? = some u → w.cell? (ad.add j) = some u)
def ClsP (w : World) (S : Nat → Prop) (A : Option Addr) (n : Nat) (ls : List (List Int)) : Prop :=
 ls.length = n ∧ n ≤ maxLen ∧ ∃ vs : List Value, vs.length = n ∧ (0 < n → ∃ ad, A = some ad ∧ S ad.block ∧ ∀ j u, vs[j]? = some u → w.cell? (ad.add j) = some u) ∧
  ∀ k, k < n → ∃ A' n' c', vs[k]? = some (.slice A' n' c') ∧ n' ≤ c' ∧ IntsP w S A' n' (ls.getD k [])
theorem IntsP.of (h : Ints w B A n zs) : IntsP w (· < B) A n zs := ⟨h.1, h.2.1, h.2.2.1, h.2.2.2.2⟩
theorem IntsP.keep (h : IntsP w S A n zs) (hk : Keep S w w') : IntsP w' S A n zs := by
 refine ⟨h.1, h.2.1, h.2.2.1, fun hn => ?_⟩
 obtain ⟨ad, e, hs, hc⟩ := h.2.2.2 hn
 exact ⟨ad, e, hs, fun j u hu => (hk.cell (by rw [block_of_add]; exact hs)).trans (hc j u hu)⟩
theorem IntsP.mono {S' : Nat → Prop} (h : IntsP w S A n zs) (hS : ∀ i, S i → S' i) : IntsP w S' A n zs := by
 refine ⟨h.1, h.2.1, h.2.2.1, fun hn => ?_⟩
 obtain ⟨ad, e, hs, hc⟩ := h.2.2.2 hn
 exact ⟨ad, e, hS _ hs, hc⟩
theorem ClsP.of (h : Cls w B A n ls) : ClsP w (· < B) A n ls := by
  obtain ⟨h1, h2, vs, hr, hv⟩ := h
  refine ⟨h1, h2, vs, by have := hr.1; omega, hr.2, fun k hk => ?_⟩
  obtain ⟨A', n', c', e, hc, hi⟩ := hv k hk
  exact ⟨A', n', c', e, hc, .of hi⟩
theorem ClsP.keep (h : ClsP w S A n ls) (hk : Keep S w w') : ClsP w' S A n ls := by
 obtain ⟨h1, h2, vs, hl, hr, hv⟩ := h
 refine ⟨h1, h2, vs, hl, fun hn => ?_, fun k hkn => ?_⟩
 ·obtain ⟨ad, e, hs, hc⟩ := hr hn
  exact ⟨ad, e, hs, fun j u hu => (hk.cell (by rw [block_of_add]; exact hs)).trans (hc j u hu)⟩
 ·obtain ⟨A', n', c', e, hc, hi⟩ := hv k hkn
  exact ⟨A', n', c', e, hc, hi.keep hk⟩
theorem ClsP.mono {S' : Nat → Prop} (h : ClsP w S A n ls) (hS : ∀ i, S i → S' i) : ClsP w S' A n ls := by
 obtain ⟨h1, h2, vs, hl, hr, hv⟩ := h
 refine ⟨h1, h2, vs, hl, fun hn => ?_, fun k hkn => ?_⟩
 ·obtain ⟨ad, e, hs, hc⟩ := hr hn
  exact ⟨ad, e, hS _ hs, hc⟩
 ·obtain ⟨A', n', c', e, hc, hi⟩ := hv k hkn
  exact ⟨A', n', c', e, hc, hi.mono hS⟩
end
theorem take_snoc {α : Type} (l : List α) (k : Nat) (d : α) (h : k < l.length) : l.take (k + 1) = l.take k ++ [l.getD k d] := by
 rw [List.take_succ_eq_append_getElem h, List.getD_eq_getElem?_getD, List.getElem?_eq_getElem h]; rfl
end Go.Proofs.YtmncoldaemcnlaaGreatDoor
namespace Go.Proofs.YtmncoldaemcnlaaGreatDoor
end Go.Proofs.YtmncoldaemcnlaaGreatDoor
namespace Go.Proofs.YtmncoldaemcnlaaGreatDoor
open Go.RowKit
end Go.Proofs.YtmncoldaemcnlaaGreatDoor
namespace Go.Proofs.YtmncoldaemcnlaaGreatDoor
open Go.RowKit
end Go.Proofs.YtmncoldaemcnlaaGreatDoor
namespace Go.Proofs.YtmncoldaemcnlaaGreatDoor
open Go.RowKit
def IsErr (w : World) (v : Value) (f : Int × Int) : Prop :=
 (f = (0, -1) ∧ v = .nilIface) ∨ (f.2 = -1 ∧ 1 ≤ f.1 ∧ f.1 ≤ 13 ∧ v = .iface 28 (.int .i64 f.1)) ∨
  ∃ b, b < w.heap.size ∧ 1 ≤ f.1 ∧ f.1 ≤ 13 ∧ 0 ≤ f.2 ∧ v = .iface 138 (.pointer (some ⟨b, 0, none⟩)) ∧ Blk w b 139 #[.int .i64 f.1, .int .i64 f.2]
end Go.Proofs.YtmncoldaemcnlaaGreatDoor
namespace Go.Proofs.YtmncoldaemcnlaaGreatDoor
open Go.RowKit
structure Glob (w : World) : Prop where
 f0 : w.cell? ⟨1, 0, none⟩ = some (.int .i64 0)
 f1 : w.cell? ⟨1, 1, none⟩ = some (.int .i64 (-1))
 e0 : w.cell? ⟨2, 0, none⟩ = some (.iface 267 (.agg #[.pointer (some ⟨11, 40, none⟩)]))
theorem lt_of_cell {w : World} {a : Addr} {v : Value} (h : w.cell? a = some v) : a.block < w.heap.size := by
 rcases Nat.lt_or_ge a.block w.heap.size with hl | hl
 ·exact hl
 ·simp [World.cell?, Array.getElem?_eq_none hl] at h
structure GlobE (w : World) : Prop where
 e0 : w.cell? ⟨2, 0, none⟩ = some (.iface 267 (.agg #[.pointer (some ⟨11, 40, none⟩)]))
theorem GlobE.below {w w' : World} (h : GlobE w) (hb : Below w.heap.size w w') : GlobE w' := ⟨(hb.cell (lt_of_cell h.e0)).trans h.e0⟩
theorem Glob.e {w : World} (h : Glob w) : GlobE w := ⟨h.e0⟩
theorem Glob.below {w w' : World} (h : Glob w) (hb : Below w.heap.size w w') : Glob w' :=
 ⟨(hb.cell (lt_of_cell h.f0)).trans h.f0, (hb.cell (lt_of_cell h.f1)).trans h.f1, (hb.cell (lt_of_cell h.e0)).trans h.e0⟩
def faultV (f : Int × Int) : Value := .agg #[.int .i64 f.1, .int .i64 f.2]
theorem bare_any (c : Int) (w : World) : Calls Tryz.prog 43 #[.int .i64 c] w fun e w' => e = .returned (.agg #[.int .i64 c, .int .i64 (-1)]) ∧ w.alloc (.cells #[.int .i64 c, .int .i64 (-1)] 30) = w' := by
 go_enter Tryz.func43, Tryz.ntmps43
 go_wp2
 exact bodyPost_ret (v := .agg #[.int .i64 c, .int .i64 (-1)]) (by simp [results, Tryz.results43, go_sem]) rfl ⟨rfl, rfl⟩
end Go.Proofs.YtmncoldaemcnlaaGreatDoor
