/-
  Words of this seat: a slice value that reads as a list of ints ('Ints'), one that reads as a list of such lists ('Cls'). Plain functions on lists of ints: what the small functions of the clauses compute. No program in sight. The walks of the law's own small functions: few, right, within. slices.IndexFunc, slices.ContainsFunc over a clause (a slice of ints), at a closure that only reads: whether some element has the property. clause.Check and the reference's ClauseCheck: both tell 'checkF'. The reference's Bare and ClauseCheck: they tell 'checkF'.
-/
import Derived.Test.YtmncoldaemcnlaaGreatDoorFr
import Derived.Test.YtmncoldaemcnlaaGreatDoorProg
import Derived.WalkKit
import Derived.WalkSpells
import Derived.WalkLawsBesides
import Derived.BigQuiet
import Derived.Lib.Hide
import Derived.Shelf.Abstract
namespace Go.Proofs.YtmncoldaemcnlaaGreatDoor
open Go.RowKit Go.WideShapes Go.ChangeShapes

theorem ret_int {k : IntKind} {a b : Int} (h : a = b) : Ending.returned (.int k a) = .returned (.int k b) := by rw [h]
theorem ret_bool {a b : Bool} (h : a = b) : Ending.returned (.bool a) = .returned (.bool b) := by rw [h]
theorem hide {p : Prop} (h : p) : Hid p := h

def I64 (z : Int) : Prop := -9223372036854775808 ≤ z ∧ z ≤ 9223372036854775807

/-- The slice value '.slice A n c' reads as the ints zs; its cells lie below block B. -/
def Ints (w : World) (B : Nat) (A : Option Addr) (n : Nat) (zs : List Int) : Prop :=
  zs.length = n ∧ n ≤ maxLen ∧ (∀ z ∈ zs, I64 z) ∧ Reads w B 1 A n (zs.map (Value.int .i64))

/-- The slice value reads as a list of lists of ints. -/
def Cls (w : World) (B : Nat) (A : Option Addr) (n : Nat) (ls : List (List Int)) : Prop :=
  ls.length = n ∧ n ≤ maxLen ∧ ∃ vs : List Value, Reads w B 1 A n vs ∧ ∀ k, k < n → ∃ A' n' c', vs[k]? = some (.slice A' n' c') ∧ n' ≤ c' ∧ Ints w B A' n' (ls.getD k [])

section
variable {w w' : World} {B B' n : Nat} {A : Option Addr} {zs : List Int} {ls : List (List Int)}

theorem Ints.len (h : Ints w B A n zs) : zs.length = n := h.1
theorem Ints.le (h : Ints w B A n zs) : n ≤ 9223372036854775807 := by have := h.2.1; unfold maxLen at this; exact this
theorem Ints.i64 (h : Ints w B A n zs) {z : Int} (hz : z ∈ zs) : I64 z := h.2.2.1 z hz
theorem Ints.i64_at (h : Ints w B A n zs) {k : Nat} (hk : k < n) : I64 (zs.getD k 0) := by
  have hl : k < zs.length := by rw [h.1]; exact hk
  refine h.i64 ?_
  rw [List.getD_eq_getElem?_getD, List.getElem?_eq_getElem hl]
  exact List.getElem_mem hl
theorem Ints.at_ {k : Nat} (h : Ints w B A n zs) (hk : k < n) : ∃ ad, A = some ad ∧ ad.block < B ∧ w.cell? (ad.add k) = some (.int .i64 (zs.getD k 0)) := by
  obtain ⟨ad, u, rfl, hb, hu, hc⟩ := h.2.2.2.at_ hk
  have hl : k < zs.length := by rw [h.1]; exact hk
  rw [List.getElem?_map, List.getElem?_eq_getElem hl] at hu
  simp only [Option.map_some, Option.some.injEq] at hu
  subst hu
  exact ⟨ad, rfl, hb, by rw [hc, List.getD_eq_getElem?_getD, List.getElem?_eq_getElem hl]; rfl⟩
theorem Ints.keep (h : Ints w B A n zs) (hk : ∀ p : Addr, p.block < B → w'.cell? p = w.cell? p) : Ints w' B A n zs := ⟨h.1, h.2.1, h.2.2.1, h.2.2.2.keep hk⟩
theorem Ints.more (h : Ints w B A n zs) (hB : B ≤ B') : Ints w B' A n zs := ⟨h.1, h.2.1, h.2.2.1, h.2.2.2.more hB⟩
theorem Ints.below (h : Ints w B A n zs) (hb : Below B w w') : Ints w' B A n zs := h.keep fun _ hp => hb.cell hp
theorem Ints.nil (w : World) (B : Nat) : Ints w B none 0 [] := ⟨rfl, Nat.zero_le _, by simp, Reads.none_⟩

theorem Cls.len (h : Cls w B A n ls) : ls.length = n := h.1
theorem Cls.le (h : Cls w B A n ls) : n ≤ 9223372036854775807 := by have := h.2.1; unfold maxLen at this; exact this
theorem Cls.at_ {k : Nat} (h : Cls w B A n ls) (hk : k < n) : ∃ ad A' n' c', A = some ad ∧ ad.block < B ∧ w.cell? (ad.add k) = some (.slice A' n' c') ∧ n' ≤ c' ∧ Ints w B A' n' (ls.getD k []) := by
  obtain ⟨_, _, vs, hr, hv⟩ := h
  obtain ⟨ad, u, rfl, hb, hu, hc⟩ := hr.at_ hk
  obtain ⟨A', n', c', hu', hcc, hi⟩ := hv k hk
  rw [hu] at hu'
  cases hu'
  exact ⟨ad, A', n', c', rfl, hb, hc, hcc, hi⟩
theorem Cls.keep (h : Cls w B A n ls) (hk : ∀ p : Addr, p.block < B → w'.cell? p = w.cell? p) : Cls w' B A n ls := by
  obtain ⟨h1, h2, vs, hr, hv⟩ := h
  refine ⟨h1, h2, vs, hr.keep hk, fun k hkn => ?_⟩
  obtain ⟨A', n', c', hu', hcc, hi⟩ := hv k hkn
  exact ⟨A', n', c', hu', hcc, hi.keep hk⟩
theorem Cls.more (h : Cls w B A n ls) (hB : B ≤ B') : Cls w B' A n ls := by
  obtain ⟨h1, h2, vs, hr, hv⟩ := h
  refine ⟨h1, h2, vs, hr.more hB, fun k hkn => ?_⟩
  obtain ⟨A', n', c', hu', hcc, hi⟩ := hv k hkn
  exact ⟨A', n', c', hu', hcc, hi.more hB⟩
theorem Cls.below (h : Cls w B A n ls) (hb : Below B w w') : Cls w' B A n ls := h.keep fun _ hp => hb.cell hp
end

/-- Blocks of S are as they were; nothing shrank. -/
structure Keep (S : Nat → Prop) (w w' : World) : Prop where
  os : w'.os = w.os
  tape : w'.tape = w.tape
  output : w'.output = w.output
  size : w.heap.size ≤ w'.heap.size
  block : ∀ i, S i → w'.heap[i]? = w.heap[i]?
section
variable {S : Nat → Prop} {w w' w'' : World} {B n : Nat} {A : Option Addr} {zs : List Int} {ls : List (List Int)}
theorem Keep.refl (S : Nat → Prop) (w : World) : Keep S w w := ⟨rfl, rfl, rfl, Nat.le_refl _, fun _ _ => rfl⟩
theorem Keep.trans (h : Keep S w w') (h' : Keep S w' w'') : Keep S w w'' :=
  ⟨h'.os.trans h.os, h'.tape.trans h.tape, h'.output.trans h.output, Nat.le_trans h.size h'.size, fun i hi => (h'.block i hi).trans (h.block i hi)⟩
theorem Keep.of_below (hS : ∀ i, S i → i < B) (h : Below B w w') : Keep S w w' := ⟨h.os, h.tape, h.output, h.size, fun i hi => h.block i (hS i hi)⟩
theorem Keep.below (h : Keep S w w') (hS : ∀ i, i < B → S i) : Below B w w' := ⟨h.os, h.tape, h.output, h.size, fun i hi => h.block i (hS i hi)⟩
theorem Keep.grown {row : Option Nat} (hg : w.grownBy w' row) (hS : ∀ i, S i → i < w.heap.size ∧ some i ≠ row) : Keep S w w' :=
  ⟨hg.os, hg.tape, hg.output, hg.size, fun i hi => hg.block i (hS i hi).1 (hS i hi).2⟩
theorem Keep.setCell {p : Addr} (hp : ¬ S p.block) (u : Value) : Keep S w (w.setCell p u) :=
  ⟨rfl, rfl, rfl, by simp [World.setCell], fun i hi => Below.heap_setCell _ _ _ _ (fun e => hp (e ▸ hi))⟩
theorem Keep.alloc (hS : ∀ i, S i → i < w.heap.size) (o : Obj) : Keep S w (w.alloc o) := .of_below hS ((Below.refl w.heap.size w).alloc (Nat.le_refl _) o)
theorem Keep.cell (h : Keep S w w') {p : Addr} (hp : S p.block) : w'.cell? p = w.cell? p := World.cell?_of_block (h.block _ hp)
theorem Keep.mono {S' : Nat → Prop} (h : Keep S w w') (hS : ∀ i, S' i → S i) : Keep S' w w' := ⟨h.os, h.tape, h.output, h.size, fun i hi => h.block i (hS i hi)⟩
theorem Keep.blk (h : Keep S w w') {g : Nat} {t : TypeId} {cs : Array Value} (hg : Blk w g t cs) (hs : S g) : Blk w' g t cs := (h.block g hs).trans hg

/-- As 'Ints', the cells in blocks of S. -/
def IntsP (w : World) (S : Nat → Prop) (A : Option Addr) (n : Nat) (zs : List Int) : Prop :=
  zs.length = n ∧ n ≤ maxLen ∧ (∀ z ∈ zs, I64 z) ∧ (0 < n → ∃ ad, A = some ad ∧ S ad.block ∧ ∀ j u, (zs.map (Value.int .i64))[j]? = some u → w.cell? (ad.add j) = some u)
def ClsP (w : World) (S : Nat → Prop) (A : Option Addr) (n : Nat) (ls : List (List Int)) : Prop :=
  ls.length = n ∧ n ≤ maxLen ∧ ∃ vs : List Value, vs.length = n ∧ (0 < n → ∃ ad, A = some ad ∧ S ad.block ∧ ∀ j u, vs[j]? = some u → w.cell? (ad.add j) = some u) ∧
    ∀ k, k < n → ∃ A' n' c', vs[k]? = some (.slice A' n' c') ∧ n' ≤ c' ∧ IntsP w S A' n' (ls.getD k [])
theorem IntsP.of (h : Ints w B A n zs) : IntsP w (· < B) A n zs := ⟨h.1, h.2.1, h.2.2.1, h.2.2.2.2⟩
theorem IntsP.ints (h : IntsP w S A n zs) (hS : ∀ i, S i → i < B) : Ints w B A n zs := by
  refine ⟨h.1, h.2.1, h.2.2.1, by rw [List.length_map, h.1]; omega, fun hn => ?_⟩
  obtain ⟨ad, e, hs, hc⟩ := h.2.2.2 hn
  exact ⟨ad, e, hS _ hs, hc⟩
theorem IntsP.keep (h : IntsP w S A n zs) (hk : Keep S w w') : IntsP w' S A n zs := by
  refine ⟨h.1, h.2.1, h.2.2.1, fun hn => ?_⟩
  obtain ⟨ad, e, hs, hc⟩ := h.2.2.2 hn
  exact ⟨ad, e, hs, fun j u hu => (hk.cell (by rw [block_of_add]; exact hs)).trans (hc j u hu)⟩
theorem IntsP.mono {S' : Nat → Prop} (h : IntsP w S A n zs) (hS : ∀ i, S i → S' i) : IntsP w S' A n zs := by
  refine ⟨h.1, h.2.1, h.2.2.1, fun hn => ?_⟩
  obtain ⟨ad, e, hs, hc⟩ := h.2.2.2 hn
  exact ⟨ad, e, hS _ hs, hc⟩
theorem ClsP.of (h : Cls w B A n ls) : ClsP w (· < B) A n ls := by
  obtain ⟨h1, h2, vs, hr, hv⟩ := h
  refine ⟨h1, h2, vs, by have := hr.1; omega, hr.2, fun k hk => ?_⟩
  obtain ⟨A', n', c', e, hc, hi⟩ := hv k hk
  exact ⟨A', n', c', e, hc, .of hi⟩
theorem ClsP.cls (h : ClsP w S A n ls) (hS : ∀ i, S i → i < B) : Cls w B A n ls := by
  obtain ⟨h1, h2, vs, hl, hr, hv⟩ := h
  refine ⟨h1, h2, vs, ⟨by omega, fun hn => ?_⟩, fun k hk => ?_⟩
  · obtain ⟨ad, e, hs, hc⟩ := hr hn
    exact ⟨ad, e, hS _ hs, hc⟩
  · obtain ⟨A', n', c', e, hc, hi⟩ := hv k hk
    exact ⟨A', n', c', e, hc, hi.ints hS⟩
theorem ClsP.keep (h : ClsP w S A n ls) (hk : Keep S w w') : ClsP w' S A n ls := by
  obtain ⟨h1, h2, vs, hl, hr, hv⟩ := h
  refine ⟨h1, h2, vs, hl, fun hn => ?_, fun k hkn => ?_⟩
  · obtain ⟨ad, e, hs, hc⟩ := hr hn
    exact ⟨ad, e, hs, fun j u hu => (hk.cell (by rw [block_of_add]; exact hs)).trans (hc j u hu)⟩
  · obtain ⟨A', n', c', e, hc, hi⟩ := hv k hkn
    exact ⟨A', n', c', e, hc, hi.keep hk⟩
theorem ClsP.mono {S' : Nat → Prop} (h : ClsP w S A n ls) (hS : ∀ i, S i → S' i) : ClsP w S' A n ls := by
  obtain ⟨h1, h2, vs, hl, hr, hv⟩ := h
  refine ⟨h1, h2, vs, hl, fun hn => ?_, fun k hkn => ?_⟩
  · obtain ⟨ad, e, hs, hc⟩ := hr hn
    exact ⟨ad, e, hS _ hs, hc⟩
  · obtain ⟨A', n', c', e, hc, hi⟩ := hv k hkn
    exact ⟨A', n', c', e, hc, hi.mono hS⟩
end

theorem getD_cons_drop {α : Type} (l : List α) (k : Nat) (d : α) (h : k < l.length) : l.drop k = l.getD k d :: l.drop (k + 1) := by
  rw [List.drop_eq_getElem_cons h, List.getD_eq_getElem?_getD, List.getElem?_eq_getElem h]; rfl
theorem take_snoc {α : Type} (l : List α) (k : Nat) (d : α) (h : k < l.length) : l.take (k + 1) = l.take k ++ [l.getD k d] := by
  rw [List.take_succ_eq_append_getElem h, List.getD_eq_getElem?_getD, List.getElem?_eq_getElem h]; rfl
end Go.Proofs.YtmncoldaemcnlaaGreatDoor
namespace Go.Proofs.YtmncoldaemcnlaaGreatDoor

def badB (vars x : Int) : Bool := decide (x = 0 ∨ vars < x ∨ x < -vars)
def rightB (zs : List Int) : Bool := zs.all (fun x => !badB 24 x) && decide (zs.length ≤ 60)
theorem badB_t {v x : Int} (h : x = 0 ∨ v < x ∨ x < -v) : badB v x = true := by unfold badB; exact decide_eq_true h
theorem badB_f {v x : Int} (h : ¬ (x = 0 ∨ v < x ∨ x < -v)) : badB v x = false := by unfold badB; exact decide_eq_false h

/-- The first clause that may not be: (code, place); (0, -1): none. -/
def firstBad (vars : Int) : List (List Int) → Nat → Int × Int
  | [], _ => (0, -1)
  | c :: cs, i => if 48 < c.length then (4, (i : Int)) else if c.any (badB vars) then (2, (i : Int)) else firstBad vars cs (i + 1)
def checkF (vars : Int) (ls : List (List Int)) : Int × Int :=
  if vars < 0 ∨ 24 < vars then (2, -1) else if 200 < ls.length then (4, -1) else firstBad vars ls 0
theorem all_of_take {α : Type} (p : α → Bool) (l : List α) (k : Nat) (d : α) (hk : k < l.length) (h : (l.take k).all p = true) (hp : p (l.getD k d) = true) : (l.take (k + 1)).all p = true := by
  rw [take_snoc l k d hk]
  generalize l.getD k d = x at *; simp [List.all_append, h, hp]
theorem all_false_at {α : Type} (p : α → Bool) (l : List α) (k : Nat) (d : α) (hk : k < l.length) (hp : p (l.getD k d) = false) : l.all p = false := by
  rw [List.all_eq_false]
  refine ⟨l.getD k d, ?_, by rw [hp]; simp⟩
  rw [List.getD_eq_getElem?_getD, List.getElem?_eq_getElem hk]; exact List.getElem_mem hk
theorem any_true_at {α : Type} (p : α → Bool) (l : List α) (k : Nat) (d : α) (hk : k < l.length) (hp : p (l.getD k d) = true) : l.any p = true := by
  rw [List.any_eq_true]
  refine ⟨l.getD k d, ?_, hp⟩
  rw [List.getD_eq_getElem?_getD, List.getElem?_eq_getElem hk]; exact List.getElem_mem hk
theorem any_false_take {α : Type} (p : α → Bool) (l : List α) (k : Nat) (d : α) (hk : k < l.length) (h : (l.take k).any p = false) (hp : p (l.getD k d) = false) : (l.take (k + 1)).any p = false := by
  rw [take_snoc l k d hk]
  generalize l.getD k d = x at *; simp [List.any_append, h, hp]
theorem take_all {α : Type} (l : List α) (k : Nat) (h : l.length ≤ k) : l.take k = l := List.take_of_length_le h
theorem firstBad_nil (v : Int) (i : Nat) : firstBad v [] i = (0, -1) := rfl
theorem firstBad_long (v : Int) (ls : List (List Int)) (k : Nat) (hk : k < ls.length) (h : 48 < (ls.getD k []).length) : firstBad v (ls.drop k) k = (4, (k : Int)) := by
  rw [getD_cons_drop ls k [] hk, firstBad, if_pos h]
theorem firstBad_bad (v : Int) (ls : List (List Int)) (k : Nat) (hk : k < ls.length) (h : ¬ 48 < (ls.getD k []).length) (hb : (ls.getD k []).any (badB v) = true) : firstBad v (ls.drop k) k = (2, (k : Int)) := by
  rw [getD_cons_drop ls k [] hk, firstBad, if_neg h, if_pos hb]
theorem firstBad_next (v : Int) (ls : List (List Int)) (k : Nat) (hk : k < ls.length) (h : ¬ 48 < (ls.getD k []).length) (hb : (ls.getD k []).any (badB v) = false) : firstBad v (ls.drop k) k = firstBad v (ls.drop (k + 1)) (k + 1) := by
  rw [getD_cons_drop ls k [] hk, firstBad, if_neg h, if_neg (by rw [hb]; simp)]
theorem checkF_range {v : Int} (ls : List (List Int)) (h : v < 0 ∨ 24 < v) : checkF v ls = (2, -1) := by unfold checkF; rw [if_pos h]
theorem checkF_many {v : Int} {ls : List (List Int)} (h : ¬ (v < 0 ∨ 24 < v)) (hl : 200 < ls.length) : checkF v ls = (4, -1) := by unfold checkF; rw [if_neg h, if_pos hl]
theorem checkF_else {v : Int} {ls : List (List Int)} (h : ¬ (v < 0 ∨ 24 < v)) (hl : ¬ 200 < ls.length) : checkF v ls = firstBad v ls 0 := by unfold checkF; rw [if_neg h, if_neg hl]
end Go.Proofs.YtmncoldaemcnlaaGreatDoor
namespace Go.Proofs.YtmncoldaemcnlaaGreatDoor
open Go.RowKit

def SomeBool (w : World) (e : Ending) (w' : World) : Prop := ∃ b : Bool, e = .returned (.bool b) ∧ w = w'

def withinB (n lo hi : Int) : Bool := decide (lo ≤ n ∧ n ≤ hi)
theorem within_any (n lo hi : Int) (w : World) : Calls Tryz.prog 102 #[.int .i64 n, .int .i64 lo, .int .i64 hi] w fun e w' => e = .returned (.bool (withinB n lo hi)) ∧ w = w' := by
  by_cases h1 : lo ≤ n
  · by_cases h2 : n ≤ hi
    · go_enter Tryz.func102, Tryz.ntmps102
      go_wp2
      go_ret
      exact ⟨ret_bool (by simp [withinB, h1, h2]), rfl⟩
    · go_enter Tryz.func102, Tryz.ntmps102
      go_wp2
      go_ret
      exact ⟨ret_bool (by simp [withinB, h1, h2]), rfl⟩
  · go_enter Tryz.func102, Tryz.ntmps102
    go_wp2
    go_ret
    exact ⟨ret_bool (by unfold withinB; symm; apply decide_eq_false; omega), rfl⟩

end Go.Proofs.YtmncoldaemcnlaaGreatDoor
namespace Go.Proofs.YtmncoldaemcnlaaGreatDoor
open Go.RowKit

def AtLeast0 (w : World) (e : Ending) (w' : World) : Prop := ∃ r : Int, 0 ≤ r ∧ e = .returned (.int .i64 r) ∧ w = w'

end Go.Proofs.YtmncoldaemcnlaaGreatDoor
namespace Go.Proofs.YtmncoldaemcnlaaGreatDoor
open Go.RowKit

/-- The error value v is the fault f: (code, place); (0, -1): nil. -/
def IsErr (w : World) (v : Value) (f : Int × Int) : Prop :=
  (f = (0, -1) ∧ v = .nilIface) ∨ (f.2 = -1 ∧ 1 ≤ f.1 ∧ f.1 ≤ 13 ∧ v = .iface 28 (.int .i64 f.1)) ∨
    ∃ b, b < w.heap.size ∧ 1 ≤ f.1 ∧ f.1 ≤ 13 ∧ 0 ≤ f.2 ∧ v = .iface 138 (.pointer (some ⟨b, 0, none⟩)) ∧ Blk w b 139 #[.int .i64 f.1, .int .i64 f.2]
def GivesErr (w : World) (f : Int × Int) (e : Ending) (w' : World) : Prop := ∃ v, e = .returned v ∧ IsErr w' v f ∧ Below w.heap.size w w'

end Go.Proofs.YtmncoldaemcnlaaGreatDoor
namespace Go.Proofs.YtmncoldaemcnlaaGreatDoor
open Go.RowKit

/-- What the package-level variables hold. -/
structure Glob (w : World) : Prop where
  f0 : w.cell? ⟨1, 0, none⟩ = some (.int .i64 0)
  f1 : w.cell? ⟨1, 1, none⟩ = some (.int .i64 (-1))
  e0 : w.cell? ⟨2, 0, none⟩ = some (.iface 267 (.agg #[.pointer (some ⟨11, 40, none⟩)]))
theorem lt_of_cell {w : World} {a : Addr} {v : Value} (h : w.cell? a = some v) : a.block < w.heap.size := by
  rcases Nat.lt_or_ge a.block w.heap.size with hl | hl
  · exact hl
  · simp [World.cell?, Array.getElem?_eq_none hl] at h
/-- What errors.As leans on. -/
structure GlobE (w : World) : Prop where
  e0 : w.cell? ⟨2, 0, none⟩ = some (.iface 267 (.agg #[.pointer (some ⟨11, 40, none⟩)]))
theorem GlobE.below {w w' : World} (h : GlobE w) (hb : Below w.heap.size w w') : GlobE w' := ⟨(hb.cell (lt_of_cell h.e0)).trans h.e0⟩
theorem Glob.e {w : World} (h : Glob w) : GlobE w := ⟨h.e0⟩
theorem Glob.below {w w' : World} (h : Glob w) (hb : Below w.heap.size w w') : Glob w' :=
  ⟨(hb.cell (lt_of_cell h.f0)).trans h.f0, (hb.cell (lt_of_cell h.f1)).trans h.f1, (hb.cell (lt_of_cell h.e0)).trans h.e0⟩

def faultV (f : Int × Int) : Value := .agg #[.int .i64 f.1, .int .i64 f.2]
def GivesFault (w : World) (f : Int × Int) (e : Ending) (w' : World) : Prop := e = .returned (faultV f) ∧ Below w.heap.size w w'

theorem bare_any (c : Int) (w : World) : Calls Tryz.prog 43 #[.int .i64 c] w fun e w' => e = .returned (.agg #[.int .i64 c, .int .i64 (-1)]) ∧ w.alloc (.cells #[.int .i64 c, .int .i64 (-1)] 30) = w' := by
  go_enter Tryz.func43, Tryz.ntmps43
  go_wp2
  exact bodyPost_ret (v := .agg #[.int .i64 c, .int .i64 (-1)]) (by simp [results, Tryz.results43, go_sem]) rfl ⟨rfl, rfl⟩

end Go.Proofs.YtmncoldaemcnlaaGreatDoor
