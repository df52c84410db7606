/-
  A part of the proof: LnRow, Calm. Conditions: none.
-/
import Derived.Test.YtmncoldaemcnlaaGreatDoorCmRowK
import Derived.Test.YtmncoldaemcnlaaGreatDoorCmTrimLay
import Derived.Test.YtmncoldaemcnlaaGreatDoorCmCatLaw
import Derived.Test.YtmncoldaemcnlaaGreatDoorCmFr
import Derived.Deep.QuietTactic
import Derived.BigQuiet
namespace Go.Proofs.YtmncoldaemcnlaaGreatDoor
open Go.RowKit
abbrev LnQ := LnR × (Option Addr × Nat × Nat)
def slQ (q : LnQ) : Value := .slice q.2.1 q.2.2.1 q.2.2.2
def lnF (q : LnQ) : List Value := [.int .i64 q.1.k, .string q.1.name, .int .i64 (q.1.ver 0), .int .i64 (q.1.ver 1), .int .i64 (q.1.ver 2), .string q.1.other, .slice q.2.1 q.2.2.1 q.2.2.2]
theorem lnF_one (q : LnQ) : ∀ u ∈ lnF q, u.oneCell' = true := by
 intro u hu
 simp only [lnF, List.mem_cons, List.not_mem_nil, or_false] at hu
 rcases hu with rfl | rfl | rfl | rfl | rfl | rfl | rfl <;> rfl
def elR : ElK LnQ := ⟨27, 7, lnF, by decide, fun _ => rfl, lnF_one⟩
def elP : ElK LnQ := ⟨38, 7, lnF, by decide, fun _ => rfl, lnF_one⟩
def itF (a : ItR) : List Value := [.string a.1, .int .i64 a.2.1, .int .i64 a.2.2.1, .int .i64 a.2.2.2]
theorem itF_one (a : ItR) : ∀ u ∈ itF a, u.oneCell' = true := by
 intro u hu
 simp only [itF, List.mem_cons, List.not_mem_nil, or_false] at hu
 rcases hu with rfl | rfl | rfl | rfl <;> rfl
def elI : ElK ItR := ⟨84, 4, itF, by decide, fun _ => rfl, itF_one⟩
def elJ : ElK ItR := ⟨86, 4, itF, by decide, fun _ => rfl, itF_one⟩
theorem lineRInfo : (Tryz.prog.info? 27).map (fun i => (i.zero, i.size, i.bytes)) = some (some (.agg #[.int .i64 0, .string ⟨#[]⟩, .int .i64 0, .int .i64 0, .int .i64 0, .string ⟨#[]⟩, .slice none 0 0]), 7, 88) := by kernel_rfl
theorem linePInfo : (Tryz.prog.info? 38).map (fun i => (i.zero, i.size, i.bytes)) = some (some (.agg #[.int .i64 0, .string ⟨#[]⟩, .int .i64 0, .int .i64 0, .int .i64 0, .string ⟨#[]⟩, .slice none 0 0]), 7, 88) := by kernel_rfl
theorem itemIInfo : (Tryz.prog.info? 84).map (fun i => (i.zero, i.size, i.bytes)) = some (some (.agg #[.string ⟨#[]⟩, .int .i64 0, .int .i64 0, .int .i64 0]), 4, 40) := by kernel_rfl
theorem itemJInfo : (Tryz.prog.info? 86).map (fun i => (i.zero, i.size, i.bytes)) = some (some (.agg #[.string ⟨#[]⟩, .int .i64 0, .int .i64 0, .int .i64 0]), 4, 40) := by kernel_rfl
structure LnOk (x : LnR) : Prop where
 can : CanF 0 x.rg
 k : I64 x.k
 v : ∀ j, j < 3 → I64 (x.ver j)
 nm : x.name.size ≤ 21000
 ot : x.other.size ≤ 21000
theorem LnOk.len {x : LnR} (h : LnOk x) : x.rg.length ≤ 1000000000 := can_len h.can
def LnsR (w : World) (base : Nat) (v : Value) (qs : List LnQ) : Prop := OwnK elR w base v qs ∧ ∀ q ∈ qs, OwnI w 0 (slQ q) (flatI q.1.rg) ∧ LnOk q.1
def LnsP (w : World) (base : Nat) (v : Value) (qs : List LnQ) : Prop := OwnK elP w base v qs ∧ ∀ q ∈ qs, OwnP w 0 (slQ q) q.1.rg ∧ LnOk q.1
theorem apart_rows {w : World} {b b' s s' n n' : Nat} {e e' : TypeId} {v v' : Value} {xs xs' : List Value} (h : w.ownsRow b e s v n xs) (h' : w.ownsRow b' e' s' v' n' xs') (hne : e ≠ e') : v.ownBlock = none ∨ v.ownBlock ≠ v'.ownBlock := by
 rcases h.2 with ⟨rfl, _⟩ | ⟨g, cap, cur, rfl, _, hg, _⟩
 ·exact .inl rfl
 ·rcases h'.2 with ⟨rfl, _⟩ | ⟨g', cap', cur', rfl, _, hg', _⟩
  ·exact .inr (by simp [Value.ownBlock])
  ·refine .inr fun e9 => ?_
   have e8 : g = g' := Option.some.inj e9
   subst e8
   exact Blk.ne_ (t := e) (t' := e') hg hg' hne rfl
section
variable {w w' : World} {base base' : Nat} {v : Value} {qs : List LnQ}
theorem LnsR.below (h : LnsR w base v qs) (hb : Below w.heap.size w w') : LnsR w' base v qs := ⟨h.1.below hb, fun q hq => ⟨OwnI.below (h.2 q hq).1 hb, (h.2 q hq).2⟩⟩
theorem LnsP.below (h : LnsP w base v qs) (hb : Below w.heap.size w w') : LnsP w' base v qs := ⟨h.1.below hb, fun q hq => ⟨(h.2 q hq).1.below hb, (h.2 q hq).2⟩⟩
theorem LnsR.mono (h : LnsR w base v qs) (hb : base' ≤ base) : LnsR w base' v qs := ⟨h.1.mono hb, h.2⟩
theorem LnsP.mono (h : LnsP w base v qs) (hb : base' ≤ base) : LnsP w base' v qs := ⟨h.1.mono hb, h.2⟩
theorem lnsR_nil (w : World) (base : Nat) : LnsR w base (.slice none 0 0) [] := ⟨ownK_nil _ _ _, fun _ h => absurd h List.not_mem_nil⟩
theorem lnsP_nil (w : World) (base : Nat) : LnsP w base (.slice none 0 0) [] := ⟨ownK_nil _ _ _, fun _ h => absurd h List.not_mem_nil⟩
theorem LnsR.app {v' : Value} {q : LnQ} (h : LnsR w base v qs) (ho : OwnI w 0 (slQ q) (flatI q.1.rg)) (hk : LnOk q.1) (h' : OwnK elR w' base v' (qs ++ [q])) (hg : w.grownBy w' v.ownBlock) : LnsR w' base v' (qs ++ [q]) := by
 refine ⟨h', fun p hp => ?_⟩
 have key : ∀ p : LnQ, OwnI w 0 (slQ p) (flatI p.1.rg) → OwnI w' 0 (slQ p) (flatI p.1.rg) := fun p h9 => OwnI.kept h9 hg (apart_rows h9 h.1 (by decide))
 rcases List.mem_append.1 hp with hp | hp
 ·exact ⟨key p (h.2 p hp).1, (h.2 p hp).2⟩
 ·rw [List.mem_singleton.1 hp]; exact ⟨key q ho, hk⟩
theorem LnsP.app {v' : Value} {q : LnQ} (h : LnsP w base v qs) (ho : OwnP w 0 (slQ q) q.1.rg) (hk : LnOk q.1) (h' : OwnK elP w' base v' (qs ++ [q])) (hg : w.grownBy w' v.ownBlock) : LnsP w' base v' (qs ++ [q]) := by
 refine ⟨h', fun p hp => ?_⟩
 have key : ∀ p : LnQ, OwnP w 0 (slQ p) p.1.rg → OwnP w' 0 (slQ p) p.1.rg := fun p h9 => OwnP.kept h9 hg (apart_rows h9 h.1 (by decide))
 rcases List.mem_append.1 hp with hp | hp
 ·exact ⟨key p (h.2 p hp).1, (h.2 p hp).2⟩
 ·rw [List.mem_singleton.1 hp]; exact ⟨key q ho, hk⟩
end
theorem row7 {E : ElK LnQ} (hK : E.K = 7) (hf : E.f = lnF) {w : World} {g : Nat} {qs : List LnQ} (h : RowK E w g qs) {k : Nat} (hk : k < qs.length) :
  w.cell? ⟨g, k * 7, none⟩ = some (.int .i64 qs[k].1.k) ∧ w.cell? ⟨g, k * 7 + 1, none⟩ = some (.string qs[k].1.name) ∧ w.cell? ⟨g, k * 7 + 2, none⟩ = some (.int .i64 (qs[k].1.ver 0)) ∧ w.cell? ⟨g, k * 7 + 3, none⟩ = some (.int .i64 (qs[k].1.ver 1)) ∧
  w.cell? ⟨g, k * 7 + 4, none⟩ = some (.int .i64 (qs[k].1.ver 2)) ∧ w.cell? ⟨g, k * 7 + 5, none⟩ = some (.string qs[k].1.other) ∧ w.cell? ⟨g, k * 7 + 6, none⟩ = some (.slice qs[k].2.1 qs[k].2.2.1 qs[k].2.2.2) := by
 have key : ∀ j, j < 7 → w.cell? ⟨g, k * 7 + j, none⟩ = (lnF qs[k])[j]? := fun j hj => by
  have := h.cell hk (j := j) (by omega)
  rw [hK, hf] at this
  exact this
 exact ⟨key 0 (by omega), key 1 (by omega), key 2 (by omega), key 3 (by omega), key 4 (by omega), key 5 (by omega), key 6 (by omega)⟩
theorem row4 {E : ElK ItR} (hK : E.K = 4) (hf : E.f = itF) {w : World} {g : Nat} {l : List ItR} (h : RowK E w g l) {k : Nat} (hk : k < l.length) :
  w.cell? ⟨g, k * 4, none⟩ = some (.string l[k].1) ∧ w.cell? ⟨g, k * 4 + 1, none⟩ = some (.int .i64 l[k].2.1) ∧ w.cell? ⟨g, k * 4 + 2, none⟩ = some (.int .i64 l[k].2.2.1) ∧ w.cell? ⟨g, k * 4 + 3, none⟩ = some (.int .i64 l[k].2.2.2) := by
 have key : ∀ j, j < 4 → w.cell? ⟨g, k * 4 + j, none⟩ = (itF l[k])[j]? := fun j hj => by
  have := h.cell hk (j := j) (by omega)
  rw [hK, hf] at this
  exact this
 exact ⟨key 0 (by omega), key 1 (by omega), key 2 (by omega), key 3 (by omega)⟩
end Go.Proofs.YtmncoldaemcnlaaGreatDoor
namespace Go.Proofs.YtmncoldaemcnlaaGreatDoor
open Go.RowKit
structure Calm (w : World) where
 val : World
 bel : Below w.heap.size w val
instance calmThere (w : World) : Nonempty (Calm w) := ⟨⟨w, Below.refl _ _⟩⟩
theorem Calm.cell {w : World} (c : Calm w) {g i : Nat} (hg : g < w.heap.size) : c.val.cell? ⟨g, i, none⟩ = w.cell? ⟨g, i, none⟩ := c.bel.cell (p := ⟨g, i, none⟩) hg
theorem Calm.on {w w' : World} (c : Calm w) (hb : Below c.val.heap.size c.val w') : ∃ c' : Calm w, w' = c'.val := ⟨⟨w', c.bel.trans (hb.mono c.bel.size)⟩, rfl⟩
theorem wp_region_calm {P : Program} {id : Nat} {Q : Exit → Act → World → Prop} {a : Act} {w : World} {l : List Oper} (hm : P.follows .mixedOrders = true) (hB : Region.lexB .any l.toArray = true)
  (h : wpQuiet P l.toArray (fun w' => ∃ c : Calm w, w' = c.val) (fun a' => ∀ w', (∃ c : Calm w, w' = c.val) → Q .normal a' w') l a) : (Code.region id l.toArray true).wp P Q a w :=
 wp_region_quiet (C := fun w' => ∃ c : Calm w, w' = c.val) hm hB ⟨⟨w.drew, (Below.refl _ w).drew⟩, rfl⟩ (by simpa using h)
end Go.Proofs.YtmncoldaemcnlaaGreatDoor
