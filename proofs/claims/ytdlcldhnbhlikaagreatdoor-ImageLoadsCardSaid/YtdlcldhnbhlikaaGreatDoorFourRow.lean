/-
  A row of structs of four ints, that is there to be read.
-/
import Derived.Test.YtdlcldhnbhlikaaGreatDoorFind
namespace Go.Proofs.YtdlcldhnbhlikaaGreatDoor
open Go.RowKit

structure Four where
  what : Int
  a : Int
  b : Int
  c : Int
instance fourThere : Inhabited Four := ⟨⟨0, 0, 0, 0⟩⟩
structure FourOk (d : Four) : Prop where
  what : I64 d.what
  a : I64 d.a
  b : I64 d.b
  c : I64 d.c
/-- A row of four ints each, that is there to be read. -/
def FourP (w : World) (A : Option Addr) (n : Nat) (q : Nat → Four) : Prop :=
  (∀ k, k < n → FourOk (q k)) ∧ (0 < n → ∃ ad, A = some ad ∧ ad.block < w.heap.size ∧ ∀ k, k < n → w.cell? (ad.add (k * 4)) = some (.int .i64 (q k).what) ∧
    w.cell? ⟨(ad.add (k * 4)).block, (ad.add (k * 4)).off + 1, none⟩ = some (.int .i64 (q k).a) ∧ w.cell? ⟨(ad.add (k * 4)).block, (ad.add (k * 4)).off + 2, none⟩ = some (.int .i64 (q k).b) ∧
    w.cell? ⟨(ad.add (k * 4)).block, (ad.add (k * 4)).off + 3, none⟩ = some (.int .i64 (q k).c))
theorem FourP.at_ {w wr : World} {A : Option Addr} {n k : Nat} {q : Nat → Four} (h : FourP w A n q) (hb : Below w.heap.size w wr) (hk : k < n) : ∃ ad, A = some ad ∧ FourOk (q k) ∧ wr.cell? (ad.add (k * 4)) = some (.int .i64 (q k).what) ∧
    wr.cell? ⟨(ad.add (k * 4)).block, (ad.add (k * 4)).off + 1, none⟩ = some (.int .i64 (q k).a) ∧ wr.cell? ⟨(ad.add (k * 4)).block, (ad.add (k * 4)).off + 2, none⟩ = some (.int .i64 (q k).b) ∧
    wr.cell? ⟨(ad.add (k * 4)).block, (ad.add (k * 4)).off + 3, none⟩ = some (.int .i64 (q k).c) := by
  obtain ⟨ad, e, hlt, hc⟩ := h.2 (by omega)
  obtain ⟨c0, c1, c2, c3⟩ := hc k hk
  have hbk : (ad.add (k * 4)).block < w.heap.size := by rw [block_of_add]; exact hlt
  exact ⟨ad, e, h.1 k hk, (hb.cell hbk).trans c0, (hb.cell (p := ⟨(ad.add (k * 4)).block, (ad.add (k * 4)).off + 1, none⟩) hbk).trans c1, (hb.cell (p := ⟨(ad.add (k * 4)).block, (ad.add (k * 4)).off + 2, none⟩) hbk).trans c2, (hb.cell (p := ⟨(ad.add (k * 4)).block, (ad.add (k * 4)).off + 3, none⟩) hbk).trans c3⟩
theorem FourP.below {w w' : World} {A : Option Addr} {n : Nat} {q : Nat → Four} (h : FourP w A n q) (hb : Below w.heap.size w w') : FourP w' A n q := by
  refine ⟨h.1, fun hn => ?_⟩
  obtain ⟨ad, e, hlt, hc⟩ := h.2 hn
  refine ⟨ad, e, Nat.lt_of_lt_of_le hlt hb.size, fun k hk => ?_⟩
  obtain ⟨ad', e', _, r⟩ := h.at_ hb hk
  rw [e] at e'
  cases e'
  exact r
end Go.Proofs.YtdlcldhnbhlikaaGreatDoor
