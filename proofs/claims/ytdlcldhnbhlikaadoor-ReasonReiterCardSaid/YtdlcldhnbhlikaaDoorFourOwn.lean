/-
  plain's Functions. Rows of plain steps (four ints each) of the call's own; bdd.New. The law's copy of plain steps as the document's: an append of one step, and what the loop holds.
-/
import Derived.Test.YtdlcldhnbhlikaaDoorBddFunP
import Derived.Deep.RegionHeld3
import Derived.Test.YtdlcldhnbhlikaaDoorBddTabM
namespace Go.Proofs.YtdlcldhnbhlikaaDoor
open Go.RowKit Go.Maps

theorem ownI_two (w : World) (base : Nat) (hb : base ≤ w.heap.size) : OwnI (w.alloc (.cells #[.int .i64 0, .int .i64 1] 3)) base (.slice (some ⟨w.heap.size, 0, none⟩) 2 2) [0, 1] :=
  ⟨rfl, .inr ⟨w.heap.size, 2, #[.int .i64 0, .int .i64 1], rfl, hb, Blk.new w _ _, Nat.le_refl _, by simp [maxLen], rfl, rfl⟩⟩
end Go.Proofs.YtdlcldhnbhlikaaDoor
namespace Go.Proofs.YtdlcldhnbhlikaaDoor
open Go.RowKit Go.Maps

def fourV (q : Four) : List Value := [.int .i64 q.what, .int .i64 q.a, .int .i64 q.b, .int .i64 q.c]
def foursV (qs : List Four) : List Value := qs.flatMap fourV
theorem foursV_len : ∀ qs : List Four, (foursV qs).length = qs.length * 4
  | [] => rfl
  | q :: qs => by
    show (fourV q ++ foursV qs).length = _
    rw [List.length_append, foursV_len qs, List.length_cons]
    show 4 + _ = _
    omega
theorem foursV_at : ∀ (qs : List Four) (k j : Nat), k < qs.length → j < 4 → (foursV qs)[k * 4 + j]? = (fourV (qs.getD k default))[j]?
  | [], k, j, h, _ => absurd h (Nat.not_lt_zero k)
  | q :: qs, 0, j, _, hj => by
    show (fourV q ++ foursV qs)[0 * 4 + j]? = _
    rw [List.getElem?_append_left (by show 0 * 4 + j < 4; omega), Nat.zero_mul, Nat.zero_add]
    rfl
  | q :: qs, k + 1, j, h, hj => by
    show (fourV q ++ foursV qs)[(k + 1) * 4 + j]? = _
    rw [List.getElem?_append_right (by show 4 ≤ (k + 1) * 4 + j; omega), show (k + 1) * 4 + j - (fourV q).length = k * 4 + j by show (k + 1) * 4 + j - 4 = _; omega, foursV_at qs k j (by simp at h; omega) hj]
    rfl
section
variable {w w' : World} {base : Nat} {v : Value} {qs : List Four}
end
/-- An empty arena of 4000. -/
theorem spA_empty (vars : Int) : SpA (emptyA 4000) vars := by
  refine ⟨wf_empty 4000, ?_, ?_, List.length_replicate ..⟩
  · intro k n e
    rw [got_empty] at e
    cases e
  · intro k n e
    rw [got_empty] at e
    cases e
theorem low3_empty : low3 (emptyA 4000) = 0 := by
  unfold low3 numV
  refine List.length_eq_zero_iff.2 (List.eq_nil_iff_forall_not_mem.2 fun x hx => ?_)
  obtain ⟨m, e, _⟩ := mem_atV.1 hx
  have hn : (emptyA 4000).getD x none = none := by
    unfold emptyA
    rw [List.getD_eq_getElem?_getD, List.getElem?_replicate]
    split <;> rfl
  rw [hn] at e
  cases e
end Go.Proofs.YtdlcldhnbhlikaaDoor
namespace Go.Proofs.YtdlcldhnbhlikaaDoor
open Go.RowKit Go.Maps

theorem results_tmp4 {fn : Func} {t u v x : Tmp} (h : fn.results = #[.tmp t, .tmp u, .tmp v, .tmp x]) (tmps : Array Value) (P : Program) (w : World) :
    (results fn tmps).run P w = .ok (.tuple #[tmps.getD t undef, tmps.getD u undef, tmps.getD v undef, tmps.getD x undef]) w := by
  simp [results, h]
theorem fours_get {q : Nat → Four} {n k : Nat} (hk : k < n) : ((List.range n).map q).getD k default = q k := by
  rw [List.getD_eq_getElem?_getD, List.getElem?_map, List.getElem?_range hk]
  rfl
theorem FourP.swap {w : World} {A : Option Addr} {n : Nat} {q q' : Nat → Four} (h : FourP w A n q) (he : ∀ k, k < n → q k = q' k) : FourP w A n q' := by
  refine ⟨fun k hk => by rw [← he k hk]; exact h.1 k hk, fun hn => ?_⟩
  obtain ⟨ad, e, hlt, hc⟩ := h.2 hn
  exact ⟨ad, e, hlt, fun k hk => by rw [← he k hk]; exact hc k hk⟩
theorem FourP.fr {S : Nat → Prop} {w w' : World} {A : Option Addr} {n : Nat} {q : Nat → Four} (h : FourP w A n q) (hf : Fr S w w') (hn : ∀ ad, A = some ad → ¬ S ad.block) : FourP w' A n q := by
  refine ⟨h.1, fun h0 => ?_⟩
  obtain ⟨ad, e, hlt, hc⟩ := h.2 h0
  have hS := hn ad e
  have each : ∀ p : Addr, p.block = ad.block → w'.cell? p = w.cell? p := fun p hp => hf.cell (by rw [hp]; exact hlt) (by rw [hp]; exact hS)
  refine ⟨ad, e, Nat.lt_of_lt_of_le hlt hf.size, fun k hk => ?_⟩
  obtain ⟨c0, c1, c2, c3⟩ := hc k hk
  refine ⟨?_, ?_, ?_, ?_⟩
  · rw [each _ (block_of_add ad (k * 4))]; exact c0
  · rw [each ⟨(ad.add (k * 4)).block, (ad.add (k * 4)).off + 1, none⟩ (block_of_add ad (k * 4))]; exact c1
  · rw [each ⟨(ad.add (k * 4)).block, (ad.add (k * 4)).off + 2, none⟩ (block_of_add ad (k * 4))]; exact c2
  · rw [each ⟨(ad.add (k * 4)).block, (ad.add (k * 4)).off + 3, none⟩ (block_of_add ad (k * 4))]; exact c3
theorem keep4 {w w' : World} {a : Addr} {x0 x1 x2 x3 : Value} (h : w.cell? a = some x0 ∧ w.cell? ⟨a.block, a.off + 1, none⟩ = some x1 ∧ w.cell? ⟨a.block, a.off + 2, none⟩ = some x2 ∧ w.cell? ⟨a.block, a.off + 3, none⟩ = some x3) (hb : Below w.heap.size w w') :
    w'.cell? a = some x0 ∧ w'.cell? ⟨a.block, a.off + 1, none⟩ = some x1 ∧ w'.cell? ⟨a.block, a.off + 2, none⟩ = some x2 ∧ w'.cell? ⟨a.block, a.off + 3, none⟩ = some x3 := by
  have hl := World.block_lt_of_cell? w _ h.1
  exact ⟨(hb.cell hl).trans h.1, (hb.cell (p := ⟨a.block, a.off + 1, none⟩) hl).trans h.2.1, (hb.cell (p := ⟨a.block, a.off + 2, none⟩) hl).trans h.2.2.1, (hb.cell (p := ⟨a.block, a.off + 3, none⟩) hl).trans h.2.2.2⟩
end Go.Proofs.YtdlcldhnbhlikaaDoor
