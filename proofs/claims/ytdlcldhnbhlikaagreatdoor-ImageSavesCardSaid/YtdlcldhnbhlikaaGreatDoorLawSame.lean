/-
  The law BddSame, walked.
-/
import Derived.Test.YtdlcldhnbhlikaaGreatDoorMade
import Derived.Test.YtdlcldhnbhlikaaGreatDoorBddTabM
import Derived.Test.YtdlcldhnbhlikaaGreatDoorAt
namespace Go.Proofs.YtdlcldhnbhlikaaGreatDoor
open Go.RowKit Go.Maps

/-- What made hands back, as rows: handles and tables. -/
structure RowsI (w : World) (vn n sz : Nat) (q : Nat → Four) (S B gn gu gt gc L g g' : Nat) (A : Ar) (hs : List Int) (gs : List Nat) (w1 : World) : Prop where
  sp : SpM w1 S B gn gu gt gc (vn : Int) A 0
  ok : HsOk A hs (funsN vn q n)
  hl : hs.length = L
  gl : gs.length = L
  len : L = n + 2
  pw : 2 ^ vn = sz
  h : ∀ k, k < L → w1.cell? ⟨g, k, none⟩ = some (.int .i64 (hs.getD k 0))
  t : ∀ k, k < L → w1.cell? ⟨g', k, none⟩ = some (tabV sz (gs.getD k 0))
  tab : Tabs w1 w.heap.size sz gs ((funsN vn q n).map (tabF sz))
  own : ∀ k, spB B gn gu gt gc k ∨ k = S → w.heap.size ≤ k
  lt : g < w1.heap.size ∧ g' < w1.heap.size
  bel : Below w.heap.size w w1
theorem MdI.rows {w w1 : World} {vn n : Nat} {q : Nat → Four} {S B gn gu gt gc : Nat} {vh vt : Value} (h : MdI w vn n q S B gn gu gt gc vh vt w1) :
    ∃ sz L g g' c c' A hs gs, vh = .slice (some ⟨g, 0, none⟩) L c ∧ vt = .slice (some ⟨g', 0, none⟩) L c' ∧ RowsI w vn n sz q S B gn gu gt gc L g g' A hs gs w1 := by
  obtain ⟨A, hs, h1, h2, h3⟩ := h.is
  obtain ⟨gs, h4, h5⟩ := h.tab
  have e1 : hs.length = n + 2 := h2.len.trans (funs_len vn q n)
  have e2 : gs.length = n + 2 := by have := h5.len; rw [List.length_map, funs_len] at this; exact this
  obtain ⟨g, c, cur, rfl, _, k1, _, f1⟩ := h3.form (by omega)
  obtain ⟨g', c', cur', rfl, _, k2, _, f2⟩ := h4.form (by omega)
  refine ⟨_, n + 2, g, g', c, c', A, hs, gs, by rw [e1], by rw [e2], ⟨h1, h2, e1, e2, rfl, rfl, fun k hk => (k1.cell k).trans (f1 k (by omega)), fun k hk => (k2.cell k).trans (f2 k (by omega)), h5, h.own, ⟨k1.lt, k2.lt⟩, h.bel⟩⟩
section
variable {w w1 : World} {vn n sz : Nat} {q : Nat → Four} {S B gn gu gt gc L g g' : Nat} {A : Ar} {hs : List Int} {gs : List Nat}
theorem RowsI.below {w2 : World} (h : RowsI w vn n sz q S B gn gu gt gc L g g' A hs gs w1) (hb : Below w1.heap.size w1 w2) : RowsI w vn n sz q S B gn gu gt gc L g g' A hs gs w2 :=
  ⟨h.sp.below hb, h.ok, h.hl, h.gl, h.len, h.pw, fun k hk => (hb.cell (p := ⟨g, k, none⟩) h.lt.1).trans (h.h k hk), fun k hk => (hb.cell (p := ⟨g', k, none⟩) h.lt.2).trans (h.t k hk), h.tab.below hb, h.own,
    ⟨Nat.lt_of_lt_of_le h.lt.1 hb.size, Nat.lt_of_lt_of_le h.lt.2 hb.size⟩, h.bel.trans (hb.mono h.bel.size)⟩
/-- A function of the list. -/
def funN (vn : Nat) (q : Nat → Four) (n k : Nat) : FnB := (funsN vn q n).getD k fn0
theorem RowsI.tabk (h : RowsI w vn n sz q S B gn gu gt gc L g g' A hs gs w1) {k : Nat} (hk : k < L) : Blk w1 (gs.getD k 0) 4 (boolArr (tabF sz (funN vn q n k))) := by
  obtain ⟨_, h1, _⟩ := h.tab.is k (by rw [h.gl]; exact hk)
  have e : ((funsN vn q n).map (tabF sz)).getD k [] = tabF sz (funN vn q n k) := by
    unfold funN
    rw [List.getD_eq_getElem?_getD, List.getElem?_map, List.getD_eq_getElem?_getD, List.getElem?_eq_getElem (by rw [funs_len, ← h.len]; exact hk)]
    rfl
  rw [← e]
  exact h1
theorem RowsI.hask (h : RowsI w vn n sz q S B gn gu gt gc L g g' A hs gs w1) {k : Nat} (hk : k < L) : hasA A (hs.getD k 0) = true := h.ok.has k (by rw [h.hl]; exact hk)
theorem RowsI.denk (h : RowsI w vn n sz q S B gn gu gt gc L g g' A hs gs w1) {k : Nat} (hk : k < L) (u : Int → Bool) : den A (hs.getD k 0) u = funN vn q n k u := h.ok.den k (by rw [h.hl]; exact hk) u
theorem RowsI.same (h : RowsI w vn n sz q S B gn gu gt gc L g g' A hs gs w1) {i k : Nat} (hi : i < L) (hk : k < L) : (hs.getD i 0 == hs.getD k 0) = decide (tabF sz (funN vn q n i) = tabF sz (funN vn q n k)) := by
  have h1 := same_iff h.sp.sp (h.hask hi) (h.hask hk) (h.denk hi) (h.denk hk)
  rw [h.pw] at h1
  by_cases h2 : tabF sz (funN vn q n i) = tabF sz (funN vn q n k)
  · rw [decide_eq_true h2, h1.2 h2]; simp
  · rw [decide_eq_false h2]
    simpa using fun e => h2 (h1.1 e)
end
end Go.Proofs.YtdlcldhnbhlikaaGreatDoor
