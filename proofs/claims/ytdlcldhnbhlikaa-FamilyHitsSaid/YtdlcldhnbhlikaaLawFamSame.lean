/-
  The law FamilySame, walked.
-/
import Derived.Test.YtdlcldhnbhlikaaFamSets
import Derived.Test.YtdlcldhnbhlikaaOwnU
import Derived.Test.YtdlcldhnbhlikaaRefSets
namespace Go.Proofs.Ytdlcldhnbhlikaa
open Go.RowKit Go.Maps

def LawP (w : World) (b : Bool) (e : Ending) (w' : World) : Prop := e = .returned (.bool b) ∧ Below w.heap.size w w'
theorem bel_dr {u w : World} (h : Below u.heap.size u w) : Below u.heap.size u w.drew := h.drew
theorem bel_then {u X Y : World} (h : Below u.heap.size u X) (k : Below X.heap.size X Y) : Below u.heap.size u Y := h.trans (k.mono h.size)
/-- What sets handed back, as rows: handles and families. -/
structure SetR (w : World) (vn n : Nat) (q : Nat → Four) (S B gn gu gt L g g' : Nat) (A : Ar) (hs : List Int) (gs : List Nat) (w1 : World) : Prop where
  sp : FsM w1 S B gn gu gt (vn : Int) A
  ok : HsZ A hs (famsN vn q n)
  hl : hs.length = L
  gl : gs.length = L
  len : L = n + 2
  h : ∀ k, k < L → w1.cell? ⟨g, k, none⟩ = some (.int .i64 (hs.getD k 0))
  t : ∀ k, k < L → w1.cell? ⟨g', k, none⟩ = some (mapV (gs.getD k 0))
  fam : Fams w1 w.heap.size gs (famsN vn q n)
  low : low3 A ≤ 42 * n
  own : ∀ k, arB B gn gu gt k ∨ k = S → w.heap.size ≤ k
  lt : g < w1.heap.size ∧ g' < w1.heap.size
  bel : Below w.heap.size w w1
theorem SsI.rows {w w1 : World} {vn n : Nat} {q : Nat → Four} {S B gn gu gt : Nat} {vh vf : Value} (h : SsI w vn n q S B gn gu gt vh vf w1) :
    ∃ L g g' c c' A hs gs, vh = .slice (some ⟨g, 0, none⟩) L c ∧ vf = .slice (some ⟨g', 0, none⟩) L c' ∧ SetR w vn n q S B gn gu gt L g g' A hs gs w1 := by
  obtain ⟨A, hs, h1, h2, h3, h0⟩ := h.is
  obtain ⟨gs, h4, h5⟩ := h.fam
  have e1 : hs.length = n + 2 := h2.len.trans (fams_len vn q n)
  have e2 : gs.length = n + 2 := h5.len.trans (fams_len vn q n)
  obtain ⟨g, c, cur, rfl, _, k1, _, f1⟩ := h3.form (by omega)
  obtain ⟨g', c', cur', rfl, _, k2, _, f2⟩ := h4.form (by omega)
  refine ⟨n + 2, g, g', c, c', A, hs, gs, by rw [e1], by rw [e2], ⟨h1, h2, e1, e2, rfl, fun k hk => (k1.cell k).trans (f1 k (by omega)), fun k hk => (k2.cell k).trans (f2 k (by omega)), h5, h0, h.own, ⟨k1.lt, k2.lt⟩, h.bel⟩⟩
/-- A family of the list. -/
noncomputable def famF (vn : Nat) (q : Nat → Four) (n k : Nat) : FamB := (famsN vn q n).getD k fm0
section
variable {w w1 : World} {vn n : Nat} {q : Nat → Four} {S B gn gu gt L g g' : Nat} {A : Ar} {hs : List Int} {gs : List Nat}
theorem SetR.below {w2 : World} (h : SetR w vn n q S B gn gu gt L g g' A hs gs w1) (hb : Below w1.heap.size w1 w2) : SetR w vn n q S B gn gu gt L g g' A hs gs w2 :=
  ⟨h.sp.below hb, h.ok, h.hl, h.gl, h.len, fun k hk => (hb.cell (p := ⟨g, k, none⟩) h.lt.1).trans (h.h k hk), fun k hk => (hb.cell (p := ⟨g', k, none⟩) h.lt.2).trans (h.t k hk), h.fam.below hb, h.low, h.own,
    ⟨Nat.lt_of_lt_of_le h.lt.1 hb.size, Nat.lt_of_lt_of_le h.lt.2 hb.size⟩, h.bel.trans (hb.mono h.bel.size)⟩
theorem SetR.map (h : SetR w vn n q S B gn gu gt L g g' A hs gs w1) {k : Nat} (hk : k < L) : MapU w1 (gs.getD k 0) (famF vn q n k) := (h.fam.is k (by rw [h.gl]; exact hk)).2
theorem SetR.hask (h : SetR w vn n q S B gn gu gt L g g' A hs gs w1) {k : Nat} (hk : k < L) : hasA A (hs.getD k 0) = true := h.ok.has k (by rw [h.hl]; exact hk)
theorem SetR.famk (h : SetR w vn n q S B gn gu gt L g g' A hs gs w1) {k : Nat} (hk : k < L) (s : Nat) : Go.Proofs.Ytdlcldhnbhlikaa.fam A (hs.getD k 0) s = famF vn q n k s := h.ok.fam k (by rw [h.hl]; exact hk) s
/-- MINATO: the handles are the same just if the families are. -/
theorem SetR.same (h : SetR w vn n q S B gn gu gt L g g' A hs gs w1) {i k : Nat} (hi : i < L) (hk : k < L) : (hs.getD i 0 == hs.getD k 0) = decide (setsL (famF vn q n i) = setsL (famF vn q n k)) := by
  have hj := sets_inj (fun s e => (h.map hi).dom e) (fun s e => (h.map hk).dom e)
  by_cases h2 : famF vn q n i = famF vn q n k
  · have e : hs.getD i 0 = hs.getD k 0 := fam_inj h.sp.sp.wf h.sp.sp.red (dep A (hs.getD i 0) + dep A (hs.getD k 0)) _ _ (by omega) (by omega) (h.hask hi) (h.hask hk) fun s => by rw [h.famk hi, h.famk hk, h2]
    rw [decide_eq_true (hj.2 h2), e]; simp
  · rw [decide_eq_false fun e => h2 (hj.1 e)]
    have : hs.getD i 0 ≠ hs.getD k 0 := fun e => h2 (funext fun s => by rw [← h.famk hi, ← h.famk hk, e])
    simpa using this
end
end Go.Proofs.Ytdlcldhnbhlikaa
