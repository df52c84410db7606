/-
  The plain law of Follow: steps of a resolution; no program in sight. And how a slice of steps lies in memory.
-/
import Derived.Test.YtkkgdlfjblmbjaaGreatDoorFormPure
import Derived.Test.YtkkgdlfjblmbjaaGreatDoorRefSolM
namespace Go.Proofs.YtkkgdlfjblmbjaaGreatDoor
open Go.RowKit

abbrev Stp3 := Int × Int × Int
def outB (all : List (List Int)) (x : Int) : Prop := x < 0 ∨ (all.length : Int) ≤ x
noncomputable def folGo (all : List (List Int)) : List Stp3 → Nat → List (List Int) × (Int × Int)
  | [], _ => (all, (0, -1))
  | (a, b, v) :: r, i =>
    if a < 0 ∨ (all.length : Int) ≤ a ∨ b < 0 ∨ (all.length : Int) ≤ b then ([], (2, (i : Int))) else
      if (resF (all.getD a.toNat []) (all.getD b.toNat []) v).2 = 0 then folGo (all ++ [(resF (all.getD a.toNat []) (all.getD b.toNat []) v).1]) r (i + 1)
      else ([], ((resF (all.getD a.toNat []) (all.getD b.toNat []) v).2, (i : Int)))
/-- The clauses made; the error and its place. -/
noncomputable def folF (ls : List (List Int)) (ts : List Stp3) : List (List Int) × (Int × Int) :=
  if 1000 < ts.length then ([], (4, -1)) else if (folGo ls ts 0).2 = (0, -1) then ((folGo ls ts 0).1.drop ls.length, (0, -1)) else ([], (folGo ls ts 0).2)

section
variable {all : List (List Int)} {ts : List Stp3} {k : Nat} {a b v : Int}
theorem folGo_out (hk : k < ts.length) (ht : ts.getD k (0, 0, 0) = (a, b, v)) (h : a < 0 ∨ (all.length : Int) ≤ a ∨ b < 0 ∨ (all.length : Int) ≤ b) : folGo all (ts.drop k) k = ([], (2, (k : Int))) := by
  rw [getD_cons_drop ts k (0, 0, 0) hk, ht, folGo, if_pos h]
theorem folGo_bad (hk : k < ts.length) (ht : ts.getD k (0, 0, 0) = (a, b, v)) (h : ¬ (a < 0 ∨ (all.length : Int) ≤ a ∨ b < 0 ∨ (all.length : Int) ≤ b)) {q : List Int} {c : Int} (hr : resF (all.getD a.toNat []) (all.getD b.toNat []) v = (q, c)) (hc : c ≠ 0) : folGo all (ts.drop k) k = ([], (c, (k : Int))) := by
  rw [getD_cons_drop ts k (0, 0, 0) hk, ht, folGo, if_neg h, hr, if_neg hc]
theorem folGo_next (hk : k < ts.length) (ht : ts.getD k (0, 0, 0) = (a, b, v)) (h : ¬ (a < 0 ∨ (all.length : Int) ≤ a ∨ b < 0 ∨ (all.length : Int) ≤ b)) {q : List Int} (hr : resF (all.getD a.toNat []) (all.getD b.toNat []) v = (q, 0)) : folGo all (ts.drop k) k = folGo (all ++ [q]) (ts.drop (k + 1)) (k + 1) := by
  rw [getD_cons_drop ts k (0, 0, 0) hk, ht, folGo, if_neg h, hr, if_pos rfl]
theorem folGo_end (hk : ts.length ≤ k) (i : Nat) : folGo all (ts.drop k) i = (all, (0, -1)) := by
  rw [List.drop_eq_nil_of_le hk, folGo]
end
theorem folF_many {ls : List (List Int)} {ts : List Stp3} (h : 1000 < ts.length) : folF ls ts = ([], (4, -1)) := by unfold folF; rw [if_pos h]
theorem folF_err {ls : List (List Int)} {ts : List Stp3} {f : Int × Int} (h : ¬ 1000 < ts.length) (e : folGo ls ts 0 = ([], f)) (hf : f.1 ≠ 0) : folF ls ts = ([], f) := by
  unfold folF
  rw [if_neg h, e, if_neg (fun h2 => hf (by rw [show f = (0, -1) from h2]))]
theorem folF_fine {ls al : List (List Int)} {ts : List Stp3} (h : ¬ 1000 < ts.length) (e : folGo ls ts 0 = (al, (0, -1))) : folF ls ts = (al.drop ls.length, (0, -1)) := by
  unfold folF
  rw [if_neg h, e, if_pos rfl]

/-- Rows that Resolve may take. -/
def rowsOk (all : List (List Int)) : Prop := ∀ c ∈ all, (∀ x ∈ c, litOk x) ∧ c.length ≤ 1000
theorem rowsOk.at_ {all : List (List Int)} (h : rowsOk all) (k : Nat) : (∀ x ∈ all.getD k [], litOk x) ∧ (all.getD k []).length ≤ 1000 := by
  rcases Nat.lt_or_ge k all.length with hk | hk
  · refine h _ ?_
    rw [List.getD_eq_getElem?_getD, List.getElem?_eq_getElem hk]; exact List.getElem_mem hk
  · rw [List.getD_eq_getElem?_getD, List.getElem?_eq_none hk]
    exact ⟨fun x hx => by simp at hx, by simp⟩
theorem formF_row {c : List Int} (hc : ∀ x ∈ c, litOk x) : (∀ x ∈ (formF c).1, litOk x) ∧ (formF c).1.length ≤ 1000 := by
  unfold formF
  split
  · exact ⟨fun x hx => by simp at hx, by simp⟩
  · exact ⟨fun x hx => hc x (formGo_mem 24 1 x hx).1, Nat.le_trans (formGo_len c 24 1) (by omega)⟩
theorem resF_row {a b : List Int} (ha : ∀ x ∈ a, litOk x) (hb : ∀ x ∈ b, litOk x) (v : Int) : (∀ x ∈ (resF a b v).1, litOk x) ∧ (resF a b v).1.length ≤ 1000 := by
  unfold resF
  split
  · exact ⟨fun x hx => by simp at hx, by simp⟩
  · split
    · exact ⟨fun x hx => by simp at hx, by simp⟩
    · refine formF_row fun x hx => ?_
      rcases List.mem_append.1 hx with hx | hx
      · exact ha x (List.mem_filter.1 hx).1
      · exact hb x (List.mem_filter.1 hx).1
theorem resF_code {a b : List Int} {v : Int} {q : List Int} {c : Int} (h : resF a b v = (q, c)) : 0 ≤ c ∧ c ≤ 13 := by
  unfold resF at h
  split at h
  · cases h; omega
  · split at h
    · cases h; omega
    · cases h; omega
theorem rowsOk.snoc {all : List (List Int)} (h : rowsOk all) {a b : Nat} {v : Int} {q : List Int} {c : Int} (e : resF (all.getD a []) (all.getD b []) v = (q, c)) : rowsOk (all ++ [q]) := by
  intro d hd
  rcases List.mem_append.1 hd with hd | hd
  · exact h d hd
  · rw [List.mem_singleton.1 hd]
    have := resF_row (h.at_ a).1 (h.at_ b).1 v
    rw [e] at this
    exact this

/-- A slice of steps reads as the list ts; its cells lie in blocks of S. -/
def StpP (w : World) (S : Nat → Prop) (A : Option Addr) (n : Nat) (ts : List Stp3) : Prop :=
  ts.length = n ∧ n ≤ maxLen ∧ (∀ t ∈ ts, I64 t.1 ∧ I64 t.2.1 ∧ I64 t.2.2) ∧
    (0 < n → ∃ ad, A = some ad ∧ S ad.block ∧ ∀ k, k < n → w.cell? (ad.add (k * 3)) = some (.int .i64 (ts.getD k (0, 0, 0)).1) ∧ w.cell? (ad.add (k * 3 + 1)) = some (.int .i64 (ts.getD k (0, 0, 0)).2.1) ∧ w.cell? (ad.add (k * 3 + 2)) = some (.int .i64 (ts.getD k (0, 0, 0)).2.2))
theorem StpP.keep {w w' : World} {S : Nat → Prop} {A : Option Addr} {n : Nat} {ts : List Stp3} (h : StpP w S A n ts) (hk : Keep S w w') : StpP w' S A n ts := by
  refine ⟨h.1, h.2.1, h.2.2.1, fun hn => ?_⟩
  obtain ⟨ad, e, hs, hc⟩ := h.2.2.2 hn
  have hb : ∀ j, S (ad.add j).block := fun j => by rw [block_of_add]; exact hs
  exact ⟨ad, e, hs, fun k hkn => ⟨(hk.cell (hb _)).trans (hc k hkn).1, (hk.cell (hb _)).trans (hc k hkn).2.1, (hk.cell (hb _)).trans (hc k hkn).2.2⟩⟩
theorem StpP.mono {w : World} {S S' : Nat → Prop} {A : Option Addr} {n : Nat} {ts : List Stp3} (h : StpP w S A n ts) (hS : ∀ i, S i → S' i) : StpP w S' A n ts := by
  refine ⟨h.1, h.2.1, h.2.2.1, fun hn => ?_⟩
  obtain ⟨ad, e, hs, hc⟩ := h.2.2.2 hn
  exact ⟨ad, e, hS _ hs, hc⟩
theorem StpP.at_ {w : World} {S : Nat → Prop} {A : Option Addr} {n k : Nat} {ts : List Stp3} (h : StpP w S A n ts) (hk : k < n) :
    ∃ ad a b v, A = some ad ∧ S ad.block ∧ ts.getD k (0, 0, 0) = (a, b, v) ∧ I64 a ∧ I64 b ∧ I64 v ∧ w.cell? (ad.add (k * 3)) = some (.int .i64 a) ∧ w.cell? (ad.add (k * 3 + 1)) = some (.int .i64 b) ∧ w.cell? (ad.add (k * 3 + 2)) = some (.int .i64 v) := by
  obtain ⟨ad, e, hs, hc⟩ := h.2.2.2 (by omega)
  have hkl : k < ts.length := by rw [h.1]; exact hk
  have hm : ts.getD k (0, 0, 0) ∈ ts := by rw [List.getD_eq_getElem?_getD, List.getElem?_eq_getElem hkl]; exact List.getElem_mem hkl
  obtain ⟨i1, i2, i3⟩ := h.2.2.1 _ hm
  obtain ⟨c1, c2, c3⟩ := hc k hk
  exact ⟨ad, _, _, _, e, hs, rfl, i1, i2, i3, c1, c2, c3⟩
end Go.Proofs.YtkkgdlfjblmbjaaGreatDoor
