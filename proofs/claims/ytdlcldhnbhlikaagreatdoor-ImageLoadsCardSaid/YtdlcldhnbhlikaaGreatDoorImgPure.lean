/-
  A diagram's image: which nodes are written, in which order, under which numbers; what the document's tables tell of them. No program in sight.
-/
import Derived.Test.YtdlcldhnbhlikaaGreatDoorSizePure
namespace Go.Proofs.YtdlcldhnbhlikaaGreatDoor
open Go.RowKit

/-- A handle's number, of those that are written. -/
def numI (ks : List Int) (h : Int) : Nat := if h = 0 then 0 else if h = 1 then 1 else ks.idxOf h + 2
/-- Which nodes are written behind one: each behind those that it leads to, Low's first. -/
def imgN (A : Ar) : Nat → Int → List Int → List Int
  | 0, _, ks => ks
  | m + 1, h, ks => match gotA A h with
    | none => ks
    | some d => if h ∈ ks then ks else imgN A m d.high (imgN A m d.low ks) ++ [h]
theorem imgN_zero (A : Ar) (h : Int) (ks : List Int) : imgN A 0 h ks = ks := rfl
theorem imgN_succ (A : Ar) (m : Nat) (h : Int) (ks : List Int) : imgN A (m + 1) h ks = (match gotA A h with | none => ks | some d => if h ∈ ks then ks else imgN A m d.high (imgN A m d.low ks) ++ [h]) := rfl
/-- .. all of them. -/
def imgA (A : Ar) (h : Int) (ks : List Int) : List Int := imgN A 25 h ks
theorem imgA_is (A : Ar) (h : Int) (ks : List Int) : imgA A h ks = imgN A (24 + 1) h ks := rfl
/-- A node's line. -/
def lineI (A : Ar) (ks : List Int) (k : Int) : List Int := match gotA A k with | some d => [d.var, (numI ks d.low : Int), (numI ks d.high : Int)] | none => []
def linesI (A : Ar) (ks : List Int) : List (List Int) := ks.map (lineI A ks)
/-- A handle that has a number. -/
def inI (ks : List Int) (x : Int) : Prop := x = 0 ∨ x = 1 ∨ x ∈ ks
/-- What is written leads to what is written. -/
structure KsOk (A : Ar) (ks : List Int) : Prop where
  nd : ks.Nodup
  got : ∀ k, k ∈ ks → ∃ d, gotA A k = some d ∧ inI ks d.low ∧ inI ks d.high
section
variable {A : Ar} {ks : List Int} {h k : Int} {d : Nd}
theorem imgN_more (hw : WfA A) : ∀ (m : Nat) (h : Int) (ks : List Int), dep A h ≤ m → imgN A (m + 1) h ks = imgN A m h ks := by
  intro m
  induction m with
  | zero =>
    intro h ks hd
    have e : gotA A h = none := by
      cases e : gotA A h with
      | none => rfl
      | some d => have := hw.dep e; unfold dep at hd; omega
    rw [imgN_succ, imgN_zero, e]
  | succ m ih =>
    intro h ks hd
    rw [imgN_succ, imgN_succ]
    cases e : gotA A h with
    | none => rfl
    | some d =>
      have h1 := (hw.kid e false).1
      have h2 := (hw.kid e true).1
      have h3 := top_some e
      have h4 := hw.dep e
      simp only [Bool.false_eq_true, if_false, if_true] at h1 h2
      have e1 : dep A d.low ≤ m := by unfold dep at hd ⊢; omega
      have e2 : dep A d.high ≤ m := by unfold dep at hd ⊢; omega
      simp only [ih _ _ e1, ih _ _ e2]
theorem dep_24 (hw : WfA A) (h : Int) : dep A h ≤ 24 := by have := (hw.topR h).1; unfold dep; omega
theorem img_none (e : gotA A h = none) (ks : List Int) : imgA A h ks = ks := by
  rw [imgA_is, imgN_succ, e]
theorem img_in (e : gotA A h = some d) (hm : h ∈ ks) : imgA A h ks = ks := by
  rw [imgA_is, imgN_succ, e]
  exact if_pos hm
theorem img_new (hw : WfA A) (e : gotA A h = some d) (hm : h ∉ ks) : imgA A h ks = imgA A d.high (imgA A d.low ks) ++ [h] := by
  rw [imgA_is, imgN_succ, imgA_is A d.high, imgA_is A d.low, imgN_more hw 24 d.low _ (dep_24 hw _), imgN_more hw 24 d.high _ (dep_24 hw _), e]
  exact if_neg hm
theorem inI_app {t : List Int} {x : Int} (h : inI ks x) : inI (ks ++ t) x := by
  rcases h with h | h | h
  · exact .inl h
  · exact .inr (.inl h)
  · exact .inr (.inr (List.mem_append_left _ h))
theorem num_app {t : List Int} {x : Int} (h : inI ks x) : numI (ks ++ t) x = numI ks x := by
  unfold numI
  by_cases h0 : x = 0
  · rw [if_pos h0, if_pos h0]
  · by_cases h1 : x = 1
    · rw [if_neg h0, if_neg h0, if_pos h1, if_pos h1]
    · rw [if_neg h0, if_neg h0, if_neg h1, if_neg h1, List.idxOf_append, if_pos (by rcases h with h | h | h; exact absurd h h0; exact absurd h h1; exact h)]
theorem num_new {x : Int} (h0 : x ≠ 0) (h1 : x ≠ 1) (hn : x ∉ ks) : numI (ks ++ [x]) x = ks.length + 2 := by
  unfold numI
  rw [if_neg h0, if_neg h1, List.idxOf_append, if_neg hn]
  simp [List.idxOf_cons_self]
/-- The next one that is written. -/
theorem KsOk.snoc (h : KsOk A ks) (e : gotA A k = some d) (hn : k ∉ ks) (hl : inI ks d.low) (hh : inI ks d.high) : KsOk A (ks ++ [k]) := by
  refine ⟨List.nodup_append.2 ⟨h.nd, by simp, fun a ha b hb e2 => ?_⟩, fun y hy => ?_⟩
  · rw [List.mem_singleton.1 hb] at e2
    exact hn (e2 ▸ ha)
  · rcases List.mem_append.1 hy with hy | hy
    · obtain ⟨d', e', h1, h2⟩ := h.got y hy
      exact ⟨d', e', inI_app h1, inI_app h2⟩
    · rw [List.mem_singleton.1 hy]
      exact ⟨d, e, inI_app hl, inI_app hh⟩
theorem lines_snoc (h : KsOk A ks) (e : gotA A k = some d) (hl : inI ks d.low) (hh : inI ks d.high) : linesI A (ks ++ [k]) = linesI A ks ++ [[d.var, (numI ks d.low : Int), (numI ks d.high : Int)]] := by
  unfold linesI
  rw [List.map_append]
  congr 1
  · refine List.map_congr_left fun y hy => ?_
    obtain ⟨d', e', h1, h2⟩ := h.got y hy
    unfold lineI
    rw [e']
    simp only
    rw [num_app h1, num_app h2]
  · show [lineI A (ks ++ [k]) k] = _
    unfold lineI
    rw [e]
    simp only
    rw [num_app hl, num_app hh]
/-- What is written is there, and what was written stays. -/
theorem img_ok (hw : WfA A) : ∀ (m : Nat) (h : Int) (ks : List Int), dep A h ≤ m → hasA A h = true → KsOk A ks → KsOk A (imgA A h ks) ∧ inI (imgA A h ks) h ∧ ∃ t, imgA A h ks = ks ++ t ∧ ∀ y ∈ t, topA A h ≤ topA A y := by
  intro m
  induction m with
  | zero =>
    intro h ks hd hp hk
    have e : gotA A h = none := by
      cases e : gotA A h with
      | none => rfl
      | some d => have := hw.dep e; unfold dep at hd; omega
    rw [img_none e]
    exact ⟨hk, by rcases has_none hp e with r | r; exact .inl r; exact .inr (.inl r), [], by simp, fun y hy => by cases hy⟩
  | succ m ih =>
    intro h ks hd hp hk
    cases e : gotA A h with
    | none =>
      rw [img_none e]
      exact ⟨hk, by rcases has_none hp e with r | r; exact .inl r; exact .inr (.inl r), [], by simp, fun y hy => by cases hy⟩
    | some d =>
      by_cases hm : h ∈ ks
      · rw [img_in e hm]
        exact ⟨hk, .inr (.inr hm), [], by simp, fun y hy => by cases hy⟩
      · have h1 := hw.kid e false
        have h2 := hw.kid e true
        have h3 := top_some e
        have h4 := hw.dep e
        simp only [Bool.false_eq_true, if_false, if_true] at h1 h2
        obtain ⟨a1, a2, t1, a3, a4⟩ := ih d.low ks (by unfold dep at hd ⊢; omega) h1.2 hk
        obtain ⟨b1, b2, t2, b3, b4⟩ := ih d.high (imgA A d.low ks) (by unfold dep at hd ⊢; omega) h2.2 a1
        have hl : inI (imgA A d.high (imgA A d.low ks)) d.low := by rw [b3]; exact inI_app a2
        have hn : h ∉ imgA A d.high (imgA A d.low ks) := by
          rw [b3, a3]
          intro hc
          rcases List.mem_append.1 hc with hc | hc
          · rcases List.mem_append.1 hc with hc | hc
            · exact hm hc
            · have := a4 h hc; omega
          · have := b4 h hc; omega
        rw [img_new hw e hm]
        refine ⟨b1.snoc e hn hl b2, .inr (.inr (by simp)), t1 ++ (t2 ++ [h]), by rw [b3, a3]; simp, fun y hy => ?_⟩
        rcases List.mem_append.1 hy with hy | hy
        · have := a4 y hy; omega
        · rcases List.mem_append.1 hy with hy | hy
          · have := b4 y hy; omega
          · rw [List.mem_singleton.1 hy]; exact Int.le_refl _
end
section
variable {A : Ar} {vn v : Nat} {h : Int} {d : Nd}
/-- A handle's table. -/
def tabH (A : Ar) (vn : Nat) (h : Int) : List Bool := tabF (2 ^ vn) (den A h)
theorem tabH_inj (hs : SpA A (vn : Int)) {k : Int} (p : hasA A h = true) (q : hasA A k = true) : tabH A vn h = tabH A vn k ↔ h = k := (same_iff hs p q (fun _ => rfl) (fun _ => rfl)).symm
/-- At a node: the tables of what it leads to; they differ. -/
theorem tab_at_node (hs : SpA A (vn : Int)) (e : gotA A h = some d) (hv : d.var = (v : Int)) : lowT (tabH A vn h) v = tabH A vn d.low ∧ highT (tabH A vn h) v = tabH A vn d.high ∧ tabH A vn d.low ≠ tabH A vn d.high := by
  have hl := hs.var _ _ e
  unfold tabH
  refine ⟨?_, ?_, fun c => hs.red _ _ e ((tabH_inj hs (hs.wf.low _ _ e).1 (hs.wf.high _ _ e).1).1 c)⟩
  · rw [low_tab]
    congr 1
    funext u
    have := den_kid (v := u) hs.wf e false
    rw [if_neg (by decide), hv] at this
    exact this.symm
  · rw [high_tab _ (by omega)]
    congr 1
    funext u
    have := den_kid (v := u) hs.wf e true
    rw [if_pos rfl, hv] at this
    exact this.symm
/-- Above it: both are its own. -/
theorem tab_above (hs : SpA A (vn : Int)) (hv : v < vn) (ht : (v : Int) < topA A h) : lowT (tabH A vn h) v = highT (tabH A vn h) v := by
  unfold tabH
  rw [low_tab, high_tab _ hv]
  congr 1
  funext u
  rw [den_upd hs.wf ht, den_upd hs.wf ht]
/-- Behind the last variable: one of the ends. -/
theorem tab_last (hs : SpA A (vn : Int)) (hp : hasA A h = true) (ht : (vn : Int) ≤ topA A h) : (tabH A vn h).getD 0 false = (h == 1) ∧ (h = 0 ∨ h = 1) := by
  have e : gotA A h = none := by
    cases e : gotA A h with
    | none => rfl
    | some d => have := hs.var _ _ e; have := top_some e; omega
  refine ⟨?_, has_none hp e⟩
  unfold tabH
  rw [tab_at _ (Nat.two_pow_pos vn), den_none e]
end
end Go.Proofs.YtdlcldhnbhlikaaGreatDoor
