/-
  What a sweep does to an arena's rows, as plain lists. No program in sight.
-/
import Derived.Test.YtfbhmkpihmcegaaDoorArenaOut
namespace Go.Proofs.YtfbhmkpihmcegaaDoor

open Classical in
noncomputable def keepK (A : Ar) (l : List Int) : List Nat := (List.range A.length).filter fun k : Nat => decide (ReachA A l ((k : Int) + 2))
theorem reachL_keep (A : Ar) (l : List Int) : reachL A l = (keepK A l).map fun k : Nat => (k : Int) + 2 := rfl
open Classical in
theorem mem_keepK {A : Ar} {l : List Int} {k : Nat} : k ∈ keepK A l ↔ ReachA A l ((k : Int) + 2) := by
  unfold keepK
  rw [List.mem_filter]
  constructor
  · intro h
    exact of_decide_eq_true h.2
  · intro h
    obtain ⟨n, e⟩ := h.got
    rw [gotA_k] at e
    exact ⟨List.mem_range.2 (gotA_len e), decide_eq_true h⟩
open Classical in
theorem keepK_nodup (A : Ar) (l : List Int) : (keepK A l).Nodup := List.Nodup.sublist (List.filter_sublist ..) List.nodup_range
theorem keepK_lt {A : Ar} {l : List Int} {j : Nat} (hj : j < (keepK A l).length) : (keepK A l).getD j 0 < A.length ∧ ReachA A l (((keepK A l).getD j 0 : Nat) + 2 : Int) := by
  have h : (keepK A l).getD j 0 ∈ keepK A l := List.mem_of_getElem? (getD_of hj)
  have h2 := mem_keepK.1 h
  refine ⟨?_, h2⟩
  obtain ⟨n, e⟩ := h2.got
  rw [gotA_k] at e
  exact gotA_len e
theorem reachL_at {A : Ar} {l : List Int} {j : Nat} (hj : j < (reachL A l).length) : (reachL A l).getD j 0 = (((keepK A l).getD j 0 : Nat) : Int) + 2 := by
  rw [reachL_keep] at hj ⊢
  rw [List.length_map] at hj
  rw [List.getD_eq_getElem?_getD, List.getElem?_map, getD_of (d := 0) hj]
  rfl
theorem reachL_len (A : Ar) (l : List Int) : (reachL A l).length = (keepK A l).length := by rw [reachL_keep, List.length_map]
theorem reachL_le (A : Ar) (l : List Int) : (reachL A l).length ≤ A.length := by
  rw [reachL_len]
  unfold keepK
  exact Nat.le_trans (List.length_filter_le ..) (by rw [List.length_range]; exact Nat.le_refl _)
/-- the first i out. -/
def offU (us : List Bool) (i : Nat) : List Bool := List.replicate i false ++ us.drop i
theorem offU_next {us : List Bool} {i : Nat} (hi : i < us.length) : (offU us i).set i false = offU us (i + 1) := by
  unfold offU
  rw [List.set_append_right _ _ (by simp), List.length_replicate, Nat.sub_self, List.drop_eq_getElem_cons hi, List.set_cons_zero, List.replicate_succ', List.append_assoc]
  rfl
theorem offU_zero (us : List Bool) : offU us 0 = us := by simp [offU]
theorem offU_all {us : List Bool} {n : Nat} (h : us.length = n) : offU us n = List.replicate n false := by
  unfold offU
  rw [List.drop_eq_nil_of_le (by omega), List.append_nil]
theorem offU_len {us : List Bool} {i : Nat} (hi : i ≤ us.length) : (offU us i).length = us.length := by unfold offU; simp; omega
/-- those of the first j in. -/
def onU (n : Nat) (ks : List Nat) : List Bool := ks.foldl (fun u k => u.set k true) (List.replicate n false)
theorem onU_snoc (n : Nat) (ks : List Nat) (k : Nat) : onU n (ks ++ [k]) = (onU n ks).set k true := by unfold onU; rw [List.foldl_append]; rfl
theorem onU_len (n : Nat) (ks : List Nat) : (onU n ks).length = n := by
  have h : ∀ (ks : List Nat) (u : List Bool), (ks.foldl (fun u k => u.set k true) u).length = u.length := by
    intro ks
    induction ks with
    | nil => intro u; rfl
    | cons k r ih => intro u; rw [List.foldl_cons, ih, List.length_set]
  unfold onU
  rw [h, List.length_replicate]
theorem onU_at {n : Nat} {ks : List Nat} (hk : ∀ k ∈ ks, k < n) (x : Nat) : (onU n ks).getD x false = true ↔ x ∈ ks := by
  have h : ∀ (ks : List Nat) (u : List Bool), (∀ k ∈ ks, k < u.length) → ((ks.foldl (fun u k => u.set k true) u).getD x false = true ↔ x ∈ ks ∨ u.getD x false = true) := by
    intro ks
    induction ks with
    | nil => intro u _; simp
    | cons k r ih =>
      intro u hu
      rw [List.foldl_cons, ih _ (fun y hy => by rw [List.length_set]; exact hu y (List.mem_cons_of_mem _ hy)), getD_set, List.mem_cons]
      by_cases e : k = x
      · subst e
        rw [if_pos ⟨rfl, hu k (List.mem_cons_self ..)⟩]; simp
      · rw [if_neg (fun hc => e hc.1)]
        constructor
        · rintro (h | h)
          · exact .inl (.inr h)
          · exact .inr h
        · rintro ((h | h) | h)
          · exact absurd h.symm e
          · exact .inl h
          · exact .inr h
  unfold onU
  rw [h ks _ (fun k hk' => by rw [List.length_replicate]; exact hk k hk')]
  have hf : (List.replicate n false).getD x false = false := by
    rw [List.getD_eq_getElem?_getD]
    by_cases h : x < n
    · rw [List.getElem?_eq_getElem (by simpa using h)]; simp
    · rw [List.getElem?_eq_none (by simpa using h)]; rfl
  rw [hf]
  simp
def zeroT : Nat → Nat → List Int → List Int
  | _, 0, l => l
  | o, m + 1, l => zeroT (o + 1) m (l.set o 0)
theorem zeroT_len : ∀ (m o : Nat) (l : List Int), (zeroT o m l).length = l.length := by
  intro m
  induction m with
  | zero => intro o l; rfl
  | succ m ih => intro o l; rw [zeroT, ih, List.length_set]
theorem zeroT_at : ∀ (m o : Nat) (l : List Int) (j : Nat), (zeroT o m l).getD j 0 = if o ≤ j ∧ j < o + m then 0 else l.getD j 0 := by
  intro m
  induction m with
  | zero => intro o l j; rw [zeroT, if_neg (by omega)]
  | succ m ih =>
    intro o l j
    rw [zeroT, ih, getD_set]
    by_cases h1 : o + 1 ≤ j ∧ j < o + 1 + m
    · rw [if_pos h1, if_pos (by omega)]
    · rw [if_neg h1]
      by_cases h2 : o = j ∧ o < l.length
      · rw [if_pos h2, if_pos (by omega)]
      · rw [if_neg h2]
        by_cases h3 : o ≤ j ∧ j < o + (m + 1)
        · rw [if_pos h3]
          have : o = j := by omega
          rw [List.getD_eq_getElem?_getD, List.getElem?_eq_none (by omega)]; rfl
        · rw [if_neg h3]
theorem zeroT_all {l : List Int} {n : Nat} (h : l.length = n) : zeroT 0 n l = List.replicate n 0 := by
  apply List.ext_getElem?
  intro j
  by_cases hj : j < n
  · have h1 := zeroT_at n 0 l j
    rw [if_pos (by omega)] at h1
    rw [getD_of (d := 0) (by rw [zeroT_len, h]; exact hj), h1, List.getElem?_eq_getElem (by simpa using hj)]
    simp
  · rw [List.getElem?_eq_none (by rw [zeroT_len, h]; omega), List.getElem?_eq_none (by simpa using hj)]
section
variable {hs : Nd → Nat} {A : Ar} {ns : List Nd} {us : List Bool} {tab : List Int} {l : List Int}
/-- The table behind the first j. -/
structure InsI (hs : Nd → Nat) (A : Ar) (l : List Int) (ns : List Nd) (tab : List Int) (j : Nat) : Prop where
  len : tab.length = 2 * A.length + 1
  T : TabI hs ns tab ((keepK A l).take j).reverse
theorem ins_start (hs : Nd → Nat) (A : Ar) (l : List Int) (ns : List Nd) : InsI hs A l ns (List.replicate (2 * A.length + 1) 0) 0 := ⟨by simp, by rw [List.take_zero]; exact .empty _ _ (by omega)⟩
theorem InsI.zero {j : Nat} (h : InsI hs A l ns tab j) : ∃ z, z < tab.length ∧ tab.getD z 0 = 0 := h.T.zero (by
  rw [List.length_reverse, List.length_take, h.len]
  have := reachL_le A l
  rw [reachL_len] at this
  omega)
theorem InsI.nz {j : Nat} (h : InsI hs A l ns tab j) : ∀ i, i < tab.length → tab.getD i 0 ≠ 0 → ∃ k : Nat, k < A.length ∧ tab.getD i 0 = (k : Int) + 2 := fun i hi h0 => by
  obtain ⟨k, hk, e⟩ := h.T.nz i hi h0
  have hm := List.mem_of_mem_take (List.mem_reverse.1 hk)
  obtain ⟨n, en⟩ := (mem_keepK.1 hm).got
  rw [gotA_k] at en
  exact ⟨k, gotA_len en, e⟩
theorem InsI.next {j i : Nat} (h : InsI hs A l ns tab j) (hT : ArS A ns us) (hw : WfA A) (hj : j < (keepK A l).length) (hp : Place hs ns tab (ns.getD ((keepK A l).getD j 0) nd0) i) :
    InsI hs A l ns (tab.set i ((((keepK A l).getD j 0 : Nat) : Int) + 2)) (j + 1) := by
  have hu : ∀ k ∈ keepK A l, us.getD k false = true := fun k hk => by
    obtain ⟨n, e⟩ := (mem_keepK.1 hk).got
    rw [gotA_k] at e
    exact (hT.used.1 e).1
  refine ⟨by rw [List.length_set, h.len], ?_⟩
  rw [List.take_add_one, getD_of (d := 0) hj, Option.toList_some, List.reverse_append, List.reverse_singleton, List.singleton_append]
  refine TabI.again hT hw h.T (fun a ha => hu a (List.mem_of_mem_take (List.mem_reverse.1 ha))) (hu _ (List.mem_of_getElem? (getD_of hj))) (fun hm => ?_) hp
  have hm := List.mem_reverse.1 hm
  obtain ⟨q, hq, e⟩ := List.getElem_of_mem hm
  rw [List.length_take] at hq
  rw [List.getElem_take] at e
  have hn := keepK_nodup A l
  have e2 : (keepK A l)[q]'(by omega) = (keepK A l)[j]'hj := by
    rw [e, List.getD_eq_getElem?_getD, List.getElem?_eq_getElem hj]; rfl
  have := (List.getElem_inj hn).1 e2
  omega
theorem sweep_ArT (hT : ArS A ns us) (hw : WfA A) (h : InsI hs A l ns tab (keepK A l).length) : ArT hs (sweepA A l) ns (onU A.length (keepK A l)) tab := by
  have hkl : ∀ k ∈ keepK A l, k < A.length := fun k hk => by
    obtain ⟨n, e⟩ := (mem_keepK.1 hk).got
    rw [gotA_k] at e
    exact gotA_len e
  have hT2 := h.T
  rw [List.take_length] at hT2
  refine ⟨⟨by rw [sweep_len]; exact hT.n, by rw [sweep_len]; exact onU_len _ _, fun k => ?_⟩, by rw [sweep_len]; exact h.len, ⟨_, hT2, fun k => ?_, ?_⟩, hw.sweep l⟩
  · by_cases hm : k ∈ keepK A l
    · rw [if_pos ((onU_at hkl k).2 hm), sweep_at, if_pos (mem_keepK.1 hm)]
      obtain ⟨n, e⟩ := (mem_keepK.1 hm).got
      rw [gotA_k] at e
      rw [e, (hT.used.1 e).2]
    · rw [if_neg (fun hc => hm ((onU_at hkl k).1 hc)), sweep_at, if_neg (fun hc => hm (mem_keepK.2 hc))]
  · rw [List.mem_reverse]
    exact (onU_at hkl k).symm
  · rw [List.length_reverse, sweep_cnt, reachL_len]
end
end Go.Proofs.YtfbhmkpihmcegaaDoor
