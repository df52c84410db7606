/-
  What a function needs: a variable is the top of a reachable node if and only if it matters. No program in sight. What a function needs, by its table: the place of the values with one changed. No program in sight. How large a function is, by its table: level by level the tables that come of setting the first variables, and the reachable handles. No program in sight.
-/
import Derived.Test.YtdlcldhnbhlikaaGreatDoorBddCnt
import Derived.Test.YtdlcldhnbhlikaaGreatDoorBddTabM
namespace Go.Proofs.YtdlcldhnbhlikaaGreatDoor

def mixV (t : Int) (p v : Int → Bool) : Int → Bool := fun y => if y < t then p y else v y
section
variable {A : Ar} {h k x : Int}
theorem mix_upd (t : Int) (p v : Int → Bool) (b : Bool) : mixV t p (upd v t b) = upd (mixV t p v) t b := by
  funext y
  unfold mixV upd
  by_cases e : y = t
  · rw [if_neg (by omega), if_pos e, if_pos e]
  · rw [if_neg e, if_neg e]
/-- A way on from a reached node. -/
theorem path_kid (hw : WfA A) {n : Nd} (e : gotA A k = some n) (b : Bool) (ih : ∃ p, ∀ v, den A h (mixV (topA A k) p v) = den A k v) :
    ∃ p, ∀ v, den A h (mixV (topA A (if b then n.high else n.low)) p v) = den A (if b then n.high else n.low) v := by
  obtain ⟨p, hp⟩ := ih
  have ht := top_some e
  have hk := (hw.kid e b).1
  refine ⟨fun y => if y < topA A k then p y else b, fun v => ?_⟩
  have h1 : mixV (topA A (if b then n.high else n.low)) (fun y => if y < topA A k then p y else b) v = mixV (topA A k) p (mixV (topA A (if b then n.high else n.low)) (fun _ => b) v) := by
    funext y
    simp only [mixV]
    by_cases e1 : y < topA A k
    · rw [if_pos e1, if_pos e1, if_pos (by omega)]
    · rw [if_neg e1, if_neg e1]
  rw [h1, hp, den_some hw e]
  have h2 : mixV (topA A (if b then n.high else n.low)) (fun _ => b) v n.var = b := if_pos hk
  rw [h2]
  exact den_dep hw _ _ (Nat.le_refl _) (fun y hy => if_neg (by omega))
theorem reach_path (hw : WfA A) (r : ReachA A [h] k) : ∃ p, ∀ v, den A h (mixV (topA A k) p v) = den A k v := by
  induction r with
  | @base y n hm e =>
    have hy := List.mem_singleton.1 hm
    subst hy
    exact ⟨fun _ => false, fun v => den_dep hw _ _ (Nat.le_refl _) (fun y hy => if_neg (by omega))⟩
  | low _ e _ ih => exact path_kid hw e false ih
  | high _ e _ ih => exact path_kid hw e true ih
/-- The top of a reachable node matters. -/
theorem need_of_reach (hw : WfA A) (hr : RedA A) (r : ReachA A [h] k) : ∃ v, den A h (upd v (topA A k) false) ≠ den A h (upd v (topA A k) true) := by
  obtain ⟨n, e⟩ := r.got
  obtain ⟨p, hp⟩ := reach_path hw r
  refine Classical.byContradiction fun hc => hr k n e ?_
  refine den_inj hw hr 25 _ _ (by have := hw.topR n.low; unfold dep; omega) (by have := hw.topR n.high; unfold dep; omega) (hw.low _ _ e).1 (hw.high _ _ e).1 fun v => ?_
  have h1 := den_kid (v := v) hw e false
  have h2 := den_kid (v := v) hw e true
  rw [if_neg (by decide)] at h1
  rw [if_pos rfl] at h2
  rw [h1, h2, ← top_some e, ← hp, ← hp, mix_upd, mix_upd]
  exact Classical.byContradiction fun hd => hc ⟨_, hd⟩
/-- What no reachable node asks does not matter. -/
theorem need_none (hw : WfA A) (hn : ∀ y, ReachA A [h] y → topA A y ≠ x) (v : Int → Bool) (b : Bool) :
    ∀ (m : Nat) (k : Int), dep A k ≤ m → (∀ d, gotA A k = some d → ReachA A [h] k) → den A k (upd v x b) = den A k v := by
  intro m
  induction m with
  | zero =>
    intro k h1 _
    have e : gotA A k = none := by
      cases e : gotA A k with
      | none => rfl
      | some d => have := hw.dep e; unfold dep at h1; omega
    rw [den_none e, den_none e]
  | succ m ih =>
    intro k h1 hk
    cases e : gotA A k with
    | none => rw [den_none e, den_none e]
    | some d =>
      have r := hk d e
      have h2 : upd v x b d.var = v d.var := by
        have := hn k r
        rw [top_some e] at this
        exact if_neg this
      rw [den_some hw e, den_some hw e, h2]
      have h3 := hw.kid e (v d.var)
      have h4 := hw.dep e
      have h5 := top_some e
      refine ih _ (by have := hw.topR (if v d.var then d.high else d.low); unfold dep at h1 ⊢; omega) fun d' e' => ?_
      cases hb : v d.var with
      | false => rw [hb, if_neg (by decide)] at e'; rw [if_neg (by decide)]; exact .low r e e'
      | true => rw [hb, if_pos rfl] at e'; rw [if_pos rfl]; exact .high r e e'
theorem need_iff (hw : WfA A) (hr : RedA A) : (∃ y, ReachA A [h] y ∧ topA A y = x) ↔ ∃ v, den A h (upd v x false) ≠ den A h (upd v x true) := by
  constructor
  · rintro ⟨y, r, rfl⟩
    exact need_of_reach hw hr r
  · rintro ⟨v, hv⟩
    refine Classical.byContradiction fun hc => hv ?_
    have hn : ∀ y, ReachA A [h] y → topA A y ≠ x := fun y r e => hc ⟨y, r, e⟩
    have key := fun b => need_none (h := h) hw hn v b _ h (Nat.le_refl _) (fun d e => .base (List.mem_singleton.2 rfl) e)
    rw [key false, key true]
end
end Go.Proofs.YtdlcldhnbhlikaaGreatDoor
namespace Go.Proofs.YtdlcldhnbhlikaaGreatDoor
open Go.RowKit

def flipN (i v : Nat) : Nat := i ^^^ 2 ^ v
def needB (t : List Bool) (v : Nat) : Bool := (List.range t.length).any fun i => t.getD i false != t.getD (flipN i v) false
theorem flip_lt {i v n : Nat} (hi : i < 2 ^ n) (hv : v < n) : flipN i v < 2 ^ n := Nat.xor_lt_two_pow hi (Nat.pow_lt_pow_right (by omega) hv)
theorem val_flip (i v : Nat) : valN (flipN i v) = upd (valN i) (v : Int) (!(valN i (v : Int))) := by
  funext y
  unfold valN upd flipN
  by_cases h0 : 0 ≤ y
  · obtain ⟨k, rfl⟩ : ∃ k : Nat, y = (k : Int) := ⟨y.toNat, by omega⟩
    rw [Nat.testBit_xor, Nat.testBit_two_pow]
    by_cases h : k = v
    · subst h; simp
    · rw [if_neg (by omega)]; simp [show ¬ v = k by omega]
  · rw [if_neg (by omega)]; simp [h0]
theorem upd_self (f : Int → Bool) (x : Int) : upd f x (f x) = f := by
  funext y
  unfold upd
  split
  · next e => rw [e]
  · rfl
theorem upd_upd (f : Int → Bool) (x : Int) (b c : Bool) : upd (upd f x b) x c = upd f x c := by
  funext y
  unfold upd
  split <;> rfl
section
variable {A : Ar} {vn v : Nat} {h : Int}
theorem need_tab (hs : SpA A (vn : Int)) {F : FnB} (hF : ∀ u, den A h u = F u) (hv : v < vn) : needB (tabF (2 ^ vn) F) v = true ↔ ∃ y, ReachA A [h] y ∧ topA A y = (v : Int) := by
  rw [need_iff hs.wf hs.red]
  unfold needB
  rw [tab_len, List.any_eq_true]
  constructor
  · rintro ⟨i, hi, hne⟩
    have hi := List.mem_range.1 hi
    rw [tab_at F hi, tab_at F (flip_lt hi hv), val_flip, ← hF, ← hF] at hne
    refine ⟨valN i, fun e => ?_⟩
    have h1 := upd_self (valN i) (v : Int)
    cases hb : valN i (v : Int) with
    | false =>
      rw [hb] at hne h1
      rw [h1] at e
      simp [e] at hne
    | true =>
      rw [hb] at hne h1
      rw [h1] at e
      simp [e] at hne
  · rintro ⟨u, hu⟩
    obtain ⟨h1, h2⟩ := idx_is u vn
    have hv' : ∀ (b : Bool) x, 0 ≤ x → x < (vn : Int) → upd u (v : Int) b x = upd (valN (idxN u vn)) (v : Int) b x := fun b x h0 hx => by
      obtain ⟨y, rfl⟩ : ∃ y : Nat, x = (y : Int) := ⟨x.toNat, by omega⟩
      have h3 : u (y : Int) = valN (idxN u vn) (y : Int) := by
        unfold valN
        rw [decide_eq_true h0, Int.toNat_natCast, h2 y (by omega)]
        rfl
      unfold upd
      rw [h3]
    have hi := off_lt (v := v) h1
    refine ⟨offN (idxN u vn) v, List.mem_range.2 hi, ?_⟩
    rw [tab_at F hi, tab_at F (flip_lt hi hv), val_flip, val_off, upd_at, upd_upd, ← hF, ← hF]
    rw [den_var hs (hv' false) _ h (Nat.le_refl _), den_var hs (hv' true) _ h (Nat.le_refl _)] at hu
    simpa using hu
end
end Go.Proofs.YtdlcldhnbhlikaaGreatDoor
namespace Go.Proofs.YtdlcldhnbhlikaaGreatDoor
open Go.RowKit

def lowT (t : List Bool) (v : Nat) : List Bool := (List.range t.length).map fun i => t.getD (offN i v) false
def highT (t : List Bool) (v : Nat) : List Bool := (List.range t.length).map fun i => t.getD (onN i v) false
def addT (l : List (List Bool)) (g : List Bool) : List (List Bool) := if g ∈ l then l else l ++ [g]
def nextT (v : Nat) (L : List (List Bool)) : List (List Bool) := L.foldl (fun l f => addT (addT l (lowT f v)) (highT f v)) []
def lvlT (t : List Bool) : Nat → List (List Bool)
  | 0 => [t]
  | v + 1 => nextT v (lvlT t v)
def openT (v : Nat) (f : List Bool) : Bool := !(lowT f v == highT f v)
def sizeT (t : List Bool) : Nat → Nat
  | 0 => 0
  | v + 1 => sizeT t v + ((lvlT t v).filter (openT v)).length
theorem mem_addT {l : List (List Bool)} {g f : List Bool} : f ∈ addT l g ↔ f ∈ l ∨ f = g := by
  unfold addT
  split
  · next h => exact ⟨.inl, fun e => e.elim id fun e => by rw [e]; exact h⟩
  · rw [List.mem_append, List.mem_singleton]
theorem addT_nodup {l : List (List Bool)} {g : List Bool} (h : l.Nodup) : (addT l g).Nodup := by
  unfold addT
  split
  · exact h
  · next hg => exact List.nodup_append.2 ⟨h, by simp, fun a ha b hb => by rw [List.mem_singleton.1 hb]; rintro rfl; exact hg ha⟩
theorem next_fold (v : Nat) : ∀ (L l : List (List Bool)), l.Nodup → (L.foldl (fun l f => addT (addT l (lowT f v)) (highT f v)) l).Nodup ∧
    ∀ g, g ∈ L.foldl (fun l f => addT (addT l (lowT f v)) (highT f v)) l ↔ g ∈ l ∨ ∃ f ∈ L, g = lowT f v ∨ g = highT f v
  | [], l, h => ⟨h, fun g => by simp⟩
  | f :: L, l, h => by
    obtain ⟨h1, h2⟩ := next_fold v L (addT (addT l (lowT f v)) (highT f v)) (addT_nodup (addT_nodup h))
    refine ⟨h1, fun g => ?_⟩
    rw [List.foldl_cons, h2, mem_addT, mem_addT]
    constructor
    · rintro (((h | h) | h) | ⟨f', hf, h⟩)
      · exact .inl h
      · exact .inr ⟨f, List.mem_cons_self, .inl h⟩
      · exact .inr ⟨f, List.mem_cons_self, .inr h⟩
      · exact .inr ⟨f', List.mem_cons_of_mem _ hf, h⟩
    · rintro (h | ⟨f', hf, h⟩)
      · exact .inl (.inl (.inl h))
      · rcases List.mem_cons.1 hf with rfl | hf
        · exact .inl (h.elim (fun h => .inl (.inr h)) .inr)
        · exact .inr ⟨f', hf, h⟩
theorem lvl_nodup (t : List Bool) : ∀ v, (lvlT t v).Nodup
  | 0 => by simp [lvlT]
  | v + 1 => (next_fold v (lvlT t v) [] List.nodup_nil).1
theorem low_tab {vn v : Nat} (F : FnB) : lowT (tabF (2 ^ vn) F) v = tabF (2 ^ vn) fun u => F (upd u (v : Int) false) := by
  unfold lowT
  rw [tab_len]
  refine List.map_congr_left fun i hi => ?_
  rw [tab_at F (off_lt (List.mem_range.1 hi)), val_off]
theorem high_tab {vn v : Nat} (F : FnB) (hv : v < vn) : highT (tabF (2 ^ vn) F) v = tabF (2 ^ vn) fun u => F (upd u (v : Int) true) := by
  unfold highT
  rw [tab_len]
  refine List.map_congr_left fun i hi => ?_
  rw [tab_at F (on_lt (List.mem_range.1 hi) hv), val_on]
theorem mix_next (v : Nat) (u w : Int → Bool) (b : Bool) : mixV ((v : Int) + 1) (upd u (v : Int) b) w = mixV (v : Int) u (upd w (v : Int) b) := by
  funext y
  unfold mixV upd
  by_cases e : y = (v : Int)
  · rw [if_pos (by omega), if_pos e, if_neg (by omega), if_pos e]
  · rw [if_neg e, if_neg e]
    by_cases h : y < (v : Int)
    · rw [if_pos (by omega), if_pos h]
    · rw [if_neg (by omega), if_neg h]
section
variable {A : Ar} {vn : Nat} {x : Int}
/-- The way of given values down to a variable. -/
theorem follow (hw : WfA A) (hx : hasA A x = true) (u : Int → Bool) : ∀ v : Nat, v ≤ 24 → ∃ y, hasA A y = true ∧ (v : Int) ≤ topA A y ∧ (∀ d, gotA A y = some d → ReachA A [x] y) ∧ ∀ w, den A x (mixV (v : Int) u w) = den A y w
  | 0, _ => ⟨x, hx, (hw.topR x).1, fun d e => .base (List.mem_singleton.2 rfl) e, fun w => den_dep hw _ _ (Nat.le_refl _) (fun y hy => if_neg (by have := (hw.topR x).1; omega))⟩
  | v + 1, h24 => by
    obtain ⟨y, h1, h2, h3, h4⟩ := follow hw hx u v (by omega)
    have hm := fun w => mix_next v u w (u (v : Int))
    rw [upd_self] at hm
    rw [show ((v + 1 : Nat) : Int) = (v : Int) + 1 by omega]
    by_cases ht : (v : Int) < topA A y
    · exact ⟨y, h1, by omega, h3, fun w => by rw [hm, h4, den_upd hw ht]⟩
    · cases e : gotA A y with
      | none => rw [top_none e] at ht; omega
      | some d =>
        have hd := top_some e
        have hk := hw.kid e (u (v : Int))
        refine ⟨_, hk.2, by omega, fun d' e' => ?_, fun w => by rw [hm, h4, den_kid hw e, ← hd, show topA A y = (v : Int) by omega]⟩
        cases hb : u (v : Int) with
        | false => rw [hb, if_neg (by decide)] at e'; rw [if_neg (by decide)]; exact .low (h3 d e) e e'
        | true => rw [hb, if_pos rfl] at e'; rw [if_pos rfl]; exact .high (h3 d e) e e'
/-- The tables of a level. -/
theorem mem_lvl (hw : WfA A) {f : List Bool} : ∀ v : Nat, v ≤ vn → ∀ f, f ∈ lvlT (tabF (2 ^ vn) (den A x)) v ↔ ∃ u, f = tabF (2 ^ vn) fun w => den A x (mixV (v : Int) u w)
  | 0, _, f => by
    have h0 : ∀ u, (fun w => den A x (mixV ((0 : Nat) : Int) u w)) = den A x := fun u => funext fun w => den_dep hw _ _ (Nat.le_refl _) (fun y hy => if_neg (by have := (hw.topR x).1; omega))
    unfold lvlT
    rw [List.mem_singleton]
    exact ⟨fun e => ⟨fun _ => false, by rw [h0]; exact e⟩, fun ⟨u, e⟩ => by rw [h0] at e; exact e⟩
  | v + 1, hv, f => by
    show f ∈ nextT v _ ↔ _
    unfold nextT
    rw [(next_fold v (lvlT (tabF (2 ^ vn) (den A x)) v) [] List.nodup_nil).2]
    rw [show ((v + 1 : Nat) : Int) = (v : Int) + 1 by omega]
    constructor
    · rintro (h | ⟨g, hg, h⟩)
      · cases h
      · obtain ⟨u, rfl⟩ := (mem_lvl hw (f := g) v (by omega) g).1 hg
        rw [low_tab, high_tab _ (by omega)] at h
        rcases h with rfl | rfl
        · exact ⟨upd u (v : Int) false, by congr 1; funext w; rw [mix_next]⟩
        · exact ⟨upd u (v : Int) true, by congr 1; funext w; rw [mix_next]⟩
    · rintro ⟨u, rfl⟩
      refine .inr ⟨_, (mem_lvl hw (f := f) v (by omega) _).2 ⟨u, rfl⟩, ?_⟩
      rw [low_tab, high_tab _ (by omega)]
      have hm := fun w => mix_next v u w (u (v : Int))
      rw [upd_self] at hm
      cases hb : u (v : Int) with
      | false => exact .inl (by congr 1; funext w; rw [hm, hb])
      | true => exact .inr (by congr 1; funext w; rw [hm, hb])
theorem reach_nodup (l : List Int) : (reachL A l).Nodup := by
  rw [reachL_keep]
  unfold List.Nodup
  rw [List.pairwise_map]
  exact (keepK_nodup A l).imp fun h e => h (by omega)
/-- A level's open tables are the reachable nodes of its variable. -/
theorem cnt_lvl (hs : SpA A (vn : Int)) (h24 : vn ≤ 24) (hx : hasA A x = true) {v : Nat} (hv : v < vn) :
    ((reachL A [x]).filter fun y => decide (topA A y = (v : Int))).length = ((lvlT (tabF (2 ^ vn) (den A x)) v).filter (openT v)).length := by
  have hw := hs.wf
  have hsame := fun (y z : Int) (p : hasA A y = true) (q : hasA A z = true) => same_iff hs p q (F := den A y) (G := den A z) (fun _ => rfl) (fun _ => rfl)
  refine Nat.le_antisymm ?_ ?_
  · refine inj_len (f := fun y => tabF (2 ^ vn) (den A y)) _ _ ((reach_nodup [x]).filter _) (fun y hy z hz e => ?_) fun y hy => ?_
    · obtain ⟨d, ed⟩ := (mem_reachL.1 (List.mem_filter.1 hy).1).got
      obtain ⟨c, ec⟩ := (mem_reachL.1 (List.mem_filter.1 hz).1).got
      exact (hsame y z (has_some ed) (has_some ec)).2 e
    · obtain ⟨hy1, hy2⟩ := List.mem_filter.1 hy
      have r := mem_reachL.1 hy1
      have ht : topA A y = (v : Int) := by simpa using hy2
      obtain ⟨p, hp⟩ := reach_path hw r
      rw [ht] at hp
      obtain ⟨d, ed⟩ := r.got
      have hd := top_some ed
      refine List.mem_filter.2 ⟨(mem_lvl hw (f := []) v (by omega) _).2 ⟨p, ?_⟩, ?_⟩
      · show tabF (2 ^ vn) (den A y) = _
        congr 1
        funext w
        rw [hp]
      · unfold openT
        rw [Bool.not_eq_true', beq_eq_false_iff_ne]
        intro e
        rw [low_tab, high_tab _ hv] at e
        refine hs.red y d ed ((hsame _ _ (hw.low _ _ ed).1 (hw.high _ _ ed).1).2 ?_)
        have h1 : den A d.low = fun u => den A y (upd u (v : Int) false) := funext fun u => by
          have := den_kid (v := u) hw ed false
          rw [if_neg (by decide), ← hd, ht] at this
          exact this
        have h2 : den A d.high = fun u => den A y (upd u (v : Int) true) := funext fun u => by
          have := den_kid (v := u) hw ed true
          rw [if_pos rfl, ← hd, ht] at this
          exact this
        rw [h1, h2]
        exact e
  · rw [show ((reachL A [x]).filter fun y => decide (topA A y = (v : Int))).length = (((reachL A [x]).filter fun y => decide (topA A y = (v : Int))).map fun y => tabF (2 ^ vn) (den A y)).length from (List.length_map _).symm]
    refine inj_len (f := id) _ _ ((lvl_nodup _ v).filter _) (fun _ _ _ _ e => e) fun f hf => ?_
    obtain ⟨hf1, hf2⟩ := List.mem_filter.1 hf
    obtain ⟨u, hu⟩ := (mem_lvl hw (f := []) v (by omega) f).1 hf1
    obtain ⟨y, h1, h2, h3, h4⟩ := follow hw hx u v (by omega)
    have he : f = tabF (2 ^ vn) (den A y) := by rw [hu]; congr 1; funext w; exact h4 w
    have ht : topA A y = (v : Int) := by
      refine Classical.byContradiction fun hne => ?_
      unfold openT at hf2
      rw [Bool.not_eq_true', beq_eq_false_iff_ne] at hf2
      refine hf2 ?_
      rw [he, low_tab, high_tab _ hv]
      congr 1
      funext w
      rw [den_upd hw (by omega), den_upd hw (by omega)]
    cases e : gotA A y with
    | none => rw [top_none e] at ht; omega
    | some d => exact List.mem_map.2 ⟨y, List.mem_filter.2 ⟨mem_reachL.2 (h3 d e), by simpa using ht⟩, he.symm⟩
theorem filt_succ (v : Int) : ∀ l : List Int, (l.filter fun y => decide (topA A y < v + 1)).length = (l.filter fun y => decide (topA A y < v)).length + (l.filter fun y => decide (topA A y = v)).length
  | [] => rfl
  | a :: l => by
    have ih := filt_succ v l
    rw [List.filter_cons, List.filter_cons, List.filter_cons]
    rcases Int.lt_trichotomy (topA A a) v with h | h | h
    · rw [if_pos (by simp; omega), if_pos (by simpa using h), if_neg (by simp; omega), List.length_cons, List.length_cons]; omega
    · rw [if_pos (by simp; omega), if_neg (by simp; omega), if_pos (by simpa using h), List.length_cons, List.length_cons]; omega
    · rw [if_neg (by simp; omega), if_neg (by simp; omega), if_neg (by simp; omega)]; omega
theorem size_lvl (hs : SpA A (vn : Int)) (h24 : vn ≤ 24) (hx : hasA A x = true) : ∀ v : Nat, v ≤ vn → ((reachL A [x]).filter fun y => decide (topA A y < (v : Int))).length = sizeT (tabF (2 ^ vn) (den A x)) v
  | 0, _ => by
    rw [List.filter_eq_nil_iff.2 fun y _ => by have := (hs.wf.topR y).1; simp; omega]
    rfl
  | v + 1, hv => by
    rw [show ((v + 1 : Nat) : Int) = (v : Int) + 1 by omega, filt_succ, size_lvl hs h24 hx v (by omega), cnt_lvl hs h24 hx (by omega)]
    rfl
/-- A function's size, by its table. -/
theorem size_reach (hs : SpA A (vn : Int)) (h24 : vn ≤ 24) (hx : hasA A x = true) {F : FnB} (hF : ∀ u, den A x u = F u) : (reachL A [x]).length = sizeT (tabF (2 ^ vn) F) vn := by
  rw [← show den A x = F from funext hF, ← size_lvl hs h24 hx vn (Nat.le_refl _), List.filter_eq_self.2 fun y hy => ?_]
  obtain ⟨d, ed⟩ := (mem_reachL.1 hy).got
  have h1 := (hs.lt ed).2
  have h2 := top_some ed
  simp; omega
end
end Go.Proofs.YtdlcldhnbhlikaaGreatDoor
