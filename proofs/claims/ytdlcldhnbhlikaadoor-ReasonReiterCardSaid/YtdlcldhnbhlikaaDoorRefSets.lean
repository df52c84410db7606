/-
  The document's Sets of a family, rising; the law's sameSets.
-/
import Derived.Test.YtdlcldhnbhlikaaDoorOwnU
import Derived.Test.YtdlcldhnbhlikaaDoorFamRow
import Derived.Laws.CopyOwn
import Derived.Deep.Cut
import Derived.Deep.RegionLaw
import Derived.StillTailTactics
namespace Go.Proofs.YtdlcldhnbhlikaaDoor
open Go.RowKit Go.Maps

theorem ins_cells {α : Type} (L : List α) (z x : α) (R : List α) (i : Nat) (hi : i ≤ L.length) : (splice (L ++ z :: R) (i + 1) (L.drop i)).set i x = L.take i ++ x :: (L.drop i ++ R) := by
  unfold splice
  have e1 : (L ++ z :: R).drop (i + 1 + (L.drop i).length) = R := by
    rw [List.length_drop, show i + 1 + (L.length - i) = L.length + 1 by omega, List.drop_append, List.drop_eq_nil_of_le (by omega)]
    simp
  rw [e1]
  obtain ⟨y, hy⟩ : ∃ y, (L ++ z :: R).take (i + 1) = L.take i ++ [y] := by
    rcases Nat.lt_or_ge i L.length with h | h
    · exact ⟨L[i], by rw [List.take_append_of_le_length (by omega), List.take_add_one, List.getElem?_eq_getElem h]; rfl⟩
    · obtain rfl : i = L.length := by omega
      exact ⟨z, by rw [List.take_append, List.take_of_length_le (by omega), List.take_length]; simp⟩
  have hl : (L.take i).length = i := by rw [List.length_take]; omega
  rw [hy, List.append_assoc, List.set_append_right _ _ (by omega), hl, Nat.sub_self]
  rfl
/-- Rising rows with the same numbers are one. -/
theorem up_ext : ∀ l l' : List Nat, l.Pairwise (· < ·) → l'.Pairwise (· < ·) → (∀ x, x ∈ l ↔ x ∈ l') → l = l'
  | [], [], _, _, _ => rfl
  | [], b :: l', _, _, h => absurd ((h b).2 (List.mem_cons_self ..)) (by simp)
  | a :: l, [], _, _, h => absurd ((h a).1 (List.mem_cons_self ..)) (by simp)
  | a :: l, b :: l', h1, h2, h => by
    rw [List.pairwise_cons] at h1 h2
    have hab : a = b := by
      rcases List.mem_cons.1 ((h a).1 (List.mem_cons_self ..)) with e | e
      · exact e
      · rcases List.mem_cons.1 ((h b).2 (List.mem_cons_self ..)) with e2 | e2
        · exact e2.symm
        · have := h2.1 a e; have := h1.1 b e2; omega
    subst hab
    rw [up_ext l l' h1.2 h2.2 fun x => ?_]
    constructor
    · intro hx
      rcases List.mem_cons.1 ((h x).1 (List.mem_cons_of_mem _ hx)) with e | e
      · have := h1.1 x hx; omega
      · exact e
    · intro hx
      rcases List.mem_cons.1 ((h x).2 (List.mem_cons_of_mem _ hx)) with e | e
      · have := h2.1 x hx; omega
      · exact e
def setsL (F : Nat → Bool) : List Nat := (List.range 64).filter F
theorem sets_up (F : Nat → Bool) : (setsL F).Pairwise (· < ·) := List.Pairwise.filter _ (List.pairwise_lt_range)
theorem sets_mem {F : Nat → Bool} (hd : ∀ s, F s = true → s < 64) (x : Nat) : x ∈ setsL F ↔ F x = true := by
  unfold setsL
  rw [List.mem_filter, List.mem_range]
  exact ⟨fun h => h.2, fun h => ⟨hd x h, h⟩⟩
theorem sets_len (F : Nat → Bool) : (setsL F).length ≤ 64 := by
  unfold setsL
  exact Nat.le_trans (List.length_filter_le ..) (by simp)
theorem sets_inj {F G : Nat → Bool} (hF : ∀ s, F s = true → s < 64) (hG : ∀ s, G s = true → s < 64) : setsL F = setsL G ↔ F = G := by
  refine ⟨fun h => funext fun s => ?_, fun h => by rw [h]⟩
  rw [Bool.eq_iff_iff, ← sets_mem hF, ← sets_mem hG, h]
/-- What has come so far, rising. -/
structure UpL (F left : Nat → Bool) (l : List Nat) : Prop where
  up : l.Pairwise (· < ·)
  mem : ∀ x, x ∈ l ↔ F x = true ∧ left x = false
  few : l.length ≤ 64
theorem up_len : ∀ (n : Nat) (l : List Nat), l.Pairwise (· < ·) → (∀ x ∈ l, x < n) → l.length ≤ n := by
  intro n l h hx
  exact nodup_few n l (h.imp fun h => Nat.ne_of_lt h) hx
theorem up_start (F : Nat → Bool) : UpL F F [] := ⟨List.Pairwise.nil, fun x => ⟨fun h => (by cases h), fun h => by rw [h.1] at h; cases h.2⟩, Nat.zero_le _⟩
theorem up_end {F left : Nat → Bool} {l : List Nat} (h : UpL F left l) (hd : ∀ s, F s = true → s < 64) (hl : ∀ s, s < 64 → left s = false) : l = setsL F :=
  up_ext l _ h.up (sets_up F) fun x => by rw [h.mem, sets_mem hd]; exact ⟨fun h => h.1, fun e => ⟨e, hl x (hd x e)⟩⟩
theorem up_ins {F left : Nat → Bool} {l : List Nat} {s i : Nat} (h : UpL F left l) (hd : ∀ s, F s = true → s < 64) (hF : F s = true) (hls : left s = true) (hi : i ≤ l.length) (h1 : ∀ j, i ≤ j → j < l.length → s < l.getD j 0) (h2 : i = 0 ∨ l.getD (i - 1) 0 ≤ s) :
    UpL F (fun u => left u && !(u == s)) (l.take i ++ s :: l.drop i) := by
  have hsn : s ∉ l := fun e => by have := ((h.mem s).1 e).2; rw [hls] at this; cases this
  have hlo : ∀ x ∈ l.take i, x < s := fun x hx => by
    obtain ⟨j, hj, e⟩ := List.getElem_of_mem hx
    rw [List.length_take] at hj
    rw [List.getElem_take] at e
    have hi1 : i - 1 < l.length := by omega
    have h3 : l[i - 1] ≤ s := by
      rcases h2 with h2 | h2
      · omega
      · rwa [List.getD_eq_getElem?_getD, List.getElem?_eq_getElem hi1] at h2
    have h4 : l[j] ≤ l[i - 1] := by
      rcases Nat.lt_or_ge j (i - 1) with h5 | h5
      · exact Nat.le_of_lt (List.pairwise_iff_getElem.1 h.up j (i - 1) (by omega) hi1 h5)
      · have : j = i - 1 := by omega
        subst this
        exact Nat.le_refl _
    have h5 : x ≠ s := fun e2 => hsn (by rw [← e2, ← e]; exact List.getElem_mem _)
    omega
  have hhi : ∀ x ∈ l.drop i, s < x := fun x hx => by
    obtain ⟨j, hj, e⟩ := List.getElem_of_mem hx
    rw [List.length_drop] at hj
    rw [List.getElem_drop] at e
    have := h1 (i + j) (by omega) (by omega)
    rw [List.getD_eq_getElem?_getD, List.getElem?_eq_getElem (by omega)] at this
    rw [← e]
    exact this
  have hm : ∀ x, x ∈ l.take i ++ s :: l.drop i ↔ x ∈ l ∨ x = s := fun x => by
    rw [List.mem_append, List.mem_cons]
    constructor
    · rintro (h | rfl | h)
      · exact .inl (List.mem_of_mem_take h)
      · exact .inr rfl
      · exact .inl (List.mem_of_mem_drop h)
    · rintro (h | rfl)
      · rw [← List.take_append_drop i l, List.mem_append] at h
        exact h.elim .inl fun h => .inr (.inr h)
      · exact .inr (.inl rfl)
  have hup : (l.take i ++ s :: l.drop i).Pairwise (· < ·) := by
    rw [List.pairwise_append, List.pairwise_cons]
    refine ⟨h.up.take, ⟨hhi, h.up.drop⟩, fun a ha b hb => ?_⟩
    rcases List.mem_cons.1 hb with e | e
    · rw [e]; exact hlo a ha
    · exact Nat.lt_trans (hlo a ha) (hhi b e)
  have hmem : ∀ x, x ∈ l.take i ++ s :: l.drop i ↔ F x = true ∧ (left x && !(x == s)) = false := fun x => by
    rw [hm, h.mem]
    by_cases e : x = s
    · subst e; simp [hF]
    · rw [beq_eq_false_iff_ne.2 e, Bool.not_false, Bool.and_true]; simp [e]
  exact ⟨hup, hmem, up_len 64 _ hup fun x hx => hd x ((hmem x).1 hx).1⟩
theorem UpL.congr {F left : Nat → Bool} {l l' : List Nat} (h : UpL F left l) (e : l = l') : UpL F left l' := e ▸ h
/-- The row, as cells. -/
theorem OwnU.cells {w : World} {base g cap : Nat} {zs : List Nat} {n : Nat} (h : OwnU w base (.slice (some ⟨g, 0, none⟩) n cap) zs) (hn : n = zs.length) (h0 : 0 < n) : ∃ R : List Value, w.heap[g]? = some (.cells (uintsV zs ++ R).toArray 22 (0, 0)) ∧ (uintsV zs ++ R).length = cap ∧ base ≤ g ∧ n ≤ cap ∧ cap ≤ maxLen := by
  subst hn
  rcases h.2 with ⟨_, h9⟩ | ⟨g', cap', cur, e, hg, hgc, hle, hcm, hcs, hct⟩
  · omega
  · cases e
    refine ⟨cur.toList.drop zs.length, ?_, ?_, hg, hle, hcm⟩
    · rw [Nat.mul_one] at hct
      rw [← hct, List.take_append_drop]
      simpa using hgc
    · rw [Nat.mul_one] at hct hcs
      rw [← hct, List.take_append_drop]
      simpa using hcs
theorem ownU_of {w : World} {base g cap : Nat} {zs : List Nat} {R : List Value} (h : w.heap[g]? = some (.cells (uintsV zs ++ R).toArray 22 (0, 0))) (hl : (uintsV zs ++ R).length = cap) (hb : base ≤ g) (hc : cap ≤ maxLen) (hn : zs.length ≤ cap) : OwnU w base (.slice (some ⟨g, 0, none⟩) zs.length cap) zs := by
  refine ⟨by unfold uintsV; simp, .inr ⟨g, cap, _, rfl, hb, h, hn, hc, by simpa using hl, ?_⟩⟩
  have hz : (uintsV zs).length = zs.length := by unfold uintsV; simp
  rw [Nat.mul_one]
  simp only
  rw [List.take_append_of_le_length (by omega), List.take_of_length_le (by omega)]
theorem OwnU.row1 {w : World} {base : Nat} {v : Value} {l : List Nat} (h : OwnU w base v (l ++ [0])) : ∃ g cap, ∃ R : List Value, v = .slice (some ⟨g, 0, none⟩) (l.length + 1) cap ∧ w.heap[g]? = some (.cells (uintsV l ++ .int .u64 0 :: R).toArray 22 (0, 0)) ∧ (uintsV l ++ .int .u64 0 :: R).length = cap ∧ base ≤ g ∧ l.length + 1 ≤ cap ∧ cap ≤ maxLen := by
  have hl : (l ++ [0]).length = l.length + 1 := by simp
  rcases h.2 with ⟨_, h9⟩ | ⟨g, cap, cur, rfl, hr⟩
  · omega
  · obtain ⟨R, h1, h2, h3, h4, h5⟩ := h.cells rfl (by omega)
    have e : uintsV (l ++ [0]) ++ R = uintsV l ++ .int .u64 0 :: R := by unfold uintsV; simp
    rw [e] at h1 h2
    rw [hl] at h4 ⊢
    exact ⟨g, cap, R, rfl, h1, h2, h3, h4, h5⟩
/-- Where Sets stands. -/
structure StsI (w : World) (gF r : Nat) (F left : Nat → Bool) (vo : Value) (wr : World) : Prop where
  rng : RngU wr gF r F left
  own : ∃ l, OwnU wr (r + 1) vo l ∧ UpL F left l
  bel : Below w.heap.size w wr
  ge : w.heap.size ≤ r ∧ gF < r
theorem RngU.same {w w' : World} {g r : Nat} {f left : Nat → Bool} (h : RngU w g r f left) (hb : w'.heap[g]? = w.heap[g]?) (hr : w'.heap[r]? = w.heap[r]?) : RngU w' g r f left ∧ w'.rangeLeft g r = w.rangeLeft g r := by
  refine ⟨?_, by unfold World.rangeLeft; rw [hb, hr]⟩
  obtain ⟨D, lf, cnt, ⟨es, clock, since, seen, c0, q1, q2, q3, q4, q5, rest⟩, h4, h5⟩ := h
  exact ⟨D, lf, cnt, ⟨es, clock, since, seen, c0, hb.trans q1, q2, q3, q4, hr.trans q5, rest⟩, h4, h5⟩
theorem sts_end {w w9 w10 : World} {gF r g9 c9 i m s : Nat} {F left : Nat → Bool} {l : List Nat} {L D R : List Value} (hR : RngU w9 gF r F left) (hB : Below w.heap.size w w9) (hge : w.heap.size ≤ r ∧ gF < r) (hg9 : r + 1 ≤ g9)
    (hg10 : w10.heap[g9]? = some (.cells (splice (L ++ .int .u64 0 :: R) m D).toArray 22 (0, 0))) (hb10 : Below g9 w9.drew w10) (hu : UpL F left (l.take i ++ s :: l.drop i)) (hL : uintsV l = L) (hD : L.drop i = D) (hm : i + 1 = m)
    (hi : i ≤ l.length) (hRl : (L ++ .int .u64 0 :: R).length = c9) (hc9 : l.length + 1 ≤ c9) (hc9m : c9 ≤ maxLen) :
    StsI w gF r F left (.slice (some ⟨g9, 0, none⟩) (l.length + 1) c9) (w10.setCell ⟨g9, i, none⟩ (.int .u64 (s : Int))) ∧ (w10.setCell ⟨g9, i, none⟩ (.int .u64 (s : Int))).rangeLeft gF r = w9.rangeLeft gF r ∧ ∃ v, w10.cell? ⟨g9, i, none⟩ = some v := by
  subst hm hD hL
  have hLl : (uintsV l).length = l.length := by unfold uintsV; simp
  have k10 : ∀ k, k < g9 → (w10.setCell ⟨g9, i, none⟩ (.int .u64 (s : Int))).heap[k]? = w9.heap[k]? := fun k hk => (Below.heap_setCell w10 _ _ k (by show k ≠ g9; omega)).trans (hb10.block k hk)
  obtain ⟨r1, r2⟩ := hR.same (k10 gF (by omega)) (k10 r (by omega))
  have hbk : Blk w10 g9 22 (splice (uintsV l ++ .int .u64 0 :: R) (i + 1) ((uintsV l).drop i)).toArray := hg10
  have hset := hbk.set_ i (.int .u64 (s : Int))
  have hins := ins_cells (uintsV l) (.int .u64 0) (.int .u64 (s : Int)) R i (by rw [hLl]; exact hi)
  have hcell : (splice (uintsV l ++ .int .u64 0 :: R) (i + 1) ((uintsV l).drop i)).length = c9 := by
    rw [length_splice _ _ _ (by rw [hRl, List.length_drop, hLl]; omega), hRl]
  have hheap : (w10.setCell ⟨g9, i, none⟩ (.int .u64 (s : Int))).heap[g9]? = some (.cells (uintsV (l.take i ++ s :: l.drop i) ++ R).toArray 22 (0, 0)) := by
    have e : uintsV (l.take i ++ s :: l.drop i) ++ R = (splice (uintsV l ++ .int .u64 0 :: R) (i + 1) ((uintsV l).drop i)).set i (.int .u64 (s : Int)) := by
      rw [hins]
      unfold uintsV
      simp [List.map_take, List.map_drop]
    rw [e]
    have h2 : _ = _ := hset
    rw [h2]
    simp
  have hzl : (l.take i ++ s :: l.drop i).length = l.length + 1 := by simp; omega
  refine ⟨⟨r1, ⟨_, ?_, hu⟩, ?_, hge⟩, r2, ?_⟩
  · have := ownU_of (base := r + 1) hheap (cap := c9) (by
      have := congrArg List.length hins
      rw [List.length_set, hcell] at this
      unfold uintsV at this ⊢
      simp at this ⊢
      omega) hg9 hc9m (by rw [hzl]; exact hc9)
    rw [hzl] at this
    exact this
  · have h1 : Below w.heap.size w w10 := hB.drew.trans (hb10.mono (by omega))
    exact h1.trans ((Below.refl w.heap.size w10).setCell (show w.heap.size ≤ g9 by omega) _)
  · rw [hbk.cell i]
    exact ⟨_, by rw [List.getElem?_toArray, List.getElem?_eq_getElem (by rw [hcell]; omega)]⟩
def SetsP (w : World) (F : Nat → Bool) (e : Ending) (w' : World) : Prop := ∃ v, e = .returned v ∧ OwnU w' w.heap.size v (setsL F) ∧ Below w.heap.size w w'
theorem OwnU.mono {w : World} {base base' : Nat} {v : Value} {zs : List Nat} (h : OwnU w base v zs) (hb : base' ≤ base) : OwnU w base' v zs := by
  refine ⟨h.1, ?_⟩
  rcases h.2 with h2 | ⟨g, cap, cur, e, hg, r⟩
  · exact .inl h2
  · exact .inr ⟨g, cap, cur, e, Nat.le_trans hb hg, r⟩
set_option maxRecDepth 100000 in
set_option maxHeartbeats 8000000 in
theorem refSets_any (gF : Nat) (F : Nat → Bool) (w : World) (h : MapU w gF F) :
    Calls Tryd.prog 21 #[.map (some gF)] w (SetsP w F) := by
  have hdom := Lib.hid (fun s (e : F s = true) => h.dom e)
  have hgl := h.lt
  have HM := hide h
  clear h
  go_enter Tryd.func21, Tryd.ntmps21
  go_wp2_with (first
    | (at_range; refine rangeU rfl _ 46 rfl Tryd.underlying46 rfl HM.out ?_; intro w1 hr1 hg1 hs1)
    | fail)
  go_frame
  have HST := hide (show StsI w gF w.heap.size F F (.slice none 0 0) w1 from ⟨hr1, ⟨[], ownU_nil _ _, up_start F⟩, (Below.refl _ _).grown hg1 (Nat.le_refl _) (fun j hj => by cases hj), Nat.le_refl _, hgl⟩)
  clear hr1 hg1 hs1 HM
  generalize hr : w.heap.size = r at HST ⊢
  have HR := Lib.hid hr
  clear hr
  go_loopw [3, 4, 5] (fun vo _ _ wr => ∃ left : Nat → Bool, Hid (StsI w gF r F left vo wr)) (fun _ _ _ wr => wr.rangeLeft gF r)
  case atStart => exact ⟨F, HST⟩
  case round =>
    clear HST
    obtain ⟨left, hI⟩ := hrel
    obtain ⟨wo, rfl⟩ : ∃ wo, wo = wr := ⟨_, rfl⟩
    have HRG := hide hI.out.rng
    go_wp2_with (first
      | (at_next; refine nextU rfl _ rfl rfl HRG.out ?_ ?_)
      | fail)
    · intro hl0
      obtain ⟨l, ho, hu⟩ := hI.out.own
      have HP := hide (show SetsP w F (.returned u3) wo from ⟨_, rfl, by
        rw [← up_end hu (fun s => hdom.out s) hl0]
        exact ho.mono (by have := hI.out.ge.1; omega), hI.out.bel⟩)
      clear hI HRG hl0 ho hu
      go_wp2
      go_ret
      exact HP.out
    · intro s w1 hs64 hls hFs hr1 hg1 hsz1 hlt1 hen
      obtain ⟨l, ho, hu⟩ := hI.out.own
      obtain ⟨Al, cl, rfl⟩ := ho.len
      have HO1 := hide (show OwnU w1 (r + 1) (.slice Al l.length cl) l from World.ownsRow.kept ho hg1 (by
        cases e : (Value.slice Al l.length cl).ownBlock with
        | none => exact .inl rfl
        | some k => exact .inr (fun e2 => by have := (World.ownsRow.lt ho k e).1; injection e2 with e2; omega)))
      have HR1 := hide hr1
      have HB1 := hide (hI.out.bel.grown hg1 hI.out.bel.size (fun j hj => by cases hj; exact hI.out.ge.1))
      have hge := hI.out.ge
      have HU := hide hu
      have hfew := hu.few
      have HLT := Lib.hid hlt1
      clear hI HRG hr1 hg1 ho hu hlt1 hsz1
      go_wp2
      go_loopw [5] (fun iv wr => ∃ i : Nat, i ≤ l.length ∧ iv = .int .i64 i ∧ (∀ j, i ≤ j → j < l.length → s < l.getD j 0) ∧ wr = w1) (fun iv _ => (intOf iv).toNat)
      case atStart => exact ⟨l.length, Nat.le_refl _, rfl, fun j h1 h2 => by omega, rfl⟩
      case round =>
        obtain ⟨i, hi, rfl, hJ, rfl⟩ := hrel
        have HJ := Lib.hid hJ
        clear hJ
        by_cases hgo : 0 < i ∧ s < l.getD (i - 1) 0
        · obtain ⟨gl, c2, e, hc, _⟩ := HO1.out.at_ (k := i - 1) (by omega)
          cases e
          have HJ2 := Lib.hid (show ∀ j, i - 1 ≤ j → j < l.length → s < l.getD j 0 from fun j h1 h2 => by
            rcases Nat.lt_or_ge j i with h3 | h3
            · rw [show j = i - 1 by omega]; exact hgo.2
            · exact HJ.out j h3 h2)
          obtain ⟨k, rfl⟩ : ∃ k, i = k + 1 := ⟨i - 1, by omega⟩
          have hg2 := hgo.2
          rw [Nat.add_sub_cancel] at hc HJ2 hg2
          generalize l.getD k 0 = x at hc hg2
          have hcmp : decide ((s : Int) < (x : Int)) = true := decide_eq_true (by omega)
          have hkl : (k : Int) < (l.length : Int) := by omega
          clear hgo HJ
          go_wp2
          go_roundw
          case rel => exact ⟨k, by omega, by go_num, HJ2.out, by first | trivial | rfl⟩
          case measure => simp [intOf]
        · have hexit : (¬ (0 < i) ∨ ∃ (k : Nat) (gl : Nat) (x : Nat), Al = some ⟨gl, 0, none⟩ ∧ 0 < i ∧ IntKind.i64.wrap ((i : Int) - 1) = (k : Int) ∧ (i : Int) - 1 = (k : Int) ∧ (k : Int) < (l.length : Int) ∧ wr.cell? ⟨gl, k, none⟩ = some (.int .u64 (x : Int)) ∧ ¬ (s < x)) ∧ (i = 0 ∨ l.getD (i - 1) 0 ≤ s) := by
            rcases Nat.eq_zero_or_pos i with h0 | h0
            · exact ⟨.inl (by omega), .inl h0⟩
            · obtain ⟨gl, c2, e, hc, _⟩ := HO1.out.at_ (k := i - 1) (by omega)
              cases e
              refine ⟨.inr ⟨i - 1, gl, _, rfl, h0, by rw [IntKind.wrap_i64]; omega, by omega, by omega, hc, by omega⟩, .inr (by omega)⟩
          have H2 := Lib.hid hexit.2
          have hex := hexit.1
          have hins := Lib.hid (up_ins HU.out (fun u => hdom.out u) hFs hls hi HJ.out H2.out)
          have hal := (Below.refl wr.heap.size wr).alloc (Nat.le_refl _) (.cells #[.int .u64 0] 22)
          have HOA := hide (HO1.out.below hal)
          have HCE := Lib.hid (show (wr.alloc (.cells #[.int .u64 0] 22)).cell? ⟨wr.heap.size, 0, none⟩ = some (.int .u64 ((0 : Nat) : Int)) from (Blk.new wr _ _).cell 0)
          have HBA := hide (HB1.out.trans (hal.mono HB1.out.size))
          have hrl := HR1.out.ltr
          have HSA := Lib.hid (show r + 1 ≤ (wr.alloc (.cells #[.int .u64 0] 22)).heap.size by have := hal.size; omega)
          have HRA := hide (HR1.out.kept (World.grownBy_alloc wr (.cells #[.int .u64 0] 22) none) (by simp) (by simp))
          have HLA := Lib.hid (HR1.out.left_kept (World.grownBy_alloc wr (.cells #[.int .u64 0] 22) none) (by simp) (by simp))
          obtain ⟨m, hm⟩ : ∃ m, i + 1 = m := ⟨_, rfl⟩
          have HM := Lib.hid hm
          have hwr : IntKind.i64.wrap ((i : Int) + 1) = (m : Int) := by rw [IntKind.wrap_i64]; omega
          have hb1 : (m : Int) ≤ (l.length : Int) + 1 := by omega
          have hb0 : (i : Int) ≤ (l.length : Int) + 1 := by omega
          have hgeb : w.heap.size ≤ r := hge.1
          have hi0 : (i : Int) < (l.length : Int) + 1 := by omega
          clear hal hgo hexit hm hrl
          rcases hex with h0 | ⟨k, gl, x, rfl, h0, hk1, hk2, hk3, hc, hcmp⟩
          all_goals
            go_upto_region 9 with (first
              | (at_builtin; refine appU _ rfl _ _ _ rfl (r + 1) Tryd.underlying38 _ l rfl HOA.out wr.heap.size 1 0 rfl HCE.out (by omega) HSA.out ?_; intro v9 w9 ho9 hg9; obtain ⟨g9, c9, R, rfl, hrow, hRl, hg9b, hc9, hc9m⟩ := ho9.row1; have HRW := Lib.hid hrow; have hne := fun k e => (World.ownsRow.lt HOA.out k e).1; have HR9 := hide (HRA.out.kept hg9 (fun e => by have := hne _ e.symm; omega) (fun e => by have := hne _ e.symm; omega)); have HL9 := Lib.hid ((HRA.out.left_kept hg9 (fun e => by have := hne _ e.symm; omega) (fun e => by have := hne _ e.symm; omega)).trans HLA.out); have HB9 := hide (HBA.out.grown hg9 HBA.out.size (fun j hj => by have := hne _ hj; omega)); clear ho9 hg9 hrow hne)
              | fail)
            clear HRA HLA HOA HCE HSA HBA HR1 HB1 HO1 h0
            have hLl : (uintsV l).length = l.length := by unfold uintsV; simp
            have hc9I : (m : Int) ≤ (c9 : Int) := by have := HM.out; omega
            have hc9J : (i : Int) < (c9 : Int) := by omega
            obtain ⟨L, hL⟩ : ∃ L, uintsV l = L := ⟨_, rfl⟩
            have HLE := Lib.hid hL
            rw [hL] at HRW hLl hRl
            clear hL
            obtain ⟨D, hD⟩ : ∃ D, L.drop i = D := ⟨_, rfl⟩
            have hDl : D.length = l.length - i := by rw [← hD, List.length_drop, hLl]
            have HD1 := Lib.hid (show ∀ v ∈ D, v.oneCell' = true from fun v hv => by
              rw [← hD] at hv
              have := List.mem_of_mem_drop hv
              rw [← HLE.out] at this
              obtain ⟨y, _, rfl⟩ := List.mem_map.1 this
              rfl)
            have HSR := Lib.hid (show ∀ j v, D[j]? = some v → w9.drew.cell? ((⟨g9, i, none⟩ : Addr).add j) = some v from fun j v hv => by
              have hlt : i + j < L.length := by
                rw [← hD, List.getElem?_drop] at hv
                exact (List.getElem?_eq_some_iff.1 hv).1
              have e : (⟨g9, i, none⟩ : Addr).add j = ⟨g9, i + j, none⟩ := by
                unfold Addr.add
                split
                · rename_i h0; rw [h0]; simp
                · simp
              rw [e]
              show w9.cell? _ = _
              rw [cell_of_row w9 g9 (i + j) _ _ _ HRW.out, ← hv, ← hD, List.getElem?_drop]
              simp only [List.getElem?_toArray]
              rw [List.getElem?_append_left hlt])
            have HDE := Lib.hid hD
            clear hD
            have hBg : w.heap.size ≤ g9 := by omega
            have HRWd := Lib.hid (show w9.drew.heap[g9]? = some (.cells (L ++ .int .u64 0 :: R).toArray 22 (0, 0)) from HRW.out)
            go_wp2
            go_still_tail 7, (by kernel_rfl)
            change wpList _ _ _ _ _ w9.drew
            have hDn : D.length = Nat.min (l.length + 1 - i) (l.length + 1 - m) := by show _ = min _ _; have := HM.out; omega
            have hfit : m + D.length ≤ (L ++ .int .u64 0 :: R).length := by have := HM.out; rw [hRl]; omega
            have hc9n : 0 < D.length → c9 ≠ m ∧ c9 ≠ i := fun h => by have := HM.out; omega
            refine wpList_copy_splice rfl (.tmp 33) (.tmp 36) 38 38 rfl 22 Tryd.underlying38 (by kernel_rfl) _ _ _ _ _ _ rfl rfl g9 m (L ++ .int .u64 0 :: R) 22 HRWd.out D hDn (fun h => ⟨if_neg (hc9n h).1, ⟨g9, i, none⟩, if_neg (hc9n h).2, HSR.out⟩) hfit HD1.out g9 w9.drew (Below.refl _ _) (Nat.le_refl _) ?_
            intro w10 hg10 hb10
            obtain ⟨hN1, hN2, v10, hN3⟩ := sts_end (s := s) (F := F) (left := fun u => left u && !(u == s)) HR9.out HB9.out hge hg9b hg10.out hb10 hins.out HLE.out HDE.out HM.out hi hRl hc9 hc9m
            have HN := hide hN1
            have HNL := Lib.hid (hN2.trans HL9.out)
            have f10 := (show Blk w10 g9 22 _ from hg10.out).frozen i
            clear hN1 hN2 hb10 hg10 hDn hfit hc9n hRl
            go_wp2
            go_roundw
            case rel => exact ⟨_, HN⟩
            case measure => rw [HNL.out]; exact HLT.out
end Go.Proofs.YtdlcldhnbhlikaaDoor
