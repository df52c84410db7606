/-
  made's helpers: DeleteFunc of empty spans; the sort.
-/
import Derived.Test.YtbmmkhehejoidaaGreatDoorSpM
import Derived.Test.YtbmmkhehejoidaaGreatDoorRgLay
namespace Go.Proofs.YtbmmkhehejoidaaGreatDoor
open Go.RowKit

theorem isAggSp : ∀ w, (isAgg 67).run Tryz.prog w = .ok true w := fun w => by kernel_rfl
theorem sizeOfSp : ∀ w, (Go.sizeOf 67).run Tryz.prog w = .ok 2 w := fun w => by kernel_rfl
def emptyS (x : Nat × Nat) : Bool := decide (x.2 ≤ x.1)
def Made1P (x : Nat × Nat) (w : World) (e : Ending) (w' : World) : Prop := e = .returned (.bool (emptyS x)) ∧ Below w.heap.size w w'
theorem made1_any (x : Nat × Nat) (w : World) : Calls Tryz.prog 60 #[.agg #[.int .i64 (x.1 : Int), .int .i64 (x.2 : Int)]] w (Made1P x w) := by
  have hE : emptyS x = decide ((x.1 : Int) ≥ (x.2 : Int)) := by unfold emptyS; by_cases h : x.2 ≤ x.1 <;> simp [h] <;> omega
  unfold Made1P
  rw [hE]
  go_enter Tryz.func60, Tryz.ntmps60
  go_wp2
  all_goals (go_ret; exact ⟨by first | rfl | simp_all, (Below.refl _ _).alloc (Nat.le_refl _) _⟩)
theorem enters_made1 : ∀ args w, (callFunc 60 args).run Tryz.prog w = .ok (.enter 60 args) w := enters_of Tryz.func60 (by kernel_rfl) rfl
theorem made1_pred (w : World) : PredBelow Tryz.prog 60 #[] (fun x => .agg (spV x).toArray) emptyS w := fun W x hb =>
  (made1_any x W).mono fun _ _ ⟨he, hw⟩ => ⟨he, hb.trans (hw.mono hb.size)⟩
theorem enters_made2 : ∀ args w, (callFunc 62 args).run Tryz.prog w = .ok (.enter 62 args) w := enters_of Tryz.func62 (by kernel_rfl) rfl
def cfS (x y : Nat × Nat) : Int := Lib.compareInt (x.1 : Int) (y.1 : Int)
theorem ltS (x y : Nat × Nat) : ltOf cfS x y = decide (x.1 < y.1) := by
  unfold ltOf cfS Lib.compareInt
  by_cases h1 : x.1 < y.1
  · simp [h1]
  · by_cases h2 : y.1 < x.1 <;> simp [h1, h2]
theorem swoS : Sort.SWO (ltOf cfS) where
  irrefl x := by rw [ltS]; simp
  trans x y z h1 h2 := by rw [ltS] at *; simp at *; omega
  ntrans x y z h1 h2 := by rw [ltS] at *; simp at *; omega
def Made2P (x y : Nat × Nat) (W : World) (e : Ending) (w' : World) : Prop := e = .returned (.int .i64 (cfS x y)) ∧ ∃ q os', w' = Sort.grow (W.drewN q) os'
theorem made2_any (x y : Nat × Nat) (W : World) : Calls Tryz.prog 62 #[.agg #[.int .i64 (x.1 : Int), .int .i64 (x.2 : Int)], .agg #[.int .i64 (y.1 : Int), .int .i64 (y.2 : Int)]] W (Made2P x y W) := by
  have hcon := fun W' => AnyG.cmp_Compare_int Tryz.cmpInt (x.1 : Int) (y.1 : Int) W'
  change ∀ W', Calls Tryz.prog 63 _ _ _ at hcon
  unfold Made2P cfS
  generalize Lib.compareInt (x.1 : Int) (y.1 : Int) = r at hcon ⊢
  go_enter Tryz.func62, Tryz.ntmps62
  go_wp2_with (go_at_call 63; refine (hcon _).mono ?_; rintro e w' ⟨rfl, rfl⟩)
  go_ret
  exact ⟨rfl, 0, _, by rw [Sort.alloc_eq_grow, Sort.alloc_eq_grow, Sort.grow_grow]; rfl⟩
theorem made2_lays (blk off size : Nat) (w : World) : CmpLays Tryz.prog 62 #[] spV 2 cfS blk off size w := fun _ _ _ _ x y => made2_any x y _
/-! ### The sort -/
def SortP (w : World) (g cap : Nat) (d : Array (Nat × Nat)) (e : Ending) (w' : World) : Prop :=
  e = .returned (.tuple #[]) ∧ w.grownBy w' (some g) ∧ ∃ d', RowS w' g cap d' ∧ d'.toList.Perm d.toList ∧ RiseS d'.toList
theorem sort_any (g cap : Nat) (d : Array (Nat × Nat)) (w : World) (h : RowS w g cap d) (hsz : d.size < 4611686018427387904) :
    Calls Tryz.prog 61 #[.slice (some ⟨g, 0, none⟩) d.size cap, .func (.func 62) #[] #[]] w (SortP w g cap d) := by
  refine (AnyQ.slices_SortFunc Tryz.sortSp 2 isAggSp sizeOfSp spV (fun _ => rfl) (fun x v hv => by simp [spV] at hv; rcases hv with rfl | rfl <;> rfl) cfS swoS 62 #[] g 0 cap d w enters_made2 (made2_lays _ _ _ _) h.holds h.lt hsz).mono ?_
  rintro e w' ⟨rfl, d', n, os, hp, hs, rfl⟩
  refine ⟨rfl, only_sorted, d', h.sorted hp.1, ?_, ?_⟩
  · have h2 := hp.2.2
    have e1 : d'.extract 0 d.size = d' := by rw [← hp.1]; simp
    have e2 : d.extract 0 d.size = d := by simp
    rw [e1, e2] at h2
    exact h2
  · unfold RiseS
    rw [List.pairwise_iff_getElem]
    intro i j hi hj hij
    have hi' : i < d'.size := by simpa using hi
    have hj' : j < d'.size := by simpa using hj
    have := hs i j (Nat.zero_le _) hij (by rw [← hp.1]; exact hj')
    rw [ltS, getElem!_pos d' j hj', getElem!_pos d' i hi'] at this
    simp at this ⊢
    exact this
/-! ### DeleteFunc -/
theorem idx_spec {α : Type} [Inhabited α] (p : α → Bool) : ∀ (l : List α) (i : Nat), (Lib.idxByFrom (fun _ y => p y) default l i = -1 ∧ ∀ j, j < l.length → p l[j]! = false) ∨ ∃ k, k < l.length ∧ Lib.idxByFrom (fun _ y => p y) default l i = ((i + k : Nat) : Int) ∧ p l[k]! = true ∧ ∀ j, j < k → p l[j]! = false
  | [], _ => .inl ⟨rfl, fun j hj => absurd hj (Nat.not_lt_zero _)⟩
  | y :: r, i => by
    cases h : p y with
    | true => exact .inr ⟨0, by simp, by simp [Lib.idxByFrom, h], by simpa using h, fun j hj => absurd hj (Nat.not_lt_zero _)⟩
    | false =>
      rcases idx_spec p r (i + 1) with ⟨e, ha⟩ | ⟨k, hk, e, ht, ha⟩
      · refine .inl ⟨by simp [Lib.idxByFrom, h, e], fun j hj => ?_⟩
        cases j with
        | zero => simpa using h
        | succ j => simpa using ha j (by simpa using hj)
      · refine .inr ⟨k + 1, by simpa using hk, by simp only [Lib.idxByFrom, h]; rw [show (if false = true then (i : Int) else Lib.idxByFrom (fun _ y => p y) default r (i + 1)) = Lib.idxByFrom (fun _ y => p y) default r (i + 1) from rfl, e]; congr 1; omega, by simpa using ht, fun j hj => ?_⟩
        cases j with
        | zero => simpa using h
        | succ j => simpa using ha j (by omega)
def IdxP (w : World) (d : Array (Nat × Nat)) (e : Ending) (w' : World) : Prop := e = .returned (.int .i64 (Lib.idxByFrom (fun _ y => emptyS y) default d.toList 0)) ∧ Below w.heap.size w w'
theorem idx_any (g cap : Nat) (d : Array (Nat × Nat)) (w : World) (h : RowS w g cap d) (hsz : d.size ≤ 9223372036854775807) :
    Calls Tryz.prog 65 #[.slice (some ⟨g, 0, none⟩) d.size cap, .func (.func 60) #[] #[]] w (IdxP w d) := by
  have hI := AnyQ.slices_IndexFunc Tryz.idxSp 2 isAggSp sizeOfSp spV (fun _ => rfl) emptyS 60 #[] enters_made1 g 0 d.size cap d.toList w (made1_pred w) (by simp) hsz h.lt (fun j hj i v hv => by
    have hj' : j < d.size := by simpa using hj
    obtain ⟨c0, c1⟩ := h.cell hj'
    have e : d.toList[j]! = d[j]! := by
      rw [getElem!_pos d _ hj', getElem!_pos d.toList _ hj]
      simp
    rw [e] at hv
    rw [Nat.zero_add]
    match i, hv with
    | 0, hv => rw [← hv]; exact c0
    | 1, hv => rw [← hv]; exact c1
    | i + 2, hv => cases hv)
  rw [List.take_of_length_le (by simp)] at hI
  exact hI
set_option maxRecDepth 100000 in
theorem idxNil_any (w : World) : Calls Tryz.prog 65 #[.slice none 0 0, .func (.func 60) #[] #[]] w (IdxP w #[]) := by
  unfold IdxP
  go_enter Tryz.func65, Tryz.ntmps65
  go_wp2
  go_loopw [8] (fun iv wr => iv = .int .i64 0 ∧ wr = w) (fun _ _ => 0)
  case atStart => exact ⟨rfl, rfl⟩
  case round =>
    obtain ⟨rfl, rfl⟩ := hrel
    go_wp2
    go_ret
    exact ⟨rfl, Below.refl _ _⟩
end Go.Proofs.YtbmmkhehejoidaaGreatDoor
