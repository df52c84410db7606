/-
  An arena in memory; New, Has, Get, Top, Len.
-/
import Derived.Test.YtfbhmkpihmcegaaDoorArenaArr
import Derived.Test.YtfbhmkpihmcegaaDoorFind
import Derived.Deep.QuietTactic
import Derived.BigQuiet
import Derived.BigRegion
import Derived.IntWalk
namespace Go.Proofs.YtfbhmkpihmcegaaDoor
open Go.RowKit

def hashN (n : Nd) : Nat := (n.var * 2654435761 + n.low * 2246822519 + n.high * 3266489917).toNat
/-- An arena's blocks. -/
def arB (B gn gu gt : Nat) (k : Nat) : Prop := k = B ∨ k = gn ∨ k = gu ∨ k = gt
/-- The arena A, in the blocks told. -/
structure ArM (w : World) (B gn gu gt : Nat) (A : Ar) : Prop where
  is : ∃ ns us tab, ArT hashN A ns us tab ∧ Blk w B 100 #[.slice (some ⟨gn, 0, none⟩) A.length A.length, .slice (some ⟨gu, 0, none⟩) A.length A.length, .slice (some ⟨gt, 0, none⟩) (2 * A.length + 1) (2 * A.length + 1), .int .i64 (cntA A : Int)] ∧
    Blk w gn 39 (nodeArr ns) ∧ Blk w gu 4 (boolArr us) ∧ Blk w gt 3 (intArr tab)
  room : A.length ≤ 4000
section
variable {w w' : World} {B gn gu gt : Nat} {A : Ar}
theorem ArM.keep (h : ArM w B gn gu gt A) (hk : ∀ k, arB B gn gu gt k → w'.heap[k]? = w.heap[k]?) : ArM w' B gn gu gt A := by
  obtain ⟨ns, us, tab, h1, h2, h3, h4, h5⟩ := h.is
  exact ⟨⟨ns, us, tab, h1, (hk B (.inl rfl)).trans h2, (hk gn (.inr (.inl rfl))).trans h3, (hk gu (.inr (.inr (.inl rfl)))).trans h4, (hk gt (.inr (.inr (.inr rfl)))).trans h5⟩, h.room⟩
theorem ArM.lt (h : ArM w B gn gu gt A) {k : Nat} (hk : arB B gn gu gt k) : k < w.heap.size := by
  obtain ⟨ns, us, tab, h1, h2, h3, h4, h5⟩ := h.is
  rcases hk with rfl | rfl | rfl | rfl
  · exact h2.lt
  · exact h3.lt
  · exact h4.lt
  · exact h5.lt
theorem ArM.below (h : ArM w B gn gu gt A) {C : Nat} (hb : Below C w w') (hC : ∀ k, arB B gn gu gt k → k < C) : ArM w' B gn gu gt A := h.keep fun k hk => hb.block k (hC k hk)
theorem ArM.fr {S : Nat → Prop} (h : ArM w B gn gu gt A) (hf : Fr S w w') (hS : ∀ k, arB B gn gu gt k → ¬ S k) : ArM w' B gn gu gt A := h.keep fun k hk => hf.block k (h.lt hk) (hS k hk)
end
/-- What Has tells. -/
theorem hasA_of {A : Ar} {ns : List Nd} {us : List Bool} (h : ArS A ns us) (x : Int) : hasA A x = (x == 0 || (x == 1 || (decide (2 ≤ x) && (decide (x - 2 < (A.length : Int)) && us.getD (x - 2).toNat false)))) := by
  unfold hasA
  congr 2
  cases e : gotA A x with
  | some n =>
    obtain ⟨h1, h2, _⟩ := h.got.1 e
    have hl := gotA_is e
    obtain ⟨k, hk, hk2, _⟩ := hl
    rw [decide_eq_true h1, decide_eq_true (by omega), h2]; rfl
  | none =>
    by_cases h1 : 2 ≤ x
    · by_cases h2 : us.getD (x - 2).toNat false = true
      · have := h.got.2 ⟨h1, h2, rfl⟩
        rw [e] at this
        cases this
      · rw [Bool.eq_false_iff.2 h2]; simp
    · rw [decide_eq_false h1]; rfl

def RetS (v : Value) (w : World) (e : Ending) (w' : World) : Prop := e = .returned v ∧ ∃ q, w' = w.drewN q
set_option maxHeartbeats 1000000 in
theorem arHas_any (B gn gu gt : Nat) (A : Ar) (x : Int) (w : World) (h : ArM w B gn gu gt A) (hx : I64 x) :
    Calls Tryd.prog 20 #[.pointer (some ⟨B, 0, none⟩), .int .i64 x] w (fun e w' => e = .returned (.bool (hasA A x)) ∧ w = w') := by
  obtain ⟨ns, us, tab, hT, kB, kn, ku, kt⟩ := h.is
  have hr := h.room
  have b0 := kB.cell 0
  have b1 := kB.cell 1
  have HH := Lib.hid (hasA_of hT.s x)
  have hul := hT.s.u
  unfold I64 at hx
  rcases (show x = 0 ∨ x = 1 ∨ x < 0 ∨ (2 ≤ x ∧ (A.length : Int) ≤ x - 2) ∨ (2 ≤ x ∧ x - 2 < (A.length : Int)) by omega) with e | e | e | ⟨e, e2⟩ | ⟨e, e2⟩
  · subst e
    go_enter Tryd.func20, Tryd.ntmps20
    go_wp2
    go_ret
    exact ⟨by rw [HH.out]; rfl, rfl⟩
  · subst e
    go_enter Tryd.func20, Tryd.ntmps20
    go_wp2
    go_ret
    exact ⟨by rw [HH.out]; rfl, rfl⟩
  · have h1 : (x == 0) = false := beq_eq_false_iff_ne.2 (by omega)
    have h2 : (x == 1) = false := beq_eq_false_iff_ne.2 (by omega)
    have h3 : decide ((2 : Int) ≤ x) = false := decide_eq_false (by omega)
    go_enter Tryd.func20, Tryd.ntmps20
    go_wp2
    go_ret
    exact ⟨by rw [HH.out, h1, h2, h3]; rfl, rfl⟩
  · have h1 : (x == 0) = false := beq_eq_false_iff_ne.2 (by omega)
    have h2 : (x == 1) = false := beq_eq_false_iff_ne.2 (by omega)
    have h3 : decide ((2 : Int) ≤ x) = true := decide_eq_true (by omega)
    have h4 : decide (x - 2 < (A.length : Int)) = false := decide_eq_false (by omega)
    go_enter Tryd.func20, Tryd.ntmps20
    go_wp2
    go_ret
    exact ⟨by rw [HH.out, h1, h2, h3, h4]; rfl, rfl⟩
  · obtain ⟨k, rfl⟩ : ∃ k : Nat, x = (k : Int) + 2 := ⟨(x - 2).toNat, by omega⟩
    have h1 : ((k : Int) + 2 == 0) = false := beq_eq_false_iff_ne.2 (by omega)
    have h2 : ((k : Int) + 2 == 1) = false := beq_eq_false_iff_ne.2 (by omega)
    have h3 : decide ((2 : Int) ≤ (k : Int) + 2) = true := decide_eq_true (by omega)
    have h5 : (k : Int) + 2 - 2 = (k : Int) := by omega
    rw [h5] at e2
    have h4 : decide ((k : Int) < (A.length : Int)) = true := decide_eq_true e2
    have u0 := (ku.cell k).trans (boolArr_at (by rw [hul]; omega))
    have HG := Lib.hid (show hasA A ((k : Int) + 2) = us.getD k false by rw [HH.out, h1, h2, h3, h5, h4]; simp)
    generalize us.getD k false = ub at u0 HG
    go_enter Tryd.func20, Tryd.ntmps20
    go_wp2
    go_ret
    exact ⟨by rw [HG.out]; rfl, rfl⟩
end Go.Proofs.YtfbhmkpihmcegaaDoor
