/-
  A place's version; told.
-/
import Derived.Test.YtbmmkhehejoidaaGreatDoorVerNum
namespace Go.Proofs.YtbmmkhehejoidaaGreatDoor
open Go.RowKit

def VerOfP (n : Nat) (w : World) (e : Ending) (w' : World) : Prop := e = .returned (.agg (verArr (verN n))) ∧ Below w.heap.size w w'
theorem version_any (n : Nat) (hn : n ≤ endR) (w : World) : Calls Tryz.prog 29 #[.int .i64 (n : Int)] w (VerOfP n w) := by
  have hz : (n : Int) ≤ 1000000000 := by unfold endR at hn; omega
  have e0 : verN n 0 = ((n : Int) / 1000) / 1000 := by show ((n / 1000000 : Nat) : Int) = _; omega
  have e1 : verN n 1 = ((n : Int) / 1000) % 1000 := by show ((n / 1000 % 1000 : Nat) : Int) = _; omega
  have e2 : verN n 2 = (n : Int) % 1000 := by show ((n % 1000 : Nat) : Int) = _; omega
  unfold VerOfP verArr
  rw [e0, e1, e2]
  go_enter Tryz.func29, Tryz.ntmps29
  have HK := hide (Blk.new w 42 #[.int .i64 ((n : Int) / 1000 / 1000), .int .i64 ((n : Int) / 1000 % 1000), .int .i64 ((n : Int) % 1000)])
  have n0 := HK.out.cell 0
  have n1 := HK.out.cell 1
  have n2 := HK.out.cell 2
  go_wp2_with fail
  exact bodyPost_ret (v := .agg #[.int .i64 ((n : Int) / 1000 / 1000), .int .i64 ((n : Int) / 1000 % 1000), .int .i64 ((n : Int) % 1000)]) (by simp [results, Tryz.results29, go_sem, n0, n1, n2]) rfl ⟨rfl, (Below.refl w.heap.size w).alloc (Nat.le_refl _) _⟩
theorem verN_i64 (n : Nat) (hn : n ≤ endR) : ∀ j, j < 3 → I64 (verN n j) := fun j _ => by
  unfold endR at hn
  unfold I64 verN
  split
  · omega
  · split
    · omega
    · omega
def verB (n : Nat) : ByteArray := verS (verN n)
/-- vers: a place's version as text. -/
theorem vers_any (n : Nat) (hn : n ≤ endR) (w : World) (hG : GlobV w) : Calls Tryz.prog 32 #[.int .i64 (n : Int)] w (VerTxP (verN n) w) := by
  have hz : (n : Int) ≤ 1000000000 := by unfold endR at hn; omega
  have e0 : verN n 0 = (n : Int) / 1000000 := by show ((n / 1000000 : Nat) : Int) = _; omega
  have e1 : verN n 1 = ((n : Int) / 1000) % 1000 := by show ((n / 1000 % 1000 : Nat) : Int) = _; omega
  have e2 : verN n 2 = (n : Int) % 1000 := by show ((n % 1000 : Nat) : Int) = _; omega
  have hv := hide (fun W (hb : Below w.heap.size w W) => refVerText_any (verN n) W (hG.below hb) (verN_i64 n hn))
  unfold verArr at hv
  rw [e0, e1, e2] at hv
  go_enter Tryz.func32, Tryz.ntmps32
  go_wp2_with (go_at_call 58; refine (hv.out _ (Below.refl _ _)).mono ?_; rintro e w9 ⟨rfl, hb9⟩)
  go_ret
  exact ⟨rfl, hb9⟩
/-- version(n).Text(). -/
theorem verText_at (n : Nat) (hn : n ≤ endR) (w : World) (hG : GlobV w) : Calls Tryz.prog 30 #[.agg (verArr (verN n))] w (VerTxP (verN n) w) := verText_any (verN n) w hG (verN_i64 n hn)
theorem verT_is (n : Nat) : verS (verN n) = baL (verT n) := rfl
end Go.Proofs.YtbmmkhehejoidaaGreatDoor
