/-
  The law NatOfs, walked.
-/
import Derived.Test.YtdlcldhnbhlikaaGreatDoorNatD
import Derived.Test.YtdlcldhnbhlikaaGreatDoorTold
import Derived.Test.YtdlcldhnbhlikaaGreatDoorAt
namespace Go.Proofs.YtdlcldhnbhlikaaGreatDoor
open Go.RowKit

theorem NatV.two {w : World} {v : Value} {N : Nat} (h : NatV w v N) (hN : N < 18446744073709551616) : ∀ A n c, v = .agg #[.slice A n c] → n ≤ 2 := by
  obtain ⟨A', n', c', xs, rfl, _, hl, ht, hv⟩ := h.is
  intro A n c e
  have e2 : n' = n := by
    injection e with e
    have := congrArg (fun a => a[0]?) e
    simp at this
    exact this.2.1
  rw [← e2]
  rcases Nat.lt_or_ge 2 n' with h2 | h2
  · have := valL_big ht (by rw [hl.1]; exact h2)
    omega
  · exact h2
theorem text_one (N : Nat) : textF [(N : Int)] = Lib.decDigits N := by
  rw [text_cons, if_pos rfl, List.append_nil, Lib.itoa_nonneg]
theorem one_int (w : World) (z : Int) (hz : I64 z) : Ints (w.alloc (.cells #[.int .i64 z] 3)) (w.alloc (.cells #[.int .i64 z] 3)).heap.size (some ⟨w.heap.size, 0, none⟩) 1 [z] := by
  refine ⟨rfl, by simp [maxLen], fun x hx => by rw [List.mem_singleton.1 hx]; exact hz, rfl, fun _ => ⟨_, rfl, by simp, fun j u hu => ?_⟩⟩
  match j, hu with
  | 0, hu => simp at hu; subst hu; simp [Addr.add]

end Go.Proofs.YtdlcldhnbhlikaaGreatDoor
