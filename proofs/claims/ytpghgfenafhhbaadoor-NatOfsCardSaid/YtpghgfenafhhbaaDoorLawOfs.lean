/-
  The law NatOfs, walked.
-/
import Derived.Test.YtpghgfenafhhbaaDoorNatD
import Derived.Test.YtpghgfenafhhbaaDoorTold
import Derived.Test.YtpghgfenafhhbaaDoorAt
namespace Go.Proofs.YtpghgfenafhhbaaDoor
open Go.RowKit

theorem NatV.two {w : World} {v : Value} {N : Nat} (h : NatV w v N) (hN : N < 18446744073709551616) : ∀ A n c, v = .agg #[.slice A n c] → n ≤ 2 := by
  obtain ⟨A', n', c', xs, rfl, _, hl, ht, hv⟩ := h.is
  intro A n c e
  have e2 : n' = n := by
    injection e with e
    have := congrArg (fun a => a[0]?) e
    simp at this
    exact this.2.1
  rw [← e2]
  rcases Nat.lt_or_ge 2 n' with h2 | h2
  · have := valL_big ht (by rw [hl.1]; exact h2)
    omega
  · exact h2
theorem text_one (N : Nat) : textF [(N : Int)] = Lib.decDigits N := by
  rw [text_cons, if_pos rfl, List.append_nil, Lib.itoa_nonneg]
theorem one_int (w : World) (z : Int) (hz : I64 z) : Ints (w.alloc (.cells #[.int .i64 z] 3)) (w.alloc (.cells #[.int .i64 z] 3)).heap.size (some ⟨w.heap.size, 0, none⟩) 1 [z] := by
  refine ⟨rfl, by simp [maxLen], fun x hx => by rw [List.mem_singleton.1 hx]; exact hz, rfl, fun _ => ⟨_, rfl, by simp, fun j u hu => ?_⟩⟩
  match j, hu with
  | 0, hu => simp at hu; subst hu; simp [Addr.add]

set_option maxHeartbeats 2000000 in
theorem lawOfs_core (n : Int) (N : Nat) (w : World) (hG : GlobT w) (hN : (N : Int) = max 0 n) (hN2 : N < 9223372036854775808) (hn : n ≤ 9223372036854775807) :
    Calls Tryd.prog 3 #[.int .i64 n] w (AtPost w true) := by
  have HO := hide (fun (w' : World) => show Calls Tryd.prog 6 #[.int .i64 n] w' (OfPost w' N) from by
    have := of_any n w' hn
    rw [← hN, Int.toNat_natCast] at this
    exact this)
  have HG := hide hG
  clear hG
  have HF := Lib.hid (show fitsV N = .tuple #[.int .i64 (N : Int), .bool true] by unfold fitsV; rw [if_pos hN2])
  go_enter Tryd.func3, Tryd.ntmps3
  go_wp2_with fail
  refine (HO.out _).mono ?_
  rintro e w1 ⟨v1, rfl, hv1, hb1⟩
  have HB1 := hide hb1
  have HFI := hide (fits_any v1 N w1 hv1)
  unfold FitsPost at HFI
  rw [HF.out] at HFI
  clear hb1 hv1
  go_wp2_with fail
  refine (HFI.out).mono ?_
  rintro e w2 ⟨rfl, hb2⟩
  have HB2 := hide (HB1.out.trans (hb2.mono HB1.out.size))
  clear hb2
  go_wp2_with fail
  refine (HO.out _).mono ?_
  rintro e w3 ⟨v3, rfl, hv3, hb3⟩
  have HTX := hide (text_any v3 N 3 2 w3 hv3 (Nat.lt_of_lt_of_le hN2 (by decide)) (by omega) (hv3.two (by omega)) (by omega))
  have HB3 := hide (HB2.out.trans (hb3.mono HB2.out.size))
  clear hb3 hv3
  go_wp2_with fail
  refine (HTX.out).mono ?_
  rintro e w4 ⟨rfl, hb4⟩
  have HB4 := hide ((HB3.out.trans (hb4.mono HB3.out.size)).alloc (HB3.out.trans (hb4.mono HB3.out.size)).size (.cells #[.int .i64 (max 0 n)] 3))
  have HTD := hide (textW_any (some ⟨w4.heap.size, 0, none⟩) 1 1 [max 0 n] _ (HG.out.below HB4.out) (one_int w4 (max 0 n) (by unfold I64; omega)) (by omega))
  unfold ToldPost at HTD
  rw [← hN, text_one] at HTD
  rw [hN] at HTD
  clear hb4
  generalize (⟨(Lib.decDigits N).toArray⟩ : ByteArray) = s at HTD ⊢
  go_wp2_with fail
  refine (HTD.out).mono ?_
  rintro e w5 ⟨rfl, hb5⟩
  go_wp2
  go_ret
  exact ⟨ret_bool (by simp), HB4.out.trans (hb5.mono HB4.out.size)⟩
theorem lawOfs_walk (n : Int) (w : World) (hG : GlobT w) (_h0 : -9223372036854775808 ≤ n) (h1 : n ≤ 9223372036854775807) :
    Calls Tryd.prog 3 #[.int .i64 n] w (AtPost w true) :=
  lawOfs_core n (max 0 n).toNat w hG (by omega) (by omega) h1
end Go.Proofs.YtpghgfenafhhbaaDoor
