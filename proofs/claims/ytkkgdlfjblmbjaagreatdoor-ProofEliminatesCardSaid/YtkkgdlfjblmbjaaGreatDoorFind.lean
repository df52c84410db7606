/-
  slices.IndexFunc, slices.ContainsFunc over a clause (a slice of ints), at a closure that only reads: whether some element has the property.
-/
import Derived.Test.YtkkgdlfjblmbjaaGreatDoorFew
import Derived.Shelf.Abstract
namespace Go.Proofs.YtkkgdlfjblmbjaaGreatDoor
open Go.RowKit

def AtLeast0 (w : World) (e : Ending) (w' : World) : Prop := ∃ r : Int, 0 ≤ r ∧ e = .returned (.int .i64 r) ∧ w = w'

set_option maxHeartbeats 400000 in
theorem indexFunc_no (g : Nat) (lb : Array Value) (eg : ∀ args w, (callFunc g args).run Tryz.prog w = .ok (.enter g args) w) (p : Int → Bool) (A : Option Addr) (n c : Nat) (zs : List Int) (w : World)
    (h : Ints w w.heap.size A n zs) (hp : ∀ x, x ∈ zs → Calls Tryz.prog g (#[.int .i64 x] ++ lb) w fun e w' => e = .returned (.bool (p x)) ∧ w = w') (hno : zs.any p = false) :
    Calls Tryz.prog 36 #[.slice A n c, .func (.func g) #[] lb] w fun e w' => e = .returned (.int .i64 (-1)) ∧ w = w' := by
  have hn := h.le
  have hlen := Lib.hid h.len
  have HP := hide hp
  clear hp
  have HNO := Lib.hid hno
  clear hno
  go_enter Tryz.func36, Tryz.ntmps36
  go_wp2
  go_loop [8] (fun i => ∃ k : Nat, k ≤ n ∧ i = .int .i64 k) (fun i => n - (intOf i).toNat)
  case atStart => exact ⟨0, Nat.zero_le _, rfl⟩
  case round =>
    obtain ⟨k, hk, rfl⟩ := hrel
    by_cases hlt : k < n
    · obtain ⟨ad, rfl, hb, hc⟩ := h.at_ hlt
      have hmem : zs.getD k 0 ∈ zs := by
        have hkl : k < zs.length := by rw [hlen.out]; exact hlt
        rw [List.getD_eq_getElem?_getD, List.getElem?_eq_getElem hkl]; exact List.getElem_mem hkl
      have hpx : p (zs.getD k 0) = false := by
        have := List.any_eq_false.1 HNO.out _ hmem
        simpa using this
      have hcall := HP.out _ hmem
      rw [hpx] at hcall
      clear hpx hmem
      generalize zs.getD k 0 = x at hcall hc
      have HC := hide hcall
      clear hcall
      go_wp2_with (go_at_fn g; refine ((HC.out)).mono ?_; rintro e w' ⟨rfl, rfl⟩)
      go_round
      case rel => exact ⟨k + 1, by omega, by go_num⟩
      case measure => simp [intOf]; omega
    · go_wp2
      go_ret
      exact ⟨rfl, rfl⟩

set_option maxHeartbeats 400000 in
theorem indexFunc_yes (g : Nat) (lb : Array Value) (eg : ∀ args w, (callFunc g args).run Tryz.prog w = .ok (.enter g args) w) (p : Int → Bool) (A : Option Addr) (n c : Nat) (zs : List Int) (w : World)
    (h : Ints w w.heap.size A n zs) (hp : ∀ x, x ∈ zs → Calls Tryz.prog g (#[.int .i64 x] ++ lb) w fun e w' => e = .returned (.bool (p x)) ∧ w = w') (hyes : zs.any p = true) :
    Calls Tryz.prog 36 #[.slice A n c, .func (.func g) #[] lb] w (AtLeast0 w) := by
  have hn := h.le
  have hlen := Lib.hid h.len
  have HP := hide hp
  clear hp
  have HNO := Lib.hid hyes
  clear hyes
  go_enter Tryz.func36, Tryz.ntmps36
  go_wp2
  go_loop [5, 8] (fun _ i => ∃ k : Nat, k ≤ n ∧ i = .int .i64 k ∧ Hid ((zs.take k).any p = false)) (fun _ i => n - (intOf i).toNat)
  case atStart => exact ⟨0, Nat.zero_le _, rfl, Lib.hid rfl⟩
  case round =>
    obtain ⟨k, hk, rfl, hd⟩ := hrel
    by_cases hlt : k < n
    · obtain ⟨ad, rfl, hb, hc⟩ := h.at_ hlt
      have hkl := Lib.hid (show k < zs.length by rw [hlen.out]; exact hlt)
      have hmem : zs.getD k 0 ∈ zs := by
        rw [List.getD_eq_getElem?_getD, List.getElem?_eq_getElem hkl.out]; exact List.getElem_mem hkl.out
      have hcall := HP.out _ hmem
      clear hmem
      obtain ⟨x, hx⟩ : ∃ x, zs.getD k 0 = x := ⟨_, rfl⟩
      rw [hx] at hcall hc
      have HX := Lib.hid hx
      clear hx
      rcases hpx : p x with _ | _
      · rw [hpx] at hcall
        have HPX := Lib.hid hpx
        clear hpx
        have HC := hide hcall
        clear hcall
        go_wp2_with (go_at_fn g; refine ((HC.out)).mono ?_; rintro e w' ⟨rfl, rfl⟩)
        go_round
        case rel => exact ⟨k + 1, by omega, by go_num, Lib.hid (any_false_take p zs k 0 hkl.out hd.out (by rw [HX.out]; exact HPX.out))⟩
        case measure => simp [intOf]; omega
      · rw [hpx] at hcall
        clear hpx
        have HC := hide hcall
        clear hcall
        go_wp2_with (go_at_fn g; refine ((HC.out)).mono ?_; rintro e w' ⟨rfl, rfl⟩)
        go_ret
        exact ⟨k, by omega, rfl, rfl⟩
    · have hfalse : zs.take k = zs := take_all zs k (by have := hlen.out; omega)
      rw [hfalse] at hd
      have := hd.out
      rw [HNO.out] at this
      cases this

set_option maxHeartbeats 400000 in
theorem containsFunc_any (g : Nat) (lb : Array Value) (eg : ∀ args w, (callFunc g args).run Tryz.prog w = .ok (.enter g args) w) (p : Int → Bool) (A : Option Addr) (n c : Nat) (zs : List Int) (w : World)
    (h : Ints w w.heap.size A n zs) (hp : ∀ x, x ∈ zs → Calls Tryz.prog g (#[.int .i64 x] ++ lb) w fun e w' => e = .returned (.bool (p x)) ∧ w = w') :
    Calls Tryz.prog 26 #[.slice A n c, .func (.func g) #[] lb] w fun e w' => e = .returned (.bool (zs.any p)) ∧ w = w' := by
  rcases hb : zs.any p with _ | _
  · have HC := hide (indexFunc_no g lb eg p A n c zs w h hp hb)
    clear hp hb
    go_enter Tryz.func26, Tryz.ntmps26
    go_wp2_with (go_at_call 36; refine ((HC.out)).mono ?_; rintro e w' ⟨rfl, rfl⟩)
    go_ret
    exact ⟨rfl, rfl⟩
  · have HC := hide (indexFunc_yes g lb eg p A n c zs w h hp hb)
    clear hp hb
    go_enter Tryz.func26, Tryz.ntmps26
    go_wp2_with (go_at_call 36; refine ((HC.out)).mono ?_; rintro e w' ⟨r, hr, rfl, rfl⟩)
    go_ret
    exact ⟨rfl, rfl⟩
end Go.Proofs.YtkkgdlfjblmbjaaGreatDoor
