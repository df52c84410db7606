/-
  The reference's NatParse.
-/
import Derived.Test.YtpghgfenafhhbaaDoorBigQ
import Derived.Test.YtpghgfenafhhbaaDoorTrimLay
namespace Go.Proofs.YtpghgfenafhhbaaDoor
open Go.RowKit Go.Shelf Go.Lib

def ptrV (s : ByteArray) (b : Nat) (p : Value) (w : World) : Prop := (numE s = 0 ∧ p = .pointer (some ⟨b, 0, none⟩) ∧ IntAt w b (decV s.data.toList)) ∨ (numE s ≠ 0 ∧ p = .pointer none)
def RefNumPost (w : World) (s : ByteArray) (e : Ending) (w' : World) : Prop := ∃ p, e = .returned (.tuple #[p, .int .i64 (numE s)]) ∧ ptrV s w.heap.size p w' ∧ Below w.heap.size w w'
theorem refNo {w w' : World} {s : ByteArray} {c : Int} (h : numE s = c) (hc : c ≠ 0) (hb : Below w.heap.size w w') : RefNumPost w s (.returned (.tuple #[.pointer none, .int .i64 c])) w' :=
  ⟨_, by rw [h], .inr ⟨by rw [h]; exact hc, rfl⟩, hb⟩
theorem refYes {w w' : World} {s : ByteArray} (h : numE s = 0) (hi : IntAt w' w.heap.size (decV s.data.toList)) (hb : Below w.heap.size w w') : RefNumPost w s (.returned (.tuple #[.pointer (some ⟨w.heap.size, 0, none⟩), .int .i64 0])) w' :=
  ⟨_, by rw [h], .inl ⟨h, rfl, hi⟩, hb⟩
theorem empty_of {s : ByteArray} (h : s.toList = []) : s.size = 0 := by
  rw [toList_data] at h
  have := congrArg List.length h
  rw [size_len, List.length_nil] at this
  exact this
theorem first_byte (s : ByteArray) (h : 0 < s.size) : s[0]'h = s.data.toList.getD 0 0 := by
  have : 0 < s.data.toList.length := by rw [size_len]; exact h
  rw [List.getD_eq_getElem?_getD, List.getElem?_eq_getElem this]
  rfl
theorem no_empty {s : ByteArray} (h : s.size = 0) : ¬ NumOk s := fun k => by have := k.pos; omega
theorem no_char {s : ByteArray} {k : Nat} {c : UInt8} (hk : s.data.toList[k]? = some c) (h : ¬ (48 ≤ c.toNat ∧ c.toNat ≤ 57)) : ¬ NumOk s := fun n =>
  h (isDig_is (n.dig c (List.mem_of_getElem? hk)))
theorem no_lead {s : ByteArray} (h0 : 0 < s.size) (h : (s[0]'h0).toNat = 48) (h1 : s.size ≠ 1) : ¬ NumOk s := fun n => by
  rcases n.lead with e | e
  · apply e
    rw [← first_byte s h0]
    exact UInt8.toNat_inj.1 h
  · exact h1 e
theorem yes_num {s : ByteArray} (h0 : 0 < s.size) (hd : ∀ c ∈ s.data.toList, isDig c = true) (h : (s[0]'h0).toNat ≠ 48 ∨ s.size = 1) : NumOk s :=
  ⟨h0, hd, by
    rcases h with h | h
    · left
      rw [← first_byte s h0]
      intro e
      rw [e] at h
      exact h rfl
    · exact .inr h⟩
theorem take_more {l : List UInt8} {k : Nat} {c : UInt8} (hk : l[k]? = some c) (h : ∀ x ∈ l.take k, isDig x = true) (hc : 48 ≤ c.toNat ∧ c.toNat ≤ 57) : ∀ x ∈ l.take (k + 1), isDig x = true := by
  intro x hx
  rw [List.take_add_one, hk] at hx
  rcases List.mem_append.1 hx with hx | hx
  · exact h x hx
  · simp at hx; rw [hx]; exact decide_eq_true hc

set_option maxRecDepth 100000 in
set_option maxHeartbeats 4000000 in
theorem refParse_any (s : ByteArray) (w : World) (hs : s.size ≤ 300) :
    Calls Tryd.prog 10 #[.string s] w (RefNumPost w s) := by
  by_cases h0 : s.toList = []
  · have HR := Lib.hid (numE_no (no_empty (empty_of h0)))
    have hie : s.toList.isEmpty = true := by rw [h0]; rfl
    go_enter Tryd.func10, Tryd.ntmps10
    go_wp2
    go_ret2
    exact refNo HR.out (by omega) (Below.refl _ _)
  have hp : 0 < s.size := by
    rcases Nat.eq_zero_or_pos s.size with h | h
    · exfalso
      apply h0
      rw [toList_data]
      exact List.eq_nil_of_length_eq_zero (by rw [size_len]; exact h)
    · exact h
  have hp1 : 1 ≤ s.size := hp
  have hie : s.toList.isEmpty = false := by simpa using h0
  have K1 := hide (Blk.new w 49 #[.bool false, .slice none 0 0])
  have HBW := hide ((Below.refl w.heap.size w).alloc (Nat.le_refl _) (.cells #[.bool false, .slice none 0 0] 49))
  go_enter Tryd.func10, Tryd.ntmps10
  go_wp2
  go_loopw [11] (fun i wr => ∃ k : Nat, k ≤ s.size ∧ i = .int .i64 k ∧ wr = w ∧ Hid (∀ x ∈ s.data.toList.take k, isDig x = true)) (fun i _ => s.size - (RowKit.intOf i).toNat)
  case atStart => exact ⟨0, Nat.zero_le _, rfl, rfl, hide (by simp)⟩
  case round =>
    obtain ⟨k, hk, rfl, rfl, hd⟩ := hrel
    by_cases hlt : k < s.size
    · have HB := Lib.hid (byte_at s k hlt)
      have hx : ((s[k]'hlt).toNat : Int) < 48 ∨ (48 ≤ ((s[k]'hlt).toNat : Int) ∧ ((s[k]'hlt).toNat : Int) ≤ 57) ∨ 57 < ((s[k]'hlt).toNat : Int) := by omega
      rcases hx with hx | ⟨hx, hx2⟩ | hx
      · have HR := Lib.hid (numE_no (no_char HB.out (by omega)))
        go_wp2
        go_ret2
        exact refNo HR.out (by omega) (Below.refl _ _)
      · have HM := hide (take_more HB.out hd.out (by omega))
        have hd1 : decide (((s[k]'hlt).toNat : Int) < 48) = false := decide_eq_false (by omega)
        have hd2 : decide ((57 : Int) < ((s[k]'hlt).toNat : Int)) = false := decide_eq_false (by omega)
        go_wp2
        go_roundw
        case rel => exact ⟨k + 1, by omega, by go_num, by first | rfl | trivial, HM⟩
        case measure => simp [RowKit.intOf]; omega
      · have HR := Lib.hid (numE_no (no_char HB.out (by omega)))
        have hd1 : decide (((s[k]'hlt).toNat : Int) < 48) = false := decide_eq_false (by omega)
        go_wp2
        go_ret2
        exact refNo HR.out (by omega) (Below.refl _ _)
    · obtain rfl : k = s.size := by omega
      have HD := hide (show ∀ x ∈ s.data.toList, isDig x = true by
        have := hd.out
        rw [List.take_of_length_le (by rw [size_len]; omega)] at this
        exact this)
      clear hd
      by_cases hz : (s[0]'hp).toNat = 48 ∧ s.size ≠ 1
      · have HR := Lib.hid (numE_no (no_lead hp hz.1 hz.2))
        obtain ⟨hz1, hz2⟩ := hz
        have hz3 : (((s[0]'hp).toNat : Int) == 48) = true := beq_iff_eq.2 (by omega)
        have hz4 : (1 : Int) < (s.size : Int) := by omega
        go_wp2
        go_ret2
        exact refNo HR.out (by omega) (Below.refl _ _)
      · have HOK := Lib.hid (yes_num hp HD.out (by omega))
        by_cases hlong : 100 < s.size
        · have HR := Lib.hid (numE_long HOK.out hlong)
          by_cases hz1 : (s[0]'hp).toNat = 48
          · have hz2 : s.size = 1 := by omega
            omega
          · have hz3 : (((s[0]'hp).toNat : Int) == 48) = false := beq_eq_false_iff_ne.2 (by omega)
            go_wp2
            go_ret2
            exact refNo HR.out (by omega) (Below.refl _ _)
        · have HR := Lib.hid (numE_ok HOK.out hlong)
          have HSS := hide (setString_any wr.heap.size s (.bool false) (.slice none 0 0) _ K1.out hp hs HD.out)
          have hdl : decide ((100 : Int) < (s.size : Int)) = false := decide_eq_false (by omega)
          by_cases hz1 : (s[0]'hp).toNat = 48
          · have hz2 : s.size = 1 := by omega
            have hz3 : (((s[0]'hp).toNat : Int) == 48) = true := beq_iff_eq.2 (by omega)
            have hz4 : decide ((1 : Int) < (s.size : Int)) = false := decide_eq_false (by omega)
            go_wp2_with fail
            refine (HSS.out).mono ?_
            rintro e w1 ⟨rfl, hia, hb1⟩
            have HIA := hide hia
            have HB1 := hide (HBW.out.trans hb1)
            clear hia hb1
            go_wp2
            go_ret2
            exact refYes HR.out HIA.out HB1.out
          · have hz3 : (((s[0]'hp).toNat : Int) == 48) = false := beq_eq_false_iff_ne.2 (by omega)
            go_wp2_with fail
            refine (HSS.out).mono ?_
            rintro e w1 ⟨rfl, hia, hb1⟩
            have HIA := hide hia
            have HB1 := hide (HBW.out.trans hb1)
            clear hia hb1
            go_wp2
            go_ret2
            exact refYes HR.out HIA.out HB1.out
end Go.Proofs.YtpghgfenafhhbaaDoor
