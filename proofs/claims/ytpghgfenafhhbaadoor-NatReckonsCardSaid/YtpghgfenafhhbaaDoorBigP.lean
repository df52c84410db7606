/-
  solspacebig's SetString of digits; give, length, IsInt64, Int64, Sign.
-/
import Derived.Test.YtpghgfenafhhbaaDoorBigS
import Derived.Test.YtpghgfenafhhbaaDoorDecPure
namespace Go.Proofs.YtpghgfenafhhbaaDoor
open Go.RowKit

theorem size_len (s : ByteArray) : s.data.toList.length = s.size := rfl
theorem byte_at (s : ByteArray) (k : Nat) (h : k < s.size) : s.data.toList[k]? = some (s[k]'h) := by
  have : k < s.data.toList.length := by rw [size_len]; exact h
  rw [List.getElem?_eq_getElem this]
  rfl
theorem byte_dig {s : ByteArray} (hd : ∀ c ∈ s.data.toList, isDig c = true) (k : Nat) (h : k < s.size) : 48 ≤ (s[k]'h).toNat ∧ (s[k]'h).toNat ≤ 57 :=
  isDig_is (hd _ (List.mem_of_getElem? (byte_at s k h)))
def GivePost (w : World) (b : Nat) (v : Value) (e : Ending) (w' : World) : Prop := e = .returned (.pointer (some ⟨b, 0, none⟩)) ∧ ((w.setCell ⟨b, 1, none⟩ v).setCell ⟨b, 0, none⟩ (.bool false)) = w'
set_option maxHeartbeats 1000000 in
theorem give_any (b : Nat) (A : Option Addr) (n c : Nat) (u0 u1 : Value) (w : World) (h : Blk w b 49 #[u0, u1]) :
    Calls Tryd.prog 43 #[.pointer (some ⟨b, 0, none⟩), .bool false, .slice A n c] w (GivePost w b (.slice A n c)) := by
  have c0 := h.cell 0
  have c1 := h.cell 1
  have f0 := h.frozen 0
  have f1 := h.frozen 1
  have d0 := (h.set_ 1 (.slice A n c)).cell 0
  have g0 := (h.set_ 1 (.slice A n c)).frozen 0
  go_enter Tryd.func43, Tryd.ntmps43
  go_wp2
  go_ret
  exact ⟨rfl, rfl⟩
theorem big_set {w : World} {v : Value} {N b i : Nat} (h : BigV w v N) (hn : NewV (b + 1) v) (u : Value) : BigV (w.setCell ⟨b, i, none⟩ u) v N := by
  obtain ⟨A, n, c, xs, e, hc, hl, ht, hv⟩ := NatV.is h
  have e2 := agg_one e
  refine ⟨A, n, c, xs, e, hc, ?_, ht, hv⟩
  rw [sizeSet]
  refine ⟨hl.1, hl.2.1, hl.2.2.1, hl.2.2.2.1, fun h0 => ?_⟩
  obtain ⟨ad, e3, hb, hcl⟩ := hl.2.2.2.2 h0
  rw [e3] at e2
  have hne := hn ad n c e2
  exact ⟨ad, e3, hb, fun j x hx => (World.cell?_setCell_other _ _ _ _ (fun e4 => by
    have := block_of_add ad j
    rw [← e4] at this
    simp at this
    omega)).trans (hcl j x hx)⟩
/-- A whole number that isn't below 0 stands at block b. -/
structure IntAt (w : World) (b N : Nat) : Prop where
  is : ∃ v, Blk w b 49 #[.bool false, v] ∧ BigV w v N
theorem IntAt.below {w w' : World} {b N : Nat} (h : IntAt w b N) (hb : Below w.heap.size w w') : IntAt w' b N := by
  obtain ⟨v, h1, h2⟩ := h.is
  exact ⟨v, h1.below hb h1.lt, h2.below hb⟩
theorem given {w : World} {b N : Nat} {u0 u1 v : Value} (h : Blk w b 49 #[u0, u1]) (hv : BigV w v N) (hn : NewV (b + 1) v) : IntAt ((w.setCell ⟨b, 1, none⟩ v).setCell ⟨b, 0, none⟩ (.bool false)) b N :=
  ⟨v, (h.set_ 1 v).set_ 0 (.bool false), big_set (big_set hv hn _) hn _⟩
def StrPost (w : World) (b N : Nat) (e : Ending) (w' : World) : Prop := e = .returned (.tuple #[.pointer (some ⟨b, 0, none⟩), .bool true]) ∧ IntAt w' b N ∧ Below b w w'
theorem words_ten (w : World) : Calls Tryd.prog 57 #[.int .u64 10] w (BigPost w 10) := words_any 10 w (by omega)
theorem words_dig (w : World) (x : Nat) (h : 48 ≤ x ∧ x ≤ 57) : Calls Tryd.prog 57 #[.int .u64 ((x : Int) - 48)] w (BigPost w (x - 48)) := by
  have := words_any (x - 48) w (by omega)
  rw [show ((x - 48 : Nat) : Int) = (x : Int) - 48 by omega] at this
  exact this
theorem small_bound {d : Nat} (h : d ≤ 10) : d < 4294967296 ^ 1000 := Nat.lt_of_le_of_lt h (by decide +kernel)

set_option maxRecDepth 100000 in
set_option maxHeartbeats 4000000 in
theorem setString_any (b : Nat) (s : ByteArray) (u0 u1 : Value) (w : World) (h : Blk w b 49 #[u0, u1]) (hp : 0 < s.size) (hs : s.size ≤ 300) (hd : ∀ c ∈ s.data.toList, isDig c = true) :
    Calls Tryd.prog 34 #[.pointer (some ⟨b, 0, none⟩), .string s, .int .i64 10] w (StrPost w b (decV s.data.toList)) := by
  have HK := hide h
  have HD := hide hd
  have hbl := h.lt
  clear h hd
  have hx := byte_dig HD.out 0 hp
  obtain ⟨hxa, hxb⟩ := hx
  have hp1 : 1 ≤ s.size := hp
  have z0 : ((s.size : Int) == 0) = false := beq_eq_false_iff_ne.2 (by omega)
  have b45 : (((s[0]'hp).toNat : Int) == 45) = false := by simp; omega
  have b43 : (((s[0]'hp).toNat : Int) == 43) = false := by simp; omega
  have HST := hide (show BigV w (.slice none 0 0) (decV (s.data.toList.take 0)) ∧ NewV w.heap.size (.slice none 0 0) ∧ Below w.heap.size w w from ⟨BigV.nil w, new_nil, Below.refl _ _⟩)
  go_enter Tryd.func34, Tryd.ntmps34
  go_wp2
  clear b45 b43 z0 hxa hxb
  go_loopw [9, 10] (fun r i wr => ∃ k : Nat, k ≤ s.size ∧ i = .int .i64 k ∧ Hid (BigV wr r (decV (s.data.toList.take k)) ∧ NewV w.heap.size r ∧ Below w.heap.size w wr)) (fun _ i _ => s.size - (intOf i).toNat)
  case atStart => exact ⟨0, Nat.zero_le _, rfl, HST⟩
  case round =>
    clear HST
    obtain ⟨k, hk, rfl, hR⟩ := hrel
    have HV := hide hR.out.1
    have HN := hide hR.out.2.1
    have HB := hide hR.out.2.2
    clear hR
    by_cases hlt : k < s.size
    · have hx := byte_dig HD.out k hlt
      have HTK := Lib.hid (decV_take (byte_at s k hlt))
      have HBD := Lib.hid (decV_bound (take_dig HD.out k) (by rw [List.length_take, size_len]; omega))
      have HBD2 := Lib.hid (decV_bound (take_dig HD.out (k + 1)) (by rw [List.length_take, size_len]; omega))
      rw [HTK.out] at HBD2
      generalize decV (s.data.toList.take k) = V at HV HTK HBD HBD2
      have HWD := hide (fun w' => words_dig w' _ hx)
      have HWT := hide words_ten
      have HDB := Lib.hid (small_bound (d := (s[k]'hlt).toNat - 48) (by omega))
      have h1 : ((48 : Int) ≤ ((s[k]'hlt).toNat : Int)) := by omega
      have h2 : (((s[k]'hlt).toNat : Int) ≤ 57) := by omega
      go_wp2_with fail
      refine (HWT.out _).mono ?_
      rintro e w1 ⟨v1, rfl, hv1, _, hb1⟩
      have HMU := hide (bigMul_any _ _ V 10 w1 (HV.out.below hb1) hv1 HBD.out (small_bound (by omega)))
      have HB1 := hide (HB.out.trans (hb1.mono HB.out.size))
      clear hv1 hb1
      go_wp2_with fail
      refine (HMU.out).mono ?_
      rintro e w2 ⟨v2, rfl, hv2, _, hb2⟩
      have HB2 := hide (HB1.out.trans (hb2.mono HB1.out.size))
      have HV2 := hide hv2
      clear hv2 hb2
      go_wp2_with fail
      refine (HWD.out _).mono ?_
      rintro e w3 ⟨v3, rfl, hv3, _, hb3⟩
      have HB3 := hide (HB2.out.trans (hb3.mono HB2.out.size))
      have HAD := hide (bigAdd_any _ _ (V * 10) ((s[k]'hlt).toNat - 48) w3 (HV2.out.below hb3) hv3 (Nat.lt_of_le_of_lt (Nat.le_add_right _ _) HBD2.out) HDB.out)
      clear hv3 hb3
      go_wp2_with fail
      refine (HAD.out).mono ?_
      rintro e w4 ⟨v4, rfl, hv4, hn4, hb4⟩
      rw [← HTK.out] at hv4
      have HRL := hide (show BigV w4 v4 (decV (s.data.toList.take (k + 1))) ∧ NewV w.heap.size v4 ∧ Below w.heap.size w w4 from ⟨hv4, hn4.less HB3.out.size, HB3.out.trans (hb4.mono HB3.out.size)⟩)
      clear hv4 hn4 hb4
      go_wp2
      go_roundw
      case rel => exact ⟨k + 1, by omega, by go_num, HRL⟩
      case measure => simp [intOf]; omega
    · obtain rfl : k = s.size := by omega
      rw [List.take_of_length_le (by rw [size_len]; omega)] at HV
      obtain ⟨A, n, c, xs, e1, _⟩ := NatV.is HV.out
      obtain rfl := agg_one e1
      have HB2 := hide (HK.out.below HB.out hbl)
      have HGV := hide (give_any b A n c u0 u1 wr HB2.out)
      unfold GivePost at HGV
      have HIA := hide (given HB2.out HV.out (HN.out.less hbl))
      have HBZ := hide (((HB.out.mono (Nat.le_of_lt hbl)).setCell (p := ⟨b, 1, none⟩) (Nat.le_refl b) (.slice A n c)).setCell (p := ⟨b, 0, none⟩) (Nat.le_refl b) (.bool false))
      generalize ((wr.setCell ⟨b, 1, none⟩ (.slice A n c)).setCell ⟨b, 0, none⟩ (.bool false)) = w9 at HGV HIA HBZ
      go_wp2_with fail
      refine (HGV.out).mono ?_
      rintro e w5 ⟨rfl, rfl⟩
      go_wp2
      go_ret2
      exact ⟨rfl, HIA.out, HBZ.out⟩
end Go.Proofs.YtpghgfenafhhbaaDoor
