/-
  count.made, Of, Zero, Fits: numbers by limbs.
-/
import Derived.Test.YtfbhmkpihmcegaaDoorNatPure
import Derived.Test.YtfbhmkpihmcegaaDoorRefCheck
import Derived.IntWalk
import Derived.Laws.BitsAllLaws
namespace Go.Proofs.YtfbhmkpihmcegaaDoor
open Go.RowKit

theorem sizeAl (w : World) (o : Obj) : (w.alloc o).heap.size = w.heap.size + 1 := by simp
theorem sizeSet (w : World) (p : Addr) (u : Value) : (w.setCell p u).heap.size = w.heap.size := by simp [World.setCell]
def Lim (w : World) (B : Nat) (A : Option Addr) (n : Nat) (xs : List Nat) : Prop :=
  xs.length = n ∧ n ≤ maxLen ∧ (∀ x ∈ xs, x < 4294967296) ∧ Reads w B 1 A n (xs.map fun x : Nat => Value.int .u32 (x : Int))
section
variable {w w' : World} {B n : Nat} {A : Option Addr} {xs : List Nat}
theorem Lim.below (h : Lim w B A n xs) (hb : Below B w w') : Lim w' B A n xs := ⟨h.1, h.2.1, h.2.2.1, h.2.2.2.below hb⟩
theorem Lim.more (h : Lim w B A n xs) {B' : Nat} (hB : B ≤ B') : Lim w B' A n xs := ⟨h.1, h.2.1, h.2.2.1, h.2.2.2.more hB⟩
theorem Lim.at_ (h : Lim w B A n xs) {k : Nat} (hk : k < n) : ∃ ad, A = some ad ∧ ad.block < B ∧ w.cell? (ad.add k) = some (.int .u32 ((xs.getD k 0 : Nat) : Int)) ∧ xs.getD k 0 < 4294967296 := by
  obtain ⟨ad, u, e, hb, hu, hc⟩ := h.2.2.2.at_ hk
  have hkl : k < xs.length := by rw [h.1]; exact hk
  have he : xs.getD k 0 = xs[k] := by rw [List.getD_eq_getElem?_getD, List.getElem?_eq_getElem hkl]; rfl
  rw [List.getElem?_map, List.getElem?_eq_getElem hkl] at hu
  refine ⟨ad, e, hb, ?_, by rw [he]; exact h.2.2.1 _ (List.getElem_mem hkl)⟩
  rw [he, hc, ← hu]
  rfl
theorem Lim.take (h : Lim w B A n xs) {m : Nat} (hm : m ≤ n) : Lim w B A m (xs.take m) := by
  refine ⟨by rw [List.length_take, h.1, Nat.min_eq_left hm], Nat.le_trans hm h.2.1, fun x hx => h.2.2.1 x (List.mem_of_mem_take hx), by rw [List.length_map, List.length_take, h.1, Nat.min_eq_left hm, Nat.mul_one], fun h0 => ?_⟩
  obtain ⟨ad, e, hb, hc⟩ := h.2.2.2.2 (by omega)
  refine ⟨ad, e, hb, fun j u hu => hc j u ?_⟩
  rw [List.map_take] at hu
  rcases Nat.lt_or_ge j m with hj | hj
  · rw [List.getElem?_take_of_lt hj] at hu; exact hu
  · rw [List.getElem?_eq_none (by rw [List.length_take]; omega)] at hu; cases hu
end

def lenV : Value → Nat
  | .slice _ n _ => n
  | _ => 0
def MadePost (w : World) (A : Option Addr) (c : Nat) (xs : List Nat) (e : Ending) (w' : World) : Prop :=
  ∃ m, m ≤ xs.length ∧ e = .returned (.agg #[.slice A m c]) ∧ TrimL (xs.take m) ∧ valL (xs.take m) = valL xs ∧ Below w.heap.size w w'
structure MadeI (xs : List Nat) (m : Nat) : Prop where
  zero : ∀ i, m ≤ i → i < xs.length → xs.getD i 0 = 0
theorem trim_take {xs : List Nat} {m : Nat} (hm : m ≤ xs.length) (h : m = 0 ∨ xs.getD (m - 1) 0 ≠ 0) : TrimL (xs.take m) := by
  rcases Nat.eq_zero_or_pos m with h0 | h0
  · exact .inl (by rw [h0]; rfl)
  · refine .inr ?_
    rcases h with h | h
    · omega
    · rw [List.length_take, Nat.min_eq_left hm, List.getD_eq_getElem?_getD, List.getElem?_take_of_lt (by omega), ← List.getD_eq_getElem?_getD]
      exact h
set_option maxHeartbeats 1000000 in
theorem made_any (A : Option Addr) (n c : Nat) (xs : List Nat) (w : World) (h : Lim w w.heap.size A n xs) (hc : n ≤ c) :
    Calls Tryd.prog 78 #[.slice A n c] w (MadePost w A c xs) := by
  have HL := Lib.hid h.1
  have hm := h.2.1
  simp only [maxLen] at hm
  have HI := hide h
  have HB := hide ((Below.refl w.heap.size w).alloc (Nat.le_refl _) (.cells #[.slice none 0 0] 66))
  clear h
  go_enter Tryd.func78, Tryd.ntmps78
  go_wp2
  go_loopw [0] (fun v wr => ∃ m : Nat, m ≤ n ∧ v = .slice A m c ∧ wr = w.alloc (.cells #[.slice none 0 0] 66) ∧ Hid (MadeI xs m)) (fun v _ => lenV v)
  case atStart => exact ⟨n, Nat.le_refl _, rfl, rfl, hide ⟨fun i h1 h2 => by have := HL.out; omega⟩⟩
  case round =>
    obtain ⟨m, hmn, rfl, rfl, hM⟩ := hrel
    rcases Nat.eq_zero_or_pos m with h0 | h0
    · subst h0
      go_wp2
      exact bodyPost_ret (v := .agg #[.slice A 0 c]) (by simp [results, Tryd.results78, go_sem]) rfl ⟨0, Nat.zero_le _, rfl, .inl rfl, valL_take hM.out.zero, (Below.refl w.heap.size w).alloc (Nat.le_refl _) _⟩
    · obtain ⟨k, rfl⟩ : ∃ k, m = k + 1 := ⟨m - 1, by omega⟩
      obtain ⟨ad, rfl, hb, hcell, hx⟩ := HI.out.at_ (k := k) (by omega)
      have hc2 := (HB.out.cell (by rw [block_of_add]; exact hb)).trans hcell
      clear hcell
      have HX := hide (show xs.getD k 0 = 0 → ∀ i, k ≤ i → i < xs.length → xs.getD i 0 = 0 from fun h i h1 h2 => by
        rcases Nat.lt_or_ge k i with h3 | h3
        · exact hM.out.zero i h3 h2
        · obtain rfl : i = k := by omega
          exact h)
      have HY := hide (show xs.getD k 0 ≠ 0 → TrimL (xs.take (k + 1)) from fun h => trim_take (by have := HL.out; omega) (.inr (by simpa using h)))
      generalize xs.getD k 0 = x at hc2 hx HX HY
      by_cases hz : x = 0
      · subst hz
        go_wp2
        go_roundw
        case rel => exact ⟨k, by omega, by simp, by first | rfl | trivial, hide ⟨HX.out rfl⟩⟩
        case measure => simp [lenV]
      · have hzb : ((x : Int) == 0) = false := by simp; omega
        go_wp2
        exact bodyPost_ret (v := .agg #[.slice (some ad) (k + 1) c]) (by simp [results, Tryd.results78, go_sem]) rfl ⟨k + 1, by have := HL.out; omega, rfl, HY.out hz, valL_take hM.out.zero, (Below.refl w.heap.size w).alloc (Nat.le_refl _) _⟩

/-- The number in v is N. -/
structure NatV (w : World) (v : Value) (N : Nat) : Prop where
  is : ∃ A n c xs, v = .agg #[.slice A n c] ∧ n ≤ c ∧ Lim w w.heap.size A n xs ∧ TrimL xs ∧ valL xs = N
theorem lim_set {w : World} {B n g : Nat} {ad : Addr} {xs : List Nat} (h : Lim w B (some ad) n xs) (hg : ad.block ≠ g) (u : Value) : Lim (w.setCell ⟨g, 0, none⟩ u) B (some ad) n xs := by
  refine ⟨h.1, h.2.1, h.2.2.1, h.2.2.2.1, fun hn => ?_⟩
  obtain ⟨ad', e, hb, hc⟩ := h.2.2.2.2 hn
  cases e
  exact ⟨ad, rfl, hb, fun j u hu => (World.cell?_setCell_other _ _ _ _ (fun e => hg (by rw [← block_of_add ad j, ← e]))).trans (hc j u hu)⟩
theorem two_lim (w : World) (a b : Nat) (x y : Int) (u : Value) (hx : x = a) (hy : y = b) (ha : a < 4294967296) (hb : b < 4294967296) : Lim ((w.alloc (.cells #[u] 66)).alloc (.cells #[.int .u32 x, .int .u32 y] 130)) ((w.alloc (.cells #[u] 66)).alloc (.cells #[.int .u32 x, .int .u32 y] 130)).heap.size (some ⟨w.heap.size + 1, 0, none⟩) 2 [a, b] := by
  subst hx hy
  refine ⟨rfl, by simp [maxLen], fun x hx => ?_, rfl, fun _ => ⟨_, rfl, by simp, fun j u hu => ?_⟩⟩
  · simp at hx
    omega
  · match j, hu with
    | 0, hu => simp at hu; subst hu; simp [Addr.add]
    | 1, hu => simp at hu; subst hu; simp [Addr.add]
def OfPost (w : World) (N : Nat) (e : Ending) (w' : World) : Prop := ∃ v, e = .returned v ∧ NatV w' v N ∧ Below w.heap.size w w'

set_option maxHeartbeats 1000000 in
theorem of_nat (N : Nat) (w : World) (hN : N < 9223372036854775808) : Calls Tryd.prog 40 #[.int .i64 N] w (OfPost w N) := by
  have HL := hide (two_lim w (N % 4294967296) (N / 4294967296) ((N : Int) % 4294967296) ((N : Int) / 4294967296) (.slice none 0 0) (by omega) (by omega) (by omega) (by omega))
  have HM := hide (made_any (some ⟨w.heap.size + 1, 0, none⟩) 2 2 [(N % 4294967296), (N / 4294967296)] _ HL.out (Nat.le_refl _))
  have HB := hide (((Below.refl w.heap.size w).alloc (Nat.le_refl _) (.cells #[.slice none 0 0] 66)).alloc (by simp) (.cells #[.int .u32 ((N : Int) % 4294967296), .int .u32 ((N : Int) / 4294967296)] 130))
  have hsz : w.heap.size < ((w.alloc (.cells #[.slice none 0 0] 66)).alloc (.cells #[.int .u32 ((N : Int) % 4294967296), .int .u32 ((N : Int) / 4294967296)] 130)).heap.size := by simp; omega
  have HK := hide ((Blk.new w 66 #[.slice none 0 0]).alloc (.cells #[.int .u32 ((N : Int) % 4294967296), .int .u32 ((N : Int) / 4294967296)] 130))
  have HV := Lib.hid (show valL [(N % 4294967296), (N / 4294967296)] = N by simp only [valL]; try omega)
  go_enter Tryd.func40, Tryd.ntmps40
  go_wp2_with fail
  generalize ((w.alloc (.cells #[.slice none 0 0] 66)).alloc (.cells #[.int .u32 ((N : Int) % 4294967296), .int .u32 ((N : Int) / 4294967296)] 130)) = w1 at HL HM HB HK hsz ⊢
  refine (HM.out).mono ?_
  rintro e w2 ⟨m, hm, rfl, htr, hval, hb2⟩
  have HK2 := hide (HK.out.below hb2 HK.out.lt)
  have HB2 := hide (HB.out.trans (hb2.mono HB.out.size))
  have HLX := hide ((HL.out.take hm).below hb2 |>.more hb2.size)
  have c0 := HK2.out.cell 0
  have f0 := HK2.out.frozen 0
  have HP := hide (HK2.out.set_ 0 (.slice (some ⟨w.heap.size + 1, 0, none⟩) m 2))
  have HP0 := HP.out.cell 0
  have hm2 : m ≤ 2 := hm
  have HNV := hide (show NatV (w2.setCell ⟨w.heap.size, 0, none⟩ (.slice (some ⟨w.heap.size + 1, 0, none⟩) m 2)) (.agg #[.slice (some ⟨w.heap.size + 1, 0, none⟩) m 2]) N from ⟨_, m, 2, _, rfl, hm2, by rw [sizeSet]; exact lim_set HLX.out (by simp) _, htr, by rw [hval, HV.out]⟩)
  clear hb2 htr hval
  go_wp2
  exact bodyPost_ret (v := .agg #[.slice (some ⟨w.heap.size + 1, 0, none⟩) m 2]) (by simp [results, Tryd.results40, go_sem, HP0]) rfl ⟨_, rfl, HNV.out, HB2.out.setCell (p := ⟨w.heap.size, 0, none⟩) (Nat.le_refl _) _⟩
set_option maxHeartbeats 1000000 in
theorem of_neg (n : Int) (w : World) (hn : n < 0) : Calls Tryd.prog 40 #[.int .i64 n] w (OfPost w 0) := by
  have HL := hide (two_lim w 0 0 0 0 (.slice none 0 0) (by omega) (by omega) (by omega) (by omega))
  have HM := hide (made_any (some ⟨w.heap.size + 1, 0, none⟩) 2 2 [0, 0] _ HL.out (Nat.le_refl _))
  have HB := hide (((Below.refl w.heap.size w).alloc (Nat.le_refl _) (.cells #[.slice none 0 0] 66)).alloc (by simp) (.cells #[.int .u32 0, .int .u32 0] 130))
  have hsz : w.heap.size < ((w.alloc (.cells #[.slice none 0 0] 66)).alloc (.cells #[.int .u32 0, .int .u32 0] 130)).heap.size := by simp; omega
  have HK := hide ((Blk.new w 66 #[.slice none 0 0]).alloc (.cells #[.int .u32 0, .int .u32 0] 130))
  have HV := Lib.hid (show valL [0, 0] = 0 by simp only [valL]; try omega)
  go_enter Tryd.func40, Tryd.ntmps40
  go_wp2_with fail
  generalize ((w.alloc (.cells #[.slice none 0 0] 66)).alloc (.cells #[.int .u32 0, .int .u32 0] 130)) = w1 at HL HM HB HK hsz ⊢
  refine (HM.out).mono ?_
  rintro e w2 ⟨m, hm, rfl, htr, hval, hb2⟩
  have HK2 := hide (HK.out.below hb2 HK.out.lt)
  have HB2 := hide (HB.out.trans (hb2.mono HB.out.size))
  have HLX := hide ((HL.out.take hm).below hb2 |>.more hb2.size)
  have c0 := HK2.out.cell 0
  have f0 := HK2.out.frozen 0
  have HP := hide (HK2.out.set_ 0 (.slice (some ⟨w.heap.size + 1, 0, none⟩) m 2))
  have HP0 := HP.out.cell 0
  have hm2 : m ≤ 2 := hm
  have HNV := hide (show NatV (w2.setCell ⟨w.heap.size, 0, none⟩ (.slice (some ⟨w.heap.size + 1, 0, none⟩) m 2)) (.agg #[.slice (some ⟨w.heap.size + 1, 0, none⟩) m 2]) 0 from ⟨_, m, 2, _, rfl, hm2, by rw [sizeSet]; exact lim_set HLX.out (by simp) _, htr, by rw [hval, HV.out]⟩)
  clear hb2 htr hval
  go_wp2
  exact bodyPost_ret (v := .agg #[.slice (some ⟨w.heap.size + 1, 0, none⟩) m 2]) (by simp [results, Tryd.results40, go_sem, HP0]) rfl ⟨_, rfl, HNV.out, HB2.out.setCell (p := ⟨w.heap.size, 0, none⟩) (Nat.le_refl _) _⟩
theorem of_any (n : Int) (w : World) (hn : n ≤ 9223372036854775807) : Calls Tryd.prog 40 #[.int .i64 n] w (OfPost w (max 0 n).toNat) := by
  by_cases h0 : n < 0
  · rw [show (max 0 n).toNat = 0 by omega]
    exact of_neg n w h0
  · obtain ⟨N, rfl⟩ : ∃ N : Nat, n = N := ⟨n.toNat, by omega⟩
    rw [show (max 0 (N : Int)).toNat = N by omega]
    exact of_nat N w (by omega)
end Go.Proofs.YtfbhmkpihmcegaaDoor
