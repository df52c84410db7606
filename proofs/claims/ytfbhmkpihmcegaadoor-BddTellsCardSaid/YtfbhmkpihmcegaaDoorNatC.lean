/-
  count.made, Of, Zero, Fits: numbers by limbs. count's Zero and Fits. math/bits.Div32, count.short: a number divided by one limb.
-/
import Derived.Test.YtfbhmkpihmcegaaDoorNatPure
import Derived.Test.YtfbhmkpihmcegaaDoorRefCheck
import Derived.IntWalk
import Derived.Laws.BitsAllLaws
import Derived.Deep.QuietTactic
import Derived.BigQuiet
namespace Go.Proofs.YtfbhmkpihmcegaaDoor
open Go.RowKit

theorem sizeAl (w : World) (o : Obj) : (w.alloc o).heap.size = w.heap.size + 1 := by simp
theorem sizeSet (w : World) (p : Addr) (u : Value) : (w.setCell p u).heap.size = w.heap.size := by simp [World.setCell]
def Lim (w : World) (B : Nat) (A : Option Addr) (n : Nat) (xs : List Nat) : Prop :=
  xs.length = n ∧ n ≤ maxLen ∧ (∀ x ∈ xs, x < 4294967296) ∧ Reads w B 1 A n (xs.map fun x : Nat => Value.int .u32 (x : Int))
section
variable {w w' : World} {B n : Nat} {A : Option Addr} {xs : List Nat}
theorem Lim.below (h : Lim w B A n xs) (hb : Below B w w') : Lim w' B A n xs := ⟨h.1, h.2.1, h.2.2.1, h.2.2.2.below hb⟩
theorem Lim.more (h : Lim w B A n xs) {B' : Nat} (hB : B ≤ B') : Lim w B' A n xs := ⟨h.1, h.2.1, h.2.2.1, h.2.2.2.more hB⟩
theorem Lim.at_ (h : Lim w B A n xs) {k : Nat} (hk : k < n) : ∃ ad, A = some ad ∧ ad.block < B ∧ w.cell? (ad.add k) = some (.int .u32 ((xs.getD k 0 : Nat) : Int)) ∧ xs.getD k 0 < 4294967296 := by
  obtain ⟨ad, u, e, hb, hu, hc⟩ := h.2.2.2.at_ hk
  have hkl : k < xs.length := by rw [h.1]; exact hk
  have he : xs.getD k 0 = xs[k] := by rw [List.getD_eq_getElem?_getD, List.getElem?_eq_getElem hkl]; rfl
  rw [List.getElem?_map, List.getElem?_eq_getElem hkl] at hu
  refine ⟨ad, e, hb, ?_, by rw [he]; exact h.2.2.1 _ (List.getElem_mem hkl)⟩
  rw [he, hc, ← hu]
  rfl
theorem Lim.take (h : Lim w B A n xs) {m : Nat} (hm : m ≤ n) : Lim w B A m (xs.take m) := by
  refine ⟨by rw [List.length_take, h.1, Nat.min_eq_left hm], Nat.le_trans hm h.2.1, fun x hx => h.2.2.1 x (List.mem_of_mem_take hx), by rw [List.length_map, List.length_take, h.1, Nat.min_eq_left hm, Nat.mul_one], fun h0 => ?_⟩
  obtain ⟨ad, e, hb, hc⟩ := h.2.2.2.2 (by omega)
  refine ⟨ad, e, hb, fun j u hu => hc j u ?_⟩
  rw [List.map_take] at hu
  rcases Nat.lt_or_ge j m with hj | hj
  · rw [List.getElem?_take_of_lt hj] at hu; exact hu
  · rw [List.getElem?_eq_none (by rw [List.length_take]; omega)] at hu; cases hu
end

def lenV : Value → Nat
  | .slice _ n _ => n
  | _ => 0
def MadePost (w : World) (A : Option Addr) (c : Nat) (xs : List Nat) (e : Ending) (w' : World) : Prop :=
  ∃ m, m ≤ xs.length ∧ e = .returned (.agg #[.slice A m c]) ∧ TrimL (xs.take m) ∧ valL (xs.take m) = valL xs ∧ Below w.heap.size w w'
structure MadeI (xs : List Nat) (m : Nat) : Prop where
  zero : ∀ i, m ≤ i → i < xs.length → xs.getD i 0 = 0
theorem trim_take {xs : List Nat} {m : Nat} (hm : m ≤ xs.length) (h : m = 0 ∨ xs.getD (m - 1) 0 ≠ 0) : TrimL (xs.take m) := by
  rcases Nat.eq_zero_or_pos m with h0 | h0
  · exact .inl (by rw [h0]; rfl)
  · refine .inr ?_
    rcases h with h | h
    · omega
    · rw [List.length_take, Nat.min_eq_left hm, List.getD_eq_getElem?_getD, List.getElem?_take_of_lt (by omega), ← List.getD_eq_getElem?_getD]
      exact h
set_option maxHeartbeats 1000000 in
theorem made_any (A : Option Addr) (n c : Nat) (xs : List Nat) (w : World) (h : Lim w w.heap.size A n xs) (hc : n ≤ c) :
    Calls Tryd.prog 78 #[.slice A n c] w (MadePost w A c xs) := by
  have HL := Lib.hid h.1
  have hm := h.2.1
  simp only [maxLen] at hm
  have HI := hide h
  have HB := hide ((Below.refl w.heap.size w).alloc (Nat.le_refl _) (.cells #[.slice none 0 0] 66))
  clear h
  go_enter Tryd.func78, Tryd.ntmps78
  go_wp2
  go_loopw [0] (fun v wr => ∃ m : Nat, m ≤ n ∧ v = .slice A m c ∧ wr = w.alloc (.cells #[.slice none 0 0] 66) ∧ Hid (MadeI xs m)) (fun v _ => lenV v)
  case atStart => exact ⟨n, Nat.le_refl _, rfl, rfl, hide ⟨fun i h1 h2 => by have := HL.out; omega⟩⟩
  case round =>
    obtain ⟨m, hmn, rfl, rfl, hM⟩ := hrel
    rcases Nat.eq_zero_or_pos m with h0 | h0
    · subst h0
      go_wp2
      exact bodyPost_ret (v := .agg #[.slice A 0 c]) (by simp [results, Tryd.results78, go_sem]) rfl ⟨0, Nat.zero_le _, rfl, .inl rfl, valL_take hM.out.zero, (Below.refl w.heap.size w).alloc (Nat.le_refl _) _⟩
    · obtain ⟨k, rfl⟩ : ∃ k, m = k + 1 := ⟨m - 1, by omega⟩
      obtain ⟨ad, rfl, hb, hcell, hx⟩ := HI.out.at_ (k := k) (by omega)
      have hc2 := (HB.out.cell (by rw [block_of_add]; exact hb)).trans hcell
      clear hcell
      have HX := hide (show xs.getD k 0 = 0 → ∀ i, k ≤ i → i < xs.length → xs.getD i 0 = 0 from fun h i h1 h2 => by
        rcases Nat.lt_or_ge k i with h3 | h3
        · exact hM.out.zero i h3 h2
        · obtain rfl : i = k := by omega
          exact h)
      have HY := hide (show xs.getD k 0 ≠ 0 → TrimL (xs.take (k + 1)) from fun h => trim_take (by have := HL.out; omega) (.inr (by simpa using h)))
      generalize xs.getD k 0 = x at hc2 hx HX HY
      by_cases hz : x = 0
      · subst hz
        go_wp2
        go_roundw
        case rel => exact ⟨k, by omega, by simp, by first | rfl | trivial, hide ⟨HX.out rfl⟩⟩
        case measure => simp [lenV]
      · have hzb : ((x : Int) == 0) = false := by simp; omega
        go_wp2
        exact bodyPost_ret (v := .agg #[.slice (some ad) (k + 1) c]) (by simp [results, Tryd.results78, go_sem]) rfl ⟨k + 1, by have := HL.out; omega, rfl, HY.out hz, valL_take hM.out.zero, (Below.refl w.heap.size w).alloc (Nat.le_refl _) _⟩

/-- The number in v is N. -/
structure NatV (w : World) (v : Value) (N : Nat) : Prop where
  is : ∃ A n c xs, v = .agg #[.slice A n c] ∧ n ≤ c ∧ Lim w w.heap.size A n xs ∧ TrimL xs ∧ valL xs = N
theorem lim_set {w : World} {B n g : Nat} {ad : Addr} {xs : List Nat} (h : Lim w B (some ad) n xs) (hg : ad.block ≠ g) (u : Value) : Lim (w.setCell ⟨g, 0, none⟩ u) B (some ad) n xs := by
  refine ⟨h.1, h.2.1, h.2.2.1, h.2.2.2.1, fun hn => ?_⟩
  obtain ⟨ad', e, hb, hc⟩ := h.2.2.2.2 hn
  cases e
  exact ⟨ad, rfl, hb, fun j u hu => (World.cell?_setCell_other _ _ _ _ (fun e => hg (by rw [← block_of_add ad j, ← e]))).trans (hc j u hu)⟩
theorem two_lim (w : World) (a b : Nat) (x y : Int) (u : Value) (hx : x = a) (hy : y = b) (ha : a < 4294967296) (hb : b < 4294967296) : Lim ((w.alloc (.cells #[u] 66)).alloc (.cells #[.int .u32 x, .int .u32 y] 130)) ((w.alloc (.cells #[u] 66)).alloc (.cells #[.int .u32 x, .int .u32 y] 130)).heap.size (some ⟨w.heap.size + 1, 0, none⟩) 2 [a, b] := by
  subst hx hy
  refine ⟨rfl, by simp [maxLen], fun x hx => ?_, rfl, fun _ => ⟨_, rfl, by simp, fun j u hu => ?_⟩⟩
  · simp at hx
    omega
  · match j, hu with
    | 0, hu => simp at hu; subst hu; simp [Addr.add]
    | 1, hu => simp at hu; subst hu; simp [Addr.add]
def OfPost (w : World) (N : Nat) (e : Ending) (w' : World) : Prop := ∃ v, e = .returned v ∧ NatV w' v N ∧ Below w.heap.size w w'

set_option maxHeartbeats 1000000 in
theorem of_nat (N : Nat) (w : World) (hN : N < 9223372036854775808) : Calls Tryd.prog 40 #[.int .i64 N] w (OfPost w N) := by
  have HL := hide (two_lim w (N % 4294967296) (N / 4294967296) ((N : Int) % 4294967296) ((N : Int) / 4294967296) (.slice none 0 0) (by omega) (by omega) (by omega) (by omega))
  have HM := hide (made_any (some ⟨w.heap.size + 1, 0, none⟩) 2 2 [(N % 4294967296), (N / 4294967296)] _ HL.out (Nat.le_refl _))
  have HB := hide (((Below.refl w.heap.size w).alloc (Nat.le_refl _) (.cells #[.slice none 0 0] 66)).alloc (by simp) (.cells #[.int .u32 ((N : Int) % 4294967296), .int .u32 ((N : Int) / 4294967296)] 130))
  have hsz : w.heap.size < ((w.alloc (.cells #[.slice none 0 0] 66)).alloc (.cells #[.int .u32 ((N : Int) % 4294967296), .int .u32 ((N : Int) / 4294967296)] 130)).heap.size := by simp; omega
  have HK := hide ((Blk.new w 66 #[.slice none 0 0]).alloc (.cells #[.int .u32 ((N : Int) % 4294967296), .int .u32 ((N : Int) / 4294967296)] 130))
  have HV := Lib.hid (show valL [(N % 4294967296), (N / 4294967296)] = N by simp only [valL]; try omega)
  go_enter Tryd.func40, Tryd.ntmps40
  go_wp2_with fail
  generalize ((w.alloc (.cells #[.slice none 0 0] 66)).alloc (.cells #[.int .u32 ((N : Int) % 4294967296), .int .u32 ((N : Int) / 4294967296)] 130)) = w1 at HL HM HB HK hsz ⊢
  refine (HM.out).mono ?_
  rintro e w2 ⟨m, hm, rfl, htr, hval, hb2⟩
  have HK2 := hide (HK.out.below hb2 HK.out.lt)
  have HB2 := hide (HB.out.trans (hb2.mono HB.out.size))
  have HLX := hide ((HL.out.take hm).below hb2 |>.more hb2.size)
  have c0 := HK2.out.cell 0
  have f0 := HK2.out.frozen 0
  have HP := hide (HK2.out.set_ 0 (.slice (some ⟨w.heap.size + 1, 0, none⟩) m 2))
  have HP0 := HP.out.cell 0
  have hm2 : m ≤ 2 := hm
  have HNV := hide (show NatV (w2.setCell ⟨w.heap.size, 0, none⟩ (.slice (some ⟨w.heap.size + 1, 0, none⟩) m 2)) (.agg #[.slice (some ⟨w.heap.size + 1, 0, none⟩) m 2]) N from ⟨_, m, 2, _, rfl, hm2, by rw [sizeSet]; exact lim_set HLX.out (by simp) _, htr, by rw [hval, HV.out]⟩)
  clear hb2 htr hval
  go_wp2
  exact bodyPost_ret (v := .agg #[.slice (some ⟨w.heap.size + 1, 0, none⟩) m 2]) (by simp [results, Tryd.results40, go_sem, HP0]) rfl ⟨_, rfl, HNV.out, HB2.out.setCell (p := ⟨w.heap.size, 0, none⟩) (Nat.le_refl _) _⟩
set_option maxHeartbeats 1000000 in
theorem of_neg (n : Int) (w : World) (hn : n < 0) : Calls Tryd.prog 40 #[.int .i64 n] w (OfPost w 0) := by
  have HL := hide (two_lim w 0 0 0 0 (.slice none 0 0) (by omega) (by omega) (by omega) (by omega))
  have HM := hide (made_any (some ⟨w.heap.size + 1, 0, none⟩) 2 2 [0, 0] _ HL.out (Nat.le_refl _))
  have HB := hide (((Below.refl w.heap.size w).alloc (Nat.le_refl _) (.cells #[.slice none 0 0] 66)).alloc (by simp) (.cells #[.int .u32 0, .int .u32 0] 130))
  have hsz : w.heap.size < ((w.alloc (.cells #[.slice none 0 0] 66)).alloc (.cells #[.int .u32 0, .int .u32 0] 130)).heap.size := by simp; omega
  have HK := hide ((Blk.new w 66 #[.slice none 0 0]).alloc (.cells #[.int .u32 0, .int .u32 0] 130))
  have HV := Lib.hid (show valL [0, 0] = 0 by simp only [valL]; try omega)
  go_enter Tryd.func40, Tryd.ntmps40
  go_wp2_with fail
  generalize ((w.alloc (.cells #[.slice none 0 0] 66)).alloc (.cells #[.int .u32 0, .int .u32 0] 130)) = w1 at HL HM HB HK hsz ⊢
  refine (HM.out).mono ?_
  rintro e w2 ⟨m, hm, rfl, htr, hval, hb2⟩
  have HK2 := hide (HK.out.below hb2 HK.out.lt)
  have HB2 := hide (HB.out.trans (hb2.mono HB.out.size))
  have HLX := hide ((HL.out.take hm).below hb2 |>.more hb2.size)
  have c0 := HK2.out.cell 0
  have f0 := HK2.out.frozen 0
  have HP := hide (HK2.out.set_ 0 (.slice (some ⟨w.heap.size + 1, 0, none⟩) m 2))
  have HP0 := HP.out.cell 0
  have hm2 : m ≤ 2 := hm
  have HNV := hide (show NatV (w2.setCell ⟨w.heap.size, 0, none⟩ (.slice (some ⟨w.heap.size + 1, 0, none⟩) m 2)) (.agg #[.slice (some ⟨w.heap.size + 1, 0, none⟩) m 2]) 0 from ⟨_, m, 2, _, rfl, hm2, by rw [sizeSet]; exact lim_set HLX.out (by simp) _, htr, by rw [hval, HV.out]⟩)
  clear hb2 htr hval
  go_wp2
  exact bodyPost_ret (v := .agg #[.slice (some ⟨w.heap.size + 1, 0, none⟩) m 2]) (by simp [results, Tryd.results40, go_sem, HP0]) rfl ⟨_, rfl, HNV.out, HB2.out.setCell (p := ⟨w.heap.size, 0, none⟩) (Nat.le_refl _) _⟩
theorem of_any (n : Int) (w : World) (hn : n ≤ 9223372036854775807) : Calls Tryd.prog 40 #[.int .i64 n] w (OfPost w (max 0 n).toNat) := by
  by_cases h0 : n < 0
  · rw [show (max 0 n).toNat = 0 by omega]
    exact of_neg n w h0
  · obtain ⟨N, rfl⟩ : ∃ N : Nat, n = N := ⟨n.toNat, by omega⟩
    rw [show (max 0 (N : Int)).toNat = N by omega]
    exact of_nat N w (by omega)
end Go.Proofs.YtfbhmkpihmcegaaDoor
namespace Go.Proofs.YtfbhmkpihmcegaaDoor
open Go.RowKit

theorem NatV.below {w w' : World} {v : Value} {N : Nat} (h : NatV w v N) (hb : Below w.heap.size w w') : NatV w' v N := by
  obtain ⟨A, n, c, xs, h1, h2, h3, h4, h5⟩ := h.is
  exact ⟨A, n, c, xs, h1, h2, (h3.below hb).more hb.size, h4, h5⟩
theorem trim_zero {xs : List Nat} {n N : Nat} (hl : xs.length = n) (ht : TrimL xs) (hv : valL xs = N) : N = 0 ↔ n = 0 := by
  constructor
  · intro h
    rcases Nat.eq_zero_or_pos n with h0 | h0
    · exact h0
    · have := ht.pos (fun e => by rw [e] at hl; simp at hl; omega)
      omega
  · intro h
    rw [List.eq_nil_of_length_eq_zero (hl.trans h)] at hv
    exact hv.symm
def BoolPost (w : World) (b : Bool) (e : Ending) (w' : World) : Prop := e = .returned (.bool b) ∧ Below w.heap.size w w'
theorem zero_any (v : Value) (N : Nat) (w : World) (h : NatV w v N) : Calls Tryd.prog 97 #[v] w (BoolPost w (decide (N = 0))) := by
  obtain ⟨A, n, c, xs, rfl, _, hl, ht, hv⟩ := h.is
  have HZ := Lib.hid (trim_zero hl.1 ht hv)
  have hm := hl.2.1
  simp only [maxLen] at hm
  have HB := hide ((Below.refl w.heap.size w).alloc (Nat.le_refl _) (.cells #[.slice A n c] 66))
  clear hl ht hv h
  by_cases h0 : n = 0
  · subst h0
    have HE := Lib.hid (HZ.out.2 rfl)
    go_enter Tryd.func97, Tryd.ntmps97
    go_wp2
    go_ret
    exact ⟨ret_bool (by rw [decide_eq_true HE.out]), HB.out⟩
  · have HE := hide (show N ≠ 0 from fun e => h0 (HZ.out.1 e))
    have hb : ((n : Int) == 0) = false := by simp; omega
    go_enter Tryd.func97, Tryd.ntmps97
    go_wp2
    go_ret
    exact ⟨ret_bool (by rw [decide_eq_false HE.out]; try simp), HB.out⟩

theorem valL_big {xs : List Nat} (ht : TrimL xs) (h : 2 < xs.length) : 18446744073709551616 ≤ valL xs := by
  have e := valL_append (xs.take 2) (xs.drop 2)
  rw [List.take_append_drop, List.length_take, Nat.min_eq_left (by omega)] at e
  have hp : 0 < valL (xs.drop 2) := valL_pos ⟨xs.length - 3, by rw [List.length_drop]; omega, by
    rcases ht with ht | ht
    · rw [ht] at h; simp at h
    · rw [List.getD_eq_getElem?_getD, List.getElem?_drop, show 2 + (xs.length - 3) = xs.length - 1 by omega, ← List.getD_eq_getElem?_getD]; exact ht⟩
  rw [e]
  omega
theorem valL_one {xs : List Nat} (h : 0 < xs.length) : valL (xs.take 1) = xs.getD 0 0 := by
  cases xs with
  | nil => simp at h
  | cons a r => simp [valL]
theorem valL_two {xs : List Nat} (h : 1 < xs.length) : valL (xs.take 2) = xs.getD 0 0 + 4294967296 * xs.getD 1 0 := by
  match xs, h with
  | a :: b :: r, _ => simp [valL]
theorem or_zero (x : Nat) (hx : x < 4294967296) : bits BinOp.or IntKind.u64 0 (x : Int) = (x : Int) := by
  have := u64_or_nat 0 x (by omega) (by omega)
  rw [Nat.zero_or] at this
  exact this
theorem or_high (a x : Nat) (ha : a < 4294967296) (hx : x < 4294967296) : bits BinOp.or IntKind.u64 (a : Int) ((x : Int) * 4294967296) = ((a + 4294967296 * x : Nat) : Int) := by
  have h1 := u64_or_nat a (x * 4294967296) (by omega) (by omega)
  have h2 := Nat.two_pow_add_eq_or_of_lt (i := 32) (b := a) (by omega) x
  have e : ((x : Int) * 4294967296) = ((x * 4294967296 : Nat) : Int) := by simp
  rw [e, h1, Nat.or_comm, Nat.mul_comm x]
  have h3 : (2 : Nat) ^ 32 = 4294967296 := by decide
  rw [h3] at h2
  rw [← h2, Nat.add_comm]
def fitsV (N : Nat) : Value := if N < 9223372036854775808 then .tuple #[.int .i64 (N : Int), .bool true] else .tuple #[.int .i64 0, .bool false]
def FitsPost (w : World) (N : Nat) (e : Ending) (w' : World) : Prop := e = .returned (fitsV N) ∧ Below w.heap.size w w'
set_option maxHeartbeats 2000000 in
theorem fits_any (v : Value) (N : Nat) (w : World) (h : NatV w v N) : Calls Tryd.prog 92 #[v] w (FitsPost w N) := by
  obtain ⟨A, n, c, xs, rfl, _, hl, ht, hv⟩ := h.is
  have hm := hl.2.1
  simp only [maxLen] at hm
  have HI := hide hl
  have HL := Lib.hid hl.1
  have HB := hide ((Below.refl w.heap.size w).alloc (Nat.le_refl _) (.cells #[.slice A n c] 66))
  have HBK := hide (Blk.new w 66 #[.slice A n c])
  have HBIG := hide (fun (h2 : 2 < n) => show 18446744073709551616 ≤ N by rw [← hv]; exact valL_big ht (by rw [hl.1]; exact h2))
  have HV := Lib.hid hv
  clear hl ht hv h
  go_enter Tryd.func92, Tryd.ntmps92
  go_wp2
  generalize (w.alloc (.cells #[.slice A n c] 66)) = w1 at HB HBK ⊢
  go_loopw [4, 10] (fun u i wr => ∃ k : Nat, k ≤ n ∧ i = .int .i64 k ∧ u = .int .u64 ((valL (xs.take (min k 2)) : Nat) : Int) ∧ wr = w1) (fun _ i _ => n - (intOf i).toNat)
  case atStart => exact ⟨0, Nat.zero_le _, rfl, by simp [valL], rfl⟩
  case round =>
    obtain ⟨k, hk, rfl, rfl, e⟩ := hrel
    subst e
    by_cases hlt : k < n
    · obtain ⟨ad, rfl, hb, hcell, hx⟩ := HI.out.at_ hlt
      have hc2 := (HB.out.cell (by rw [block_of_add]; exact hb)).trans hcell
      clear hcell
      by_cases h0 : k = 0
      · subst h0
        generalize hgx : xs.getD 0 0 = x at hc2 hx
        have HX := Lib.hid hgx
        clear hgx
        have hc3 : wr.cell? ad = some (.int .u32 (x : Int)) := by simpa [Addr.add] using hc2
        rw [show valL (xs.take (min 0 2)) = 0 from rfl]
        have HO := Lib.hid (or_zero x hx)
        have HV1 := Lib.hid (show valL (xs.take (min 1 2)) = x by rw [show min 1 2 = 1 from rfl, valL_one (by rw [HL.out]; exact hlt)]; exact HX.out)
        go_wp2
        go_roundw
        case rel => exact ⟨1, hlt, rfl, by rw [HO.out, HV1.out], by first | rfl | trivial⟩
        case measure => simp [intOf]; omega
      · by_cases h1 : k = 1
        · subst h1
          have HX0 := hide (HI.out.2.2.1 (xs.getD 0 0) (by rw [List.getD_eq_getElem?_getD, List.getElem?_eq_getElem (by rw [HL.out]; omega)]; exact List.getElem_mem _))
          have HV1 := Lib.hid (show valL (xs.take (min 1 2)) = xs.getD 0 0 by rw [show min 1 2 = 1 from rfl, valL_one (by rw [HL.out]; omega)])
          have HV2 := Lib.hid (show valL (xs.take (min 2 2)) = xs.getD 0 0 + 4294967296 * xs.getD 1 0 by rw [show min 2 2 = 2 from rfl, valL_two (by rw [HL.out]; exact hlt)])
          have HO := Lib.hid (or_high (xs.getD 0 0) (xs.getD 1 0) HX0.out hx)
          rw [HV1.out]
          generalize xs.getD 0 0 = y at HX0 HV1 HV2 HO ⊢
          generalize xs.getD 1 0 = x at hc2 hx HV2 HO
          have hc3 : wr.cell? ⟨ad.block, ad.off + 1, none⟩ = some (.int .u32 (x : Int)) := by simpa [Addr.add] using hc2
          go_wp2
          go_roundw
          case rel => exact ⟨2, hlt, rfl, by rw [HO.out, HV2.out], by first | rfl | trivial⟩
          case measure => simp [intOf]; omega
        · have hk2 : ¬ k < 2 := by omega
          have HMI := Lib.hid (show min (k + 1) 2 = min k 2 by omega)
          generalize xs.getD k 0 = x at hc2 hx
          go_wp2
          go_roundw
          case rel => exact ⟨k + 1, by omega, by go_num, by rw [HMI.out], by first | rfl | trivial⟩
          case measure => simp [intOf]; omega
    · obtain rfl : k = n := by omega
      have c0 := HBK.out.cell 0
      by_cases h2 : 2 < k
      · have HN := Lib.hid (show fitsV N = .tuple #[.int .i64 0, .bool false] by unfold fitsV; rw [if_neg (by have := HBIG.out h2; omega)])
        go_wp2
        go_ret2
        exact ⟨by rw [HN.out]; rfl, HB.out⟩
      · have HE := Lib.hid (show valL (xs.take (min k 2)) = N by rw [← HV.out, List.take_of_length_le (by rw [HL.out]; omega)])
        rw [HE.out]
        by_cases hf : N < 9223372036854775808
        · have HN := Lib.hid (show fitsV N = .tuple #[.int .i64 (N : Int), .bool true] by unfold fitsV; rw [if_pos hf])
          go_wp2
          go_ret2
          exact ⟨by rw [HN.out]; rfl, HB.out⟩
        · have HN := Lib.hid (show fitsV N = .tuple #[.int .i64 0, .bool false] by unfold fitsV; rw [if_neg hf])
          have hge : (9223372036854775808 : Int) ≤ (N : Int) := by omega
          go_wp2
          go_ret2
          exact ⟨by rw [HN.out]; rfl, HB.out⟩
end Go.Proofs.YtfbhmkpihmcegaaDoor
namespace Go.Proofs.YtfbhmkpihmcegaaDoor
open Go.RowKit

theorem or_low (r x : Nat) (hr : r < 4294967296) (hx : x < 4294967296) : bits BinOp.or IntKind.u64 ((r : Int) * 4294967296) (x : Int) = ((r * 4294967296 + x : Nat) : Int) := by
  have h1 := u64_or_nat (r * 4294967296) x (by omega) (by omega)
  have h2 := Nat.two_pow_add_eq_or_of_lt (i := 32) (b := x) (by omega) r
  have e : ((r : Int) * 4294967296) = ((r * 4294967296 : Nat) : Int) := by simp
  rw [e, h1]
  have h3 : (2 : Nat) ^ 32 = 4294967296 := by decide
  rw [h3] at h2
  rw [Nat.mul_comm r, ← h2]
def DivPost (w : World) (t d : Nat) (e : Ending) (w' : World) : Prop := e = .returned (.tuple #[.int .u32 ((t / d : Nat) : Int), .int .u32 ((t % d : Nat) : Int)]) ∧ Below w.heap.size w w' ∧ w'.heap = w.heap
set_option maxHeartbeats 1000000 in
theorem div32_any (r x d : Nat) (w : World) (hr : r < d) (hd : d < 4294967296) (hx : x < 4294967296) :
    Calls Tryd.prog 119 #[.int .u32 (r : Int), .int .u32 (x : Int), .int .u32 (d : Int)] w (DivPost w (r * 4294967296 + x) d) := by
  have HO := or_low r x (by omega) hx
  have hb : ((d : Int) != 0) = true := by simp; omega
  have hb2 : decide ((d : Int) ≤ (r : Int)) = false := decide_eq_false (by omega)
  obtain ⟨t, HT⟩ : ∃ t, Hid (r * 4294967296 + x = t) := ⟨_, Lib.hid rfl⟩
  rw [HT.out] at HO ⊢
  go_enter Tryd.func119, Tryd.ntmps119
  go_wp2
  go_quiet (fail)
  go_wp2
  go_ret2
  have hq : t / d < 4294967296 := by
    rw [← HT.out]
    exact (short_step (v := 0) (w := r) (by omega) hr hx (by omega) rfl rfl).2.2
  have e1 : IntKind.u64.wrap ((t : Int) / (d : Int)) % 4294967296 = ((t / d : Nat) : Int) := by
    have e0 : (t : Int) / (d : Int) = ((t / d : Nat) : Int) := (Int.natCast_ediv t d).symm
    rw [e0]
    generalize t / d = q at hq ⊢
    rw [IntWalk.u64_in (q : Int) ⟨by omega, by omega⟩]
    omega
  have hr2 : t % d < d := Nat.mod_lt _ (by omega)
  have e2 : ((t : Int) % (d : Int)) % 4294967296 = ((t % d : Nat) : Int) := by
    have e0 : (t : Int) % (d : Int) = ((t % d : Nat) : Int) := (Int.natCast_emod t d).symm
    rw [e0]
    generalize t % d = q at hr2 ⊢
    omega
  exact ⟨show Ending.returned (.tuple #[.int .u32 (IntKind.u64.wrap ((t : Int) / (d : Int)) % 4294967296), .int .u32 ((t : Int) % (d : Int) % 4294967296)]) = _ by rw [e1, e2], below_drewN (Below.refl _ _) _, rfl⟩

def limbArr (l : List Nat) : Array Value := (l.map fun x : Nat => Value.int .u32 (x : Int)).toArray
theorem limbInfo : (Tryd.prog.info? 130).map (fun i => (i.zero, i.size, i.bytes)) = some (some (.int .u32 0), 1, 4) := by kernel_rfl
theorem limbArr_at {l : List Nat} {k : Nat} (h : k < l.length) : (limbArr l)[k]? = some (.int .u32 ((l.getD k 0 : Nat) : Int)) := by
  unfold limbArr
  rw [List.getElem?_toArray, List.getElem?_map, List.getElem?_eq_getElem h, List.getD_eq_getElem?_getD, List.getElem?_eq_getElem h]
  rfl
theorem limbArr_zero (n : Nat) : madeCells #[Value.int .u32 0] n = limbArr (List.replicate n 0) := by
  apply Array.toList_inj.1
  rw [toList_madeCells_one]
  simp [limbArr]
theorem limbArr_set (k q : Nat) (qs : List Nat) : (limbArr (List.replicate (k + 1) 0 ++ qs)).setIfInBounds k (.int .u32 (q : Int)) = limbArr (List.replicate k 0 ++ q :: qs) := by
  apply Array.toList_inj.1
  rw [List.replicate_succ']
  simp [limbArr, List.set_append_right]
theorem lim_blk {w : World} {g n : Nat} {l : List Nat} (h : Blk w g 130 (limbArr l)) (hl : l.length = n) (hn : n ≤ maxLen) (hx : ∀ x ∈ l, x < 4294967296) : Lim w w.heap.size (some ⟨g, 0, none⟩) n l := by
  refine ⟨hl, hn, hx, by rw [List.length_map, hl, Nat.mul_one], fun _ => ⟨_, rfl, h.lt, fun j u hu => ?_⟩⟩
  have c := h.cell j
  unfold limbArr at c
  rw [List.getElem?_toArray, hu] at c
  have e : (⟨g, 0, none⟩ : Addr).add j = ⟨g, j, none⟩ := by
    unfold Addr.add
    split
    · rename_i h0; rw [h0]
    · simp
  rw [e]
  exact c
structure ShI (w : World) (a : List Nat) (d n j r : Nat) (qs : List Nat) (wr : World) : Prop where
  bel : Below w.heap.size w wr
  blk : Blk wr w.heap.size 130 (limbArr (List.replicate j 0 ++ qs))
  len : qs.length = n - j
  lt : ∀ x ∈ qs, x < 4294967296
  val : valL (a.drop j) = valL qs * d + r
  rd : r < d
def ShortPost (w : World) (N d n : Nat) (e : Ending) (w' : World) : Prop :=
  ∃ qs, e = .returned (.tuple #[.slice (some ⟨w.heap.size, 0, none⟩) n n, .int .u32 ((N % d : Nat) : Int)]) ∧ Blk w' w.heap.size 130 (limbArr qs) ∧ qs.length = n ∧ (∀ x ∈ qs, x < 4294967296) ∧ valL qs = N / d ∧ Below w.heap.size w w'

set_option maxHeartbeats 2000000 in
theorem short_any (A : Option Addr) (n c d : Nat) (xs : List Nat) (w : World) (h : Lim w w.heap.size A n xs) (hd : 0 < d) (hd2 : d < 4294967296) (hn : n ≤ 1000000) :
    Calls Tryd.prog 98 #[.slice A n c, .int .u32 (d : Int)] w (ShortPost w (valL xs) d n) := by
  obtain ⟨i0, hi, hz0, hz1, hz2⟩ := info_parts limbInfo
  have hmk := run_make (P := Tryd.prog) w 64 130 i0 (.int .u32 0) Tryd.underlying64 hi hz0 .i64 .i64 (n : Int) (n : Int) (by omega) (Int.le_refl _) (by rw [hz2]; omega) (by omega)
  rw [hz1, Nat.mul_one, Int.toNat_natCast, show (Value.int .u32 0).cells = #[Value.int .u32 0] from rfl, limbArr_zero] at hmk
  have HI := hide h
  have HL := Lib.hid h.1
  have HS := hide (show ShI w xs d n n 0 [] (w.alloc (.cells (limbArr (List.replicate n 0)) 130)) from ⟨(Below.refl w.heap.size w).alloc (Nat.le_refl _) _, by rw [List.append_nil]; exact Blk.new _ _ _, by simp, by simp, by rw [List.drop_eq_nil_of_le (Nat.le_of_eq h.1)]; simp [valL], hd⟩)
  clear h hi hz0 hz1 hz2
  go_enter Tryd.func98, Tryd.ntmps98
  go_wp2
  generalize (w.alloc (.cells (limbArr (List.replicate n 0)) 130)) = w1 at HS ⊢
  go_loopw [7, 8] (fun rv iv wr => ∃ (j r : Nat) (qs : List Nat), j ≤ n ∧ iv = .int .i64 ((j : Int) - 1) ∧ rv = .int .u32 (r : Int) ∧ Hid (ShI w xs d n j r qs wr)) (fun _ iv _ => (intOf iv + 1).toNat)
  case atStart => exact ⟨n, 0, [], Nat.le_refl _, rfl, rfl, HS⟩
  case round =>
    clear HS hmk
    obtain ⟨j, r, qs, hj, rfl, rfl, hS⟩ := hrel
    rcases Nat.eq_zero_or_pos j with h0 | h0
    · subst h0
      have HQ := Lib.hid (show valL xs / d = valL qs ∧ valL xs % d = r by
        have := hS.out.val
        rw [List.drop_zero] at this
        exact (Nat.div_mod_unique hd).2 ⟨by rw [this, Nat.mul_comm, Nat.add_comm], hS.out.rd⟩)
      have hbk := hS.out.blk
      have HLM := hide (show Blk wr w.heap.size 130 (limbArr qs) by simpa using hbk)
      clear hbk
      go_wp2
      go_ret2
      exact ⟨qs, by rw [HQ.out.2]; rfl, HLM.out, (by have := hS.out.len; omega), hS.out.lt, HQ.out.1.symm, hS.out.bel⟩
    · obtain ⟨k, rfl⟩ : ∃ k, j = k + 1 := ⟨j - 1, by omega⟩
      obtain ⟨ad, rfl, hb, hcell, hx⟩ := HI.out.at_ (k := k) (by omega)
      have hc2 := (hS.out.bel.cell (by rw [block_of_add]; exact hb)).trans hcell
      have hq := short_step (q := (r * 4294967296 + xs.getD k 0) / d) (s := (r * 4294967296 + xs.getD k 0) % d) hd hS.out.rd hx hS.out.val rfl rfl
      rw [← valL_drop (by rw [HL.out]; omega)] at hq
      have HQ := hide hq
      have HDV := hide (div32_any r (xs.getD k 0) d wr hS.out.rd hd2 hx)
      have o0 := (hS.out.blk.cell k).trans (limbArr_at (by simp; omega))
      have o1 := hS.out.blk.frozen k
      have HBK := hide hS.out.blk
      have HBE := hide hS.out.bel
      have HLE := Lib.hid hS.out.len
      have HLT := hide hS.out.lt
      clear hcell hq hS
      generalize xs.getD k 0 = x at hc2 hx HQ HDV
      unfold DivPost at HDV
      generalize (r * 4294967296 + x) / d = q at HQ HDV
      generalize (r * 4294967296 + x) % d = s at HQ HDV
      go_wp2_with fail
      refine (HDV.out).mono ?_
      rintro e w3 ⟨rfl, hb3, hh3⟩
      have HK3 := hide (show Blk w3 w.heap.size 130 (limbArr (List.replicate (k + 1) 0 ++ qs)) by unfold Blk; rw [hh3]; exact HBK.out)
      have HB3 := hide (HBE.out.trans (hb3.mono HBE.out.size))
      have p0 := (HK3.out.cell k).trans (limbArr_at (by simp; omega))
      have p1 := HK3.out.frozen k
      have HK4 := hide (HK3.out.set_ k (.int .u32 (q : Int)))
      rw [limbArr_set] at HK4
      clear o0 o1 hb3 hh3 hc2
      go_wp2
      go_roundw
      case rel => exact ⟨k, s, q :: qs, by omega, by first | go_num | (congr 1; omega), rfl, hide ⟨HB3.out.setCell (p := ⟨w.heap.size, k, none⟩) (Nat.le_refl _) _, HK4.out, by rw [List.length_cons]; have := HLE.out; omega, fun y hy => by
        rcases List.mem_cons.1 hy with e | e
        · rw [e]; exact HQ.out.2.2
        · exact HLT.out y e, HQ.out.1, HQ.out.2.1⟩⟩
      case measure => simp [intOf]; try omega
end Go.Proofs.YtfbhmkpihmcegaaDoor
