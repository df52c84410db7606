/-
  The sum over a diagram's bytes, of a row of bytes and of a text. A diagram's image, as a text.
-/
import Derived.Test.YtdlcldhnbhlikaaGreatDoorBddG
import Derived.Lib.UnsafeStr
import Derived.Test.YtdlcldhnbhlikaaGreatDoorImgA
namespace Go.Proofs.YtdlcldhnbhlikaaGreatDoor
open Go.RowKit Go.Maps

def sumB (l : List UInt8) : Nat := l.foldl (fun n x => (41 * n + x.toNat) % 9973) 19
theorem sum_lt (l : List UInt8) : sumB l < 9973 := by
  unfold sumB
  have key : ∀ (l : List UInt8) (n : Nat), n < 9973 → l.foldl (fun n x => (41 * n + x.toNat) % 9973) n < 9973 := by
    intro l
    induction l with
    | nil => intro n h; exact h
    | cons a l ih => intro n _; exact ih _ (Nat.mod_lt _ (by decide))
  exact key l 19 (by decide)
theorem sum_next {l : List UInt8} {k : Nat} {c : UInt8} (hk : l[k]? = some c) : sumB (l.take (k + 1)) = (41 * sumB (l.take k) + c.toNat) % 9973 := by
  unfold sumB
  rw [List.take_add_one, hk, Option.toList_some, List.foldl_append]
  rfl
set_option maxHeartbeats 2000000 in
theorem refSum_any (s : ByteArray) (w : World) (hs : s.size ≤ 1000000) : Calls Tryz.prog 43 #[.string s] w (fun e w' => e = .returned (.int .i64 (sumB s.data.toList : Int)) ∧ w = w') := by
  go_enter Tryz.func43, Tryz.ntmps43
  go_wp2
  go_loopw [3, 7] (fun nv iv wr => ∃ k : Nat, k ≤ s.size ∧ iv = .int .i64 (k : Int) ∧ nv = .int .i64 (sumB (s.data.toList.take k) : Int) ∧ w = wr) (fun _ iv _ => s.size - (intOf iv).toNat)
  case atStart => exact ⟨0, Nat.zero_le _, rfl, rfl, rfl⟩
  case round =>
    obtain ⟨k, hk, rfl, rfl, rfl⟩ := hrel
    by_cases hlt : k < s.size
    · have hkI : (k : Int) < (s.size : Int) := by omega
      have hkb : s.data.toList[k]? = some (s[k]'hlt) := by
        have : k < s.data.toList.length := hlt
        rw [List.getElem?_eq_getElem this]
        rfl
      have HN := Lib.hid (sum_next hkb)
      have hl := sum_lt (s.data.toList.take k)
      have hu : (s[k]'hlt).toNat < 256 := UInt8.toNat_lt _
      generalize sumB (s.data.toList.take k) = m at HN hl ⊢
      go_wp2
      go_roundw
      case rel => exact ⟨k + 1, by omega, by go_num, by rw [HN.out]; exact congrArg (Value.int .i64) (by omega), by first | rfl | trivial⟩
      case measure => simp [intOf]; omega
    · obtain rfl : k = s.size := by omega
      have ht : s.data.toList.take s.size = s.data.toList := List.take_of_length_le (Nat.le_refl _)
      rw [ht]
      go_wp2
      go_ret
      exact ⟨rfl, rfl⟩
set_option maxHeartbeats 2000000 in
theorem imgSum_any (A : Option Addr) (n c : Nat) (l : List UInt8) (w : World) (hl : l.length = n) (h : Reads w w.heap.size 1 A n (Lib.byteCells l)) (hn : n ≤ 1000000) :
    Calls Tryz.prog 40 #[.slice A n c] w (fun e w' => e = .returned (.int .i64 (sumB l : Int)) ∧ w = w') := by
  have H := Lib.hid h
  have HL := Lib.hid hl
  clear h hl
  go_enter Tryz.func40, Tryz.ntmps40
  go_wp2
  go_loopw [3, 8] (fun nv iv wr => ∃ k : Nat, k ≤ n ∧ iv = .int .i64 (k : Int) ∧ nv = .int .i64 (sumB (l.take k) : Int) ∧ w = wr) (fun _ iv _ => n - (intOf iv).toNat)
  case atStart => exact ⟨0, Nat.zero_le _, rfl, rfl, rfl⟩
  case round =>
    obtain ⟨k, hk, rfl, rfl, rfl⟩ := hrel
    by_cases hlt : k < n
    · have hkI : (k : Int) < (n : Int) := by omega
      have hkl : k < l.length := by rw [HL.out]; exact hlt
      obtain ⟨a, rfl, _, hc⟩ := H.out.2 (by omega)
      have hc0 := hc k (.int .u8 ((l[k]'hkl).toNat : Int)) (by unfold Lib.byteCells; rw [List.getElem?_map, List.getElem?_eq_getElem hkl]; rfl)
      have HN := Lib.hid (sum_next (List.getElem?_eq_getElem hkl))
      have hs := sum_lt (l.take k)
      have hu : (l[k]'hkl).toNat < 256 := UInt8.toNat_lt _
      generalize (l[k]'hkl).toNat = x at hc0 HN hu
      generalize sumB (l.take k) = m at HN hs ⊢
      clear hc
      go_wp2
      go_roundw
      case rel => exact ⟨k + 1, by omega, by go_num, by rw [HN.out]; exact congrArg (Value.int .i64) (by omega), by first | rfl | trivial⟩
      case measure => simp [intOf]; omega
    · obtain rfl : k = n := by omega
      have ht : l.take k = l := List.take_of_length_le (by rw [HL.out]; exact Nat.le_refl _)
      rw [ht]
      go_wp2
      go_ret
      exact ⟨rfl, rfl⟩
end Go.Proofs.YtdlcldhnbhlikaaGreatDoor
namespace Go.Proofs.YtdlcldhnbhlikaaGreatDoor
open Go.RowKit Go.Maps

def headI (vn n top : Int) : List UInt8 := [115, 112, 97, 99, 101, 32] ++ (textF [vn, n, top] ++ [10])
def allI (A : Ar) (vn x : Int) : List UInt8 := headI vn ((imgA A x []).length : Int) (numI (imgA A x []) x : Int) ++ bodyL A (imgA A x [])
def tailI (l : List UInt8) : List UInt8 := [115, 117, 109, 32] ++ (Lib.itoa (sumB l : Int) ++ [10])
def imgT (A : Ar) (vn x : Int) : List UInt8 := allI A vn x ++ tailI (allI A vn x)
theorem ba_app (a b : List UInt8) : (⟨a.toArray⟩ : ByteArray) ++ ⟨b.toArray⟩ = ⟨(a ++ b).toArray⟩ := by
  apply ByteArray.ext
  simp
theorem ba_size (a : List UInt8) : (⟨a.toArray⟩ : ByteArray).size = a.length := by
  show a.toArray.size = _
  simp
section
variable {A : Ar} {ks : List Int} {x : Int} {d : Nd}
theorem body_grows (h : KsOk A ks) (e : gotA A x = some d) (hl : inI ks d.low) (hh : inI ks d.high) : bodyL A (ks ++ [x]) = bodyL A ks ++ (textF [d.var, (numI ks d.low : Int), (numI ks d.high : Int)] ++ [10]) := by
  unfold bodyL
  rw [lines_snoc h e hl hh, List.flatMap_append]
  simp
theorem num_few (ks : List Int) (y : Int) : numI ks y ≤ ks.length + 2 := by
  unfold numI
  split
  · omega
  · split
    · omega
    · have := List.idxOf_le_length (a := y) (l := ks); omega
theorem text3_len (a b c : Int) (ha : I64 a) (hb : I64 b) (hc : I64 c) : (textF [a, b, c]).length ≤ 70 := by
  have b1 := Lib.itoa_length_le a ha.1 ha.2
  have b2 := Lib.itoa_length_le b hb.1 hb.2
  have b3 := Lib.itoa_length_le c hc.1 hc.2
  rw [text_cons, text_cons, text_cons]
  simp
  omega
theorem body_le (hw : WfA A) (h : KsOk A ks) (hA : A.length ≤ 4000) : (bodyL A ks).length ≤ 500000 := by
  have hf := h.few
  unfold bodyL linesI
  have key : ∀ l : List Int, (∀ k ∈ l, (textF (lineI A ks k) ++ [10]).length ≤ 100) → ((l.map (lineI A ks)).flatMap fun zs => textF zs ++ [10]).length ≤ 100 * l.length := by
    intro l
    induction l with
    | nil => intro _; simp
    | cons a l ih =>
      intro hl
      have h1 := hl a (List.mem_cons_self ..)
      have h2 := ih fun k hk => hl k (List.mem_cons_of_mem _ hk)
      rw [List.map_cons, List.flatMap_cons, List.length_append, List.length_cons]
      omega
  refine Nat.le_trans (key ks fun k hk => ?_) (by omega)
  obtain ⟨d', e', _⟩ := h.got k hk
  have hv := hw.var _ _ e'
  have n1 := num_few ks d'.low
  have n2 := num_few ks d'.high
  have := text3_len d'.var (numI ks d'.low : Int) (numI ks d'.high : Int) (by unfold I64; omega) (by unfold I64; omega) (by unfold I64; omega)
  unfold lineI
  rw [e']
  simp only
  rw [List.length_append, List.length_singleton]
  omega
theorem ksOk_nil (A : Ar) : KsOk A [] := ⟨List.nodup_nil, fun k hk => by cases hk⟩
theorem body_nil (A : Ar) : bodyL A [] = [] := rfl
theorem sum_small (l : List UInt8) : (tailI l).length ≤ 40 := by
  have h := sum_lt l
  have b := Lib.itoa_length_le (sumB l : Int) (by omega) (by omega)
  unfold tailI
  simp
  omega
theorem head_small (vn n top : Int) (ha : I64 vn) (hb : I64 n) (hc : I64 top) : (headI vn n top).length ≤ 80 := by
  have := text3_len vn n top ha hb hc
  unfold headI
  simp at this ⊢
  omega
end
end Go.Proofs.YtdlcldhnbhlikaaGreatDoor
