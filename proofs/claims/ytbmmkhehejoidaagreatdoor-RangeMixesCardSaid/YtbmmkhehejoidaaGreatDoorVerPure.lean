/-
  A version's parts and its text. No program in sight.
-/
import Derived.Lib.ParseIntBTie
import Derived.Lib.Replace
import Derived.Lib.IndexBytes
import Derived.Test.YtbmmkhehejoidaaGreatDoorTold
namespace Go.Proofs.YtbmmkhehejoidaaGreatDoor

/-! ### The text -/
theorem indexByte_sep {c : UInt8} : ∀ {a b : List UInt8}, (∀ d ∈ a, d ≠ c) → Lib.indexByte (a ++ c :: b) c = (a.length : Int)
  | [], b, _ => by simp [Lib.indexByte]
  | x :: a, b, h => by
    have hx : (x == c) = false := by simpa using h x (List.mem_cons_self ..)
    have ih := indexByte_sep (a := a) (b := b) fun d hd => h d (List.mem_cons_of_mem _ hd)
    rw [List.cons_append, Lib.indexByte, hx, ih]
    have hne : (((a.length : Nat) : Int) == -1) = false := by rw [beq_eq_false_iff_ne]; omega
    simp [hne]
theorem replaceK_sep {c : UInt8} {n a b : List UInt8} (k : Nat) (ha : ∀ d ∈ a, d ≠ c) : Lib.replaceK [c] n (k + 1) (a ++ c :: b) = a ++ n ++ Lib.replaceK [c] n k b := by
  rw [Lib.replaceK_hit [c] n k _ a.length (by rw [Lib.index_one]; exact indexByte_sep ha)]
  simp
theorem replace_two {x y z : List UInt8} (hx : ∀ d ∈ x, d ≠ 32) (hy : ∀ d ∈ y, d ≠ 32) (hz : ∀ d ∈ z, d ≠ 32) : Lib.replaceAll (x ++ 32 :: (y ++ 32 :: z)) [32] [46] = x ++ 46 :: (y ++ 46 :: z) := by
  have c0 : ∀ {l : List UInt8}, (∀ d ∈ l, d ≠ 32) → l.count 32 = 0 := fun h => List.count_eq_zero.2 fun hm => h _ hm rfl
  have e : Lib.count (x ++ 32 :: (y ++ 32 :: z)) [32] = 2 := by
    rw [Lib.count_one, List.count_append, c0 hx, List.count_cons_self, List.count_append, c0 hy, List.count_cons_self, c0 hz]
  unfold Lib.replaceAll Lib.replace Lib.replaceNum
  rw [if_neg (by decide), if_pos (.inl (by decide)), e, replaceK_sep 1 hx, replaceK_sep 0 hy]
  simp [Lib.replaceK]
def verL (x y z : Int) : List UInt8 := Lib.itoa x ++ 46 :: (Lib.itoa y ++ 46 :: Lib.itoa z)
theorem text_three (x y z : Int) : textF [x, y, z] = Lib.itoa x ++ 32 :: (Lib.itoa y ++ 32 :: Lib.itoa z) := by
  rw [text_cons, text_cons, text_cons]
  simp
theorem verL_of (x y z : Int) : Lib.replaceAll (textF [x, y, z]) [32] [46] = verL x y z := by
  rw [text_three, replace_two (itoa_blank x) (itoa_blank y) (itoa_blank z)]
  rfl
theorem count_three (x y z : Int) : Lib.count (textF [x, y, z]) [32] = 2 := by
  have c0 : ∀ {l : List UInt8}, (∀ d ∈ l, d ≠ 32) → l.count 32 = 0 := fun h => List.count_eq_zero.2 fun hm => h _ hm rfl
  rw [text_three, Lib.count_one, List.count_append, c0 (itoa_blank x), List.count_cons_self, List.count_append, c0 (itoa_blank y), List.count_cons_self, c0 (itoa_blank z)]
/-! ### A part -/
/-- The number that a text is, if it is told the same. -/
def numF (l : List UInt8) : Option Int := match Lib.atoiAll l with | .ok v => if Lib.itoa v = l then some v else none | _ => none
theorem numF_ok {l : List UInt8} {v : Int} (h : Lib.atoiAll l = .ok v) : numF l = if Lib.itoa v = l then some v else none := by unfold numF; rw [h]
theorem numF_range {l : List UInt8} (h : Lib.atoiAll l = .range) : numF l = none := by unfold numF; rw [h]
/-- A part's fault (ErrForm, ErrRange), 0: none. -/
def partE (l : List UInt8) : Int := match numF l with | some v => if v < 0 then 3 else if 999 < v then 2 else 0 | none => 3
def partV (l : List UInt8) : Int := (numF l).getD 0
/-! ### Older or newer -/
def cmpF : List Int → List Int → Int
  | x :: r, y :: s => if x < y then -1 else if y < x then 1 else cmpF r s
  | _, _ => 0
end Go.Proofs.YtbmmkhehejoidaaGreatDoor
