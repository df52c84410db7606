/-
  A part of the proof: CatTx. Conditions: none.
-/
import Derived.Test.YtmncoldaemcnlaaGreatDoorCmRefText
import Derived.Test.YtmncoldaemcnlaaGreatDoorCmCatChk
import Derived.Test.YtmncoldaemcnlaaGreatDoorCmCatIdx
namespace Go.Proofs.YtmncoldaemcnlaaGreatDoor
open Go.RowKit
open Classical
def spB1 : ByteArray := ⟨#[32]⟩
def nlB1 : ByteArray := ⟨#[10]⟩
def kwB (k : Int) : ByteArray := if k = 1 then ⟨#[112, 97, 99, 107, 97, 103, 101]⟩ else if k = 2 then ⟨#[110, 101, 101, 100, 115]⟩ else if k = 3 then ⟨#[99, 108, 97, 115, 104, 101, 115]⟩ else ⟨#[114, 111, 111, 116]⟩
noncomputable def lnTx (x : LnR) : ByteArray :=
 if x.k = 4 then kwB 4 ++ spB1 ++ x.name ++ spB1 ++ baL (rangeT x.rg)
 else if x.k = 1 then kwB 1 ++ spB1 ++ x.name ++ spB1 ++ verS x.ver
 else kwB x.k ++ spB1 ++ x.name ++ spB1 ++ verS x.ver ++ spB1 ++ x.other ++ spB1 ++ baL (rangeT x.rg)
noncomputable def txA (ls : List LnR) : Nat → ByteArray
 | 0 => ⟨#[]⟩
 | i + 1 => txA ls i ++ lnTx (ls.getD i ln0) ++ nlB1
theorem txA_next {ls : List LnR} {i : Nat} (h : i < ls.length) : txA ls (i + 1) = txA ls i ++ lnTx ls[i] ++ nlB1 := by
 show txA ls i ++ lnTx (ls.getD i ln0) ++ nlB1 = _
 rw [List.getD_eq_getElem?_getD, List.getElem?_eq_getElem h]
 rfl
noncomputable def catTx (ls : List LnR) : ByteArray := txA ls ls.length
theorem rgT_size {l : List (Nat × Nat)} (h : CanF 0 l) : (baL (rangeT l)).size ≤ 138000000004 := by
 show (rangeT l).toArray.size ≤ _
 rw [List.size_toArray]
 by_cases hl : l = []
 ·subst hl
  decide
 ·have h1 := range_len h
  have h2 := can_len h
  have h3 : endR = 1000000000 := rfl
  have h4 : rangeT l = Lib.join ((l.map spB).map (·.data.toList)) [32, 124, 124, 32] := rangeT_join hl
  rw [h4]
  omega
theorem verS_size {f : Nat → Int} (h : ∀ j, j < 3 → I64 (f j)) : (verS f).size ≤ 66 := by
 have e := Lib.itoa_length_le (f 0) (h 0 (by omega)).1 (h 0 (by omega)).2
 have e1 := Lib.itoa_length_le (f 1) (h 1 (by omega)).1 (h 1 (by omega)).2
 have e2 := Lib.itoa_length_le (f 2) (h 2 (by omega)).1 (h 2 (by omega)).2
 show (verL (f 0) (f 1) (f 2)).toArray.size ≤ _
 rw [List.size_toArray]
 unfold verL
 simp only [List.length_append, List.length_cons]
 omega
theorem kwB_size (k : Int) : (kwB k).size ≤ 7 := by
 unfold kwB
 repeat' split
 all_goals decide
theorem lnTx_size {x : LnR} (h : LnOk x) : (lnTx x).size ≤ 138000050000 := by
 have h1 := rgT_size h.can
 have h2 := verS_size h.v
 have h3 := kwB_size x.k
 have h4 := h.nm
 have h5 := h.ot
 have h6 : spB1.size = 1 := rfl
 have h7 := kwB_size 4
 have h8 := kwB_size 1
 unfold lnTx
 repeat' split
 all_goals
  simp only [ByteArray.size_append]
  omega
theorem txA_size {ls : List LnR} (h : ∀ x ∈ ls, LnOk x) : ∀ i, i ≤ ls.length → (txA ls i).size ≤ 138000050001 * i
 | 0, _ => by show (0 : Nat) ≤ _; omega
 | i + 1, hi => by
  have h1 := txA_size h i (by omega)
  have h2 := lnTx_size (h _ (List.getElem_mem (show i < ls.length by omega)))
  have h3 : nlB1.size = 1 := rfl
  rw [txA_next (show i < ls.length by omega)]
  simp only [ByteArray.size_append]
  omega
end Go.Proofs.YtmncoldaemcnlaaGreatDoor
