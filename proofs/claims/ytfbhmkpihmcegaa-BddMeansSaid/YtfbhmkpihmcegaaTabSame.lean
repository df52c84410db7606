/-
  Whether two tables are the same: the document's Same.
-/
import Derived.Test.YtfbhmkpihmcegaaBddTabM
namespace Go.Proofs.Ytfbhmkpihmcegaa
open Go.RowKit Go.Maps

def QuietB (w : World) (b : Bool) (e : Ending) (w' : World) : Prop := e = .returned (.bool b) ∧ ∃ m, w' = w.drewN m
theorem list_same {t u : List Bool} (hl : t.length = u.length) (h : ∀ j, j < t.length → t.getD j false = u.getD j false) : t = u := by
  refine List.ext_getElem? fun j => ?_
  rcases Nat.lt_or_ge j t.length with hj | hj
  · have := h j hj
    rw [List.getD_eq_getElem?_getD, List.getD_eq_getElem?_getD, List.getElem?_eq_getElem hj, List.getElem?_eq_getElem (by omega)] at this
    rw [List.getElem?_eq_getElem hj, List.getElem?_eq_getElem (by omega)]
    simpa using this
  · rw [List.getElem?_eq_none hj, List.getElem?_eq_none (by omega)]
set_option maxRecDepth 100000 in
theorem tabSame_any (sz p1 p2 : Nat) (t u : List Bool) (w : World) (k1 : Blk w p1 4 (boolArr t)) (k2 : Blk w p2 4 (boolArr u)) (h1 : t.length = sz) (h2 : u.length = sz) (hs : sz ≤ 64) :
    Calls Try.prog 8 #[tabV sz p1, tabV sz p2] w (QuietB w (decide (t = u))) := by
  unfold tabV
  have K1 := hide k1
  have K2 := hide k2
  clear k1 k2
  go_enter Try.func8, Try.ntmps8
  go_wp2
  go_loopw [8] (fun iv wr => ∃ i : Nat, i ≤ sz ∧ iv = .int .i64 i ∧ (∀ j, j < i → t.getD j false = u.getD j false) ∧ ∃ m, wr = w.drewN m) (fun iv _ => sz - (intOf iv).toNat)
  case atStart => exact ⟨0, Nat.zero_le _, rfl, fun j hj => absurd hj (Nat.not_lt_zero j), 0, rfl⟩
  case round =>
    obtain ⟨i, hi, rfl, hE, m, hm⟩ := hrel
    have K1m := hide (show Blk wr p1 4 (boolArr t) by rw [hm]; exact K1.out.drewN m)
    have K2m := hide (show Blk wr p2 4 (boolArr u) by rw [hm]; exact K2.out.drewN m)
    have HM := Lib.hid hm
    clear hm
    by_cases hlt : i < sz
    · have hiI : (i : Int) < (sz : Int) := by omega
      have c1 := (K1m.out.cell i).trans (boolArr_at (by omega))
      have c2 := (K2m.out.cell i).trans (boolArr_at (by omega))
      have HE := Lib.hid hE
      clear hE
      by_cases hx : t.getD i false = u.getD i false
      · have HE2 := Lib.hid (show ∀ j, j < i + 1 → t.getD j false = u.getD j false from fun j hj => by
          rcases Nat.lt_or_ge j i with h | h
          · exact HE.out j h
          · rw [show j = i by omega]; exact hx)
        rw [← hx] at c2
        clear hx HE
        generalize t.getD i false = b at c1 c2
        go_wp2
        go_quiet (fail)
        go_wp2
        go_roundw
        case rel => exact ⟨i + 1, by omega, by go_num, HE2.out, m + nq, by rw [HM.out, World.drewN_drewN]⟩
        case measure => simp [intOf]; omega
      · have HNE := Lib.hid (decide_eq_false (p := t = u) fun e => hx (by rw [e]))
        have hb : u.getD i false = !(t.getD i false) := by cases h3 : t.getD i false <;> cases h4 : u.getD i false <;> simp_all
        rw [hb] at c2
        clear hx HE hb
        generalize t.getD i false = b at c1 c2
        cases b
        all_goals
          simp only [Bool.not_false, Bool.not_true] at c2
          go_wp2
          go_quiet (fail)
          go_wp2
          go_ret
          exact ⟨by rw [HNE.out]; rfl, m + nq, by rw [HM.out, World.drewN_drewN]⟩
    · obtain rfl : i = sz := by omega
      have HNE := Lib.hid (decide_eq_true (p := t = u) (list_same (by omega) (by rw [h1]; exact hE)))
      clear hE
      go_wp2
      go_ret
      exact ⟨by rw [HNE.out]; rfl, m, HM.out⟩
end Go.Proofs.Ytfbhmkpihmcegaa
