/-
  What versions lean on in memory; texts as numbers, by the library's contracts; the reference's Number.
-/
import Derived.Test.YtbmmkhehejoidaaGreatDoorVerPure
import Derived.Test.YtbmmkhehejoidaaGreatDoorVerLay
import Derived.Test.YtbmmkhehejoidaaGreatDoorAt
import Derived.Lib.SmallJoins
namespace Go.Proofs.YtbmmkhehejoidaaGreatDoor
open Go.RowKit

/-- What a version's parts lean on. -/
structure GlobV (w : World) : Prop where
  e : GlobE w
  t : GlobT w
  mx : ∃ m, w.cell? ⟨2, 0, none⟩ = some (.int .i64 m)
  syn : ∃ tp p, w.cell? ⟨5, 0, none⟩ = some (.iface tp p)
  rng : ∃ tp p, w.cell? ⟨6, 0, none⟩ = some (.iface tp p)
theorem GlobV.below {w w' : World} (h : GlobV w) (hb : Below w.heap.size w w') : GlobV w' := by
  obtain ⟨m, hm⟩ := h.mx
  obtain ⟨t1, p1, h1⟩ := h.syn
  obtain ⟨t2, p2, h2⟩ := h.rng
  exact ⟨h.e.below hb, h.t.below hb, ⟨m, (hb.cell (lt_of_cell hm)).trans hm⟩, ⟨t1, p1, (hb.cell (lt_of_cell h1)).trans h1⟩, ⟨t2, p2, (hb.cell (lt_of_cell h2)).trans h2⟩⟩
/-- How a text is read as a number: it is one, and no error; or an error. -/
def ReadP (l : List UInt8) (w : World) (e : Ending) (w' : World) : Prop :=
  ((∃ v, Lib.atoiAll l = .ok v ∧ I64 v ∧ e = .returned (.tuple #[.int .i64 v, .nilIface])) ∨ (numF l = none ∧ ∃ x t p, e = .returned (.tuple #[.int .i64 x, .iface t p]))) ∧ Below w.heap.size w w'
/-- Neither a number nor too great: the third way. -/
theorem no_num {l : List UInt8} {r : Lib.NumEnd Int} (h : ¬ ∃ v, Lib.atoiAll l = .ok v) (h3 : Lib.atoiAll l ≠ .range) (hr : ∀ v, r ≠ .ok v := by intro v e; cases e) (hr3 : r ≠ .range := by intro e; cases e) : Lib.atoiAll l = r := by
  generalize Lib.atoiAll l = q at h h3
  cases q with
  | ok v => exact absurd ⟨v, rfl⟩ h
  | range => exact absurd rfl h3
  | _ =>
    cases r with
    | ok v => exact absurd rfl (hr v)
    | range => exact absurd rfl hr3
    | _ => rfl
theorem numF_no {l : List UInt8} (h : ¬ ∃ v, Lib.atoiAll l = .ok v) : numF l = none := by
  unfold numF
  split
  · rename_i v e
    exact absurd ⟨v, e⟩ h
  · rfl
theorem i64_atoi {l : List UInt8} {v : Int} (h : Lib.atoiAll l = .ok v) : I64 v := by
  rw [← Lib.parseIntB_64] at h
  have := Lib.parseIntB_bounds h
  rw [show (2 : Nat) ^ (64 - 1) = 9223372036854775808 by decide] at this
  unfold I64; omega
theorem atoi_any (s : ByteArray) (w : World) (hG : GlobV w) (hs : s.size ≤ 2000) : Calls Tryz.prog 77 #[.string s] w (ReadP s.data.toList w) := by
  obtain ⟨t1, p1, h1⟩ := hG.syn
  obtain ⟨t2, p2, h2⟩ := hG.rng
  by_cases h : ∃ v, Lib.atoiAll s.data.toList = .ok v
  · obtain ⟨v, h⟩ := h
    refine (Tryz.strconv_Atoi_ok s (by omega) v h w).mono ?_
    rintro e w' ⟨rfl, hw⟩
    refine ⟨.inl ⟨v, h, i64_atoi h, rfl⟩, ?_⟩
    rcases hw with rfl | ⟨t, rfl⟩
    · exact Below.refl _ _
    · exact Lib.bytesWorld_below _ _ _
  · by_cases h3 : Lib.atoiAll s.data.toList = .range
    · refine (Tryz.strconv_Atoi_range s (by omega) h3 _ w h2 (.inr ⟨_, _, rfl⟩)).mono ?_
      rintro e w' ⟨N, rfl, _, _, hb⟩
      exact ⟨.inr ⟨numF_range h3, _, _, _, rfl⟩, hb⟩
    · refine (Any.strconv_Atoi_syntax Tryz.laysC172 s (by omega) (no_num h h3) _ w h1 (.inr ⟨_, _, rfl⟩)).mono ?_
      rintro e w' ⟨N, rfl, _, _, hb⟩
      exact ⟨.inr ⟨numF_no h, _, _, _, rfl⟩, hb⟩
theorem parseInt_any (s : ByteArray) (w : World) (hG : GlobV w) (hs : s.size ≤ 2000) : Calls Tryz.prog 95 #[.string s, .int .i64 10, .int .i64 64] w (ReadP s.data.toList w) := by
  obtain ⟨t1, p1, h1⟩ := hG.syn
  obtain ⟨t2, p2, h2⟩ := hG.rng
  by_cases h : ∃ v, Lib.atoiAll s.data.toList = .ok v
  · obtain ⟨v, h⟩ := h
    refine (Tryz.strconv_ParseInt_10_at64_ok s (by omega) v (by rw [Lib.parseIntB_64]; exact h) w).mono ?_
    rintro e w' ⟨rfl, hw⟩
    refine ⟨.inl ⟨v, h, i64_atoi h, rfl⟩, ?_⟩
    rcases hw with rfl | ⟨t, rfl⟩
    · exact Below.refl _ _
    · exact Lib.bytesWorld_below _ _ _
  · by_cases h3 : Lib.atoiAll s.data.toList = .range
    · refine (Tryz.strconv_ParseInt_10_at64_range s (by omega) (by rw [Lib.parseIntB_64]; exact h3) _ w h2 (.inr ⟨_, _, rfl⟩)).mono ?_
      rintro e w' ⟨N, rfl, _, _, hb⟩
      exact ⟨.inr ⟨numF_range h3, _, _, _, rfl⟩, hb⟩
    · refine (Any.strconv_ParseInt_10_at64_syntax Tryz.laysC174 s (by omega) (by rw [Lib.parseIntB_64]; exact no_num h h3) _ w h1 (.inr ⟨_, _, rfl⟩)).mono ?_
      rintro e w' ⟨N, rfl, _, _, hb⟩
      exact ⟨.inr ⟨numF_no h, _, _, _, rfl⟩, hb⟩
/-- A number told. -/
def TextP (n : Int) (w : World) (e : Ending) (w' : World) : Prop := e = .returned (.string ⟨(Lib.itoa n).toArray⟩) ∧ Below w.heap.size w w'
theorem itoa_any (n : Int) (w : World) (hG : GlobT w) (hn : I64 n) : Calls Tryz.prog 54 #[.int .i64 n] w (TextP n w) := by
  refine (Tryz.strconv_Itoa n hn.1 hn.2 w hG.tab).mono ?_
  rintro e w' ⟨rfl, kk, os, rfl⟩
  exact ⟨rfl, Lib.below_grow w.heap.size w (Nat.le_refl _) kk os⟩
theorem formatInt_any (n : Int) (w : World) (hG : GlobT w) (hn : I64 n) : Calls Tryz.prog 96 #[.int .i64 n, .int .i64 10] w (TextP n w) := by
  refine (Tryz.strconv_FormatInt_10 n hn.1 hn.2 w hG.tab).mono ?_
  rintro e w' ⟨rfl, kk, os, rfl⟩
  exact ⟨rfl, Lib.below_grow w.heap.size w (Nat.le_refl _) kk os⟩
end Go.Proofs.YtbmmkhehejoidaaGreatDoor
