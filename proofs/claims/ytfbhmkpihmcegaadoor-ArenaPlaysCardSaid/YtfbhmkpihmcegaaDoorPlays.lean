/-
  The law ArenaPlays: both arenas side by side; sameInts.
-/
import Derived.Test.YtfbhmkpihmcegaaDoorRefMake3
import Derived.Test.YtfbhmkpihmcegaaDoorBare
namespace Go.Proofs.YtfbhmkpihmcegaaDoor
open Go.RowKit Go.Maps

def SameQ (w : World) (e : Ending) (w' : World) : Prop := e = .returned (.bool true) ∧ ∃ q, w' = w.drewN q
set_option maxHeartbeats 2000000 in
theorem sameInts_any (A1 A2 : Option Addr) (n c1 c2 : Nat) (zs : List Int) (w : World) (h1 : RowI w A1 n zs) (h2 : RowI w A2 n zs) (hn : n ≤ 1000000) :
    Calls Tryd.prog 12 #[.slice A1 n c1, .slice A2 n c2] w (SameQ w) := by
  have H1 := hide h1
  have H2 := hide h2
  clear h1 h2
  go_enter Tryd.func12, Tryd.ntmps12
  go_wp2
  go_loopw [5] (fun iv wr => ∃ i q : Nat, i ≤ n ∧ iv = .int .i64 i ∧ wr = w.drewN q) (fun iv _ => n - (intOf iv).toNat)
  case atStart => exact ⟨0, 0, Nat.zero_le _, rfl, rfl⟩
  case round =>
    obtain ⟨i, q, hi, rfl, rfl⟩ := hrel
    by_cases hlt : i < n
    · obtain ⟨a1, u1, e1, hb1, hu1, hc1⟩ := H1.out.2.at_ (k := i) hlt
      obtain ⟨a2, u2, e2, hb2, hu2, hc2⟩ := H2.out.2.at_ (k := i) hlt
      have hil : i < zs.length := by rw [H1.out.1]; exact hlt
      rw [intsV_at hil] at hu1 hu2
      cases hu1
      cases hu2
      subst e1 e2
      generalize zs.getD i 0 = x at hc1 hc2
      have hiI : (i : Int) < (n : Int) := by omega
      go_wp2
      go_quiet (fail)
      go_wp2
      go_roundw
      case rel => exact ⟨i + 1, _, by omega, by go_num, by first | rfl | exact World.drewN_drewN ..⟩
      case measure => simp [intOf]; omega
    · obtain rfl : i = n := by omega
      go_wp2
      go_ret
      exact ⟨rfl, q, rfl⟩

/-- Both arenas: the program's (A1), the document's (A2). -/
structure PlayI (w : World) (B gn gu gt bR R gm : Nat) (A1 A2 : Ar) (wr : World) : Prop where
  bel : Below w.heap.size w wr
  ar : ArM wr B gn gu gt A1
  rf : RfM wr R gm A2
  sep : ∀ k, arB B gn gu gt k → w.heap.size ≤ k ∧ k < bR
  sR : bR ≤ R
  sg : bR ≤ gm
section
variable {w wr w' : World} {B gn gu gt bR R gm gm' : Nat} {A1 A2 A' : Ar}
theorem PlayI.below (h : PlayI w B gn gu gt bR R gm A1 A2 wr) (hb : Below wr.heap.size wr w') : PlayI w B gn gu gt bR R gm A1 A2 w' :=
  ⟨h.bel.trans (hb.mono h.bel.size), h.ar.below hb (fun _ hk => h.ar.lt hk), h.rf.below hb h.rf.kR.lt h.rf.map.lt, h.sep, h.sR, h.sg⟩
theorem PlayI.prog (h : PlayI w B gn gu gt bR R gm A1 A2 wr) (ha : ArM w' B gn gu gt A') (hf : Fr (arB B gn gu gt) wr w') : PlayI w B gn gu gt bR R gm A' A2 w' :=
  ⟨h.bel.trans (hf.to_below h.bel.size (fun k hk ha => by have := (h.sep k ha).1; omega)), ha, h.rf.fr hf (fun ha => by have := (h.sep R ha).2; have := h.sR; omega) (fun ha => by have := (h.sep gm ha).2; have := h.sg; omega), h.sep, h.sR, h.sg⟩
theorem PlayI.lowR (h : PlayI w B gn gu gt bR R gm A1 A2 wr) : w.heap.size ≤ bR := by
  have := h.sep B (.inl rfl)
  omega
theorem PlayI.ref (h : PlayI w B gn gu gt bR R gm A1 A2 wr) (hr : RfM w' R gm' A') (hb : Below bR wr w') (hg : bR ≤ gm') : PlayI w B gn gu gt bR R gm' A1 A' w' :=
  ⟨h.bel.trans (hb.mono h.lowR), h.ar.below hb (fun k hk => (h.sep k hk).2), hr, h.sep, h.sR, hg⟩
theorem PlayI.refF (h : PlayI w B gn gu gt bR R gm A1 A2 wr) (hr : RfM w' R gm A') (hf : Fr (fun k => k = gm) wr w') : PlayI w B gn gu gt bR R gm A1 A' w' :=
  h.ref hr (hf.to_below (Nat.le_trans h.sg (Nat.le_of_lt h.rf.map.lt)) (fun k hk e => by have := h.sg; omega)) h.sg
end
end Go.Proofs.YtfbhmkpihmcegaaDoor
