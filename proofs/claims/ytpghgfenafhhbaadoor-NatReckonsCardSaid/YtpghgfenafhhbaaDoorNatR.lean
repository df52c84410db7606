/-
  slices.Reverse over a row of bytes.
-/
import Derived.Test.YtpghgfenafhhbaaDoorNatC
import Derived.BigRegion
namespace Go.Proofs.YtpghgfenafhhbaaDoor
open Go.RowKit

def byteV (d : Nat) : Value := .int .u8 ((48 + d : Nat) : Int)
/-- What stands at p, k of m swapped. -/
def swapF (l : List Nat) (m k p : Nat) : Nat := if p < k ∨ m - k ≤ p then l.getD (m - 1 - p) 0 else l.getD p 0
structure RevI (w : World) (g : Nat) (l : List Nat) (m k : Nat) (cap : Nat) (wr : World) : Prop where
  gr : w.grownBy wr (some g)
  mem : ∃ cur : Array Value, Blk wr g 5 cur ∧ cur.size = cap ∧ ∀ p, p < m → cur[p]? = some (byteV (swapF l m k p))
def RevPost (w : World) (g : Nat) (l : List Nat) (m cap : Nat) (e : Ending) (w' : World) : Prop :=
  e = .returned (.tuple #[]) ∧ w.grownBy w' (some g) ∧ ∃ cur : Array Value, Blk w' g 5 cur ∧ cur.size = cap ∧ ∀ p, p < m → cur[p]? = some (byteV (l.getD (m - 1 - p) 0))
theorem grown_drewN {w w' : World} {r : Option Nat} (h : w.grownBy w' r) (n : Nat) : w.grownBy (w'.drewN n) r := ⟨h.os, h.tape, h.output, h.size, h.block⟩

set_option maxHeartbeats 4000000 in
theorem reverse_any (g m cap : Nat) (l : List Nat) (cur : Array Value) (w : World) (hb : Blk w g 5 cur) (hs : cur.size = cap) (hm : m ≤ cap) (hm1 : m ≤ 100000000) (hc : ∀ p, p < m → cur[p]? = some (byteV (l.getD p 0))) :
    Calls Tryd.prog 31 #[.slice (some ⟨g, 0, none⟩) m cap] w (RevPost w g l m cap) := by
  have HS := hide (show RevI w g l m 0 cap w from ⟨World.grownBy.refl w _, cur, hb, hs, fun p hp => by unfold swapF; rw [if_neg (by omega)]; exact hc p hp⟩)
  clear hb hc hs
  go_enter Tryd.func31, Tryd.ntmps31
  go_wp2
  go_loopw [2, 3] (fun iv jv wr => ∃ k : Nat, k ≤ m ∧ iv = .int .i64 k ∧ jv = .int .i64 ((m : Int) - 1 - k) ∧ Hid (RevI w g l m k cap wr)) (fun iv _ _ => m - (intOf iv).toNat)
  case atStart => exact ⟨0, Nat.zero_le _, rfl, by simp, HS⟩
  case round =>
    clear HS
    obtain ⟨k, hk, rfl, rfl, hR⟩ := hrel
    by_cases hlt : (k : Int) < (m : Int) - 1 - k
    · obtain ⟨j, hj⟩ : ∃ j : Nat, j = m - 1 - k := ⟨_, rfl⟩
      have hji : ((m : Int) - 1 - k) = (j : Int) := by omega
      rw [hji] at hlt ⊢
      have hkj : k < j := by omega
      have hjm : j < m := by omega
      obtain ⟨cur, hbk, hsz, hcl⟩ := hR.out.mem
      have HJ := Lib.hid hj
      have hkI : (k : Int) < (m : Int) := by omega
      have hjI : (j : Int) < (m : Int) := by omega
      have hk0 : (0 : Int) ≤ (k : Int) := by omega
      have hj0 : (0 : Int) ≤ (j : Int) := by omega
      have c1 : wr.cell? ⟨g, k, none⟩ = some (byteV (l.getD k 0)) := by
        rw [hbk.cell k, hcl k (by omega)]; unfold swapF; rw [if_neg (by omega)]
      have c2 : wr.cell? ⟨g, j, none⟩ = some (byteV (l.getD j 0)) := by
        rw [hbk.cell j, hcl j (by omega)]; unfold swapF; rw [if_neg (by omega)]
      have f1 := hbk.frozen k
      have f2 := hbk.frozen j
      have hne : j ≠ k := by omega
      have hne2 : k ≠ j := by omega
      have HNX := hide (show RevI w g l m (k + 1) cap ((wr.setCell ⟨g, k, none⟩ (byteV (l.getD j 0))).setCell ⟨g, j, none⟩ (byteV (l.getD k 0))) from by
        refine ⟨only_setCell (only_setCell hR.out.gr (.inl rfl) _) (.inl rfl) _, _, (hbk.set_ k _).set_ j _, by simp [hsz], fun p hp => ?_⟩
        rw [Array.getElem?_setIfInBounds, Array.getElem?_setIfInBounds]
        unfold swapF
        have hp2 := hcl p hp
        unfold swapF at hp2
        by_cases h1 : j = p
        · subst h1
          rw [if_pos rfl, if_pos (by simp [hsz]; omega), if_pos (by omega), show m - 1 - j = k by omega]
        · rw [if_neg h1]
          by_cases h2 : k = p
          · subst h2
            rw [if_pos rfl, if_pos (by omega), if_pos (by omega), ← hj]
          · rw [if_neg h2, hp2]
            by_cases h3 : p < k ∨ m - k ≤ p
            · rw [if_pos h3, if_pos (by omega)]
            · rw [if_neg h3, if_neg (by omega)])
      have HGR := hide hR.out.gr
      have HBK := hide hbk
      clear hcl hR hbk hsz hj hji
      unfold byteV at c1 c2 HNX
      generalize l.getD k 0 = x at c1 HNX
      generalize l.getD j 0 = y at c2 HNX
      go_wp2
      go_region
      all_goals
        go_wp2
        refine ⟨⟨k + 1, by omega, by go_num, by congr 1; have := HJ.out; omega, ?_⟩, by simp [intOf]; omega⟩
        rw [Int.natCast_add 48 x, Int.natCast_add 48 y] at HNX
        obtain ⟨cu, q1, q2, q3⟩ := HNX.out.mem
        exact hide ⟨only_drew HNX.out.gr, cu, q1.drew, q2, q3⟩
    · have hge : ¬ ((k : Int) < (m : Int) - 1 - k) := hlt
      go_wp2
      (try simp only [Exit.inBlock, Exit.then]); refine bodyPost_ret (results_none rfl _ _ _) rfl ?_
      obtain ⟨cur, hbk, hsz, hcl⟩ := hR.out.mem
      refine ⟨rfl, hR.out.gr, cur, hbk, hsz, fun p hp => ?_⟩
      rw [hcl p hp]
      unfold swapF
      by_cases h3 : p < k ∨ m - k ≤ p
      · rw [if_pos h3]
      · rw [if_neg h3, show m - 1 - p = p by omega]
end Go.Proofs.YtpghgfenafhhbaaDoor
