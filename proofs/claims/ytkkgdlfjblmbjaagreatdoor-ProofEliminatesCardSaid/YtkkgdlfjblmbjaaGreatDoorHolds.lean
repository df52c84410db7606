/-
  clause.Holds, AllHold and the reference's, on clauses of literals from -24 to 24.
-/
import Derived.Test.YtkkgdlfjblmbjaaGreatDoorAt
namespace Go.Proofs.YtkkgdlfjblmbjaaGreatDoor
open Go.RowKit

def posB (v x : Int) : Bool := bits BinOp.and IntKind.u64 (v / 2 ^ (x.toNat - 1)) 1 == 1
def negB (v x : Int) : Bool := bits BinOp.and IntKind.u64 (v / 2 ^ ((-x).toNat - 1)) 1 == 0
def holdsLit (v x : Int) : Bool := if 0 < x then posB v x else negB v x
def holdsC (v : Int) (zs : List Int) : Bool := zs.any (holdsLit v)
theorem right_lit {zs : List Int} (h : rightB zs = true) {x : Int} (hx : x ∈ zs) : (1 ≤ x ∧ x ≤ 24) ∨ (-24 ≤ x ∧ x ≤ -1) := by
  unfold rightB at h
  rw [Bool.and_eq_true, List.all_eq_true] at h
  have := h.1 x hx
  unfold badB at this
  simp at this
  omega

def AtLeast0B (w : World) (e : Ending) (w' : World) : Prop := ∃ r : Int, 0 ≤ r ∧ e = .returned (.int .i64 r) ∧ Below w.heap.size w w'
def IsNeg1 (w : World) (e : Ending) (w' : World) : Prop := e = .returned (.int .i64 (-1)) ∧ Below w.heap.size w w'
def RowsIdx (b : Bool) (w : World) (e : Ending) (w' : World) : Prop := (b = true ∧ AtLeast0B w e w') ∨ (b = false ∧ IsNeg1 w e w')

set_option maxHeartbeats 1000000 in
theorem indexRows_any (g : Nat) (lb : Array Value) (eg : ∀ args w, (callFunc g args).run Tryz.prog w = .ok (.enter g args) w) (p : List Int → Bool) (A : Option Addr) (n c : Nat) (ls : List (List Int)) (w : World)
    (h : Cls w w.heap.size A n ls) (hp : ∀ k A' n' c' W, k < n → Ints w w.heap.size A' n' (ls.getD k []) → Below w.heap.size w W → Calls Tryz.prog g (#[.slice A' n' c'] ++ lb) W (AtPost W (p (ls.getD k [])))) :
    Calls Tryz.prog 32 #[.slice A n c, .func (.func g) #[] lb] w (RowsIdx (ls.any p) w) := by
  have hn := h.le
  have hlen := Lib.hid h.len
  have HP := hide hp
  clear hp
  go_enter Tryz.func32, Tryz.ntmps32
  go_wp2
  go_loopw [5, 8] (fun _ i wr => ∃ k : Nat, k ≤ n ∧ i = .int .i64 k ∧ Below w.heap.size w wr ∧ Hid ((ls.take k).any p = false)) (fun _ i _ => n - (intOf i).toNat)
  case atStart => exact ⟨0, Nat.zero_le _, rfl, Below.refl _ _, Lib.hid rfl⟩
  case round =>
    obtain ⟨k, hk, rfl, hbw, hd⟩ := hrel
    by_cases hlt : k < n
    · obtain ⟨ad, A', n', c', rfl, hb, hc, hcc, hi⟩ := h.at_ hlt
      have hc2 : wr.cell? (ad.add k) = some (.slice A' n' c') := (hbw.cell (by rw [block_of_add]; exact hb)).trans hc
      have hkl := Lib.hid (show k < ls.length by rw [hlen.out]; exact hlt)
      have hcall := HP.out k A' n' c' wr hlt hi hbw
      clear hi
      obtain ⟨x, hx⟩ : ∃ x, ls.getD k [] = x := ⟨_, rfl⟩
      rw [hx] at hcall
      have HX := Lib.hid hx
      clear hx
      rcases hpx : p x with _ | _
      · rw [hpx] at hcall
        have HPX := Lib.hid hpx
        clear hpx
        have HC := hide hcall
        clear hcall
        have HBW := Lib.hid hbw
        clear hbw
        go_wp2_with (go_at_fn g; refine (HC.out).mono ?_; rintro e w1 ⟨rfl, hb1⟩)
        go_roundw
        case rel => exact ⟨k + 1, by omega, by go_num, HBW.out.trans (hb1.mono HBW.out.size), Lib.hid (any_false_take p ls k [] hkl.out hd.out (by rw [HX.out]; exact HPX.out))⟩
        case measure => simp [intOf]; omega
      · rw [hpx] at hcall
        have HPX := Lib.hid hpx
        clear hpx
        have HC := hide hcall
        clear hcall
        have HBW := Lib.hid hbw
        clear hbw
        go_wp2_with (go_at_fn g; refine (HC.out).mono ?_; rintro e w1 ⟨rfl, hb1⟩)
        go_ret
        exact .inl ⟨any_true_at p ls k [] hkl.out (by rw [HX.out]; exact HPX.out), k, by omega, rfl, HBW.out.trans (hb1.mono HBW.out.size)⟩
    · have HBW := Lib.hid hbw
      clear hbw
      go_wp2
      go_ret
      rw [take_all ls k (by have := hlen.out; omega)] at hd
      exact .inr ⟨hd.out, rfl, HBW.out⟩

set_option maxHeartbeats 400000 in
theorem containsRows_any (g : Nat) (lb : Array Value) (eg : ∀ args w, (callFunc g args).run Tryz.prog w = .ok (.enter g args) w) (p : List Int → Bool) (A : Option Addr) (n c : Nat) (ls : List (List Int)) (w : World)
    (h : Cls w w.heap.size A n ls) (hp : ∀ k A' n' c' W, k < n → Ints w w.heap.size A' n' (ls.getD k []) → Below w.heap.size w W → Calls Tryz.prog g (#[.slice A' n' c'] ++ lb) W (AtPost W (p (ls.getD k [])))) :
    Calls Tryz.prog 18 #[.slice A n c, .func (.func g) #[] lb] w (AtPost w (ls.any p)) := by
  have hI := indexRows_any g lb eg p A n c ls w h hp
  clear hp
  rcases hb : ls.any p with _ | _
  · have HC := hide (show Calls Tryz.prog _ _ w (IsNeg1 w) from hI.mono fun e w' hh => by
      rcases hh with ⟨h1, _⟩ | ⟨_, h2⟩
      · rw [hb] at h1; cases h1
      · exact h2)
    clear hI hb
    go_enter Tryz.func18, Tryz.ntmps18
    go_wp2_with (go_at_call 32; refine (HC.out).mono ?_; rintro e w' ⟨rfl, hb1⟩)
    go_ret
    exact ⟨rfl, hb1⟩
  · have HC := hide (show Calls Tryz.prog _ _ w (AtLeast0B w) from hI.mono fun e w' hh => by
      rcases hh with ⟨_, h2⟩ | ⟨h1, _⟩
      · exact h2
      · rw [hb] at h1; cases h1)
    clear hI hb
    go_enter Tryz.func18, Tryz.ntmps18
    go_wp2_with (go_at_call 32; refine (HC.out).mono ?_; rintro e w' ⟨r, hr, rfl, hb1⟩)
    go_ret
    exact ⟨rfl, hb1⟩

def allB (v : Int) (ls : List (List Int)) : Bool := ls.all (holdsC v)

end Go.Proofs.YtkkgdlfjblmbjaaGreatDoor
