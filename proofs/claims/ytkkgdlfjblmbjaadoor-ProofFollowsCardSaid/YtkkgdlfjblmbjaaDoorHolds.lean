/-
  clause.Holds, AllHold and the reference's, on clauses of literals from -24 to 24.
-/
import Derived.Test.YtkkgdlfjblmbjaaDoorAt
namespace Go.Proofs.YtkkgdlfjblmbjaaDoor
open Go.RowKit

def posB (v x : Int) : Bool := bits BinOp.and IntKind.u64 (v / 2 ^ (x.toNat - 1)) 1 == 1
def negB (v x : Int) : Bool := bits BinOp.and IntKind.u64 (v / 2 ^ ((-x).toNat - 1)) 1 == 0
def holdsLit (v x : Int) : Bool := if 0 < x then posB v x else negB v x
def holdsC (v : Int) (zs : List Int) : Bool := zs.any (holdsLit v)
theorem right_lit {zs : List Int} (h : rightB zs = true) {x : Int} (hx : x ∈ zs) : (1 ≤ x ∧ x ≤ 24) ∨ (-24 ≤ x ∧ x ≤ -1) := by
  unfold rightB at h
  rw [Bool.and_eq_true, List.all_eq_true] at h
  have := h.1 x hx
  unfold badB at this
  simp at this
  omega

theorem holds1_any (x v : Int) (a : Addr) (w : World) (hc : w.cell? a = some (.int .u64 v)) (_hv0 : 0 ≤ v) (_hv1 : v ≤ 18446744073709551615) (hx : (1 ≤ x ∧ x ≤ 24) ∨ (-24 ≤ x ∧ x ≤ -1)) :
    Calls Tryd.prog 41 (#[.int .i64 x] ++ #[.pointer (some a)]) w fun e w' => e = .returned (.bool (holdsLit v x)) ∧ w = w' := by
  rcases hx with ⟨h0, h1⟩ | ⟨h0, h1⟩
  · have HF := Lib.hid (show holdsLit v x = posB v x by unfold holdsLit; rw [if_pos (by omega)])
    show Calls Tryd.prog 41 #[.int .i64 x, .pointer (some a)] w _
    go_enter Tryd.func41, Tryd.ntmps41
    go_wp2
    go_ret
    exact ⟨ret_bool (by rw [HF.out]; rfl), rfl⟩
  · have HF := Lib.hid (show holdsLit v x = negB v x by unfold holdsLit; rw [if_neg (by omega)])
    show Calls Tryd.prog 41 #[.int .i64 x, .pointer (some a)] w _
    go_enter Tryd.func41, Tryd.ntmps41
    go_wp2
    go_ret
    exact ⟨ret_bool (by rw [HF.out]; rfl), rfl⟩
theorem enters_holds1 : ∀ args w, (callFunc 41 args).run Tryd.prog w = .ok (.enter 41 args) w := enters_of Tryd.func41 (by kernel_rfl) rfl

set_option maxHeartbeats 400000 in
theorem holds_any (v : Int) (A : Option Addr) (n c : Nat) (zs : List Int) (w : World) (h : Ints w w.heap.size A n zs) (hr : rightB zs = true) (hv0 : 0 ≤ v) (hv1 : v ≤ 18446744073709551615) :
    Calls Tryd.prog 15 #[.slice A n c, .int .u64 v] w (AtPost w (holdsC v zs)) := by
  have hbel := (Below.refl w.heap.size w).alloc (Nat.le_refl _) (.cells #[.int .u64 v] 23)
  have hcell : (w.alloc (.cells #[.int .u64 v] 23)).cell? ⟨w.heap.size, 0, none⟩ = some (.int .u64 v) := by simp
  have hi2 := (h.below hbel).more (B' := (w.alloc (.cells #[.int .u64 v] 23)).heap.size) (by simp)
  have HC := hide (containsFunc_any 41 #[.pointer (some ⟨w.heap.size, 0, none⟩)] enters_holds1 (holdsLit v) A n c zs (w.alloc (.cells #[.int .u64 v] 23)) hi2 (fun x hx => holds1_any x v _ _ hcell hv0 hv1 (right_lit hr hx)))
  have HB := Lib.hid hbel
  clear hbel hcell hi2 hr
  go_enter Tryd.func15, Tryd.ntmps15
  go_wp2_with (go_at_call 38; refine (HC.out).mono ?_; rintro e w' ⟨rfl, rfl⟩)
  go_ret
  exact ⟨rfl, HB.out⟩

set_option maxHeartbeats 1000000 in
theorem refHolds_any (v : Int) (A : Option Addr) (n c : Nat) (zs : List Int) (w : World) (h : Ints w w.heap.size A n zs) (hr : rightB zs = true) (_hv0 : 0 ≤ v) (_hv1 : v ≤ 18446744073709551615) :
    Calls Tryd.prog 16 #[.slice A n c, .int .u64 v] w fun e w' => e = .returned (.bool (holdsC v zs)) ∧ w = w' := by
  have hn := h.le
  have hlen := Lib.hid h.len
  have HR := Lib.hid hr
  clear hr
  go_enter Tryd.func16, Tryd.ntmps16
  go_wp2
  go_loop [6, 9] (fun _ i => ∃ k : Nat, k ≤ n ∧ i = .int .i64 k ∧ Hid ((zs.take k).any (holdsLit v) = false)) (fun _ i => n - (intOf i).toNat)
  case atStart => exact ⟨0, Nat.zero_le _, rfl, Lib.hid rfl⟩
  case round =>
    obtain ⟨k, hk, rfl, hd⟩ := hrel
    by_cases hlt : k < n
    · obtain ⟨ad, rfl, hb, hc⟩ := h.at_ hlt
      have hkl := Lib.hid (show k < zs.length by rw [hlen.out]; exact hlt)
      have hmem : zs.getD k 0 ∈ zs := by
        rw [List.getD_eq_getElem?_getD, List.getElem?_eq_getElem hkl.out]; exact List.getElem_mem hkl.out
      have hx2 := right_lit HR.out hmem
      clear hmem
      obtain ⟨x, hx⟩ : ∃ x, zs.getD k 0 = x := ⟨_, rfl⟩
      rw [hx] at hc hx2
      have HX := Lib.hid hx
      clear hx
      rcases hx2 with ⟨h0, h1⟩ | ⟨h0, h1⟩
      · have HF := Lib.hid (show holdsLit v x = posB v x by unfold holdsLit; rw [if_pos (by omega)])
        rcases hp : posB v x with _ | _
        · have hp' := hp
          unfold posB at hp'
          have HP := Lib.hid hp
          clear hp
          go_wp2
          go_round
          case rel => exact ⟨k + 1, by omega, by go_num, Lib.hid (any_false_take _ zs k 0 hkl.out hd.out (by rw [HX.out, HF.out]; exact HP.out))⟩
          case measure => simp [intOf]; omega
        · have hp' := hp
          unfold posB at hp'
          have HP := Lib.hid hp
          clear hp
          go_wp2
          go_ret
          exact ⟨ret_bool (by symm; exact any_true_at _ zs k 0 hkl.out (by rw [HX.out, HF.out]; exact HP.out)), rfl⟩
      · have HF := Lib.hid (show holdsLit v x = negB v x by unfold holdsLit; rw [if_neg (by omega)])
        rcases hp : negB v x with _ | _
        · have hp' := hp
          unfold negB at hp'
          have HP := Lib.hid hp
          clear hp
          go_wp2
          go_round
          case rel => exact ⟨k + 1, by omega, by go_num, Lib.hid (any_false_take _ zs k 0 hkl.out hd.out (by rw [HX.out, HF.out]; exact HP.out))⟩
          case measure => simp [intOf]; omega
        · have hp' := hp
          unfold negB at hp'
          have HP := Lib.hid hp
          clear hp
          go_wp2
          go_ret
          exact ⟨ret_bool (by symm; exact any_true_at _ zs k 0 hkl.out (by rw [HX.out, HF.out]; exact HP.out)), rfl⟩
    · go_wp2
      go_ret
      exact ⟨ret_bool (by symm; rw [take_all zs k (by have := hlen.out; omega)] at hd; exact hd.out), rfl⟩

def AtLeast0B (w : World) (e : Ending) (w' : World) : Prop := ∃ r : Int, 0 ≤ r ∧ e = .returned (.int .i64 r) ∧ Below w.heap.size w w'
def IsNeg1 (w : World) (e : Ending) (w' : World) : Prop := e = .returned (.int .i64 (-1)) ∧ Below w.heap.size w w'
def RowsIdx (b : Bool) (w : World) (e : Ending) (w' : World) : Prop := (b = true ∧ AtLeast0B w e w') ∨ (b = false ∧ IsNeg1 w e w')

set_option maxHeartbeats 1000000 in
theorem indexRows_any (g : Nat) (lb : Array Value) (eg : ∀ args w, (callFunc g args).run Tryd.prog w = .ok (.enter g args) w) (p : List Int → Bool) (A : Option Addr) (n c : Nat) (ls : List (List Int)) (w : World)
    (h : Cls w w.heap.size A n ls) (hp : ∀ k A' n' c' W, k < n → Ints w w.heap.size A' n' (ls.getD k []) → Below w.heap.size w W → Calls Tryd.prog g (#[.slice A' n' c'] ++ lb) W (AtPost W (p (ls.getD k [])))) :
    Calls Tryd.prog 62 #[.slice A n c, .func (.func g) #[] lb] w (RowsIdx (ls.any p) w) := by
  have hn := h.le
  have hlen := Lib.hid h.len
  have HP := hide hp
  clear hp
  go_enter Tryd.func62, Tryd.ntmps62
  go_wp2
  go_loopw [5, 8] (fun _ i wr => ∃ k : Nat, k ≤ n ∧ i = .int .i64 k ∧ Below w.heap.size w wr ∧ Hid ((ls.take k).any p = false)) (fun _ i _ => n - (intOf i).toNat)
  case atStart => exact ⟨0, Nat.zero_le _, rfl, Below.refl _ _, Lib.hid rfl⟩
  case round =>
    obtain ⟨k, hk, rfl, hbw, hd⟩ := hrel
    by_cases hlt : k < n
    · obtain ⟨ad, A', n', c', rfl, hb, hc, hcc, hi⟩ := h.at_ hlt
      have hc2 : wr.cell? (ad.add k) = some (.slice A' n' c') := (hbw.cell (by rw [block_of_add]; exact hb)).trans hc
      have hkl := Lib.hid (show k < ls.length by rw [hlen.out]; exact hlt)
      have hcall := HP.out k A' n' c' wr hlt hi hbw
      clear hi
      obtain ⟨x, hx⟩ : ∃ x, ls.getD k [] = x := ⟨_, rfl⟩
      rw [hx] at hcall
      have HX := Lib.hid hx
      clear hx
      rcases hpx : p x with _ | _
      · rw [hpx] at hcall
        have HPX := Lib.hid hpx
        clear hpx
        have HC := hide hcall
        clear hcall
        have HBW := Lib.hid hbw
        clear hbw
        go_wp2_with (go_at_fn g; refine (HC.out).mono ?_; rintro e w1 ⟨rfl, hb1⟩)
        go_roundw
        case rel => exact ⟨k + 1, by omega, by go_num, HBW.out.trans (hb1.mono HBW.out.size), Lib.hid (any_false_take p ls k [] hkl.out hd.out (by rw [HX.out]; exact HPX.out))⟩
        case measure => simp [intOf]; omega
      · rw [hpx] at hcall
        have HPX := Lib.hid hpx
        clear hpx
        have HC := hide hcall
        clear hcall
        have HBW := Lib.hid hbw
        clear hbw
        go_wp2_with (go_at_fn g; refine (HC.out).mono ?_; rintro e w1 ⟨rfl, hb1⟩)
        go_ret
        exact .inl ⟨any_true_at p ls k [] hkl.out (by rw [HX.out]; exact HPX.out), k, by omega, rfl, HBW.out.trans (hb1.mono HBW.out.size)⟩
    · have HBW := Lib.hid hbw
      clear hbw
      go_wp2
      go_ret
      rw [take_all ls k (by have := hlen.out; omega)] at hd
      exact .inr ⟨hd.out, rfl, HBW.out⟩

set_option maxHeartbeats 400000 in
theorem containsRows_any (g : Nat) (lb : Array Value) (eg : ∀ args w, (callFunc g args).run Tryd.prog w = .ok (.enter g args) w) (p : List Int → Bool) (A : Option Addr) (n c : Nat) (ls : List (List Int)) (w : World)
    (h : Cls w w.heap.size A n ls) (hp : ∀ k A' n' c' W, k < n → Ints w w.heap.size A' n' (ls.getD k []) → Below w.heap.size w W → Calls Tryd.prog g (#[.slice A' n' c'] ++ lb) W (AtPost W (p (ls.getD k [])))) :
    Calls Tryd.prog 42 #[.slice A n c, .func (.func g) #[] lb] w (AtPost w (ls.any p)) := by
  have hI := indexRows_any g lb eg p A n c ls w h hp
  clear hp
  rcases hb : ls.any p with _ | _
  · have HC := hide (show Calls Tryd.prog _ _ w (IsNeg1 w) from hI.mono fun e w' hh => by
      rcases hh with ⟨h1, _⟩ | ⟨_, h2⟩
      · rw [hb] at h1; cases h1
      · exact h2)
    clear hI hb
    go_enter Tryd.func42, Tryd.ntmps42
    go_wp2_with (go_at_call 62; refine (HC.out).mono ?_; rintro e w' ⟨rfl, hb1⟩)
    go_ret
    exact ⟨rfl, hb1⟩
  · have HC := hide (show Calls Tryd.prog _ _ w (AtLeast0B w) from hI.mono fun e w' hh => by
      rcases hh with ⟨_, h2⟩ | ⟨h1, _⟩
      · exact h2
      · rw [hb] at h1; cases h1)
    clear hI hb
    go_enter Tryd.func42, Tryd.ntmps42
    go_wp2_with (go_at_call 62; refine (HC.out).mono ?_; rintro e w' ⟨r, hr, rfl, hb1⟩)
    go_ret
    exact ⟨rfl, hb1⟩

def allB (v : Int) (ls : List (List Int)) : Bool := ls.all (holdsC v)

theorem allHold1_any (v : Int) (a : Addr) (A : Option Addr) (n c : Nat) (zs : List Int) (w : World) (hc : w.cell? a = some (.int .u64 v)) (h : Ints w w.heap.size A n zs) (hr : rightB zs = true) (hv0 : 0 ≤ v) (hv1 : v ≤ 18446744073709551615) :
    Calls Tryd.prog 43 (#[.slice A n c] ++ #[.pointer (some a)]) w (AtPost w (!holdsC v zs)) := by
  have HC := hide (holds_any v A n c zs w h hr hv0 hv1)
  clear hr
  show Calls Tryd.prog 43 #[.slice A n c, .pointer (some a)] w _
  go_enter Tryd.func43, Tryd.ntmps43
  go_wp2_with (go_at_call 15; refine (HC.out).mono ?_; rintro e w' ⟨rfl, hb1⟩)
  go_ret
  exact ⟨rfl, hb1⟩
theorem enters_allHold1 : ∀ args w, (callFunc 43 args).run Tryd.prog w = .ok (.enter 43 args) w := enters_of Tryd.func43 (by kernel_rfl) rfl

set_option maxHeartbeats 400000 in
theorem allHold_any (v : Int) (A : Option Addr) (n c : Nat) (ls : List (List Int)) (w : World) (h : Cls w w.heap.size A n ls) (hr : ∀ k, k < n → rightB (ls.getD k []) = true) (hv0 : 0 ≤ v) (hv1 : v ≤ 18446744073709551615) :
    Calls Tryd.prog 17 #[.slice A n c, .int .u64 v] w (AtPost w (allB v ls)) := by
  have hbel := (Below.refl w.heap.size w).alloc (Nat.le_refl _) (.cells #[.int .u64 v] 23)
  have hcell : (w.alloc (.cells #[.int .u64 v] 23)).cell? ⟨w.heap.size, 0, none⟩ = some (.int .u64 v) := by simp
  have hi2 := (h.below hbel).more (B' := (w.alloc (.cells #[.int .u64 v] 23)).heap.size) (by simp)
  have HC := hide (containsRows_any 43 #[.pointer (some ⟨w.heap.size, 0, none⟩)] enters_allHold1 (fun z => !holdsC v z) A n c ls (w.alloc (.cells #[.int .u64 v] 23)) hi2
    (fun k A' n' c' W hk hi hb => allHold1_any v _ A' n' c' _ W ((hb.cell (by simp)).trans hcell) ((hi.below hb).more hb.size) (hr k hk) hv0 hv1))
  have HB := Lib.hid hbel
  have HF := Lib.hid (show (!ls.any (fun z => !holdsC v z)) = allB v ls by unfold allB; rw [List.all_eq_not_any_not])
  clear hbel hcell hi2 hr
  go_enter Tryd.func17, Tryd.ntmps17
  go_wp2_with (go_at_call 42; refine (HC.out).mono ?_; rintro e w' ⟨rfl, hb1⟩)
  go_ret
  exact ⟨ret_bool HF.out, HB.out.trans (hb1.mono (by simp))⟩

set_option maxHeartbeats 1000000 in
theorem refAllHold_any (v : Int) (A : Option Addr) (n c : Nat) (ls : List (List Int)) (w : World) (h : Cls w w.heap.size A n ls) (hr : ∀ k, k < n → rightB (ls.getD k []) = true) (hv0 : 0 ≤ v) (hv1 : v ≤ 18446744073709551615) :
    Calls Tryd.prog 18 #[.slice A n c, .int .u64 v] w fun e w' => e = .returned (.bool (allB v ls)) ∧ w = w' := by
  have hn := h.le
  have hlen := Lib.hid h.len
  have HR := hide hr
  clear hr
  go_enter Tryd.func18, Tryd.ntmps18
  go_wp2
  go_loop [6, 9] (fun _ i => ∃ k : Nat, k ≤ n ∧ i = .int .i64 k ∧ Hid ((ls.take k).all (holdsC v) = true)) (fun _ i => n - (intOf i).toNat)
  case atStart => exact ⟨0, Nat.zero_le _, rfl, Lib.hid rfl⟩
  case round =>
    obtain ⟨k, hk, rfl, hd⟩ := hrel
    by_cases hlt : k < n
    · obtain ⟨ad, A', n', c', rfl, hb, hc, hcc, hi⟩ := h.at_ hlt
      have hkl := Lib.hid (show k < ls.length by rw [hlen.out]; exact hlt)
      have hcall := refHolds_any v A' n' c' (ls.getD k []) w hi (HR.out k hlt) hv0 hv1
      clear hi
      obtain ⟨x, hx⟩ : ∃ x, ls.getD k [] = x := ⟨_, rfl⟩
      rw [hx] at hcall
      have HX := Lib.hid hx
      clear hx
      rcases hpx : holdsC v x with _ | _
      · rw [hpx] at hcall
        have HPX := Lib.hid hpx
        clear hpx
        have HC := hide hcall
        clear hcall
        go_wp2_with (go_at_call 16; refine (HC.out).mono ?_; rintro e w1 ⟨rfl, rfl⟩)
        go_ret
        exact ⟨ret_bool (all_false_at _ ls k [] hkl.out (by rw [HX.out]; exact HPX.out)).symm, rfl⟩
      · rw [hpx] at hcall
        have HPX := Lib.hid hpx
        clear hpx
        have HC := hide hcall
        clear hcall
        go_wp2_with (go_at_call 16; refine (HC.out).mono ?_; rintro e w1 ⟨rfl, rfl⟩)
        go_round
        case rel => exact ⟨k + 1, by omega, by go_num, Lib.hid (all_of_take _ ls k [] hkl.out hd.out (by rw [HX.out]; exact HPX.out))⟩
        case measure => simp [intOf]; omega
    · go_wp2
      go_ret
      exact ⟨ret_bool (by symm; rw [take_all ls k (by have := hlen.out; omega)] at hd; exact hd.out), rfl⟩
end Go.Proofs.YtkkgdlfjblmbjaaDoor
