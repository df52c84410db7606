/-
  clause's unit and spread: what follows by clauses, from what is told on.
-/
import Derived.Test.YtkkgdlfjblmbjaaDoorHas
import Derived.Deep.LoopGhost
namespace Go.Proofs.YtkkgdlfjblmbjaaDoor
open Go.RowKit

theorem ret_two {a a' : Int} {b b' : Bool} (h : a = a') (h' : b = b') : Ending.returned (.tuple #[.int .i64 a, .bool b]) = .returned (.tuple #[.int .i64 a', .bool b']) := by rw [h, h']

def litOk (x : Int) : Prop := (1 ≤ x ∧ x ≤ 24) ∨ (-24 ≤ x ∧ x ≤ -1)

set_option maxHeartbeats 2000000 in
theorem unit_any (b : Nat) (tr : List Int) (v : Value) (A : Option Addr) (n c : Nat) (zs : List Int) (w : World) (h : Blk w b 91 (stCells tr v)) (hcn : Cons tr) (hi : Ints w w.heap.size A n zs) (hok : ∀ x ∈ zs, litOk x) :
    Calls Tryd.prog 63 #[.pointer (some ⟨b, 0, none⟩), .slice A n c] w fun e w' => e = .returned (.tuple #[.int .i64 (unitF tr zs).1, .bool (unitF tr zs).2]) ∧ w = w' := by
  have hn := hi.le
  have hlen := Lib.hid hi.len
  have HOK := hide hok
  have HIS := hide (fun x hx => is_any x b tr v w h hcn hx)
  clear hok h
  go_enter Tryd.func63, Tryd.ntmps63
  go_wp2
  go_loop [6, 8, 11, 18] (fun l _ i _ => ∃ (k : Nat) (left : Int), k ≤ n ∧ i = .int .i64 k ∧ l = .int .i64 left ∧ Hid (unitGo tr left (zs.drop k) = unitF tr zs)) (fun _ _ i _ => n - (intOf i).toNat)
  case atStart => exact ⟨0, 0, Nat.zero_le _, rfl, rfl, Lib.hid rfl⟩
  case round =>
    obtain ⟨k, left, hk, rfl, rfl, hd⟩ := hrel
    by_cases hlt : k < n
    · obtain ⟨ad, rfl, hb, hc⟩ := hi.at_ hlt
      have hkl := Lib.hid (show k < zs.length by rw [hlen.out]; exact hlt)
      have hmem : zs.getD k 0 ∈ zs := by
        rw [List.getD_eq_getElem?_getD, List.getElem?_eq_getElem hkl.out]; exact List.getElem_mem hkl.out
      have hx := HOK.out _ hmem
      have hcall := HIS.out _ hx
      have hdrop := Lib.hid (getD_cons_drop zs k 0 hkl.out)
      clear hmem
      generalize zs.getD k 0 = x at hcall hc hdrop hx
      have h0 : x ≠ 0 := by rcases hx with hx | hx <;> omega
      by_cases h1 : x ∈ tr
      · rw [litT_mem h1] at hcall
        have HC := hide hcall
        have HF := Lib.hid (show unitF tr zs = (0, true) by rw [← hd.out, hdrop.out, unitGo, if_pos h1])
        clear hcall hx h0
        clear h1
        go_wp2_with (go_at_call 46; refine (HC.out).mono ?_; rintro e w' ⟨rfl, rfl⟩)
        go_ret2
        exact ⟨ret_two (by rw [HF.out]) (by rw [HF.out]), rfl⟩
      · by_cases h2 : -x ∈ tr
        · rw [litT_neg h1 h2] at hcall
          have HC := hide hcall
          have HF := Lib.hid (show unitGo tr left (zs.drop (k + 1)) = unitF tr zs by rw [← hd.out, hdrop.out, unitGo, if_neg h1, if_pos h2])
          clear hcall hx h0
          clear h1 h2
          go_wp2_with (go_at_call 46; refine (HC.out).mono ?_; rintro e w' ⟨rfl, rfl⟩)
          go_round
          case rel => exact ⟨k + 1, left, by omega, by go_num, rfl, HF⟩
          case measure => simp [intOf]; omega
        · rw [litT_none h1 h2] at hcall
          have HC := hide hcall
          clear hcall
          by_cases h3 : left = 0
          · subst h3
            have HF := Lib.hid (show unitGo tr x (zs.drop (k + 1)) = unitF tr zs by rw [← hd.out, hdrop.out, unitGo, if_neg h1, if_neg h2, if_neg (by simp)])
            clear h1 h2 hx h0
            go_wp2_with (go_at_call 46; refine (HC.out).mono ?_; rintro e w' ⟨rfl, rfl⟩)
            go_round
            case rel => exact ⟨k + 1, x, by omega, by go_num, rfl, HF⟩
            case measure => simp [intOf]; omega
          · by_cases h4 : left = x
            · subst h4
              have HF := Lib.hid (show unitGo tr left (zs.drop (k + 1)) = unitF tr zs by rw [← hd.out, hdrop.out, unitGo, if_neg h1, if_neg h2, if_neg (by simp)])
              have e0 : (left != 0) = true := by simp [h3]
              clear h1 h2 hx h0 h3
              go_wp2_with (go_at_call 46; refine (HC.out).mono ?_; rintro e w' ⟨rfl, rfl⟩)
              go_round
              case rel => exact ⟨k + 1, left, by omega, by go_num, rfl, HF⟩
              case measure => simp [intOf]; omega
            · have HF := Lib.hid (show unitF tr zs = (0, true) by rw [← hd.out, hdrop.out, unitGo, if_neg h1, if_neg h2, if_pos ⟨h3, h4⟩])
              have e0 : (left != 0) = true := by simp [h3]
              have e1 : (left != x) = true := by simp [h4]
              clear h1 h2 hx h0 h3 h4
              go_wp2_with (go_at_call 46; refine (HC.out).mono ?_; rintro e w' ⟨rfl, rfl⟩)
              go_ret2
              exact ⟨ret_two (by rw [HF.out]) (by rw [HF.out]), rfl⟩
    · have HF := Lib.hid (show unitF tr zs = (left, decide (left ≠ 0)) by rw [← hd.out, List.drop_eq_nil_of_le (by have := hlen.out; omega)]; rfl)
      go_wp2
      go_ret2
      exact ⟨ret_two (by rw [HF.out]) (by rw [HF.out]; by_cases e : left = 0 <;> simp [e]), rfl⟩

theorem unit_three (tr c : List Int) (hc : ∀ x ∈ c, litOk x) : unitF tr c = (0, true) ∨ unitF tr c = (0, false) ∨ ∃ x, x ≠ 0 ∧ unitF tr c = (x, true) ∧ litOk x ∧ x ∉ tr ∧ -x ∉ tr := by
  rcases unit_left tr c 0 [] (.inl ⟨rfl, rfl⟩) (fun x hx => by rcases hc x hx with h | h <;> omega) with ⟨h, _⟩ | ⟨h, _⟩ | ⟨x, hx, h, _⟩
  · exact .inl h
  · exact .inr (.inl h)
  · rcases unitGo_mem tr c 0 x h hx with e | ⟨e, h1, h2⟩
    · exact absurd e hx
    · exact .inr (.inr ⟨x, hx, h, hc x e, h1, h2⟩)

def SpreadPost (w : World) (S : Nat → Prop) (b base : Nat) (r : List Int × Int) (e : Ending) (w' : World) : Prop := e = .returned (.int .i64 r.2) ∧ StPost w S b base r.1 w'
def okRows (ls : List (List Int)) : Prop := ∀ k, k < ls.length → ∀ x ∈ ls.getD k [], litOk x

structure SpreadRel (S : Nat → Prop) (b base : Nat) (A : Option Addr) (n : Nat) (ls : List (List Int)) (tr : List Int) (w : World) (k : Nat) (tr' : List Int) (v' : Value) (wr : World) : Prop where
  st : St wr S b base v' tr'
  cl : ClsP wr S A n ls
  kp : Keep S w wr
  sc : scanF tr' (ls.drop k) k = scanF tr' ls 0
  sp : spreadR ls tr' = spreadR ls tr

set_option maxRecDepth 100000 in
set_option maxHeartbeats 2000000 in
theorem spread_any (S : Nat → Prop) (b base : Nat) (v : Value) (tr : List Int) (A : Option Addr) (n c : Nat) (ls : List (List Int)) (w : World) (h : St w S b base v tr) (hcl : ClsP w S A n ls) (hok : okRows ls) :
    Calls Tryd.prog 48 #[.pointer (some ⟨b, 0, none⟩), .slice A n c] w (SpreadPost w S b base (spreadR ls tr)) := by
  have hn : n ≤ 9223372036854775807 := hcl.2.1
  have hlen := Lib.hid hcl.1
  have HOK := hide hok
  have HR := hide (show SpreadRel S b base A n ls tr w 0 tr v w from ⟨h, hcl, Keep.refl _ _, rfl, rfl⟩)
  clear hok h hcl
  go_enter Tryd.func48, Tryd.ntmps48
  go_wp2
  go_loopg [5, 6, 7] ((25 - tr.length) * (n + 1) + n) (fun gg i _ _ wr => ∃ (k : Nat) (tr' : List Int) (v' : Value), k ≤ n ∧ i = .int .i64 k ∧ Hid (SpreadRel S b base A n ls tr w k tr' v' wr) ∧ (25 - tr'.length) * (n + 1) + (n - k) ≤ gg)
  case atStart => exact ⟨0, tr, v, Nat.zero_le _, rfl, HR, by omega⟩
  case round =>
    clear HR
    obtain ⟨k, tr', v', hk, rfl, hR, hg⟩ := hrel
    by_cases hlt : k < n
    · obtain ⟨ad, A', n', c', hA, _, hc, _, hi⟩ := (hR.out.cl.cls (fun i hi => (hR.out.st.prot i hi).1)).at_ hlt
      subst hA
      have hkl := Lib.hid (show k < ls.length by rw [hlen.out]; exact hlt)
      have hU := unit_any b tr' v' A' n' c' (ls.getD k []) wr hR.out.st.blk hR.out.st.cons hi (HOK.out k hkl.out)
      have H3 := hide (unit_three tr' (ls.getD k []) (HOK.out k hkl.out))
      clear hi
      rcases H3.out with h3 | h3 | ⟨x, hx, h3, hxo, hx1, hx2⟩
      · rw [h3] at hU
        have HU := hide hU
        have HF := hide (scanF_skip tr' ls k hkl.out h3)
        clear hU h3 H3
        go_wp2_with (go_at_call 63; refine (HU.out).mono ?_; rintro e w' ⟨rfl, rfl⟩)
        go_roundg ((25 - tr'.length) * (n + 1) + (n - (k + 1)))
        case measure => omega
        case rel => exact ⟨k + 1, tr', v', by omega, by go_num, hide ⟨hR.out.st, hR.out.cl, hR.out.kp, by rw [← HF.out]; exact hR.out.sc, hR.out.sp⟩, Nat.le_refl _⟩
      · rw [h3] at hU
        have HU := hide hU
        have HF := hide (spread_bad hR.out.st.cons (i := k) (by rw [← hR.out.sc]; exact scanF_hit tr' ls k hkl.out 0 false h3 (by simp)))
        clear hU h3 H3
        go_wp2_with (go_at_call 63; refine (HU.out).mono ?_; rintro e w' ⟨rfl, rfl⟩)
        go_ret
        rw [← hR.out.sp, HF.out]
        exact ⟨rfl, v', hR.out.st, hR.out.kp⟩
      · rw [h3] at hU
        have HU := hide hU
        have HF := hide (spread_unit hR.out.st.cons (by rw [← hR.out.sc]; exact scanF_hit tr' ls k hkl.out x true h3 (by simp [hx])) hx)
        have HS := hide (set_any S x b base v' tr' wr hR.out.st hxo hx1 hx2)
        have hx0 : (x != 0) = true := by simp [hx]
        have hL := hR.out.st.cons.len
        clear hU h3 H3 hxo hx1 hx2 hx
        go_wp2_with (first | (go_at_call 63; refine (HU.out).mono ?_; rintro e w' ⟨rfl, rfl⟩) | (go_at_call 47; refine (HS.out).mono ?_; rintro e w2 ⟨rfl, v2, hst2, hkp2⟩; have HST := hide hst2; have HKP := hide hkp2; clear hst2 hkp2))
        have hm : (25 - (tr' ++ [x]).length) * (n + 1) + n < (25 - tr'.length) * (n + 1) + (n - k) := by
          rw [List.length_append, List.length_singleton, show 25 - tr'.length = (25 - (tr'.length + 1)) + 1 by omega, Nat.succ_mul]
          omega
        go_roundg ((25 - (tr' ++ [x]).length) * (n + 1) + n)
        case measure => omega
        case rel => exact ⟨0, tr' ++ [x], v2, Nat.zero_le _, by go_num, hide ⟨HST.out, hR.out.cl.keep HKP.out, hR.out.kp.trans HKP.out, rfl, by rw [← HF.out]; exact hR.out.sp⟩, by omega⟩
    · have HF := hide (spread_none hR.out.st.cons (by rw [← hR.out.sc]; exact scanF_none tr' ls k k (by have := hlen.out; omega)))
      go_wp2
      go_ret
      rw [← hR.out.sp, HF.out]
      exact ⟨rfl, v', hR.out.st, hR.out.kp⟩
end Go.Proofs.YtkkgdlfjblmbjaaDoor
