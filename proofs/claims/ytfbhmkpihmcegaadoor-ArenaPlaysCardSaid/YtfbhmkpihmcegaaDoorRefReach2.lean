/-
  The document's Reach.
-/
import Derived.Test.YtfbhmkpihmcegaaDoorRefReach
import Derived.Laws.EntriesVeiled
namespace Go.Proofs.YtfbhmkpihmcegaaDoor
open Go.RowKit Go.Maps

structure RchI (w : World) (R gm b0 b5 b6 gs : Nat) (A : Ar) (l : List Int) (seen : List Bool) (todo : List Int) (wr : World) : Prop where
  bel : Below w.heap.size w wr
  M : WkM wr R gm b0 b5 b6 gs A
  S : MapS wr gs (seenF seen) (seen.countP id)
  I : SeenI A l seen todo
structure RcoI (w : World) (b5 gs : Nat) (seen : List Bool) (i : Nat) (vo : Value) (wr : World) : Prop where
  bel : Below w.heap.size w wr
  k5 : Blk wr b5 108 #[.map (some gs)]
  S : MapS wr gs (seenF seen) (seen.countP id)
  own : OwnI wr (b5 + 1) vo (outL seen i)

set_option maxRecDepth 100000 in
set_option maxHeartbeats 8000000 in
theorem rfReach_any (R gm : Nat) (A : Ar) (Af : Option Addr) (nf cf : Nat) (l : List Int) (w : World) (h : RfM w R gm A) (hl : RowI w Af nf l) (hi : ∀ x ∈ l, I64 x) (hn : nf ≤ 1000000) :
    Calls Tryd.prog 14 #[.pointer (some ⟨R, 0, none⟩), .slice Af nf cf] w (OwnPost w (reachL A l)) := by
  have hmm := @run_makeMap Tryd.prog
  have hmf : ∀ (fn : Fn) (first cap : Array Value) (w : World), (Instr.makeFunc fn first cap).run Tryd.prog w = .ok (.func fn first cap) w := by intros; rfl
  have HW := hide h
  have HR := hide hl
  have HI := hide hi
  clear h hl hi
  have k0 := (((Blk.new w 30 #[.pointer (some ⟨R, 0, none⟩)]).alloc (.map #[] 0)).alloc (.cells #[.map (some (w.heap.size + 1))] 108)).alloc (.cells #[(.func (.func 65) #[] #[.pointer (some ⟨w.heap.size, 0, none⟩), .pointer (some ⟨w.heap.size + 1 + 1, 0, none⟩), .pointer (some ⟨w.heap.size + 1 + 1 + 1, 0, none⟩)])] 109)
  have km : MapS ((((w.alloc (.cells #[.pointer (some ⟨R, 0, none⟩)] 30)).alloc (.map #[] 0)).alloc (.cells #[.map (some (w.heap.size + 1))] 108)).alloc (.cells #[(.func (.func 65) #[] #[.pointer (some ⟨w.heap.size, 0, none⟩), .pointer (some ⟨w.heap.size + 1 + 1, 0, none⟩), .pointer (some ⟨w.heap.size + 1 + 1 + 1, 0, none⟩)])] 109)) (w.heap.size + 1) (fun _ => false) 0 := by
    have h1 := mapS_made (w.alloc (.cells #[.pointer (some ⟨R, 0, none⟩)] 30))
    rw [show (w.alloc (.cells #[.pointer (some ⟨R, 0, none⟩)] 30)).heap.size = w.heap.size + 1 by simp] at h1
    exact (h1.same ((Below.heap_alloc _ _ _ h1.lt))).same (Below.heap_alloc _ _ _ (h1.same (Below.heap_alloc _ (.cells #[.map (some (w.heap.size + 1))] 108) _ h1.lt)).lt)
  have k5 := (Blk.new ((w.alloc (.cells #[.pointer (some ⟨R, 0, none⟩)] 30)).alloc (.map #[] 0)) 108 #[.map (some (w.heap.size + 1))]).alloc (.cells #[(.func (.func 65) #[] #[.pointer (some ⟨w.heap.size, 0, none⟩), .pointer (some ⟨w.heap.size + 1 + 1, 0, none⟩), .pointer (some ⟨w.heap.size + 1 + 1 + 1, 0, none⟩)])] 109)
  have k6 := Blk.new (((w.alloc (.cells #[.pointer (some ⟨R, 0, none⟩)] 30)).alloc (.map #[] 0)).alloc (.cells #[.map (some (w.heap.size + 1))] 108)) 109 #[(.func (.func 65) #[] #[.pointer (some ⟨w.heap.size, 0, none⟩), .pointer (some ⟨w.heap.size + 1 + 1, 0, none⟩), .pointer (some ⟨w.heap.size + 1 + 1 + 1, 0, none⟩)])]
  rw [show ((w.alloc (.cells #[.pointer (some ⟨R, 0, none⟩)] 30)).alloc (.map #[] 0)).heap.size = w.heap.size + 1 + 1 by simp] at k5
  rw [show (((w.alloc (.cells #[.pointer (some ⟨R, 0, none⟩)] 30)).alloc (.map #[] 0)).alloc (.cells #[.map (some (w.heap.size + 1))] 108)).heap.size = w.heap.size + 1 + 1 + 1 by simp] at k6
  have hb : Below w.heap.size w ((((w.alloc (.cells #[.pointer (some ⟨R, 0, none⟩)] 30)).alloc (.map #[] 0)).alloc (.cells #[.map (some (w.heap.size + 1))] 108)).alloc (.cells #[(.func (.func 65) #[] #[.pointer (some ⟨w.heap.size, 0, none⟩), .pointer (some ⟨w.heap.size + 1 + 1, 0, none⟩), .pointer (some ⟨w.heap.size + 1 + 1 + 1, 0, none⟩)])] 109)) :=
    (((((Below.refl w.heap.size w).alloc (Nat.le_refl _) _).alloc (by simp) _).alloc (by simp; omega) _).alloc (by simp; omega) _)
  have hRl := HW.out.kR.lt
  have hml := HW.out.map.lt
  go_enter Tryd.func14, Tryd.ntmps14
  go_wp2
  clear hmm hmf
  generalize ((((w.alloc (.cells #[.pointer (some ⟨R, 0, none⟩)] 30)).alloc (.map #[] 0)).alloc (.cells #[.map (some (w.heap.size + 1))] 108)).alloc (.cells #[(.func (.func 65) #[] #[.pointer (some ⟨w.heap.size, 0, none⟩), .pointer (some ⟨w.heap.size + 1 + 1, 0, none⟩), .pointer (some ⟨w.heap.size + 1 + 1 + 1, 0, none⟩)])] 109)) = w4 at k0 km k5 k6 hb ⊢
  have hRC := hide (show RchI w R gm w.heap.size (w.heap.size + 1 + 1) (w.heap.size + 1 + 1 + 1) (w.heap.size + 1) A l (List.replicate A.length false) l w4 from by
    refine ⟨hb, ⟨HW.out.below hb hRl hml, k0, k5, k6, by omega⟩, ?_, seen_start A l⟩
    rw [seenF_none, show (List.replicate A.length false).countP id = 0 by rw [List.countP_replicate]; rfl]
    exact km)
  clear k0 km k5 k6 hb
  have HLL := Lib.hid HR.out.1
  obtain ⟨b0, hb0⟩ : ∃ b0, b0 = w.heap.size := ⟨_, rfl⟩
  rw [← hb0] at hRC hRl hml ⊢
  obtain ⟨b6, hb6⟩ : ∃ b6, b6 = b0 + 1 + 1 + 1 := ⟨_, rfl⟩
  obtain ⟨b5, hb5⟩ : ∃ b5, b5 = b0 + 1 + 1 := ⟨_, rfl⟩
  obtain ⟨gs, hgs⟩ : ∃ gs, gs = b0 + 1 := ⟨_, rfl⟩
  rw [← hb6, ← hb5, ← hgs] at hRC
  rw [← hb6, ← hb5]
  have hgb : w.heap.size ≤ gs := by omega
  have hg5 : gs < b5 := by omega
  have hb5w : w.heap.size ≤ b5 + 1 := by omega
  clear hb6 hb5 hgs hb0
  go_loopw [15] (fun iv wr => ∃ i : Nat, i ≤ nf ∧ iv = .int .i64 i ∧ ∃ seen, Hid (RchI w R gm b0 b5 b6 gs A l seen (l.drop i) wr)) (fun iv _ => nf - (intOf iv).toNat)
  case atStart => exact ⟨0, Nat.zero_le _, rfl, _, by rw [List.drop_zero]; exact hRC⟩
  case round =>
    clear hRC
    obtain ⟨i, hi, rfl, seen, hR⟩ := hrel
    by_cases hlt : i < nf
    · obtain ⟨ad, u, e0, hbk, hu, hcl⟩ := HR.out.2.at_ (k := i) hlt
      have hil : i < l.length := by rw [HLL.out]; exact hlt
      rw [intsV_at hil] at hu
      cases hu
      subst e0
      have l0 := (hR.out.bel.cell (p := ad.add i) (by rw [block_of_add]; exact hbk)).trans hcl
      have hxI : I64 (l.getD i 0) := HI.out _ (List.mem_of_getElem? (getD_of hil))
      have c6 := hR.out.M.k6.cell 0
      have hdr : l.drop i = l.getD i 0 :: l.drop (i + 1) := by
        rw [List.drop_eq_getElem_cons hil, List.getD_eq_getElem?_getD, List.getElem?_eq_getElem hil]; rfl
      have HWK := hide (walk_any R gm b0 b5 b6 gs A l (24 - topA A (l.getD i 0)).toNat (l.getD i 0) wr seen (l.drop (i + 1)) (by omega) hxI hR.out.M hR.out.S (hR.out.I.mem (fun y hy => by rw [hdr] at hy; simp at hy ⊢; rcases hy with h | h <;> simp [h]) (fun y hy => by rw [hdr]; simp at hy ⊢; rcases hy with h | h <;> simp [h])))
      have HRB := hide hR.out
      clear hR hcl hdr
      generalize l.getD i 0 = x at l0 hxI HWK
      go_wp2_with fail
      refine (HWK.out).mono ?_
      rintro e w7 ⟨rfl, seen7, hs7, hi7, hf7⟩
      have HN := hide (show RchI w R gm b0 b5 b6 gs A l seen7 (l.drop (i + 1)) w7 from ⟨HRB.out.bel.trans (hf7.to_below HRB.out.bel.size (fun k hk e => by omega)), HRB.out.M.fr HRB.out.S hf7, hs7, hi7⟩)
      clear hs7 hi7 hf7 c6 l0
      go_wp2
      go_roundw
      case rel => exact ⟨i + 1, by omega, by go_num, seen7, HN⟩
      case measure => simp [intOf]; omega
    · obtain rfl : i = nf := by omega
      have hdn : l.drop i = [] := List.drop_eq_nil_of_le (by rw [HLL.out]; exact Nat.le_refl _)
      have hI := hR.out.I
      rw [hdn] at hI
      have HOUT := Lib.hid hI.out
      have hsl := hI.len
      have hroom := HW.out.room
      have HOU := hide (show RcoI w b5 gs seen 0 (.slice none 0 0) wr from ⟨hR.out.bel, hR.out.M.k5, hR.out.S, ownI_nil _ _⟩)
      clear hR hI hdn
      go_wp2
      go_loopw [9, 10] (fun vo iv wi => ∃ j : Nat, j ≤ A.length ∧ iv = .int .i64 ((j : Int) + 2) ∧ Hid (RcoI w b5 gs seen j vo wi)) (fun _ iv _ => A.length + 2 - (intOf iv).toNat)
      case atStart => exact ⟨0, Nat.zero_le _, rfl, HOU⟩
      case round =>
        clear HOU
        obtain ⟨j, hj, rfl, hO⟩ := hrel
        obtain ⟨A0, c0, e0⟩ := hO.out.own.len
        subst e0
        have a5 := hO.out.k5.cell 0
        have HSM := hide hO.out.S
        have hle := outL_le seen j
        have hxI : I64 ((j : Int) + 2) := by unfold I64; omega
        have hcs : seen.countP id ≤ 4000 := by
          have := List.countP_le_length (p := id) (l := seen)
          omega
        by_cases hgo : (outL seen j).length < seen.countP id
        · have hjA : j < A.length := by have := outL_go hgo; omega
          have hlb : decide ((outL seen j).length < seen.countP id) = true := decide_eq_true hgo
          have HN := Lib.hid (outL_succ seen j)
          by_cases hs : seen.getD j false = true
          · rw [if_pos hs] at HN
            have hsf : seenF seen ((j : Int) + 2) = true := by rw [seenF_k]; exact hs
            have HOA := hide (hO.out.own.below ((Below.refl wr.heap.size wr).alloc (Nat.le_refl _) (.cells #[.int .i64 ((j : Int) + 2)] 3)))
            have HBA := hide (hO.out.bel.alloc hO.out.bel.size (.cells #[.int .i64 ((j : Int) + 2)] 3))
            have HKA := hide (hO.out.k5.alloc (.cells #[.int .i64 ((j : Int) + 2)] 3))
            have HSA := hide (hO.out.S.same (Below.heap_alloc wr (.cells #[.int .i64 ((j : Int) + 2)] 3) _ hO.out.S.lt))
            have HRA := hide (blk_reads (zs := [(j : Int) + 2]) (Blk.new wr 3 #[.int .i64 ((j : Int) + 2)]))
            have HSZ := Lib.hid (show b5 + 1 ≤ (wr.alloc (.cells #[.int .i64 ((j : Int) + 2)] 3)).heap.size from HKA.out.lt)
            have HLT := hide (World.ownsRow.lt HOA.out)
            clear hs
            go_wp2_with (first
              | (at_len; refine lenS rfl _ 108 rfl Tryd.underlying108 rfl HSM.out ?_)
              | (at_lookup; refine lookS rfl _ _ 108 rfl Tryd.underlying108 rfl HSM.out _ rfl hxI ?_; rw [hsf])
              | (at_builtin; refine appI _ rfl _ _ 44 rfl (b5 + 1) Tryd.underlying44 _ (outL seen j) rfl HOA.out (wr.heap.size + 1) (some ⟨wr.heap.size, 0, none⟩) 1 1 [(j : Int) + 2] rfl HRA.out rfl (by omega) HSZ.out ?_; intro v9 w9 ho9 hg9 hor9; have HO9 := hide ho9; have HB9 := hide (HBA.out.grown hg9 HBA.out.size (fun k hk => Nat.le_trans hb5w (HLT.out k hk).1)); have HK9 := hide (HKA.out.grown hg9 (fun e => by have := (HLT.out b5 e.symm).1; omega)); have HS9 := hide (HSA.out.kept hg9 (fun e => by have := (HLT.out gs e.symm).1; omega)); clear ho9 hg9 hor9)
              | fail)
            go_roundw
            case rel => exact ⟨j + 1, by omega, by go_num, hide ⟨HB9.out, HK9.out, HS9.out, by rw [HN.out]; exact HO9.out⟩⟩
            case measure => simp [intOf]; omega
          · have hs' := Bool.eq_false_iff.2 hs
            rw [if_neg hs, List.append_nil] at HN
            have hsf : seenF seen ((j : Int) + 2) = false := by rw [seenF_k]; exact hs'
            clear hs hs'
            go_wp2_with (first
              | (at_len; refine lenS rfl _ 108 rfl Tryd.underlying108 rfl HSM.out ?_)
              | (at_lookup; refine lookS rfl _ _ 108 rfl Tryd.underlying108 rfl HSM.out _ rfl hxI ?_; rw [hsf])
              | fail)
            go_roundw
            case rel => exact ⟨j + 1, by omega, by go_num, hide ⟨hO.out.bel, hO.out.k5, hO.out.S, by rw [HN.out]; exact hO.out.own⟩⟩
            case measure => simp [intOf]; omega
        · have hlb : decide ((outL seen j).length < seen.countP id) = false := decide_eq_false hgo
          have HFI := Lib.hid (show outL seen j = reachL A l by
            rw [← HOUT.out, ← hsl]
            exact outL_stop (by omega) (by omega))
          go_wp2_with (first
            | (at_len; refine lenS rfl _ 108 rfl Tryd.underlying108 rfl HSM.out ?_)
            | fail)
          go_ret
          exact ⟨_, rfl, by rw [← HFI.out]; exact hO.out.own.mono hb5w, hO.out.bel⟩
end Go.Proofs.YtfbhmkpihmcegaaDoor
