/-
  The reference's once: adds a clause in form, if it isn't there.
-/
import Derived.Test.YtkkgdlfjblmbjaaGreatDoorTold
import Derived.Test.YtkkgdlfjblmbjaaGreatDoorElimPure
import Derived.Test.YtkkgdlfjblmbjaaGreatDoorRefForm
import Derived.Test.YtkkgdlfjblmbjaaGreatDoorProF
namespace Go.Proofs.YtkkgdlfjblmbjaaGreatDoor
open Go.RowKit

def OncePost (w0 : World) (T : Nat → Prop) (r : List (List Int)) (e : Ending) (w' : World) : Prop := ∃ (T' : Nat → Prop) (v : Value), e = .returned v ∧ ProF w0 T' v r w' ∧ ((∀ i, T i → w0.heap.size ≤ i) → ∀ i, T' i → w0.heap.size ≤ i)
theorem mem_take_succ {l : List (List Int)} {k : Nat} {d : List Int} (hk : k < l.length) (h : d ∉ l.take k) (h2 : d ≠ l.getD k []) : d ∉ l.take (k + 1) := by
  rw [take_snoc l k [] hk]
  intro hm
  rcases List.mem_append.1 hm with hm | hm
  · exact h hm
  · exact h2 (List.mem_singleton.1 hm)
structure OnceI (w1 : World) (l : List (List Int)) (d : List Int) (k : Nat) (w : World) : Prop where
  bel : Below w1.heap.size w1 w
  no : d ∉ l.take k

set_option maxRecDepth 100000 in
set_option maxHeartbeats 4000000 in
theorem once_any (w0 : World) (T : Nat → Prop) (v : Value) (l : List (List Int)) (A2 : Option Addr) (n2 c2 : Nat) (zs : List Int) (w : World) (hP : ProF w0 T v l w) (hG : GlobT w) (hr : rowsOk l) (hz : Ints w w.heap.size A2 n2 zs) (hzl : ∀ x ∈ zs, litOk x) (hl : l.length ≤ 100000000) :
    Calls Tryz.prog 12 #[v, .slice A2 n2 c2] w (OncePost w0 T (onceF l zs)) := by
  have HF := hide (refForm_any A2 n2 c2 zs w hz hzl)
  have HROW := hide (formF_row hzl)
  have HP := hide hP
  have HG := hide hG
  have HR := hide hr
  obtain ⟨A, c, rfl, hc⟩ := hP.own.form
  have HNEW := hide (show ∀ B, (∀ i, T i → w0.heap.size ≤ i) → ∀ i, (T i ∨ (w.heap.size ≤ i ∧ i < B)) → w0.heap.size ≤ i from fun B h i hi => by
    have := hP.bel.size
    rcases hi with hi | hi
    · exact h i hi
    · omega)
  have HAL := hide (onceF_always (l := l) (c := zs))
  have HTH := hide (fun d => onceF_there (l := l) (c := zs) (d := d))
  have HNW := hide (fun d => onceF_new (l := l) (c := zs) (d := d))
  clear hP hG hr hz hzl
  generalize onceF l zs = res at HAL HTH HNW
  generalize formF zs = r at HF HROW HAL HTH HNW
  obtain ⟨d, al⟩ := r
  obtain ⟨nl, HNL⟩ : ∃ nl, Hid (l.length = nl) := ⟨_, Lib.hid rfl⟩
  rw [HNL.out] at HP hc hl ⊢
  go_enter Tryz.func12, Tryz.ntmps12
  go_wp2_with fail
  refine (HF.out).mono ?_
  rintro e w1 ⟨vd, rfl, hod, hb1⟩
  have HP1 := hide (HP.out.grow hb1)
  have HG1 := hide (HG.out.below hb1)
  have HOD := hide hod
  rcases al with _ | _
  · obtain ⟨Ad, cd, rfl, hcd⟩ := HOD.out.form
    have HQ := hide (intsP_of_ints (D := fun i => T i ∨ (w.heap.size ≤ i ∧ i < w1.heap.size)) HOD.out.ints (fun hn ad e => by
      subst e
      exact .inr (HOD.out.lt ad.block rfl)))
    have HCD := hide hcd
    have HDI := hide HOD.out.ints
    have hd48 : d.length ≤ 1000 := HROW.out.2
    clear hod hb1 hcd HOD HP HG
    have HNT := hide (HNEW.out w1.heap.size)
    change Hid ((∀ i, T i → w0.heap.size ≤ i) → ∀ i, (fun i => T i ∨ (w.heap.size ≤ i ∧ i < w1.heap.size)) i → w0.heap.size ≤ i) at HNT
    generalize hT3 : (fun i => T i ∨ (w.heap.size ≤ i ∧ i < w1.heap.size)) = T3 at HP1 HQ HNT
    clear hT3
    generalize d.length = nd at HQ HCD HDI hd48 ⊢
    go_wp2
    go_loopw [17] (fun i wr => ∃ k : Nat, k ≤ nl ∧ i = .int .i64 k ∧ Hid (OnceI w1 l d k wr)) (fun i _ => nl - (intOf i).toNat)
    case atStart => exact ⟨0, Nat.zero_le _, rfl, hide ⟨Below.refl _ _, by simp⟩⟩
    case round =>
      obtain ⟨k, hk, rfl, hO⟩ := hrel
      have HPR := hide (HP1.out.below hO.out.bel)
      by_cases hlt : k < nl
      · obtain ⟨ad, c', A', n', c'', e, _, hcc, hc3, hic⟩ := HPR.out.own.at_ (k := k) (by rw [HNL.out]; exact hlt)
        cases e
        have HIC := hide (hic.ints HPR.out.lT)
        have hn' : n' ≤ 1000 := by have := (HR.out.at_ k).2; rw [HIC.out.len] at this; exact this
        have HS := hide (sameClause_any Ad A' nd cd n' c'' d (l.getD k []) wr (HG1.out.below hO.out.bel) ((HDI.out.below hO.out.bel).more hO.out.bel.size) HIC.out hd48 hn')
        clear hic
        by_cases hdk : d = l.getD k []
        · rw [decide_eq_true hdk] at HS
          have HE := Lib.hid (HTH.out d rfl (by
            rw [hdk, List.getD_eq_getElem?_getD, List.getElem?_eq_getElem (by rw [HNL.out]; exact hlt)]
            exact List.getElem_mem _))
          go_wp2_with fail
          refine (HS.out).mono ?_
          rintro e w3 ⟨rfl, hb3⟩
          go_wp2
          go_ret
          exact ⟨T3, _, rfl, (by rw [HE.out]; exact HPR.out.below hb3), HNT.out⟩
        · rw [decide_eq_false hdk] at HS
          have HNO := hide (mem_take_succ (by rw [HNL.out]; exact hlt) hO.out.no hdk)
          go_wp2_with fail
          refine (HS.out).mono ?_
          rintro e w3 ⟨rfl, hb3⟩
          have HB3 := hide (hO.out.bel.trans (hb3.mono hO.out.bel.size))
          clear hb3
          go_wp2
          go_roundw
          case rel => exact ⟨k + 1, by omega, by go_num, hide ⟨HB3.out, HNO.out⟩⟩
          case measure => simp [intOf]; omega
      · obtain rfl : k = nl := by omega
        have hno := hO.out.no
        rw [List.take_of_length_le (Nat.le_of_eq HNL.out)] at hno
        have HE := Lib.hid (HNW.out d rfl hno)
        have HP4 := hide (HPR.out.below ((Below.refl wr.heap.size wr).alloc (Nat.le_refl _) (.cells #[.slice Ad nd cd] 39)))
        have HQ4 := hide ((HQ.out.keep (Keep.of_below HP1.out.lT hO.out.bel)).keep (Keep.of_below HPR.out.lT ((Below.refl wr.heap.size wr).alloc (Nat.le_refl _) (.cells #[.slice Ad nd cd] 39))))
        have HC4 := Lib.hid (show (wr.alloc (.cells #[.slice Ad nd cd] 39)).cell? ⟨wr.heap.size, 0, none⟩ = some (.slice Ad nd cd) by simp)
        go_wp2_with (at_builtin; refine appC1H _ rfl _ _ _ rfl w0.heap.size T3 Tryz.underlying22 _ l rfl HP4.out.own wr.heap.size 1 rfl Ad nd cd d HC4.out HCD.out HQ4.out (by rw [HNL.out]; omega) HP4.out.bel.size HP4.out.TS ?_)
        intro v5 w5 ho5 hg5 hor5
        have HP5 := hide (HP4.out.put ho5 hg5 (by rw [World.size_alloc']; exact hor5))
        clear ho5 hg5 hor5
        refine ⟨?_⟩
        go_wp2
        go_ret
        exact ⟨T3, _, rfl, (by rw [HE.out]; exact HP5.out), HNT.out⟩
  · have HE := Lib.hid (HAL.out rfl)
    go_wp2
    go_ret
    exact ⟨_, _, rfl, (by rw [HE.out]; exact HP1.out), HNEW.out w1.heap.size⟩
end Go.Proofs.YtkkgdlfjblmbjaaGreatDoor
