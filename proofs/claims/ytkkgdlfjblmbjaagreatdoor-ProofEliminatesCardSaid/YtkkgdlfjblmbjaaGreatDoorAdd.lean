/-
  proof.Eliminate's closures: a clause is added in form, if it isn't there.
-/
import Derived.Test.YtkkgdlfjblmbjaaGreatDoorElimPure
import Derived.Test.YtkkgdlfjblmbjaaGreatDoorFormS
import Derived.Test.YtkkgdlfjblmbjaaGreatDoorProF
import Derived.Test.YtkkgdlfjblmbjaaGreatDoorOnce
namespace Go.Proofs.YtkkgdlfjblmbjaaGreatDoor
open Go.RowKit

theorem take_ne {a b : List Int} {k : Nat} (h1 : k < a.length) (h2 : k < b.length) (h : a.getD k 0 ≠ b.getD k 0) : a ≠ b := fun e => h (by rw [e])
theorem take_all_eq {a b : List Int} {n : Nat} (ha : a.length = n) (hb : b.length = n) (h : a.take n = b.take n) : a = b := by
  rw [List.take_of_length_le (Nat.le_of_eq ha), List.take_of_length_le (Nat.le_of_eq hb)] at h; exact h
structure EqI (w : World) (a b : List Int) (k : Nat) (wr : World) : Prop where
  bel : Below w.heap.size w wr
  eq : a.take k = b.take k
set_option maxHeartbeats 1000000 in
theorem equalC_any (A A2 : Option Addr) (n c n2 c2 : Nat) (a b : List Int) (w : World) (h : Ints w w.heap.size A n a) (h2 : Ints w w.heap.size A2 n2 b) (hn : n ≤ 1000) (hn2 : n2 ≤ 1000) :
    Calls Tryz.prog 20 #[.slice A n c, .slice A2 n2 c2] w (SamePost w (decide (a = b))) := by
  have HI := hide h
  have HJ := hide h2
  have HL := Lib.hid h.len
  have HL2 := Lib.hid h2.len
  clear h h2
  by_cases hlen : n = n2
  · subst hlen
    go_enter Tryz.func20, Tryz.ntmps20
    go_wp2
    go_loopw [13] (fun i wr => ∃ k : Nat, k ≤ n ∧ i = .int .i64 k ∧ Hid (EqI w a b k wr)) (fun i _ => n - (intOf i).toNat)
    case atStart => exact ⟨0, Nat.zero_le _, rfl, hide ⟨Below.refl _ _, by simp⟩⟩
    case round =>
      obtain ⟨k, hk, rfl, hE⟩ := hrel
      by_cases hlt : k < n
      · obtain ⟨ad, rfl, hb1, hc1⟩ := HI.out.at_ hlt
        obtain ⟨ad', rfl, hb2, hc2⟩ := HJ.out.at_ hlt
        have e1 : wr.cell? (ad.add k) = some (.int .i64 (a.getD k 0)) := (hE.out.bel.cell (by rw [block_of_add]; exact hb1)).trans hc1
        have e2 : wr.cell? (ad'.add k) = some (.int .i64 (b.getD k 0)) := (hE.out.bel.cell (by rw [block_of_add]; exact hb2)).trans hc2
        have HKA := Lib.hid (show k < a.length by rw [HL.out]; exact hlt)
        have HKB := Lib.hid (show k < b.length by rw [HL2.out]; exact hlt)
        clear hc1 hc2
        have hlt0 : (0 : Int) ≤ (k : Int) := by omega
        have hlt1 : (k : Int) < (n : Int) := by omega
        by_cases hxy : a.getD k 0 = b.getD k 0
        · have HT := Lib.hid (show a.take (k + 1) = b.take (k + 1) by rw [take_snoc a k 0 HKA.out, take_snoc b k 0 HKB.out, hE.out.eq, hxy])
          rw [← hxy] at e2
          clear hxy
          generalize a.getD k 0 = x at e1 e2
          go_wp2
          go_quiet (fail)
          go_wp2
          go_roundw
          case rel => exact ⟨k + 1, by omega, by go_num, hide ⟨below_drewN hE.out.bel _, HT.out⟩⟩
          case measure => simp [intOf]; omega
        · have HN := hide (take_ne HKA.out HKB.out hxy)
          have hb : (a.getD k 0 != b.getD k 0) = true := by simpa using hxy
          generalize a.getD k 0 = x at e1 hb hxy
          generalize b.getD k 0 = y at e2 hb hxy
          go_wp2
          go_quiet (fail)
          go_wp2
          go_ret
          exact ⟨ret_bool (by rw [decide_eq_false HN.out]), below_drewN hE.out.bel _⟩
      · obtain rfl : k = n := by omega
        have HT := Lib.hid (take_all_eq HL.out HL2.out hE.out.eq)
        go_wp2
        go_ret
        exact ⟨ret_bool (by rw [decide_eq_true HT.out]), hE.out.bel⟩
  · have HN := hide (show a ≠ b from fun e => hlen (by rw [← HL.out, ← HL2.out, e]))
    go_enter Tryz.func20, Tryz.ntmps20
    go_wp2
    go_ret
    exact ⟨ret_bool (by rw [decide_eq_false HN.out]), Below.refl _ _⟩

theorem eq1_any (A A2 : Option Addr) (n c n2 c2 bx : Nat) (d zs : List Int) (w : World) (hc : w.cell? ⟨bx, 0, none⟩ = some (.slice A n c)) (h : Ints w w.heap.size A n d) (h2 : Ints w w.heap.size A2 n2 zs) (hn : n ≤ 1000) (hn2 : n2 ≤ 1000) :
    Calls Tryz.prog 19 #[.slice A2 n2 c2, .pointer (some ⟨bx, 0, none⟩)] w (SamePost w (decide (d = zs))) := by
  have HE := hide (equalC_any A A2 n c n2 c2 d zs w h h2 hn hn2)
  generalize decide (d = zs) = r at HE
  clear h h2
  go_enter Tryz.func19, Tryz.ntmps19
  go_wp2_with fail
  refine (HE.out).mono ?_
  rintro e w1 ⟨rfl, hb1⟩
  go_wp2
  go_ret
  exact ⟨rfl, hb1⟩
theorem enters_eq1 : ∀ args w, (callFunc 19 args).run Tryz.prog w = .ok (.enter 19 args) w := enters_of Tryz.func19 (by kernel_rfl) rfl

def IdxP (w : World) (b : Prop) (e : Ending) (w' : World) : Prop := ∃ r : Int, e = .returned (.int .i64 r) ∧ (b → 0 ≤ r) ∧ (¬ b → r < 0) ∧ Below w.heap.size w w'
set_option maxHeartbeats 2000000 in
theorem idxCl_any (Ad A : Option Addr) (nd cd n c bx : Nat) (d : List Int) (ls : List (List Int)) (w : World) (hc : w.cell? ⟨bx, 0, none⟩ = some (.slice Ad nd cd)) (h : Ints w w.heap.size Ad nd d) (hcl : Cls w w.heap.size A n ls) (hr : rowsOk ls) (hnd : nd ≤ 1000) :
    Calls Tryz.prog 32 #[.slice A n c, .func (.func 19) #[] #[.pointer (some ⟨bx, 0, none⟩)]] w (IdxP w (d ∈ ls)) := by
  have hn := hcl.le
  have HCL := hide hcl
  have HLL := Lib.hid hcl.len
  have HI := hide h
  have HR := hide hr
  have hlt := lt_of_cell hc
  have HCB := Lib.hid hc
  have eg := enters_eq1
  clear hcl h hr hc
  go_enter Tryz.func32, Tryz.ntmps32
  go_wp2
  go_loopw [5, 8] (fun _ i wr => ∃ k : Nat, k ≤ n ∧ i = .int .i64 k ∧ Hid (OnceI w ls d k wr)) (fun _ i _ => n - (intOf i).toNat)
  case atStart => exact ⟨0, Nat.zero_le _, rfl, hide ⟨Below.refl _ _, by simp⟩⟩
  case round =>
    obtain ⟨k, hk, rfl, hO⟩ := hrel
    by_cases hkn : k < n
    · obtain ⟨ad, A', n', c', rfl, hb, hc, hcc, hi⟩ := HCL.out.at_ hkn
      have hc2 : wr.cell? (ad.add k) = some (.slice A' n' c') := (hO.out.bel.cell (by rw [block_of_add]; exact hb)).trans hc
      have hn' : n' ≤ 1000 := by have := (HR.out.at_ k).2; rw [hi.len] at this; exact this
      have HE := hide (eq1_any Ad A' nd cd n' c' bx d (ls.getD k []) wr ((hO.out.bel.cell hlt).trans HCB.out) ((HI.out.below hO.out.bel).more hO.out.bel.size) ((hi.below hO.out.bel).more hO.out.bel.size) hnd hn')
      have HKL := Lib.hid (show k < ls.length by rw [HLL.out]; exact hkn)
      clear hc hi
      by_cases hdk : d = ls.getD k []
      · rw [decide_eq_true hdk] at HE
        have HM := hide (show d ∈ ls by
          rw [hdk, List.getD_eq_getElem?_getD, List.getElem?_eq_getElem HKL.out]; exact List.getElem_mem _)
        go_wp2_with fail
        refine (HE.out).mono ?_
        rintro e w3 ⟨rfl, hb3⟩
        go_wp2
        go_ret
        exact ⟨k, rfl, fun _ => by omega, fun h => absurd HM.out h, hO.out.bel.trans (hb3.mono hO.out.bel.size)⟩
      · rw [decide_eq_false hdk] at HE
        have HNO := hide (mem_take_succ HKL.out hO.out.no hdk)
        go_wp2_with fail
        refine (HE.out).mono ?_
        rintro e w3 ⟨rfl, hb3⟩
        have HB3 := hide (hO.out.bel.trans (hb3.mono hO.out.bel.size))
        clear hb3
        go_wp2
        go_roundw
        case rel => exact ⟨k + 1, by omega, by go_num, hide ⟨HB3.out, HNO.out⟩⟩
        case measure => simp [intOf]; omega
    · obtain rfl : k = n := by omega
      have hno := hO.out.no
      rw [List.take_of_length_le (Nat.le_of_eq HLL.out)] at hno
      have HNO := hide hno
      go_wp2
      go_ret
      exact ⟨-1, rfl, fun h => absurd h HNO.out, fun _ => by omega, hO.out.bel⟩

theorem contCl_any (Ad A : Option Addr) (nd cd n c bx : Nat) (d : List Int) (ls : List (List Int)) (w : World) (hc : w.cell? ⟨bx, 0, none⟩ = some (.slice Ad nd cd)) (h : Ints w w.heap.size Ad nd d) (hcl : Cls w w.heap.size A n ls) (hr : rowsOk ls) (hnd : nd ≤ 1000) :
    Calls Tryz.prog 18 #[.slice A n c, .func (.func 19) #[] #[.pointer (some ⟨bx, 0, none⟩)]] w (SamePost w (decide (d ∈ ls))) := by
  have HX := hide (idxCl_any Ad A nd cd n c bx d ls w hc h hcl hr hnd)
  clear hc h hcl hr
  go_enter Tryz.func18, Tryz.ntmps18
  go_wp2_with fail
  refine (HX.out).mono ?_
  rintro e w1 ⟨r, rfl, h1, h2, hb1⟩
  by_cases hm : d ∈ ls
  · have hr := h1 hm
    go_wp2
    go_ret
    exact ⟨ret_bool (by rw [decide_eq_true hm]; (try simp); (try omega)), hb1⟩
  · have hr := h2 hm
    have hr' : ¬ 0 ≤ r := by omega
    go_wp2
    go_ret
    exact ⟨ret_bool (by rw [decide_eq_false hm]; (try simp); (try omega)), hb1⟩

/-- The variable in block b holds a row of the call's own. -/
structure AddM (w0 : World) (b : Nat) (T : Nat → Prop) (va : Value) (all : List (List Int)) (w : World) : Prop where
  own : OwnC w w0.heap.size T va all
  blk : Blk w b 22 #[va]
  TS : ∀ i, T i → i < w.heap.size ∧ va.ownBlock ≠ some i ∧ i ≠ b
  gr : w0.grownBy w (some b)
  hb : b < w0.heap.size
section
variable {w0 w w' : World} {b : Nat} {T : Nat → Prop} {va : Value} {all : List (List Int)}
theorem grown_below {row : Option Nat} (h : w0.grownBy w row) (hb : Below w.heap.size w w') : w0.grownBy w' row :=
  ⟨hb.os.trans h.os, hb.tape.trans h.tape, hb.output.trans h.output, Nat.le_trans h.size hb.size, fun i hi hne => (hb.block i (Nat.lt_of_lt_of_le hi h.size)).trans (h.block i hi hne)⟩
theorem AddM.lT (h : AddM w0 b T va all w) : ∀ i, T i → i < w.heap.size := fun i hi => (h.TS i hi).1
theorem AddM.below (h : AddM w0 b T va all w) (hb : Below w.heap.size w w') : AddM w0 b T va all w' :=
  ⟨h.own.below hb h.lT, h.blk.below hb h.blk.lt, fun i hi => ⟨Nat.lt_of_lt_of_le (h.lT i hi) hb.size, (h.TS i hi).2⟩, grown_below h.gr hb, h.hb⟩
theorem AddM.grow (h : AddM w0 b T va all w) (hb : Below w.heap.size w w') : AddM w0 b (fun i => T i ∨ (w.heap.size ≤ i ∧ i < w'.heap.size)) va all w' := by
  have h' := h.below hb
  refine ⟨h'.own.mono fun i hi => .inl hi, h'.blk, fun i hi => ?_, h'.gr, h'.hb⟩
  rcases hi with hi | hi
  · exact h'.TS i hi
  · exact ⟨hi.2, fun e => by have := h.own.lt i e; omega, by have := h.blk.lt; omega⟩
theorem AddM.put (h : AddM w0 b T va all w) {va' : Value} {all' : List (List Int)} (ho : OwnC w' w0.heap.size T va' all') (hg : w.grownBy w' va.ownBlock) (hor : va'.ownBlock = va.ownBlock ∨ va'.ownBlock = some w.heap.size) : AddM w0 b T va' all' (w'.setCell ⟨b, 0, none⟩ va') := by
  have hbk := h.blk.grown hg (fun e => h.own.ne_blk h.blk (by decide) e.symm)
  refine ⟨ho.kept (row := some b) (only_setCell (World.grownBy.refl w' _) (.inl rfl) va') (.inr (ho.ne_blk hbk (by decide))) (fun i hi => ⟨Nat.lt_of_lt_of_le (h.lT i hi) hg.size, fun e => (h.TS i hi).2.2 (by cases e; rfl)⟩), hbk.set_ 0 va', fun i hi => ?_, ?_, h.hb⟩
  · exact ⟨by rw [size_setCell]; exact Nat.lt_of_lt_of_le (h.lT i hi) hg.size, newV h.lT (fun i hi => (h.TS i hi).2.1) hor i hi, (h.TS i hi).2.2⟩
  · have hgr : w0.grownBy w' (some b) := ⟨hg.os.trans h.gr.os, hg.tape.trans h.gr.tape, hg.output.trans h.gr.output, Nat.le_trans h.gr.size hg.size, fun i hi hne => (hg.block i (Nat.lt_of_lt_of_le hi h.gr.size) (fun e => by have := (h.own.lt i e.symm).1; omega)).trans (h.gr.block i hi hne)⟩
    exact only_setCell hgr (.inl rfl) va'
end
def AddPost (w0 : World) (b : Nat) (T : Nat → Prop) (r : List (List Int)) (e : Ending) (w' : World) : Prop :=
  e = .returned (.tuple #[]) ∧ ∃ (T' : Nat → Prop) (va' : Value), AddM w0 b T' va' r w' ∧ ((∀ i, T i → w0.heap.size ≤ i) → ∀ i, T' i → w0.heap.size ≤ i)

set_option maxRecDepth 100000 in
set_option maxHeartbeats 4000000 in
theorem add_any (w0 : World) (b : Nat) (T : Nat → Prop) (va : Value) (all : List (List Int)) (A : Option Addr) (n c : Nat) (zs : List Int) (w : World) (hM : AddM w0 b T va all w) (hr : rowsOk all) (hz : Ints w w.heap.size A n zs) (hzl : ∀ x ∈ zs, litOk x) (hn : n ≤ 1000) (hl : all.length ≤ 100000000) :
    Calls Tryz.prog 16 #[.slice A n c, .pointer (some ⟨b, 0, none⟩)] w (AddPost w0 b T (onceF all zs)) := by
  have HBX := hide ((Below.refl w.heap.size w).alloc (Nat.le_refl _) (.cells #[.slice A n c] 39))
  have HBK := hide (Blk.new w 39 #[.slice A n c])
  have HF := hide (proofForm_any A n c zs (w.alloc (.cells #[.slice A n c] 39)) ((hz.below HBX.out).more HBX.out.size) hzl (by omega))
  have HROW := hide (formF_row hzl)
  have HM := hide hM
  have HR := hide hr
  obtain ⟨Av, cv, rfl, hcv⟩ := hM.own.form
  have HNEW := hide (show ∀ B, (∀ i, T i → w0.heap.size ≤ i) → ∀ i, (T i ∨ (w.heap.size ≤ i ∧ i < B)) → w0.heap.size ≤ i from fun B h i hi => by
    have := hM.gr.size
    rcases hi with hi | hi
    · exact h i hi
    · omega)
  have HAL := hide (onceF_always (l := all) (c := zs))
  have HTH := hide (fun d => onceF_there (l := all) (c := zs) (d := d))
  have HNW := hide (fun d => onceF_new (l := all) (c := zs) (d := d))
  clear hM hr hz hzl
  generalize onceF all zs = res at HAL HTH HNW
  generalize formF zs = r at HF HROW HAL HTH HNW
  obtain ⟨d, al⟩ := r
  obtain ⟨nl, HNL⟩ : ∃ nl, Hid (all.length = nl) := ⟨_, Lib.hid rfl⟩
  rw [HNL.out] at HM hl
  have a0 := HBK.out.cell 0
  go_enter Tryz.func16, Tryz.ntmps16
  go_wp2_with fail
  refine (HF.out).mono ?_
  rintro e w2 ⟨vd, rfl, hod, hb2⟩
  have HK2 := hide (HBK.out.below hb2 HBK.out.lt)
  have hbx : w.heap.size < (w.alloc (.cells #[.slice A n c] 39)).heap.size := by simp
  have b0 := HK2.out.cell 0
  have b1 := HK2.out.frozen 0
  obtain ⟨Ad, cd, rfl, hcd⟩ := hod.form
  have HB3 := hide ((HBX.out.trans (hb2.mono HBX.out.size)).setCell (p := ⟨w.heap.size, 0, none⟩) (Nat.le_refl _) (.slice Ad d.length cd))
  have HK3 := hide (HK2.out.set_ 0 (.slice Ad d.length cd))
  have HO3 := hide (show Own (w2.setCell ⟨w.heap.size, 0, none⟩ (.slice Ad d.length cd)) w.heap.size (.slice Ad d.length cd) d from (hod.kept (row := some w.heap.size) (only_setCell (World.grownBy.refl w2 _) (.inl rfl) _) (.inr fun e => by have := (hod.lt _ e).1; simp at this; omega)).more (by simp))
  have HM3 := hide (HM.out.grow HB3.out)
  have HCD := hide hcd
  have hd48 : d.length ≤ 1000 := HROW.out.2
  clear a0 hod hb2 hcd HM
  rcases al with _ | _
  · have HQ := hide (intsP_of_ints (D := fun i => T i ∨ (w.heap.size ≤ i ∧ i < (w2.setCell ⟨w.heap.size, 0, none⟩ (.slice Ad d.length cd)).heap.size)) HO3.out.ints (fun hn ad e => by
      subst e
      exact .inr (HO3.out.lt ad.block rfl)))
    have HNT := hide (HNEW.out (w2.setCell ⟨w.heap.size, 0, none⟩ (.slice Ad d.length cd)).heap.size)
    change Hid ((∀ i, T i → w0.heap.size ≤ i) → ∀ i, (fun i => T i ∨ (w.heap.size ≤ i ∧ i < (w2.setCell ⟨w.heap.size, 0, none⟩ (.slice Ad d.length cd)).heap.size)) i → w0.heap.size ≤ i) at HNT
    generalize hT3 : (fun i => T i ∨ (w.heap.size ≤ i ∧ i < (w2.setCell ⟨w.heap.size, 0, none⟩ (.slice Ad d.length cd)).heap.size)) = T3 at HM3 HQ HNT
    clear hT3
    have HDI := hide HO3.out.ints
    have HNA := hide (fun d' h => HNW.out d' h)
    generalize d.length = nd at HQ HCD HDI hd48 HK3 HM3 HB3 HO3 ⊢
    have HCN := hide (contCl_any Ad Av nd cd nl cv w.heap.size d all (w2.setCell ⟨w.heap.size, 0, none⟩ (.slice Ad nd cd)) (HK3.out.cell 0) HDI.out (HM3.out.own.cls HM3.out.lT) HR.out hd48)
    have m0 := HM3.out.blk.cell 0
    by_cases hm : d ∈ all
    · have HE := Lib.hid (HTH.out d rfl hm)
      rw [decide_eq_true hm] at HCN
      clear hm
      go_wp2_with fail
      refine (HCN.out).mono ?_
      rintro e w4 ⟨rfl, hb4⟩
      go_wp2
      (try simp only [Exit.inBlock, Exit.then]); refine bodyPost_ret (results_none rfl _ _ _) rfl ?_
      exact ⟨rfl, T3, _, by rw [HE.out]; exact HM3.out.below hb4, HNT.out⟩
    · have HE := Lib.hid (HNW.out d rfl hm)
      rw [decide_eq_false hm] at HCN
      clear hm
      go_wp2_with fail
      refine (HCN.out).mono ?_
      rintro e w4 ⟨rfl, hb4⟩
      have HM4 := hide (HM3.out.below hb4)
      have HQ4 := hide (HQ.out.keep (Keep.of_below HM3.out.lT hb4))
      have c0 := (HK3.out.below hb4 HK3.out.lt).cell 0
      have m4 := HM4.out.blk.cell 0
      clear hb4 HCN b0 b1 m0
      generalize (w2.setCell ⟨w.heap.size, 0, none⟩ (.slice Ad nd cd)) = w3 at *
      have HM5 := hide (HM4.out.below ((Below.refl w4.heap.size w4).alloc (Nat.le_refl _) (.cells #[.slice Ad nd cd] 39)))
      have HQ5 := hide (HQ4.out.keep (Keep.of_below HM4.out.lT ((Below.refl w4.heap.size w4).alloc (Nat.le_refl _) (.cells #[.slice Ad nd cd] 39))))
      have HC5 := Lib.hid (show (w4.alloc (.cells #[.slice Ad nd cd] 39)).cell? ⟨w4.heap.size, 0, none⟩ = some (.slice Ad nd cd) by simp)
      have hbs : w0.heap.size ≤ (w4.alloc (.cells #[.slice Ad nd cd] 39)).heap.size := HM5.out.gr.size
      have HBS := Lib.hid hbs
      clear hbs
      go_wp2_with (at_builtin; refine appC1H _ rfl _ _ _ rfl w0.heap.size T3 Tryz.underlying22 _ all rfl HM5.out.own w4.heap.size 1 rfl Ad nd cd d HC5.out HCD.out HQ5.out (by rw [HNL.out]; omega) HBS.out (fun i hi => ⟨(HM5.out.TS i hi).1, (HM5.out.TS i hi).2.1⟩) ?_)
      intro v5 w5 ho5 hg5 hor5
      have hbo := HM5.out.blk.grown hg5 (fun e => HM5.out.own.ne_blk HM5.out.blk (by decide) e.symm)
      have x0 := hbo.cell 0
      have x1 := hbo.frozen 0
      have HM6 := hide (HM5.out.put ho5 hg5 (by rw [World.size_alloc']; exact hor5))
      obtain ⟨A5, c5, rfl, _⟩ := ho5.form
      clear hbo ho5 hg5 hor5
      generalize (all ++ [d]).length = n5 at HM6 ⊢
      refine ⟨?_⟩
      go_wp2
      (try simp only [Exit.inBlock, Exit.then]); refine bodyPost_ret (results_none rfl _ _ _) rfl ?_
      exact ⟨rfl, T3, _, by rw [HE.out]; exact HM6.out, HNT.out⟩
  · have HE := Lib.hid (HAL.out rfl)
    have HNT := hide (HNEW.out (w2.setCell ⟨w.heap.size, 0, none⟩ (.slice Ad d.length cd)).heap.size)
    generalize d.length = nd at HM3 HB3 HNT ⊢
    go_wp2
    (try simp only [Exit.inBlock, Exit.then]); refine bodyPost_ret (results_none rfl _ _ _) rfl ?_
    exact ⟨rfl, _, _, by rw [HE.out]; exact HM3.out, HNT.out⟩
end Go.Proofs.YtkkgdlfjblmbjaaGreatDoor
