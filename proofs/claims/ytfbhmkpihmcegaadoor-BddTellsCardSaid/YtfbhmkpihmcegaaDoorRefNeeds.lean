/-
  The document's Needs.
-/
import Derived.Test.YtfbhmkpihmcegaaDoorSizePure
import Derived.Test.YtfbhmkpihmcegaaDoorBddNeeds
namespace Go.Proofs.YtfbhmkpihmcegaaDoor
open Go.RowKit

noncomputable def docNeeds (t : List Bool) (n : Nat) : List Int := ((List.range n).filter fun v => needB t v).map fun v : Nat => (v : Int)
theorem docN_succ (t : List Bool) (k : Nat) : docNeeds t (k + 1) = docNeeds t k ++ (if needB t k then [(k : Int)] else []) := by
  unfold docNeeds
  rw [List.range_succ, List.filter_append, List.map_append]
  congr 1
  rw [List.filter_cons]
  split <;> simp
theorem docN_le (t : List Bool) (k : Nat) : (docNeeds t k).length ≤ k := by
  unfold docNeeds
  rw [List.length_map]
  exact Nat.le_trans (List.length_filter_le ..) (by rw [List.length_range]; exact Nat.le_refl _)
theorem need_yes {t : List Bool} {v i : Nat} (hi : i < t.length) (h : t.getD i false ≠ t.getD (flipN i v) false) : needB t v = true := by
  unfold needB
  rw [List.any_eq_true]
  exact ⟨i, List.mem_range.2 hi, by simpa using h⟩
theorem need_no {t : List Bool} {v : Nat} (h : ∀ i, i < t.length → t.getD i false = t.getD (flipN i v) false) : needB t v = false := by
  unfold needB
  rw [List.any_eq_false]
  intro i hi
  rw [h i (List.mem_range.1 hi), bne_self_eq_false]
  exact Bool.false_ne_true
structure DnI (w : World) (t : List Bool) (k : Nat) (vo : Value) (wr : World) : Prop where
  bel : Below w.heap.size w wr
  own : OwnI wr w.heap.size vo (docNeeds t k)
theorem DnI.drewN {w wr : World} {t : List Bool} {k : Nat} {v : Value} (h : DnI w t k v wr) (m : Nat) : DnI w t k v (wr.drewN m) := ⟨below_drewN h.bel m, h.own⟩
theorem xorB : ∀ jv, jv < 6 → ∀ k, k < 64 → bits BinOp.xor IntKind.i64 ((k : Nat) : Int) ((2 ^ jv : Nat) : Int) = ((flipN k jv : Nat) : Int) := by decide +kernel
def RefNeedsP (w : World) (t : List Bool) (vn : Nat) (e : Ending) (w' : World) : Prop := ∃ v, e = .returned v ∧ DnI w t vn v w'
set_option maxRecDepth 100000 in
set_option maxHeartbeats 4000000 in
theorem refNeeds_any (sz vn p : Nat) (t : List Bool) (w : World) (h : Blk w p 4 (boolArr t)) (ht : t.length = sz) (hs : 2 ^ vn = sz) (h6 : vn ≤ 6) :
    Calls Tryd.prog 57 #[tabV sz p, .int .i64 (vn : Int)] w (RefNeedsP w t vn) := by
  have hs64 : sz ≤ 64 := by rw [← hs]; exact Nat.le_trans (Nat.pow_le_pow_right (by omega) h6) (by decide)
  have HK := hide h
  have HSZ := Lib.hid hs
  have HO := hide (show DnI w t 0 (.slice none 0 0) w from ⟨Below.refl _ _, ownI_nil _ _⟩)
  clear h hs
  unfold tabV
  go_enter Tryd.func57, Tryd.ntmps57
  go_wp2
  go_loopw [5, 9] (fun vo iv wr => ∃ k : Nat, k ≤ vn ∧ iv = .int .i64 k ∧ Hid (DnI w t k vo wr)) (fun _ iv _ => vn - (intOf iv).toNat)
  case atStart => exact ⟨0, Nat.zero_le _, rfl, HO⟩
  case round =>
    clear HO
    obtain ⟨k, hk, rfl, hI⟩ := hrel
    by_cases hlt : k < vn
    · have hkI : (k : Int) < (vn : Int) := by omega
      have HSU := Lib.hid (docN_succ t k)
      have hle := docN_le t k
      go_wp2
      go_loopw [5, 14] (fun vo iv wr2 => ∃ i : Nat, i ≤ sz ∧ iv = .int .i64 i ∧ (∀ j, j < i → t.getD j false = t.getD (flipN j k) false) ∧ Hid (DnI w t k vo wr2)) (fun _ iv _ => sz - (intOf iv).toNat)
      case atStart => exact ⟨0, Nat.zero_le _, rfl, fun j hj => absurd hj (Nat.not_lt_zero j), hI⟩
      case round =>
        clear hI
        obtain ⟨i, hi, rfl, hE, HI2⟩ := hrel
        have HE := Lib.hid hE
        clear hE
        have HT := hide (HK.out.below HI2.out.bel HK.out.lt)
        by_cases hil : i < sz
        · have hiI : (i : Int) < (sz : Int) := by omega
          have hk6 : k < 6 := by omega
          have hi64 : i < 64 := by omega
          have hmin : min k 64 = k := by omega
          have hpw := powB k hk6
          have hpW := powW k hk6
          have hxo := xorB k hk6 i hi64
          have hkn := flip_lt (show i < 2 ^ vn by rw [HSZ.out]; exact hil) hlt
          rw [HSZ.out] at hkn
          have c1 := (HT.out.cell i).trans (boolArr_at (by omega))
          have c2 := (HT.out.cell (flipN i k)).trans (boolArr_at (by omega))
          have hcase : t.getD i false = t.getD (flipN i k) false ∨ t.getD (flipN i k) false = !(t.getD i false) := by
            cases t.getD i false <;> cases t.getD (flipN i k) false <;> simp
          rcases hcase with hx | hx
          · have HE2 := Lib.hid (show ∀ j, j < i + 1 → t.getD j false = t.getD (flipN j k) false from fun j hj => by
              rcases Nat.lt_or_ge j i with h | h
              · exact HE.out j h
              · rw [show j = i by omega]; exact hx)
            rw [← hx] at c2
            clear hx HE
            generalize t.getD i false = b at c1 c2
            generalize flipN i k = kn at hxo hkn c2
            have hknI : (kn : Int) < (sz : Int) := by omega
            generalize hpj : 2 ^ k = pj at hpw hpW hxo
            clear hpj
            go_wp2
            go_quiet (fail)
            go_wp2
            go_roundw
            case rel => exact ⟨i + 1, by omega, by go_num, HE2.out, hide (HI2.out.drewN nq)⟩
            case measure => simp [intOf]; omega
          · have HY := Lib.hid (need_yes (t := t) (v := k) (i := i) (by omega) (by rw [hx]; cases t.getD i false <;> simp))
            rw [hx] at c2
            clear hx HE
            generalize t.getD i false = b at c1 c2
            generalize flipN i k = kn at hxo hkn c2
            have hknI : (kn : Int) < (sz : Int) := by omega
            generalize hpj : 2 ^ k = pj at hpw hpW hxo
            clear hpj
            rw [HY.out, if_pos rfl] at HSU
            cases b
            all_goals
              simp only [Bool.not_false, Bool.not_true] at c2
              go_wp2
              go_quiet (fail)
              clear hpw hpW hxo c1 c2
              have HI3 := hide (HI2.out.drewN nq)
              clear HI2 HT
              generalize World.drewN _ nq = wd at HI3 ⊢
              have hal := (Below.refl wd.heap.size wd).alloc (Nat.le_refl _) (.cells #[.int .i64 (k : Int)] 3)
              have HOA := hide (HI3.out.own.below hal)
              have HRA := hide (blk_reads (zs := [(k : Int)]) (Blk.new wd 3 #[.int .i64 (k : Int)]))
              have HBA := hide (HI3.out.bel.trans (hal.mono HI3.out.bel.size))
              clear hal HI3
              go_wp2_with (first
                | (at_builtin; refine appI _ rfl _ _ _ rfl w.heap.size Tryd.underlying44 _ (docNeeds t k) rfl HOA.out (wd.heap.size + 1) (some ⟨wd.heap.size, 0, none⟩) 1 1 [(k : Int)] rfl HRA.out rfl (by omega) HBA.out.size ?_; intro v9 w9 ho9 hg9 hor9; clear hor9; have HN9 := hide (show DnI w t (k + 1) v9 w9 from ⟨HBA.out.grown hg9 HBA.out.size (fun j hj => (World.ownsRow.lt HOA.out j hj).1), by rw [HSU.out]; exact ho9⟩); clear ho9 hg9)
                | fail)
              go_roundw
              case rel => exact ⟨k + 1, by omega, by go_num, HN9⟩
              case measure => simp [intOf]; omega
        · obtain rfl : i = sz := by omega
          have hno := need_no (t := t) (v := k) (fun j hj => HE.out j (by omega))
          rw [hno, if_neg (by decide), List.append_nil] at HSU
          have HN9 := hide (show DnI w t (k + 1) _ _ from ⟨HI2.out.bel, by rw [HSU.out]; exact HI2.out.own⟩)
          clear hno HE HI2 HT HSU
          go_wp2
          go_roundw
          case rel => exact ⟨k + 1, by omega, by go_num, HN9⟩
          case measure => simp [intOf]; omega
    · obtain rfl : k = vn := by omega
      go_wp2
      go_ret
      exact ⟨_, rfl, hI.out⟩
theorem inB_iff {A : Ar} {x : Int} {v : Nat} : inB A (reachL A [x]) v = true ↔ ∃ y, ReachA A [x] y ∧ topA A y = (v : Int) := by
  unfold inB
  rw [List.any_eq_true]
  constructor
  · rintro ⟨y, hy, he⟩
    exact ⟨y, mem_reachL.1 hy, by simpa using he⟩
  · rintro ⟨y, hy, he⟩
    exact ⟨y, mem_reachL.2 hy, by simpa using he⟩
/-- What a space tells of its needs is what the document tells. -/
theorem needL_doc {A : Ar} {vn : Nat} {x : Int} (hs : SpA A (vn : Int)) {F : FnB} (hF : ∀ u, den A x u = F u) : ∀ n, needL A x n = docNeeds (tabF (2 ^ vn) F) (min n vn)
  | 0 => by rw [Nat.zero_min]; rfl
  | n + 1 => by
    rw [needL_succ, needL_doc hs hF n]
    rcases Nat.lt_or_ge n vn with h | h
    · rw [Nat.min_eq_left (Nat.le_of_lt h), Nat.min_eq_left h, docN_succ]
      have h1 : inB A (reachL A [x]) n = needB (tabF (2 ^ vn) F) n := Bool.eq_iff_iff.2 (inB_iff.trans (need_tab hs hF h).symm)
      rw [h1]
    · rw [Nat.min_eq_right h, Nat.min_eq_right (Nat.le_succ_of_le h)]
      have h1 : inB A (reachL A [x]) n = false := by
        refine Bool.eq_false_iff.2 fun e => ?_
        obtain ⟨y, r, ht⟩ := inB_iff.1 e
        obtain ⟨d, ed⟩ := r.got
        have h2 := (hs.lt ed).2
        have h3 := top_some ed
        omega
      rw [h1, if_neg (by decide), List.append_nil]
end Go.Proofs.YtfbhmkpihmcegaaDoor
