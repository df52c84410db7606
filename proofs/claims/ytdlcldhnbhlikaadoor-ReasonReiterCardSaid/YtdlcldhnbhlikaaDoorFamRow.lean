/-
  The document's part and Least of families. Rows of maps of sets of the call's own; going over one, filling another.
-/
import Derived.Test.YtdlcldhnbhlikaaDoorFamMap
import Derived.Test.YtdlcldhnbhlikaaDoorFamPlain
namespace Go.Proofs.YtdlcldhnbhlikaaDoor
open Go.RowKit Go.Maps

theorem partB : ∀ a, a < 64 → ∀ b, b < 64 → (bits BinOp.andNot IntKind.u64 ((a : Nat) : Int) ((b : Nat) : Int) == 0) = subN a b := by decide +kernel
theorem part_any (a b : Nat) (w : World) (ha : a < 64) (hb : b < 64) : Calls Tryd.prog 66 #[.int .u64 (a : Int), .int .u64 (b : Int)] w (fun e w' => e = .returned (.bool (subN a b)) ∧ w = w') := by
  have h := partB a ha b hb
  go_enter Tryd.func66, Tryd.ntmps66
  go_wp2
  go_ret
  exact ⟨by rw [← h]; rfl, rfl⟩
open Classical in
/-- Is a least, by those that are no longer to come? -/
noncomputable def lstB (F : Nat → Bool) (a : Nat) (left : Nat → Bool) : Bool := decide (∀ b, F b = true → left b = false → subN b a = true → b = a)
theorem lstB_iff {F : Nat → Bool} {a : Nat} {left : Nat → Bool} : lstB F a left = true ↔ ∀ b, F b = true → left b = false → subN b a = true → b = a := by simp [lstB]
theorem lstB_start (F : Nat → Bool) (a : Nat) : lstB F a F = true := lstB_iff.2 fun b h1 h2 _ => by rw [h1] at h2; cases h2
theorem lstB_step {F left : Nat → Bool} {a s : Nat} (hs : F s = true) (hl : left s = true) : lstB F a (fun u => left u && !(u == s)) = (lstB F a left && (a == s || !subN s a)) := by
  rw [Bool.eq_iff_iff, Bool.and_eq_true, lstB_iff, lstB_iff]
  constructor
  · intro h
    refine ⟨fun b h1 h2 h3 => h b h1 (by rw [h2]; rfl) h3, ?_⟩
    cases hp : subN s a with
    | false => simp
    | true =>
      have := h s hs (by simp) hp
      simp [this]
  · rintro ⟨h1, h2⟩ b hb hlb hsb
    by_cases e : b = s
    · subst e
      rw [hsb] at h2
      simp at h2
      exact h2.symm
    · refine h1 b hb ?_ hsb
      rw [show (b == s) = false from beq_eq_false_iff_ne.2 e] at hlb
      simpa using hlb
theorem lstB_end {F left : Nat → Bool} {a : Nat} (hF : F a = true) (hd : ∀ s, F s = true → s < 64) (hl : ∀ s, s < 64 → left s = false) : lstB F a left = leastG F a := by
  rw [Bool.eq_iff_iff, lstB_iff, leastG_iff]
  exact ⟨fun h => ⟨hF, fun t ht hs => h t ht (hl t (hd t ht)) hs⟩, fun h b hb _ hs => h.2 b hb hs⟩
/-- Where the walk over a family stands. -/
structure LstI (w : World) (gF gm r : Nat) (F left : Nat → Bool) (wr : World) : Prop where
  rng : RngU wr gF r F left
  out : MapU wr gm (fun s => leastG F s && !left s)
  bel : Below w.heap.size w wr
  ge : w.heap.size ≤ gm ∧ w.heap.size ≤ r ∧ gm ≠ r
theorem LstI.below {w wr wr' : World} {gF gm r : Nat} {F left : Nat → Bool} (h : LstI w gF gm r F left wr) (hb : Below wr.heap.size wr wr') : LstI w gF gm r F left wr' := by
  obtain ⟨D, lf, cnt, h1, h2, h3⟩ := h.rng
  have hg : wr.grownBy wr' none := ⟨hb.os, hb.tape, hb.output, hb.size, fun i hi _ => hb.block i hi⟩
  exact ⟨⟨D, lf, cnt, h1.kept hg (by simp) (by simp), h2, h3⟩, h.out.below hb h.out.lt, h.bel.trans (hb.mono h.bel.size), h.ge⟩
theorem MapU.ltw {w wr : World} {gF gm r : Nat} {F left : Nat → Bool} (h : LstI w gF gm r F left wr) : gF < wr.heap.size := h.rng.own.lt
theorem Fr.grow1 {w w' : World} {r : Nat} (h : Fr (fun k => k = r) w w') : w.grownBy w' (some r) := ⟨h.os, h.tape, h.output, h.size, fun k hk hn => h.block k hk (fun e => hn (by rw [e]))⟩
theorem grown_fr {w w' : World} {r : Nat} (h : w.grownBy w' (some r)) : Fr (fun k => k = r) w w' := ⟨h.os, h.tape, h.output, h.size, fun k hk hn => h.block k hk (fun e => hn (by injection e))⟩
/-- Where a second walk over a family stands. -/
structure RunI (w : World) (gF r : Nat) (F left : Nat → Bool) (wr : World) : Prop where
  rng : RngU wr gF r F left
  fr : Fr (fun k => k = r) w wr
def RefLeastP (w : World) (F : Nat → Bool) (e : Ending) (w' : World) : Prop := ∃ g, e = .returned (.map (some g)) ∧ MapU w' g (leastG F) ∧ Below w.heap.size w w' ∧ w.heap.size ≤ g
set_option maxRecDepth 100000 in
set_option maxHeartbeats 8000000 in
theorem refLeast_any (gF : Nat) (F : Nat → Bool) (w : World) (h : MapU w gF F) :
    Calls Tryd.prog 49 #[.map (some gF)] w (RefLeastP w F) := by
  have hmm := @run_makeMap Tryd.prog
  have hgl := h.lt
  have hdom := Lib.hid (fun s (e : F s = true) => h.dom e)
  have hal := (Below.refl w.heap.size w).alloc (Nat.le_refl _) (.map #[] 0)
  have HM := hide (h.below hal h.lt)
  have HO := hide (mapU_made w)
  have HA := hide hal
  have e1 : (w.alloc (.map #[] 0)).heap.size = w.heap.size + 1 := by simp
  clear h hal
  go_enter Tryd.func49, Tryd.ntmps49
  go_wp2_with (first
    | (at_range; refine rangeU rfl _ 46 rfl Tryd.underlying46 rfl HM.out ?_; intro w1 hr1 hg1 hs1)
    | fail)
  go_frame
  rw [e1] at hr1 hs1 ⊢
  have HST := hide (show LstI w gF w.heap.size (w.heap.size + 1) F F w1 from ⟨hr1, (HO.out.kept hg1 (by simp)).congr fun s => by
      cases hF : F s with
      | true => simp
      | false => rw [show leastG F s = false from Bool.eq_false_iff.2 fun e => by rw [(leastG_iff.1 e).1] at hF; cases hF]; rfl, HA.out.grown hg1 HA.out.size (fun j hj => by cases hj), Nat.le_refl _, by omega, by omega⟩)
  clear hr1 hg1 hs1 e1
  have HHE := Lib.hid (show w.heap.size ≤ w.heap.size from Nat.le_refl _)
  generalize hgm : w.heap.size = gm at HST HHE hgl ⊢
  have HGM := Lib.hid hgm
  clear hgm HHE HM HO HA
  go_loopw [4] (fun _ wr => ∃ left : Nat → Bool, Hid (LstI w gF gm (gm + 1) F left wr)) (fun _ wr => wr.rangeLeft gF (gm + 1))
  case atStart => exact ⟨F, HST⟩
  case round =>
    clear HST
    obtain ⟨left, hI⟩ := hrel
    have HRG := hide hI.out.rng
    go_wp2_with (first
      | (at_next; refine nextU rfl _ rfl rfl HRG.out ?_ ?_)
      | fail)
    · intro hl0
      have HP := hide (show RefLeastP w F (.returned (.map (some gm))) wr from ⟨gm, rfl, hI.out.out.congr fun s => by
        cases hs : leastG F s with
        | false => rfl
        | true => rw [hl0 s (hdom.out s (leastG_iff.1 hs).1)]; rfl, hI.out.bel, hI.out.ge.1⟩)
      clear hI HRG hl0
      go_wp2
      go_ret
      exact HP.out
    · intro s w1 hs64 hls hFs hr1 hg1 hsz1 hlt1 hen
      have HR1 := hide hr1
      have HO1 := hide (hI.out.out.kept hg1 (by simp))
      have HB1 := hide (hI.out.bel.grown hg1 hI.out.bel.size (fun j hj => by cases hj; exact hI.out.ge.2.1))
      have hltr := hI.out.rng.own.lt
      have hltm := hI.out.out.lt
      have hltg : gm + 1 < wr.heap.size := by
        obtain ⟨D, lf, cnt, h1, _⟩ := hI.out.rng
        exact h1.lt
      have hge := hI.out.ge
      clear hI HRG hr1 hg1
      have HMU := hide HR1.out.own
      go_wp2_with (first
        | (at_range; refine rangeU rfl _ 46 rfl Tryd.underlying46 rfl HMU.out ?_; intro w2 hr2 hg2 hs2)
        | fail)
      go_frame
      have HR2 := hide (HR1.out.kept hg2 (by simp) (by simp))
      have HO2 := hide (HO1.out.kept hg2 (by simp))
      have HB2 := hide (HB1.out.grown hg2 HB1.out.size (fun j hj => by cases hj))
      have hn2 : w1.heap.size ≠ gm + 1 := by omega
      have hn3 : w1.heap.size ≠ gm := by omega
      have hn4 : w1.heap.size ≠ gF := by omega
      have hgeq : w.heap.size ≤ w1.heap.size := by have := hge.1; omega
      have HRI := hide (show RunI w2 gF w1.heap.size F F w2 from ⟨hr2, .refl _ _⟩)
      have hltm2 : w2.rangeLeft gF (gm + 1) < wr.rangeLeft gF (gm + 1) := by
        obtain ⟨D, lf, cnt, h1, _⟩ := HR1.out
        have h3 := h1.kept hg2 (by simp) (by simp)
        rw [h3.left_eq, ← h1.left_eq]
        exact hlt1
      have HLM := Lib.hid hltm2
      clear hr2 hg2 hs2 HR1 HO1 HB1 hlt1 hen hltm2 HMU
      generalize w1.heap.size = r2 at HRI hn2 hn3 hn4 hgeq ⊢
      go_loopw [5, 6] (fun lv _ wr2 => ∃ left2 : Nat → Bool, lv = .bool (lstB F s left2) ∧ Hid (RunI w2 gF r2 F left2 wr2)) (fun _ _ wr2 => wr2.rangeLeft gF r2)
      case atStart => exact ⟨F, by rw [lstB_start], HRI⟩
      case round =>
        clear HRI
        obtain ⟨left2, rfl, hI2⟩ := hrel
        have HRG2 := hide hI2.out.rng
        go_wp2_with (first
          | (at_next; refine nextU rfl _ rfl rfl HRG2.out ?_ ?_)
          | fail)
        · intro hl0
          have hlb := lstB_end (a := s) (left := left2) hFs (fun u => hdom.out u) hl0
          have HG := hide hI2.out.fr.grow1
          have HRW := hide (HR2.out.kept HG.out (by simp; omega) (by simp; omega))
          have HOW := hide (HO2.out.kept HG.out (by simp; omega))
          have HBW := hide (HB2.out.grown HG.out HB2.out.size (fun j hj => by cases hj; exact hgeq))
          have hlm : wr.rangeLeft gF (gm + 1) = w2.rangeLeft gF (gm + 1) := HR2.out.left_kept HG.out (by simp; omega) (by simp; omega)
          have HLM2 := Lib.hid hlm
          rw [hlb]
          clear hI2 HRG2 hlb hl0 hlm
          cases hls2 : leastG F s
          · have HN := hide (show LstI w gF gm (gm + 1) F (fun u => left u && !(u == s)) wr from ⟨HRW.out, HOW.out.congr fun y => by
              by_cases e : y = s
              · subst e; rw [hls2]; rfl
              · rw [beq_eq_false_iff_ne.2 e, Bool.not_false, Bool.and_true], HBW.out, hge⟩)
            go_wp2
            go_roundw
            case rel => exact ⟨_, HN⟩
            case measure => rw [HLM2.out]; exact HLM.out
          · go_wp2_with (first
              | (at_mapUpdate; refine storeU rfl _ _ _ 46 rfl Tryd.underlying46 rfl HOW.out s rfl rfl hs64 ?_; intro w9 ho9 hg9; have HO9 := hide ho9; have HG9 := hide hg9; clear ho9 hg9; go_frame)
              | fail)
            have HN := hide (show LstI w gF gm (gm + 1) F (fun u => left u && !(u == s)) w9 from ⟨HRW.out.kept HG9.out (by simp; omega) (by simp), HO9.out.congr fun y => by
              by_cases e : y = s
              · subst e; rw [if_pos rfl, hls2]; simp
              · rw [if_neg e, beq_eq_false_iff_ne.2 e, Bool.not_false, Bool.and_true], HBW.out.grown HG9.out HBW.out.size (fun j hj => by cases hj; exact hge.1), hge⟩)
            have HLM3 := Lib.hid (HRW.out.left_kept HG9.out (by simp; omega) (by simp))
            go_roundw
            case rel => exact ⟨_, HN⟩
            case measure => rw [HLM3.out, HLM2.out]; exact HLM.out
        · intro u w3 hu64 hlu hFu hr3 hg3 hsz3 hlt3 hen3
          have HNI := hide (show RunI w2 gF r2 F (fun x => left2 x && !(x == u)) w3 from ⟨hr3, hI2.out.fr.trans (grown_fr hg3)⟩)
          have hst := lstB_step (a := s) hFu hlu
          clear hI2 HRG2 hr3 hg3
          cases hlv : lstB F s left2
          · have HV := Lib.hid (show lstB F s (fun x => left2 x && !(x == u)) = false by rw [hst, hlv]; rfl)
            clear hst
            go_wp2
            go_roundw
            case rel => exact ⟨_, by rw [HV.out], HNI⟩
            case measure => exact hlt3
          · by_cases e : s = u
            · subst e
              have HV := Lib.hid (show lstB F s (fun x => left2 x && !(x == s)) = true by rw [hst, hlv]; simp)
              clear hst
              go_wp2
              go_roundw
              case rel => exact ⟨_, by rw [HV.out], HNI⟩
              case measure => exact hlt3
            · have hne : ((s : Int) == (u : Int)) = false := beq_eq_false_iff_ne.2 (by omega)
              have HV := Lib.hid (show lstB F s (fun x => left2 x && !(x == u)) = !subN u s by rw [hst, hlv, beq_eq_false_iff_ne.2 e]; rfl)
              have HPT := hide (part_any u s w3 hu64 hs64)
              clear hst
              go_wp2_with fail
              refine (HPT.out).mono ?_
              rintro e' w4 ⟨rfl, rfl⟩
              cases hsub : subN u s
              all_goals
                rw [hsub] at HV
                go_wp2
                go_roundw
                case rel => exact ⟨_, by rw [HV.out]; rfl, HNI⟩
                case measure => exact hlt3
end Go.Proofs.YtdlcldhnbhlikaaDoor
namespace Go.Proofs.YtdlcldhnbhlikaaDoor
open Go.RowKit Go.Maps

section
variable {w w' : World} {g : Nat} {f : Nat → Bool} {ops : Array Oper} {rest : List Oper} {o : Oper} {a : Act} {Q : Exit → Act → World → Prop}
/-- A map's literal, one key. -/
theorem insertU (hg : o.guard = none) (mo xo yo : Operand) (t : TypeId) (hop : o.op = Op.insert t mo xo yo) (ht : Tryd.prog.underlying t = some (.map 22 4))
    (hm : a.eval mo = .map (some g)) (h : MapU w g f) (x : Nat) (hx : a.eval xo = .int .u64 (x : Int)) (hy : a.eval yo = .bool true) (hi : x < 64)
    (hK : ∀ w', MapU w' g (fun y => if y = x then true else f y) → w.grownBy w' (some g) → wpList Tryd.prog ops Q rest (a.put o.dst undef) w') : wpList Tryd.prog ops Q (o :: rest) a w := by
  obtain ⟨D, h1, h2⟩ := h
  refine wpList_plain hg fun K' hK' => ?_
  obtain ⟨w', hrun, r1, r2⟩ := h1.update keyU ht (by decide) (keyU_of hi) (plainElem_bool Tryd.underlying4 true)
  unfold Oper.wp
  simp [execOp, hop, hm, hx, hy, hrun, Result.andThen]
  have h5 := h2.put hi
  exact hK' _ _ (hK w' ⟨_, own_64 r1 h5.keys, h5⟩ r2)
end
theorem famInfo : (Tryd.prog.info? 46).map (fun i => (i.zero, i.size, i.bytes)) = some (some (.map none), 1, 8) := by kernel_rfl
def mapV (g : Nat) : Value := .map (some g)
def OwnM (w : World) (base : Nat) (v : Value) (gs : List Nat) : Prop := w.ownsRow base 46 1 v gs.length (gs.map mapV)
structure Fams (w : World) (base : Nat) (gs : List Nat) (fs : List FamB) : Prop where
  len : gs.length = fs.length
  is : ∀ k, k < gs.length → base ≤ gs.getD k 0 ∧ MapU w (gs.getD k 0) (fs.getD k fm0)
section
variable {w w' : World} {base : Nat} {v : Value} {gs : List Nat} {fs : List FamB}
theorem OwnM.kept {row : Option Nat} (h : OwnM w base v gs) (hg : w.grownBy w' row) (hr : v.ownBlock = none ∨ v.ownBlock ≠ row) : OwnM w' base v gs := World.ownsRow.kept h hg hr
theorem OwnM.below (h : OwnM w base v gs) (hb : Below w.heap.size w w') : OwnM w' base v gs :=
  World.ownsRow.kept h (row := none) ⟨hb.os, hb.tape, hb.output, hb.size, fun i hi _ => hb.block i hi⟩ (by cases v.ownBlock <;> simp)
theorem OwnM.form (h : OwnM w base v gs) (h0 : 0 < gs.length) : ∃ g cap cur, v = .slice (some ⟨g, 0, none⟩) gs.length cap ∧ base ≤ g ∧ Blk w g 46 cur ∧ gs.length ≤ cap ∧ ∀ k, k < gs.length → cur[k]? = some (mapV (gs.getD k 0)) := by
  rcases h.2 with ⟨_, h9⟩ | ⟨g, cap, cur, rfl, hg, hgc, hle, hcm, hcs, hct⟩
  · omega
  · refine ⟨g, cap, cur, rfl, hg, hgc, hle, fun k hk => ?_⟩
    have h1 : (cur.toList.take (gs.length * 1))[k]? = some (mapV (gs.getD k 0)) := by
      rw [hct, List.getElem?_map, List.getElem?_eq_getElem hk, List.getD_eq_getElem?_getD, List.getElem?_eq_getElem hk]
      rfl
    rw [List.getElem?_take_of_lt (by omega)] at h1
    simpa using h1
theorem Fams.below (h : Fams w base gs fs) (hb : Below w.heap.size w w') : Fams w' base gs fs :=
  ⟨h.len, fun k hk => ⟨(h.is k hk).1, (h.is k hk).2.below hb (h.is k hk).2.lt⟩⟩
theorem Fams.fr {S : Nat → Prop} (h : Fams w base gs fs) (hf : Fr S w w') (hn : ∀ k, k < gs.length → ¬ S (gs.getD k 0)) : Fams w' base gs fs :=
  ⟨h.len, fun k hk => ⟨(h.is k hk).1, (h.is k hk).2.fr hf (hn k hk)⟩⟩
theorem Fams.push {g : Nat} {F : FamB} (h : Fams w base gs fs) (hg : base ≤ g) (hm : MapU w g F) : Fams w base (gs ++ [g]) (fs ++ [F]) := by
  have hl := h.len
  have g1 : ∀ k, k < gs.length → (gs ++ [g]).getD k 0 = gs.getD k 0 := fun k hk => by
    rw [List.getD_eq_getElem?_getD, List.getD_eq_getElem?_getD, List.getElem?_append_left hk]
  have g2 : ∀ k, k < fs.length → (fs ++ [F]).getD k fm0 = fs.getD k fm0 := fun k hk => by
    rw [List.getD_eq_getElem?_getD, List.getD_eq_getElem?_getD, List.getElem?_append_left hk]
  have g3 : (gs ++ [g]).getD gs.length 0 = g := by simp [List.getD_eq_getElem?_getD]
  have g4 : (fs ++ [F]).getD fs.length fm0 = F := by simp [List.getD_eq_getElem?_getD]
  refine ⟨by simp [hl], fun k hk => ?_⟩
  rw [List.length_append, List.length_singleton] at hk
  rcases Nat.lt_or_ge k gs.length with h1 | h1
  · rw [g1 k h1, g2 k (by omega)]; exact h.is k h1
  · rw [show k = gs.length by omega, g3, hl, g4]; exact ⟨hg, hm⟩
theorem Fams.arg (h : Fams w base gs fs) (h0 : 0 < gs.length) (z : Int) : atN z gs.length < gs.length ∧ base ≤ gs.getD (atN z gs.length) 0 ∧ MapU w (gs.getD (atN z gs.length) 0) (argZ fs z) := by
  have h1 := atN_lt z h0
  obtain ⟨h2, h3⟩ := h.is _ h1
  refine ⟨h1, h2, ?_⟩
  unfold argZ
  rw [← h.len]
  exact h3
end
theorem one_newsM (w : World) (u : Value) (g : Nat) (hc : w.cell? ⟨g, 0, none⟩ = some u) : Reads w (g + 1) 1 (some ⟨g, 0, none⟩) 1 [u] := by
  refine ⟨rfl, fun _ => ⟨_, rfl, Nat.lt_succ_self _, fun j x hx => ?_⟩⟩
  match j, hx with
  | 0, hx => simp at hx; subst hx; simpa [Addr.add] using hc
/-- append of one map, in a plain region. -/
theorem appM (w : World) {ops : Array Oper} {rest : List Oper} {o : Oper} {a : Act} {Q : Exit → Act → World → Prop} (hgd : o.guard = none) (s x : Operand) (t : TypeId)
    (ho : o.op = .call { callee := .builtin .append, args := #[s, x], argTypes := #[t, t] }) (base : Nat) (ht : Tryd.prog.underlying t = some (.slice 46))
    (v : Value) (gs : List Nat) (hs : a.eval s = v) (hown : OwnM w base v gs) (b c g : Nat) (hx : a.eval x = .slice (some ⟨b, 0, none⟩) 1 c) (hc : w.cell? ⟨b, 0, none⟩ = some (mapV g))
    (hl : gs.length ≤ 1000000) (hbase : base ≤ w.heap.size)
    (h : ∀ v' w', OwnM w' base v' (gs ++ [g]) → w.grownBy w' v.ownBlock → wpList Tryd.prog ops Q rest (a.put o.dst v') w') : wpList Tryd.prog ops Q (o :: rest) a w := by
  obtain ⟨i0, hi, hz0, hz1, hz2⟩ := info_parts famInfo
  refine wpList_append_any w hgd s x t ho base 46 i0 (.map none) 1 8 ht hi hz0 hz1 hz2 rfl (by decide) v gs.length _ hs hown (b + 1) _ 1 c [mapV g] hx (one_newsM w _ b hc) (fun u hu => by rw [List.mem_singleton.1 hu]; rfl) (by simp only [maxLen]; omega) (by omega) hbase ?_
  intro v' w' ho' hg' hor
  refine h v' w' ?_ hg'
  unfold OwnM
  rw [List.length_append, List.map_append]
  exact ho'
/-- Going over one map (X), filling another (gf). -/
structure GenI (wz : World) (gX r gf : Nat) (FX left G : Nat → Bool) (wr : World) : Prop where
  rng : RngU wr gX r FX left
  out : MapU wr gf G
  fr : Fr (fun k => k = gf) wz wr
  hr : wz.heap.size ≤ r
  hg : gf < wz.heap.size
  hx : gX < wz.heap.size ∧ gX ≠ gf
section
variable {wz wy wr w1 w2 : World} {gX r gf : Nat} {FX left left' G G' : Nat → Bool}
theorem gen_start (ho : MapU wy gf G) (hf : Fr (fun k => k = gf) wz wy) (hg : gf < wz.heap.size) (hx : gX < wz.heap.size ∧ gX ≠ gf) (hr1 : RngU w1 gX wy.heap.size FX FX) (hg1 : wy.grownBy w1 none) : GenI wz gX wy.heap.size gf FX FX G w1 :=
  ⟨hr1, ho.kept hg1 (by simp), hf.trans ⟨hg1.os, hg1.tape, hg1.output, hg1.size, fun k hk _ => hg1.block k hk (by simp)⟩, hf.size, hg, hx⟩
theorem GenI.next (h : GenI wz gX r gf FX left G wr) (hr1 : RngU w1 gX r FX left') (hg1 : wr.grownBy w1 (some r)) : GenI wz gX r gf FX left' G w1 :=
  ⟨hr1, h.out.kept hg1 (by have := h.hr; have := h.hg; simp; omega), h.fr.and_ (grown_fr hg1) (fun i hi e => by have := h.hr; omega), h.hr, h.hg, h.hx⟩
theorem GenI.put (h : GenI wz gX r gf FX left G wr) (ho : MapU w1 gf G') (hg1 : wr.grownBy w1 (some gf)) : GenI wz gX r gf FX left G' w1 :=
  ⟨h.rng.kept hg1 (by have := h.hx; simp; omega) (by have := h.hr; have := h.hg; simp; omega), ho, h.fr.trans (grown_fr hg1), h.hr, h.hg, h.hx⟩
theorem GenI.put_left (h : GenI wz gX r gf FX left G wr) (hg1 : wr.grownBy w1 (some gf)) : w1.rangeLeft gX r = wr.rangeLeft gX r :=
  h.rng.left_kept hg1 (by have := h.hx; simp; omega) (by have := h.hr; have := h.hg; simp; omega)
theorem GenI.congr (h : GenI wz gX r gf FX left G wr) (e : ∀ s, G s = G' s) : GenI wz gX r gf FX left G' wr := by rw [← show G = G' from funext e]; exact h
end
open Classical in
/-- What comes of the sets of F that are no longer to come, each with one of H. -/
noncomputable def jnB (F H left : Nat → Bool) (s : Nat) : Bool := decide (∃ x y, F x = true ∧ left x = false ∧ H y = true ∧ x ||| y = s)
open Classical in
/-- .. and of one of F with those of H that are no longer to come. -/
noncomputable def jnC (H left2 : Nat → Bool) (x s : Nat) : Bool := decide (∃ y, H y = true ∧ left2 y = false ∧ x ||| y = s)
theorem jnB_iff {F H left : Nat → Bool} {s : Nat} : jnB F H left s = true ↔ ∃ x y, F x = true ∧ left x = false ∧ H y = true ∧ x ||| y = s := by simp [jnB]
theorem jnC_iff {H left2 : Nat → Bool} {x s : Nat} : jnC H left2 x s = true ↔ ∃ y, H y = true ∧ left2 y = false ∧ x ||| y = s := by simp [jnC]
theorem jnB_start (F H : Nat → Bool) (s : Nat) : jnB F H F s = false := Bool.eq_false_iff.2 fun e => by
  obtain ⟨x, y, h1, h2, _⟩ := jnB_iff.1 e
  rw [h1] at h2; cases h2
theorem jnC_start (H : Nat → Bool) (x s : Nat) : jnC H H x s = false := Bool.eq_false_iff.2 fun e => by
  obtain ⟨y, h1, h2, _⟩ := jnC_iff.1 e
  rw [h1] at h2; cases h2
theorem jnB_end {F H left : Nat → Bool} (hd : ∀ s, F s = true → s < 64) (hl : ∀ s, s < 64 → left s = false) (s : Nat) : jnB F H left s = joinG F H s := by
  rw [Bool.eq_iff_iff, jnB_iff, joinG_iff]
  exact ⟨fun ⟨x, y, h1, _, h3, h4⟩ => ⟨x, y, h1, h3, h4⟩, fun ⟨x, y, h1, h3, h4⟩ => ⟨x, y, h1, hl x (hd x h1), h3, h4⟩⟩
theorem jnC_step {H left2 : Nat → Bool} {x u : Nat} (hu : H u = true) (s : Nat) : jnC H (fun y => left2 y && !(y == u)) x s = (if s = x ||| u then true else jnC H left2 x s) := by
  rw [Bool.eq_iff_iff, jnC_iff]
  by_cases e : s = x ||| u
  · rw [if_pos e]
    exact ⟨fun _ => rfl, fun _ => ⟨u, hu, by simp, e.symm⟩⟩
  · rw [if_neg e, jnC_iff]
    refine ⟨fun ⟨y, h1, h2, h3⟩ => ⟨y, h1, ?_, h3⟩, fun ⟨y, h1, h2, h3⟩ => ⟨y, h1, by rw [h2]; rfl, h3⟩⟩
    have hne : y ≠ u := fun e2 => e (by rw [← h3, e2])
    rw [beq_eq_false_iff_ne.2 hne, Bool.not_false, Bool.and_true] at h2
    exact h2
theorem jnB_step {F H left left2 : Nat → Bool} {x : Nat} (hx : F x = true) (hd : ∀ s, H s = true → s < 64) (hl : ∀ s, s < 64 → left2 s = false) (s : Nat) : (jnB F H left s || jnC H left2 x s) = jnB F H (fun y => left y && !(y == x)) s := by
  rw [Bool.eq_iff_iff, Bool.or_eq_true, jnB_iff, jnC_iff, jnB_iff]
  constructor
  · rintro (⟨a, y, h1, h2, h3, h4⟩ | ⟨y, h1, _, h3⟩)
    · exact ⟨a, y, h1, by rw [h2]; rfl, h3, h4⟩
    · exact ⟨x, y, hx, by simp, h1, h3⟩
  · rintro ⟨a, y, h1, h2, h3, h4⟩
    by_cases e : a = x
    · subst e
      exact .inr ⟨y, h3, hl y (hd y h3), h4⟩
    · rw [beq_eq_false_iff_ne.2 e, Bool.not_false, Bool.and_true] at h2
      exact .inl ⟨a, y, h1, h2, h3, h4⟩
open Classical in
/-- Is none of H that is no longer to come a part of it? -/
noncomputable def okC' (H left2 : Nat → Bool) (s : Nat) : Bool := decide (∀ t, H t = true → left2 t = false → subN t s = false)
theorem okC'_iff {H left2 : Nat → Bool} {s : Nat} : okC' H left2 s = true ↔ ∀ t, H t = true → left2 t = false → subN t s = false := by simp [okC']
theorem okC'_start (H : Nat → Bool) (s : Nat) : okC' H H s = true := okC'_iff.2 fun t h1 h2 => by rw [h1] at h2; cases h2
theorem okC'_step {H left2 : Nat → Bool} {u s : Nat} (hu : H u = true) : okC' H (fun y => left2 y && !(y == u)) s = (okC' H left2 s && !subN u s) := by
  rw [Bool.eq_iff_iff, Bool.and_eq_true, okC'_iff, okC'_iff]
  constructor
  · intro h
    exact ⟨fun t h1 h2 => h t h1 (by rw [h2]; rfl), by rw [h u hu (by simp)]; rfl⟩
  · rintro ⟨h1, h2⟩ t ht hl
    by_cases e : t = u
    · subst e; simpa using h2
    · rw [beq_eq_false_iff_ne.2 e, Bool.not_false, Bool.and_true] at hl
      exact h1 t ht hl
theorem okC'_end {F H left2 : Nat → Bool} {s : Nat} (hF : F s = true) (hd : ∀ t, H t = true → t < 64) (hl : ∀ t, t < 64 → left2 t = false) : okC' H left2 s = freeG F H s := by
  rw [Bool.eq_iff_iff, okC'_iff, freeG_iff]
  exact ⟨fun h => ⟨hF, fun t ht => h t ht (hl t (hd t ht))⟩, fun h t ht _ => h.2 t ht⟩
end Go.Proofs.YtdlcldhnbhlikaaDoor
