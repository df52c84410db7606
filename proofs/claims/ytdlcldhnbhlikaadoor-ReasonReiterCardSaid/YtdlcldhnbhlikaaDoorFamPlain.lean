/-
  What steps of families mean; plain's Families, walked. family.New.
-/
import Derived.Test.YtdlcldhnbhlikaaDoorFamOne
namespace Go.Proofs.YtdlcldhnbhlikaaDoor
open Go.RowKit Go.Maps

abbrev FamB := Nat → Bool
def fm0 : FamB := fun _ => false
def fm1 : FamB := fun s => s == 0
/-- The set that an int stands for, of so many things. -/
def oneN (vn : Nat) (a : Int) : Nat := (a % 18446744073709551616).toNat % 2 ^ vn
def argZ (fs : List FamB) (z : Int) : FamB := fs.getD (atN z fs.length) fm0
/-- What a step makes of the families so far. -/
noncomputable def stepZ (vn : Nat) (d : Four) (fs : List FamB) : FamB :=
  match atN d.what 7 with
  | 0 => fun s => s == oneN vn d.a
  | 1 => fun s => argZ fs d.a s || argZ fs d.b s
  | 2 => fun s => argZ fs d.a s && argZ fs d.b s
  | 3 => fun s => argZ fs d.a s && !argZ fs d.b s
  | 4 => joinG (argZ fs d.a) (argZ fs d.b)
  | 5 => freeG (argZ fs d.a) (argZ fs d.b)
  | _ => leastG (argZ fs d.a)
noncomputable def famsN (vn : Nat) (q : Nat → Four) : Nat → List FamB
  | 0 => [fm0, fm1]
  | i + 1 => famsN vn q i ++ [stepZ vn (q i) (famsN vn q i)]
theorem fams_len (vn : Nat) (q : Nat → Four) : ∀ i, (famsN vn q i).length = i + 2
  | 0 => rfl
  | i + 1 => by
    show (famsN vn q i ++ [stepZ vn (q i) (famsN vn q i)]).length = _
    rw [List.length_append, fams_len vn q i, List.length_singleton]
/-- The handles of these families. -/
structure HsZ (A : Ar) (hs : List Int) (fs : List FamB) : Prop where
  len : hs.length = fs.length
  has : ∀ k, k < hs.length → hasA A (hs.getD k 0) = true
  fam : ∀ k, k < hs.length → ∀ s, fam A (hs.getD k 0) s = fs.getD k fm0 s
section
variable {A A' : Ar} {things : Int} {hs : List Int} {fs : List FamB} {h : Int} {F : FamB}
theorem HsZ.start (A : Ar) : HsZ A [0, 1] [fm0, fm1] := by
  refine ⟨rfl, fun k hk => ?_, fun k hk u => ?_⟩
  · rcases (show k = 0 ∨ k = 1 by simp at hk; omega) with rfl | rfl
    · exact has_ends.1
    · exact has_ends.2
  · rcases (show k = 0 ∨ k = 1 by simp at hk; omega) with rfl | rfl
    · exact fam_zero u
    · exact fam_one u
theorem HsZ.ext (H : HsZ A hs fs) (h1 : SpZ A things) (h2 : SpZ A' things) (hx : ExtA A A') : HsZ A' hs fs :=
  ⟨H.len, fun k hk => hx.has (H.has k hk), fun k hk u => by rw [h1.same h2 hx (H.has k hk)]; exact H.fam k hk u⟩
theorem HsZ.push (H : HsZ A hs fs) (p : hasA A h = true) (hF : ∀ u, Go.Proofs.YtdlcldhnbhlikaaDoor.fam A h u = F u) : HsZ A (hs ++ [h]) (fs ++ [F]) := by
  have hl := H.len
  have g1 : ∀ k, k < hs.length → (hs ++ [h]).getD k 0 = hs.getD k 0 := fun k hk => by
    rw [List.getD_eq_getElem?_getD, List.getD_eq_getElem?_getD, List.getElem?_append_left hk]
  have g2 : ∀ k, k < fs.length → (fs ++ [F]).getD k fm0 = fs.getD k fm0 := fun k hk => by
    rw [List.getD_eq_getElem?_getD, List.getD_eq_getElem?_getD, List.getElem?_append_left hk]
  have g3 : (hs ++ [h]).getD hs.length 0 = h := by simp [List.getD_eq_getElem?_getD]
  have g4 : (fs ++ [F]).getD fs.length fm0 = F := by simp [List.getD_eq_getElem?_getD]
  refine ⟨by simp [hl], fun k hk => ?_, fun k hk u => ?_⟩
  · rw [List.length_append, List.length_singleton] at hk
    rcases Nat.lt_or_ge k hs.length with h1 | h1
    · rw [g1 k h1]; exact H.has k h1
    · rw [show k = hs.length by omega, g3]; exact p
  · rw [List.length_append, List.length_singleton] at hk
    rcases Nat.lt_or_ge k hs.length with h1 | h1
    · rw [g1 k h1, g2 k (by omega)]; exact H.fam k h1 u
    · rw [show k = hs.length by omega, g3, hl, g4]; exact hF u
theorem HsZ.mem (H : HsZ A hs fs) {x : Int} (hx : x ∈ hs) : hasA A x = true := by
  obtain ⟨k, hk, rfl⟩ := List.getElem_of_mem hx
  have := H.has k hk
  rw [List.getD_eq_getElem?_getD, List.getElem?_eq_getElem hk] at this
  exact this
theorem HsZ.sweep (H : HsZ A hs fs) (h1 : SpZ A things) : HsZ (sweepA A hs) hs fs :=
  ⟨H.len, fun k hk => sweep_has (getD_mem hk) (H.has k hk), fun k hk u => by rw [sweep_fam h1 (getD_mem hk) (H.has k hk)]; exact H.fam k hk u⟩
/-- A step's argument. -/
theorem HsZ.arg (H : HsZ A hs fs) (h0 : 0 < hs.length) (z : Int) : atN z hs.length < hs.length ∧ hasA A (hs.getD (atN z hs.length) 0) = true ∧ Go.Proofs.YtdlcldhnbhlikaaDoor.fam A (hs.getD (atN z hs.length) 0) = argZ fs z := by
  have h1 := atN_lt z h0
  refine ⟨h1, H.has _ h1, funext fun u => ?_⟩
  unfold argZ
  rw [← H.len]
  exact H.fam _ h1 u
end
theorem atN_seven (n : Int) : atN n 7 = 0 ∨ atN n 7 = 1 ∨ atN n 7 = 2 ∨ atN n 7 = 3 ∨ atN n 7 = 4 ∨ atN n 7 = 5 ∨ atN n 7 = 6 := by
  have := atN_lt n (show 0 < 7 by omega)
  omega
section
variable {vn : Nat} {d : Four} {fs : List FamB}
theorem stepZ_0 (h : atN d.what 7 = 0) : stepZ vn d fs = fun s => s == oneN vn d.a := by unfold stepZ; rw [h]; rfl
theorem stepZ_1 (h : atN d.what 7 = 1) : stepZ vn d fs = fun s => argZ fs d.a s || argZ fs d.b s := by unfold stepZ; rw [h]; rfl
theorem stepZ_2 (h : atN d.what 7 = 2) : stepZ vn d fs = fun s => argZ fs d.a s && argZ fs d.b s := by unfold stepZ; rw [h]; rfl
theorem stepZ_3 (h : atN d.what 7 = 3) : stepZ vn d fs = fun s => argZ fs d.a s && !argZ fs d.b s := by unfold stepZ; rw [h]; rfl
theorem stepZ_4 (h : atN d.what 7 = 4) : stepZ vn d fs = joinG (argZ fs d.a) (argZ fs d.b) := by unfold stepZ; rw [h]; rfl
theorem stepZ_5 (h : atN d.what 7 = 5) : stepZ vn d fs = freeG (argZ fs d.a) (argZ fs d.b) := by unfold stepZ; rw [h]; rfl
theorem stepZ_6 (h : atN d.what 7 = 6) : stepZ vn d fs = leastG (argZ fs d.a) := by unfold stepZ; rw [h]; rfl
end
theorem kT_le {t : Int} (h : 0 ≤ t) : kT t ≤ 3 := by unfold kT; omega
theorem topZ_nn {A : Ar} (hw : WfA A) (a b : Int) : 0 ≤ topZ A a b := by
  have := (hw.topR a).1
  have := (hw.topR b).1
  unfold topZ min2; split <;> assumption
theorem c2_le {t : Int} (h : 0 ≤ t) : c2N (kT t) ≤ 42 := Nat.le_trans (c2N_mono (kT_le h)) (by decide)
theorem c3_le {t : Int} (h : 0 ≤ t) : c3N (kT t) ≤ 42 := Nat.le_trans (c3N_mono (kT_le h)) (by decide)
theorem c4_le {t : Int} (h : 0 ≤ t) : c4N (kT t) ≤ 42 := Nat.le_trans (c4N_mono (kT_le h)) (by decide)
theorem ls_le {t : Int} (h : 0 ≤ t) : lsN (kT t) ≤ 42 := Nat.le_trans (lsN_mono (kT_le h)) (by decide)
theorem pow_u6 (v : Nat) (hv : v ≤ 6) : IntKind.u64.wrap (2 ^ v) = ((2 ^ v : Nat) : Int) ∧ IntKind.u64.wrap (((2 ^ v : Nat) : Int) - 1) = ((2 ^ v - 1 : Nat) : Int) := by
  rcases (show v = 0 ∨ v = 1 ∨ v = 2 ∨ v = 3 ∨ v = 4 ∨ v = 5 ∨ v = 6 by omega) with rfl | rfl | rfl | rfl | rfl | rfl | rfl <;> decide +kernel
theorem one_bits (v : Nat) (hv : v ≤ 6) (a : Int) : bits BinOp.and IntKind.u64 (IntKind.u64.wrap a) ((2 ^ v - 1 : Nat) : Int) = (oneN v a : Int) := by
  have h1 := Int.emod_nonneg a (show (18446744073709551616 : Int) ≠ 0 by omega)
  have h2 := Int.emod_lt_of_pos a (show (0 : Int) < 18446744073709551616 by omega)
  have h3 : 2 ^ v ≤ 2 ^ 6 := Nat.pow_le_pow_right (by omega) hv
  rw [IntKind.wrap_u64]
  unfold oneN
  rw [← Nat.and_two_pow_sub_one_eq_mod]
  have e : a % 18446744073709551616 = ((a % 18446744073709551616).toNat : Int) := (Int.toNat_of_nonneg h1).symm
  rw [e, bits_and_u64_nat _ _ (by omega) (by omega)]
  rfl
theorem oneN_lt (v : Nat) (a : Int) : oneN v a < 2 ^ v := Nat.mod_lt _ (Nat.two_pow_pos v)
section
variable (S B gn gu gt : Nat) (things : Int) (A : Ar) (w : World)
def FreeZP (w : World) (S B gn gu gt : Nat) (things : Int) (A : Ar) (l : List Int) (e : Ending) (w' : World) : Prop := (∃ z, e = .returned (.int .i64 z)) ∧ FsM w' S B gn gu gt things (sweepA A l) ∧ Fr (arB B gn gu gt) w w'
theorem fzSweep_any (A0 : Option Addr) (n c : Nat) (l : List Int) (h : FsM w S B gn gu gt things A) (hl : RowI w A0 n l) (hi : ∀ x ∈ l, I64 x) (hn : n ≤ 1000000) (hnil : A0 = none → n = 0) :
    Calls Tryd.prog 50 #[.pointer (some ⟨S, 0, none⟩), .slice A0 n c] w (FreeZP w S B gn gu gt things A l) := by
  have s0 := h.kS.cell 0
  have HSW := hide (arSweep_any B gn gu gt A A0 n c l w h.ar hl hi hn hnil)
  have H := hide h
  clear h hl hi
  go_enter Tryd.func50, Tryd.ntmps50
  go_wp2_with fail
  refine (HSW.out).mono ?_
  rintro e w1 ⟨rfl, ha, hf⟩
  have HA := hide ha
  have HF := hide hf
  clear ha hf
  go_wp2
  go_ret
  exact ⟨⟨_, rfl⟩, H.out.arena HA.out (H.out.sp.sweep l) HF.out, HF.out⟩
end
/-- Where Families stands. -/
structure FmsI (w : World) (S B gn gu gt vn : Nat) (q : Nat → Four) (i : Nat) (vo : Value) (wr : World) : Prop where
  is : ∃ A hs, FsM wr S B gn gu gt (vn : Int) A ∧ HsZ A hs (famsN vn q i) ∧ OwnI wr w.heap.size vo hs ∧ low3 A ≤ 42 * i
  fr : Fr (arB B gn gu gt) w wr
def FmsP (w : World) (S B gn gu gt vn : Nat) (q : Nat → Four) (n : Nat) (e : Ending) (w' : World) : Prop := ∃ v, e = .returned v ∧ FmsI w S B gn gu gt vn q n v w'
end Go.Proofs.YtdlcldhnbhlikaaDoor
namespace Go.Proofs.YtdlcldhnbhlikaaDoor
open Go.RowKit Go.Maps

theorem spZ_empty (things : Int) : SpZ (emptyA 4000) things := by
  refine ⟨wf_empty 4000, ?_, ?_, List.length_replicate ..⟩
  · intro k n e
    rw [got_empty] at e
    cases e
  · intro k n e
    rw [got_empty] at e
    cases e
/-- What family.New answers. -/
structure FsNew (w : World) (vn : Nat) (S B gn gu gt : Nat) (w' : World) : Prop where
  sp : FsM w' S B gn gu gt (vn : Int) (emptyA 4000)
  own : ∀ k, arB B gn gu gt k ∨ k = S → w.heap.size ≤ k
  bel : Below w.heap.size w w'
def FsNewP (w : World) (vn : Nat) (e : Ending) (w' : World) : Prop := ∃ S B gn gu gt, e = .returned (.tuple #[.pointer (some ⟨S, 0, none⟩), .nilIface]) ∧ FsNew w vn S B gn gu gt w'
theorem fs_new {w w1 : World} {vn B gn gu gt : Nat} (h6 : vn ≤ 6) (ha : ArM w1 B gn gu gt (emptyA 4000)) (hlow : ∀ k, arB B gn gu gt k → w.heap.size ≤ k) (hb : Below w.heap.size w w1) :
    FsNew w vn w1.heap.size B gn gu gt (w1.alloc (.cells #[.pointer (some ⟨B, 0, none⟩), .int .i64 (vn : Int)] 58)) := by
  have h1 : Below w1.heap.size w1 (w1.alloc (.cells #[.pointer (some ⟨B, 0, none⟩), .int .i64 (vn : Int)] 58)) := (Below.refl w1.heap.size w1).alloc (Nat.le_refl _) _
  refine ⟨⟨Blk.new w1 58 _, ha.below h1 (fun k hk => ha.lt hk), spZ_empty _, by omega⟩, fun k hk => ?_, hb.trans (h1.mono hb.size)⟩
  rcases hk with hk | hk
  · exact hlow k hk
  · rw [hk]; exact hb.size
set_option maxRecDepth 100000 in
set_option maxHeartbeats 4000000 in
theorem fzNew_any (vn : Nat) (h6 : vn ≤ 6) (w : World) : Calls Tryd.prog 5 #[.int .i64 (vn : Int), .int .i64 4000] w (FsNewP w vn) := by
  have HNW := hide (arNew_any 4000 w (by unfold I64; omega))
  have h1b : decide ((vn : Int) < 0) = false := decide_eq_false (by omega)
  have h2b : decide ((24 : Int) < (vn : Int)) = false := decide_eq_false (by omega)
  go_enter Tryd.func5, Tryd.ntmps5
  go_wp2_with fail
  refine (HNW.out).mono ?_
  rintro e w1 (⟨hno, rfl, hb1⟩ | ⟨hyes, B, gn, gu, gt, rfl, har, hlow, hb1⟩)
  · omega
  · have HR := hide (fs_new (vn := vn) h6 har hlow hb1)
    clear har hlow hb1 HNW
    go_wp2
    go_ret2
    exact ⟨_, _, _, _, _, rfl, HR.out⟩
end Go.Proofs.YtdlcldhnbhlikaaDoor
