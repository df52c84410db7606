/-
  A store of families in memory. A store's node, at. What is remembered under two handles.
-/
import Derived.Test.YtdlcldhnbhlikaaDoorFamOps
import Derived.Test.YtdlcldhnbhlikaaDoorBddNode
namespace Go.Proofs.YtdlcldhnbhlikaaDoor
open Go.RowKit Go.Maps

/-- The store in block S, over the arena A. -/
structure FsM (w : World) (S B gn gu gt : Nat) (things : Int) (A : Ar) : Prop where
  kS : Blk w S 58 #[.pointer (some ⟨B, 0, none⟩), .int .i64 things]
  ar : ArM w B gn gu gt A
  sp : SpZ A things
  t6 : 0 ≤ things ∧ things ≤ 6
/-- A family's handle: what a step of a store answers. -/
def ZP (w : World) (S B gn gu gt : Nat) (things : Int) (A : Ar) (c : Nat) (t : Int) (F : Nat → Bool) (e : Ending) (w' : World) : Prop :=
  ∃ A' h, e = .returned (.tuple #[.int .i64 h, .nilIface]) ∧ FsM w' S B gn gu gt things A' ∧ StpZ A A' things c t h F ∧ Fr (arB B gn gu gt) w w'
section
variable {w w' : World} {S B gn gu gt : Nat} {things : Int} {A A' : Ar}
theorem FsM.sA (h : FsM w S B gn gu gt things A) : ¬ arB B gn gu gt S := by
  obtain ⟨ns, us, tab, _, h2, h3, h4, h5⟩ := h.ar.is
  rintro (e | e | e | e)
  · exact h.kS.ne_ h2 (by decide) e
  · exact h.kS.ne_ h3 (by decide) e
  · exact h.kS.ne_ h4 (by decide) e
  · exact h.kS.ne_ h5 (by decide) e
theorem FsM.keep (h : FsM w S B gn gu gt things A) (hk : ∀ k, arB B gn gu gt k ∨ k = S → w'.heap[k]? = w.heap[k]?) : FsM w' S B gn gu gt things A :=
  ⟨(hk S (.inr rfl)).trans h.kS, h.ar.keep fun k hkk => hk k (.inl hkk), h.sp, h.t6⟩
theorem FsM.below (h : FsM w S B gn gu gt things A) (hb : Below w.heap.size w w') : FsM w' S B gn gu gt things A :=
  h.keep fun k hk => hb.block k (hk.elim (fun h1 => h.ar.lt h1) fun e => by rw [e]; exact h.kS.lt)
/-- A new arena, in its own blocks. -/
theorem FsM.arena (h : FsM w S B gn gu gt things A) (ha : ArM w' B gn gu gt A') (hp : SpZ A' things) (hf : Fr (arB B gn gu gt) w w') : FsM w' S B gn gu gt things A' :=
  ⟨h.kS.fr hf h.sA, ha, hp, h.t6⟩
theorem FsM.i64 (h : FsM w S B gn gu gt things A) {y : Int} (hy : hasA A y = true) : I64 y := by
  have hr := h.ar.room
  cases e : gotA A y with
  | none =>
    rcases end_two hy e with rfl | rfl <;> (unfold I64; omega)
  | some d =>
    obtain ⟨k, rfl, hk, _⟩ := gotA_is e
    unfold I64
    omega
theorem StpZ.mono {c c' : Nat} {t t' h : Int} {F F' : Nat → Bool} (k : StpZ A A' things c t h F) (h1 : c ≤ c') (h2 : t' ≤ t) (h3 : ∀ s, F s = F' s) : StpZ A A' things c' t' h F' :=
  ⟨k.sp, k.ext, Nat.le_trans k.few (Nat.add_le_add_left h1 _), k.has, Int.le_trans h2 k.top, fun s => (k.fam s).trans (h3 s)⟩
theorem StpZ.refl (h : SpZ A things) {x : Int} (p : hasA A x = true) {t : Int} (ht : t ≤ topA A x) (c : Nat) {F : Nat → Bool} (hF : ∀ s, Go.Proofs.YtdlcldhnbhlikaaDoor.fam A x s = F s) : StpZ A A things c t x F :=
  ⟨h, .refl A, Nat.le_add_right _ _, p, ht, hF⟩
theorem ZP.mono {c c' : Nat} {t t' : Int} {F F' : Nat → Bool} {e : Ending} (h : ZP w S B gn gu gt things A c t F e w') (h1 : c ≤ c') (h2 : t' ≤ t) (h3 : ∀ s, F s = F' s) : ZP w S B gn gu gt things A c' t' F' e w' := by
  obtain ⟨A', x, e1, e2, e3, e4⟩ := h
  exact ⟨A', x, e1, e2, e3.mono h1 h2 h3, e4⟩
/-- An answer that is there already. -/
theorem ZP.here (h : FsM w S B gn gu gt things A) (h' : Below w.heap.size w w') {x : Int} (p : hasA A x = true) {t : Int} (ht : t ≤ topA A x) (c : Nat) {F : Nat → Bool} (hF : ∀ s, fam A x s = F s) :
    ZP w S B gn gu gt things A c t F (.returned (.tuple #[.int .i64 x, .nilIface])) w' :=
  ⟨A, x, rfl, h.below h', .refl h.sp p ht c hF, .of_below h' (Nat.le_refl _)⟩
theorem nodeZ_post (h : FsM w S B gn gu gt things A) {n : Nd} (hm : MayA A n) (hv : n.var < things) (hne : n.high ≠ 0) (hl : low3 A + (if n.var < 3 then 1 else 0) ≤ 2000) {e : Ending} (hp : MakePost w B gn gu gt A n e w') :
    ZP w S B gn gu gt things A (if n.var < 3 then 1 else 0) n.var (nodeZ A n) e w' := by
  obtain ⟨rfl, ha, hf⟩ := hp
  obtain ⟨e0, hs⟩ := mkz_ok h.sp h.t6.2 hl hm hv hne
  rw [e0, errV_zero]
  exact ⟨_, _, rfl, h.arena ha hs.sp hf, hs, hf⟩
end
/-- What node answers. -/
def NodeZ (w : World) (S B gn gu gt : Nat) (things : Int) (A : Ar) (lo hi t : Int) (e : Ending) (w' : World) : Prop :=
  ZP w S B gn gu gt things A (if t < 3 then 1 else 0) t (nodeZ A ⟨t, lo, hi⟩) e w'
section
variable (S B gn gu gt : Nat) (things : Int) (A : Ar) (w : World)
set_option maxHeartbeats 1000000 in
theorem fzNode_any (lo hi t : Int) (h : FsM w S B gn gu gt things A) (t0 : 0 ≤ t) (tv : t < things) (pl : hasA A lo = true) (tl : t < topA A lo) (ph : hasA A hi = true) (th : t < topA A hi) (hl : low3 A + (if t < 3 then 1 else 0) ≤ 2000) :
    Calls Tryd.prog 33 #[.pointer (some ⟨S, 0, none⟩), .int .i64 t, .int .i64 lo, .int .i64 hi] w (NodeZ w S B gn gu gt things A lo hi t) := by
  have ht6 := h.t6
  by_cases he : hi = 0
  · subst he
    have HP := hide (show NodeZ w S B gn gu gt things A lo 0 t (.returned (.tuple #[.int .i64 lo, .nilIface])) w from ZP.here h (Below.refl _ _) pl (Int.le_of_lt tl) _ fun s => (nodeZ_low h.sp tl t0 s).symm)
    clear h
    go_enter Tryd.func33, Tryd.ntmps33
    go_wp2
    go_ret2
    exact HP.out
  · have hneb : (hi == 0) = false := beq_eq_false_iff_ne.2 he
    have s0 := h.kS.cell 0
    have HMK := hide (arMake_any B gn gu gt A ⟨t, lo, hi⟩ w h.ar ⟨i64_small t0 (show t ≤ 1000000 by omega), h.i64 pl, h.i64 ph⟩)
    have HP := hide (fun (e : Ending) (w' : World) (hp : MakePost w B gn gu gt A ⟨t, lo, hi⟩ e w') => nodeZ_post (n := ⟨t, lo, hi⟩) h ⟨⟨t0, by show t < 24; omega⟩, ⟨pl, tl⟩, ⟨ph, th⟩⟩ tv he hl hp)
    clear h
    go_enter Tryd.func33, Tryd.ntmps33
    go_wp2_with fail
    refine (HMK.out).mono ?_
    rintro e w1 hp
    have hq := hide (show NodeZ w S B gn gu gt things A lo hi t e w1 from HP.out e w1 hp)
    obtain ⟨rfl, _, _⟩ := hp
    go_wp2
    go_ret2
    exact hq.out
def AtZP (w : World) (A : Ar) (x t : Int) (e : Ending) (w' : World) : Prop := e = .returned (.tuple #[.int .i64 (atZ A x t false), .int .i64 (atZ A x t true)]) ∧ Below w.heap.size w w'
theorem atZ_isI {A : Ar} {h t : Int} {n : Nd} (e : gotA A h = some n) (hv : n.var = t) (b : Bool) : atZ A h t b = if b then n.high else n.low := by
  unfold atZ; rw [e]; simp only; rw [if_pos hv]
theorem atZ_notI {A : Ar} {h t : Int} {n : Nd} (e : gotA A h = some n) (hv : n.var ≠ t) (b : Bool) : atZ A h t b = if b then 0 else h := by
  unfold atZ; rw [e]; simp only; rw [if_neg hv]
theorem atZ_noneI {A : Ar} {h t : Int} (e : gotA A h = none) (b : Bool) : atZ A h t b = if b then 0 else h := by unfold atZ; rw [e]
set_option maxHeartbeats 1000000 in
theorem fzAt_any (x t : Int) (hk : Blk w S 58 #[.pointer (some ⟨B, 0, none⟩), .int .i64 things]) (h : ArM w B gn gu gt A) (hx : I64 x) :
    Calls Tryd.prog 48 #[.pointer (some ⟨S, 0, none⟩), .int .i64 x, .int .i64 t] w (AtZP w A x t) := by
  have s0 := hk.cell 0
  clear hk
  cases hg : gotA A x with
  | none =>
    have HGT := hide (arGet_none B gn gu gt A x w h hx hg)
    have HA := Lib.hid (fun b => atZ_noneI (t := t) hg b)
    clear h hx hg
    go_enter Tryd.func48, Tryd.ntmps48
    go_wp2_with fail
    refine (HGT.out).mono ?_
    rintro e w1 ⟨rfl, hb⟩
    go_wp2
    go_ret2
    exact ⟨by rw [HA.out, HA.out]; rfl, hb.alloc hb.size _⟩
  | some n =>
    have HGT := hide (arGet_some B gn gu gt A x n w h hx hg)
    by_cases hv : n.var = t
    · have HA := Lib.hid (fun b => atZ_isI hg hv b)
      have hvb : (n.var == t) = true := beq_iff_eq.2 hv
      clear h hx hg
      go_enter Tryd.func48, Tryd.ntmps48
      go_wp2_with fail
      refine (HGT.out).mono ?_
      rintro e w1 ⟨rfl, hb⟩
      go_wp2
      go_quiet (fail)
      go_wp2
      go_ret2
      exact ⟨by rw [HA.out, HA.out]; rfl, below_drewN (hb.alloc hb.size _) _⟩
    · have HA := Lib.hid (fun b => atZ_notI hg hv b)
      have hvb : (n.var == t) = false := beq_eq_false_iff_ne.2 hv
      clear h hx hg
      go_enter Tryd.func48, Tryd.ntmps48
      go_wp2_with fail
      refine (HGT.out).mono ?_
      rintro e w1 ⟨rfl, hb⟩
      go_wp2
      go_ret2
      exact ⟨by rw [HA.out, HA.out]; rfl, hb.alloc hb.size _⟩
end
/-- The rows of two by which a walk remembers. -/
def keyPV (x : Int × Int) : Value := .agg #[.int .i64 x.1, .int .i64 x.2]
def keyPL (x : Int × Int) : Lit := .string (keyBytes [.int .i64 x.1, .int .i64 x.2])
def okP (x : Int × Int) : Prop := I64 x.1 ∧ I64 x.2
theorem arrP : WideMaps.ArrKey Tryd.prog 68 3 2 := ⟨Tryd.underlying68, by kernel_rfl, by kernel_rfl, by kernel_rfl⟩
theorem keyP_of {x : Int × Int} (h : okP x) : keyOf Tryd.prog 68 (keyPV x) = some (keyPL x) := by
  obtain ⟨a, b⟩ := x
  obtain ⟨h1, h2⟩ := h
  have A := arrP
  have hkt := A.keyType ⟨174 - 1, by kernel_rfl⟩
  have he := Tryd.underlying3
  have hm : Tryd.prog.types.size = (174 - 1) + 1 := by kernel_rfl
  unfold keyOf keyPV keyPL
  simp only [A.hu]
  rw [if_pos (by simp [hkt, Value.formed, A.hu, A.size]), hm]
  unfold Program.keyLits
  simp only [A.hu, Value.cells]
  rw [if_pos (by rw [A.size]; rfl), show List.range 2 = [0, 1] from rfl, List.mapM_cons, List.mapM_cons, List.mapM_nil]
  simp [A.one, Program.keyLits, he, wfK h1, wfK h2]
theorem keyS_two : KeyS 68 (Int × Int) keyPV keyPL okP := by
  refine ⟨.of_law arrP.law, fun _ h => keyP_of h, fun x y e => ?_, fun _ _ => trivial⟩
  obtain ⟨a, b⟩ := x
  obtain ⟨a', b'⟩ := y
  unfold keyPV at e
  simp at e
  simp [e]
end Go.Proofs.YtdlcldhnbhlikaaDoor
