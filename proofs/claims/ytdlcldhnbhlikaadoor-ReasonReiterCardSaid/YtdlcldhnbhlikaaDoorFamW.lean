/-
  A store's walk of two families: its closures, what it remembers.
-/
import Derived.Test.YtdlcldhnbhlikaaDoorFamM
import Derived.Test.YtdlcldhnbhlikaaDoorCalm
import Derived.Laws.Cover1
import Derived.StillTailTactics
import Derived.Laws.EntriesVeiled
namespace Go.Proofs.YtdlcldhnbhlikaaDoor
open Go.RowKit Go.Maps

/-- A step of two families: what it means; what is known at once; how many nodes of the first three things it makes, by how many of them are left. -/
structure OpZ where
  g : (Nat → Bool) → (Nat → Bool) → Nat → Bool
  e : Int → Int → Option Int
  c : Nat → Nat
def min2 (a b : Int) : Int := if b < a then b else a
theorem min2_le (a b : Int) : min2 a b ≤ a ∧ min2 a b ≤ b := by unfold min2; split <;> omega
def topZ (A : Ar) (a b : Int) : Int := min2 (topA A a) (topA A b)
def kT (t : Int) : Nat := (3 - t).toNat
def kM (t : Int) : Nat := (7 - t).toNat
def qM : Nat → Nat
  | 0 => 0
  | k + 1 => 4 * qM k + 1
theorem qM_mono {a b : Nat} (h : a ≤ b) : qM a ≤ qM b := by
  induction h with
  | refl => exact Nat.le_refl _
  | step _ ih => show _ ≤ 4 * qM _ + 1; omega
structure OpOk (O : OpZ) : Prop where
  ends : ∀ {A : Ar} {things a b h : Int}, SpZ A things → hasA A a = true → hasA A b = true → O.e a b = some h → hasA A h = true ∧ topZ A a b ≤ topA A h ∧ ∀ s, fam A h s = O.g (fam A a) (fam A b) s
  goes : ∀ {A : Ar} {a b : Int}, hasA A a = true → hasA A b = true → O.e a b = none → gotA A a ≠ none ∨ gotA A b ≠ none
  mono : ∀ {x y : Nat}, x ≤ y → O.c x ≤ O.c y
/-- Where a walk's boxes lie. -/
structure Bx where
  e : Nat
  d : Nat
  s : Nat
  x : Nat
  g : Nat
  b2 : Nat
  gm : Nat
  fe : FuncId
  fm : FuncId
def ptrV (k : Nat) : Value := .pointer (some ⟨k, 0, none⟩)
def againV (K : Bx) : Value := .func (.func 55) #[] #[.pointer (some ⟨K.e, 0, none⟩), .pointer (some ⟨K.d, 0, none⟩), .pointer (some ⟨K.s, 0, none⟩), .pointer (some ⟨K.x, 0, none⟩), .pointer (some ⟨K.g, 0, none⟩)]
def MemoOk (O : OpZ) (A : Ar) (f : Int × Int → Option Int) : Prop := ∀ a b x, f (a, b) = some x → hasA A a = true ∧ hasA A b = true ∧ hasA A x = true ∧ topZ A a b ≤ topA A x ∧ ∀ s, fam A x s = O.g (fam A a) (fam A b) s
abbrev MemoM (w : World) (gm : Nat) (f : Int × Int → Option Int) (m : Nat) : Prop := MapV 68 keyPL okP w gm f m
structure WkI (O : OpZ) (K : Bx) (S B gn gu gt : Nat) (things : Int) (A : Ar) (m : Nat) (w : World) : Prop where
  fs : FsM w S B gn gu gt things A
  ke : Blk w K.e 65 #[.func (.func K.fe) #[] #[]]
  kd : Blk w K.d 96 #[.map (some K.gm)]
  ks : Blk w K.s 23 #[.pointer (some ⟨S, 0, none⟩)]
  kx : Blk w K.x 67 #[.func (.func K.fm) #[] #[.pointer (some ⟨K.b2, 0, none⟩)]]
  kg : Blk w K.g 31 #[againV K]
  k2 : Blk w K.b2 23 #[.pointer (some ⟨S, 0, none⟩)]
  memo : ∃ f, MemoM w K.gm f m ∧ MemoOk O A f
def wkB (K : Bx) (B gn gu gt : Nat) (k : Nat) : Prop := arB B gn gu gt k ∨ k = K.gm
section
variable {O : OpZ} {K : Bx} {w w' : World} {S B gn gu gt m : Nat} {things : Int} {A A' : Ar}
theorem topZ_le (A : Ar) (a b : Int) : topZ A a b ≤ topA A a ∧ topZ A a b ≤ topA A b := min2_le _ _
theorem topZ_ext (hx : ExtA A A') {a b : Int} (pa : hasA A a = true) (pb : hasA A b = true) : topZ A' a b = topZ A a b := by
  unfold topZ; rw [hx.top pa, hx.top pb]
theorem SpZ.fun_ {things' : Int} (h : SpZ A things) (h' : SpZ A' things') (hx : ExtA A A') {x : Int} (p : hasA A x = true) : fam A' x = fam A x := funext fun s => h.same h' hx p s
theorem MemoOk.ext {f : Int × Int → Option Int} (hc : MemoOk O A f) (h : SpZ A things) (h' : SpZ A' things) (hx : ExtA A A') : MemoOk O A' f := fun a b x e => by
  obtain ⟨p1, p2, p3, p4, p5⟩ := hc a b x e
  refine ⟨hx.has p1, hx.has p2, hx.has p3, by rw [topZ_ext hx p1 p2, hx.top p3]; exact p4, fun s => ?_⟩
  rw [h.fun_ h' hx p1, h.fun_ h' hx p2, h.fun_ h' hx p3]
  exact p5 s
theorem MemoOk.put {f : Int × Int → Option Int} (hc : MemoOk O A f) {a b x : Int} (pa : hasA A a = true) (pb : hasA A b = true) (px : hasA A x = true) (ht : topZ A a b ≤ topA A x) (hf : ∀ s, fam A x s = O.g (fam A a) (fam A b) s) :
    MemoOk O A (fun y => if y = (a, b) then some x else f y) := fun a' b' x' e => by
  simp only at e
  split at e
  · rename_i h
    cases h
    cases e
    exact ⟨pa, pb, px, ht, hf⟩
  · exact hc a' b' x' e
theorem notAr {t : TypeId} {g : Nat} {cs : Array Value} (h : ArM w B gn gu gt A) (hk : Blk w g t cs) (h1 : t ≠ 93) (h2 : t ≠ 71) (h3 : t ≠ 4) (h4 : t ≠ 3) : ¬ arB B gn gu gt g := by
  obtain ⟨ns, us, tab, _, k2, k3, k4, k5⟩ := h.is
  rintro (e | e | e | e)
  · exact hk.ne_ k2 h1 e
  · exact hk.ne_ k3 h2 e
  · exact hk.ne_ k4 h3 e
  · exact hk.ne_ k5 h4 e
theorem WkI.gm_ (h : WkI O K S B gn gu gt things A m w) {t : TypeId} {g : Nat} {cs : Array Value} (hk : Blk w g t cs) : g ≠ K.gm := by
  obtain ⟨f, hm, _⟩ := h.memo
  exact blk_mapV hk hm
/-- A box of another kind than the arena's stays. -/
theorem WkI.box (h : WkI O K S B gn gu gt things A m w) {t : TypeId} {g : Nat} {cs : Array Value} (hf : Fr (wkB K B gn gu gt) w w') (hk : Blk w g t cs) (h1 : t ≠ 93) (h2 : t ≠ 71) (h3 : t ≠ 4) (h4 : t ≠ 3) : Blk w' g t cs :=
  hk.fr hf fun e => e.elim (notAr h.fs.ar hk h1 h2 h3 h4) (h.gm_ hk)
theorem WkI.gmA (h : WkI O K S B gn gu gt things A m w) : ¬ arB B gn gu gt K.gm := by
  obtain ⟨ns, us, tab, _, h2, h3, h4, h5⟩ := h.fs.ar.is
  rintro (e | e | e | e)
  · exact h.gm_ h2 e.symm
  · exact h.gm_ h3 e.symm
  · exact h.gm_ h4 e.symm
  · exact h.gm_ h5 e.symm
theorem WkI.lt (h : WkI O K S B gn gu gt things A m w) {k : Nat} (hk : wkB K B gn gu gt k) : k < w.heap.size := by
  obtain ⟨f, hm, _⟩ := h.memo
  rcases hk with hk | rfl
  · exact h.fs.ar.lt hk
  · exact hm.lt
theorem WkI.below (h : WkI O K S B gn gu gt things A m w) (hb : Below w.heap.size w w') : WkI O K S B gn gu gt things A m w' := by
  obtain ⟨f, hm, ho⟩ := h.memo
  exact ⟨h.fs.below hb, h.ke.below hb h.ke.lt, h.kd.below hb h.kd.lt, h.ks.below hb h.ks.lt, h.kx.below hb h.kx.lt, h.kg.below hb h.kg.lt, h.k2.below hb h.k2.lt, f, hm.below hb hm.lt, ho⟩
/-- After a step that turns the arena alone. -/
theorem WkI.arena (h : WkI O K S B gn gu gt things A m w) (hs : FsM w' S B gn gu gt things A') (hx : ExtA A A') (hf : Fr (arB B gn gu gt) w w') : WkI O K S B gn gu gt things A' m w' := by
  have hf2 : Fr (wkB K B gn gu gt) w w' := hf.mono fun k _ hk => .inl hk
  obtain ⟨f, hm, ho⟩ := h.memo
  exact ⟨hs, h.box hf2 h.ke (by decide) (by decide) (by decide) (by decide), h.box hf2 h.kd (by decide) (by decide) (by decide) (by decide), h.box hf2 h.ks (by decide) (by decide) (by decide) (by decide),
    h.box hf2 h.kx (by decide) (by decide) (by decide) (by decide), h.box hf2 h.kg (by decide) (by decide) (by decide) (by decide), h.box hf2 h.k2 (by decide) (by decide) (by decide) (by decide), f, hm.fr hf h.gmA, ho.ext h.fs.sp hs.sp hx⟩
/-- After something is remembered. -/
theorem WkI.put (h : WkI O K S B gn gu gt things A m w) {f : Int × Int → Option Int} {m' : Nat} (hg : w.grownBy w' (some K.gm)) (hm : MemoM w' K.gm f m') (ho : MemoOk O A f) : WkI O K S B gn gu gt things A m' w' := by
  have hS := h.gm_ h.fs.kS
  have bx : ∀ {t : TypeId} {g : Nat} {cs : Array Value}, Blk w g t cs → Blk w' g t cs := fun hk => hk.grown hg fun e => by injection e with e; exact h.gm_ hk e
  refine ⟨h.fs.keep fun k hk => hg.block k (hk.elim (fun a => h.fs.ar.lt a) (fun e => by rw [e]; exact h.fs.kS.lt)) (fun e => ?_), bx h.ke, bx h.kd, bx h.ks, bx h.kx, bx h.kg, bx h.k2, f, hm, ho⟩
  injection e with e
  subst e
  exact hk.elim h.gmA (fun e => hS e.symm)
end
/-- What a walk answers. -/
def WkP (O : OpZ) (K : Bx) (S B gn gu gt : Nat) (things : Int) (A : Ar) (m : Nat) (w : World) (a b : Int) (d : Nat) (e : Ending) (w' : World) : Prop :=
  ∃ A' h m', e = .returned (.tuple #[.int .i64 h, .nilIface]) ∧ WkI O K S B gn gu gt things A' m' w' ∧ StpZ A A' things (O.c (kT (topZ A a b))) (topZ A a b) h (O.g (fam A a) (fam A b)) ∧ m' + d ≤ m + qM (kM (topZ A a b)) ∧ Fr (wkB K B gn gu gt) w w'
/-- What a walk is asked of. -/
structure WkA (O : OpZ) (K : Bx) (S B gn gu gt : Nat) (things : Int) (A : Ar) (m : Nat) (w : World) (a b : Int) : Prop where
  wk : WkI O K S B gn gu gt things A m w
  pa : hasA A a = true
  pb : hasA A b = true
  low : low3 A + O.c (kT (topZ A a b)) ≤ 2000
  most : m + qM (kM (topZ A a b)) ≤ 1000000
def EnF (f : FuncId) : Prop := ∀ (args : Array Value) (w : World), (callFunc f args).run Tryd.prog w = .ok (.enter f args) w
def EndsC (O : OpZ) (fe : FuncId) : Prop := EnF fe ∧ ∀ a b w, Calls Tryd.prog fe #[.int .i64 a, .int .i64 b] w (fun e w' => e = .returned (.tuple #[.int .i64 ((O.e a b).getD 0), .bool (O.e a b).isSome]) ∧ w = w')
def AgC (O : OpZ) (K : Bx) (S B gn gu gt : Nat) (things t : Int) : Prop := ∀ (a b : Int) (A : Ar) (m : Nat) (w : World), t < topZ A a b → WkA O K S B gn gu gt things A m w a b →
  Calls Tryd.prog 55 #[.int .i64 a, .int .i64 b, .pointer (some ⟨K.e, 0, none⟩), .pointer (some ⟨K.d, 0, none⟩), .pointer (some ⟨K.s, 0, none⟩), .pointer (some ⟨K.x, 0, none⟩), .pointer (some ⟨K.g, 0, none⟩)] w (WkP O K S B gn gu gt things A m w a b 0)
def MixC (O : OpZ) (K : Bx) (S B gn gu gt : Nat) (things t : Int) : Prop := ∀ (a b : Int) (A : Ar) (m : Nat) (w : World), topZ A a b = t → 0 ≤ t → t < things → O.e a b = none → WkA O K S B gn gu gt things A m w a b →
  Calls Tryd.prog K.fm #[.int .i64 t, .int .i64 (atZ A a t false), .int .i64 (atZ A a t true), .int .i64 (atZ A b t false), .int .i64 (atZ A b t true), againV K, .pointer (some ⟨K.b2, 0, none⟩)] w (WkP O K S B gn gu gt things A m w a b 1)
section
variable (O : OpZ) (K : Bx) (S B gn gu gt : Nat) (things : Int) (A : Ar) (m : Nat) (w : World)
theorem topZ_lt {a b : Int} (hO : OpOk O) (h : SpZ A things) (pa : hasA A a = true) (pb : hasA A b = true) (he : O.e a b = none) : 0 ≤ topZ A a b ∧ topZ A a b < things := by
  have ha := h.wf.topR a
  have hb := h.wf.topR b
  have hl := topZ_le A a b
  refine ⟨by unfold topZ min2; split <;> omega, ?_⟩
  rcases hO.goes pa pb he with e | e
  · cases e1 : gotA A a with
    | none => exact absurd e1 e
    | some d => have := h.var _ _ e1; have := top_some e1; omega
  · cases e1 : gotA A b with
    | none => exact absurd e1 e
    | some d => have := h.var _ _ e1; have := top_some e1; omega
set_option maxRecDepth 100000 in
set_option maxHeartbeats 2000000 in
theorem again_ends (a b x : Int) (hO : OpOk O) (hE : EndsC O K.fe) (h : WkA O K S B gn gu gt things A m w a b) (he : O.e a b = some x) :
    Calls Tryd.prog 55 #[.int .i64 a, .int .i64 b, .pointer (some ⟨K.e, 0, none⟩), .pointer (some ⟨K.d, 0, none⟩), .pointer (some ⟨K.s, 0, none⟩), .pointer (some ⟨K.x, 0, none⟩), .pointer (some ⟨K.g, 0, none⟩)] w (WkP O K S B gn gu gt things A m w a b 0) := by
  obtain ⟨p1, p2, p3⟩ := hO.ends h.wk.fs.sp h.pa h.pb he
  have HP := hide (show WkP O K S B gn gu gt things A m w a b 0 (.returned (.tuple #[.int .i64 x, .nilIface])) w from ⟨A, x, m, rfl, h.wk, .refl h.wk.fs.sp p1 p2 _ p3, by omega, .refl _ _⟩)
  have HE := hide (hE.2 a b w)
  have ec : ∀ (args : Array Value) (w : World), (callFunc K.fe args).run Tryd.prog w = .ok (.enter K.fe args) w := hE.1
  rw [he] at HE
  have ce := h.wk.ke.cell 0
  clear h hO hE he p1 p2 p3
  go_enter Tryd.func55, Tryd.ntmps55
  go_wp2_with fail
  refine (HE.out).mono ?_
  rintro e w1 ⟨rfl, rfl⟩
  go_wp2
  go_ret2
  exact HP.out
theorem MemoM.look {w : World} {gm m : Nat} {f : Int × Int → Option Int} (h : MemoM w gm f m) {a b : Int} (hk : okP (a, b)) :
    (Instr.lookup 96 (.map (some gm)) (.agg #[.int .i64 a, .int .i64 b]) true).run Tryd.prog w = .ok (.tuple #[.int .i64 ((f (a, b)).getD 0), .bool (f (a, b)).isSome]) w :=
  MapV.lookRun keyS_two Tryd.underlying96 h (a, b) hk
set_option maxRecDepth 100000 in
set_option maxHeartbeats 4000000 in
theorem again_known (a b x : Int) (hE : EndsC O K.fe) (h : WkA O K S B gn gu gt things A m w a b) (he : O.e a b = none) (f : Int × Int → Option Int) (hc : MemoM w K.gm f m) (ho : MemoOk O A f) (hf : f (a, b) = some x) :
    Calls Tryd.prog 55 #[.int .i64 a, .int .i64 b, .pointer (some ⟨K.e, 0, none⟩), .pointer (some ⟨K.d, 0, none⟩), .pointer (some ⟨K.s, 0, none⟩), .pointer (some ⟨K.x, 0, none⟩), .pointer (some ⟨K.g, 0, none⟩)] w (WkP O K S B gn gu gt things A m w a b 0) := by
  obtain ⟨_, _, p1, p2, p3⟩ := ho a b x hf
  have HB := hide ((Below.refl w.heap.size w).alloc (Nat.le_refl _) (.cells #[.int .i64 a, .int .i64 b] 68))
  have HP := hide (fun (w' : World) (hb : Below w.heap.size w w') => show WkP O K S B gn gu gt things A m w a b 0 (.returned (.tuple #[.int .i64 x, .nilIface])) w' from ⟨A, x, m, rfl, h.wk.below hb, .refl h.wk.fs.sp p1 p2 _ p3, by omega, .of_below hb (Nat.le_refl _)⟩)
  have HK := hide (Blk.new w 68 #[.int .i64 a, .int .i64 b])
  have HW := hide (h.wk.below HB.out)
  have HE := hide (hE.2 a b w)
  have ec : ∀ (args : Array Value) (w : World), (callFunc K.fe args).run Tryd.prog w = .ok (.enter K.fe args) w := hE.1
  rw [he] at HE
  have ce := h.wk.ke.cell 0
  have hlk := MemoM.look (w := w.alloc (.cells #[.int .i64 a, .int .i64 b] 68)) (hc.below HB.out hc.lt) (show okP (a, b) from ⟨h.wk.fs.i64 h.pa, h.wk.fs.i64 h.pb⟩)
  simp only [hf, Option.getD_some, Option.isSome_some] at hlk
  clear h hE he hc ho hf p1 p2 p3
  go_enter Tryd.func55, Tryd.ntmps55
  go_wp2_with fail
  refine (HE.out).mono ?_
  rintro e w1 ⟨rfl, rfl⟩
  have cd := HW.out.kd.cell 0
  have k0 := HK.out.cell 0
  have k1 := HK.out.cell 1
  go_wp2
  go_ret2
  exact HP.out _ HB.out
set_option maxRecDepth 100000 in
set_option maxHeartbeats 8000000 in
/-- A step of a walk. -/
theorem again_miss (a b : Int) (hO : OpOk O) (hE : EndsC O K.fe) (h : WkA O K S B gn gu gt things A m w a b) (he : O.e a b = none) (f : Int × Int → Option Int) (hc : MemoM w K.gm f m) (hf : f (a, b) = none) (hM : EnF K.fm ∧ MixC O K S B gn gu gt things (topZ A a b)) :
    Calls Tryd.prog 55 #[.int .i64 a, .int .i64 b, .pointer (some ⟨K.e, 0, none⟩), .pointer (some ⟨K.d, 0, none⟩), .pointer (some ⟨K.s, 0, none⟩), .pointer (some ⟨K.x, 0, none⟩), .pointer (some ⟨K.g, 0, none⟩)] w (WkP O K S B gn gu gt things A m w a b 0) := by
  have hT := topZ_lt O things A hO h.wk.fs.sp h.pa h.pb he
  have hOK := Lib.hid (show okP (a, b) from ⟨h.wk.fs.i64 h.pa, h.wk.fs.i64 h.pb⟩)
  have HI := hide h
  have HB := hide ((Below.refl w.heap.size w).alloc (Nat.le_refl _) (.cells #[.int .i64 a, .int .i64 b] 68))
  have HK := hide (Blk.new w 68 #[.int .i64 a, .int .i64 b])
  have HW := hide (h.wk.below HB.out)
  have HNE := Lib.hid he
  have HMX := Lib.hid hM
  have HE := hide (hE.2 a b w)
  have ec : ∀ (args : Array Value) (w : World), (callFunc K.fe args).run Tryd.prog w = .ok (.enter K.fe args) w := hE.1
  rw [he] at HE
  have ce := h.wk.ke.cell 0
  have hlk := MemoM.look (w := w.alloc (.cells #[.int .i64 a, .int .i64 b] 68)) (hc.below HB.out hc.lt) hOK.out
  simp only [hf, Option.getD_none, Option.isSome_none] at hlk
  have hgS : ∀ k, wkB K B gn gu gt k → k ≠ w.heap.size := fun k hk e => by have := h.wk.lt hk; omega
  have HGS := Lib.hid hgS
  clear h hE he hc hf hM hO hgS
  go_enter Tryd.func55, Tryd.ntmps55
  go_wp2_with fail
  refine (HE.out).mono ?_
  rintro e w1 ⟨rfl, rfl⟩
  have cd := HW.out.kd.cell 0
  have cs := HW.out.ks.cell 0
  have k0 := HK.out.cell 0
  have k1 := HK.out.cell 1
  go_wp2
  generalize w.alloc (.cells #[.int .i64 a, .int .i64 b] 68) = w1 at HB HW HK hlk cd cs k0 k1 ⊢
  have hgS := HGS.out
  generalize w.heap.size = g9 at HK hgS k0 k1 ⊢
  have HTA := hide (fun c : Calm w1 => arTop_any B gn gu gt A a c.val (HW.out.below c.bel).fs.ar hOK.out.1)
  have HTB := hide (fun c : Calm w1 => arTop_any B gn gu gt A b c.val (HW.out.below c.bel).fs.ar hOK.out.2)
  have hsl := HW.out.fs.kS.lt
  have hkl := HW.out.ks.lt
  have z0 := fun c : Calm w1 => (c.cell (i := 0) hsl).trans (HW.out.fs.kS.cell 0)
  have z1 := fun c : Calm w1 => (c.cell (i := 0) hkl).trans (HW.out.ks.cell 0)
  have hmin : (if topA A b < topA A a then topA A b else topA A a) = topZ A a b := rfl
  clear cd cs k0 k1 ce hlk HE ec
  refine wp_region_calm (by kernel_rfl) (by kernel_rfl) ?_
  repeat (go_big_quiet_step (fail))
  go_big_quiet_want
  go_big_quiet_op
  go_big_quiet_call ((go_at_call 56; refine (HTA.out _).mono ?_; rintro e w2 ⟨rfl, hb0⟩; exact ⟨rfl, Calm.on _ hb0⟩))
  repeat (go_big_quiet_step (fail))
  go_big_quiet_want
  go_big_quiet_op
  go_big_quiet_call ((go_at_call 56; refine (HTB.out _).mono ?_; rintro e w2 ⟨rfl, hb0⟩; exact ⟨rfl, Calm.on _ hb0⟩))
  repeat (go_big_quiet_step (fail))
  refine wpQuiet_nil ?_
  rintro _ ⟨cw, rfl⟩
  try rw [hmin]
  have HW3 := hide (HW.out.below cw.bel)
  have HK3 := hide (HK.out.below cw.bel HK.out.lt)
  have HB3 := hide (HB.out.trans (cw.bel.mono HB.out.size))
  clear z0 z1 hmin HTA HTB HW HK HB hsl hkl
  generalize cw.val = w3 at HW3 HK3 HB3 ⊢
  have HA1 := hide (fzAt_any S B gn gu gt things A w3 a (topZ A a b) HW3.out.fs.kS HW3.out.fs.ar hOK.out.1)
  have cs := HW3.out.ks.cell 0
  go_wp2_with fail
  refine (HA1.out).mono ?_
  rintro e w4 ⟨rfl, hb4⟩
  have HW4 := hide (HW3.out.below hb4)
  have HK4 := hide (HK3.out.below hb4 HK3.out.lt)
  have HB4 := hide (HB3.out.trans (hb4.mono HB3.out.size))
  clear HW3 HK3 HB3 HA1 hb4 cs
  have HA2 := hide (fzAt_any S B gn gu gt things A w4 b (topZ A a b) HW4.out.fs.kS HW4.out.fs.ar hOK.out.2)
  have cs := HW4.out.ks.cell 0
  go_wp2_with fail
  refine (HA2.out).mono ?_
  rintro e w5 ⟨rfl, hb5⟩
  have HW5 := hide (HW4.out.below hb5)
  have HK5 := hide (HK4.out.below hb5 HK4.out.lt)
  have HB5 := hide (HB4.out.trans (hb5.mono HB4.out.size))
  clear HW4 HK4 HB4 HA2 hb5 cs
  have HR := hide (HMX.out.2 a b A m w5 rfl hT.1 hT.2 HNE.out ⟨HW5.out, HI.out.pa, HI.out.pb, HI.out.low, HI.out.most⟩)
  have em : ∀ (args : Array Value) (w : World), (callFunc K.fm args).run Tryd.prog w = .ok (.enter K.fm args) w := HMX.out.1
  have cx := HW5.out.kx.cell 0
  have cg := HW5.out.kg.cell 0
  unfold againV at HR cg
  go_wp2_with fail
  refine (HR.out).mono ?_
  rintro e w6 ⟨A1, x, m1, rfl, hw6, T1, hm1, hf6⟩
  have HW6 := hide hw6
  have HT1 := hide T1
  have HF6 := hide ((Fr.of_below (S := wkB K B gn gu gt) HB5.out (Nat.le_refl _)).trans hf6)
  have HK6 := hide (HK5.out.fr hf6 (fun hk => hgS _ hk rfl))
  have hmost := HI.out.most
  clear hw6 T1 hf6 HW5 HK5 HB5 HR cx cg em
  obtain ⟨f3, hc3, ho3⟩ := HW6.out.memo
  have HC3 := hide hc3
  have HO3 := hide ho3
  clear hc3 ho3
  have cd := HW6.out.kd.cell 0
  have k0 := HK6.out.cell 0
  have k1 := HK6.out.cell 1
  have hxI := HW6.out.fs.i64 HT1.out.has
  have HSP := HI.out.wk.fs.sp
  go_wp2_with (first
    | (at_mapUpdate; refine storeV keyS_two rfl _ _ _ 96 rfl Tryd.underlying96 rfl HC3.out (a, b) x rfl rfl hOK.out hxI (by omega) ?_; intro w10 hm4 hg4; have HM4 := hide hm4; have HG4 := hide hg4; clear hm4 hg4)
    | fail)
  go_ret2
  have hx := HT1.out.ext
  have e1 := HSP.fun_ HT1.out.sp hx HI.out.pa
  have e2 := HSP.fun_ HT1.out.sp hx HI.out.pb
  refine ⟨A1, x, m1 + 1, rfl, HW6.out.put HG4.out HM4.out (HO3.out.put (hx.has HI.out.pa) (hx.has HI.out.pb) HT1.out.has ?_ fun s => ?_), HT1.out, hm1, HF6.out.grown HG4.out (fun k e => by cases e; exact .inr rfl)⟩
  · rw [topZ_ext hx HI.out.pa HI.out.pb]
    exact HT1.out.top
  · rw [e1, e2]
    exact HT1.out.fam s
theorem again_all (hO : OpOk O) (hE : EndsC O K.fe) (hmx : EnF K.fm ∧ ∀ t, AgC O K S B gn gu gt things t → MixC O K S B gn gu gt things t) : ∀ (n : Nat) (a b : Int) (A : Ar) (m : Nat) (w : World), (24 - topZ A a b).toNat ≤ n → WkA O K S B gn gu gt things A m w a b →
    Calls Tryd.prog 55 #[.int .i64 a, .int .i64 b, .pointer (some ⟨K.e, 0, none⟩), .pointer (some ⟨K.d, 0, none⟩), .pointer (some ⟨K.s, 0, none⟩), .pointer (some ⟨K.x, 0, none⟩), .pointer (some ⟨K.g, 0, none⟩)] w (WkP O K S B gn gu gt things A m w a b 0) := by
  intro n
  induction n with
  | zero =>
    intro a b A m w hn h
    cases he : O.e a b with
    | some x => exact again_ends O K S B gn gu gt things A m w a b x hO hE h he
    | none =>
      have hT := topZ_lt O things A hO h.wk.fs.sp h.pa h.pb he
      have := h.wk.fs.t6
      omega
  | succ n ih =>
    intro a b A m w hn h
    cases he : O.e a b with
    | some x => exact again_ends O K S B gn gu gt things A m w a b x hO hE h he
    | none =>
      have hT := topZ_lt O things A hO h.wk.fs.sp h.pa h.pb he
      have h6 := h.wk.fs.t6
      obtain ⟨f, hc, ho⟩ := h.wk.memo
      cases hf : f (a, b) with
      | some x => exact again_known O K S B gn gu gt things A m w a b x hE h he f hc ho hf
      | none => exact again_miss O K S B gn gu gt things A m w a b hO hE h he f hc hf ⟨hmx.1, hmx.2 _ fun a' b' A' m' w' h1 h2 => ih a' b' A' m' w' (by omega) h2⟩
theorem again_any (hO : OpOk O) (hE : EndsC O K.fe) (hmx : EnF K.fm ∧ ∀ t, AgC O K S B gn gu gt things t → MixC O K S B gn gu gt things t) (a b : Int) (h : WkA O K S B gn gu gt things A m w a b) :
    Calls Tryd.prog 55 #[.int .i64 a, .int .i64 b, .pointer (some ⟨K.e, 0, none⟩), .pointer (some ⟨K.d, 0, none⟩), .pointer (some ⟨K.s, 0, none⟩), .pointer (some ⟨K.x, 0, none⟩), .pointer (some ⟨K.g, 0, none⟩)] w (WkP O K S B gn gu gt things A m w a b 0) :=
  again_all O K S B gn gu gt things hO hE hmx _ a b A m w (Nat.le_refl _) h
end
end Go.Proofs.YtdlcldhnbhlikaaDoor
