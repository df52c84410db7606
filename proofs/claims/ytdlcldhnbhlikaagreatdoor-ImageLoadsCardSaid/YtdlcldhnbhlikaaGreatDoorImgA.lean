/-
  image.Save's closure: its memory; a handle that has a number already. image.Save's closure: a node that is written.
-/
import Derived.Test.YtdlcldhnbhlikaaGreatDoorImgPure
import Derived.Test.YtdlcldhnbhlikaaGreatDoorImgMap
import Derived.Test.YtdlcldhnbhlikaaGreatDoorBddNeeds
import Derived.Test.YtdlcldhnbhlikaaGreatDoorVerA
import Derived.Test.YtdlcldhnbhlikaaGreatDoorBufLay
import Derived.Lib.OthersKept
import Derived.Test.YtdlcldhnbhlikaaGreatDoorFamMap
import Derived.Test.YtdlcldhnbhlikaaGreatDoorBddOps
import Derived.Deep.RegionHeld3
import Derived.BigQuiet
namespace Go.Proofs.YtdlcldhnbhlikaaGreatDoor
open Go.RowKit Go.Maps

/-- The lines of what is written. -/
def bodyL (A : Ar) (ks : List Int) : List UInt8 := (linesI A ks).flatMap fun zs => textF zs ++ [10]
open Classical in
noncomputable def numO (ks : List Int) (x : Int) : Option Int := if inI ks x then some (numI ks x : Int) else none
/-- Where Save's boxes lie. -/
structure ImB where
  n : Nat
  s : Nat
  f : Nat
  b : Nat
  gd : Nat
def saveV (K : ImB) : Value := .func (.func 34) #[] #[.pointer (some ⟨K.n, 0, none⟩), .pointer (some ⟨K.s, 0, none⟩), .pointer (some ⟨K.f, 0, none⟩), .pointer (some ⟨K.b, 0, none⟩)]
structure ImI (K : ImB) (S B gn gu gt gc : Nat) (vars : Int) (A : Ar) (base : Nat) (ks : List Int) (w : World) : Prop where
  sp : SpB w S B gn gu gt gc vars A
  kn : Blk w K.n 93 #[.map (some K.gd)]
  kz : Blk w K.s 23 #[.pointer (some ⟨S, 0, none⟩)]
  kf : Blk w K.f 98 #[saveV K]
  buf : Lib.IsBuffer 97 5 base K.b (Lib.byteCells (bodyL A ks)) w
  map : MapX w K.gd (numO ks) (ks.length + 2)
  ok : KsOk A ks
  ge : base ≤ K.gd
/-- What stays, but for the map and the buffer. -/
def KeptI (K : ImB) (w w' : World) : Prop := w.heap.size ≤ w'.heap.size ∧ ∀ k o, w.heap[k]? = some o → k ≠ K.b → k ≠ K.gd → (∀ c fz, o ≠ .cells c 5 fz) → w'.heap[k]? = some o
section
variable {K : ImB} {S B gn gu gt gc base : Nat} {vars : Int} {A : Ar} {ks : List Int} {w w' w'' : World}
theorem KeptI.refl (K : ImB) (w : World) : KeptI K w w := ⟨Nat.le_refl _, fun _ _ h _ _ _ => h⟩
theorem KeptI.trans (h : KeptI K w w') (k : KeptI K w' w'') : KeptI K w w'' := ⟨Nat.le_trans h.1 k.1, fun i o h1 h2 h3 h4 => k.2 i o (h.2 i o h1 h2 h3 h4) h2 h3 h4⟩
theorem KeptI.blk {t : TypeId} {g : Nat} {cs : Array Value} (h : KeptI K w w') (hk : Blk w g t cs) (ht : t ≠ 5) (h1 : g ≠ K.b) (h2 : g ≠ K.gd) : Blk w' g t cs :=
  h.2 g _ hk h1 h2 fun c fz e => ht (by injection e)
theorem KeptI.below (hb : Below w.heap.size w w') : KeptI K w w' := ⟨hb.size, fun k o h _ _ _ => by
  have hl : k < w.heap.size := by
    rcases Nat.lt_or_ge k w.heap.size with h' | h'
    · exact h'
    · simp [Array.getElem?_eq_none h'] at h
  exact (hb.block k hl).trans h⟩
theorem ImI.below (h : ImI K S B gn gu gt gc vars A base ks w) (hb : Below w.heap.size w w') : ImI K S B gn gu gt gc vars A base ks w' := by
  refine ⟨h.sp.below hb, h.kn.below hb h.kn.lt, h.kz.below hb h.kz.lt, h.kf.below hb h.kf.lt, ?_, h.map.below hb h.map.lt, h.ok, h.ge⟩
  obtain ⟨h1, v, lr, h2, h3, h4⟩ := h.buf
  exact ⟨h1, v, lr, (hb.block _ h.buf.lt).trans h2, World.ownsRow.kept h3 (row := none) ⟨hb.os, hb.tape, hb.output, hb.size, fun i hi _ => hb.block i hi⟩ (by cases v.ownBlock <;> simp), h4⟩
theorem numO_in {x : Int} (h : inI ks x) : numO ks x = some (numI ks x : Int) := if_pos h
theorem numO_not {x : Int} (h : ¬ inI ks x) : numO ks x = none := if_neg h
/-- What a walk of the closure answers. -/
def SvP (K : ImB) (S B gn gu gt gc : Nat) (vars : Int) (A : Ar) (base : Nat) (ks : List Int) (h : Int) (w : World) (e : Ending) (w' : World) : Prop :=
  e = .returned (.tuple #[]) ∧ ImI K S B gn gu gt gc vars A base (imgA A h ks) w' ∧ Below base w w' ∧ KeptI K w w'
set_option maxHeartbeats 2000000 in
theorem save_known (x : Int) (h : ImI K S B gn gu gt gc vars A base ks w) (hx : I64 x) (hi : inI ks x) (he : imgA A x ks = ks) :
    Calls Tryz.prog 34 #[.int .i64 x, .pointer (some ⟨K.n, 0, none⟩), .pointer (some ⟨K.s, 0, none⟩), .pointer (some ⟨K.f, 0, none⟩), .pointer (some ⟨K.b, 0, none⟩)] w (SvP K S B gn gu gt gc vars A base ks x w) := by
  have hlk := MapV.lookRun keyS_int Tryz.underlying93 h.map.toV x hx
  rw [numO_in hi] at hlk
  have c0 := h.kn.cell 0
  have HP := hide (show SvP K S B gn gu gt gc vars A base ks x w (.returned (.tuple #[])) w from ⟨rfl, by rw [he]; exact h, .refl _ _, .refl K w⟩)
  clear h hi he
  go_enter Tryz.func34, Tryz.ntmps34
  go_wp2
  (try simp only [Exit.inBlock, Exit.then]); first | refine bodyPost_end (results_none rfl _ _ _) rfl ?_ | refine bodyPost_ret (results_none rfl _ _ _) rfl ?_
  exact HP.out
end
end Go.Proofs.YtdlcldhnbhlikaaGreatDoor
namespace Go.Proofs.YtdlcldhnbhlikaaGreatDoor
open Go.RowKit Go.Maps

section
variable {K : ImB} {S B gn gu gt gc base : Nat} {vars : Int} {A : Ar} {ks : List Int} {w w' w'' : World} {x : Int} {d : Nd}
theorem img_fresh (hw : WfA A) (e : gotA A x = some d) (hm : x ∉ ks) (hk : KsOk A ks) : x ∉ imgA A d.high (imgA A d.low ks) := by
  have h1 := hw.kid e false
  have h2 := hw.kid e true
  have h3 := top_some e
  simp only [Bool.false_eq_true, if_false, if_true] at h1 h2
  obtain ⟨a1, _, t1, a3, a4⟩ := img_ok hw _ d.low ks (Nat.le_refl _) h1.2 hk
  obtain ⟨_, _, t2, b3, b4⟩ := img_ok hw _ d.high (imgA A d.low ks) (Nat.le_refl _) h2.2 a1
  rw [b3, a3]
  intro hc
  rcases List.mem_append.1 hc with hc | hc
  · rcases List.mem_append.1 hc with hc | hc
    · exact hm hc
    · have := a4 x hc; omega
  · have := b4 x hc; omega
theorem node_two (e : gotA A x = some d) : 2 ≤ x := by
  obtain ⟨k, rfl, _⟩ := gotA_is e
  omega
theorem numO_snoc (h2 : 2 ≤ x) (hn : x ∉ ks) (y : Int) : (if y = x then some ((ks.length + 2 : Nat) : Int) else numO ks y) = numO (ks ++ [x]) y := by
  by_cases e : y = x
  · subst e
    rw [if_pos rfl, numO_in (.inr (.inr (by simp))), num_new (by omega) (by omega) hn]
  · rw [if_neg e]
    by_cases hi : inI ks y
    · rw [numO_in hi, numO_in (inI_app hi), num_app hi]
    · rw [numO_not hi, numO_not]
      rintro (h | h | h)
      · exact hi (.inl h)
      · exact hi (.inr (.inl h))
      · rcases List.mem_append.1 h with h | h
        · exact hi (.inr (.inr h))
        · exact e (List.mem_singleton.1 h)
theorem KsOk.few (h : KsOk A ks) : ks.length ≤ A.length := by
  have hn : (ks.map fun k : Int => (k - 2).toNat).Nodup := by
    rw [List.Nodup, List.pairwise_map]
    refine h.nd.imp_of_mem fun {a b} ha hb hab e => hab ?_
    obtain ⟨_, e1, _⟩ := h.got a ha
    obtain ⟨_, e2, _⟩ := h.got b hb
    have := node_two e1
    have := node_two e2
    omega
  have := nodup_few A.length _ hn fun y hy => by
    obtain ⟨k, hk, rfl⟩ := List.mem_map.1 hy
    obtain ⟨_, e1, _⟩ := h.got k hk
    obtain ⟨j, rfl, hj, _⟩ := gotA_is e1
    omega
  simpa using this
theorem isBuf_kept {T e : TypeId} {b : Nat} {bs : List Value} (h : Lib.IsBuffer T e base b bs w) (hb : Below w.heap.size w w') : Lib.IsBuffer T e base b bs w' := by
  have hl := h.lt
  obtain ⟨h1, v, lr, h2, h3, h4⟩ := h
  exact ⟨h1, v, lr, (hb.block _ hl).trans h2, World.ownsRow.kept h3 (row := none) ⟨hb.os, hb.tape, hb.output, hb.size, fun i hi _ => hb.block i hi⟩ (by cases v.ownBlock <;> simp), h4⟩
theorem buf_ne {T e t : TypeId} {b g : Nat} {bs : List Value} {cs : Array Value} (h : Lib.IsBuffer T e base b bs w) (hk : Blk w g t cs) (ht : t ≠ T) : g ≠ b := by
  obtain ⟨_, v, lr, h2, _⟩ := h
  rintro rfl
  have h3 : w.heap[g]? = some (.cells cs t (0, 0)) := hk
  rw [h3] at h2
  injection h2 with h2
  injection h2 with _ h2
  exact ht h2
theorem ImI.gd_ne (h : ImI K S B gn gu gt gc vars A base ks w) {t : TypeId} {g : Nat} {cs : Array Value} (hk : Blk w g t cs) : g ≠ K.gd := blk_mapV hk h.map.toV
/-- What is no map and no bytes stays. -/
theorem ImI.rest (h : ImI K S B gn gu gt gc vars A base ks w) (hk : KeptI K w w') : SpB w' S B gn gu gt gc vars A ∧ Blk w' K.n 93 #[.map (some K.gd)] ∧ Blk w' K.s 23 #[.pointer (some ⟨S, 0, none⟩)] ∧ Blk w' K.f 98 #[saveV K] := by
  have bx : ∀ {t : TypeId} {g : Nat} {cs : Array Value}, Blk w g t cs → t ≠ 5 → t ≠ 97 → Blk w' g t cs := fun hb h1 h2 => hk.blk hb h1 (buf_ne h.buf hb h2) (h.gd_ne hb)
  obtain ⟨ns, us, tab, _, k2, k3, k4, k5⟩ := h.sp.ar.is
  refine ⟨⟨bx h.sp.kS (by decide) (by decide), h.sp.ar.keep fun k hkk => ?_, h.sp.wf⟩, bx h.kn (by decide) (by decide), bx h.kz (by decide) (by decide), bx h.kf (by decide) (by decide)⟩
  rcases hkk with rfl | rfl | rfl | rfl
  · exact (bx k2 (by decide) (by decide)).trans k2.symm
  · exact (bx k3 (by decide) (by decide)).trans k3.symm
  · exact (bx k4 (by decide) (by decide)).trans k4.symm
  · exact (bx k5 (by decide) (by decide)).trans k5.symm
end
end Go.Proofs.YtdlcldhnbhlikaaGreatDoor
