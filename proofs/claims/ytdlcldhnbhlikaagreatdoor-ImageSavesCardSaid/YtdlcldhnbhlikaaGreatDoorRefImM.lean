/-
  The document's image: its closure's memory.
-/
import Derived.Test.YtdlcldhnbhlikaaGreatDoorImgA
import Derived.Test.YtdlcldhnbhlikaaGreatDoorHalf
namespace Go.Proofs.YtdlcldhnbhlikaaGreatDoor
open Go.RowKit Go.Maps

/-- Where Image's boxes lie: vars, done, body, walk. -/
structure RiB where
  vs : Nat
  dn : Nat
  bd : Nat
  wk : Nat
def rimV (K : RiB) : Value := .func (.func 41) #[] #[.pointer (some ⟨K.vs, 0, none⟩), .pointer (some ⟨K.dn, 0, none⟩), .pointer (some ⟨K.wk, 0, none⟩), .pointer (some ⟨K.bd, 0, none⟩)]
structure RiI (K : RiB) (A : Ar) (vn sz b0 base : Nat) (ks : List Int) (T : List UInt8) (w : World) : Prop where
  hv : Blk w K.vs 3 #[.int .i64 (vn : Int)]
  hw : Blk w K.wk 108 #[rimV K]
  hd : ∃ v gs, Blk w K.dn 25 #[v] ∧ OwnT w base sz v gs ∧ Tabs w 0 sz gs (ks.map (tabH A vn))
  hb : Blk w K.bd 9 #[.string ⟨T.toArray⟩]
  lt : K.dn < base ∧ K.bd < base ∧ b0 ≤ K.dn ∧ b0 ≤ K.bd ∧ b0 ≤ base ∧ base ≤ w.heap.size
/-- What stays: all but the two boxes and rows of tables. -/
structure FrR (K : RiB) (b0 : Nat) (w w' : World) : Prop where
  bel : Below b0 w w'
  kp : ∀ k o, w.heap[k]? = some o → k ≠ K.dn → k ≠ K.bd → (∀ c fz, o ≠ .cells c 35 fz) → w'.heap[k]? = some o
section
variable {K : RiB} {A : Ar} {vn sz b0 base : Nat} {ks : List Int} {T : List UInt8} {w w' w'' : World} {x : Int}
theorem FrR.refl (K : RiB) (b0 : Nat) (w : World) : FrR K b0 w w := ⟨.refl _ _, fun _ _ h _ _ _ => h⟩
theorem FrR.trans (h : FrR K b0 w w') (k : FrR K b0 w' w'') : FrR K b0 w w'' := ⟨h.bel.trans k.bel, fun i o h1 h2 h3 h4 => k.kp i o (h.kp i o h1 h2 h3 h4) h2 h3 h4⟩
theorem FrR.below (hb : Below w.heap.size w w') (h0 : b0 ≤ w.heap.size) : FrR K b0 w w' := ⟨hb.mono h0, fun k o h _ _ _ => by
  have hl : k < w.heap.size := by
    rcases Nat.lt_or_ge k w.heap.size with h' | h'
    · exact h'
    · simp [Array.getElem?_eq_none h'] at h
  exact (hb.block k hl).trans h⟩
theorem FrR.blk {t : TypeId} {g : Nat} {cs : Array Value} (h : FrR K b0 w w') (hk : Blk w g t cs) (ht : t ≠ 35) (h1 : g ≠ K.dn) (h2 : g ≠ K.bd) : Blk w' g t cs :=
  h.kp g _ hk h1 h2 fun c fz e => ht (by injection e)
theorem RiI.below (h : RiI K A vn sz b0 base ks T w) (hb : Below w.heap.size w w') : RiI K A vn sz b0 base ks T w' := by
  obtain ⟨v, gs, h1, h2, h3⟩ := h.hd
  obtain ⟨a1, a2, a3, a4, a5, a6⟩ := h.lt
  exact ⟨h.hv.below hb h.hv.lt, h.hw.below hb h.hw.lt, ⟨v, gs, h1.below hb h1.lt, h2.below hb, h3.below hb⟩, h.hb.below hb h.hb.lt, a1, a2, a3, a4, a5, Nat.le_trans a6 hb.size⟩
/-- A block of tables' values, or of the call's own, is none of the boxes. -/
theorem RiI.far (h : RiI K A vn sz b0 base ks T w) {t : TypeId} {g : Nat} {cs : Array Value} (hk : Blk w g t cs) (h1 : t ≠ 25) (h2 : t ≠ 9) : g ≠ K.dn ∧ g ≠ K.bd := by
  obtain ⟨v, gs, h3, _⟩ := h.hd
  exact ⟨hk.ne_ h3 h1, hk.ne_ h.hb h2⟩
/-- One more table. -/
theorem RiI.app (h : RiI K A vn sz b0 base ks T w) {v v' : Value} {gs : List Nat} {p : Nat} {o : Obj} {w5 : World} (h1 : Blk w K.dn 25 #[v]) (h2 : OwnT w base sz v gs) (h3 : Tabs w 0 sz gs (ks.map (tabH A vn)))
    (hp : Blk w p 4 (boolArr (tabH A vn x))) (ht : (tabH A vn x).length = sz) (ho : OwnT w5 base sz v' (gs ++ [p])) (hg : (w.alloc o).grownBy w5 v.ownBlock) :
    RiI K A vn sz b0 base (ks ++ [x]) T (w5.setCell ⟨K.dn, 0, none⟩ v') ∧ FrR K b0 w (w5.setCell ⟨K.dn, 0, none⟩ v') := by
  obtain ⟨a1, a2, a3, a4, a5, a6⟩ := h.lt
  have hal := (Below.refl w.heap.size w).alloc (Nat.le_refl _) o
  have hsz : (w.alloc o).heap.size ≤ w5.heap.size := hg.size
  have hlt := fun k e => World.ownsRow.lt h2 k e
  have k5 : ∀ {t : TypeId} {g : Nat} {cs : Array Value}, Blk w g t cs → t ≠ 35 → Blk w5 g t cs := fun hk hne => (hk.alloc o).grown hg (fun e => own_blk_ne h2 hk (fun e => hne e.symm) e.symm)
  have k6 : ∀ {t : TypeId} {g : Nat} {cs : Array Value}, Blk w g t cs → t ≠ 35 → g ≠ K.dn → Blk (w5.setCell ⟨K.dn, 0, none⟩ v') g t cs := fun hk hne hd => (k5 hk hne).far hd _
  have hd5 : Blk (w5.setCell ⟨K.dn, 0, none⟩ v') K.dn 25 #[v'] := (k5 h1 (by decide)).set_ 0 v'
  have ho5 : OwnT (w5.setCell ⟨K.dn, 0, none⟩ v') base sz v' (gs ++ [p]) := by
    refine ⟨ho.1, ?_⟩
    rcases ho.2 with h4 | ⟨g', cap, cur, e, hg', hgc, r⟩
    · exact .inl h4
    · have hgc' : Blk w5 g' 35 cur := hgc
      exact .inr ⟨g', cap, cur, e, hg', hgc'.far (show g' ≠ K.dn by omega) _, r⟩
  have hT5 : Tabs (w5.setCell ⟨K.dn, 0, none⟩ v') 0 sz (gs ++ [p]) ((ks ++ [x]).map (tabH A vn)) := by
    rw [List.map_append]
    refine Tabs.push ⟨h3.len, fun k hk => ?_⟩ (Nat.zero_le _) (k6 hp (by decide) (hp.ne_ h1 (by decide))) ht
    obtain ⟨e1, e2, e3⟩ := h3.is k hk
    exact ⟨e1, k6 e2 (by decide) (e2.ne_ h1 (by decide)), e3⟩
  have hbel : Below b0 w (w5.setCell ⟨K.dn, 0, none⟩ v') := (((Below.refl b0 w).alloc (by omega) o).grown hg (by simp; omega) (fun j hj => by have := (hlt j hj).1; omega)).setCell (p := ⟨K.dn, 0, none⟩) a3 v'
  refine ⟨⟨k6 h.hv (by decide) (h.hv.ne_ h1 (by decide)), k6 h.hw (by decide) (h.hw.ne_ h1 (by decide)), ⟨v', _, hd5, ho5, hT5⟩, k6 h.hb (by decide) (h.hb.ne_ h1 (by decide)), a1, a2, a3, a4, a5, ?_⟩, hbel, fun k o' hk n1 n2 n3 => ?_⟩
  · have : w.heap.size ≤ w5.heap.size := Nat.le_trans hal.size hsz
    simp only [World.setCell, Array.size_modify]
    omega
  · have hl : k < w.heap.size := by
      rcases Nat.lt_or_ge k w.heap.size with h' | h'
      · exact h'
      · simp [Array.getElem?_eq_none h'] at hk
    refine (Below.heap_setCell w5 ⟨K.dn, 0, none⟩ v' k n1).trans ((hg.block k (Nat.lt_of_lt_of_le hl hal.size) ?_).trans ((hal.block k hl).trans hk))
    intro e
    rcases h2.2 with ⟨e2, _⟩ | ⟨g', cap, cur, e2, _, hgc, _⟩
    · rw [e2] at e; simp [Value.ownBlock] at e
    · rw [e2] at e
      simp [Value.ownBlock] at e
      subst e
      have hgc' : w.heap[k]? = some (.cells cur 35 (0, 0)) := hgc
      rw [hk] at hgc'
      injection hgc' with hgc'
      exact n3 _ _ hgc'
/-- .. and its line. -/
theorem RiI.text (h : RiI K A vn sz b0 base ks T w) (T' : List UInt8) : RiI K A vn sz b0 base ks T' (w.setCell ⟨K.bd, 0, none⟩ (.string ⟨T'.toArray⟩)) ∧ FrR K b0 w (w.setCell ⟨K.bd, 0, none⟩ (.string ⟨T'.toArray⟩)) := by
  obtain ⟨v, gs, h1, h2, h3⟩ := h.hd
  obtain ⟨a1, a2, a3, a4, a5, a6⟩ := h.lt
  have k6 : ∀ {t : TypeId} {g : Nat} {cs : Array Value}, Blk w g t cs → t ≠ 9 → Blk (w.setCell ⟨K.bd, 0, none⟩ (.string ⟨T'.toArray⟩)) g t cs := fun hk hne => hk.far (hk.ne_ h.hb hne) _
  refine ⟨⟨k6 h.hv (by decide), k6 h.hw (by decide), ⟨v, gs, k6 h1 (by decide), ⟨h2.1, ?_⟩, h3.len, fun k hk => ?_⟩, h.hb.set_ 0 _, a1, a2, a3, a4, a5, ?_⟩, (Below.refl b0 w).setCell (p := ⟨K.bd, 0, none⟩) a4 _, fun k o' hk n1 n2 n3 => (Below.heap_setCell w ⟨K.bd, 0, none⟩ _ k n2).trans hk⟩
  · rcases h2.2 with h4 | ⟨g', cap, cur, e, hg', hgc, r⟩
    · exact .inl h4
    · have hgc' : Blk w g' 35 cur := hgc
      exact .inr ⟨g', cap, cur, e, hg', k6 hgc' (by decide), r⟩
  · obtain ⟨e1, e2, e3⟩ := h3.is k hk
    exact ⟨e1, k6 e2 (by decide), e3⟩
  · simp only [World.setCell, Array.size_modify]
    exact a6
/-- What the closure answers. -/
def RiP (K : RiB) (A : Ar) (vn sz b0 base : Nat) (ks : List Int) (x : Int) (w : World) (e : Ending) (w' : World) : Prop :=
  e = .returned (.int .i64 (numI (imgA A x ks) x : Int)) ∧ RiI K A vn sz b0 base (imgA A x ks) (bodyL A (imgA A x ks)) w' ∧ FrR K b0 w w'
/-- What it asks for, of handles that lie deeper. -/
def RiC (K : RiB) (A : Ar) (vn sz b0 base n : Nat) : Prop := ∀ (y : Int) (v p : Nat) (ks : List Int) (w : World), dep A y < n → hasA A y = true → v ≤ vn → (v : Int) ≤ topA A y → KsOk A ks → RiI K A vn sz b0 base ks (bodyL A ks) w → Blk w p 4 (boolArr (tabH A vn y)) → GlobT w →
  Calls Tryz.prog 41 #[tabV sz p, .int .i64 (v : Int), .pointer (some ⟨K.vs, 0, none⟩), .pointer (some ⟨K.dn, 0, none⟩), .pointer (some ⟨K.wk, 0, none⟩), .pointer (some ⟨K.bd, 0, none⟩)] w (RiP K A vn sz b0 base ks y w)
end
end Go.Proofs.YtdlcldhnbhlikaaGreatDoor
