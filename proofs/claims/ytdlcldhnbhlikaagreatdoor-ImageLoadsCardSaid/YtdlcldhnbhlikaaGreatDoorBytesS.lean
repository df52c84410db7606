/-
  Rows of bytes made of a text: they bear a conversion's mark, which lies behind them; appending to them; their text.
-/
import Derived.Test.YtdlcldhnbhlikaaGreatDoorFr
import Derived.Lib.FrozenHead2
import Derived.Lib.ConvBytes
import Derived.Laws.BytesArg
namespace Go.Proofs.YtdlcldhnbhlikaaGreatDoor
open Go.RowKit

/-- Bytes of the call's own; what is frozen of their row lies behind it. -/
def OwnBy (w : World) (base : Nat) (e : TypeId) (v : Value) (bs : List UInt8) : Prop :=
  ∃ g cap cur fz, v = .slice (some ⟨g, 0, none⟩) bs.length cap ∧ base ≤ g ∧ w.heap[g]? = some (.cells cur e fz) ∧ (fz.2 = 0 ∨ cap ≤ fz.1) ∧ bs.length ≤ cap ∧ cap ≤ maxLen ∧ cur.size = cap ∧ cur.toList.take bs.length = Lib.byteCells bs
section
variable {w w' : World} {base : Nat} {e : TypeId} {v : Value} {bs cs : List UInt8}
theorem OwnBy.of_own {vs : Nat} (h : w.ownsRow base e 1 v vs (Lib.byteCells bs)) (h0 : 0 < bs.length) : OwnBy w base e v bs := by
  have hl : vs = bs.length := by have := h.1; unfold Lib.byteCells at this; rw [List.length_map] at this; omega
  subst hl
  rcases h.2 with ⟨_, h9⟩ | ⟨g, cap, cur, rfl, hg, hgc, hle, hcm, hcs, hct⟩
  · omega
  · exact ⟨g, cap, cur, (0, 0), rfl, hg, hgc, .inl rfl, hle, hcm, by rw [hcs, Nat.mul_one], by rw [Nat.mul_one] at hct; exact hct⟩
theorem OwnBy.lt (h : OwnBy w base e v bs) : ∃ g, v.ownBlock = some g ∧ base ≤ g ∧ g < w.heap.size := by
  obtain ⟨g, cap, cur, fz, rfl, hg, hgc, _⟩ := h
  exact ⟨g, by simp [Value.ownBlock], hg, (Array.getElem?_eq_some_iff.1 hgc).1⟩
theorem OwnBy.below (h : OwnBy w base e v bs) (hb : Below w.heap.size w w') : OwnBy w' base e v bs := by
  obtain ⟨g, cap, cur, fz, h1, hg, hgc, r⟩ := h
  exact ⟨g, cap, cur, fz, h1, hg, (hb.block g (Array.getElem?_eq_some_iff.1 hgc).1).trans hgc, r⟩
theorem OwnBy.cell (h : OwnBy w base e v bs) : ∃ g cap, v = .slice (some ⟨g, 0, none⟩) bs.length cap ∧ base ≤ g ∧ g < w.heap.size ∧ ∀ j (hj : j < bs.length), w.cell? ⟨g, j, none⟩ = some (.int .u8 (bs[j].toNat : Int)) := by
  obtain ⟨g, cap, cur, fz, h1, hg, hgc, hf, h2, h3, h4, h5⟩ := h
  refine ⟨g, cap, h1, hg, (Array.getElem?_eq_some_iff.1 hgc).1, fun j hj => ?_⟩
  rw [cell_of_row w g j cur e fz hgc]
  have h6 : (cur.toList.take bs.length)[j]? = some (.int .u8 (bs[j].toNat : Int)) := by
    rw [h5]
    unfold Lib.byteCells
    rw [List.getElem?_map, List.getElem?_eq_getElem hj]
    rfl
  rw [List.getElem?_take_of_lt hj] at h6
  simpa using h6
theorem OwnBy.reads (h : OwnBy w base e v bs) : ∃ g cap, v = .slice (some ⟨g, 0, none⟩) bs.length cap ∧ Reads w w.heap.size 1 (some ⟨g, 0, none⟩) bs.length (Lib.byteCells bs) := by
  obtain ⟨g, cap, h1, _, h2, h3⟩ := h.cell
  refine ⟨g, cap, h1, by unfold Lib.byteCells; simp, fun _ => ⟨_, rfl, h2, fun j u hu => ?_⟩⟩
  have hadd : (⟨g, 0, none⟩ : Addr).add j = ⟨g, j, none⟩ := by unfold Addr.add; split <;> simp_all
  rw [hadd]
  unfold Lib.byteCells at hu
  rw [List.getElem?_map] at hu
  rcases Nat.lt_or_ge j bs.length with hj | hj
  · rw [List.getElem?_eq_getElem hj] at hu
    rw [h3 j hj]
    exact hu
  · rw [List.getElem?_eq_none hj] at hu
    cases hu
/-- 'string(b)'. -/
theorem OwnBy.text {P : Program} (h : OwnBy w base e v bs) (src dst : TypeId) (hs : P.underlying src = some (.slice e)) (he : P.underlying e = some (.int .u8)) (hd : P.underlying dst = some .string) :
    (convert src dst v).run P w = .ok (.string ⟨bs.toArray⟩) w := by
  obtain ⟨g, cap, rfl, _, _, h3⟩ := h.cell
  have := run_convert_bytes_arg (P := P) w src e hs he g 0 bs.length cap (bs.map fun b => (b.toNat : Int)) (by simp) (fun i hi => by
    rw [Nat.zero_add, h3 i hi, List.getD_eq_getElem?_getD, List.getElem?_map, List.getElem?_eq_getElem hi]
    rfl) dst hd
  rw [this]
  congr 2
  unfold strOfNums
  rw [List.map_map, show ((fun n : Int => UInt8.ofNat n.toNat) ∘ fun b : UInt8 => (b.toNat : Int)) = id from by funext b; simp, List.map_id]
theorem storeFz (P : Program) (g o : Nat) (t : TypeId) (fz : Nat × Nat) : ∀ (vs : List Value) (i : Nat) (cur : Array Value) (w : World), w.heap[g]? = some (.cells cur t fz) → (fz.2 = 0 ∨ cur.size ≤ fz.1) → o + i + vs.length ≤ cur.size → (∀ v ∈ vs, v.oneCell' = true) →
    (storeCells ⟨g, o, none⟩ vs i).run P w = .ok () (w.setRow g (cur.toList.take (o + i) ++ vs ++ cur.toList.drop (o + i + vs.length)).toArray) := by
  intro vs
  induction vs with
  | nil =>
    intro i cur w hg _ _ _
    simp only [storeCells, List.append_nil, List.length_nil, Nat.add_zero, List.take_append_drop, Array.toArray_toList]
    rw [setRow_self w g cur t fz hg]
    rfl
  | cons v rest ih =>
    intro i cur w hg hfz hl h1
    have hi : o + i < cur.size := by simp at hl; omega
    have hadd : (⟨g, o, none⟩ : Addr).add i = ⟨g, o + i, none⟩ := by unfold Addr.add; split <;> simp_all
    have hcell : w.cell? ⟨g, o + i, none⟩ = some cur[o + i] := by simp [World.cell?, hg, hi]
    have hfro : w.frozen? ⟨g, o + i, none⟩ = false := by
      obtain ⟨lo, hi'⟩ := fz
      simp only [World.frozen?, hg, Bool.and_eq_false_iff, decide_eq_false_iff_not]
      simp only at hfz
      rcases hfz with hfz | hfz
      · right; omega
      · left; omega
    have hst : (store ((⟨g, o, none⟩ : Addr).add i) v).run P w = .ok () (w.setRow g (cur.setIfInBounds (o + i) v)) := by
      rw [hadd, run_store P w _ v _ (h1 v (by simp)), hcell]
      simp [hfro, setCell_eq_setRow w g (o + i) cur t fz v hg]
    have ih := ih (i + 1) (cur.setIfInBounds (o + i) v) (w.setRow g (cur.setIfInBounds (o + i) v)) (setRow_heap w g cur _ t _ hg) (by simpa using hfz) (by simp at hl ⊢; omega) (fun x hx => h1 x (by simp [hx]))
    simp only [storeCells, Sem.run_bind, hst, Result.andThen_ok, ih, setRow_setRow]
    congr 3
    have e := list_seg_step cur.toList (o + i) v rest (by simp at hl ⊢; omega)
    simpa [Array.toList_setIfInBounds, Nat.add_assoc] using e
theorem bytes_one (bs : List UInt8) : ∀ u ∈ Lib.byteCells bs, u.oneCell' = true := fun u hu => by
  unfold Lib.byteCells at hu
  obtain ⟨y, _, rfl⟩ := List.mem_map.1 hu
  rfl
theorem bytes_len (bs : List UInt8) : (Lib.byteCells bs).length = bs.length := by unfold Lib.byteCells; simp
/-- The row, behind an append in place. -/
theorem OwnBy.room {g cap : Nat} {cur : Array Value} {fz : Nat × Nat} (hg : base ≤ g) (hgc : w.heap[g]? = some (.cells cur e fz)) (hf : fz.2 = 0 ∨ cap ≤ fz.1) (hcm : cap ≤ maxLen) (hcs : cur.size = cap) (hct : cur.toList.take bs.length = Lib.byteCells bs)
    (hr : bs.length + cs.length ≤ cap) :
    OwnBy (w.setRow g (cur.toList.take bs.length ++ Lib.byteCells cs ++ cur.toList.drop (bs.length + cs.length)).toArray) base e (.slice (some ⟨g, 0, none⟩) (bs ++ cs).length cap) (bs ++ cs) := by
  have hlc := bytes_len cs
  have hlb := bytes_len bs
  refine ⟨g, cap, _, fz, rfl, hg, setRow_heap w g cur _ e _ hgc, hf, by rw [List.length_append]; exact hr, hcm, ?_, ?_⟩
  · simp only [List.size_toArray, List.length_append, List.length_take, List.length_drop, Array.length_toList]
    omega
  · rw [hct, List.length_append, Lib.byteCells_append]
    show List.take (bs.length + cs.length) (Lib.byteCells bs ++ Lib.byteCells cs ++ _) = _
    rw [← hlb, ← hlc, ← List.length_append]
    exact List.take_left
/-- .. behind one that grows. -/
theorem OwnBy.grow {cap : Nat} {z : Value} (hz : z.cells.size = 1) (hbase : base ≤ w.heap.size) (h63 : bs.length + cs.length ≤ maxLen) :
    OwnBy (w.drew.alloc (.cells ((Lib.byteCells bs).toArray ++ (Lib.byteCells cs).toArray ++ Builtin.zeroCells z.cells (grownCap w (bs.length + cs.length) cap e - (bs.length + cs.length))) e)) base e
      (.slice (some ⟨w.heap.size, 0, none⟩) (bs ++ cs).length (grownCap w (bs.length + cs.length) cap e)) (bs ++ cs) := by
  have hge := grownCap_ge w (bs.length + cs.length) cap e
  have hcm2 := grownCap_le_maxLen w (bs.length + cs.length) cap e h63
  have hlc := bytes_len cs
  have hlb := bytes_len bs
  refine ⟨w.heap.size, _, _, (0, 0), rfl, hbase, heap_alloc_new w.drew _, .inl rfl, by rw [List.length_append]; exact hge, hcm2, ?_, ?_⟩
  · simp only [Array.size_append, List.size_toArray, size_zeroCells, hz, hlb, hlc]
    omega
  · simp only [Array.toList_append, List.append_assoc]
    rw [← List.append_assoc, ← Lib.byteCells_append, show (bs ++ cs).length = (Lib.byteCells (bs ++ cs)).length from (bytes_len _).symm]
    exact List.take_left
section
variable {P : Program}
/-- append of bytes. -/
theorem runS_append (t ty : TypeId) (i : TypeInfo) (z : Value) (ht : P.underlying t = some (.slice e)) (hi : P.info? e = some i) (hz : i.zero = some z) (hsize : i.size = 1) (hby : i.bytes = 1) (hzs : z.cells.size = 1)
    (h : OwnBy w base e v bs) (B : Nat) (A : Option Addr) (m c : Nat) (hm : cs.length = m) (hr : Reads w B 1 A m (Lib.byteCells cs)) (h63 : bs.length + cs.length ≤ 1000000000) (hbase : base ≤ w.heap.size) :
    ∃ v' w', (Builtin.append_ #[t, t] ty #[v, .slice A m c]).run P w = .ok v' w' ∧ OwnBy w' base e v' (bs ++ cs) ∧ w.grownBy w' v.ownBlock := by
  subst hm
  obtain ⟨g, cap, cur, fz, rfl, hg, hgc, hf, h2, h3, h4, h5⟩ := h
  have hlc := bytes_len cs
  have hlb := bytes_len bs
  by_cases hroom : bs.length + cs.length ≤ cap
  · have hst := storeFz P g bs.length e fz (Lib.byteCells cs) 0 cur w hgc (by rw [h4]; exact hf) (by omega) (bytes_one cs)
    rw [Nat.add_zero, hlc] at hst
    have hgr : w.grownBy (w.setRow g (cur.toList.take bs.length ++ Lib.byteCells cs ++ cur.toList.drop (bs.length + cs.length)).toArray) (Value.ownBlock (.slice (some ⟨g, 0, none⟩) bs.length cap)) :=
      ⟨rfl, rfl, rfl, by simp, fun k _ hk => setRow_other w g k _ (fun e => hk (by simp [Value.ownBlock, e]))⟩
    refine ⟨.slice (some ⟨g, 0, none⟩) (bs ++ cs).length cap, _, ?_, OwnBy.room hg hgc hf h3 h4 h5 hroom, hgr⟩
    rcases A with _ | ad
    · have h0 : cs.length = 0 := by
        rcases Nat.eq_zero_or_pos cs.length with h0 | h0
        · exact h0
        · obtain ⟨ad, h, _⟩ := hr.2 h0
          cases h
      have hn : cs = [] := List.eq_nil_of_length_eq_zero h0
      subst hn
      simp [Builtin.append_, run_underlying ht, sizeOf, typeInfo, hi, hsize, Builtin.lenOf, Builtin.firstCells, Addr.add_lit, Lib.byteCells] at hst ⊢
      simp [h2, hst]
    · have hcells : ∀ j u, (Lib.byteCells cs)[j]? = some u → w.cell? (ad.add j) = some u := fun j u hu => by
        rcases Nat.eq_zero_or_pos cs.length with h0 | h0
        · have hn : cs = [] := List.eq_nil_of_length_eq_zero h0
          subst hn
          simp [Lib.byteCells] at hu
        · obtain ⟨ad', h, _, hc⟩ := hr.2 h0
          injection h with h
          subst h
          exact hc j u hu
      have hf := run_firstCells_some (P := P) w 1 cs.length ad cs.length c (Lib.byteCells cs) (by omega) hcells
      simp [Builtin.append_, run_underlying ht, sizeOf, typeInfo, hi, hsize, Builtin.lenOf, hroom, hf, Addr.add_lit, hst]
  · have h0 : 0 < cs.length := by omega
    obtain ⟨ad, rfl, _, hc⟩ := hr.2 h0
    have holds : ∀ j u, (Lib.byteCells bs)[j]? = some u → w.cell? ((⟨g, 0, none⟩ : Addr).add j) = some u := fun j u hu => by
      have hadd : (⟨g, 0, none⟩ : Addr).add j = ⟨g, j, none⟩ := by unfold Addr.add; split <;> simp_all
      rw [hadd, cell_of_row w g j cur e fz hgc]
      rw [← h5, List.getElem?_take] at hu
      split at hu
      · simpa using hu
      · cases hu
    have hrun := run_append_grow (P := P) w t ty e i z ht hi hz ⟨g, 0, none⟩ bs.length cap (Lib.byteCells bs) (by rw [hsize]; omega) holds ad cs.length c (Lib.byteCells cs) (by rw [hsize]; omega) hc (by omega) (by omega) (by rw [hby]; exact growslice_fits (by omega) (by omega))
    rw [show bs.length + cs.length = (bs ++ cs).length by simp] at hrun
    refine ⟨_, _, hrun, ?_, rfl, rfl, rfl, by simp, fun k hk _ => heap_alloc_old w.drew _ hk⟩
    rw [show (bs ++ cs).length = bs.length + cs.length by simp]
    have := OwnBy.grow (bs := bs) (cs := cs) (cap := cap) (e := e) hzs hbase (by simp only [maxLen]; omega)
    rw [List.length_append] at this
    exact this
/-- append of a text. -/
theorem runS_appendStr (t u ty : TypeId) (i : TypeInfo) (ht : P.underlying t = some (.slice e)) (hu : P.underlying u = some .string) (hi : P.info? e = some i) (hz : i.zero = some (.int .u8 0)) (hsize : i.size = 1) (hby : i.bytes = 1)
    (h : OwnBy w base e v bs) (s : ByteArray) (hs : s.data.toList = cs) (h63 : bs.length + cs.length ≤ 1000000000) (hbase : base ≤ w.heap.size) :
    ∃ v' w', (Builtin.append_ #[t, u] ty #[v, .string s]).run P w = .ok v' w' ∧ OwnBy w' base e v' (bs ++ cs) ∧ w.grownBy w' v.ownBlock := by
  obtain ⟨g, cap, cur, fz, rfl, hg, hgc, hf, h2, h3, h4, h5⟩ := h
  have hlc := bytes_len cs
  have hlb := bytes_len bs
  have hsz : s.size = cs.length := by rw [← hs]; rfl
  have hsc : Lib.strCells s = Lib.byteCells cs := by rw [← hs]; rfl
  by_cases hroom : bs.length + cs.length ≤ cap
  · have hst := storeFz P g bs.length e fz (Lib.byteCells cs) 0 cur w hgc (by rw [h4]; exact hf) (by omega) (bytes_one cs)
    rw [Nat.add_zero, hlc] at hst
    have hgr : w.grownBy (w.setRow g (cur.toList.take bs.length ++ Lib.byteCells cs ++ cur.toList.drop (bs.length + cs.length)).toArray) (Value.ownBlock (.slice (some ⟨g, 0, none⟩) bs.length cap)) :=
      ⟨rfl, rfl, rfl, by simp, fun k _ hk => setRow_other w g k _ (fun e => hk (by simp [Value.ownBlock, e]))⟩
    refine ⟨.slice (some ⟨g, 0, none⟩) (bs ++ cs).length cap, _, ?_, OwnBy.room hg hgc hf h3 h4 h5 hroom, hgr⟩
    have hfc := Lib.run_firstCells_string (P := P) w 1 s
    rw [hsc, hsz] at hfc
    simp [Builtin.append_, run_underlying ht, run_underlying hu, sizeOf, typeInfo, hi, hsize, Builtin.lenOf, hsz, hroom, hfc, Addr.add_lit, hst]
  · have holds : ∀ j u, (Lib.byteCells bs)[j]? = some u → w.cell? ((⟨g, 0, none⟩ : Addr).add j) = some u := fun j u hu => by
      have hadd : (⟨g, 0, none⟩ : Addr).add j = ⟨g, j, none⟩ := by unfold Addr.add; split <;> simp_all
      rw [hadd, cell_of_row w g j cur e fz hgc]
      rw [← h5, List.getElem?_take] at hu
      split at hu
      · simpa using hu
      · cases hu
    have hrun := Lib.run_append_grow_string (P := P) w t u ty e i (.int .u8 0) ht hu hi hz ⟨g, 0, none⟩ bs.length cap (Lib.byteCells bs) (by rw [hsize]; omega) holds s (by omega) (by omega) (by rw [hby]; exact growslice_fits (by omega) (by omega))
    rw [hsc, hsz] at hrun
    rw [show bs.length + cs.length = (bs ++ cs).length by simp] at hrun
    refine ⟨_, _, hrun, ?_, rfl, rfl, rfl, by simp, fun k hk _ => heap_alloc_old w.drew _ hk⟩
    rw [show (bs ++ cs).length = bs.length + cs.length by simp]
    have := OwnBy.grow (z := .int .u8 0) (bs := bs) (cs := cs) (cap := cap) (e := e) rfl hbase (by simp only [maxLen]; omega)
    rw [List.length_append] at this
    exact this
/-- '[]byte(s)'. -/
theorem runS_conv (src dst : TypeId) (s : ByteArray) (hs : P.underlying src = some .string) (hd : P.underlying dst = some (.slice e)) (he : P.underlying e = some (.int .u8)) (hsz : s.size ≤ 1000000) :
    ∃ v w', (convert src dst (.string s)).run P w = .ok v w' ∧ OwnBy w' w.heap.size e v s.data.toList ∧ Below w.heap.size w w' := by
  have hrun := Lib.run_convert_string_bytes (P := P) w src dst e s hs hd he
  have hge := grownCap_ge w s.size 0 e
  have hcm := grownCap_le_maxLen w s.size 0 e (by simp only [maxLen]; omega)
  have hsl : s.data.toList.length = s.size := rfl
  have hbc : (Lib.bytesCells w e s).size = grownCap w s.size 0 e := by
    unfold Lib.bytesCells
    rw [Array.size_append, Array.size_map, Array.size_replicate]
    show s.size + _ = _
    omega
  refine ⟨_, _, hrun, ⟨w.heap.size, grownCap w s.size 0 e, Lib.bytesCells w e s, _, by rw [hsl], Nat.le_refl _, Lib.bytesWorld_at_new w e s, .inr (by simp only; omega), by omega, hcm, hbc, ?_⟩, ?_⟩
  · unfold Lib.bytesCells Lib.byteCells
    rw [Array.toList_append, hsl]
    have h1 : (s.data.map fun b => Value.int .u8 b.toNat).toList = s.data.toList.map fun b => Value.int .u8 b.toNat := by simp
    rw [h1, show s.size = (s.data.toList.map fun b => Value.int .u8 (b.toNat : Int)).length by rw [List.length_map]; rfl]
    exact List.take_left
  · refine ⟨rfl, rfl, rfl, by rw [Lib.bytesWorld_size]; omega, fun i hi => Lib.bytesWorld_at_old w e s i hi⟩
end
end
end Go.Proofs.YtdlcldhnbhlikaaGreatDoor
