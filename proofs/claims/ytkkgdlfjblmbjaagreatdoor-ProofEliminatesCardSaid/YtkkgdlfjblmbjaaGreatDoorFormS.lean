/-
  proof.Form's sort and compaction, by the guide's contracts laid at this seat's numbers; proof.Form tells 'formF'.
-/
import Derived.Test.YtkkgdlfjblmbjaaGreatDoorFormA
import Derived.Test.YtkkgdlfjblmbjaaGreatDoorRefForm
import Derived.Test.YtkkgdlfjblmbjaaGreatDoorFormLay
import Derived.Shelf.SlSortCmp.Whole1
import Derived.Shelf.SlicesG.CompactI
import Derived.Sort.OwnSortedInts
import Derived.IntWalk
namespace Go.Proofs.YtkkgdlfjblmbjaaGreatDoor
open Go.RowKit Go.Sort Go.Lib

abbrev Lit24 := { x : Int // litOk x }
instance : Inhabited Lit24 := ⟨⟨1, .inl ⟨by omega, by omega⟩⟩⟩
def encL (x : Lit24) : Value := .int .i64 x.1
def cfL (x y : Lit24) : Int := beforeF x.1 y.1
theorem ltL (x y : Lit24) : ltOf cfL x y = decide (rank x.1 < rank y.1) := by
  unfold ltOf cfL
  exact decide_eq_decide.2 (before_rank x.1 y.1)
theorem swoL : SWO (ltOf cfL) where
  irrefl x := by rw [ltL]; simp
  trans x y z h1 h2 := by rw [ltL] at *; simp at *; omega
  ntrans x y z h1 h2 := by rw [ltL] at *; simp at *; omega
def litsOf : (zs : List Int) → (∀ x ∈ zs, litOk x) → List Lit24
  | [], _ => []
  | x :: xs, h => ⟨x, h x (List.mem_cons_self ..)⟩ :: litsOf xs (fun y hy => h y (List.mem_cons_of_mem _ hy))
theorem litsOf_val : ∀ (zs : List Int) (h : ∀ x ∈ zs, litOk x), (litsOf zs h).map Subtype.val = zs := by
  intro zs
  induction zs with
  | nil => intro _; rfl
  | cons x xs ih => intro h; unfold litsOf; rw [List.map_cons, ih]
theorem encL_at (d : Array Lit24) (j : Nat) (hj : j < d.size) : encL d[j]! = .int .i64 (d.map Subtype.val)[j]! := by
  rw [getElem!_pos d j hj, getElem!_pos (d.map Subtype.val) j (by simpa using hj), Array.getElem_map]
  rfl
theorem putCells_L (off : Nat) (d : Array Lit24) (c : Array Value) : putCells encL off d c = putCells (Value.int .i64) off (d.map Subtype.val) c := by
  unfold putCells
  congr 1
  funext k x
  rw [Array.size_map]
  split
  · rename_i h
    exact encL_at d (k - off) (by omega)
  · rfl
theorem putRow_L (w : World) (blk off : Nat) (d : Array Lit24) : putRow encL w blk off d = putRow (Value.int .i64) w blk off (d.map Subtype.val) := by
  unfold putRow
  congr 1
  funext c
  exact putCells_L off d c
theorem holds_L {w : World} {blk off : Nat} {d : Array Lit24} (h : Holds (Value.int .i64) w blk off (d.map Subtype.val)) : Holds encL w blk off d := by
  intro j hj
  have := h j (by simpa using hj)
  rw [encL_at d j hj]
  exact this

/-- What a sort leaves: the row holds a permutation, in order. -/
def SortPost (w : World) (base g c : Nat) (zs : List Int) (e : Ending) (w' : World) : Prop :=
  e = .returned (.tuple #[]) ∧ ∃ ts : List Int, ts.Perm zs ∧ (∀ i j, i < j → j < ts.length → rank (ts.getD i 0) ≤ rank (ts.getD j 0)) ∧ Own w' base (.slice (some ⟨g, 0, none⟩) zs.length c) ts ∧ w.grownBy w' (some g)

/-- math/bits.Len of a length. -/
theorem bitsLen_any (n : Nat) (w : World) (h : n ≤ 1000000) : Calls Tryz.prog 38 #[.int .u64 (n : Int)] w fun e w' => e = .returned (.int .i64 (Lib.bitLen n : Nat)) ∧ w = w' := by
  have h := Any.bits_Len (SlLaysF0.n15.bits (P := Tryz.prog) (ρ := Tryz.pdq72_ren) { Tryz.pdq72 with }) (n : Int) w (by omega) (by omega)
  rw [Int.toNat_natCast] at h
  exact h.mono fun _ _ ⟨he, hw⟩ => ⟨he, hw.symm⟩

theorem pdqI_any (zs : List Int) (base g c : Nat) (w : World) (h : Own w base (.slice (some ⟨g, 0, none⟩) zs.length c) zs) (hok : ∀ x ∈ zs, litOk x) (hln : zs.length ≤ 1000000) :
    Calls Tryz.prog 37 #[.slice (some ⟨g, 0, none⟩) zs.length c, .int .i64 0, .int .i64 zs.length, .int .i64 (Lib.bitLen zs.length : Nat), .func (.func 30) #[] #[]] w (SortPost w base g c zs) := by
  have hrow := h.1.2
  rcases hrow with ⟨e, _⟩ | ⟨g', cap, cur, e, hb, hh, hc, hcap, hsz, htk⟩
  · cases e
  cases e
  rw [Nat.mul_one] at htk hsz
  have hlz : (litsOf zs hok).length = zs.length := by rw [← List.length_map (f := Subtype.val), litsOf_val]
  have hmap : (litsOf zs hok).toArray.map Subtype.val = zs.toArray := by rw [List.map_toArray, litsOf_val]
  have hH : Holds encL w g 0 (litsOf zs hok).toArray := holds_L (by rw [hmap]; exact holds_of_blockI hh htk)
  have eg : ∀ args w, (callFunc 30 args).run Tryz.prog w = .ok (.enter 30 args) w := enters_of Tryz.func30 (by kernel_rfl) rfl
  have hcmp : CmpReads Tryz.prog 30 #[] encL cfL g 0 (litsOf zs hok).toArray.size w := fun _ _ _ _ x y => by
    refine (before_any x.1 y.1 _ x.2 y.2).mono fun e w' ⟨he, hw⟩ => ⟨he, 0, hw.symm⟩
  have hglt : g < w.heap.size := (h.lt g rfl).2
  have hsz2 : (litsOf zs hok).toArray.size = zs.length := by rw [List.size_toArray]; exact hlz
  have hlim : Lib.bitLen (litsOf zs hok).toArray.size < 4611686018427387904 := Nat.lt_of_le_of_lt (Lib.bitLen_le (litsOf zs hok).toArray.size 62 (by first | omega | (rw [List.size_toArray, hlz]; omega)) (by first | omega | (rw [List.size_toArray, hlz]; omega))) (by omega)
  have hcon := Any.pdqsortCmpFunc_all Tryz.pdq72 encL cfL 30 #[] swoL g 0 c (litsOf zs hok).toArray w eg hcmp.lays ⟨fun _ => rfl, hH, hglt⟩ ((litsOf zs hok).toArray.size + 1) 0 (litsOf zs hok).toArray.size (Lib.bitLen (litsOf zs hok).toArray.size) (litsOf zs hok).toArray w (by omega) rfl (SW.start hH) (Nat.zero_le _) (Nat.le_refl _) (by rw [List.size_toArray, hlz]; omega) hlim (Or.inl rfl)
  have hsorts := pdq_sorts (ltOf cfL) swoL (litsOf zs hok).toArray 0 (litsOf zs hok).toArray.size (Lib.bitLen (litsOf zs hok).toArray.size) true true (Nat.zero_le _) (Nat.le_refl _) (Or.inl rfl)
  generalize pdq (ltOf cfL) (litsOf zs hok).toArray 0 (litsOf zs hok).toArray.size (Lib.bitLen (litsOf zs hok).toArray.size) true true = d' at hcon hsorts
  rw [hsz2] at hcon hsorts
  refine hcon.mono fun e w' ⟨he, n, os, hw⟩ => ?_
  obtain ⟨⟨hps, _, hpp⟩, hs⟩ := hsorts
  rw [hsz2] at hps
  have hex : (d'.extract 0 zs.length) = d' := by rw [← hps]; exact Array.extract_size
  have hex2 : ((litsOf zs hok).toArray.extract 0 zs.length) = (litsOf zs hok).toArray := by rw [← hlz, ← List.size_toArray]; exact Array.extract_size
  rw [hex, hex2] at hpp
  have hperm : (d'.toList.map Subtype.val).Perm zs := by
    have := hpp.map Subtype.val
    rw [show (litsOf zs hok).toArray.toList = litsOf zs hok from rfl, litsOf_val] at this
    exact this
  have hmd : d'.map Subtype.val = (d'.toList.map Subtype.val).toArray := by
    apply Array.ext'
    simp
  refine ⟨he, d'.toList.map Subtype.val, hperm, fun i j hij hj => ?_, ⟨?_, ?_, ?_⟩, ?_⟩
  · have hj' : j < d'.size := by simpa using hj
    have h0 := hs i j (Nat.zero_le _) hij (by rw [← hps]; exact hj')
    rw [ltL] at h0
    have h1 := of_decide_eq_false h0
    rw [getElem!_pos d' j hj', getElem!_pos d' i (by omega)] at h1
    have hgi : ∀ (q : Nat) (hq : q < d'.size), (d'.toList.map Subtype.val).getD q 0 = d'[q].1 := fun q hq => by
      rw [List.getD_eq_getElem?_getD, List.getElem?_eq_getElem (by simpa using hq)]
      simp
    rw [hgi i (by omega), hgi j hj']
    omega
  · rw [show (d'.toList.map Subtype.val).length = zs.length from hperm.length_eq, hw]
    unfold sortWorld
    rw [putRow_L, hmd]
    exact ownsRow_sortedI hperm.length_eq hb hh hc hcap (by omega)
  · rw [hperm.length_eq]; exact h.2.1
  · intro z hz
    exact h.2.2 z (hperm.subset hz)
  · rw [hw]
    unfold sortWorld
    rw [putRow_L, hmd]
    exact grownBy_sortedI _


set_option maxHeartbeats 1000000 in
theorem sortI_any (zs : List Int) (base g c : Nat) (w : World) (h : Own w base (.slice (some ⟨g, 0, none⟩) zs.length c) zs) (hok : ∀ x ∈ zs, litOk x) (hln : zs.length ≤ 1000000) :
    Calls Tryz.prog 29 #[.slice (some ⟨g, 0, none⟩) zs.length c, .func (.func 30) #[] #[]] w (SortPost w base g c zs) := by
  have HP := hide (pdqI_any zs base g c w h hok hln)
  have HBL := hide (bitsLen_any zs.length w hln)
  clear h hok
  generalize Lib.bitLen zs.length = bl at HP HBL
  obtain ⟨n, HN⟩ : ∃ n, Hid (zs.length = n) := ⟨_, Lib.hid rfl⟩
  rw [HN.out] at HP HBL hln ⊢
  go_enter Tryz.func29, Tryz.ntmps29
  go_wp2_with fail
  refine (HBL.out).mono ?_
  rintro e w' ⟨rfl, rfl⟩
  go_wp2_with fail
  refine (HP.out).mono ?_
  rintro e w' ⟨rfl, hw⟩
  go_wp2
  go_end0
  exact ⟨rfl, hw⟩
set_option maxHeartbeats 2000000 in
theorem insNone_any (p : Option Addr) (cap : Nat) (fv : Value) (w : World) :
    Calls Tryz.prog 42 #[.slice p 0 cap, .int .i64 0, .int .i64 0, fv] w fun e w' => e = .returned (.tuple #[]) ∧ w = w' := by
  go_enter Tryz.func42, Tryz.ntmps42
  go_wp2
  refine wp_loop_rounds 1 ?_
  rw [rounds_succ]
  go_wp2
  go_end0
  exact ⟨rfl, rfl⟩
set_option maxRecDepth 100000 in
set_option maxHeartbeats 2000000 in
theorem pdqNone_any (p : Option Addr) (cap : Nat) (lim : Int) (fv : Value) (w : World) :
    Calls Tryz.prog 37 #[.slice p 0 cap, .int .i64 0, .int .i64 0, .int .i64 lim, fv] w fun e w' => e = .returned (.tuple #[]) ∧ w = w' := by
  have hi := hide (insNone_any p cap fv)
  go_enter Tryz.func37, Tryz.ntmps37
  go_wp2
  refine wp_loop_rounds 1 ?_
  rw [rounds_succ]
  go_wp2_with (go_at_call 42; refine (hi.out _).mono ?_; rintro e w' ⟨rfl, rfl⟩)
  (try simp only [Exit.inBlock, Exit.then]); refine bodyPost_ret (results_none rfl _ _ _) rfl ?_
  exact ⟨rfl, rfl⟩

set_option maxHeartbeats 1000000 in
theorem sortNone_any (p : Option Addr) (cap : Nat) (fv : Value) (w : World) :
    Calls Tryz.prog 29 #[.slice p 0 cap, fv] w fun e w' => e = .returned (.tuple #[]) ∧ w = w' := by
  have HP := hide (fun lim => pdqNone_any p cap lim fv w)
  have HBL := hide (bitsLen_any 0 w (by omega))
  go_enter Tryz.func29, Tryz.ntmps29
  go_wp2_with fail
  refine (HBL.out).mono ?_
  rintro e w' ⟨rfl, rfl⟩
  go_wp2_with fail
  refine (HP.out _).mono ?_
  rintro e w' ⟨rfl, rfl⟩
  go_wp2
  go_end0
  exact ⟨rfl, rfl⟩

/-- What a compaction leaves: the slice cut to the list without neighbours that are alike. -/
def CompPost (w : World) (base g c : Nat) (zs : List Int) (e : Ending) (w' : World) : Prop :=
  e = .returned (.slice (some ⟨g, 0, none⟩) (Lib.compact zs).length c) ∧ Own w' base (.slice (some ⟨g, 0, none⟩) (Lib.compact zs).length c) (Lib.compact zs) ∧ w.grownBy w' (some g)
theorem compI_any (zs : List Int) (base g c : Nat) (w : World) (h : Own w base (.slice (some ⟨g, 0, none⟩) zs.length c) zs) (hm : ∀ x ∈ Lib.compact zs, x ∈ zs) :
    Calls Tryz.prog 31 #[.slice (some ⟨g, 0, none⟩) zs.length c] w (CompPost w base g c zs) := by
  rcases h.1.2 with ⟨e, _⟩ | ⟨g', cap, cur, e, hb, hh, hc, hcap, hsz, htk⟩
  · cases e
  cases e
  rw [Nat.mul_one] at htk hsz
  have hle := Lib.compact_length_le zs
  have hcon := AnyG.slices_Compact_int Tryz.compact57 g 0 c zs w (holds_of_blockI hh htk) (by have := h.2.1; simp only [maxLen] at this; omega) hc
  refine hcon.mono fun e w' ⟨he, q, hw⟩ => ?_
  have hl : (Lib.compact zs ++ List.replicate (zs.length - (Lib.compact zs).length) (0 : Int)).length = zs.length := by rw [List.length_append, List.length_replicate]; omega
  have hg : w' = Sort.grow (putRow (Value.int .i64) (Sort.ahead w q) g 0 (Lib.compact zs ++ List.replicate (zs.length - (Lib.compact zs).length) 0).toArray) #[] := by rw [hw, Sort.grow_empty]
  have hmem : ∀ z ∈ Lib.compact zs, I64 z := fun z hz => h.2.2 z (hm z hz)
  have hown : Own w' base (.slice (some ⟨g, 0, none⟩) zs.length c) (Lib.compact zs ++ List.replicate (zs.length - (Lib.compact zs).length) 0) := by
    refine ⟨?_, by rw [hl]; exact h.2.1, ?_⟩
    · rw [hl, hg]
      exact ownsRow_sortedI hl hb hh hc hcap (by omega)
    · intro z hz
      rcases List.mem_append.1 hz with hz | hz
      · exact hmem z hz
      · rw [List.eq_of_mem_replicate hz]; unfold I64; omega
  refine ⟨he, ?_, by rw [hg]; exact grownBy_sortedI _⟩
  have := hown.cut (m := (Lib.compact zs).length) hle
  rw [List.take_left] at this
  exact this

theorem compNone_any (p : Option Addr) (cap : Nat) (w : World) : Calls Tryz.prog 31 #[.slice p 0 cap] w fun e w' => e = .returned (.slice p 0 cap) ∧ w = w' :=
  (AnyG.slices_Compact_int_empty Tryz.compact57 p cap w).mono fun _ _ ⟨he, hw⟩ => ⟨he, hw.symm⟩

set_option maxRecDepth 100000 in
set_option maxHeartbeats 2000000 in
theorem proofForm_any (A : Option Addr) (n c : Nat) (zs : List Int) (w : World) (h : Ints w w.heap.size A n zs) (hok : ∀ x ∈ zs, litOk x) (hl : n ≤ 1000000) :
    Calls Tryz.prog 17 #[.slice A n c] w (FormPost w (formF zs)) := by
  have HC := hide (cloneI_any A n c zs w h hl)
  have hlen := Lib.hid h.len
  have HOK := hide hok
  clear h hok
  rcases Nat.eq_zero_or_pos zs.length with h0 | h0
  · obtain rfl : zs = [] := List.eq_nil_of_length_eq_zero h0
    have HS := hide sortNone_any
    have HK := hide (fun (p : Option Addr) (cap : Nat) (w : World) => compNone_any p cap w)
    have HF := Lib.hid (formF_not (c := []) (by decide))
    go_enter Tryz.func17, Tryz.ntmps17
    go_wp2_with fail
    refine (HC.out).mono ?_
    rintro e w1 ⟨v, rfl, ho1, hb1⟩
    obtain ⟨A1, c1, rfl, _⟩ := ho1.form
    have HO1 := hide ho1
    have HB1 := hide hb1
    clear ho1 hb1
    go_wp2_with fail
    refine (HS.out A1 c1 _ w1).mono ?_
    rintro e w2 ⟨rfl, rfl⟩
    go_wp2_with fail
    refine (HK.out A1 c1 w1).mono ?_
    rintro e w3 ⟨rfl, rfl⟩
    rw [HF.out]
    go_wp2
    go_loop [5] (fun i => i = .int .i64 1) (fun _ => 0)
    case atStart => rfl
    case round =>
      obtain rfl := hrel
      go_wp2
      go_ret2
      exact ⟨_, rfl, HO1.out, HB1.out⟩
  · have HN0 := Lib.hid (show zs ≠ [] from fun e => by rw [e] at h0; exact Nat.lt_irrefl _ h0)
    go_enter Tryz.func17, Tryz.ntmps17
    go_wp2_with fail
    refine (HC.out).mono ?_
    rintro e w1 ⟨v, rfl, ho1, hb1⟩
    obtain ⟨g, c1, rfl, _⟩ := ho1.row HN0.out
    have HGB := Lib.hid (ho1.lt g rfl).1
    have HB1 := hide hb1
    have HS := hide (sortI_any zs w.heap.size g c1 w1 ho1 HOK.out (by have := hlen.out; omega))
    clear ho1 hb1
    go_wp2_with fail
    refine (HS.out).mono ?_
    rintro e w2 ⟨rfl, ts, hperm, hsrt, ho2, hg2⟩
    have HCA := hide (compact_asc hsrt)
    have HMEM := hide (fun x => ((compact_asc hsrt).2 x).trans (hperm.mem_iff))
    have HTL := Lib.hid hperm.length_eq
    have HB2 := hide (HB1.out.grown hg2 HB1.out.size (fun k e => by cases e; exact HGB.out))
    rw [← HTL.out] at ho2 ⊢
    have HK := hide (compI_any ts w.heap.size g c1 w2 ho2 (fun x hx => ((compact_asc hsrt).2 x).1 hx))
    clear hperm hsrt ho2 hg2
    go_wp2_with fail
    refine (HK.out).mono ?_
    rintro e w3 ⟨rfl, ho3, hg3⟩
    generalize Lib.compact ts = cs at ho3 HCA HMEM ⊢
    have HB3 := hide (HB2.out.grown hg3 HB2.out.size (fun k e => by cases e; exact HGB.out))
    have HO3 := hide ho3
    clear ho3 hg3
    have HCL := Lib.hid (show cs.length ≤ 9223372036854775807 from HO3.out.2.1)
    obtain ⟨nc, HNC⟩ : ∃ nc, Hid (cs.length = nc) := ⟨_, Lib.hid rfl⟩
    rw [HNC.out] at HO3 ⊢
    have hnc := HCL.out
    rw [HNC.out] at hnc
    go_wp2
    go_loopw [5] (fun i wr => ∃ k q : Nat, 1 ≤ k ∧ i = .int .i64 k ∧ (k ≤ nc ∨ k = 1) ∧ Hid (wr = w3.drewN q) ∧ Hid (∀ j, j < k → ¬ adjAt cs j)) (fun i _ => nc + 1 - (intOf i).toNat)
    case atStart => exact ⟨1, 0, Nat.le_refl _, rfl, .inr rfl, Lib.hid rfl, hide fun j hj h => by have := h.1; omega⟩
    case round =>
      obtain ⟨k, q, hk1, rfl, hk2, hq, hN⟩ := hrel
      have hqe := hq.out
      subst hqe
      by_cases hlt : k < nc
      · obtain ⟨k', rfl⟩ : ∃ k', k = k' + 1 := ⟨k - 1, by omega⟩
        obtain ⟨ad, e, _, hc1⟩ := HO3.out.ints.at_ hlt
        cases e
        obtain ⟨ad, e, _, hc0⟩ := HO3.out.ints.at_ (k := k') (by omega)
        cases e
        have hc1' : (w3.drewN q).cell? ((⟨g, 0, none⟩ : Addr).add (k' + 1)) = some (.int .i64 (cs.getD (k' + 1) 0)) := hc1
        have hc0' : (w3.drewN q).cell? ((⟨g, 0, none⟩ : Addr).add k') = some (.int .i64 (cs.getD k' 0)) := hc0
        rw [show (⟨g, 0, none⟩ : Addr).add (k' + 1) = ⟨g, k' + 1, none⟩ by unfold Addr.add; simp] at hc1 hc1'
        rw [show (⟨g, 0, none⟩ : Addr).add k' = ⟨g, k', none⟩ by unfold Addr.add; split <;> simp [*]] at hc0 hc0'
        have hy1 := HOK.out _ ((HMEM.out _).1 (getD_mem (e := cs) (i := k' + 1) (by rw [HNC.out]; exact hlt)))
        have hy0 := HOK.out _ ((HMEM.out _).1 (getD_mem (e := cs) (i := k') (by rw [HNC.out]; omega)))
        have HAD := hide (show adjAt cs (k' + 1) ↔ cs.getD (k' + 1) 0 = -(cs.getD k' 0) from ⟨fun h => h.2.2, fun h => ⟨by omega, by rw [HNC.out]; exact hlt, h⟩⟩)
        generalize cs.getD (k' + 1) 0 = x at hc1 hc1' hy1 HAD
        generalize cs.getD k' 0 = y at hc0 hc0' hy0 HAD
        have hyb : -24 ≤ y ∧ y ≤ 24 := by rcases hy0 with h | h <;> omega
        have hw0 : (0 : Int) ≤ (k' : Int) := by omega
        have hw1 : IntKind.i64.wrap ((k' : Int) + 1 - 1) = (k' : Int) := by rw [Int.add_sub_cancel]; exact IntWalk.i64_in _ ⟨by omega, by omega⟩
        have hw2 : IntKind.i64.wrap (-y) = -y := IntWalk.i64_in _ ⟨by omega, by omega⟩
        have hw3 : (k' : Int) < (nc : Int) := by omega
        have hw4 : (k' : Int) + 1 < (nc : Int) := by omega
        have hw5 : (0 : Int) ≤ (k' : Int) + 1 := by omega
        have hw6 : ((k' : Int) + 1).toNat = k' + 1 := by omega
        clear hy0 hy1
        by_cases hxy : x = -y
        · have HB := Lib.hid (form_both HMEM.out (HAD.out.2 hxy))
          have hbx : (x == -y) = true := by simp [hxy]
          clear hxy
          go_wp2
          go_quiet (fail)
          go_wp2
          go_ret2
          rw [HB.out]
          exact ⟨_, rfl, Own.nil _ _, below_drewN (below_drewN HB3.out _) _⟩
        · have HNN := hide (show ∀ j, j < k' + 1 + 1 → ¬ adjAt cs j from fun j hj h => by
            rcases Nat.lt_or_ge j (k' + 1) with h1 | h1
            · exact hN.out j h1 h
            · have : j = k' + 1 := by omega
              subst this
              exact hxy (HAD.out.1 h))
          have hbx : (x == -y) = false := by simp [hxy]
          clear hxy
          go_wp2
          go_quiet (fail)
          go_wp2
          go_roundw
          case rel => exact ⟨k' + 1 + 1, _, by omega, by go_num, .inl (by omega), Lib.hid rfl, HNN⟩
          case measure => simp [intOf]; omega
      · have HFF := Lib.hid (form_of HOK.out HCA.out.1 HMEM.out (fun ⟨i, hi⟩ => hN.out i (by have := hi.2.1; have := HNC.out; omega) hi))
        go_wp2
        go_ret2
        rw [HFF.out]
        exact ⟨_, rfl, HO3.out, below_drewN HB3.out q⟩
end Go.Proofs.YtkkgdlfjblmbjaaGreatDoor
