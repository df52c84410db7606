/-
  A part of the proof: CatIdx. Conditions: none.
-/
import Derived.Test.YtmncoldaemcnlaaGreatDoorCmCatChk
import Derived.Laws.StructEq
namespace Go.Proofs.YtmncoldaemcnlaaGreatDoor
open Go.RowKit
open Classical
set_option maxRecDepth 100000
theorem eqlArr_d (d : Nat) (T : TypeId) (hT : Tryz.prog.underlying T = some (.array 3 3)) (x y z a b c : Int) (w : World) : (Op.equalIn (d + 2) T (.agg #[.int .i64 x, .int .i64 y, .int .i64 z]) (.agg #[.int .i64 a, .int .i64 b, .int .i64 c])).run Tryz.prog w = .ok (eq3 x y z a b c) w := by
 obtain ⟨i, hi⟩ := Option.isSome_iff_exists.1 infoInt_c
 have hp : ∀ (xs : Array Value) (j : Nat) (n : Int), xs[j]? = some (.int .i64 n) → (part 3 xs j).run Tryz.prog w = .ok (.int .i64 n) w := fun xs j n h => by simp [part, isAgg, run_underlying Tryz.underlying3, h]
 have he : ∀ (a b : Int), (Op.equalIn (d + 1) 3 (.int .i64 a) (.int .i64 b)).run Tryz.prog w = .ok (a == b) w := fun a b => run_equalIn_int w d 3 .i64 .i64 a b Tryz.underlying3
 rw [run_equalIn_array w (d + 1) _ _ hT hi, cellsInt_c, show List.range 3 = [0, 1, 2] from rfl]
 unfold eq3
 by_cases h1 : x = a
 ·by_cases h2 : y = b
  ·by_cases h3 : z = c
   ·simp [Op.eqItems, hp _ 0 x, hp _ 1 y, hp _ 2 z, he, h1, h2, h3]
   ·simp [Op.eqItems, hp _ 0 x, hp _ 1 y, hp _ 2 z, hp _ 2 c, he, h1, h2, h3]
  ·simp [Op.eqItems, hp _ 0 x, hp _ 1 y, hp _ 1 b, he, h1, h2]
 ·simp [Op.eqItems, hp _ 0 x, hp _ 0 a, he, h1]
theorem item_eq (a b : ItR) : (a.1.toList == b.1.toList && eq3 a.2.1 a.2.2.1 a.2.2.2 b.2.1 b.2.2.1 b.2.2.2) = decide (a = b) := by
 obtain ⟨s, x, y, z⟩ := a
 obtain ⟨u, x', y', z'⟩ := b
 rw [Bool.eq_iff_iff]
 unfold eq3
 simp only [Bool.and_eq_true, beq_iff_eq, decide_eq_true_eq, Prod.mk.injEq]
 constructor
 ·rintro ⟨h1, h2, h3, h4⟩
  rw [ByteArray.toList_eq, ByteArray.toList_eq] at h1
  exact ⟨(bytes_back _ s rfl).symm.trans (bytes_back _ u h1), h2, h3, h4⟩
 ·rintro ⟨rfl, rfl, rfl, rfl⟩
  exact ⟨rfl, rfl, rfl, rfl⟩
theorem eqlIt_gen (T V : TypeId) (fs : List Field) (hu : Tryz.prog.underlying T = some (.struct (Tryz.prog.fieldsOf T))) (hs : Tryz.prog.stoodInHeld T = false) (hl : (Tryz.prog.fieldsOf T).toList = fs) (hfs : fs.map (fun f => (f.name != "_", f.type, f.offset)) = [(true, 9, 0), (true, V, 1)]) (hV : Tryz.prog.underlying V = some (.array 3 3))
  (hp0 : ∀ s (x y z : Int) w, (part 9 #[.string s, .int .i64 x, .int .i64 y, .int .i64 z] 0).run Tryz.prog w = .ok (.string s) w) (hp1 : ∀ s (x y z : Int) w, (part V #[.string s, .int .i64 x, .int .i64 y, .int .i64 z] 1).run Tryz.prog w = .ok (.agg #[.int .i64 x, .int .i64 y, .int .i64 z]) w)
  (a b : ItR) (w : World) : (binOp .eql T (.agg (itA a)) (.agg (itA b))).run Tryz.prog w = .ok (.bool (decide (a = b))) w := by
 obtain ⟨f0, f1, hff⟩ : ∃ f0 f1, fs = [f0, f1] := by
  have h2 : fs.length = 2 := by have := congrArg List.length hfs; rw [List.length_map] at this; exact this
  cases fs with
  | nil => cases h2
  | cons f0 r =>
   cases r with
   | nil => cases h2
   | cons f1 r =>
    cases r with
    | nil => exact ⟨f0, f1, rfl⟩
    | cons _ _ => simp at h2
 subst hff
 simp only [List.map_cons, List.map_nil, List.cons.injEq, Prod.mk.injEq, and_true] at hfs
 obtain ⟨⟨n0, t0, o0⟩, n1, t1, o1⟩ := hfs
 have n0' : f0.name ≠ "_" := by simpa using n0
 have n1' : f1.name ≠ "_" := by simpa using n1
 obtain ⟨s, x, y, z⟩ := a
 obtain ⟨u, x', y', z'⟩ := b
 have e0 : (Op.equalIn 9999 9 (.string s) (.string u)).run Tryz.prog w = .ok (s.toList == u.toList) w := run_equalIn_string w 9998 9 s u Tryz.underlying9
 have e1 := eqlArr_d 9997 V hV x y z x' y' z' w
 rw [run_eql_struct, run_equalIn_struct w 9999 T _ _ hu hs, hl]
 have hd := item_eq (s, x, y, z) (u, x', y', z')
 simp only [] at hd
 rw [← hd]
 unfold itA
 cases hsu : s.toList == u.toList with
 | false => simp [Op.eqFields, n0', t0, o0, hp0, e0, hsu]
 | true =>
  rw [hsu] at e0
  cases hv : eq3 x y z x' y' z' with
  | false =>
   rw [hv] at e1
   simp [Op.eqFields, n0', n1', t0, o0, t1, o1, hp0, hp1, e0, e1]
  | true =>
   rw [hv] at e1
   simp [Op.eqFields, n0', n1', t0, o0, t1, o1, hp0, hp1, e0, e1]
theorem eqlJ (a b : ItR) (w : World) : (binOp .eql 86 (.agg (itA a)) (.agg (itA b))).run Tryz.prog w = .ok (.bool (decide (a = b))) w :=
 eqlIt_gen 86 33 _ (by kernel_rfl) (by kernel_rfl) rfl (by kernel_rfl) Tryz.underlying33 (fun _ _ _ _ _ => by kernel_rfl) (fun _ _ _ _ _ => by kernel_rfl) a b w
theorem eqlI (a b : ItR) (w : World) : (binOp .eql 84 (.agg (itA a)) (.agg (itA b))).run Tryz.prog w = .ok (.bool (decide (a = b))) w :=
 eqlIt_gen 84 23 _ (by kernel_rfl) (by kernel_rfl) rfl (by kernel_rfl) Tryz.underlying23 (fun _ _ _ _ _ => by kernel_rfl) (fun _ _ _ _ _ => by kernel_rfl) a b w
noncomputable def posF (x : ItR) : List ItR → Nat → Int
 | [], _ => -1
 | a :: r, i => if a = x then (i : Int) else posF x r (i + 1)
noncomputable def posN (its : List ItR) (x : ItR) : Int := posF x its 0
theorem posF_hit {x a : ItR} {r : List ItR} {i : Nat} (h : a = x) : posF x (a :: r) i = i := by rw [posF, if_pos h]
theorem posF_miss {x a : ItR} {r : List ItR} {i : Nat} (h : a ≠ x) : posF x (a :: r) i = posF x r (i + 1) := by rw [posF, if_neg h]
theorem posF_cases (x : ItR) : ∀ (l : List ItR) (i : Nat), (x ∈ l ∧ (i : Int) ≤ posF x l i ∧ posF x l i < (i : Int) + l.length) ∨ (x ∉ l ∧ posF x l i = -1)
 | [], i => .inr ⟨List.not_mem_nil, rfl⟩
 | a :: r, i => by
  by_cases h : a = x
  ·rw [posF_hit h]
   exact .inl ⟨by rw [h]; exact List.mem_cons_self, by omega, by simp; omega⟩
  ·rw [posF_miss h]
   rcases posF_cases x r (i + 1) with ⟨h1, h2, h3⟩ | ⟨h1, h2⟩
   ·exact .inl ⟨List.mem_cons_of_mem _ h1, by omega, by simp; omega⟩
   ·exact .inr ⟨by simp [h1, Ne.symm h], h2⟩
theorem posN_in {l : List ItR} {x : ItR} (h : x ∈ l) : 0 ≤ posN l x ∧ posN l x < l.length := by
 rcases posF_cases x l 0 with ⟨_, h2, h3⟩ | ⟨h1, _⟩
 ·exact ⟨by simpa [posN] using h2, by simpa [posN] using h3⟩
 ·exact absurd h h1
theorem posN_out {l : List ItR} {x : ItR} (h : x ∉ l) : posN l x = -1 := by
 rcases posF_cases x l 0 with ⟨h1, _⟩ | ⟨_, h2⟩
 ·exact absurd h1 h
 ·exact h2
def PosP (its : List ItR) (x : ItR) (w : World) (e : Ending) (w' : World) : Prop := e = .returned (.int .i64 (posN its x)) ∧ Below w.heap.size w w'
theorem posN_drop {its : List ItR} {x : ItR} {i : Nat} (hi : i < its.length) (h : posF x (its.drop i) i = posN its x) : (its[i] = x → posN its x = i) ∧ (its[i] ≠ x → posF x (its.drop (i + 1)) (i + 1) = posN its x) := by
 rw [List.drop_eq_getElem_cons hi] at h
 exact ⟨fun e => by rw [posF_hit e] at h; exact h.symm, fun e => by rw [posF_miss e] at h; exact h⟩
theorem OwnK.rowAt {α : Type} {E : ElK α} {w : World} {A : Option Addr} {n c i : Nat} {l : List α} {base : Nat} (h : OwnK E w base (.slice A n c) l) (hi : i < l.length) : ∃ g, A = some ⟨g, 0, none⟩ ∧ RowK E w g l := by
 rcases h.form with ⟨_, h0⟩ | ⟨g, cap, e, _, _, _, hr⟩
 ·rw [h0] at hi; simp at hi
 ·injection e with e1 _ _; exact ⟨g, e1, hr⟩
set_option maxHeartbeats 4000000 in
theorem idxIt_any (v : Value) (its : List ItR) (x : ItR) (w : World) (h : OwnK elJ w 0 v its) (hl : its.length ≤ 1000000) : Calls Tryz.prog 74 #[v, .agg (itA x)] w (PosP its x w) := by
 obtain ⟨A, c, rfl, hc⟩ := h.len
 have HB := hide ((Below.refl w.heap.size w).alloc (Nat.le_refl _) (.cells #[.string x.1, .int .i64 x.2.1, .int .i64 x.2.2.1, .int .i64 x.2.2.2] 86))
 have HK := hide (Blk.new w 86 #[.string x.1, .int .i64 x.2.1, .int .i64 x.2.2.1, .int .i64 x.2.2.2])
 have HO := hide (h.below ((Below.refl w.heap.size w).alloc (Nat.le_refl _) (.cells #[.string x.1, .int .i64 x.2.1, .int .i64 x.2.2.1, .int .i64 x.2.2.2] 86)))
 have HEQ := hide (fun (a b : ItR) (w : World) => eqlJ a b w)
 clear h
 unfold itA
 go_enter Tryz.func74, Tryz.ntmps74
 go_wp2_with fail
 generalize World.alloc _ (.cells #[.string x.1, .int .i64 x.2.1, .int .i64 x.2.2.1, .int .i64 x.2.2.2] 86) = w0 at HB HK HO ⊢
 generalize hbx : w.heap.size = bx at HK ⊢
 go_loopw [8] (fun iv wr => ∃ i : Nat, i ≤ its.length ∧ iv = .int .i64 i ∧ Hid (Below w0.heap.size w0 wr) ∧ Hid (posF x (its.drop i) i = posN its x)) (fun iv _ => its.length - (intOf iv).toNat)
 case atStart => exact ⟨0, Nat.zero_le _, rfl, hide (Below.refl _ _), Lib.hid rfl⟩
 case round =>
  obtain ⟨i, hi, rfl, HW, HP⟩ := hrel
  by_cases hlt : i < its.length
  ·have hltz : (i : Int) < (its.length : Int) := by omega
   obtain ⟨g, rfl, hr⟩ := (HO.out.below HW.out).rowAt hlt
   obtain ⟨y0, y1, y2, y3⟩ := row4 rfl rfl hr hlt
   have hk := HK.out.below HW.out HK.out.lt
   have k0 := hk.cell 0
   have k1 := hk.cell 1
   have k2 := hk.cell 2
   have k3 := hk.cell 3
   obtain ⟨hh, hm⟩ := posN_drop hlt HP.out
   have heq := HEQ.out x its[i]
   unfold itA at heq
   clear hk hr
   by_cases he : its[i] = x
   ·rw [decide_eq_true he.symm] at heq
    have HR := Lib.hid (hh he)
    clear he hh hm
    generalize its[i] = y at y0 y1 y2 y3 heq
    go_wp2_with fail
    go_quiet (fail)
    go_wp2
    go_ret
    exact ⟨by rw [HR.out]; rfl, HB.out.trans (((HW.out).trans ((below_drewN (Below.refl _ _) _).mono HW.out.size)).mono HB.out.size)⟩
   ·rw [decide_eq_false (fun e => he e.symm)] at heq
    have HR := Lib.hid (hm he)
    clear he hh hm
    generalize its[i] = y at y0 y1 y2 y3 heq
    go_wp2_with fail
    go_quiet (fail)
    go_wp2
    go_roundw
    case rel => exact ⟨i + 1, by omega, by go_num, hide (HW.out.trans ((below_drewN (Below.refl _ _) _).mono HW.out.size)), HR⟩
    case measure => simp [intOf]; omega
  ·obtain rfl : i = its.length := by omega
   have hltz : ¬ (its.length : Int) < (its.length : Int) := by omega
   have hp := HP.out
   rw [List.drop_length, posF] at hp
   have HR := Lib.hid hp
   clear hp
   go_wp2_with fail
   go_ret
   exact ⟨by rw [← HR.out]; rfl, HB.out.trans (HW.out.mono HB.out.size)⟩
set_option maxHeartbeats 4000000 in
theorem refNum_at (v : Value) (its : List ItR) (x : ItR) (w : World) (h : OwnK elI w 0 v its) (hl : its.length ≤ 1000000) : Calls Tryz.prog 35 #[v, .agg (itA x)] w (PosP its x w) := by
 obtain ⟨A, c, rfl, hc⟩ := h.len
 have HB := hide ((Below.refl w.heap.size w).alloc (Nat.le_refl _) (.cells #[.string x.1, .int .i64 x.2.1, .int .i64 x.2.2.1, .int .i64 x.2.2.2] 84))
 have HK := hide (Blk.new w 84 #[.string x.1, .int .i64 x.2.1, .int .i64 x.2.2.1, .int .i64 x.2.2.2])
 have HO := hide (h.below ((Below.refl w.heap.size w).alloc (Nat.le_refl _) (.cells #[.string x.1, .int .i64 x.2.1, .int .i64 x.2.2.1, .int .i64 x.2.2.2] 84)))
 have HEQ := hide (fun (a b : ItR) (w : World) => eqlI a b w)
 clear h
 unfold itA
 go_enter Tryz.func35, Tryz.ntmps35
 go_wp2_with fail
 generalize World.alloc _ (.cells #[.string x.1, .int .i64 x.2.1, .int .i64 x.2.2.1, .int .i64 x.2.2.2] 84) = w0 at HB HK HO ⊢
 generalize hbx : w.heap.size = bx at HK ⊢
 go_loopw [9] (fun iv wr => ∃ i : Nat, i ≤ its.length ∧ iv = .int .i64 i ∧ Hid (Below w0.heap.size w0 wr) ∧ Hid (posF x (its.drop i) i = posN its x)) (fun iv _ => its.length - (intOf iv).toNat)
 case atStart => exact ⟨0, Nat.zero_le _, rfl, hide (Below.refl _ _), Lib.hid rfl⟩
 case round =>
  obtain ⟨i, hi, rfl, HW, HP⟩ := hrel
  by_cases hlt : i < its.length
  ·have hltz : (i : Int) < (its.length : Int) := by omega
   obtain ⟨g, rfl, hr⟩ := (HO.out.below HW.out).rowAt hlt
   obtain ⟨y0, y1, y2, y3⟩ := row4 rfl rfl hr hlt
   have hk := HK.out.below HW.out HK.out.lt
   have k0 := hk.cell 0
   have k1 := hk.cell 1
   have k2 := hk.cell 2
   have k3 := hk.cell 3
   have klt := hk.lt
   obtain ⟨hh, hm⟩ := posN_drop hlt HP.out
   have heq := HEQ.out x its[i]
   unfold itA at heq
   clear hk hr
   by_cases he : its[i] = x
   ·rw [decide_eq_true he.symm] at heq
    have HR := Lib.hid (hh he)
    clear he hh hm
    generalize its[i] = y at y0 y1 y2 y3 heq
    go_wp2_with fail
    go_ret
    exact ⟨by rw [HR.out]; rfl, HB.out.trans ((HW.out.alloc HW.out.size _).mono HB.out.size)⟩
   ·rw [decide_eq_false (fun e => he e.symm)] at heq
    have HR := Lib.hid (hm he)
    clear he hh hm
    generalize its[i] = y at y0 y1 y2 y3 heq
    have HN := hide (HW.out.alloc HW.out.size (.cells #[.string y.1, .int .i64 y.2.1, .int .i64 y.2.2.1, .int .i64 y.2.2.2] 84))
    go_wp2_with fail
    go_round
    case rel => exact ⟨i + 1, by omega, by go_num, HN, HR⟩
    case measure => simp [intOf]; omega
  ·obtain rfl : i = its.length := by omega
   have hltz : ¬ (its.length : Int) < (its.length : Int) := by omega
   have hp := HP.out
   rw [List.drop_length, posF] at hp
   have HR := Lib.hid hp
   clear hp
   go_wp2_with fail
   go_ret
   exact ⟨by rw [← HR.out]; rfl, HB.out.trans (HW.out.mono HB.out.size)⟩
structure CatM (w : World) (g : Nat) (vl vi : Value) (its : List ItR) : Prop where
 blk : Blk w g 136 #[vl, vi]
 own : OwnK elJ w 0 vi its
theorem CatM.below {w w' : World} {g : Nat} {vl vi : Value} {its : List ItR} (h : CatM w g vl vi its) (hb : Below w.heap.size w w') : CatM w' g vl vi its := ⟨h.blk.below hb h.blk.lt, h.own.below hb⟩
theorem num_keep {w W : World} {g bx : Nat} {vl vi : Value} {a b c : Value} {its : List ItR} (h : CatM w g vl vi its) (hk : Blk w bx 33 #[a, b, c]) (hb : Below w.heap.size w W) :
  W.cell? ⟨g, 1, none⟩ = some vi ∧ W.cell? ⟨bx, 0, none⟩ = some a ∧ W.cell? ⟨bx, 1, none⟩ = some b ∧ W.cell? ⟨bx, 2, none⟩ = some c := by
 have h2 := h.blk.below hb h.blk.lt
 have k2 := hk.below hb hk.lt
 exact ⟨h2.cell 1, k2.cell 0, k2.cell 1, k2.cell 2⟩
set_option maxHeartbeats 4000000 in
theorem catNum_any (g : Nat) (vl vi : Value) (its : List ItR) (x : ItR) (w : World) (h : CatM w g vl vi its) (hl : its.length ≤ 1000000) : Calls Tryz.prog 32 #[.pointer (some ⟨g, 0, none⟩), .string x.1, .agg #[.int .i64 x.2.1, .int .i64 x.2.2.1, .int .i64 x.2.2.2]] w (PosP its x w) := by
 have hal := (Below.refl w.heap.size w).alloc (Nat.le_refl _) (.cells #[.int .i64 x.2.1, .int .i64 x.2.2.1, .int .i64 x.2.2.2] 33)
 have HB := hide hal
 have HM := hide (h.below hal)
 have HK := hide (Blk.new w 33 #[.int .i64 x.2.1, .int .i64 x.2.2.1, .int .i64 x.2.2.2])
 obtain ⟨A, c, rfl, _⟩ := h.own.len
 clear hal h
 go_enter Tryz.func32, Tryz.ntmps32
 go_wp2_with fail
 generalize World.alloc _ (.cells #[.int .i64 x.2.1, .int .i64 x.2.2.1, .int .i64 x.2.2.2] 33) = w0 at HB HM HK ⊢
 generalize w.heap.size = bx at HK ⊢
 have HI := hide (fun (W : World) (hb : Below w0.heap.size w0 W) => idxIt_any _ its x W (HM.out.below hb).own hl)
 unfold itA at HI
 have bS : Below w0.heap.size w0 w0.drew := (Below.refl _ _).drew
 obtain ⟨z0, z1, z2, z3⟩ := num_keep HM.out HK.out (Below.refl _ _)
 go_region_held3 (fun w' => w'.cell? ⟨g, 1, none⟩ = some (.slice A its.length c) ∧ w'.cell? ⟨bx, 0, none⟩ = some (.int .i64 x.2.1) ∧ w'.cell? ⟨bx, 1, none⟩ = some (.int .i64 x.2.2.1) ∧ w'.cell? ⟨bx, 2, none⟩ = some (.int .i64 x.2.2.2))
  (first | exact num_keep HM.out HK.out (bThen bS b1) | exact num_keep HM.out HK.out bS | exact num_keep HM.out HK.out (Below.refl _ _))
  (first | (go_at_call 74; refine (HI.out _ (by first | exact bS | exact Below.refl _ _)).mono ?_; rintro e w1 ⟨rfl, b1⟩))
 all_goals
  go_wp2_with fail
  go_ret
  exact ⟨rfl, HB.out.trans ((bThen bS b1).mono HB.out.size)⟩
end Go.Proofs.YtmncoldaemcnlaaGreatDoor
