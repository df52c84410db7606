/-
  The document's Tables.
-/
import Derived.Test.YtdlcldhnbhlikaaGreatDoorBddTabM
import Derived.StillTailTactics
namespace Go.Proofs.YtdlcldhnbhlikaaGreatDoor
open Go.RowKit Go.Maps

theorem pow_wrap {vn sz : Nat} (h6 : vn ≤ 6) (hs : 2 ^ vn = sz) : wrap64 (2 ^ vn) = (sz : Int) ∧ sz ≤ 64 ∧ 0 < sz := by
  subst hs
  rcases (show vn = 0 ∨ vn = 1 ∨ vn = 2 ∨ vn = 3 ∨ vn = 4 ∨ vn = 5 ∨ vn = 6 by omega) with rfl | rfl | rfl | rfl | rfl | rfl | rfl <;> decide +kernel
/-- Where Tables stands. -/
structure TblI (w : World) (sz vn : Nat) (q : Nat → Four) (i : Nat) (vo : Value) (wr : World) : Prop where
  bel : Below w.heap.size w wr
  is : ∃ gs, OwnT wr w.heap.size sz vo gs ∧ Tabs wr w.heap.size sz gs ((funsN vn q i).map (tabF sz))
def TblP (w : World) (sz vn : Nat) (q : Nat → Four) (n : Nat) (e : Ending) (w' : World) : Prop := ∃ v, e = .returned v ∧ TblI w sz vn q n v w'
/-- The first two tables, being made. -/
structure TwoI (w : World) (sz g0 p1 p2 : Nat) (us : List Bool) (wr : World) : Prop where
  bel : Below w.heap.size w wr
  k0 : Blk wr g0 35 #[.slice (some ⟨p1, 0, none⟩) sz sz, .slice (some ⟨p2, 0, none⟩) sz sz]
  k1 : Blk wr p1 4 (boolArr (List.replicate sz false))
  k2 : Blk wr p2 4 (boolArr us)
  len : us.length = sz
  ge : w.heap.size ≤ g0 ∧ w.heap.size ≤ p1 ∧ w.heap.size ≤ p2 ∧ p1 ≠ p2
theorem TwoI.set_ {w wr : World} {sz g0 p1 p2 : Nat} {us : List Bool} (h : TwoI w sz g0 p1 p2 us wr) (i : Nat) : TwoI w sz g0 p1 p2 (us.set i true) (wr.setCell ⟨p2, i, none⟩ (.bool true)) :=
  ⟨h.bel.trans ((Below.refl w.heap.size wr).setCell h.ge.2.2.1 _), h.k0.far (h.k0.ne_ h.k2 (by decide)) _, h.k1.far h.ge.2.2.2 _, by rw [← boolArr_set]; exact h.k2.set_ i _, by rw [List.length_set]; exact h.len, h.ge⟩
theorem TwoI.done {w wr : World} {sz g0 p1 p2 : Nat} {us : List Bool} (h : TwoI w sz g0 p1 p2 us wr) (hu : ∀ j, j < sz → us.getD j false = true) (vn : Nat) (q : Nat → Four) : TblI w sz vn q 0 (.slice (some ⟨g0, 0, none⟩) 2 2) wr := by
  have e1 : List.replicate sz false = tabF sz fn0 := tab_eq (List.length_replicate ..) fun i hi => by simp [fn0, List.getD_eq_getElem?_getD, hi]
  have e2 : us = tabF sz fn1 := tab_eq h.len fun i hi => hu i hi
  refine ⟨h.bel, [p1, p2], ⟨rfl, .inr ⟨g0, 2, _, rfl, h.ge.1, h.k0, Nat.le_refl _, by simp [maxLen], rfl, rfl⟩⟩, rfl, fun k hk => ?_⟩
  rcases (show k = 0 ∨ k = 1 by simp at hk; omega) with rfl | rfl
  · exact ⟨h.ge.2.1, show Blk wr p1 4 (boolArr (tabF sz fn0)) by rw [← e1]; exact h.k1, tab_len _ _⟩
  · exact ⟨h.ge.2.2.1, show Blk wr p2 4 (boolArr (tabF sz fn1)) by rw [← e2]; exact h.k2, tab_len _ _⟩
theorem Tabs.arg {w : World} {base sz : Nat} {gs : List Nat} {fs : List FnB} (h : Tabs w base sz gs (fs.map (tabF sz))) (hl : fs.length = gs.length) (h0 : 0 < gs.length) (z : Int) :
    atN z gs.length < gs.length ∧ base ≤ gs.getD (atN z gs.length) 0 ∧ Blk w (gs.getD (atN z gs.length) 0) 4 (boolArr (tabF sz (argF fs z))) := by
  have h1 := atN_lt z h0
  obtain ⟨h2, h3, _⟩ := h.is _ h1
  refine ⟨h1, h2, ?_⟩
  have e : (fs.map (tabF sz)).getD (atN z gs.length) [] = tabF sz (argF fs z) := by
    unfold argF
    rw [hl, List.getD_eq_getElem?_getD, List.getElem?_map, List.getD_eq_getElem?_getD, List.getElem?_eq_getElem (by omega)]
    rfl
  rw [← e]
  exact h3
/-- Where the inner loop stands. -/
structure InnI (wz : World) (pt sz : Nat) (F : FnB) (i : Nat) (wr : World) : Prop where
  fr : Fr (fun k => k = pt) wz wr
  is : ∃ us, Blk wr pt 4 (boolArr us) ∧ us.length = sz ∧ ∀ j, j < i → us.getD j false = F (valN j)
theorem InnI.drewN {wz wr : World} {pt sz k : Nat} {F : FnB} (h : InnI wz pt sz F k wr) (m : Nat) : InnI wz pt sz F k (wr.drewN m) := by
  obtain ⟨us, h1, h2, h3⟩ := h.is
  exact ⟨h.fr.trans (.of_below (below_drewN (Below.refl wr.heap.size wr) m) (Nat.le_refl _)), us, h1.drewN m, h2, h3⟩
theorem InnI.over {wz wr : World} {pt sz k : Nat} {F : FnB} (h : InnI wz pt sz F k wr) (v : Bool) : InnI wz pt sz F k (wr.setCell ⟨pt, k, none⟩ (.bool v)) := by
  obtain ⟨us, h1, h2, h3⟩ := h.is
  refine ⟨h.fr.set_ (p := ⟨pt, k, none⟩) rfl _, us.set k v, by rw [← boolArr_set]; exact h1.set_ k _, by rw [List.length_set]; exact h2, fun j hj => ?_⟩
  rw [getD_set, if_neg (by omega)]
  exact h3 j hj
theorem InnI.next {wz wr : World} {pt sz k : Nat} {F : FnB} (h : InnI wz pt sz F k wr) (hk : k < sz) (v : Bool) (hv : v = F (valN k)) : InnI wz pt sz F (k + 1) (wr.setCell ⟨pt, k, none⟩ (.bool v)) := by
  obtain ⟨us, h1, h2, h3⟩ := h.is
  refine ⟨h.fr.set_ (p := ⟨pt, k, none⟩) rfl _, us.set k v, by rw [← boolArr_set]; exact h1.set_ k _, by rw [List.length_set]; exact h2, fun j hj => ?_⟩
  rw [getD_set]
  by_cases e : k = j
  · subst e
    rw [if_pos ⟨rfl, by omega⟩]
    exact hv
  · rw [if_neg (fun h => e h.1)]
    exact h3 j (by omega)
/-- A table's cell. -/
theorem tab_cell {w : World} {p sz k : Nat} {F : FnB} (h : Blk w p 4 (boolArr (tabF sz F))) (hk : k < sz) : w.cell? ⟨p, k, none⟩ = some (.bool (F (valN k))) := by
  rw [h.cell k, boolArr_at (by rw [tab_len]; exact hk), tab_at F hk]
theorem refAt_any (n : Int) (k : Nat) (w : World) (hk : 0 < k) (hk2 : k ≤ 1000000) :
    Calls Tryz.prog 83 #[.int .i64 n, .int .i64 (k : Int)] w (AtQ w n k) := by
  go_enter Tryz.func83, Tryz.ntmps83
  go_wp2
  go_ret
  exact ⟨by rw [← at_val n hk hk2]; rfl, rfl⟩
theorem two_start1 (w : World) (sz : Nat) : TwoI w sz (w.heap.size + 1 + 1) w.heap.size (w.heap.size + 1) (List.replicate sz false)
    (((w.alloc (.cells (boolArr (List.replicate sz false)) 4)).alloc (.cells (boolArr (List.replicate sz false)) 4)).alloc (.cells #[.slice (some ⟨w.heap.size, 0, none⟩) sz sz, .slice (some ⟨w.heap.size + 1, 0, none⟩) sz sz] 35)).drew := by
  have e1 : (w.alloc (.cells (boolArr (List.replicate sz false)) 4)).heap.size = w.heap.size + 1 := by simp
  have e2 : ((w.alloc (.cells (boolArr (List.replicate sz false)) 4)).alloc (.cells (boolArr (List.replicate sz false)) 4)).heap.size = w.heap.size + 1 + 1 := by simp
  refine ⟨(((Below.refl w.heap.size w).alloc (Nat.le_refl _) _).alloc (by simp) _ |>.alloc (by simp; omega) _).drew, ?_, ?_, ?_, List.length_replicate .., by omega, Nat.le_refl _, by omega, by omega⟩
  · have := Blk.new ((w.alloc (.cells (boolArr (List.replicate sz false)) 4)).alloc (.cells (boolArr (List.replicate sz false)) 4)) 35 #[.slice (some ⟨w.heap.size, 0, none⟩) sz sz, .slice (some ⟨w.heap.size + 1, 0, none⟩) sz sz]
    rw [e2] at this
    exact this.drew
  · exact (((Blk.new w 4 (boolArr (List.replicate sz false))).alloc _).alloc _).drew
  · have := Blk.new (w.alloc (.cells (boolArr (List.replicate sz false)) 4)) 4 (boolArr (List.replicate sz false))
    rw [e1] at this
    exact (this.alloc _).drew
theorem two_start2 (w : World) (sz : Nat) : TwoI w sz (w.heap.size + 1 + 1) (w.heap.size + 1) w.heap.size (List.replicate sz false)
    (((w.alloc (.cells (boolArr (List.replicate sz false)) 4)).alloc (.cells (boolArr (List.replicate sz false)) 4)).alloc (.cells #[.slice (some ⟨w.heap.size + 1, 0, none⟩) sz sz, .slice (some ⟨w.heap.size, 0, none⟩) sz sz] 35)).drew := by
  have e1 : (w.alloc (.cells (boolArr (List.replicate sz false)) 4)).heap.size = w.heap.size + 1 := by simp
  have e2 : ((w.alloc (.cells (boolArr (List.replicate sz false)) 4)).alloc (.cells (boolArr (List.replicate sz false)) 4)).heap.size = w.heap.size + 1 + 1 := by simp
  refine ⟨(((Below.refl w.heap.size w).alloc (Nat.le_refl _) _).alloc (by simp) _ |>.alloc (by simp; omega) _).drew, ?_, ?_, ?_, List.length_replicate .., by omega, by omega, Nat.le_refl _, by omega⟩
  · have := Blk.new ((w.alloc (.cells (boolArr (List.replicate sz false)) 4)).alloc (.cells (boolArr (List.replicate sz false)) 4)) 35 #[.slice (some ⟨w.heap.size + 1, 0, none⟩) sz sz, .slice (some ⟨w.heap.size, 0, none⟩) sz sz]
    rw [e2] at this
    exact this.drew
  · have := Blk.new (w.alloc (.cells (boolArr (List.replicate sz false)) 4)) 4 (boolArr (List.replicate sz false))
    rw [e1] at this
    exact (this.alloc _).drew
  · exact (((Blk.new w 4 (boolArr (List.replicate sz false))).alloc _).alloc _).drew
theorem Fr.one {w w' : World} {pt : Nat} (h : Fr (fun k => k = pt) w w') : w.grownBy w' (some pt) := ⟨h.os, h.tape, h.output, h.size, fun k hk hn => h.block k hk (fun e => hn (by rw [e]))⟩
theorem tbl_next {w wr w9 : World} {sz vn i : Nat} {q : Nat → Four} {v v9 : Value} {gs : List Nat} {pt : Nat} {fs : List FnB} {F : FnB} {us : List Bool} {o : Obj} (hb : Below w.heap.size w wr) (ho : OwnT wr w.heap.size sz v gs) (h0 : 0 < gs.length)
    (ht : Tabs wr w.heap.size sz gs (fs.map (tabF sz))) (hn : funsN vn q (i + 1) = fs ++ [F]) (hp : Blk wr pt 4 (boolArr us)) (hl : us.length = sz) (hu : ∀ j, j < sz → us.getD j false = F (valN j)) (hge : w.heap.size ≤ pt)
    (ho9 : OwnT w9 w.heap.size sz v9 (gs ++ [pt])) (hg : (wr.alloc o).grownBy w9 v.ownBlock) : TblI w sz vn q (i + 1) v9 w9 := by
  have hba := (Below.refl wr.heap.size wr).alloc (Nat.le_refl _) o
  have hlt := World.ownsRow.lt ho
  obtain ⟨g, cap, cur, rfl, hbg, hkg, hcap, hcur⟩ := ho.form h0
  have hne : ∀ {p : Nat} {cs : Array Value}, Blk wr p 4 cs → p ≠ g := fun h e => hkg.ne_ h (by decide) e.symm
  refine ⟨(hb.trans (hba.mono hb.size)).grown hg (Nat.le_trans hb.size hba.size) (fun j hj => (hlt j hj).1), gs ++ [pt], ho9, ?_⟩
  rw [hn, List.map_append]
  have h1 : Blk w9 pt 4 (boolArr us) := (hp.below hba hp.lt).grown hg (fun e => hne hp (by cases e; rfl))
  rw [tab_eq hl hu] at h1
  exact ((ht.below hba).grown hg (fun k hk e => hne (ht.is k hk).2.1 (by cases e; rfl))).push hge h1 (tab_len _ _)
theorem dup_goal {A B : Prop} (h : A → B) (k : A) : B := h k
set_option maxRecDepth 100000 in
set_option maxHeartbeats 16000000 in
theorem tables_any (sz vn : Nat) (Al : Option Addr) (n c : Nat) (q : Nat → Four) (w : World) (h1 : 1 ≤ vn) (h6 : vn ≤ 6) (hn : n ≤ 25) (hq : FourP w Al n q) (hsz : 2 ^ vn = sz) :
    Calls Tryz.prog 32 #[.int .i64 (vn : Int), .slice Al n c] w (TblP w sz vn q n) := by
  have HQ := hide hq
  obtain ⟨hw1, hw2, hw3⟩ := pow_wrap h6 hsz
  have HSZ := Lib.hid hsz
  have hmk := fun w => mk_table sz (sz : Int) rfl (by omega) w
  clear hq hsz
  go_enter Tryz.func32, Tryz.ntmps32
  go_wp2
  apply dup_goal
  · intro K
    go_region
    · have HT := hide (two_start1 w sz)
      rw [hw1]
      generalize (((w.alloc (.cells (boolArr (List.replicate sz false)) 4)).alloc (.cells (boolArr (List.replicate sz false)) 4)).alloc (.cells #[.slice (some ⟨w.heap.size, 0, none⟩) sz sz, .slice (some ⟨w.heap.size + 1, 0, none⟩) sz sz] 35)).drew = w1 at HT ⊢
      generalize w.heap.size + 1 + 1 = g0 at HT ⊢
      generalize w.heap.size + 1 = p2 at HT ⊢
      generalize w.heap.size = p1 at HT ⊢
      revert HT; revert p2; revert p1; revert g0; revert w1
      exact K
    · have HT := hide (two_start2 w sz)
      rw [hw1]
      generalize (((w.alloc (.cells (boolArr (List.replicate sz false)) 4)).alloc (.cells (boolArr (List.replicate sz false)) 4)).alloc (.cells #[.slice (some ⟨w.heap.size + 1, 0, none⟩) sz sz, .slice (some ⟨w.heap.size, 0, none⟩) sz sz] 35)).drew = w1 at HT ⊢
      generalize w.heap.size + 1 + 1 = g0 at HT ⊢
      generalize w.heap.size + 1 = p1 at HT ⊢
      generalize w.heap.size = p2 at HT ⊢
      revert HT; revert p2; revert p1; revert g0; revert w1
      exact K
  intro w1 g0 p1 p2 HT
  clear hw1
  go_wp2
  go_loopw [27] (fun iv wr => ∃ i : Nat, i ≤ sz ∧ iv = .int .i64 i ∧ ∃ us : List Bool, (∀ j, j < i → us.getD j false = true) ∧ Hid (TwoI w sz g0 p1 p2 us wr)) (fun iv _ => sz - (intOf iv).toNat)
  case atStart => exact ⟨0, Nat.zero_le _, rfl, _, fun j hj => absurd hj (Nat.not_lt_zero j), HT⟩
  case round =>
    clear HT
    obtain ⟨i, hi, rfl, us, hu, hT⟩ := hrel
    have hul := hT.out.len
    by_cases hlt : i < sz
    · have hiI : (i : Int) < (sz : Int) := by omega
      have c1 := hT.out.k0.cell 1
      have u0 := (hT.out.k2.cell i).trans (boolArr_at (by omega))
      have f0 := hT.out.k2.frozen i
      have HN := hide (hT.out.set_ i)
      have HU := Lib.hid (show ∀ j, j < i + 1 → (us.set i true).getD j false = true from fun j hj => by
        rw [getD_set]
        split
        · rfl
        · exact hu j (by omega))
      clear hT hu hul
      go_wp2
      go_roundw
      case rel => exact ⟨i + 1, by omega, by go_num, _, HU.out, HN⟩
      case measure => simp [intOf]; omega
    · obtain rfl : sz = i := by omega
      have HD := hide (hT.out.done hu vn q)
      clear hT hu hul
      generalize hvS : Value.slice (some ⟨g0, 0, none⟩) 2 2 = vS at HD ⊢
      clear hvS
      go_wp2
      go_loopw [6, 38] (fun vo iv wr => ∃ i : Nat, i ≤ n ∧ iv = .int .i64 i ∧ Hid (TblI w sz vn q i vo wr)) (fun _ iv _ => n - (intOf iv).toNat)
      case atStart => exact ⟨0, Nat.zero_le _, rfl, HD⟩
      case round =>
        clear HD
        obtain ⟨i, hi, rfl, hF⟩ := hrel
        by_cases hlt : i < n
        · obtain ⟨gs, hown, htab⟩ := hF.out.is
          obtain ⟨ad, rfl, hfo, c0, c1, c2, c3⟩ := HQ.out.at_ hF.out.bel hlt
          have HBL := hide hF.out.bel
          have hnext : funsN vn q (i + 1) = funsN vn q i ++ [stepF vn (q i) (funsN vn q i)] := rfl
          have hlen : gs.length = i + 2 := by have := htab.len; rw [List.length_map, funs_len] at this; exact this
          have hfl : (funsN vn q i).length = gs.length := by rw [hlen, funs_len]
          have HNX := hide hnext
          clear hnext hF
          generalize funsN vn q i = fs at htab HNX hfl
          generalize q i = d at hfo c0 c1 c2 c3 HNX
          obtain ⟨dw, da, db, dc⟩ := d
          simp only at c0 c1 c2 c3
          have hiI : (i : Int) < (n : Int) := by omega
          obtain ⟨g, cap, cur, rfl, hbg, hkg, hcap, hcur⟩ := hown.form (by omega)
          obtain ⟨ia, pa1, pa2⟩ := htab.arg hfl (by omega) da
          obtain ⟨ib, pb1, pb2⟩ := htab.arg hfl (by omega) db
          obtain ⟨ic, pc1, pc2⟩ := htab.arg hfl (by omega) dc
          have hba := (Below.refl wr.heap.size wr).alloc (Nat.le_refl _) (.cells #[.int .i64 dw, .int .i64 da, .int .i64 db, .int .i64 dc] 89)
          have HX := hide (Blk.new wr 89 #[.int .i64 dw, .int .i64 da, .int .i64 db, .int .i64 dc])
          have HG := hide (hkg.alloc (.cells #[.int .i64 dw, .int .i64 da, .int .i64 db, .int .i64 dc] 89))
          have HOW := hide (hown.below hba)
          have HTB := hide (htab.below hba)
          have HB1 := hide (HBL.out.trans (hba.mono HBL.out.size))
          have la : ((atN da gs.length : Nat) : Int) < (gs.length : Int) := by omega
          have lb : ((atN db gs.length : Nat) : Int) < (gs.length : Int) := by omega
          have lc : ((atN dc gs.length : Nat) : Int) < (gs.length : Int) := by omega
          have HCU := Lib.hid hcur
          have HLE := Lib.hid hlen
          have HFL := Lib.hid hfl
          have hL0 : 0 < gs.length := by omega
          have hL1 : gs.length ≤ 1000 := by omega
          have HPA := hide (pa2.below hba pa2.lt)
          have HPB := hide (pb2.below hba pb2.lt)
          have HPC := hide (pc2.below hba pc2.lt)
          clear hown hkg hba hcur hlen hfl htab HBL pa2 pb2 pc2
          go_wp2
          generalize wr.heap.size = xb at HX ⊢
          generalize (wr.alloc (.cells #[.int .i64 dw, .int .i64 da, .int .i64 db, .int .i64 dc] 89)) = wx at HX HG HOW HTB HB1 HPA HPB HPC ⊢
          have y1 := HX.out.cell 1
          have y2 := HX.out.cell 2
          have y3 := HX.out.cell 3
          have ga := (HG.out.cell (atN da gs.length)).trans (HCU.out _ ia)
          have gb := (HG.out.cell (atN db gs.length)).trans (HCU.out _ ib)
          have gc := (HG.out.cell (atN dc gs.length)).trans (HCU.out _ ic)
          unfold tabV at ga gb gc
          have HAT := hide (fun (q : Nat) (z : Int) => refAt_any z gs.length (wx.drewN q) hL0 (by omega))
          generalize gs.getD (atN da gs.length) 0 = pa at pa1 HPA ga
          generalize gs.getD (atN db gs.length) 0 = pb at pb1 HPB gb
          generalize gs.getD (atN dc gs.length) 0 = pc at pc1 HPC gc
          go_quiet ((go_at_call 83; refine (HAT.out _ _).mono ?_; rintro e w9 ⟨rfl, rfl⟩; exact ⟨rfl, _, rfl⟩))
          have HX2 := hide (HX.out.drewN nq)
          have HOW2 := hide (HOW.out.below (below_drewN (Below.refl _ _) nq))
          have HTB2 := hide (HTB.out.below (below_drewN (Below.refl _ _) nq))
          have HB2 := hide (below_drewN HB1.out nq)
          have HPA2 := hide (HPA.out.drewN nq)
          have HPB2 := hide (HPB.out.drewN nq)
          have HPC2 := hide (HPC.out.drewN nq)
          clear y1 y2 y3 ga gb gc HAT HX HOW HTB HB1 HG HPA HPB HPC
          generalize wx.drewN nq = wy at HX2 HOW2 HTB2 HB2 HPA2 HPB2 HPC2 ⊢
          have y2 := HX2.out.cell 2
          have HAV := hide (refAt_any db vn wy (by omega) (by omega))
          go_wp2_with fail
          refine (HAV.out).mono ?_
          rintro e w9 ⟨rfl, rfl⟩
          have hb3 := (Below.refl wy.heap.size wy).alloc (Nat.le_refl _) (.cells (boolArr (List.replicate sz false)) 4)
          have HX3 := hide (HX2.out.below hb3 HX2.out.lt)
          have HOW3 := hide (HOW2.out.below hb3)
          have HTB3 := hide (HTB2.out.below hb3)
          have HB3 := hide (HB2.out.trans (hb3.mono HB2.out.size))
          have HPA3 := hide (HPA2.out.below hb3 HPA2.out.lt)
          have HPB3 := hide (HPB2.out.below hb3 HPB2.out.lt)
          have HPC3 := hide (HPC2.out.below hb3 HPC2.out.lt)
          have hva := HPA2.out.lt
          have hvb := HPB2.out.lt
          have hvc := HPC2.out.lt
          have hvx := HX2.out.lt
          have hvw := HB2.out.size
          have hgp := (World.ownsRow.lt HOW2.out g rfl).2
          have HTL := Lib.hid (fun k (hk : k < gs.length) => (HTB2.out.is k hk).2.1.lt)
          have HIN := hide (show InnI (wy.alloc (.cells (boolArr (List.replicate sz false)) 4)) wy.heap.size sz (stepF vn ⟨dw, da, db, dc⟩ fs) 0 (wy.alloc (.cells (boolArr (List.replicate sz false)) 4)) from
            ⟨.refl _ _, _, Blk.new wy _ _, List.length_replicate .., fun j hj => absurd hj (Nat.not_lt_zero j)⟩)
          clear hb3 y2 HAV
          go_wp2
          generalize (wy.alloc (.cells (boolArr (List.replicate sz false)) 4)) = wz at HX3 HOW3 HTB3 HB3 HPA3 HPB3 HPC3 HIN ⊢
          generalize wy.heap.size = pt at hva hvb hvc hvx hvw hgp HTL HIN ⊢
          have hvN := atN_lt db (show 0 < vn by omega)
          generalize hjv : atN db vn = jv at hvN ⊢
          have HJV := Lib.hid hjv
          clear hjv
          go_loopw [72] (fun iv wr => ∃ i : Nat, i ≤ sz ∧ iv = .int .i64 i ∧ Hid (InnI wz pt sz (stepF vn ⟨dw, da, db, dc⟩ fs) i wr)) (fun iv _ => sz - (intOf iv).toNat)
          case atStart => exact ⟨0, Nat.zero_le _, rfl, HIN⟩
          case round =>
            clear HIN
            obtain ⟨k, hk, rfl, hI⟩ := hrel
            by_cases hkl : k < sz
            · have hkI : (k : Int) < (sz : Int) := by omega
              have HXi := hide (HX3.out.fr hI.out.fr (show xb ≠ pt by omega))
              have HPAi := hide (HPA3.out.fr hI.out.fr (show pa ≠ pt by omega))
              have HPBi := hide (HPB3.out.fr hI.out.fr (show pb ≠ pt by omega))
              have HPCi := hide (HPC3.out.fr hI.out.fr (show pc ≠ pt by omega))
              have hj6 : jv < 6 := by omega
              have hk64 : k < 64 := by omega
              have hmin : min jv 64 = jv := by omega
              have hpw := powB jv hj6
              have hpW := powW jv hj6
              have hoff := offB jv hj6 k hk64
              have hon := onB jv hj6 k hk64
              have hkn := on_lt (by rw [HSZ.out]; exact hkl) hvN
              have hko := off_lt (v := jv) (show k < 2 ^ vn by rw [HSZ.out]; exact hkl)
              rw [HSZ.out] at hkn hko
              have hvon := val_on k jv
              have hvoff := val_off k jv
              have HJ6 := Lib.hid (And.intro hj6 hk64)
              generalize onN k jv = kn at hon hkn hvon
              generalize offN k jv = ko at hoff hko hvoff
              generalize hpj : 2 ^ jv = pj at hpw hpW hoff hon
              have HPJ := Lib.hid hpj
              clear hpj hj6 hk64
              have HVV := Lib.hid (And.intro hvon hvoff)
              clear hvon hvoff
              have hknI : (kn : Int) < (sz : Int) := by omega
              have hkoI : (ko : Int) < (sz : Int) := by omega
              clear hkn hko
              go_wp2
              go_quiet (fail)
              clear hmin hpw hpW hoff hon
              have HI2 := hide (hI.out.drewN nq)
              have HX4 := hide (HXi.out.drewN nq)
              have HPA4 := hide (HPAi.out.drewN nq)
              have HPB4 := hide (HPBi.out.drewN nq)
              have HPC4 := hide (HPCi.out.drewN nq)
              clear hI HXi HPAi HPBi HPCi
              generalize wr.drewN nq = wi at HI2 HX4 HPA4 HPB4 HPC4 ⊢
              have y0 := HX4.out.cell 0
              have y3 := HX4.out.cell 3
              have HN9 := hide (refAt_any dw 9 wi (by omega) (by omega))
              have ak := tab_cell HPA4.out hkl
              have bk := tab_cell HPB4.out hkl
              have ck := tab_cell HPC4.out hkl
              have aon := tab_cell HPA4.out (k := kn) (by omega)
              have aoff := tab_cell HPA4.out (k := ko) (by omega)
              obtain ⟨us, hu1, hu2, hu3⟩ := HI2.out.is
              have t0 := (hu1.cell k).trans (boolArr_at (by omega))
              have tf := hu1.frozen k
              clear hu1 hu2 hu3
              unfold AtQ at HN9
              rcases atN_nine dw with e9 | e9 | e9 | e9 | e9 | e9 | e9 | e9 | e9
              all_goals rw [e9] at HN9
              case' inl => as_aux_lemma =>
                have y1 := HX4.out.cell 1
                have y2 := HX4.out.cell 2
                have hvA := atN_lt da (show 0 < vn by omega)
                have HAV := hide ((refAt_any da vn wi.drew (by omega) (by omega)).mono fun e w' h => show e = .returned (.int .i64 (atN da vn : Int)) ∧ w' = wi.drew from ⟨h.1, h.2.symm⟩)
                have hG := stepF_0 (vn := vn) (d := ⟨dw, da, db, dc⟩) (fs := fs) e9 (valN k)
                simp only at hG
                generalize atN da vn = ja at hvA HAV hG
                have hlit := litB ja (by omega) k HJ6.out.2
                have hmin2 : min ja 64 = ja := by omega
                have HG := Lib.hid (show (Nat.testBit k ja == oddB db) = stepF vn ⟨dw, da, db, dc⟩ fs (valN k) from by rw [← hG]; unfold valN; simp)
                clear hG
                unfold oddB at HG
                go_wp2_with fail
                refine (HN9.out).mono ?_
                rintro e w9 ⟨rfl, rfl⟩
                go_wp2
                refine wp_region_still_tail 16 (by kernel_rfl) (by kernel_rfl) ?_
                simp only [List.take_succ_cons, List.take_zero, List.drop_succ_cons, List.drop_zero]
                repeat still_step
                still_call HAV.out
                repeat still_step
                refine wpStill_nil ?_
                change wpList _ _ _ _ _ wi.drew
                have HI3 := hide (show InnI wz pt sz (stepF vn ⟨dw, da, db, dc⟩ fs) k wi.drew from HI2.out.drewN 1)
                clear HI2
                generalize wi.drew = w3 at HI3 ⊢
                obtain ⟨us, hu1, hu2, hu3⟩ := HI3.out.is
                have t0 := (hu1.cell k).trans (boolArr_at (by omega))
                have tf := hu1.frozen k
                clear hu1 hu2 hu3
                go_wp2
                go_roundw
                case rel => exact ⟨k + 1, by omega, by go_num, hide (HI3.out.next hkl _ (by first | exact HG.out | (rw [← HG.out]; done) | (rw [← HG.out]; first | rfl | (simp; done))))⟩
                case measure => simp [intOf]; omega
              case' inr.inl => as_aux_lemma =>
                have hG := stepF_1 (vn := vn) (d := ⟨dw, da, db, dc⟩) (fs := fs) e9 (valN k)
                generalize argF fs da (valN k) = ba at ak hG
                generalize argF fs db (valN k) = bb at bk hG
                generalize argF fs dc (valN k) = bc at ck hG
                generalize argF fs da (valN ko) = bo at aoff hG
                generalize argF fs da (valN kn) = bn at aon hG
                have HG := Lib.hid hG
                clear hG
                go_wp2_with fail
                refine (HN9.out).mono ?_
                rintro e w9 ⟨rfl, rfl⟩
                go_wp2
                go_roundw
                case rel => exact ⟨k + 1, by omega, by go_num, hide (HI2.out.next hkl _ (by first | exact HG.out | (rw [← HG.out]; done) | (rw [← HG.out]; first | rfl | (simp; done))))⟩
                case measure => simp [intOf]; omega
              case' inr.inr.inl => as_aux_lemma =>
                have hG := stepF_2 (vn := vn) (d := ⟨dw, da, db, dc⟩) (fs := fs) e9 (valN k)
                generalize argF fs da (valN k) = ba at ak hG
                generalize argF fs db (valN k) = bb at bk hG
                generalize argF fs dc (valN k) = bc at ck hG
                generalize argF fs da (valN ko) = bo at aoff hG
                generalize argF fs da (valN kn) = bn at aon hG
                cases ba
                all_goals
                  have HG := Lib.hid hG
                  clear hG
                  go_wp2_with fail
                  refine (HN9.out).mono ?_
                  rintro e w9 ⟨rfl, rfl⟩
                  go_wp2
                  go_roundw
                  case rel => exact ⟨k + 1, by omega, by go_num, hide (HI2.out.next hkl _ (by first | exact HG.out | (rw [← HG.out]; done) | (rw [← HG.out]; first | rfl | (simp; done))))⟩
                  case measure => simp [intOf]; omega
              case' inr.inr.inr.inl => as_aux_lemma =>
                have hG := stepF_3 (vn := vn) (d := ⟨dw, da, db, dc⟩) (fs := fs) e9 (valN k)
                generalize argF fs da (valN k) = ba at ak hG
                generalize argF fs db (valN k) = bb at bk hG
                generalize argF fs dc (valN k) = bc at ck hG
                generalize argF fs da (valN ko) = bo at aoff hG
                generalize argF fs da (valN kn) = bn at aon hG
                cases ba
                all_goals
                  have HG := Lib.hid hG
                  clear hG
                  go_wp2_with fail
                  refine (HN9.out).mono ?_
                  rintro e w9 ⟨rfl, rfl⟩
                  go_wp2
                  go_roundw
                  case rel => exact ⟨k + 1, by omega, by go_num, hide (HI2.out.next hkl _ (by first | exact HG.out | (rw [← HG.out]; done) | (rw [← HG.out]; first | rfl | (simp; done))))⟩
                  case measure => simp [intOf]; omega
              case' inr.inr.inr.inr.inl => as_aux_lemma =>
                have hG := stepF_4 (vn := vn) (d := ⟨dw, da, db, dc⟩) (fs := fs) e9 (valN k)
                generalize argF fs da (valN k) = ba at ak hG
                generalize argF fs db (valN k) = bb at bk hG
                generalize argF fs dc (valN k) = bc at ck hG
                generalize argF fs da (valN ko) = bo at aoff hG
                generalize argF fs da (valN kn) = bn at aon hG
                have HG := Lib.hid hG
                clear hG
                go_wp2_with fail
                refine (HN9.out).mono ?_
                rintro e w9 ⟨rfl, rfl⟩
                go_wp2
                go_still_tail 12, (by kernel_rfl)
                change wpList _ _ _ _ _ wi.drew
                have HI3 := hide (show InnI wz pt sz (stepF vn ⟨dw, da, db, dc⟩ fs) k wi.drew from HI2.out.drewN 1)
                clear HI2 t0 tf
                generalize wi.drew = w3 at HI3 ⊢
                obtain ⟨us, hu1, hu2, hu3⟩ := HI3.out.is
                have t0 := (hu1.cell k).trans (boolArr_at (by omega))
                have tf := hu1.frozen k
                clear hu1 hu2 hu3
                go_wp2
                go_roundw
                case rel => exact ⟨k + 1, by omega, by go_num, hide (HI3.out.next hkl _ (by first | exact HG.out | (rw [← HG.out]; done) | (rw [← HG.out]; first | rfl | (simp; done))))⟩
                case measure => simp [intOf]; omega
              case' inr.inr.inr.inr.inr.inl => as_aux_lemma =>
                have hG := stepF_5 (vn := vn) (d := ⟨dw, da, db, dc⟩) (fs := fs) e9 (valN k)
                generalize argF fs da (valN k) = ba at ak hG
                generalize argF fs db (valN k) = bb at bk hG
                generalize argF fs dc (valN k) = bc at ck hG
                generalize argF fs da (valN ko) = bo at aoff hG
                generalize argF fs da (valN kn) = bn at aon hG
                cases ba <;> cases bb <;> cases bc
                all_goals
                  have HG := Lib.hid hG
                  clear hG
                  go_wp2_with fail
                  refine (HN9.out).mono ?_
                  rintro e w9 ⟨rfl, rfl⟩
                  go_wp2
                  go_roundw
                  case rel => exact ⟨k + 1, by omega, by go_num, hide (HI2.out.next hkl _ (by first | exact HG.out | (rw [← HG.out]; done) | (rw [← HG.out]; first | rfl | (simp; done))))⟩
                  case measure => simp [intOf]; omega
              case' inr.inr.inr.inr.inr.inr.inl => as_aux_lemma =>
                have hG := stepF_6 (vn := vn) (d := ⟨dw, da, db, dc⟩) (fs := fs) e9 (valN k)
                simp only [HJV.out] at hG
                have hGo : argF fs da (upd (valN k) (jv : Int) (oddB dc)) = if oddB dc then argF fs da (valN kn) else argF fs da (valN ko) := by
                  rw [HVV.out.1, HVV.out.2]
                  cases oddB dc <;> rfl
                rw [hGo] at hG
                clear hGo
                generalize argF fs da (valN k) = ba at ak hG
                generalize argF fs db (valN k) = bb at bk hG
                generalize argF fs dc (valN k) = bc at ck hG
                generalize argF fs da (valN ko) = bo at aoff hG
                generalize argF fs da (valN kn) = bn at aon hG
                unfold oddB at hG
                cases hodd : (dc.tmod 2 == 0)
                all_goals
                  rw [hodd] at hG
                  have HG := Lib.hid hG
                  clear hG
                  go_wp2_with fail
                  refine (HN9.out).mono ?_
                  rintro e w9 ⟨rfl, rfl⟩
                  go_wp2
                  go_roundw
                  case rel => first | exact ⟨k + 1, by omega, by go_num, hide (HI2.out.next hkl _ (by first | exact HG.out | (rw [← HG.out]; done) | (rw [← HG.out]; first | rfl | (simp; done))))⟩ | exact ⟨k + 1, by omega, by go_num, hide ((HI2.out.over _).next hkl _ (by rw [← HG.out]; first | rfl | (simp; done)))⟩
                  case measure => simp [intOf]; omega
              case' inr.inr.inr.inr.inr.inr.inr.inl => as_aux_lemma =>
                have hG := stepF_7 (vn := vn) (d := ⟨dw, da, db, dc⟩) (fs := fs) e9 (valN k)
                simp only [HJV.out] at hG
                rw [← HVV.out.1, ← HVV.out.2] at hG
                generalize argF fs da (valN k) = ba at ak hG
                generalize argF fs db (valN k) = bb at bk hG
                generalize argF fs dc (valN k) = bc at ck hG
                generalize argF fs da (valN ko) = bo at aoff hG
                generalize argF fs da (valN kn) = bn at aon hG
                cases bo
                all_goals
                  have HG := Lib.hid hG
                  clear hG
                  go_wp2_with fail
                  refine (HN9.out).mono ?_
                  rintro e w9 ⟨rfl, rfl⟩
                  go_wp2
                  go_roundw
                  case rel => exact ⟨k + 1, by omega, by go_num, hide (HI2.out.next hkl _ (by first | exact HG.out | (rw [← HG.out]; done) | (rw [← HG.out]; first | rfl | (simp; done))))⟩
                  case measure => simp [intOf]; omega
              case' inr.inr.inr.inr.inr.inr.inr.inr => as_aux_lemma =>
                have hG := stepF_8 (vn := vn) (d := ⟨dw, da, db, dc⟩) (fs := fs) e9 (valN k)
                simp only [HJV.out] at hG
                rw [← HVV.out.1, ← HVV.out.2] at hG
                generalize argF fs da (valN k) = ba at ak hG
                generalize argF fs db (valN k) = bb at bk hG
                generalize argF fs dc (valN k) = bc at ck hG
                generalize argF fs da (valN ko) = bo at aoff hG
                generalize argF fs da (valN kn) = bn at aon hG
                cases bo
                all_goals
                  have HG := Lib.hid hG
                  clear hG
                  go_wp2_with fail
                  refine (HN9.out).mono ?_
                  rintro e w9 ⟨rfl, rfl⟩
                  go_wp2
                  go_roundw
                  case rel => exact ⟨k + 1, by omega, by go_num, hide (HI2.out.next hkl _ (by first | exact HG.out | (rw [← HG.out]; done) | (rw [← HG.out]; first | rfl | (simp; done))))⟩
                  case measure => simp [intOf]; omega
            · obtain rfl : sz = k := by omega
              obtain ⟨us, hu1, hu2, hu3⟩ := hI.out.is
              have hf := hI.out.fr
              have HBR := hide (HB3.out.trans (hf.to_below HB3.out.size (fun k hk e => by omega)))
              have HOR := hide (show OwnT wr w.heap.size sz _ gs from World.ownsRow.kept HOW3.out hf.one (.inr (by intro e; injection e with e; simp only at e; omega)))
              have HTR := hide (HTB3.out.grown hf.one (fun k hk e => by have := HTL.out k hk; injection e with e; omega))
              have HPR := hide hu1
              have HUS := Lib.hid hu3
              have hba := (Below.refl wr.heap.size wr).alloc (Nat.le_refl _) (.cells #[.slice (some ⟨pt, 0, none⟩) sz sz] 35)
              have HOA := hide (HOR.out.below hba)
              have HCE := hide (show (wr.alloc (.cells #[.slice (some ⟨pt, 0, none⟩) sz sz] 35)).cell? ⟨wr.heap.size, 0, none⟩ = some (tabV sz pt) from (Blk.new wr _ _).cell 0)
              have HSA := Lib.hid (Nat.le_trans HBR.out.size hba.size)
              clear hu1 hu3 hf hba HB3 HOW3 HTB3 hI
              go_wp2_with (first
                | (at_builtin; refine appT _ rfl _ _ _ rfl w.heap.size sz Tryz.underlying25 _ gs rfl HOA.out wr.heap.size 1 pt rfl HCE.out (by omega) HSA.out ?_; intro v9 w9 ho9 hg9; have HN9 := hide (tbl_next HBR.out HOR.out hL0 HTR.out HNX.out HPR.out hu2 HUS.out hvw ho9 hg9); clear ho9 hg9 HOA HCE HSA HBR HOR HTR HPR HUS)
                | fail)
              go_roundw
              case rel => exact ⟨i + 1, by omega, by go_num, HN9⟩
              case measure => simp [intOf]; omega
        · obtain rfl : i = n := by omega
          go_wp2
          go_ret
          exact ⟨_, rfl, hF.out⟩
end Go.Proofs.YtdlcldhnbhlikaaGreatDoor
