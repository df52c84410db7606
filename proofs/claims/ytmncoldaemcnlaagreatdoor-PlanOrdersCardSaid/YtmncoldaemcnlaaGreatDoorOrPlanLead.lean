/-
  A part of the proof: PlanLead. Conditions: none.
-/
import Derived.Test.YtmncoldaemcnlaaGreatDoorOrOrdPure
import Derived.Test.YtmncoldaemcnlaaGreatDoorOrPlanFits
namespace Go.Proofs.YtmncoldaemcnlaaGreatDoor
open Go.RowKit
open Classical
set_option maxRecDepth 100000
structure LdM (w : World) (P : Nat → Prop) (g n : Nat) (vs : Nat → Value) (rs : Nat → List Int) : Prop where
 blk : ∃ cs, Blk w g 24 cs ∧ cs.size = n ∧ ∀ i, i < n → cs[i]? = some (vs i)
 own : ∀ i, i < n → OwnI w 0 (vs i) (rs i)
 ne : ∀ i j, i < n → j < n → i ≠ j → (vs i).ownBlock = none ∨ (vs i).ownBlock ≠ (vs j).ownBlock
 bk : ∀ i k, i < n → (vs i).ownBlock = some k → P k
section
variable {w w' : World} {P P' : Nat → Prop} {g n : Nat} {vs : Nat → Value} {rs rs' : Nat → List Int}
theorem LdM.below (h : LdM w P g n vs rs) (hb : Below w.heap.size w w') : LdM w' P g n vs rs := by
 obtain ⟨cs, h1, h2⟩ := h.blk
 exact ⟨⟨cs, h1.below hb h1.lt, h2⟩, fun i hi => OwnI.below (h.own i hi) hb, h.ne, h.bk⟩
theorem LdM.mono (h : LdM w P g n vs rs) (hP : ∀ k, P k → P' k) : LdM w P' g n vs rs := ⟨h.blk, h.own, h.ne, fun i k hi hk => hP k (h.bk i k hi hk)⟩
theorem LdM.lt (h : LdM w P g n vs rs) : LdM w (fun k => P k ∧ k < w.heap.size) g n vs rs := ⟨h.blk, h.own, h.ne, fun i k hi hk => ⟨h.bk i k hi hk, (World.ownsRow.lt (h.own i hi) k hk).2⟩⟩
theorem LdM.rows (h : LdM w P g n vs rs) (he : ∀ i, i < n → rs i = rs' i) : LdM w P g n vs rs' := ⟨h.blk, fun i hi => he i hi ▸ h.own i hi, h.ne, h.bk⟩
theorem LdM.cell (h : LdM w P g n vs rs) {i : Nat} (hi : i < n) : w.cell? ⟨g, i, none⟩ = some (vs i) := by
 obtain ⟨cs, h1, _, h2⟩ := h.blk
 exact (h1.cell i).trans (h2 i hi)
theorem LdM.frozen (h : LdM w P g n vs rs) (i : Nat) : w.frozen? ⟨g, i, none⟩ = false := by
 obtain ⟨cs, h1, _, _⟩ := h.blk
 exact h1.frozen i
theorem LdM.still {i : Nat} (h : LdM w P g n vs rs) (hi : i < n) (hg : w.grownBy w' (vs i).ownBlock) : w'.cell? ⟨g, i, none⟩ = some (vs i) ∧ w'.frozen? ⟨g, i, none⟩ = false := by
 obtain ⟨cs, h1, _, h3⟩ := h.blk
 have hgv : (vs i).ownBlock ≠ some g := own_blk_ne (h.own i hi) h1 (by decide)
 have k1 : Blk w' g 24 cs := h1.grown hg (Ne.symm hgv)
 exact ⟨(k1.cell i).trans (h3 i hi), k1.frozen i⟩
theorem LdM.app {v9 : Value} {i : Nat} {z : Int} (h : LdM w P g n vs rs) (hi : i < n) (ho : OwnI w' 0 v9 (rs i ++ [z])) (hg : w.grownBy w' (vs i).ownBlock) (hor : v9.ownBlock = (vs i).ownBlock ∨ v9.ownBlock = some w.heap.size) (hP : P w.heap.size) :
  LdM (w'.setCell ⟨g, i, none⟩ v9) P g n (fun j => if j = i then v9 else vs j) (fun j => if j = i then rs i ++ [z] else rs j) := by
 obtain ⟨cs, h1, h2, h3⟩ := h.blk
 have hgv : (vs i).ownBlock ≠ some g := own_blk_ne (h.own i hi) h1 (by decide)
 have k1 : Blk w' g 24 cs := h1.grown hg (Ne.symm hgv)
 have key : ∀ {v : Value} {zs : List Int}, OwnI w' 0 v zs → OwnI (w'.setCell ⟨g, i, none⟩ v9) 0 v zs := fun {v zs} hv => OwnI.kept hv (r := some g) ⟨rfl, rfl, rfl, by simp, fun k _ hk => Below.heap_setCell w' ⟨g, i, none⟩ v9 k (fun e => hk (by rw [e]))⟩ (.inr (own_blk_ne hv k1 (by decide)))
 refine ⟨⟨_, k1.set_ i v9, by simpa using h2, fun j hj => ?_⟩, fun j hj => ?_, fun a b ha hb hab => ?_, fun j k hj hk => ?_⟩
 ·by_cases e : j = i
  ·subst e
   simp [h2, hj]
  ·rw [if_neg e, Array.getElem?_setIfInBounds_ne (Ne.symm e)]
   exact h3 j hj
 ·by_cases e : j = i
  ·subst e
   simp only [if_true]
   exact key ho
  ·simp only [if_neg e]
   exact key (OwnI.kept (h.own j hj) hg (h.ne j i hj hi e))
 ·by_cases ea : a = i
  ·subst ea
   have eb : b ≠ a := Ne.symm hab
   simp only [if_true, if_neg eb]
   rcases hor with e9 | e9
   ·rw [e9]
    exact h.ne a b ha hb hab
   ·rw [e9]
    refine .inr fun e => ?_
    have := (World.ownsRow.lt (h.own b hb) _ e.symm).2
    omega
  ·simp only [if_neg ea]
   by_cases eb : b = i
   ·subst eb
    simp only [if_true]
    rcases hor with e9 | e9
    ·rw [e9]
     exact h.ne a b ha hb ea
    ·rw [e9]
     cases e8 : (vs a).ownBlock with
     | none => exact .inl rfl
     | some k =>
      refine .inr fun e => ?_
      have := (World.ownsRow.lt (h.own a ha) k e8).2
      have := Option.some.inj e
      omega
   ·simp only [if_neg eb]
    exact h.ne a b ha hb hab
 ·by_cases e : j = i
  ·subst e
   simp only [if_true] at hk
   rcases hor with e9 | e9
   ·exact h.bk j k hj (by rw [← e9]; exact hk)
   ·rw [e9] at hk
    rw [← Option.some.inj hk]
    exact hP
  ·simp only [if_neg e] at hk
   exact h.bk j k hj hk
end
theorem madeSl (R : Nat) : madeCells (Value.slice none 0 0).cells (R * 1) = (List.replicate R (Value.slice none 0 0)).toArray := by
 rw [Nat.mul_one]
 apply Array.toList_inj.1
 rw [show (Value.slice none 0 0).cells = #[Value.slice none 0 0] from rfl, toList_madeCells_one]
theorem rowsInfo : (Tryz.prog.info? 24).map (fun i => (i.zero, i.size, i.bytes)) = some (some (.slice none 0 0), 1, 24) := by kernel_rfl
theorem mk_rows (R : Nat) (hR : R ≤ 1000000) (w : World) : (Instr.makeSlice 160 (.int .i64 (R : Int)) (.int .i64 (R : Int))).run Tryz.prog w = .ok (.slice (some ⟨w.heap.size, 0, none⟩) R R) (w.alloc (.cells (List.replicate R (Value.slice none 0 0)).toArray 24)) := by
 obtain ⟨i0, hi, hz0, hz1, hz2⟩ := info_parts rowsInfo
 have h := run_make (P := Tryz.prog) w 160 24 i0 _ Tryz.underlying160 hi hz0 .i64 .i64 (R : Int) (R : Int) (by omega) (Int.le_refl _) (by rw [hz2]; omega) (by omega)
 rw [hz1, Int.toNat_natCast, madeSl] at h
 exact h
theorem ldM_nil (w : World) (P : Nat → Prop) (n : Nat) : LdM (w.alloc (.cells (List.replicate n (Value.slice none 0 0)).toArray 24)) P w.heap.size n (fun _ => .slice none 0 0) (fun _ => []) :=
 ⟨⟨_, Blk.new w _ _, by simp, fun i hi => by simp [hi]⟩, fun _ _ => ownI_nil _ _, fun _ _ _ _ _ => .inl rfl, fun _ k _ hk => by cases hk⟩
def LeadP (its : List ItR) (ls : List LnR) (set : Nat) (w : World) (e : Ending) (w' : World) : Prop :=
 ∃ g vs, e = .returned (.slice (some ⟨g, 0, none⟩) its.length its.length) ∧ LdM w' (fun k => w.heap.size ≤ k) g its.length vs (fun j => ldR its set j ls) ∧ w.heap.size ≤ g ∧ Below w.heap.size w w'
theorem ownsRow_frt {S : Nat → Prop} {w w' : World} {base s n : Nat} {t e : TypeId} {v : Value} {xs : List Value} (h : w.ownsRow base e s v n xs) (hf : Fr S w w') (hs : ∀ k, k < w.heap.size → S k → ∃ cs, Blk w k t cs) (ht : t ≠ e) : w'.ownsRow base e s v n xs := by
 refine ⟨h.1, ?_⟩
 rcases h.2 with h2 | ⟨g, cap, cur, e1, hg, hgc, r⟩
 ·exact .inl h2
 ·have hlt : g < w.heap.size := by
   have := Array.getElem?_eq_some_iff.1 hgc
   exact this.1
  refine .inr ⟨g, cap, cur, e1, hg, (hf.block g hlt fun hS => ?_).trans hgc, r⟩
  obtain ⟨cs, hc⟩ := hs g hlt hS
  unfold Blk at hc
  rw [hc] at hgc
  injection hgc with hgc
  injection hgc with _ h3 _
  exact ht h3
theorem ownsRow_fr {S : Nat → Prop} {w w' : World} {base s n : Nat} {e : TypeId} {v : Value} {xs : List Value} (h : w.ownsRow base e s v n xs) (hf : Fr S w w') (hs : ∀ k, base ≤ k → k < w.heap.size → ¬ S k) : w'.ownsRow base e s v n xs := by
 refine ⟨h.1, ?_⟩
 rcases h.2 with h2 | ⟨g, cap, cur, e1, hg, hgc, r⟩
 ·exact .inl h2
 ·have hlt : g < w.heap.size := (Array.getElem?_eq_some_iff.1 hgc).1
  exact .inr ⟨g, cap, cur, e1, hg, (hf.block g hlt (hs g hg hlt)).trans hgc, r⟩
theorem LnsP.frt {S : Nat → Prop} {w w' : World} {base : Nat} {t : TypeId} {v : Value} {qs : List LnQ} (h : LnsP w base v qs) (hf : Fr S w w') (hs : ∀ k, k < w.heap.size → S k → ∃ cs, Blk w k t cs) (h1 : t ≠ 38) (h2 : t ≠ 118) : LnsP w' base v qs :=
 ⟨ownsRow_frt h.1 hf hs h1, fun q hq => ⟨ownsRow_frt (h.2 q hq).1 hf hs h2, (h.2 q hq).2⟩⟩
theorem ldX_none {its : List ItR} {set i : Nat} {x : LnR} (h : ¬ (x.k = 2 ∧ posN its (itL x) = (i : Int) ∧ set.testBit i = true)) : ldX its set i x = [] := by unfold ldX; rw [if_neg h]
theorem ldX_some {its : List ItR} {set i : Nat} {x : LnR} (h1 : x.k = 2) (h2 : posN its (itL x) = (i : Int)) (h3 : set.testBit i = true) : ldX its set i x = (amF x.other x.rg its 0).filter fun z => set.testBit z.toNat && decide (z ≠ (i : Int)) := by unfold ldX; rw [if_pos ⟨h1, h2, h3⟩]
theorem ldR_snoc (its : List ItR) (set j : Nat) (ls : List LnR) {i : Nat} (h : i < ls.length) : ldR its set j (ls.take (i + 1)) = ldR its set j (ls.take i) ++ ldX its set j ls[i] := by
 unfold ldR
 rw [List.take_succ_eq_append_getElem h, List.flatMap_append]
 simp
noncomputable def ldM (its : List ItR) (ls : List LnR) (set i own m : Nat) (zs : List Int) (j : Nat) : List Int := ldR its set j (ls.take i) ++ if j = own then (zs.take m).filter (fun z => set.testBit z.toNat && decide (z ≠ (own : Int))) else []
theorem ldM_hit {its : List ItR} {ls : List LnR} {set i own m : Nat} {zs : List Int} (hm : m < zs.length) (h : (set.testBit (zs[m]).toNat && decide (zs[m] ≠ (own : Int))) = true) (j : Nat) :
  (if j = own then ldM its ls set i own m zs own ++ [zs[m]] else ldM its ls set i own m zs j) = ldM its ls set i own (m + 1) zs j := by
 unfold ldM
 by_cases e : j = own
 ·subst e
  simp only [if_true]
  rw [List.take_succ_eq_append_getElem hm, List.filter_append, List.filter_cons, if_pos h, List.append_assoc]
  rfl
 ·simp only [if_neg e]
theorem ldM_miss {its : List ItR} {ls : List LnR} {set i own m : Nat} {zs : List Int} (hm : m < zs.length) (h : ¬ (set.testBit (zs[m]).toNat && decide (zs[m] ≠ (own : Int))) = true) (j : Nat) : ldM its ls set i own m zs j = ldM its ls set i own (m + 1) zs j := by
 unfold ldM
 by_cases e : j = own
 ·subst e
  simp only [if_true]
  rw [List.take_succ_eq_append_getElem hm, List.filter_append, List.filter_cons, if_neg h]
  simp
 ·simp only [if_neg e]
theorem ldM_zero {its : List ItR} {ls : List LnR} {set i own : Nat} {zs : List Int} (j : Nat) : ldR its set j (ls.take i) = ldM its ls set i own 0 zs j := by
 unfold ldM
 simp
theorem ldM_end {its : List ItR} {ls : List LnR} {set i own m : Nat} {zs : List Int} (hi : i < ls.length) (hz : amF ls[i].other ls[i].rg its 0 = zs) (h1 : ls[i].k = 2) (h2 : posN its (itL ls[i]) = (own : Int)) (h3 : set.testBit own = true) (hm : zs.length ≤ m) (j : Nat) :
  ldM its ls set i own m zs j = ldR its set j (ls.take (i + 1)) := by
 rw [ldR_snoc its set j ls hi]
 unfold ldM
 rw [List.take_of_length_le hm]
 by_cases e : j = own
 ·subst e
  rw [if_pos rfl, ldX_some h1 h2 h3, hz]
 ·rw [if_neg e, ldX_none (fun h => e (by have := h.2.1; omega))]
theorem ldR_pass {its : List ItR} {ls : List LnR} {set i : Nat} (hi : i < ls.length) (h : ∀ j : Nat, ¬ (ls[i].k = 2 ∧ posN its (itL ls[i]) = (j : Int) ∧ set.testBit j = true)) (j : Nat) : ldR its set j (ls.take i) = ldR its set j (ls.take (i + 1)) := by
 rw [ldR_snoc its set j ls hi, ldX_none (h j), List.append_nil]
set_option maxHeartbeats 8000000 in
theorem leads_any (g base : Nat) (qs : List LnQ) (its0 : List ItR) (set : Nat) (w : World) (h : CatO w base g qs) (hc : catR (qs.map (·.1)) = .inr its0) (hs : set < 18446744073709551616) :
  Calls Tryz.prog 80 #[.pointer (some ⟨g, 0, none⟩), .int .u64 (set : Int)] w (LeadP (itemsF (qs.map (·.1))) (qs.map (·.1)) set w) := by
 have hq100 : qs.length ≤ 100 := by have := (catR_ok hc).2.2.2.1; simpa using this
 have HIN := Lib.hid (catR_in hc)
 obtain ⟨h24, _⟩ := catR_few hc
 have HCI := hide (catItems_any g base qs w h (by omega))
 have HCL := hide (fun W (h : CatO W base g qs) => catLines_any g base qs W h (by omega))
 have HCA := hide (fun W nm rv rg (h : CatO W base g qs) (hr : OwnP W 0 rv rg) (hrl : rg.length ≤ 1000000000) => catAm_any g base qs nm rv rg W h hr hrl (by omega))
 have HCN := hide (fun W x (h : CatO W base g qs) => catNum_at g base qs x W h (by omega))
 unfold CloneK at HCI
 unfold CatLinesP at HCL
 unfold AmP at HCA
 unfold PosP at HCN
 have HC0 := hide h
 generalize hits : itemsF (qs.map (·.1)) = its at HCI HCA HCN HIN h24 ⊢
 obtain ⟨ls, HLS⟩ : ∃ ls, Hid (qs.map (·.1) = ls) := ⟨_, Lib.hid rfl⟩
 rw [HLS.out] at HIN ⊢
 clear h hc hits
 go_enter Tryz.func80, Tryz.ntmps80
 go_wp2_with fail
 refine HCI.out.mono ?_
 rintro e w1 ⟨v6, rfl, ho, hb1⟩
 obtain ⟨A6, c6, rfl, _⟩ := ho.len
 have HB1 := hide hb1
 have hmk := mk_rows its.length (by omega) w1
 have HLD := hide (ldM_nil w1 (fun _ => False) its.length)
 have HB2 := hide (hb1.trans (((Below.refl w1.heap.size w1).alloc (Nat.le_refl _) (.cells (List.replicate its.length (Value.slice none 0 0)).toArray 24)).mono hb1.size))
 have HGG := Lib.hid (show w.heap.size ≤ w1.heap.size from hb1.size)
 clear ho hb1 HCI
 go_wp2_with fail
 refine (HCL.out _ (HC0.out.below HB2.out)).mono ?_
 rintro e w3 ⟨vL, rfl, hl, hb3⟩
 have HL := hide (hl.mono (Nat.zero_le _))
 have HLD3 := hide ((HLD.out.below hb3).mono (P' := fun k => w3.heap.size ≤ k) (fun k h => h.elim))
 have HB3 := hide (HB2.out.trans (hb3.mono HB2.out.size))
 have HG3 := Lib.hid (show w1.heap.size < w3.heap.size by obtain ⟨cs, h9, _⟩ := HLD3.out.blk; exact h9.lt)
 clear hl hb3 HCL HLD HB2 hmk
 obtain ⟨AL, cL, rfl, _⟩ := HL.out.1.len
 generalize w1.heap.size = g0 at HLD3 HGG HG3 ⊢
 go_wp2_with fail
 go_loopw [18] (fun iv wr => ∃ (i : Nat) (vs : Nat → Value), i ≤ qs.length ∧ iv = .int .i64 i ∧ Hid (Fr (fun k => k = g0 ∨ w3.heap.size ≤ k) w3 wr) ∧ Hid (LdM wr (fun k => w3.heap.size ≤ k) g0 its.length vs (fun j => ldR its set j (ls.take i)))) (fun iv _ => qs.length - (intOf iv).toNat)
 case atStart => exact ⟨0, _, Nat.zero_le _, rfl, hide (Fr.refl _ _), HLD3⟩
 case round =>
  obtain ⟨i, vs, hi, rfl, HF, HD⟩ := hrel
  have HBW := hide (HB3.out.trans (HF.out.to_below HB3.out.size (fun k hk h => by
   have h8 := HGG.out
   have h9 := HB3.out.size
   rcases h with h | h <;> omega)))
  by_cases hlt : i < qs.length
  ·have hltz : (i : Int) < (qs.length : Int) := by omega
   have hll : i < ls.length := by rw [← HLS.out]; simpa using hlt
   have hlw := HL.out.frt HF.out (fun k hk hS => by
    rcases hS with rfl | h9
    ·obtain ⟨cs, h8, _⟩ := HLD3.out.blk
     exact ⟨cs, h8⟩
    ·omega) (by decide) (by decide)
   obtain ⟨gq, hA, hrow⟩ := hlw.1.rowAt hlt
   subst hA
   obtain ⟨y0, y1, y2, y3, y4, y5, y6⟩ := row7 rfl rfl hrow hlt
   obtain ⟨hrv, hok⟩ := hlw.2 _ (List.getElem_mem hlt)
   have hrl := hok.len
   have hlsi : ls[i] = qs[i].1 := by
    obtain rfl := HLS.out
    exact List.getElem_map ..
   have hin := HIN.out _ (List.getElem_mem hll)
   have hps : ∀ (own m : Nat) (zs : List Int), amF ls[i].other ls[i].rg its 0 = zs → ls[i].k = 2 → posN its (itL ls[i]) = (own : Int) → set.testBit own = true → zs.length ≤ m → ∀ j, ldM its ls set i own m zs j = ldR its set j (ls.take (i + 1)) := fun own m zs a1 a2 a3 a4 a5 j => ldM_end hll a1 a2 a3 a4 a5 j
   have hpn : (∀ j : Nat, ¬ (ls[i].k = 2 ∧ posN its (itL ls[i]) = (j : Int) ∧ set.testBit j = true)) → ∀ j, ldR its set j (ls.take i) = ldR its set j (ls.take (i + 1)) := fun a j => ldR_pass hll a j
   rw [hlsi] at hin hps hpn
   clear hrow hok hlw hlsi
   generalize qs[i] = q at y0 y1 y2 y3 y4 y5 y6 hrv hrl hin hps hpn
   obtain ⟨x, Aq, nq, cq⟩ := q
   simp only [slQ] at y0 y1 y2 y3 y4 y5 y6 hrv hrl hin hps hpn
   have hal := (Below.refl wr.heap.size wr).alloc (Nat.le_refl _) (.cells #[.int .i64 x.k, .string x.name, .int .i64 (x.ver 0), .int .i64 (x.ver 1), .int .i64 (x.ver 2), .string x.other, .slice Aq nq cq] 38)
   have HKX := hide (Blk.new wr 38 #[.int .i64 x.k, .string x.name, .int .i64 (x.ver 0), .int .i64 (x.ver 1), .int .i64 (x.ver 2), .string x.other, .slice Aq nq cq])
   have HBA := hide (HBW.out.trans (hal.mono HBW.out.size))
   have HRV := hide (hrv.below hal)
   have HRL := Lib.hid hrl
   have HIN1 := Lib.hid hin
   have HPS := Lib.hid hps
   have HPN := Lib.hid hpn
   have HFA := hide (HF.out.alloc (.cells #[.int .i64 x.k, .string x.name, .int .i64 (x.ver 0), .int .i64 (x.ver 1), .int .i64 (x.ver 2), .string x.other, .slice Aq nq cq] 38))
   have HDA := hide (HD.out.below hal)
   have HNM := hide (HCN.out (wr.alloc (.cells #[.int .i64 x.k, .string x.name, .int .i64 (x.ver 0), .int .i64 (x.ver 1), .int .i64 (x.ver 2), .string x.other, .slice Aq nq cq] 38)) (x.name, x.ver 0, x.ver 1, x.ver 2) (HC0.out.below HBA.out))
   obtain ⟨ow, HOW⟩ : ∃ ow, Hid (posN its (x.name, x.ver 0, x.ver 1, x.ver 2) = ow) := ⟨_, Lib.hid rfl⟩
   rw [HOW.out] at HNM
   simp only [] at HNM
   clear hal hrv hrl hin hps hpn HF HD HBW
   go_wp2_with fail
   generalize World.alloc _ (.cells #[.int .i64 x.k, .string x.name, .int .i64 (x.ver 0), .int .i64 (x.ver 1), .int .i64 (x.ver 2), .string x.other, .slice Aq nq cq] 38) = wA at HKX HBA HRV HFA HDA HNM ⊢
   generalize wr.heap.size = bx at HKX ⊢
   clear y0 y1 y2 y3 y4 y5 y6
   refine HNM.out.mono ?_
   rintro e w4 ⟨rfl, hb4⟩
   have HKX4 := hide (HKX.out.below hb4 HKX.out.lt)
   have HB4 := hide (HBA.out.trans (hb4.mono HBA.out.size))
   have HRV4 := hide (HRV.out.below hb4)
   have HF4 := hide (HFA.out.trans (Fr.of_below hb4 (Nat.le_refl _)))
   have HD4 := hide (HDA.out.below hb4)
   clear HNM hb4 HKX HBA HRV HFA HDA
   have x0 := HKX4.out.cell 0
   have x5 := HKX4.out.cell 5
   have x6 := HKX4.out.cell 6
   by_cases hk2 : x.k = 2
   ·have q2 : (x.k == 2) = true := by rw [hk2]; rfl
    have q3 : (x.k != 2) = false := by unfold bne; rw [q2]; rfl
    have hpos := posN_in (HIN1.out (.inl hk2))
    rw [show itL x = (x.name, x.ver 0, x.ver 1, x.ver 2) from rfl, HOW.out] at hpos
    obtain ⟨own, rfl⟩ : ∃ k : Nat, ow = (k : Int) := ⟨ow.toNat, by omega⟩
    have hown : own < its.length := by omega
    have HK2 := Lib.hid hk2
    clear hk2 hpos
    have HIK := hide (planHas_any set own w4 hs (by omega))
    unfold HasP at HIK
    cases hbo : set.testBit own with
    | false =>
     rw [hbo] at HIK
     have HPJ := Lib.hid (HPN.out (fun j hj => by
      have h8 := hj.2.1
      rw [show itL x = (x.name, x.ver 0, x.ver 1, x.ver 2) from rfl, HOW.out] at h8
      obtain rfl : own = j := by omega
      rw [hbo] at hj
      exact Bool.noConfusion hj.2.2))
     go_wp2_with fail
     refine HIK.out.mono ?_
     rintro e w5 ⟨rfl, rfl⟩
     go_wp2_with fail
     go_round
     case rel => exact ⟨i + 1, vs, by omega, by go_num, HF4, hide (HD4.out.rows fun j _ => HPJ.out j)⟩
     case measure => simp [intOf]; omega
    | true =>
     rw [hbo] at HIK
     have HBO := Lib.hid hbo
     clear hbo
     go_wp2_with fail
     refine HIK.out.mono ?_
     rintro e w5 ⟨rfl, rfl⟩
     have HAM := hide (HCA.out w5 x.other (.slice Aq nq cq) x.rg (HC0.out.below HB4.out) HRV4.out HRL.out)
     have HRN := Lib.hid (amF_range x.other x.rg its 0)
     have hzl := amF_len x.other x.rg its 0
     obtain ⟨zs, HZS⟩ : ∃ zs, Hid (amF x.other x.rg its 0 = zs) := ⟨_, Lib.hid rfl⟩
     rw [HZS.out] at HAM HRN hzl
     go_wp2_with fail
     refine HAM.out.mono ?_
     rintro e w6 ⟨vz, rfl, hoz, hb6⟩
     obtain ⟨Az, cz, rfl⟩ := hoz.len
     have HOZ := hide hoz
     have HF6 := hide (HF4.out.trans (Fr.of_below hb6 (Nat.le_refl _)))
     have HD6 := hide (((HD4.out.lt.below hb6).mono (P' := fun k => w3.heap.size ≤ k ∧ (k < w5.heap.size ∨ w6.heap.size ≤ k)) (fun k h => ⟨h.1, .inl h.2⟩)).rows (rs' := ldM its ls set i own 0 zs) (fun j _ => ldM_zero j))
     have HS5 := Lib.hid (show g0 < w5.heap.size by obtain ⟨cs, h9, _⟩ := HD4.out.blk; exact h9.lt)
     have HS6 := Lib.hid (show w3.heap.size ≤ w6.heap.size from HF6.out.size)
     clear hoz hb6 HAM HIK HKX4 HRV4 HF4 HD4 x0 x5 x6
     go_wp2_with fail
     go_loopw [44] (fun jv wr => ∃ (m : Nat) (vs : Nat → Value), m ≤ zs.length ∧ jv = .int .i64 m ∧ Hid (Fr (fun k => k = g0 ∨ (w3.heap.size ≤ k ∧ (k < w5.heap.size ∨ w6.heap.size ≤ k))) w6 wr) ∧ Hid (LdM wr (fun k => w3.heap.size ≤ k ∧ (k < w5.heap.size ∨ w6.heap.size ≤ k)) g0 its.length vs (ldM its ls set i own m zs))) (fun jv _ => zs.length - (intOf jv).toNat)
     case atStart => exact ⟨0, vs, Nat.zero_le _, rfl, hide (Fr.refl _ _), HD6⟩
     case round =>
      obtain ⟨m, vm, hm, rfl, HFM, HDM⟩ := hrel
      by_cases hml : m < zs.length
      ·have hmlz : (m : Int) < (zs.length : Int) := by omega
       have hozw := ownsRow_fr HOZ.out HFM.out (fun k h1 h2 h3 => by
        have h4 := HS5.out
        rcases h3 with h3 | ⟨_, h3 | h3⟩ <;> omega)
       obtain ⟨gz, capz, cur, e9, _, hkz, _, hcz⟩ := OwnI.form hozw (by omega)
       injection e9 with e1 e2 e3
       subst e1
       have u0 := (hkz.cell m).trans (hcz m hml)
       rw [List.getD_eq_getElem?_getD, List.getElem?_eq_getElem hml, Option.getD_some] at u0
       have hzr := HRN.out _ (List.getElem_mem hml)
       have hhit := ldM_hit (its := its) (ls := ls) (set := set) (i := i) (own := own) hml
       have hmiss := ldM_miss (its := its) (ls := ls) (set := set) (i := i) (own := own) hml
       obtain ⟨k, hkk⟩ : ∃ k : Nat, zs[m] = (k : Int) := ⟨zs[m].toNat, by omega⟩
       rw [hkk] at u0 hzr hhit hmiss
       rw [show ((k : Int)).toNat = k from rfl] at hhit hmiss
       have HIZ := hide (planHas_any set k wr hs (by omega))
       unfold HasP at HIZ
       clear hkz hcz hkk e2 e3 hozw
       cases hbk : set.testBit k with
       | false =>
        rw [hbk] at HIZ hmiss
        have HMI := Lib.hid (fun j => hmiss (by simp) j)
        clear hhit hmiss
        go_wp2_with fail
        refine HIZ.out.mono ?_
        rintro e w7 ⟨rfl, rfl⟩
        go_wp2_with fail
        go_round
        case rel => exact ⟨m + 1, vm, by omega, by go_num, HFM, hide (HDM.out.rows fun j _ => HMI.out j)⟩
        case measure => simp [intOf]; omega
       | true =>
        rw [hbk] at HIZ hmiss hhit
        by_cases hko : k = own
        ·subst hko
         have hn1 : ((k : Int) == (k : Int)) = true := beq_self_eq_true _
         have hn2 : ((k : Int) != (k : Int)) = false := by unfold bne; rw [hn1]; rfl
         have hn3 : (k != k) = false := by simp
         have HMI := Lib.hid (fun j => hmiss (by simp) j)
         clear hhit hmiss
         go_wp2_with fail
         refine HIZ.out.mono ?_
         rintro e w7 ⟨rfl, rfl⟩
         go_wp2_with fail
         go_round
         case rel => exact ⟨m + 1, vm, by omega, by go_num, HFM, hide (HDM.out.rows fun j _ => HMI.out j)⟩
         case measure => simp [intOf]; omega
        ·have hn1 : ((k : Int) == (own : Int)) = false := beq_eq_false_iff_ne.2 (by omega)
         have hn2 : ((k : Int) != (own : Int)) = true := by unfold bne; rw [hn1]; rfl
         have hn3 : (k != own) = true := by simpa using hko
         have HHI := Lib.hid (fun j => hhit (by simp; omega) j)
         clear hhit hmiss
         have hal := (Below.refl wr.heap.size wr).alloc (Nat.le_refl _) (.cells #[.int .i64 (k : Int)] 3)
         have HDA := hide (HDM.out.below hal)
         have HFA := hide (HFM.out.alloc (.cells #[.int .i64 (k : Int)] 3))
         have HRA := hide (blk_reads (zs := [(k : Int)]) (Blk.new wr 3 #[.int .i64 (k : Int)]))
         have HOA := hide (HDA.out.own own hown)
         have c0 := HDM.out.cell hown
         have c1 := HDA.out.cell hown
         have HLN := Lib.hid (show (ldM its ls set i own m zs own).length + 1 ≤ 10000000000 by
          have h1 := ldR_len its set own (ls.take i)
          have h2 : (ls.take i).length ≤ 100 := by rw [List.length_take, ← HLS.out, List.length_map]; omega
          have h3 : its.length * (ls.take i).length ≤ 24 * 100 := Nat.mul_le_mul h24 h2
          have h4 : ((zs.take m).filter fun z => set.testBit z.toNat && decide (z ≠ (own : Int))).length ≤ zs.length := Nat.le_trans (List.length_filter_le _ _) (by rw [List.length_take]; omega)
          unfold ldM
          rw [if_pos rfl, List.length_append]
          omega)
         clear hal
         go_wp2_with fail
         refine HIZ.out.mono ?_
         rintro e w7 ⟨rfl, rfl⟩
         go_wp2_with (at_builtin; refine appI _ rfl _ _ _ rfl 0 Tryz.underlying24 _ (ldM its ls set i own m zs own) rfl HOA.out (w7.heap.size + 1) (some ⟨w7.heap.size, 0, none⟩) 1 1 [(k : Int)] rfl HRA.out rfl HLN.out (Nat.zero_le _) ?_; intro v9 w9 ho9 hg9 hor9; have HO9 := hide ho9; have HG9 := hide hg9; have HR9 := Lib.hid hor9; obtain ⟨c9, f9⟩ := HDA.out.still hown hg9; obtain ⟨A9, d9, e9⟩ := ho9.len; subst e9; clear ho9 hg9 hor9)
         have HDN := hide ((HDA.out.app hown HO9.out HG9.out HR9.out ⟨Nat.le_trans HS6.out (Nat.le_trans HFA.out.size (Nat.le_refl _)), .inr HFA.out.size⟩).rows (fun j _ => HHI.out j))
         have HFN := hide ((HFA.out.grown HG9.out (fun k9 hk9 => .inr (HDA.out.bk own k9 hown hk9))).set_ (p := ⟨g0, own, none⟩) (.inl rfl) (.slice A9 (ldM its ls set i own m zs own ++ [(k : Int)]).length d9))
         have hln : (ldM its ls set i own m zs own ++ [(k : Int)]).length = (ldM its ls set i own m zs own).length + 1 := by simp
         rw [hln] at HFN HDN
         clear HDA HFA HOA c0 c1 c9 f9 HO9 HG9 HR9 hln
         go_round
         case rel => exact ⟨m + 1, _, by omega, by go_num, HFN, HDN⟩
         case measure => simp [intOf]; omega
      ·have hmlz : ¬ (m : Int) < (zs.length : Int) := by omega
       have HPJ := Lib.hid (HPS.out own m zs HZS.out HK2.out HOW.out HBO.out (by omega))
       have HFE := hide (HF6.out.and_ HFM.out (fun k h1 h2 => by rcases h2 with h2 | ⟨h2, _⟩; exact .inl h2; exact .inr h2))
       go_wp2_with fail
       go_round
       case rel => exact ⟨i + 1, vm, by omega, by go_num, HFE, hide ((HDM.out.mono fun k h => h.1).rows fun j _ => HPJ.out j)⟩
       case measure => simp [intOf]; omega
   ·have q2 : (x.k == 2) = false := beq_eq_false_iff_ne.2 hk2
    have q3 : (x.k != 2) = true := by unfold bne; rw [q2]; rfl
    have HPJ := Lib.hid (HPN.out (fun j hj => hk2 hj.1))
    clear hk2
    go_wp2_with fail
    go_round
    case rel => exact ⟨i + 1, vs, by omega, by go_num, HF4, hide (HD4.out.rows fun j _ => HPJ.out j)⟩
    case measure => simp [intOf]; omega
  ·have hltz : ¬ (i : Int) < (qs.length : Int) := by omega
   have HDE := hide ((HD.out.mono (P' := fun k => w.heap.size ≤ k) (fun k h => Nat.le_trans HB3.out.size h)).rows (rs' := fun j => ldR its set j ls) (fun j _ => by rw [List.take_of_length_le (by rw [← HLS.out, List.length_map]; omega)]))
   go_wp2_with fail
   exact bodyPost_ret (v := .slice (some ⟨g0, 0, none⟩) its.length its.length) (by simp [results, Tryz.results80, go_sem]) rfl ⟨g0, vs, rfl, HDE.out, HGG.out, HBW.out⟩
end Go.Proofs.YtmncoldaemcnlaaGreatDoor
