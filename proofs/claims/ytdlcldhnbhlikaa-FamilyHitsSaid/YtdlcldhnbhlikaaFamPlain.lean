/-
  What steps of families mean; plain's Families, walked. family.New.
-/
import Derived.Test.YtdlcldhnbhlikaaFamOne
namespace Go.Proofs.Ytdlcldhnbhlikaa
open Go.RowKit Go.Maps

abbrev FamB := Nat → Bool
def fm0 : FamB := fun _ => false
def fm1 : FamB := fun s => s == 0
/-- The set that an int stands for, of so many things. -/
def oneN (vn : Nat) (a : Int) : Nat := (a % 18446744073709551616).toNat % 2 ^ vn
def argZ (fs : List FamB) (z : Int) : FamB := fs.getD (atN z fs.length) fm0
/-- What a step makes of the families so far. -/
noncomputable def stepZ (vn : Nat) (d : Four) (fs : List FamB) : FamB :=
  match atN d.what 7 with
  | 0 => fun s => s == oneN vn d.a
  | 1 => fun s => argZ fs d.a s || argZ fs d.b s
  | 2 => fun s => argZ fs d.a s && argZ fs d.b s
  | 3 => fun s => argZ fs d.a s && !argZ fs d.b s
  | 4 => joinG (argZ fs d.a) (argZ fs d.b)
  | 5 => freeG (argZ fs d.a) (argZ fs d.b)
  | _ => leastG (argZ fs d.a)
noncomputable def famsN (vn : Nat) (q : Nat → Four) : Nat → List FamB
  | 0 => [fm0, fm1]
  | i + 1 => famsN vn q i ++ [stepZ vn (q i) (famsN vn q i)]
theorem fams_len (vn : Nat) (q : Nat → Four) : ∀ i, (famsN vn q i).length = i + 2
  | 0 => rfl
  | i + 1 => by
    show (famsN vn q i ++ [stepZ vn (q i) (famsN vn q i)]).length = _
    rw [List.length_append, fams_len vn q i, List.length_singleton]
/-- The handles of these families. -/
structure HsZ (A : Ar) (hs : List Int) (fs : List FamB) : Prop where
  len : hs.length = fs.length
  has : ∀ k, k < hs.length → hasA A (hs.getD k 0) = true
  fam : ∀ k, k < hs.length → ∀ s, fam A (hs.getD k 0) s = fs.getD k fm0 s
section
variable {A A' : Ar} {things : Int} {hs : List Int} {fs : List FamB} {h : Int} {F : FamB}
theorem HsZ.start (A : Ar) : HsZ A [0, 1] [fm0, fm1] := by
  refine ⟨rfl, fun k hk => ?_, fun k hk u => ?_⟩
  · rcases (show k = 0 ∨ k = 1 by simp at hk; omega) with rfl | rfl
    · exact has_ends.1
    · exact has_ends.2
  · rcases (show k = 0 ∨ k = 1 by simp at hk; omega) with rfl | rfl
    · exact fam_zero u
    · exact fam_one u
theorem HsZ.ext (H : HsZ A hs fs) (h1 : SpZ A things) (h2 : SpZ A' things) (hx : ExtA A A') : HsZ A' hs fs :=
  ⟨H.len, fun k hk => hx.has (H.has k hk), fun k hk u => by rw [h1.same h2 hx (H.has k hk)]; exact H.fam k hk u⟩
theorem HsZ.push (H : HsZ A hs fs) (p : hasA A h = true) (hF : ∀ u, Go.Proofs.Ytdlcldhnbhlikaa.fam A h u = F u) : HsZ A (hs ++ [h]) (fs ++ [F]) := by
  have hl := H.len
  have g1 : ∀ k, k < hs.length → (hs ++ [h]).getD k 0 = hs.getD k 0 := fun k hk => by
    rw [List.getD_eq_getElem?_getD, List.getD_eq_getElem?_getD, List.getElem?_append_left hk]
  have g2 : ∀ k, k < fs.length → (fs ++ [F]).getD k fm0 = fs.getD k fm0 := fun k hk => by
    rw [List.getD_eq_getElem?_getD, List.getD_eq_getElem?_getD, List.getElem?_append_left hk]
  have g3 : (hs ++ [h]).getD hs.length 0 = h := by simp [List.getD_eq_getElem?_getD]
  have g4 : (fs ++ [F]).getD fs.length fm0 = F := by simp [List.getD_eq_getElem?_getD]
  refine ⟨by simp [hl], fun k hk => ?_, fun k hk u => ?_⟩
  · rw [List.length_append, List.length_singleton] at hk
    rcases Nat.lt_or_ge k hs.length with h1 | h1
    · rw [g1 k h1]; exact H.has k h1
    · rw [show k = hs.length by omega, g3]; exact p
  · rw [List.length_append, List.length_singleton] at hk
    rcases Nat.lt_or_ge k hs.length with h1 | h1
    · rw [g1 k h1, g2 k (by omega)]; exact H.fam k h1 u
    · rw [show k = hs.length by omega, g3, hl, g4]; exact hF u
theorem HsZ.mem (H : HsZ A hs fs) {x : Int} (hx : x ∈ hs) : hasA A x = true := by
  obtain ⟨k, hk, rfl⟩ := List.getElem_of_mem hx
  have := H.has k hk
  rw [List.getD_eq_getElem?_getD, List.getElem?_eq_getElem hk] at this
  exact this
theorem HsZ.sweep (H : HsZ A hs fs) (h1 : SpZ A things) : HsZ (sweepA A hs) hs fs :=
  ⟨H.len, fun k hk => sweep_has (getD_mem hk) (H.has k hk), fun k hk u => by rw [sweep_fam h1 (getD_mem hk) (H.has k hk)]; exact H.fam k hk u⟩
/-- A step's argument. -/
theorem HsZ.arg (H : HsZ A hs fs) (h0 : 0 < hs.length) (z : Int) : atN z hs.length < hs.length ∧ hasA A (hs.getD (atN z hs.length) 0) = true ∧ Go.Proofs.Ytdlcldhnbhlikaa.fam A (hs.getD (atN z hs.length) 0) = argZ fs z := by
  have h1 := atN_lt z h0
  refine ⟨h1, H.has _ h1, funext fun u => ?_⟩
  unfold argZ
  rw [← H.len]
  exact H.fam _ h1 u
end
theorem atN_seven (n : Int) : atN n 7 = 0 ∨ atN n 7 = 1 ∨ atN n 7 = 2 ∨ atN n 7 = 3 ∨ atN n 7 = 4 ∨ atN n 7 = 5 ∨ atN n 7 = 6 := by
  have := atN_lt n (show 0 < 7 by omega)
  omega
section
variable {vn : Nat} {d : Four} {fs : List FamB}
theorem stepZ_0 (h : atN d.what 7 = 0) : stepZ vn d fs = fun s => s == oneN vn d.a := by unfold stepZ; rw [h]; rfl
theorem stepZ_1 (h : atN d.what 7 = 1) : stepZ vn d fs = fun s => argZ fs d.a s || argZ fs d.b s := by unfold stepZ; rw [h]; rfl
theorem stepZ_2 (h : atN d.what 7 = 2) : stepZ vn d fs = fun s => argZ fs d.a s && argZ fs d.b s := by unfold stepZ; rw [h]; rfl
theorem stepZ_3 (h : atN d.what 7 = 3) : stepZ vn d fs = fun s => argZ fs d.a s && !argZ fs d.b s := by unfold stepZ; rw [h]; rfl
theorem stepZ_4 (h : atN d.what 7 = 4) : stepZ vn d fs = joinG (argZ fs d.a) (argZ fs d.b) := by unfold stepZ; rw [h]; rfl
theorem stepZ_5 (h : atN d.what 7 = 5) : stepZ vn d fs = freeG (argZ fs d.a) (argZ fs d.b) := by unfold stepZ; rw [h]; rfl
theorem stepZ_6 (h : atN d.what 7 = 6) : stepZ vn d fs = leastG (argZ fs d.a) := by unfold stepZ; rw [h]; rfl
end
theorem kT_le {t : Int} (h : 0 ≤ t) : kT t ≤ 3 := by unfold kT; omega
theorem topZ_nn {A : Ar} (hw : WfA A) (a b : Int) : 0 ≤ topZ A a b := by
  have := (hw.topR a).1
  have := (hw.topR b).1
  unfold topZ min2; split <;> assumption
theorem c2_le {t : Int} (h : 0 ≤ t) : c2N (kT t) ≤ 42 := Nat.le_trans (c2N_mono (kT_le h)) (by decide)
theorem c3_le {t : Int} (h : 0 ≤ t) : c3N (kT t) ≤ 42 := Nat.le_trans (c3N_mono (kT_le h)) (by decide)
theorem c4_le {t : Int} (h : 0 ≤ t) : c4N (kT t) ≤ 42 := Nat.le_trans (c4N_mono (kT_le h)) (by decide)
theorem ls_le {t : Int} (h : 0 ≤ t) : lsN (kT t) ≤ 42 := Nat.le_trans (lsN_mono (kT_le h)) (by decide)
theorem pow_u6 (v : Nat) (hv : v ≤ 6) : IntKind.u64.wrap (2 ^ v) = ((2 ^ v : Nat) : Int) ∧ IntKind.u64.wrap (((2 ^ v : Nat) : Int) - 1) = ((2 ^ v - 1 : Nat) : Int) := by
  rcases (show v = 0 ∨ v = 1 ∨ v = 2 ∨ v = 3 ∨ v = 4 ∨ v = 5 ∨ v = 6 by omega) with rfl | rfl | rfl | rfl | rfl | rfl | rfl <;> decide +kernel
theorem one_bits (v : Nat) (hv : v ≤ 6) (a : Int) : bits BinOp.and IntKind.u64 (IntKind.u64.wrap a) ((2 ^ v - 1 : Nat) : Int) = (oneN v a : Int) := by
  have h1 := Int.emod_nonneg a (show (18446744073709551616 : Int) ≠ 0 by omega)
  have h2 := Int.emod_lt_of_pos a (show (0 : Int) < 18446744073709551616 by omega)
  have h3 : 2 ^ v ≤ 2 ^ 6 := Nat.pow_le_pow_right (by omega) hv
  rw [IntKind.wrap_u64]
  unfold oneN
  rw [← Nat.and_two_pow_sub_one_eq_mod]
  have e : a % 18446744073709551616 = ((a % 18446744073709551616).toNat : Int) := (Int.toNat_of_nonneg h1).symm
  rw [e, bits_and_u64_nat _ _ (by omega) (by omega)]
  rfl
theorem oneN_lt (v : Nat) (a : Int) : oneN v a < 2 ^ v := Nat.mod_lt _ (Nat.two_pow_pos v)
section
variable (S B gn gu gt : Nat) (things : Int) (A : Ar) (w : World)
def FreeZP (w : World) (S B gn gu gt : Nat) (things : Int) (A : Ar) (l : List Int) (e : Ending) (w' : World) : Prop := (∃ z, e = .returned (.int .i64 z)) ∧ FsM w' S B gn gu gt things (sweepA A l) ∧ Fr (arB B gn gu gt) w w'
theorem fzSweep_any (A0 : Option Addr) (n c : Nat) (l : List Int) (h : FsM w S B gn gu gt things A) (hl : RowI w A0 n l) (hi : ∀ x ∈ l, I64 x) (hn : n ≤ 1000000) (hnil : A0 = none → n = 0) :
    Calls Try.prog 31 #[.pointer (some ⟨S, 0, none⟩), .slice A0 n c] w (FreeZP w S B gn gu gt things A l) := by
  have s0 := h.kS.cell 0
  have HSW := hide (arSweep_any B gn gu gt A A0 n c l w h.ar hl hi hn hnil)
  have H := hide h
  clear h hl hi
  go_enter Try.func31, Try.ntmps31
  go_wp2_with fail
  refine (HSW.out).mono ?_
  rintro e w1 ⟨rfl, ha, hf⟩
  have HA := hide ha
  have HF := hide hf
  clear ha hf
  go_wp2
  go_ret
  exact ⟨⟨_, rfl⟩, H.out.arena HA.out (H.out.sp.sweep l) HF.out, HF.out⟩
end
/-- Where Families stands. -/
structure FmsI (w : World) (S B gn gu gt vn : Nat) (q : Nat → Four) (i : Nat) (vo : Value) (wr : World) : Prop where
  is : ∃ A hs, FsM wr S B gn gu gt (vn : Int) A ∧ HsZ A hs (famsN vn q i) ∧ OwnI wr w.heap.size vo hs ∧ low3 A ≤ 42 * i
  fr : Fr (arB B gn gu gt) w wr
def FmsP (w : World) (S B gn gu gt vn : Nat) (q : Nat → Four) (n : Nat) (e : Ending) (w' : World) : Prop := ∃ v, e = .returned v ∧ FmsI w S B gn gu gt vn q n v w'
set_option maxRecDepth 100000 in
set_option maxHeartbeats 4000000 in
theorem fams_any (S B gn gu gt vn : Nat) (Al : Option Addr) (n c : Nat) (q : Nat → Four) (A0 : Ar) (w0 w : World) (h : FsM w S B gn gu gt (vn : Int) A0) (hlow : low3 A0 = 0) (hn : n ≤ 20)
    (hq : FourP w0 Al n q) (hb0 : Below w0.heap.size w0 w) (hs0 : ∀ k, arB B gn gu gt k → w0.heap.size ≤ k) :
    Calls Try.prog 11 #[.pointer (some ⟨S, 0, none⟩), .int .i64 (vn : Int), .slice Al n c] w (FmsP w S B gn gu gt vn q n) := by
  have HQ := hide hq
  have HB0 := hide hb0
  have HS0 := Lib.hid hs0
  have hSw := Lib.hid (fun k (hk : arB B gn gu gt k) => h.ar.lt hk)
  have hb := (Below.refl w.heap.size w).alloc (Nat.le_refl _) (.cells #[.int .i64 0, .int .i64 1] 3)
  have HKS := Lib.hid h.kS.lt
  have HST := hide (show FmsI w S B gn gu gt vn q 0 (.slice (some ⟨w.heap.size, 0, none⟩) 2 2) (w.alloc (.cells #[.int .i64 0, .int .i64 1] 3)) from
    ⟨⟨A0, [0, 1], h.below hb, .start A0, ownI_two w _ (Nat.le_refl _), by omega⟩, .of_below hb (Nat.le_refl _)⟩)
  clear h hq hb0 hs0 hb
  go_enter Try.func11, Try.ntmps11
  go_wp2
  generalize (w.alloc (.cells #[.int .i64 0, .int .i64 1] 3)) = wS at HST ⊢
  generalize hvS : Value.slice (some ⟨w.heap.size, 0, none⟩) 2 2 = vS at HST ⊢
  clear hvS
  go_loopw [7, 18] (fun vo iv wr => ∃ i : Nat, i ≤ n ∧ iv = .int .i64 i ∧ Hid (FmsI w S B gn gu gt vn q i vo wr)) (fun _ iv _ => n - (intOf iv).toNat)
  case atStart => exact ⟨0, Nat.zero_le _, rfl, HST⟩
  case round =>
    clear HST
    obtain ⟨i, hi, rfl, hF⟩ := hrel
    by_cases hlt : i < n
    · obtain ⟨A, hs, hsp, hok, hown, hlo⟩ := hF.out.is
      obtain ⟨ad, rfl, hfo, c0, c1, c2, c3⟩ := HQ.out.at_ (HB0.out.trans (hF.out.fr.to_below HB0.out.size (fun k hk hk2 => by have := HS0.out k hk2; omega))) hlt
      have HFR := hide hF.out.fr
      have hnext : famsN vn q (i + 1) = famsN vn q i ++ [stepZ vn (q i) (famsN vn q i)] := rfl
      have hlen : hs.length = i + 2 := hok.len.trans (fams_len vn q i)
      have HNX := hide hnext
      clear hnext hF
      generalize famsN vn q i = fs at hok HNX
      generalize q i = d at hfo c0 c1 c2 c3 HNX
      obtain ⟨dw, da, db, dc⟩ := d
      simp only at c0 c1 c2 c3
      have hiI : (i : Int) < (n : Int) := by omega
      obtain ⟨g, cap, cur, rfl, hbg, hkg, hcap, hcur⟩ := hown.form (by omega)
      obtain ⟨ia, pa, fa⟩ := hok.arg (by omega) da
      obtain ⟨ib, pb, fb⟩ := hok.arg (by omega) db
      have hba := (Below.refl wr.heap.size wr).alloc (Nat.le_refl _) (.cells #[.int .i64 dw, .int .i64 da, .int .i64 db, .int .i64 dc] 45)
      have HS := hide (hsp.below hba)
      have HX := hide (Blk.new wr 45 #[.int .i64 dw, .int .i64 da, .int .i64 db, .int .i64 dc])
      have HG := hide (hkg.alloc (.cells #[.int .i64 dw, .int .i64 da, .int .i64 db, .int .i64 dc] 45))
      have HOW := hide (hown.below hba)
      have HF1 := hide (HFR.out.alloc (.cells #[.int .i64 dw, .int .i64 da, .int .i64 db, .int .i64 dc] 45))
      have HOK := hide hok
      have hxS : ∀ k, arB B gn gu gt k → k ≠ wr.heap.size := fun k hk e => by have := hsp.ar.lt hk; omega
      have la : ((atN da hs.length : Nat) : Int) < (hs.length : Int) := by omega
      have lb : ((atN db hs.length : Nat) : Int) < (hs.length : Int) := by omega
      have HCU := Lib.hid hcur
      have HLE := Lib.hid hlen
      have hL0 : 0 < hs.length := by omega
      have hL1 : hs.length ≤ 1000 := by omega
      clear hsp hok hown hkg hba HFR hcur hlen
      go_wp2
      generalize wr.heap.size = xb at HX hxS ⊢
      generalize (wr.alloc (.cells #[.int .i64 dw, .int .i64 da, .int .i64 db, .int .i64 dc] 45)) = wx at HS HX HG HOW HF1 ⊢
      have y1 := HX.out.cell 1
      have y2 := HX.out.cell 2
      have y3 := HX.out.cell 3
      have ga := (HG.out.cell (atN da hs.length)).trans (HCU.out _ ia)
      have gb := (HG.out.cell (atN db hs.length)).trans (HCU.out _ ib)
      have HAT := hide (fun (q : Nat) (z : Int) => plainAt_any z hs.length (wx.drewN q) hL0 (by omega))
      generalize hs.getD (atN da hs.length) 0 = ha at pa fa ga
      generalize hs.getD (atN db hs.length) 0 = hb at pb fb gb
      go_quiet ((go_at_call 26; refine (HAT.out _ _).mono ?_; rintro e w9 ⟨rfl, rfl⟩; exact ⟨rfl, _, rfl⟩))
      have HS2 := hide (HS.out.below (below_drewN (Below.refl _ _) nq))
      have HX2 := hide (HX.out.drewN nq)
      have HOW2 := hide (HOW.out.below (below_drewN (Below.refl _ _) nq))
      have HF2 := hide (HF1.out.trans (.of_below (below_drewN (Below.refl wx.heap.size wx) nq) (Nat.le_refl _)))
      clear y1 y2 y3 ga gb HAT HS HX HOW HF1 HG
      generalize wx.drewN nq = wy at HS2 HX2 HOW2 HF2 ⊢
      have y0 := HX2.out.cell 0
      have HN9 := hide (plainAt_any dw 7 wy (by omega) (by omega))
      have h6 := HS2.out.t6
      have hlo2 : low3 A + 42 ≤ 2000 := by omega
      unfold AtQ at HN9
      rcases atN_seven dw with e9 | e9 | e9 | e9 | e9 | e9 | e9
      all_goals rw [e9] at HN9
      case' inl =>
        have y1 := HX2.out.cell 1
        have hmin : min vn 64 = vn := by omega
        obtain ⟨hp1, hp2⟩ := pow_u6 vn (by omega)
        have hp3 := one_bits vn (by omega) da
        have HLI := hide ((fzOne_any S B gn gu gt A wy.drew vn (oneN vn da) (HS2.out.below (Below.refl _ _).drew) (oneN_lt vn da) (by omega)).mono fun e w' hp =>
          show ZP wy.drew S B gn gu gt (vn : Int) A 42 0 (stepZ vn ⟨dw, da, db, dc⟩ fs) e w' from ZP.mono hp (by omega) (Int.le_refl _) (fun s => by rw [stepZ_0 (d := ⟨dw, da, db, dc⟩) e9]))
        generalize oneN vn da = set at hp3 HLI
        generalize (2 ^ vn : Nat) = pv at hp1 hp2 hp3
        go_wp2_with fail
        refine (HN9.out).mono ?_
        rintro e w9 ⟨rfl, rfl⟩
        go_wp2_with fail
        go_region_held3 (fun w' => w'.cell? ⟨xb, 1, none⟩ = some (.int .i64 da))
          (first | exact y1 | exact (hf1.cell (p := ⟨xb, 1, none⟩) HX2.out.lt (fun hk => hxS _ hk rfl)).trans y1)
          (first
            | (go_at_call 13; refine (HLI.out).mono ?_; rintro e w1 ⟨A1, x, rfl, hs1, T1, hf1⟩))
        all_goals
          have hf1 := (Fr.refl (arB B gn gu gt) wy).drew.trans hf1
          have HC := True.intro
      case' inr.inl =>
        have HC := hide ((fzOr_any S B gn gu gt (vn : Int) A wy ha hb HS2.out pa pb (by have := c2_le (topZ_nn HS2.out.sp.wf ha hb); omega)).mono fun e w' hp => show ZP wy S B gn gu gt (vn : Int) A 42 0 (stepZ vn ⟨dw, da, db, dc⟩ fs) e w' from ZP.mono hp (c2_le (topZ_nn HS2.out.sp.wf ha hb)) (topZ_nn HS2.out.sp.wf ha hb) (fun s => by rw [stepZ_1 (d := ⟨dw, da, db, dc⟩) e9, fa, fb]; rfl))
        go_wp2_with fail
        refine (HN9.out).mono ?_
        rintro e w9 ⟨rfl, rfl⟩
        go_wp2_with fail
        refine (HC.out).mono ?_
        rintro e w1 ⟨A1, x, rfl, hs1, T1, hf1⟩
      case' inr.inr.inl =>
        have HC := hide ((fzAnd_any S B gn gu gt (vn : Int) A wy ha hb HS2.out pa pb (by have := c2_le (topZ_nn HS2.out.sp.wf ha hb); omega)).mono fun e w' hp => show ZP wy S B gn gu gt (vn : Int) A 42 0 (stepZ vn ⟨dw, da, db, dc⟩ fs) e w' from ZP.mono hp (c2_le (topZ_nn HS2.out.sp.wf ha hb)) (topZ_nn HS2.out.sp.wf ha hb) (fun s => by rw [stepZ_2 (d := ⟨dw, da, db, dc⟩) e9, fa, fb]; rfl))
        go_wp2_with fail
        refine (HN9.out).mono ?_
        rintro e w9 ⟨rfl, rfl⟩
        go_wp2_with fail
        refine (HC.out).mono ?_
        rintro e w1 ⟨A1, x, rfl, hs1, T1, hf1⟩
      case' inr.inr.inr.inl =>
        have HC := hide ((fzLess_any S B gn gu gt (vn : Int) A wy ha hb HS2.out pa pb (by have := c2_le (topZ_nn HS2.out.sp.wf ha hb); omega)).mono fun e w' hp => show ZP wy S B gn gu gt (vn : Int) A 42 0 (stepZ vn ⟨dw, da, db, dc⟩ fs) e w' from ZP.mono hp (c2_le (topZ_nn HS2.out.sp.wf ha hb)) (topZ_nn HS2.out.sp.wf ha hb) (fun s => by rw [stepZ_3 (d := ⟨dw, da, db, dc⟩) e9, fa, fb]; rfl))
        go_wp2_with fail
        refine (HN9.out).mono ?_
        rintro e w9 ⟨rfl, rfl⟩
        go_wp2_with fail
        refine (HC.out).mono ?_
        rintro e w1 ⟨A1, x, rfl, hs1, T1, hf1⟩
      case' inr.inr.inr.inr.inl =>
        have HC := hide ((fzJoin_any S B gn gu gt (vn : Int) A wy ha hb HS2.out pa pb (by have := c4_le (topZ_nn HS2.out.sp.wf ha hb); omega)).mono fun e w' hp => show ZP wy S B gn gu gt (vn : Int) A 42 0 (stepZ vn ⟨dw, da, db, dc⟩ fs) e w' from ZP.mono hp (c4_le (topZ_nn HS2.out.sp.wf ha hb)) (topZ_nn HS2.out.sp.wf ha hb) (fun s => by rw [stepZ_4 (d := ⟨dw, da, db, dc⟩) e9, fa, fb]; rfl))
        go_wp2_with fail
        refine (HN9.out).mono ?_
        rintro e w9 ⟨rfl, rfl⟩
        go_wp2_with fail
        refine (HC.out).mono ?_
        rintro e w1 ⟨A1, x, rfl, hs1, T1, hf1⟩
      case' inr.inr.inr.inr.inr.inl =>
        have HC := hide ((fzWithout_any S B gn gu gt (vn : Int) A wy ha hb HS2.out pa pb (by have := c3_le (topZ_nn HS2.out.sp.wf ha hb); omega)).mono fun e w' hp => show ZP wy S B gn gu gt (vn : Int) A 42 0 (stepZ vn ⟨dw, da, db, dc⟩ fs) e w' from ZP.mono hp (c3_le (topZ_nn HS2.out.sp.wf ha hb)) (topZ_nn HS2.out.sp.wf ha hb) (fun s => by rw [stepZ_5 (d := ⟨dw, da, db, dc⟩) e9, fa, fb]; rfl))
        go_wp2_with fail
        refine (HN9.out).mono ?_
        rintro e w9 ⟨rfl, rfl⟩
        go_wp2_with fail
        refine (HC.out).mono ?_
        rintro e w1 ⟨A1, x, rfl, hs1, T1, hf1⟩
      case' inr.inr.inr.inr.inr.inr =>
        have HC := hide ((fzLeast_any S B gn gu gt (vn : Int) A wy ha HS2.out pa (by have := ls_le (HS2.out.sp.wf.topR ha).1; omega)).mono fun e w' hp => show ZP wy S B gn gu gt (vn : Int) A 42 0 (stepZ vn ⟨dw, da, db, dc⟩ fs) e w' from ZP.mono hp (ls_le (HS2.out.sp.wf.topR ha).1) (HS2.out.sp.wf.topR ha).1 (fun s => by rw [stepZ_6 (d := ⟨dw, da, db, dc⟩) e9, fa]))
        go_wp2_with fail
        refine (HN9.out).mono ?_
        rintro e w9 ⟨rfl, rfl⟩
        go_wp2_with fail
        refine (HC.out).mono ?_
        rintro e w1 ⟨A1, x, rfl, hs1, T1, hf1⟩
      all_goals
        have HS5 := hide hs1
        have HOK5 := hide ((HOK.out.ext HS2.out.sp T1.sp T1.ext).push T1.has T1.fam)
        rw [← HNX.out] at HOK5
        have HOW5 := hide (HOW2.out.fr hf1 (fun k hk1 hk2 hk3 => by have := hSw.out k hk3; omega))
        have HF5 := hide (HF2.out.trans hf1)
        have HLO := Lib.hid (show low3 A1 ≤ 42 * (i + 1) from by have := T1.few; omega)
        have hal := (Below.refl w1.heap.size w1).alloc (Nat.le_refl _) (.cells #[.int .i64 x] 3)
        have HSA := hide (HS5.out.below hal)
        have HOA := hide (HOW5.out.below hal)
        have HFA := hide (HF5.out.alloc (.cells #[.int .i64 x] 3))
        have HRA := hide (blk_reads (zs := [x]) (Blk.new w1 3 #[.int .i64 x]))
        have HSZ := Lib.hid (show w.heap.size ≤ (w1.alloc (.cells #[.int .i64 x] 3)).heap.size from HFA.out.size)
        have HLT := hide (World.ownsRow.lt HOA.out)
        have HLE2 := Lib.hid (show (hs ++ [x]).length = i + 3 from by rw [List.length_append, List.length_singleton, HLE.out])
        have HM2 := Lib.hid (fun y (hy : y ∈ hs ++ [x]) => HS5.out.i64 (HOK5.out.mem hy))
        clear hs1 T1 hf1 hal HC HN9 HX2 y0 fa fb pa pb HOK
        go_wp2_with (first
          | (at_builtin; refine appI _ rfl _ _ _ rfl w.heap.size Try.underlying24 _ hs rfl HOA.out (w1.heap.size + 1) (some ⟨w1.heap.size, 0, none⟩) 1 1 [x] rfl HRA.out rfl (by omega) HSZ.out ?_; intro v9 w9 ho9 hg9 hor9; clear hor9; obtain ⟨g9, cap9, cur9, rfl, hbg9, hkg9, hcap9, hcur9⟩ := ho9.form (by rw [HLE2.out]; omega); have HO9 := hide ho9; have HG9 := hide hg9; clear ho9 hg9 hkg9 hcur9; generalize hs ++ [x] = hs2 at HO9 HOK5 HLE2 HM2 hcap9 ⊢)
          | fail)
        have HS9 := hide (HSA.out.keep (w' := w9) fun k hk => HG9.out.block k (hk.elim (fun h => HSA.out.ar.lt h) (fun e => by rw [e]; exact HSA.out.kS.lt)) (fun e => by
          have h9 := (HLT.out k e.symm).1
          rcases hk with hk | hk
          · have := hSw.out k hk; omega
          · have := HKS.out; omega))
        have HF9 := hide (HFA.out.and_ (Fr.grown (Fr.refl (fun k => w.heap.size ≤ k) _) HG9.out (fun k e => (HLT.out k e).1)) (fun k h1 h2 => absurd h2 (by omega)))
        have HFE := hide (fzSweep_any S B gn gu gt (vn : Int) A1 w9 (some ⟨g9, 0, none⟩) hs2.length cap9 hs2 HS9.out HO9.out.row HM2.out (by rw [HLE2.out]; omega) (fun e => by cases e))
        go_wp2_with fail
        refine (HFE.out).mono ?_
        rintro e w10 ⟨⟨z, rfl⟩, hs10, hf10⟩
        have HS10 := hide hs10
        have HF10 := hide (HF9.out.trans hf10)
        have HO10 := hide (HO9.out.fr hf10 (fun k hk1 hk2 hk3 => by have := hSw.out k hk3; omega))
        clear hs10 hf10
        go_wp2
        go_roundw
        case rel => exact ⟨i + 1, by omega, by go_num, hide ⟨⟨sweepA A1 hs2, hs2, HS10.out, HOK5.out.sweep HS5.out.sp, HO10.out, Nat.le_trans (sweep_low3 A1 hs2) HLO.out⟩, HF10.out⟩⟩
        case measure => simp [intOf]; omega
    · obtain rfl : i = n := by omega
      go_wp2
      go_ret
      exact ⟨_, rfl, hF.out⟩
end Go.Proofs.Ytdlcldhnbhlikaa
namespace Go.Proofs.Ytdlcldhnbhlikaa
open Go.RowKit Go.Maps

theorem spZ_empty (things : Int) : SpZ (emptyA 4000) things := by
  refine ⟨wf_empty 4000, ?_, ?_, List.length_replicate ..⟩
  · intro k n e
    rw [got_empty] at e
    cases e
  · intro k n e
    rw [got_empty] at e
    cases e
/-- What family.New answers. -/
structure FsNew (w : World) (vn : Nat) (S B gn gu gt : Nat) (w' : World) : Prop where
  sp : FsM w' S B gn gu gt (vn : Int) (emptyA 4000)
  own : ∀ k, arB B gn gu gt k ∨ k = S → w.heap.size ≤ k
  bel : Below w.heap.size w w'
def FsNewP (w : World) (vn : Nat) (e : Ending) (w' : World) : Prop := ∃ S B gn gu gt, e = .returned (.tuple #[.pointer (some ⟨S, 0, none⟩), .nilIface]) ∧ FsNew w vn S B gn gu gt w'
theorem fs_new {w w1 : World} {vn B gn gu gt : Nat} (h6 : vn ≤ 6) (ha : ArM w1 B gn gu gt (emptyA 4000)) (hlow : ∀ k, arB B gn gu gt k → w.heap.size ≤ k) (hb : Below w.heap.size w w1) :
    FsNew w vn w1.heap.size B gn gu gt (w1.alloc (.cells #[.pointer (some ⟨B, 0, none⟩), .int .i64 (vn : Int)] 51)) := by
  have h1 : Below w1.heap.size w1 (w1.alloc (.cells #[.pointer (some ⟨B, 0, none⟩), .int .i64 (vn : Int)] 51)) := (Below.refl w1.heap.size w1).alloc (Nat.le_refl _) _
  refine ⟨⟨Blk.new w1 51 _, ha.below h1 (fun k hk => ha.lt hk), spZ_empty _, by omega⟩, fun k hk => ?_, hb.trans (h1.mono hb.size)⟩
  rcases hk with hk | hk
  · exact hlow k hk
  · rw [hk]; exact hb.size
set_option maxRecDepth 100000 in
set_option maxHeartbeats 4000000 in
theorem fzNew_any (vn : Nat) (h6 : vn ≤ 6) (w : World) : Calls Try.prog 10 #[.int .i64 (vn : Int), .int .i64 4000] w (FsNewP w vn) := by
  have HNW := hide (arNew_any 4000 w (by unfold I64; omega))
  have h1b : decide ((vn : Int) < 0) = false := decide_eq_false (by omega)
  have h2b : decide ((24 : Int) < (vn : Int)) = false := decide_eq_false (by omega)
  go_enter Try.func10, Try.ntmps10
  go_wp2_with fail
  refine (HNW.out).mono ?_
  rintro e w1 (⟨hno, rfl, hb1⟩ | ⟨hyes, B, gn, gu, gt, rfl, har, hlow, hb1⟩)
  · omega
  · have HR := hide (fs_new (vn := vn) h6 har hlow hb1)
    clear har hlow hb1 HNW
    go_wp2
    go_ret2
    exact ⟨_, _, _, _, _, rfl, HR.out⟩
end Go.Proofs.Ytdlcldhnbhlikaa
