/-
  image.Load.
-/
import Derived.Test.YtdlcldhnbhlikaaGreatDoorLdNum
import Derived.Test.YtdlcldhnbhlikaaGreatDoorImgW
import Derived.Test.YtdlcldhnbhlikaaGreatDoorBddNewE
import Derived.Deep.RegionHeld3
namespace Go.Proofs.YtdlcldhnbhlikaaGreatDoor
open Go.RowKit Go.Maps

/-- bytes.Equal, each argument with its text. -/
theorem eqBytes_any (v1 v2 : Value) (t1 t2 : ByteArray) (w : World) (h1 : (convert 28 9 v1).run Tryz.prog w = .ok (.string t1) w) (h2 : (convert 28 9 v2).run Tryz.prog w = .ok (.string t2) w) :
    Calls Tryz.prog 68 #[v1, v2] w fun e w' => e = .returned (.bool (t1.toList == t2.toList)) ∧ w = w' := by
  go_enter Tryz.func68, Tryz.ntmps68
  go_wp2
  go_ret
  exact ⟨rfl, rfl⟩
/-- What Load answers, of few bytes. -/
def LdP (w : World) (data : List UInt8) (room : Int) (e : Ending) (w' : World) : Prop :=
  (∃ c, e = .returned (.tuple #[.pointer none, .int .i64 0, errV c]) ∧ (c = 3 ∨ (c = 12 ∧ room < 300) ∨ (c = 2 ∧ ¬ (0 ≤ room ∧ room ≤ 4000))) ∧ Below w.heap.size w w') ∨
  (0 ≤ room ∧ room ≤ 4000 ∧ ∃ S B gn gu gt gc vars A h, e = .returned (.tuple #[.pointer (some ⟨S, 0, none⟩), .int .i64 h, .nilIface]) ∧ SpB w' S B gn gu gt gc vars A ∧ hasA A h = true ∧ I64 vars ∧ imgT A vars h = data ∧ (reachL A [h]).length = cntA A ∧ Below w.heap.size w w')
theorem LdP.form {w w' : World} {data : List UInt8} {room : Int} (hb : Below w.heap.size w w') : LdP w data room (.returned (.tuple #[.pointer none, .int .i64 0, .iface 37 (.int .i64 3)])) w' :=
  .inl ⟨3, by rw [errV_ne (by decide)], .inl rfl, hb⟩
/-- Where the walk through the lines stands. -/
structure LoI (wN : World) (S B gn gu gt gc : Nat) (vars : Int) (R i : Nat) (s : ByteArray) (hv : Value) (wr : World) : Prop where
  is : ∃ A hs, SpB wr S B gn gu gt gc vars A ∧ OwnI wr wN.heap.size hv hs ∧ (∀ x ∈ hs, hasA A x = true) ∧ hs.length = i + 2 ∧ cntA A ≤ i ∧ A.length = R
  fr : Fr (arB B gn gu gt) wN wr
  low : ∀ j, j < i → 5 ≤ ((pcL 10 s).getD (j + 1) []).length
  lt : S < wN.heap.size ∧ ∀ k, arB B gn gu gt k → k < wN.heap.size
theorem two_own (w : World) : OwnI (w.alloc (.cells #[.int .i64 0, .int .i64 1] 3)) w.heap.size (.slice (some ⟨w.heap.size, 0, none⟩) 2 2) [0, 1] :=
  ⟨rfl, .inr ⟨w.heap.size, 2, #[.int .i64 0, .int .i64 1], rfl, Nat.le_refl _, Blk.new w _ _, Nat.le_refl _, by simp [maxLen], rfl, rfl⟩⟩
theorem lo_start {wN : World} {S B gn gu gt gc R : Nat} {vars : Int} (s : ByteArray) (h : SpE wN S B gn gu gt gc vars R) :
    LoI wN S B gn gu gt gc vars R 0 s (.slice (some ⟨wN.heap.size, 0, none⟩) 2 2) (wN.alloc (.cells #[.int .i64 0, .int .i64 1] 3)) := by
  have hal := (Below.refl wN.heap.size wN).alloc (Nat.le_refl _) (.cells #[.int .i64 0, .int .i64 1] 3)
  refine ⟨⟨emptyA R, [0, 1], h.toB.below hal, two_own wN, fun x hx => ?_, rfl, by rw [cnt_empty]; exact Nat.le_refl _, List.length_replicate ..⟩, .of_below hal (Nat.le_refl _), fun j hj => absurd hj (Nat.not_lt_zero j), h.kS.lt, fun k hk => h.ar.lt hk⟩
  simp only [List.mem_cons, List.not_mem_nil, or_false] at hx
  rcases hx with rfl | rfl
  · exact has_ends.1
  · exact has_ends.2
theorem LoI.below {wN wr w' : World} {S B gn gu gt gc R i : Nat} {vars : Int} {s : ByteArray} {hv : Value} (h : LoI wN S B gn gu gt gc vars R i s hv wr) (hb : Below wr.heap.size wr w') : LoI wN S B gn gu gt gc vars R i s hv w' := by
  obtain ⟨A, hs, h1, h2, h3⟩ := h.is
  exact ⟨⟨A, hs, h1.below hb, h2.below hb, h3⟩, h.fr.trans (.of_below hb (Nat.le_refl _)), h.low, h.lt⟩
theorem Fr.then_below {S : Nat → Prop} {w w' w'' : World} {C : Nat} (h : Fr S w w') (hb : Below C w' w'') (hC : w.heap.size ≤ C) : Fr S w w'' :=
  ⟨hb.os.trans h.os, hb.tape.trans h.tape, hb.output.trans h.output, Nat.le_trans h.size hb.size, fun k hk hn => (hb.block k (Nat.lt_of_lt_of_le hk hC)).trans (h.block k hk hn)⟩
theorem SpB.far {w : World} {S B gn gu gt gc : Nat} {vars : Int} {A : Ar} (h : SpB w S B gn gu gt gc vars A) : ¬ arB B gn gu gt S := by
  obtain ⟨ns, us, tab, _, k2, k3, k4, k5⟩ := h.ar.is
  rintro (e | e | e | e)
  · exact h.kS.ne_ k2 (by decide) e
  · exact h.kS.ne_ k3 (by decide) e
  · exact h.kS.ne_ k4 (by decide) e
  · exact h.kS.ne_ k5 (by decide) e
/-- A line is done. -/
theorem LoI.next {wN wz w6 w9 : World} {S B gn gu gt gc R i : Nat} {vars : Int} {s : ByteArray} {A : Ar} {hs : List Int} {hv v9 : Value} {nd : Nd} {o : Obj} (h : LoI wN S B gn gu gt gc vars R i s hv wz) (hsp : SpB wz S B gn gu gt gc vars A) (hh : ∀ x ∈ hs, hasA A x = true) (hl : hs.length = i + 2) (hc : cntA A ≤ i) (hA : A.length = R)
    (hm : ArM w6 B gn gu gt (makeA A nd)) (hf : Fr (arB B gn gu gt) wz w6) (he : makeE A nd = 0) (hown : OwnI w6 wN.heap.size hv hs) (hg : (w6.alloc o).grownBy w9 hv.ownBlock) (ho : OwnI w9 wN.heap.size v9 (hs ++ [makeH A nd])) (hlow : 5 ≤ ((pcL 10 s).getD (i + 1) []).length) :
    LoI wN S B gn gu gt gc vars R (i + 1) s v9 w9 := by
  obtain ⟨m1, m2, m3, m4, m5⟩ := make_step hsp.wf he
  have hN : wN.heap.size ≤ w6.heap.size := Nat.le_trans h.fr.size hf.size
  have hb : Below wN.heap.size w6 w9 := ((Below.refl wN.heap.size w6).alloc hN o).grown hg (by simp; omega) (fun j hj => (World.ownsRow.lt hown j hj).1)
  refine ⟨⟨makeA A nd, _, ⟨(hsp.kS.fr hf hsp.far).below hb h.lt.1, hm.keep fun k hk => hb.block k (h.lt.2 k hk), m1⟩, ho, fun x hx => ?_, by rw [List.length_append, hl]; rfl, by omega, by rw [m5, hA]⟩, (h.fr.trans hf).then_below hb (Nat.le_refl _), fun j hj => ?_, h.lt⟩
  · rcases List.mem_append.1 hx with hx | hx
    · exact m3 x (hh x hx)
    · rw [List.mem_singleton.1 hx]; exact m2
  · rcases Nat.lt_or_ge j i with hj | hj
    · exact h.low j hj
    · rw [show j = i by omega]; exact hlow
set_option maxRecDepth 100000 in
set_option maxHeartbeats 8000000 in
theorem load_any (Ad : Option Addr) (n c : Nat) (s : ByteArray) (room : Int) (w : World) (hs : s.size = n) (hn : n ≤ 1000) (hc : ∀ w', Below w.heap.size w w' → (convert 28 9 (.slice Ad n c)).run Tryz.prog w' = .ok (.string s) w') (hr : I64 room) (hG : GlobV w) :
    Calls Tryz.prog 25 #[.slice Ad n c, .int .i64 room] w (LdP w s.data.toList room) := by
  have HC := Lib.hid hc
  have HG := hide hG
  have HS := Lib.hid hs
  have k0 := hc w (Below.refl _ _)
  have hnI : (n : Int) ≤ 20000 := by omega
  have hnd : decide ((20000 : Int) < (n : Int)) = false := decide_eq_false (by omega)
  have HSP := hide (splitL_any 10 s w hG (by omega))
  clear hc hG hs
  go_enter Tryz.func25, Tryz.ntmps25
  go_wp2_with fail
  refine (HSP.out).mono ?_
  rintro e w1 ⟨rfl, hk1, hb1⟩
  have HK1 := hide hk1
  have HB1 := hide hb1
  have hL1 := pcs_len 10 s
  obtain ⟨L1, HL1⟩ : ∃ L1, Hid ((pcs 10 s).length = L1) := ⟨_, Lib.hid rfl⟩
  have hL1p : 1 ≤ L1 := by rw [← HL1.out]; omega
  have c10 := (strs_blk hk1).at_ 0 (by rw [HL1.out]; omega)
  rw [Nat.zero_add] at c10
  rw [HL1.out]
  have hl0 : ((pcs 10 s).getD 0 ⟨#[]⟩).size ≤ 1000 := Nat.le_trans (pcP_size 10 s 0) (by rw [HS.out]; exact hn)
  clear hk1 hb1 hL1 HSP k0
  obtain ⟨l0, HL0⟩ : ∃ l0, Hid ((pcs 10 s).getD 0 ⟨#[]⟩ = l0) := ⟨_, Lib.hid rfl⟩
  rw [HL0.out] at c10 hl0
  have HSP2 := hide (splitL_any 32 l0 w1 (HG.out.below HB1.out) (by omega))
  have hL1I : (0 : Int) < (L1 : Int) := by omega
  go_wp2_with fail
  refine (HSP2.out).mono ?_
  rintro e w2 ⟨rfl, hk2, hb2⟩
  have HK2 := hide hk2
  have HB2 := hide (HB1.out.trans (hb2.mono HB1.out.size))
  have HB12 := hide hb2
  have hL2 := pcs_len 32 l0
  obtain ⟨w0, ws, hws⟩ : ∃ w0 ws, pcs 32 l0 = w0 :: ws := by
    cases e : pcs 32 l0 with
    | nil => rw [e] at hL2; simp at hL2
    | cons a l => exact ⟨a, l, rfl⟩
  have hst := strs_blk hk2
  rw [hws] at hst
  have c20 := hst.at_ 0 (by simp)
  rw [Nat.zero_add] at c20
  have HST := hide hst.tail
  have hws0 : ∀ x ∈ ws, x.size ≤ 100000 := fun x hx => Nat.le_trans (piece_le 32 l0 (by rw [hws]; exact List.mem_cons_of_mem _ hx)) (by omega)
  obtain ⟨m2, HM2⟩ : ∃ m2, Hid (ws.length = m2) := ⟨_, Lib.hid rfl⟩
  have hm2 : m2 ≤ 100000 := by
    have h1 := pcL_join 32 l0
    have h2 := pcL_len 32 l0
    have h3 : (pcL 32 l0) = w0.data.toList :: ws.map (·.data.toList) := by unfold pcL; rw [hws]; rfl
    rw [h3] at h1 h2
    have h4 := Lib.join_length w0.data.toList (ws.map (·.data.toList)) [32]
    rw [h1] at h4
    have h5 : l0.data.toList.length = l0.size := rfl
    simp at h4
    have := HM2.out
    omega
  have HNU := hide (numbers_any w1.heap.size 1 m2 m2 3 ws w2 HM2.out HST.out (HG.out.below HB2.out) (by omega) hws0 hm2)
  rw [hws, List.length_cons, HM2.out]
  have HWS := Lib.hid hws
  clear hk2 hb2 hL2 hst hws hws0 HSP2
  have hm2I : (1 : Int) ≤ (m2 : Int) + 1 := by omega
  have hg2 := HB2.out.size
  by_cases hm0 : m2 = 0
  · subst hm0
    have HNU0 := hide (numbers_any w1.heap.size 0 0 0 3 [] w2 rfl ⟨HST.out.lt, fun j hj => absurd hj (Nat.not_lt_zero j)⟩ (HG.out.below HB2.out) (by omega) (fun x hx => by cases hx) (by omega))
    go_wp2_with fail
    refine (HNU0.out).mono ?_
    rintro e w3 ⟨⟨zs, v, h1, h2, _⟩ | rfl, hb3⟩
    · cases zs with
      | nil => cases h2
      | cons a l => cases h1
    · have HE := hide (LdP.form (data := s.data.toList) (room := room) (HB2.out.trans (hb3.mono HB2.out.size)))
      clear hb3
      go_wp2
      go_ret3
      exact HE.out
  go_wp2_with fail
  refine (HNU.out).mono ?_
  rintro e w3 ⟨⟨zs, vh, hzs, hzl, hzb, rfl, ho⟩ | rfl, hb3⟩
  rotate_left
  · have HE := hide (LdP.form (data := s.data.toList) (room := room) (HB2.out.trans (hb3.mono HB2.out.size)))
    clear hb3
    go_wp2
    go_ret3
    exact HE.out
  obtain ⟨a, b, d3, rfl⟩ : ∃ a b d3, zs = [a, b, d3] := by
    match zs, hzl with
    | [a, b, d3], _ => exact ⟨a, b, d3, rfl⟩
  have ha := hzb a (by simp)
  have hb := hzb b (by simp)
  have hd := hzb d3 (by simp)
  obtain ⟨gh, caph, curh, rfl, hgh, hkh, hcaph, hch⟩ := ho.form (by simp)
  have HB3 := hide (HB2.out.trans (hb3.mono HB2.out.size))
  have hh0 := (hkh.cell 0).trans (hch 0 (by simp))
  have hh1 := (hkh.cell 1).trans (hch 1 (by simp))
  have hh2 := (hkh.cell 2).trans (hch 2 (by simp))
  simp only [List.getD_cons_zero, List.getD_cons_succ] at hh0 hh1 hh2
  have c20w : w3.cell? ⟨w1.heap.size, 0, none⟩ = some (.string w0) := (hb3.cell (p := ⟨w1.heap.size, 0, none⟩) HST.out.lt).trans c20
  have HKH := hide hkh
  have HZS := Lib.hid hzs
  have HE3 := hide (LdP.form (data := s.data.toList) (room := room) HB3.out)
  have HL1w := hide (HK1.out.below (HB12.out.trans (hb3.mono HB12.out.size)) HK1.out.lt)
  clear hkh hch hzs hzb ho hb3 HNU c20 HK1 HK2
  by_cases hw0 : w0.data.toList = [115, 112, 97, 99, 101]
  rotate_left
  · have hne : (w0.toList == [115, 112, 97, 99, 101]) = false := by
      rw [ByteArray.toList_eq]
      exact beq_eq_false_iff_ne.2 hw0
    have hnn : (!(w0.toList == [115, 112, 97, 99, 101])) = true := by rw [hne]; rfl
    clear hw0
    go_wp2
    go_ret3
    exact HE3.out
  have HW0 := Lib.hid hw0
  have hne : (w0.toList == [115, 112, 97, 99, 101]) = true := by
    rw [ByteArray.toList_eq]
    exact beq_iff_eq.2 hw0
  have hnn : (!(w0.toList == [115, 112, 97, 99, 101])) = false := by rw [hne]; rfl
  clear hw0
  by_cases ha24 : 24 < a
  · have hda : decide (24 < a) = true := decide_eq_true ha24
    go_wp2
    go_ret3
    exact HE3.out
  have hda : decide (24 < a) = false := decide_eq_false ha24
  by_cases hln : (L1 : Int) = wrap64 (b + 3)
  rotate_left
  · have hle : ((L1 : Int) != wrap64 (b + 3)) = true := by simpa using hln
    clear hln
    go_wp2
    go_ret3
    exact HE3.out
  have hle : ((L1 : Int) != wrap64 (b + 3)) = false := by simpa using hln
  have hbL : b + 3 = (L1 : Int) := by
    have h1 := hb.1
    have h2 := hb.2
    unfold I64 at h2
    unfold wrap64 at hln
    omega
  have HBL := Lib.hid hbL
  clear hln hbL
  have HNW := hide (bdNewE_any a room w3 hr)
  go_wp2_with fail
  refine (HNW.out).mono ?_
  rintro e wN (⟨hno, rfl, hbN⟩ | ⟨_, R, rfl, hR, S, B, gn, gu, gt, gc, rfl, hsp, hlow, hbN⟩)
  · have HE := hide (show LdP w s.data.toList room (.returned (.tuple #[.pointer none, .int .i64 0, errV 2])) wN from .inl ⟨2, rfl, .inr (.inr ⟨rfl, by omega⟩), HB3.out.trans (hbN.mono HB3.out.size)⟩)
    rw [errV_ne (by decide)] at HE ⊢
    clear hbN HNW
    go_wp2
    go_ret3
    exact HE.out
  obtain ⟨bn, rfl⟩ : ∃ bn : Nat, b = (bn : Int) := ⟨b.toNat, by omega⟩
  obtain rfl : L1 = bn + 3 := by have := HBL.out; omega
  have HSN := hide hsp
  have HBN := hide hbN
  have HLW := Lib.hid hlow
  have HST0 := hide (lo_start s hsp)
  have HARL := Lib.hid (show ∀ k, arB B gn gu gt k → k < wN.heap.size from fun k hk => hsp.ar.lt hk)
  have hb1w : w.heap.size < w3.heap.size := HL1w.out.lt
  have HFRB := Lib.hid (fun (wr : World) (hf : Fr (arB B gn gu gt) wN wr) => show Below w3.heap.size w3 wr from hbN.trans (hf.to_below hbN.size (fun k hk ha => by have := hlow k ha; omega)))
  have hb1I : (1 : Int) ≤ (bn : Int) + 1 := by omega
  have hb2I : (bn : Int) + 1 ≤ (bn : Int) + 3 := by omega
  clear hsp hbN hlow HNW c20w
  have hbn : bn ≤ 1000 := by
    have h1 := HL1.out
    have h2 := pcs_len 10 s
    have h3 := Lib.countB_le ⟨#[10]⟩ (by show 1 ≤ 1; omega) s.size s (Nat.le_refl _)
    have h4 := HS.out
    omega
  have hws2 : wrap64 ((bn : Int) + 3 - 2) = (bn : Int) + 1 := by unfold wrap64; omega
  have htn : ((bn : Int) + 1).toNat = bn + 1 := by omega
  go_wp2
  go_loopw [13, 82] (fun hv iv wr => ∃ i : Nat, i ≤ bn ∧ iv = .int .i64 i ∧ Hid (LoI wN S B gn gu gt gc a R i s hv wr)) (fun _ iv _ => bn - (intOf iv).toNat)
  case atStart => exact ⟨0, Nat.zero_le _, rfl, HST0⟩
  case round =>
    clear HST0 hws2 htn
    obtain ⟨i, hi, rfl, HI⟩ := hrel
    obtain ⟨wr0, rfl⟩ : ∃ wr0, wr0 = wr := ⟨_, rfl⟩
    have HBR := hide (HFRB.out wr0 HI.out.fr)
    have hb0 := HB3.out.size
    have HBW := hide (HB3.out.trans (HBR.out.mono hb0))
    by_cases hlt : i < bn
    · have hiI : (i : Int) < (bn : Int) := by omega
      have cl := (strs_blk (HL1w.out.below HBR.out HL1w.out.lt)).at_ (1 + i) (by rw [HL1.out]; omega)
      rw [Nat.zero_add] at cl
      have hls : ((pcs 10 s).getD (1 + i) ⟨#[]⟩).size ≤ 1000 := Nat.le_trans (pcP_size 10 s (1 + i)) (by rw [HS.out]; exact hn)
      obtain ⟨li, HLI⟩ : ∃ li, Hid ((pcs 10 s).getD (1 + i) ⟨#[]⟩ = li) := ⟨_, Lib.hid rfl⟩
      rw [HLI.out] at cl hls
      have HSP3 := hide (splitL_any 32 li wr0 (HG.out.below HBW.out) (by omega))
      go_wp2_with fail
      refine (HSP3.out).mono ?_
      rintro e w4 ⟨rfl, hk4, hb4⟩
      have HI4 := hide (HI.out.below hb4)
      have HBW4 := hide (HBW.out.trans (hb4.mono HBW.out.size))
      have hst4 := strs_blk hk4
      have hpl := pcs_len 32 li
      have hpc := Lib.countB_le ⟨#[32]⟩ (by show 1 ≤ 1; omega) li.size li (Nat.le_refl _)
      obtain ⟨L3, HL3⟩ : ∃ L3, Hid ((pcs 32 li).length = L3) := ⟨_, Lib.hid rfl⟩
      rw [HL3.out] at hpl
      have HNU4 := hide (numbers_any wr0.heap.size 0 L3 L3 3 (pcs 32 li) w4 HL3.out hst4 (HG.out.below HBW4.out) (by omega) (fun x hx => Nat.le_trans (piece_le 32 li hx) (by omega)) (by omega))
      rw [HL3.out]
      clear hk4 hb4 hst4 HSP3 cl hpl hpc
      go_wp2_with fail
      refine (HNU4.out).mono ?_
      rintro e w5 ⟨⟨zs, vz, hzs, hzl, hzb, rfl, ho⟩ | rfl, hb5⟩
      rotate_left
      · have HEQ := hide (fun m : Nat => LdP.form (data := s.data.toList) (room := (R : Int)) (below_drewN (HBW4.out.trans (hb5.mono HBW4.out.size)) m))
        clear hb5 HNU4
        go_wp2
        go_quiet (fail)
        go_wp2
        go_ret3
        exact HEQ.out nq
      obtain ⟨z0, z1, z2, rfl⟩ : ∃ z0 z1 z2, zs = [z0, z1, z2] := by
        match zs, hzl with
        | [z0, z1, z2], _ => exact ⟨z0, z1, z2, rfl⟩
      have hb_0 := hzb z0 (by simp)
      have hb_1 := hzb z1 (by simp)
      have hb_2 := hzb z2 (by simp)
      obtain ⟨n0, rfl⟩ : ∃ n0 : Nat, z0 = (n0 : Int) := ⟨z0.toNat, by omega⟩
      obtain ⟨n1, rfl⟩ : ∃ n1 : Nat, z1 = (n1 : Int) := ⟨z1.toNat, by omega⟩
      obtain ⟨n2, rfl⟩ : ∃ n2 : Nat, z2 = (n2 : Int) := ⟨z2.toNat, by omega⟩
      obtain ⟨gz, capz, curz, rfl, hgz, hkz, _, hcz⟩ := ho.form (by simp)
      have HLOW := Lib.hid (show 5 ≤ ((pcL 10 s).getD (i + 1) []).length by
        rw [pcL_at 10 s (by rw [HL1.out]; omega)]
        unfold pcP
        rw [show i + 1 = 1 + i by omega, HLI.out, words_all (s := li) (zs := [(n0 : Int), n1, n2]) hzs]
        exact text3_pos _ _ _)
      have HGZ := Lib.hid (show wN.heap.size ≤ gz from Nat.le_trans HI4.out.fr.size hgz)
      have HI5 := hide (HI4.out.below hb5)
      have HBW5 := hide (HBW4.out.trans (hb5.mono HBW4.out.size))
      have HKZ := hide hkz
      have HCZ := Lib.hid hcz
      have HE5 := hide HBW5.out
      clear hkz hcz ho hb5 hzs hzb HNU4 HI HI4 HBW HBW4
      obtain ⟨A, hs, hsp, hown, hhas, hhl, hcnt, hAl⟩ := HI5.out.is
      obtain ⟨gH, capH, curH, rfl, hgH, hkH, _, hcH⟩ := hown.form (by omega)
      have HBR5 := hide (HFRB.out w5 HI5.out.fr)
      have HKP := Lib.hid (fun (w' : World) (hf : Fr (arB B gn gu gt) w5 w') => show w'.cell? ⟨gz, 0, none⟩ = some (.int .i64 (n0 : Int)) ∧ w'.cell? ⟨gz, 1, none⟩ = some (.int .i64 (n1 : Int)) ∧ w'.cell? ⟨gz, 2, none⟩ = some (.int .i64 (n2 : Int)) ∧ w'.cell? ⟨gh, 0, none⟩ = some (.int .i64 a) ∧ w'.cell? ⟨S, 0, none⟩ = some (.pointer (some ⟨B, 0, none⟩)) ∧ (∀ k, k < hs.length → w'.cell? ⟨gH, k, none⟩ = some (.int .i64 (hs.getD k 0))) from by
        have hgzN : ¬ arB B gn gu gt gz := fun hk => by have := HI5.out.lt.2 gz hk; have := HGZ.out; omega
        have hgHN : ¬ arB B gn gu gt gH := fun hk => by have := HI5.out.lt.2 gH hk; omega
        have hghN : ¬ arB B gn gu gt gh := fun hk => by have := HLW.out gh hk; have := HKH.out.lt; omega
        have kz := HKZ.out.fr hf hgzN
        have kH := hkH.fr hf hgHN
        have kh := (HKH.out.below HBR5.out HKH.out.lt).fr hf hghN
        have kS := hsp.kS.fr hf hsp.far
        exact ⟨(kz.cell 0).trans (HCZ.out 0 (by simp)), (kz.cell 1).trans (HCZ.out 1 (by simp)), (kz.cell 2).trans (HCZ.out 2 (by simp)), (kh.cell 0).trans ((HKH.out.cell 0).symm.trans hh0), kS.cell 0, fun k hk => (kH.cell k).trans (hcH k hk)⟩)
      have HSP5 := hide hsp
      have HOW5 := hide hown
      have HHAS := Lib.hid hhas
      have HHL := Lib.hid hhl
      have HCNT := Lib.hid hcnt
      have HAL := Lib.hid hAl
      obtain ⟨hl, HLN⟩ : ∃ hl, Hid (hs.length = hl) := ⟨_, Lib.hid rfl⟩
      rw [HLN.out] at HI5 HOW5 HKP ⊢
      have HL2 := Lib.hid (show hl = i + 2 by rw [← HLN.out]; exact hhl)
      clear hsp hown hhas hhl hcnt hAl hkH hcH hgH hgz
      obtain ⟨x0, x1, x2, xh, xS, xH⟩ := HKP.out w5 (Fr.refl _ _)
      clear xH xS
      have HEQ := hide (fun m : Nat => LdP.form (data := s.data.toList) (room := (R : Int)) (below_drewN HBW5.out m))
      by_cases d0 : a ≤ (n0 : Int)
      · have e0 : decide (a ≤ (n0 : Int)) = true := decide_eq_true d0
        go_wp2
        go_quiet (fail)
        go_wp2
        go_ret3
        exact HEQ.out nq
      have e0 : decide (a ≤ (n0 : Int)) = false := decide_eq_false d0
      by_cases d1 : (hl : Int) ≤ (n1 : Int)
      · have e1 : decide ((hl : Int) ≤ (n1 : Int)) = true := decide_eq_true d1
        have f1 : decide (hl ≤ n1) = true := decide_eq_true (by omega)
        go_wp2
        go_quiet (fail)
        go_wp2
        go_ret3
        exact HEQ.out nq
      have e1 : decide ((hl : Int) ≤ (n1 : Int)) = false := decide_eq_false d1
      have f1 : decide (hl ≤ n1) = false := decide_eq_false (by omega)
      by_cases d2 : (hl : Int) ≤ (n2 : Int)
      · have e2 : decide ((hl : Int) ≤ (n2 : Int)) = true := decide_eq_true d2
        have f2 : decide (hl ≤ n2) = true := decide_eq_true (by omega)
        go_wp2
        go_quiet (fail)
        go_wp2
        go_ret3
        exact HEQ.out nq
      have e2 : decide ((hl : Int) ≤ (n2 : Int)) = false := decide_eq_false d2
      have f2 : decide (hl ≤ n2) = false := decide_eq_false (by omega)
      by_cases d3 : (n1 : Int) = (n2 : Int)
      · have e3 : ((n1 : Int) == (n2 : Int)) = true := beq_iff_eq.2 d3
        have f3 : (n1 == n2) = true := beq_iff_eq.2 (by omega)
        clear d3
        go_wp2
        go_quiet (fail)
        go_wp2
        go_ret3
        exact HEQ.out nq
      have e3 : ((n1 : Int) == (n2 : Int)) = false := beq_eq_false_iff_ne.2 d3
      have f3 : (n1 == n2) = false := beq_eq_false_iff_ne.2 (by omega)
      clear d3
      go_wp2
      go_quiet (fail)
      clear HEQ x0 x1 x2 xh e0 e1 e2 e3 f1 f2 f3
      go_wp2_with fail
      have hfz : Fr (arB B gn gu gt) w5 (w5.drewN nq) := .of_below (below_drewN (Below.refl _ _) nq) (Nat.le_refl _)
      have HIz := hide (HI5.out.below (below_drewN (Below.refl _ _) nq))
      have HSz := hide (HSP5.out.below (below_drewN (Below.refl _ _) nq))
      have HOz := hide (HOW5.out.below (below_drewN (Below.refl _ _) nq))
      have HBz := hide (below_drewN HBW5.out nq)
      have HKPz := Lib.hid (fun (w' : World) (hf : Fr (arB B gn gu gt) (w5.drewN nq) w') => HKP.out w' (hfz.trans hf))
      clear hfz HKP HI5 HSP5 HOW5 HBW5 HE5 HKZ HBR5 HCZ
      generalize w5.drewN nq = wz at HIz HSz HOz HBz HKPz ⊢
      have hm1 : hs.getD n1 0 ∈ hs := by rw [List.getD_eq_getElem?_getD, List.getElem?_eq_getElem (by have := HLN.out; omega)]; exact List.getElem_mem _
      have hm2' : hs.getD n2 0 ∈ hs := by rw [List.getD_eq_getElem?_getD, List.getElem?_eq_getElem (by have := HLN.out; omega)]; exact List.getElem_mem _
      have HK2 := Lib.hid (fun (w' : World) (hf : Fr (arB B gn gu gt) wz w') => show w'.cell? ⟨gz, 0, none⟩ = some (.int .i64 (n0 : Int)) ∧ w'.cell? ⟨gz, 1, none⟩ = some (.int .i64 (n1 : Int)) ∧ w'.cell? ⟨gz, 2, none⟩ = some (.int .i64 (n2 : Int)) ∧ w'.cell? ⟨S, 0, none⟩ = some (.pointer (some ⟨B, 0, none⟩)) ∧ w'.cell? ⟨gH, n1, none⟩ = some (.int .i64 (hs.getD n1 0)) ∧ w'.cell? ⟨gH, n2, none⟩ = some (.int .i64 (hs.getD n2 0)) from by
        obtain ⟨x0, x1, x2, _, xS, xH⟩ := HKPz.out w' hf
        exact ⟨x0, x1, x2, xS, xH n1 (by omega), xH n2 (by omega)⟩)
      have hy1 := HHAS.out _ hm1
      have hy2 := HHAS.out _ hm2'
      have hI1 := HSz.out.i64_ hy1
      have hI2 := HSz.out.i64_ hy2
      clear hm1 hm2' hy1 hy2
      generalize hs.getD n1 0 = y1 at HK2 hI1
      generalize hs.getD n2 0 = y2 at HK2 hI2
      have HMK := hide (fun (w' : World) (hb : Below wz.heap.size wz w') => arMake_any B gn gu gt A ⟨(n0 : Int), y1, y2⟩ w' (HSz.out.ar.below hb (fun k hk => HSz.out.ar.lt hk)) ⟨hb_0.2, hI1, hI2⟩)
      unfold MakePost at HMK
      dsimp only at HMK
      obtain ⟨nd, HND⟩ : ∃ nd, Hid ((⟨(n0 : Int), y1, y2⟩ : Nd) = nd) := ⟨_, Lib.hid rfl⟩
      rw [HND.out] at HMK
      obtain ⟨ev, HEV⟩ : ∃ ev, Hid (errV (makeE A nd) = ev) := ⟨_, Lib.hid rfl⟩
      obtain ⟨mh, HMH⟩ : ∃ mh, Hid (makeH A nd = mh) := ⟨_, Lib.hid rfl⟩
      rw [HEV.out, HMH.out] at HMK
      obtain ⟨x0, x1, x2, xS, xy1, xy2⟩ := HK2.out wz (Fr.refl _ _)
      have d1n : (n1 : Int) < (hl : Int) := by omega
      have d2n : (n2 : Int) < (hl : Int) := by omega
      go_region_held3 (fun w' => w'.cell? ⟨gz, 0, none⟩ = some (.int .i64 (n0 : Int)) ∧ w'.cell? ⟨gz, 1, none⟩ = some (.int .i64 (n1 : Int)) ∧ w'.cell? ⟨gz, 2, none⟩ = some (.int .i64 (n2 : Int)) ∧ w'.cell? ⟨S, 0, none⟩ = some (.pointer (some ⟨B, 0, none⟩)) ∧ w'.cell? ⟨gH, n1, none⟩ = some (.int .i64 y1) ∧ w'.cell? ⟨gH, n2, none⟩ = some (.int .i64 y2))
        ((refine HK2.out _ ?_; (first | exact hfq | (refine Fr.of_below ?_ (Nat.le_refl _); (repeat (first | exact Below.refl _ _ | exact (Below.refl _ _).drew | refine imDr ?_)))); done))
        (first
          | (go_at_call 67; refine (HMK.out _ ?_).mono ?_; (focus ((repeat (first | exact Below.refl _ _ | exact (Below.refl _ _).drew | refine imDr ?_)); done)); rintro e w6 ⟨rfl, hm6, hf6⟩; (refine (fun (hfq : Fr (arB B gn gu gt) wz w6) => ?_) ?_; rotate_left; (focus (refine Fr.trans (Fr.of_below ?_ (Nat.le_refl _)) hf6; ((repeat (first | exact Below.refl _ _ | exact (Below.refl _ _).drew | refine imDr ?_)); done)))); clear hf6))
      have HM6 := hide hm6
      have HF6 := hide hfq
      have HB6 := hide (HBz.out.trans (hfq.to_below HBz.out.size (fun k hk ha => by have := HLW.out k ha; omega)))
      have HO6 := hide (HOz.out.fr hfq (fun k hk _ ha => by have := HIz.out.lt.2 k ha; omega))
      clear hm6 hfq x0 x1 x2 xS xy1 xy2 d1n d2n HMK HK2 HKPz
      by_cases hz : makeE A nd = 0
      · have hev := HEV.out
        rw [hz, errV_zero] at hev
        subst hev
        have HTL := hide (tell_nil w6)
        unfold TellPost at HTL
        have HZ := Lib.hid hz
        clear hz HEV
        go_wp2_with fail
        refine (HTL.out).mono ?_
        rintro e w7 ⟨rfl, hb7⟩
        have HM7 := hide (HM6.out.below hb7 (fun k hk => HM6.out.lt hk))
        have HF7 := hide (HF6.out.trans (.of_below hb7 (Nat.le_refl _)))
        have HO7 := hide (HO6.out.below hb7)
        have HOA := hide (fun o : Obj => HO7.out.below ((Below.refl w7.heap.size w7).alloc (Nat.le_refl _) o))
        have HSA := Lib.hid (fun o : Obj => show wN.heap.size ≤ (w7.alloc o).heap.size by have := Nat.le_trans HIz.out.fr.size HF7.out.size; simp; omega)
        have HRD := hide (show Reads (w7.alloc (.cells #[.int .i64 mh] 3)) (w7.heap.size + 1) 1 (some ⟨w7.heap.size, 0, none⟩) 1 (intsV [mh]) from blk_reads (zs := [mh]) (Blk.new w7 3 #[.int .i64 mh]))
        have hsl : hs.length + 1 ≤ 100000000 := by have := HHL.out; omega
        clear hb7 HTL HM6 HF6 HO6
        go_wp2_with (first
          | (at_builtin; refine appI _ rfl _ _ _ rfl wN.heap.size Tryz.underlying24 _ hs rfl (HOA.out _) _ _ _ _ [mh] rfl HRD.out rfl hsl (HSA.out _) ?_; intro v9 w9 ho9 hg9 _; have HN := hide (LoI.next HIz.out HSz.out HHAS.out HHL.out HCNT.out HAL.out HM7.out HF7.out HZ.out HO7.out hg9 (by rw [HMH.out]; exact ho9) HLOW.out); clear ho9 hg9)
          | fail)
        go_roundw
        case rel =>
          (repeat apply Exists.intro)
          exact ⟨⟨i + 1, by omega, by go_num, HN⟩, rfl⟩
        case measure => simp [intOf]; omega
      · have hev := HEV.out
        rw [errV_ne hz] at hev
        subst hev
        obtain ⟨cc, HCC⟩ : ∃ cc, Hid (makeE A nd = cc) := ⟨_, Lib.hid rfl⟩
        have HTL := hide (tell_errno (makeE A nd) w6 (HG.out.below HB6.out).e)
        unfold TellPost at HTL
        rw [HCC.out] at HTL ⊢
        by_cases h12 : cc = 12
        · subst h12
          have hfull : cntA A = A.length := by
            rcases make_codes A nd with e | e | e | e | ⟨_, e⟩
            · rw [HCC.out] at e; cases e
            · rw [HCC.out] at e; cases e
            · rw [HCC.out] at e; cases e
            · rw [HCC.out] at e; cases e
            · exact e
          have hroom : (R : Int) < 300 := by
            have h1 := lines_few 10 s (i + 1) (by rw [HL1.out]; omega) (fun j hj => by
              rcases Nat.lt_or_ge j i with hj2 | hj2
              · exact HIz.out.low j hj2
              · rw [show j = i by omega]; exact HLOW.out)
            have h2 := HS.out
            have h3 := HCNT.out
            have h4 := HAL.out
            omega
          have HE := hide (fun (w' : World) (hb : Below w6.heap.size w6 w') => show LdP w s.data.toList (R : Int) (.returned (.tuple #[.pointer none, .int .i64 0, .iface 37 (.int .i64 12)])) w' from .inl ⟨12, by rw [errV_ne (by decide)], .inr (.inl ⟨rfl, hroom⟩), HB6.out.trans (hb.mono HB6.out.size)⟩)
          clear hfull hroom hz
          go_wp2_with fail
          refine (HTL.out).mono ?_
          rintro e w7 ⟨rfl, hb7⟩
          have HE7 := hide (HE.out w7 hb7)
          clear hb7 HTL HE
          go_wp2
          go_ret3
          exact HE7.out
        · have h12b : (cc == 12) = false := beq_eq_false_iff_ne.2 h12
          clear hz h12
          go_wp2_with fail
          refine (HTL.out).mono ?_
          rintro e w7 ⟨rfl, hb7⟩
          have HE7 := hide (LdP.form (data := s.data.toList) (room := (R : Int)) (HB6.out.trans (hb7.mono HB6.out.size)))
          clear hb7 HTL
          go_wp2
          go_ret3
          exact HE7.out
    · obtain rfl : i = bn := by omega
      obtain ⟨A, hs, hsp, hown, hhas, hhl, hcnt, hAl⟩ := HI.out.is
      obtain ⟨gH, capH, curH, rfl, hgH, hkH, _, hcH⟩ := hown.form (by omega)
      obtain ⟨nd3, rfl⟩ : ∃ nd3 : Nat, d3 = (nd3 : Int) := ⟨d3.toNat, by omega⟩
      have kh := HKH.out.below HBR.out HKH.out.lt
      have c2 := (kh.cell 2).trans ((HKH.out.cell 2).symm.trans hh2)
      have HSB := hide hsp
      have HHAS := Lib.hid hhas
      have HCNT := Lib.hid hcnt
      obtain ⟨hl, HLN⟩ : ∃ hl, Hid (hs.length = hl) := ⟨_, Lib.hid rfl⟩
      have HE := hide (LdP.form (data := s.data.toList) (room := (R : Int)) HBW.out)
      have hcell := fun k hk => (hkH.cell k).trans (hcH k hk)
      rw [HLN.out] at hcell ⊢
      clear kh hsp hown hhas hcnt hkH hcH HI hhl
      by_cases dq : (hl : Int) ≤ (nd3 : Int)
      · have e1 : decide ((hl : Int) ≤ (nd3 : Int)) = true := decide_eq_true dq
        have f1 : decide (hl ≤ nd3) = true := decide_eq_true (by omega)
        clear hcell
        go_wp2
        go_ret3
        exact HE.out
      have e1 : decide ((hl : Int) ≤ (nd3 : Int)) = false := decide_eq_false dq
      have f1 : decide (hl ≤ nd3) = false := decide_eq_false (by omega)
      have dqn : (nd3 : Int) < (hl : Int) := by omega
      have cx := hcell nd3 (by omega)
      have hm : hs.getD nd3 0 ∈ hs := by rw [List.getD_eq_getElem?_getD, List.getElem?_eq_getElem (by have := HLN.out; omega)]; exact List.getElem_mem _
      have hx := HHAS.out _ hm
      clear hcell hm dq
      generalize hs.getD nd3 0 = x at cx hx
      have HX := Lib.hid hx
      have HSV := hide (save_any x wr0 HSB.out ha.2 hx (HG.out.below HBW.out).t)
      clear hx
      go_wp2_with fail
      refine (HSV.out).mono ?_
      rintro e w4 ⟨v4, rfl, ho4, hb4⟩
      obtain ⟨g4, c4, e4, _⟩ := ho4.reads
      subst e4
      have HB4 := hide (HBW.out.trans (hb4.mono HBW.out.size))
      have hw4 : w.heap.size ≤ wr0.heap.size := HBW.out.size
      have k4 := ho4.text (P := Tryz.prog) 28 9 Tryz.underlying28 Tryz.underlying5 Tryz.underlying9
      have HEB := hide (eqBytes_any _ _ _ _ w4 k4 (HC.out w4 HB4.out))
      have HE4 := hide (LdP.form (data := s.data.toList) (room := (R : Int)) HB4.out)
      have HSP4 := hide (HSB.out.below hb4)
      obtain ⟨iz, HIZ⟩ : ∃ iz, Hid (imgT A a x = iz) := ⟨_, Lib.hid rfl⟩
      rw [HIZ.out] at HEB ⊢
      clear ho4 hb4 k4 HSV
      go_wp2_with fail
      refine (HEB.out).mono ?_
      rintro e w5 ⟨rfl, rfl⟩
      by_cases he : iz = s.data.toList
      rotate_left
      · have hq := strs_ne he
        have hqn : (!((⟨iz.toArray⟩ : ByteArray).toList == s.toList)) = true := by rw [hq]; rfl
        generalize (⟨iz.toArray⟩ : ByteArray).toList = izl at hq hqn ⊢
        clear he
        go_wp2
        go_ret3
        exact HE4.out
      have hbk := strs_back _ _ he
      rw [hbk]
      have hss : (s.toList == s.toList) = true := by simp
      have hsn : (!(s.toList == s.toList)) = false := by simp
      have hline : ∃ r, imgT A a x = ([115, 112, 97, 99, 101] ++ 32 :: textF [a, (i : Int), (nd3 : Int)]) ++ 10 :: r := by
        obtain ⟨p, t, r, h1, h2, h3⟩ := pcL_head 10 s (by rw [HL1.out]; omega)
        have h4 := pcL_at 10 s (j := 0) (by rw [HL1.out]; omega)
        rw [h1] at h4
        simp only [List.getD_cons_zero] at h4
        unfold pcP at h4
        rw [HL0.out] at h4
        have h5 := words_line (s := l0) (w0 := w0.data.toList) (zs := [a, (i : Int), (nd3 : Int)]) (by unfold pcL; rw [HWS.out, List.map_cons, HZS.out]) (by simp)
        rw [HW0.out] at h5
        exact ⟨r, by rw [HIZ.out, he, h3, h4, h5]⟩
      obtain ⟨r, hr2⟩ := hline
      have hN := head_read hr2
      have hcnt := img_cnt HSB.out.wf HX.out
      have hrc := img_count HSB.out.wf HX.out
      have HEND := hide (show LdP w s.data.toList (R : Int) (.returned (.tuple #[.pointer (some ⟨S, 0, none⟩), .int .i64 x, .nilIface])) w4 from
        .inr ⟨by omega, by omega, S, B, gn, gu, gt, gc, a, A, x, rfl, HSP4.out, HX.out, ha.2, by rw [HIZ.out, he], by have := HCNT.out; omega, HB4.out⟩)
      clear hr2 hN hcnt hrc hbk he
      go_wp2
      go_ret3
      exact HEND.out
end Go.Proofs.YtdlcldhnbhlikaaGreatDoor
