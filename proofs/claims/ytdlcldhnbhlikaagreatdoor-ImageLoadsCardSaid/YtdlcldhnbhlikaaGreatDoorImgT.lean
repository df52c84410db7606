/-
  image.Save's closure: the walk of a node that is written. image.Save's closure: all handles.
-/
import Derived.Test.YtdlcldhnbhlikaaGreatDoorImgA
namespace Go.Proofs.YtdlcldhnbhlikaaGreatDoor
open Go.RowKit Go.Maps

section
variable {K : ImB} {S B gn gu gt gc base : Nat} {vars : Int} {A : Ar} {ks : List Int} {w w' w'' : World} {x : Int} {d : Nd}
/-- What the closure asks for, of handles that lie deeper. -/
def SvC (K : ImB) (S B gn gu gt gc : Nat) (vars : Int) (A : Ar) (base n : Nat) : Prop := ∀ (y : Int) (ks : List Int) (w : World), dep A y < n → hasA A y = true → ImI K S B gn gu gt gc vars A base ks w → GlobT w →
  Calls Tryz.prog 34 #[.int .i64 y, .pointer (some ⟨K.n, 0, none⟩), .pointer (some ⟨K.s, 0, none⟩), .pointer (some ⟨K.f, 0, none⟩), .pointer (some ⟨K.b, 0, none⟩)] w (SvP K S B gn gu gt gc vars A base ks y w)
theorem MapX.isM {g m : Nat} {f : Int → Option Int} (h : MapX w g f m) : ∃ es c, w.heap[g]? = some (.map es c) := by
  obtain ⟨D, ⟨es, clock, hb, _⟩, _⟩ := h
  exact ⟨es, clock, hb⟩
theorem buf_grown {T e : TypeId} {b gd : Nat} {bs : List Value} (h : Lib.IsBuffer T e base b bs w) (hg : w.grownBy w' (some gd)) (hb : b ≠ gd) (hm : ∃ es c, w.heap[gd]? = some (.map es c)) : Lib.IsBuffer T e base b bs w' := by
  have hl := h.lt
  obtain ⟨h1, v, lr, h2, h3, h4⟩ := h
  refine ⟨h1, v, lr, (hg.block _ hl (fun e => hb (by injection e))).trans h2, World.ownsRow.kept h3 hg ?_, h4⟩
  rcases h3.2 with ⟨rfl, _⟩ | ⟨g, cap, cur, rfl, _, hgc, _⟩
  · exact .inl rfl
  · right
    intro e
    simp [Value.ownBlock] at e
    obtain ⟨es, c, hm⟩ := hm
    rw [← e] at hm
    have h5 : w.heap[g]? = some (.cells cur _ (0, 0)) := hgc
    rw [hm] at h5
    cases h5
theorem KeptI.grown (hg : w.grownBy w' (some K.gd)) : KeptI K w w' := ⟨hg.size, fun k o h _ h2 _ => by
  have hl : k < w.heap.size := by
    rcases Nat.lt_or_ge k w.heap.size with h' | h'
    · exact h'
    · simp [Array.getElem?_eq_none h'] at h
  exact (hg.block k hl (fun e => h2 (by injection e))).trans h⟩
theorem SpB.i64_ (h : SpB w S B gn gu gt gc vars A) {y : Int} (hy : hasA A y = true) : I64 y := by
  have hr := h.ar.room
  cases e : gotA A y with
  | none => rcases has_none hy e with rfl | rfl <;> (unfold I64; omega)
  | some d =>
    obtain ⟨k, rfl, hk, _⟩ := gotA_is e
    unfold I64
    omega
theorem svDr {u w : World} (h : Below u.heap.size u w) : Below u.heap.size u w.drew := h.drew
theorem svThen {u X Y : World} (h : Below u.heap.size u X) (k : Below X.heap.size X Y) : Below u.heap.size u Y := h.trans (k.mono h.size)
theorem itoa_sz (n : Int) (h : I64 n) : (⟨(Lib.itoa n).toArray⟩ : ByteArray).size ≤ 21 := by
  have := Lib.itoa_length_le n h.1 h.2
  show (Lib.itoa n).toArray.size ≤ 21
  simpa using this
theorem body_len (A : Ar) (ks : List Int) (h : ∀ k ∈ ks, ∀ zs, lineI A ks k = zs → (textF zs ++ [10]).length ≤ 100) : (bodyL A ks).length ≤ 100 * ks.length := by
  unfold bodyL linesI
  have key : ∀ l : List Int, (∀ k ∈ l, (textF (lineI A ks k) ++ [10]).length ≤ 100) → ((l.map (lineI A ks)).flatMap fun zs => textF zs ++ [10]).length ≤ 100 * l.length := by
    intro l
    induction l with
    | nil => intro _; simp
    | cons a l ih =>
      intro hl
      have h1 := hl a (List.mem_cons_self ..)
      have h2 := ih fun k hk => hl k (List.mem_cons_of_mem _ hk)
      rw [List.map_cons, List.flatMap_cons, List.length_append, List.length_cons]
      omega
  exact key ks fun k hk => h k hk _ rfl
theorem num_le (ks : List Int) (y : Int) : numI ks y ≤ ks.length + 2 := by
  unfold numI
  split
  · omega
  · split
    · omega
    · have := List.idxOf_le_length (a := y) (l := ks); omega
theorem body_snoc (h : KsOk A ks) (e : gotA A x = some d) (hl : inI ks d.low) (hh : inI ks d.high) : bodyL A (ks ++ [x]) = bodyL A ks ++ (textF [d.var, (numI ks d.low : Int), (numI ks d.high : Int)] ++ [10]) := by
  unfold bodyL
  rw [lines_snoc h e hl hh, List.flatMap_append]
  simp
/-- Behind the line. -/
theorem sv_end {w3 w4 w9 : World} {k2 : List Int} {T : List UInt8} (h3 : ImI K S B gn gu gt gc vars A base k2 w3) (hbs : base ≤ w3.heap.size) (hg : w3.grownBy w4 (some K.gd)) (hm : MapX w4 K.gd (fun y => if y = x then some ((k2.length + 2 : Nat) : Int) else numO k2 y) (k2.length + 2 + 1)) (hb : Below w4.heap.size w4 w')
    (e : gotA A x = some d) (hn : x ∉ k2) (hl : inI k2 d.low) (hh : inI k2 d.high) (hT : T = textF [d.var, (numI k2 d.low : Int), (numI k2 d.high : Int)] ++ [10])
    (hbuf : Lib.IsBuffer 97 5 base K.b (Lib.byteCells (bodyL A k2) ++ Lib.byteCells T) w9) (h9 : Below base w' w9) (ho : Lib.OthersKept 5 (some K.b) w' w9) :
    ImI K S B gn gu gt gc vars A base (k2 ++ [x]) w9 ∧ Below base w3 w9 ∧ KeptI K w3 w9 := by
  have hK : KeptI K w3 w9 := ((KeptI.grown hg).trans (.below hb)).trans ⟨h9.size, fun k o h1 h2 _ h4 => ho k o h1 (fun e => h2 (by injection e)) h4⟩
  obtain ⟨r1, r2, r3, r4⟩ := h3.rest hK
  have hmw := hm.below hb hm.lt
  have hgb : K.gd ≠ K.b := fun e => by
    obtain ⟨es, c, h5⟩ := h3.map.isM
    obtain ⟨_, v, lr, h6, _⟩ := h3.buf
    rw [← e, h5] at h6
    cases h6
  have hgd : w9.heap[K.gd]? = w'.heap[K.gd]? := by
    obtain ⟨es, c, h5⟩ := hmw.isM
    rw [h5]
    exact ho K.gd _ h5 (fun e => hgb (by injection e)) fun c' fz e => by cases e
  have hm9 := (hmw.same hgd).congr (numO_snoc (node_two e) hn)
  have hbel : Below base w3 w9 := (((Below.refl base w3).grown hg hbs (fun j hj => by cases hj; exact h3.ge)).trans (hb.mono (Nat.le_trans hbs hg.size))).trans h9
  refine ⟨⟨r1, r2, r3, r4, ?_, ?_, h3.ok.snoc e hn hl hh, h3.ge⟩, hbel, hK⟩
  · rw [body_snoc h3.ok e hl hh, ← hT]
    unfold Lib.byteCells at hbuf ⊢
    rw [List.map_append]
    exact hbuf
  · rw [List.length_append]
    exact hm9
/-- Between the calls: the node's box stays. -/
structure MidI (K : ImB) (S B gn gu gt gc : Nat) (vars : Int) (A : Ar) (base : Nat) (ks : List Int) (nb : Nat) (d : Nd) (w wr : World) : Prop where
  im : ImI K S B gn gu gt gc vars A base ks wr
  kb : Blk wr nb 101 #[.int .i64 d.var, .int .i64 d.low, .int .i64 d.high]
  bel : Below base w wr
  kept : KeptI K w wr
  gl : GlobT wr
set_option maxRecDepth 100000 in
set_option maxHeartbeats 8000000 in
theorem save_miss (h : ImI K S B gn gu gt gc vars A base ks w) (hG : GlobT w) (hg : gotA A x = some d) (hm : x ∉ ks) (hbw : base ≤ w.heap.size) (hgl : 5 < base)
    (IH : SvC K S B gn gu gt gc vars A base (dep A x)) :
    Calls Tryz.prog 34 #[.int .i64 x, .pointer (some ⟨K.n, 0, none⟩), .pointer (some ⟨K.s, 0, none⟩), .pointer (some ⟨K.f, 0, none⟩), .pointer (some ⟨K.b, 0, none⟩)] w (SvP K S B gn gu gt gc vars A base ks x w) := by
  have hw := h.sp.wf
  have h2 := node_two hg
  have hx : I64 x := by
    obtain ⟨j, rfl, hj, _⟩ := gotA_is hg
    have := h.sp.ar.room
    unfold I64
    omega
  have hni : ¬ inI ks x := by
    rintro (e | e | e)
    · omega
    · omega
    · exact hm e
  have hlk := MapV.lookRun keyS_int Tryz.underlying93 h.map.toV x hx
  rw [numO_not hni] at hlk
  have c0 := h.kn.cell 0
  have cz := h.kz.cell 0
  have s0 := h.sp.kS.cell 0
  have HGT := hide (arGet_some B gn gu gt A x d w h.sp.ar hx hg)
  have kl := hw.kid hg false
  have kh := hw.kid hg true
  have htp := top_some hg
  have hdx := hw.dep hg
  have HFR := Lib.hid (img_fresh hw hg hm h.ok)
  have HVR := Lib.hid (hw.var _ _ hg)
  have HIM := Lib.hid (img_new hw hg hm)
  simp only [Bool.false_eq_true, if_false, if_true] at kl kh
  have HIN := Lib.hid (show inI (imgA A d.high (imgA A d.low ks)) d.low ∧ inI (imgA A d.high (imgA A d.low ks)) d.high from by
    obtain ⟨a1, a2, _⟩ := img_ok hw _ d.low ks (Nat.le_refl _) kl.2 h.ok
    obtain ⟨b1, b2, t2, b3, _⟩ := img_ok hw _ d.high (imgA A d.low ks) (Nat.le_refl _) kh.2 a1
    exact ⟨by rw [b3]; exact inI_app a2, b2⟩)
  have HDX := Lib.hid (show d.low ≠ x ∧ d.high ≠ x from ⟨fun e => by have := kl.1; rw [e] at this; omega, fun e => by have := kh.1; rw [e] at this; omega⟩)
  have HLI := Lib.hid (show I64 d.low ∧ I64 d.high from ⟨h.sp.i64_ kl.2, h.sp.i64_ kh.2⟩)
  have HGX := Lib.hid hg
  have dl : dep A d.low < dep A x := by unfold dep; omega
  have dh : dep A d.high < dep A x := by unfold dep; omega
  have HH := hide h
  have HIH := Lib.hid IH
  clear h hni IH
  go_enter Tryz.func34, Tryz.ntmps34
  go_wp2_with fail
  refine (HGT.out).mono ?_
  rintro e w1 ⟨rfl, hb1⟩
  have hal := (Below.refl w1.heap.size w1).alloc (Nat.le_refl _) (.cells #[.int .i64 d.var, .int .i64 d.low, .int .i64 d.high] 101)
  have hb2 := hb1.trans (hal.mono hb1.size)
  have HK := hide (Blk.new w1 101 #[.int .i64 d.var, .int .i64 d.low, .int .i64 d.high])
  have HM1 := hide (show MidI K S B gn gu gt gc vars A base ks w1.heap.size d w (w1.alloc (.cells #[.int .i64 d.var, .int .i64 d.low, .int .i64 d.high] 101)) from ⟨HH.out.below hb2, Blk.new w1 _ _, hb2.mono hbw, .below hb2, hG.below hb2⟩)
  clear hb1 hal hb2 HGT hlk c0 cz s0 HK HH
  have f0 := HM1.out.im.kf.cell 0
  have x1 := HM1.out.kb.cell 1
  unfold saveV at f0
  have HC1 := hide (HIH.out d.low ks _ dl kl.2 HM1.out.im HM1.out.gl)
  go_wp2_with fail
  generalize (w1.alloc (.cells #[.int .i64 d.var, .int .i64 d.low, .int .i64 d.high] 101)) = wa at HM1 f0 x1 HC1 ⊢
  generalize w1.heap.size = nb at HM1 x1 ⊢
  refine (HC1.out).mono ?_
  rintro e w2 ⟨rfl, hI2, hb2, hk2⟩
  have HNE := Lib.hid (show nb ≠ K.b ∧ nb ≠ K.gd from ⟨buf_ne HM1.out.im.buf HM1.out.kb (by decide), HM1.out.im.gd_ne HM1.out.kb⟩)
  have HM2 := hide (show MidI K S B gn gu gt gc vars A base (imgA A d.low ks) nb d w w2 from ⟨hI2, hk2.blk HM1.out.kb (by decide) HNE.out.1 HNE.out.2, HM1.out.bel.trans hb2, HM1.out.kept.trans hk2, HM1.out.gl.blocks fun g hg hl => hb2.block g (by rw [← hg]; exact hgl)⟩)
  clear hI2 hb2 hk2 HC1 f0 x1 HM1
  have f0 := HM2.out.im.kf.cell 0
  have x2 := HM2.out.kb.cell 2
  unfold saveV at f0
  have HC2 := hide (HIH.out d.high _ _ dh kh.2 HM2.out.im HM2.out.gl)
  go_wp2_with fail
  refine (HC2.out).mono ?_
  rintro e w3 ⟨rfl, hI3, hb3, hk3⟩
  have HM3 := hide (show MidI K S B gn gu gt gc vars A base (imgA A d.high (imgA A d.low ks)) nb d w w3 from ⟨hI3, hk3.blk HM2.out.kb (by decide) HNE.out.1 HNE.out.2, HM2.out.bel.trans hb3, HM2.out.kept.trans hk3, HM2.out.gl.blocks fun g hg hl => hb3.block g (by rw [← hg]; exact hgl)⟩)
  clear hI3 hb3 hk3 HC2 f0 x2 HM2 HIH
  obtain ⟨k2, HK2⟩ : ∃ k2, Hid (imgA A d.high (imgA A d.low ks) = k2) := ⟨_, Lib.hid rfl⟩
  rw [HK2.out] at HM3 HFR HIM
  have n0 := HM3.out.im.kn.cell 0
  have hfew := HM3.out.im.ok.few
  have hroom := HM3.out.im.sp.ar.room
  have HMP := hide HM3.out.im.map
  have hnone : numO k2 x = none := numO_not (by
    rintro (e | e | e)
    · omega
    · omega
    · exact HFR.out e)
  have HNO := Lib.hid hnone
  clear hnone
  go_wp2_with (first
    | (at_len; refine lenX rfl _ 93 rfl Tryz.underlying93 rfl HMP.out ?_)
    | (at_mapUpdate; refine storeX rfl _ _ _ 93 rfl Tryz.underlying93 rfl HMP.out x ((k2.length + 2 : Nat) : Int) rfl (by first | rfl | (simp; done)) hx (by unfold I64; omega) HNO.out (by omega) ?_; intro w4 hm4 hg4; have HM4 := hide hm4; have HG4 := hide hg4; clear hm4 hg4)
    | fail)
  go_frame
  rw [HK2.out] at HIN
  have HB4 := hide (buf_grown HM3.out.im.buf HG4.out (fun e => by obtain ⟨es, c, hm⟩ := HM3.out.im.map.isM; obtain ⟨_, v, lr, h5, _⟩ := HM3.out.im.buf; rw [e, hm] at h5; cases h5) HM3.out.im.map.isM)
  have HK4 := hide ((KeptI.grown HG4.out).blk HM3.out.kb (by decide) HNE.out.1 HNE.out.2)
  have HN4 := hide ((KeptI.grown HG4.out).blk HM3.out.im.kn (by decide) (buf_ne HM3.out.im.buf HM3.out.im.kn (by decide)) (HM3.out.im.gd_ne HM3.out.im.kn))
  have hT4 : GlobT w4 := HM3.out.gl.blocks fun g hg hl => HG4.out.block g hl (fun e => by injection e with e; have := HM3.out.im.ge; omega)
  have HT4 := hide hT4
  clear hT4
  have hnl := num_le k2 d.low
  have hnh := num_le k2 d.high
  have HKP := Lib.hid (fun (w' : World) (hb : Below w4.heap.size w4 w') => show w'.cell? ⟨nb, 0, none⟩ = some (.int .i64 d.var) ∧ w'.cell? ⟨nb, 1, none⟩ = some (.int .i64 d.low) ∧ w'.cell? ⟨nb, 2, none⟩ = some (.int .i64 d.high) ∧ w'.cell? ⟨K.n, 0, none⟩ = some (.map (some K.gd)) ∧
      (Instr.lookup 93 (.map (some K.gd)) (.int .i64 d.low) false).run Tryz.prog w' = .ok (.int .i64 (numI k2 d.low : Int)) w' ∧ (Instr.lookup 93 (.map (some K.gd)) (.int .i64 d.high) false).run Tryz.prog w' = .ok (.int .i64 (numI k2 d.high : Int)) w' from by
    have hk := HK4.out.below hb HK4.out.lt
    have hm := HM4.out.below hb HM4.out.lt
    have l1 := hm.lookRun1 Tryz.underlying93 d.low HLI.out.1
    have l2 := hm.lookRun1 Tryz.underlying93 d.high HLI.out.2
    simp only [if_neg HDX.out.1, if_neg HDX.out.2, numO_in HIN.out.1, numO_in HIN.out.2, Option.getD_some] at l1 l2
    exact ⟨hk.cell 0, hk.cell 1, hk.cell 2, (HN4.out.below hb HN4.out.lt).cell 0, l1, l2⟩)
  have hiv : I64 d.var := by have := HVR.out; unfold I64; omega
  have hil : I64 (numI k2 d.low : Int) := by unfold I64; omega
  have hih : I64 (numI k2 d.high : Int) := by unfold I64; omega
  have HT0 : Hid (∀ w', GlobT w' → Calls Tryz.prog 37 #[.int .i64 d.var] w' (TextP d.var w')) := Lib.hid fun w' h => itoa_any d.var w' h hiv
  have HT1 : Hid (∀ w', GlobT w' → Calls Tryz.prog 37 #[.int .i64 (numI k2 d.low : Int)] w' (TextP (numI k2 d.low : Int) w')) := Lib.hid fun w' h => itoa_any _ w' h hil
  have HT2 : Hid (∀ w', GlobT w' → Calls Tryz.prog 37 #[.int .i64 (numI k2 d.high : Int)] w' (TextP (numI k2 d.high : Int) w')) := Lib.hid fun w' h => itoa_any _ w' h hih
  have hs0 := itoa_sz _ hiv
  have hs1 := itoa_sz _ hil
  have hs2 := itoa_sz _ hih
  have HV := Lib.hid (show ((⟨(Lib.itoa d.var).toArray⟩ ++ ⟨#[32]⟩ ++ ⟨(Lib.itoa (numI k2 d.low : Int)).toArray⟩ ++ ⟨#[32]⟩ ++ ⟨(Lib.itoa (numI k2 d.high : Int)).toArray⟩ ++ ⟨#[10]⟩ : ByteArray)).data.toList = textF [d.var, (numI k2 d.low : Int), (numI k2 d.high : Int)] ++ [10] by
    rw [text_cons, text_cons, text_cons]
    simp)
  unfold TextP at HT0 HT1 HT2
  generalize (⟨(Lib.itoa d.var).toArray⟩ : ByteArray) = s0 at HT0 HV hs0
  generalize (⟨(Lib.itoa (numI k2 d.low : Int)).toArray⟩ : ByteArray) = s1 at HT1 HV hs1
  generalize (⟨(Lib.itoa (numI k2 d.high : Int)).toArray⟩ : ByteArray) = s2 at HT2 HV hs2
  have adds : ∀ (a b : ByteArray), a.size + b.size ≤ 1000 → ∀ w : World, (Op.stringOp .add a b).run Tryz.prog w = .ok (.string (a ++ b)) w := fun a b h w => run_string_add_sum (P := Tryz.prog) w a b (by omega)
  have q1 := adds s0 ⟨#[32]⟩ (by show s0.size + 1 ≤ 1000; omega)
  have z1 : (s0 ++ ⟨#[32]⟩ : ByteArray).size ≤ 22 := by rw [ByteArray.size_append]; show s0.size + 1 ≤ 22; omega
  generalize (s0 ++ ⟨#[32]⟩ : ByteArray) = p1 at q1 z1 HV
  have q2 := adds p1 s1 (by omega)
  have z2 : (p1 ++ s1 : ByteArray).size ≤ 43 := by rw [ByteArray.size_append]; omega
  generalize (p1 ++ s1 : ByteArray) = p2 at q2 z2 HV
  have q3 := adds p2 ⟨#[32]⟩ (by show p2.size + 1 ≤ 1000; omega)
  have z3 : (p2 ++ ⟨#[32]⟩ : ByteArray).size ≤ 44 := by rw [ByteArray.size_append]; show p2.size + 1 ≤ 44; omega
  generalize (p2 ++ ⟨#[32]⟩ : ByteArray) = p3 at q3 z3 HV
  have q4 := adds p3 s2 (by omega)
  have z4 : (p3 ++ s2 : ByteArray).size ≤ 65 := by rw [ByteArray.size_append]; omega
  generalize (p3 ++ s2 : ByteArray) = p4 at q4 z4 HV
  have q5 := adds p4 ⟨#[10]⟩ (by show p4.size + 1 ≤ 1000; omega)
  have z5 : (p4 ++ ⟨#[10]⟩ : ByteArray).size ≤ 66 := by rw [ByteArray.size_append]; show p4.size + 1 ≤ 66; omega
  generalize (p4 ++ ⟨#[10]⟩ : ByteArray) = p5 at q5 z5 HV
  have HWS := Lib.hid (fun (w' : World) (hb : Below w4.heap.size w4 w') (hlen : (bodyL A k2).length ≤ 1000000) => (Tryz.Buffer_WriteString_kept base K.b _ p5 w' (isBuf_kept HB4.out hb) (Nat.le_trans (Nat.le_trans hbw HM3.out.kept.1) (Nat.le_trans HG4.out.size hb.size)) (fun v hv => by
      unfold Lib.byteCells at hv
      obtain ⟨y, _, rfl⟩ := List.mem_map.1 hv
      rfl) (by unfold Lib.byteCells; rw [List.length_map]; omega)).mono fun e w9 hp =>
    show (∃ sz, e = .returned (.tuple #[sz, .nilIface])) ∧ SvP K S B gn gu gt gc vars A base ks x w (.returned (.tuple #[])) w9 ∧ w9.cell? ⟨nb, 0, none⟩ = some (.int .i64 d.var) ∧ w9.cell? ⟨nb, 1, none⟩ = some (.int .i64 d.low) ∧ w9.cell? ⟨nb, 2, none⟩ = some (.int .i64 d.high) ∧ w9.cell? ⟨K.n, 0, none⟩ = some (.map (some K.gd)) ∧
      (Instr.lookup 93 (.map (some K.gd)) (.int .i64 d.low) false).run Tryz.prog w9 = .ok (.int .i64 (numI k2 d.low : Int)) w9 ∧ (Instr.lookup 93 (.map (some K.gd)) (.int .i64 d.high) false).run Tryz.prog w9 = .ok (.int .i64 (numI k2 d.high : Int)) w9 from by
      obtain ⟨h1, h2, h3, h4⟩ := hp
      have hse := sv_end HM3.out.im (Nat.le_trans hbw HM3.out.kept.1) HG4.out HM4.out hb HGX.out HFR.out HIN.out.1 HIN.out.2 HV.out h2 h3 h4
      have hk := hse.2.2.blk HM3.out.kb (by decide) HNE.out.1 HNE.out.2
      have l1 := hse.1.map.lookRun1 Tryz.underlying93 d.low HLI.out.1
      have l2 := hse.1.map.lookRun1 Tryz.underlying93 d.high HLI.out.2
      rw [numO_in (inI_app HIN.out.1), num_app HIN.out.1] at l1
      rw [numO_in (inI_app HIN.out.2), num_app HIN.out.2] at l2
      exact ⟨⟨_, h1⟩, ⟨rfl, by rw [HIM.out]; exact hse.1, HM3.out.bel.trans hse.2.1, HM3.out.kept.trans hse.2.2⟩, hk.cell 0, hk.cell 1, hk.cell 2, hse.1.kn.cell 0, l1, l2⟩)
  have hlen : (bodyL A k2).length ≤ 1000000 := by
    have hb := body_len A k2 fun k hk zs hz => by
      subst hz
      obtain ⟨d', e', _⟩ := HM3.out.im.ok.got k hk
      have hv := HM3.out.im.sp.wf.var _ _ e'
      have n1 := num_le k2 d'.low
      have n2 := num_le k2 d'.high
      have b1 := Lib.itoa_length_le d'.var (by omega) (by omega)
      have b2 := Lib.itoa_length_le (numI k2 d'.low : Int) (by omega) (by omega)
      have b3 := Lib.itoa_length_le (numI k2 d'.high : Int) (by omega) (by omega)
      unfold lineI
      rw [e']
      simp only
      rw [text_cons, text_cons, text_cons]
      simp
      omega
    omega
  clear adds z1 z2 z3 z4 hs0 hs1 hs2 hiv hil hih
  obtain ⟨c0, c1, c2, c3, l1, l2⟩ := HKP.out w4 (Below.refl _ _)
  obtain ⟨vl, HVL⟩ : ∃ vl, (numI k2 d.low : Int) = vl := ⟨_, rfl⟩
  obtain ⟨vh, HVH⟩ : ∃ vh, (numI k2 d.high : Int) = vh := ⟨_, rfl⟩
  rw [HVL] at HT1 l1 HKP HWS
  rw [HVH] at HT2 l2 HKP HWS
  clear HVL HVH
  go_region_held3 (fun w' => w'.cell? ⟨nb, 0, none⟩ = some (.int .i64 d.var) ∧ w'.cell? ⟨nb, 1, none⟩ = some (.int .i64 d.low) ∧ w'.cell? ⟨nb, 2, none⟩ = some (.int .i64 d.high) ∧ w'.cell? ⟨K.n, 0, none⟩ = some (.map (some K.gd)) ∧
      (Instr.lookup 93 (.map (some K.gd)) (.int .i64 d.low) false).run Tryz.prog w' = .ok (.int .i64 vl) w' ∧ (Instr.lookup 93 (.map (some K.gd)) (.int .i64 d.high) false).run Tryz.prog w' = .ok (.int .i64 vh) w')
    (first | assumption | exact ⟨c0, c1, c2, c3, l1, l2⟩ | exact hs9 | (refine HKP.out _ ?_; (repeat (first | exact Below.refl _ _ | exact (Below.refl _ _).drew | exact hbq | refine svDr ?_)); done))
    (first
      | (go_at_call 37; refine (HT0.out _ (HT4.out.below ?_)).mono ?_; (focus ((repeat (first | exact Below.refl _ _ | exact (Below.refl _ _).drew | exact hbq | refine svDr ?_)); done)); rintro e wa ⟨rfl, hq⟩; (refine (fun (hbq : Below w4.heap.size w4 wa) => ?_) ?_; rotate_left; (focus (refine svThen ?_ hq; (repeat (first | exact Below.refl _ _ | exact (Below.refl _ _).drew | exact hbq | refine svDr ?_)); done))); clear hq)
      | (go_at_call 37; refine (HT1.out _ (HT4.out.below ?_)).mono ?_; (focus ((repeat (first | exact Below.refl _ _ | exact (Below.refl _ _).drew | exact hbq | refine svDr ?_)); done)); rintro e wa ⟨rfl, hq⟩; (refine (fun (hbq : Below w4.heap.size w4 wa) => ?_) ?_; rotate_left; (focus (refine svThen ?_ hq; (repeat (first | exact Below.refl _ _ | exact (Below.refl _ _).drew | exact hbq | refine svDr ?_)); done))); clear hq)
      | (go_at_call 37; refine (HT2.out _ (HT4.out.below ?_)).mono ?_; (focus ((repeat (first | exact Below.refl _ _ | exact (Below.refl _ _).drew | exact hbq | refine svDr ?_)); done)); rintro e wa ⟨rfl, hq⟩; (refine (fun (hbq : Below w4.heap.size w4 wa) => ?_) ?_; rotate_left; (focus (refine svThen ?_ hq; (repeat (first | exact Below.refl _ _ | exact (Below.refl _ _).drew | exact hbq | refine svDr ?_)); done))); clear hq)
      | (go_at_call 36; refine (HWS.out _ ?_ hlen).mono ?_; (focus ((repeat (first | exact Below.refl _ _ | exact (Below.refl _ _).drew | exact hbq | refine svDr ?_)); done)); rintro e wb ⟨⟨sz, rfl⟩, hsv, hs9⟩))
  all_goals
    go_wp2
    (try simp only [Exit.inBlock, Exit.then]); first | refine bodyPost_end (results_none rfl _ _ _) rfl ?_ | refine bodyPost_ret (results_none rfl _ _ _) rfl ?_
    exact hsv
end
end Go.Proofs.YtdlcldhnbhlikaaGreatDoor
namespace Go.Proofs.YtdlcldhnbhlikaaGreatDoor
open Go.RowKit Go.Maps

section
variable {K : ImB} {S B gn gu gt gc base : Nat} {vars : Int} {A : Ar} {ks : List Int} {w w' w'' : World} {x : Int} {d : Nd}
theorem ImI.base_le (h : ImI K S B gn gu gt gc vars A base ks w) : base ≤ w.heap.size := Nat.le_of_lt (Nat.lt_of_le_of_lt h.ge h.map.lt)
theorem save_all (hgl : 5 < base) : ∀ n, SvC K S B gn gu gt gc vars A base n := by
  intro n
  induction n with
  | zero => intro y ks w h; exact absurd h (Nat.not_lt_zero _)
  | succ n ih =>
    intro y ks w hd hp h hG
    have hy := h.sp.i64_ hp
    cases e : gotA A y with
    | none =>
      refine save_known y h hy ?_ (img_none e ks)
      rcases has_none hp e with r | r
      · exact .inl r
      · exact .inr (.inl r)
    | some d =>
      by_cases hm : y ∈ ks
      · exact save_known y h hy (.inr (.inr hm)) (img_in e hm)
      · exact save_miss h hG e hm h.base_le hgl fun z k2 w2 hz => ih z k2 w2 (by omega)
end
end Go.Proofs.YtdlcldhnbhlikaaGreatDoor
