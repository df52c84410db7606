/-
  image.Save.
-/
import Derived.Test.YtdlcldhnbhlikaaGreatDoorImgT
import Derived.Test.YtdlcldhnbhlikaaGreatDoorImgTx
import Derived.Test.YtdlcldhnbhlikaaGreatDoorBytesS
import Derived.BigRegion
namespace Go.Proofs.YtdlcldhnbhlikaaGreatDoor
open Go.RowKit Go.Maps

section
variable {ops : Array Oper} {rest : List Oper} {o : Oper} {a : Act} {Q : Exit → Act → World → Prop} {w : World}
/-- '[]byte(s)', in a plain region. -/
theorem stepConv (hg : o.guard = none) (x : Operand) (src dst : TypeId) (hop : o.op = Op.convert src dst x) (hs : Tryz.prog.underlying src = some .string) (hd : Tryz.prog.underlying dst = some (.slice 5)) (s : ByteArray) (hx : a.eval x = .string s) (hsz : s.size ≤ 1000000)
    (hK : ∀ v w', OwnBy w' w.heap.size 5 v s.data.toList → Below w.heap.size w w' → wpList Tryz.prog ops Q rest (a.put o.dst v) w') : wpList Tryz.prog ops Q (o :: rest) a w := by
  refine wpList_plain hg fun K' hK' => ?_
  obtain ⟨v, w', hrun, h1, h2⟩ := runS_conv (P := Tryz.prog) (w := w) src dst s hs hd Tryz.underlying5 hsz
  unfold Oper.wp
  simp [execOp, hop, hx, hrun, Result.andThen]
  exact hK' _ _ (hK v w' h1 h2)
theorem byteInfo : (Tryz.prog.info? 5).map (fun i => (i.zero, i.size, i.bytes)) = some (some (.int .u8 0), 1, 1) := by kernel_rfl
/-- append of bytes, in a plain region. -/
theorem stepApp (hg : o.guard = none) (s x : Operand) (t : TypeId) (hop : o.op = .call { callee := .builtin .append, args := #[s, x], argTypes := #[t, t] }) (ht : Tryz.prog.underlying t = some (.slice 5)) (base : Nat) (v : Value) (bs cs : List UInt8) (hs : a.eval s = v) (hown : OwnBy w base 5 v bs)
    (B : Nat) (A : Option Addr) (m c : Nat) (hx : a.eval x = .slice A m c) (hm : cs.length = m) (hr : Reads w B 1 A m (Lib.byteCells cs)) (h63 : bs.length + cs.length ≤ 1000000000) (hbase : base ≤ w.heap.size)
    (hK : ∀ v' w', OwnBy w' base 5 v' (bs ++ cs) → w.grownBy w' v.ownBlock → wpList Tryz.prog ops Q rest (a.put o.dst v') w') : wpList Tryz.prog ops Q (o :: rest) a w := by
  obtain ⟨i0, hi, hz0, hz1, hz2⟩ := info_parts byteInfo
  refine wpList_plain hg fun K' hK' => ?_
  obtain ⟨v', w', hrun, h1, h2⟩ := runS_append (P := Tryz.prog) t o.type i0 (.int .u8 0) ht hi hz0 hz1 hz2 rfl hown B A m c hm hr h63 hbase
  unfold Oper.wp execOp
  simp only [hop, resolve, invoke, builtin, Sem.run_bind, Sem.run_pure, Result.andThen_ok, List.map_toArray, List.map_cons, List.map_nil, hs, hx, hrun]
  exact hK' _ _ (hK v' w' h1 h2)
/-- append of a text. -/
theorem stepAppStr (hg : o.guard = none) (s x : Operand) (t u : TypeId) (hop : o.op = .call { callee := .builtin .append, args := #[s, x], argTypes := #[t, u] }) (ht : Tryz.prog.underlying t = some (.slice 5)) (hu : Tryz.prog.underlying u = some .string) (base : Nat) (v : Value) (bs cs : List UInt8) (hs : a.eval s = v) (hown : OwnBy w base 5 v bs)
    (b : ByteArray) (hx : a.eval x = .string b) (hb : b.data.toList = cs) (h63 : bs.length + cs.length ≤ 1000000000) (hbase : base ≤ w.heap.size)
    (hK : ∀ v' w', OwnBy w' base 5 v' (bs ++ cs) → w.grownBy w' v.ownBlock → wpList Tryz.prog ops Q rest (a.put o.dst v') w') : wpList Tryz.prog ops Q (o :: rest) a w := by
  obtain ⟨i0, hi, hz0, hz1, hz2⟩ := info_parts byteInfo
  refine wpList_plain hg fun K' hK' => ?_
  obtain ⟨v', w', hrun, h1, h2⟩ := runS_appendStr (P := Tryz.prog) t u o.type i0 ht hu hi hz0 hz1 hz2 hown b hb h63 hbase
  unfold Oper.wp execOp
  simp only [hop, resolve, invoke, builtin, Sem.run_bind, Sem.run_pure, Result.andThen_ok, List.map_toArray, List.map_cons, List.map_nil, hs, hx, hrun]
  exact hK' _ _ (hK v' w' h1 h2)
end
section
variable {S B gn gu gt gc : Nat} {vars : Int} {A : Ar} {w w' : World} {base : Nat}
theorem bVars_any (h : SpB w S B gn gu gt gc vars A) :
    Calls Tryz.prog 38 #[.pointer (some ⟨S, 0, none⟩)] w (fun e w' => e = .returned (.int .i64 vars) ∧ w = w') := by
  have s1 := h.kS.cell 1
  clear h
  go_enter Tryz.func38, Tryz.ntmps38
  go_wp2
  go_ret
  exact ⟨rfl, rfl⟩
theorem own_reads {v : Value} {n : Nat} {cs : List UInt8} (h : w.ownsRow base 5 1 v n (Lib.byteCells cs)) : ∃ Ad m c, v = .slice Ad m c ∧ cs.length = m ∧ Reads w w.heap.size 1 Ad m (Lib.byteCells cs) := by
  have hn : (Lib.byteCells cs).length = n := by have := h.1; omega
  rw [bytes_len] at hn
  subst hn
  rcases h.2 with ⟨rfl, h0⟩ | ⟨g, cap, cur, rfl, _, hg, _⟩
  · exact ⟨none, 0, 0, rfl, h0, by rw [List.eq_nil_of_length_eq_zero h0]; rfl, fun h => absurd h (Nat.lt_irrefl 0)⟩
  · exact ⟨_, _, cap, rfl, rfl, by rw [bytes_len, Nat.mul_one], fun _ => ⟨_, rfl, (Array.getElem?_eq_some_iff.1 hg).1, h.cells rfl⟩⟩
theorem numO_nil : (fun y : Int => if y = 1 then some (1 : Int) else if y = 0 then some 0 else none) = numO [] := by
  funext y
  by_cases h1 : y = 1
  · subst h1
    rw [if_pos rfl, numO_in (.inr (.inl rfl))]
    rfl
  · rw [if_neg h1]
    by_cases h0 : y = 0
    · subst h0
      rw [if_pos rfl, numO_in (.inl rfl)]
      rfl
    · rw [if_neg h0, numO_not (by rintro (e | e | e); exact h0 e; exact h1 e; cases e)]
theorem isBuf_base {T e : TypeId} {b base' : Nat} {bs : List Value} (h : Lib.IsBuffer T e base b bs w) (hb : base' ≤ base) : Lib.IsBuffer T e base' b bs w := by
  obtain ⟨h1, v, lr, h2, h3, h4⟩ := h
  refine ⟨Nat.le_trans hb h1, v, lr, h2, ⟨h3.1, ?_⟩, h4⟩
  rcases h3.2 with h5 | ⟨g, cap, cur, e, hg, r⟩
  · exact .inl h5
  · exact .inr ⟨g, cap, cur, e, Nat.le_trans hb hg, r⟩
theorem MapX.lenRun {g m : Nat} {f : Int → Option Int} (h : MapX w g f m) (ty : TypeId) : (Builtin.len_ #[93] ty #[.map (some g)]).run Tryz.prog w = .ok (.int .i64 (m : Int)) w := by
  obtain ⟨D, h1, _, h5⟩ := h
  rw [← h5]
  exact h1.len Tryz.underlying93 ty
theorem OwnBy.base_le {e : TypeId} {v : Value} {bs : List UInt8} {base' : Nat} (h : OwnBy w base e v bs) (hb : base' ≤ base) : OwnBy w base' e v bs := by
  obtain ⟨g, cap, cur, fz, h1, hg, r⟩ := h
  exact ⟨g, cap, cur, fz, h1, Nat.le_trans hb hg, r⟩
theorem OwnBy.grown {e : TypeId} {v : Value} {bs : List UInt8} (h : OwnBy w base e v bs) {w0 : World} {C : Nat} (hb : Below C w0 w) (hg : w.grownBy w' v.ownBlock) (hC : C ≤ base) (hw : C ≤ w.heap.size) : Below C w0 w' := by
  obtain ⟨g, h1, h2, h3⟩ := h.lt
  exact hb.grown hg hw (fun j hj => by rw [h1] at hj; cases hj; omega)
theorem imDr {u w : World} (h : Below u.heap.size u w) : Below u.heap.size u w.drew := h.drew
theorem imThen {u X Y : World} (h : Below u.heap.size u X) (k : Below X.heap.size X Y) : Below u.heap.size u Y := h.trans (k.mono h.size)
theorem im_dup {A B : Prop} (h : A → B) (k : A) : B := h k
theorem itoa_sz2 (n : Int) (h : I64 n) : (⟨(Lib.itoa n).toArray⟩ : ByteArray).size ≤ 21 := by
  rw [ba_size]
  exact Lib.itoa_length_le n h.1 h.2
/-- Where Save's closure begins. -/
theorem im_start {w0 wi wj : World} (hB : Below w.heap.size w w0) (hS : SpB w0 S B gn gu gt gc vars A) (hK : Blk w0 w.heap.size 23 #[.pointer (some ⟨S, 0, none⟩)]) (h1 : (w0.alloc (.map #[] 0)).grownBy wi (some w0.heap.size)) (h2 : wi.grownBy wj (some w0.heap.size))
    (hm : MapX wj w0.heap.size (fun y => if y = 1 then some 1 else if y = 0 then some 0 else none) (0 + 1 + 1)) :
    ImI ⟨wj.heap.size, w.heap.size, wj.heap.size + 1 + 1, wj.heap.size + 1, w0.heap.size⟩ S B gn gu gt gc vars A w.heap.size []
      (((wj.alloc (.cells #[.map (some w0.heap.size)] 93)).alloc (.cells #[.slice none 0 0, .int .i64 0, .int .i8 0] 97)).alloc (.cells #[.func (.func 34) #[] #[.pointer (some ⟨wj.heap.size, 0, none⟩), .pointer (some ⟨w.heap.size, 0, none⟩), .pointer (some ⟨wj.heap.size + 1 + 1, 0, none⟩), .pointer (some ⟨wj.heap.size + 1, 0, none⟩)]] 98)) ∧
    Below w.heap.size w (((wj.alloc (.cells #[.map (some w0.heap.size)] 93)).alloc (.cells #[.slice none 0 0, .int .i64 0, .int .i8 0] 97)).alloc (.cells #[.func (.func 34) #[] #[.pointer (some ⟨wj.heap.size, 0, none⟩), .pointer (some ⟨w.heap.size, 0, none⟩), .pointer (some ⟨wj.heap.size + 1 + 1, 0, none⟩), .pointer (some ⟨wj.heap.size + 1, 0, none⟩)]] 98)) := by
  have ha := (Below.refl w0.heap.size w0).alloc (Nat.le_refl _) (.map #[] 0)
  have hb := (ha.grown h1 ha.size (fun j hj => by cases hj; exact Nat.le_refl _)).grown h2 (Nat.le_trans ha.size h1.size) (fun j hj => by cases hj; exact Nat.le_refl _)
  have hj := hB.trans (hb.mono hB.size)
  have hwj : w.heap.size ≤ wj.heap.size := hj.size
  generalize hW1 : wj.alloc (.cells #[.map (some w0.heap.size)] 93) = W1
  have b1 : Below wj.heap.size wj W1 := by rw [← hW1]; exact (Below.refl _ _).alloc (Nat.le_refl _) _
  have z1 : W1.heap.size = wj.heap.size + 1 := by rw [← hW1]; simp
  have k1 : Blk W1 wj.heap.size 93 #[.map (some w0.heap.size)] := by rw [← hW1]; exact Blk.new _ _ _
  have f2 := Lib.fresh_isBuffer 97 5 W1
  generalize hW2 : W1.alloc (.cells #[.slice none 0 0, .int .i64 0, .int .i8 0] 97) = W2 at f2 ⊢
  have b2 : Below W1.heap.size W1 W2 := by rw [← hW2]; exact (Below.refl _ _).alloc (Nat.le_refl _) _
  have z2 : W2.heap.size = wj.heap.size + 1 + 1 := by rw [← hW2]; simp; omega
  have k3 := Blk.new W2 98 #[.func (.func 34) #[] #[.pointer (some ⟨wj.heap.size, 0, none⟩), .pointer (some ⟨w.heap.size, 0, none⟩), .pointer (some ⟨wj.heap.size + 1 + 1, 0, none⟩), .pointer (some ⟨wj.heap.size + 1, 0, none⟩)]]
  have b3 := (Below.refl W2.heap.size W2).alloc (Nat.le_refl _) (.cells #[.func (.func 34) #[] #[.pointer (some ⟨wj.heap.size, 0, none⟩), .pointer (some ⟨w.heap.size, 0, none⟩), .pointer (some ⟨wj.heap.size + 1 + 1, 0, none⟩), .pointer (some ⟨wj.heap.size + 1, 0, none⟩)]] 98)
  generalize (W2.alloc (.cells #[.func (.func 34) #[] #[.pointer (some ⟨wj.heap.size, 0, none⟩), .pointer (some ⟨w.heap.size, 0, none⟩), .pointer (some ⟨wj.heap.size + 1 + 1, 0, none⟩), .pointer (some ⟨wj.heap.size + 1, 0, none⟩)]] 98)) = W3 at k3 b3 ⊢
  have b23 := b2.trans (b3.mono b2.size)
  have b13 := b1.trans (b23.mono b1.size)
  have b03 := hb.trans (b13.mono hb.size)
  rw [z1] at f2
  rw [z2] at k3
  refine ⟨⟨hS.below b03, k1.below b23 k1.lt, hK.below b03 hK.lt, k3, ?_, (hm.below b13 hm.lt).congr (fun y => congrFun numO_nil y), ksOk_nil A, hB.size⟩, hB.trans (b03.mono hB.size)⟩
  exact isBuf_kept (isBuf_base f2 (by omega)) b3
/-- What Save answers. -/
def SaveP (w : World) (A : Ar) (vars x : Int) (e : Ending) (w' : World) : Prop := ∃ v, e = .returned (.tuple #[v, .nilIface]) ∧ OwnBy w' w.heap.size 5 v (imgT A vars x) ∧ Below w.heap.size w w'
set_option maxHeartbeats 2000000 in
theorem save_nil (x : Int) (w : World) : Calls Tryz.prog 8 #[.pointer none, .int .i64 x] w (ErrP w 7) := by
  go_enter Tryz.func8, Tryz.ntmps8
  go_wp2
  go_ret2
  exact ⟨_, rfl, (Below.refl _ _).alloc (Nat.le_refl _) _⟩
set_option maxHeartbeats 2000000 in
theorem save_no (x : Int) (w : World) (h : SpB w S B gn gu gt gc vars A) (hx : I64 x) (p : hasA A x = false) : Calls Tryz.prog 8 #[.pointer (some ⟨S, 0, none⟩), .int .i64 x] w (ErrP w 7) := by
  have hal := (Below.refl w.heap.size w).alloc (Nat.le_refl _) (.cells #[.pointer (some ⟨S, 0, none⟩)] 23)
  have h0 := h.below hal
  have s0 := h0.kS.cell 0
  have HA := hide (hasN_call B gn gu gt A _ x h0.ar hx p)
  have HB := hide hal
  clear h h0 hal
  go_enter Tryz.func8, Tryz.ntmps8
  go_wp2_with fail
  refine (HA.out).mono ?_
  rintro e w1 ⟨rfl, rfl⟩
  go_wp2
  go_ret2
  exact ⟨_, rfl, HB.out⟩
set_option maxRecDepth 100000 in
set_option maxHeartbeats 8000000 in
theorem save_any (x : Int) (w : World) (h : SpB w S B gn gu gt gc vars A) (hv : I64 vars) (p : hasA A x = true) (hG : GlobT w) :
    Calls Tryz.prog 8 #[.pointer (some ⟨S, 0, none⟩), .int .i64 x] w (SaveP w A vars x) := by
  have hx := h.i64_ p
  have hgl := hG.lt
  have hal := (Below.refl w.heap.size w).alloc (Nat.le_refl _) (.cells #[.pointer (some ⟨S, 0, none⟩)] 23)
  have h0 := h.below hal
  have s0 := h0.kS.cell 0
  have HA := hide (hasA_call B gn gu gt A x _ h0.ar hx p)
  have HB := hide hal
  have HS := hide h0
  have HK := hide (Blk.new w 23 #[.pointer (some ⟨S, 0, none⟩)])
  have HM1 := hide (mapX_made (w.alloc (.cells #[.pointer (some ⟨S, 0, none⟩)] 23)))
  have HP := Lib.hid p
  have HG := hide hG
  have HGL := Lib.hid hgl
  clear h h0 hal hG p hgl
  have hmm := @run_makeMap Tryz.prog
  go_enter Tryz.func8, Tryz.ntmps8
  go_wp2_with fail
  refine (HA.out).mono ?_
  rintro e w1 ⟨rfl, rfl⟩
  generalize (w.alloc (.cells #[.pointer (some ⟨S, 0, none⟩)] 23)) = w0 at s0 HA HB HS HK HM1 ⊢
  go_wp2_with (first
    | (refine insertX rfl _ _ _ 93 rfl Tryz.underlying93 rfl HM1.out 0 0 rfl rfl (by unfold I64; omega) (by unfold I64; omega) rfl (by omega) ?_; intro wi hmi hgi; have HM2 := hide hmi; have HG2 := hide hgi; clear hmi hgi; refine insertX rfl _ _ _ 93 rfl Tryz.underlying93 rfl HM2.out 1 1 rfl rfl (by unfold I64; omega) (by unfold I64; omega) rfl (by omega) ?_; intro wj hmj hgj; have HM3 := hide hmj; have HG3 := hide hgj; clear hmj hgj)
    | fail)
  obtain ⟨hI, hBW⟩ := im_start HB.out HS.out HK.out HG2.out HG3.out HM3.out
  have hcall := save_all HGL.out (dep A x + 1) x [] _ (Nat.lt_succ_self _) HP.out hI (HG.out.below hBW)
  dsimp only at hcall
  have HC := hide hcall
  have HBW := hide hBW
  clear hI hBW hcall HM1 HM2 HM3 HG2 HG3 HB HS HK HA s0 hmm
  generalize (((wj.alloc (.cells #[.map (some w0.heap.size)] 93)).alloc (.cells #[.slice none 0 0, .int .i64 0, .int .i8 0] 97)).alloc (.cells #[.func (.func 34) #[] #[.pointer (some ⟨wj.heap.size, 0, none⟩), .pointer (some ⟨w.heap.size, 0, none⟩), .pointer (some ⟨wj.heap.size + 1 + 1, 0, none⟩), .pointer (some ⟨wj.heap.size + 1, 0, none⟩)]] 98)) = W at HC HBW ⊢
  generalize wj.heap.size = nj at HC ⊢
  generalize w0.heap.size = gd at HC ⊢
  refine (HC.out).mono ?_
  rintro e w2 ⟨rfl, hI2, hB2, _⟩
  have HI := hide hI2
  have HBE := hide (HBW.out.trans hB2)
  have hw2 : w.heap.size ≤ w2.heap.size := HBE.out.size
  have HGT := hide (HG.out.below HBE.out)
  obtain ⟨ok1, in1, _⟩ := img_ok HI.out.sp.wf _ x [] (Nat.le_refl _) HP.out (ksOk_nil A)
  have hfew := ok1.few
  have hroom := HI.out.sp.ar.room
  have hbody := body_le HI.out.sp.wf ok1 hroom
  have HIN := Lib.hid in1
  clear hI2 hB2 HC HBW in1 ok1
  obtain ⟨al, HAL⟩ : ∃ al, Hid (allI A vars x = al) := ⟨_, Lib.hid rfl⟩
  have HGOAL := Lib.hid (show imgT A vars x = al ++ tailI al by unfold imgT; rw [HAL.out])
  unfold allI at HAL
  obtain ⟨ks, HKS⟩ : ∃ ks, Hid (imgA A x [] = ks) := ⟨_, Lib.hid rfl⟩
  rw [HKS.out] at HI hfew hbody HIN HAL
  have hnum := num_few ks x
  have hi1 : I64 (ks.length : Int) := by unfold I64; omega
  have hi2 : I64 (numI ks x : Int) := by unfold I64; omega
  have hlh := head_small vars (ks.length : Int) (numI ks x : Int) hv hi1 hi2
  have HKP := Lib.hid (fun (w' : World) (hb : Below w2.heap.size w2 w') => show w'.cell? ⟨w.heap.size, 0, none⟩ = some (.pointer (some ⟨S, 0, none⟩)) ∧ w'.cell? ⟨nj, 0, none⟩ = some (.map (some gd)) ∧
      (∀ ty, (Builtin.len_ #[93] ty #[.map (some gd)]).run Tryz.prog w' = .ok (.int .i64 ((ks.length + 2 : Nat) : Int)) w') ∧ (Instr.lookup 93 (.map (some gd)) (.int .i64 x) false).run Tryz.prog w' = .ok (.int .i64 (numI ks x : Int)) w' from by
    have hm := HI.out.map.below hb HI.out.map.lt
    have l1 := hm.lookRun1 Tryz.underlying93 x hx
    rw [numO_in HIN.out] at l1
    exact ⟨(HI.out.kz.below hb HI.out.kz.lt).cell 0, (HI.out.kn.below hb HI.out.kn.lt).cell 0, hm.lenRun, l1⟩)
  have HVR := hide (fun (w' : World) (hb : Below w2.heap.size w2 w') => bVars_any (HI.out.sp.below hb))
  have HBF := hide (fun (w' : World) (hb : Below w2.heap.size w2 w') => Tryz.Buffer_Bytes w.heap.size (nj + 1) _ w' (isBuf_kept HI.out.buf hb))
  have hkl : (ks.length : Int) = ((ks.length + 2 : Nat) : Int) - 2 := by omega
  have HT0 : Hid (∀ w', GlobT w' → Calls Tryz.prog 37 #[.int .i64 vars] w' (TextP vars w')) := Lib.hid fun w' h => itoa_any vars w' h hv
  have HT1 : Hid (∀ w', GlobT w' → Calls Tryz.prog 37 #[.int .i64 (ks.length : Int)] w' (TextP (ks.length : Int) w')) := Lib.hid fun w' h => itoa_any _ w' h hi1
  have HT2 : Hid (∀ w', GlobT w' → Calls Tryz.prog 37 #[.int .i64 (numI ks x : Int)] w' (TextP (numI ks x : Int) w')) := Lib.hid fun w' h => itoa_any _ w' h hi2
  have hs0 := itoa_sz2 _ hv
  have hs1 := itoa_sz2 _ hi1
  have hs2 := itoa_sz2 _ hi2
  have HV := Lib.hid (show ((((((⟨#[115, 112, 97, 99, 101, 32]⟩ ++ ⟨(Lib.itoa vars).toArray⟩) ++ ⟨#[32]⟩) ++ ⟨(Lib.itoa (ks.length : Int)).toArray⟩) ++ ⟨#[32]⟩) ++ ⟨(Lib.itoa (numI ks x : Int)).toArray⟩) ++ ⟨#[10]⟩ : ByteArray).data.toList = headI vars (ks.length : Int) (numI ks x : Int) by
    unfold headI
    rw [text_cons, text_cons, text_cons]
    simp)
  unfold TextP at HT0 HT1 HT2
  obtain ⟨vx, HVX⟩ : ∃ vx, Hid ((numI ks x : Int) = vx) := ⟨_, Lib.hid rfl⟩
  rw [HVX.out] at HT2 HKP HV hs2 hlh HAL
  obtain ⟨m2, HM2⟩ : ∃ m2, Hid (ks.length + 2 = m2) := ⟨_, Lib.hid rfl⟩
  rw [HM2.out] at HKP hkl
  rw [hkl] at HT1 HV hs1 hlh HAL
  have hm2 : 2 ≤ m2 ∧ m2 ≤ 4002 := by have := HM2.out; omega
  have hwr : IntKind.i64.wrap ((m2 : Int) - 2) = (m2 : Int) - 2 := by rw [IntKind.wrap_i64]; omega
  generalize (⟨(Lib.itoa vars).toArray⟩ : ByteArray) = s0 at HT0 HV hs0
  generalize (⟨(Lib.itoa ((m2 : Int) - 2)).toArray⟩ : ByteArray) = s1 at HT1 HV hs1
  generalize (⟨(Lib.itoa vx).toArray⟩ : ByteArray) = s2 at HT2 HV hs2
  have adds : ∀ (a b : ByteArray), a.size + b.size ≤ 1000 → ∀ w : World, (Op.stringOp .add a b).run Tryz.prog w = .ok (.string (a ++ b)) w := fun a b h w => run_string_add_sum (P := Tryz.prog) w a b (by omega)
  have q1 := adds ⟨#[115, 112, 97, 99, 101, 32]⟩ s0 (by show 6 + s0.size ≤ 1000; omega)
  have z1 : (⟨#[115, 112, 97, 99, 101, 32]⟩ ++ s0 : ByteArray).size ≤ 27 := by rw [ByteArray.size_append]; show 6 + s0.size ≤ 27; omega
  generalize (⟨#[115, 112, 97, 99, 101, 32]⟩ ++ s0 : ByteArray) = p1 at q1 z1 HV
  have q2 := adds p1 ⟨#[32]⟩ (by show p1.size + 1 ≤ 1000; omega)
  have z2 : (p1 ++ ⟨#[32]⟩ : ByteArray).size ≤ 28 := by rw [ByteArray.size_append]; show p1.size + 1 ≤ 28; omega
  generalize (p1 ++ ⟨#[32]⟩ : ByteArray) = p2 at q2 z2 HV
  have q3 := adds p2 s1 (by omega)
  have z3 : (p2 ++ s1 : ByteArray).size ≤ 49 := by rw [ByteArray.size_append]; omega
  generalize (p2 ++ s1 : ByteArray) = p3 at q3 z3 HV
  have q4 := adds p3 ⟨#[32]⟩ (by show p3.size + 1 ≤ 1000; omega)
  have z4 : (p3 ++ ⟨#[32]⟩ : ByteArray).size ≤ 50 := by rw [ByteArray.size_append]; show p3.size + 1 ≤ 50; omega
  generalize (p3 ++ ⟨#[32]⟩ : ByteArray) = p4 at q4 z4 HV
  have q5 := adds p4 s2 (by omega)
  have z5 : (p4 ++ s2 : ByteArray).size ≤ 71 := by rw [ByteArray.size_append]; omega
  generalize (p4 ++ s2 : ByteArray) = p5 at q5 z5 HV
  have q6 := adds p5 ⟨#[10]⟩ (by show p5.size + 1 ≤ 1000; omega)
  have z6 : (p5 ++ ⟨#[10]⟩ : ByteArray).size ≤ 72 := by rw [ByteArray.size_append]; show p5.size + 1 ≤ 72; omega
  generalize (p5 ++ ⟨#[10]⟩ : ByteArray) = p6 at q6 z6 HV
  clear adds z1 z2 z3 z4 z5 hs0 hs1 hs2 hi1 hi2 hnum hkl
  obtain ⟨c0, c1, l0, l1⟩ := HKP.out w2 (Below.refl _ _)
  go_wp2_with fail
  apply im_dup
  · intro KK
    go_region_held3 (fun w' => w'.cell? ⟨w.heap.size, 0, none⟩ = some (.pointer (some ⟨S, 0, none⟩)) ∧ w'.cell? ⟨nj, 0, none⟩ = some (.map (some gd)) ∧
      (∀ ty, (Builtin.len_ #[93] ty #[.map (some gd)]).run Tryz.prog w' = .ok (.int .i64 (m2 : Int)) w') ∧ (Instr.lookup 93 (.map (some gd)) (.int .i64 x) false).run Tryz.prog w' = .ok (.int .i64 vx) w')
      ((refine HKP.out _ ?_; (repeat (first | exact Below.refl _ _ | exact (Below.refl _ _).drew | exact hbq | refine imDr ?_)); done))
      (first
        | (go_at_call 38; refine (HVR.out _ ?_).mono ?_; (focus ((repeat (first | exact Below.refl _ _ | exact (Below.refl _ _).drew | exact hbq | refine imDr ?_)); done)); rintro e wv ⟨rfl, rfl⟩)
        | (go_at_call 37; refine (HT0.out _ (HGT.out.below ?_)).mono ?_; (focus ((repeat (first | exact Below.refl _ _ | exact (Below.refl _ _).drew | exact hbq | refine imDr ?_)); done)); rintro e wa ⟨rfl, hq⟩; (refine (fun (hbq : Below w2.heap.size w2 wa) => ?_) ?_; rotate_left; (focus (refine imThen ?_ hq; (repeat (first | exact Below.refl _ _ | exact (Below.refl _ _).drew | exact hbq | refine imDr ?_)); done))); clear hq)
        | (go_at_call 37; refine (HT1.out _ (HGT.out.below ?_)).mono ?_; (focus ((repeat (first | exact Below.refl _ _ | exact (Below.refl _ _).drew | exact hbq | refine imDr ?_)); done)); rintro e wa ⟨rfl, hq⟩; (refine (fun (hbq : Below w2.heap.size w2 wa) => ?_) ?_; rotate_left; (focus (refine imThen ?_ hq; (repeat (first | exact Below.refl _ _ | exact (Below.refl _ _).drew | exact hbq | refine imDr ?_)); done))); clear hq)
        | (go_at_call 37; refine (HT2.out _ (HGT.out.below ?_)).mono ?_; (focus ((repeat (first | exact Below.refl _ _ | exact (Below.refl _ _).drew | exact hbq | refine imDr ?_)); done)); rintro e wa ⟨rfl, hq⟩; (refine (fun (hbq : Below w2.heap.size w2 wa) => ?_) ?_; rotate_left; (focus (refine imThen ?_ hq; (repeat (first | exact Below.refl _ _ | exact (Below.refl _ _).drew | exact hbq | refine imDr ?_)); done))); clear hq))
    all_goals
      have HBQ := hide hbq
      clear hbq
      revert HBQ
      generalize wa = wq
      revert wq
      exact KK
  intro wq HBQ
  clear c0 c1 l0 l1 q1 q2 q3 q4 q5 q6 HT0 HT1 HT2 HVR HKP hwr
  have hvl := HV.out
  have hsz6 : p6.size ≤ 1000000 := by omega
  have HWQ := Lib.hid (show w.heap.size ≤ wq.heap.size from Nat.le_trans hw2 HBQ.out.size)
  go_wp2_with (first
    | (refine stepConv rfl _ 9 28 rfl Tryz.underlying9 Tryz.underlying28 _ rfl hsz6 ?_; intro v9 w9 ho9 hb9; rw [hvl] at ho9; obtain ⟨g9, c9, e9, _⟩ := ho9.reads; subst e9; have HO9 := hide ho9; have HB9 := hide hb9; clear ho9 hb9)
    | fail)
  have HBF9 := hide (HBF.out w9 (imThen HBQ.out HB9.out))
  clear HBF
  refine (HBF9.out).mono ?_
  rintro e wb ⟨vb, rfl, hob, nb, hwb⟩
  obtain ⟨Ab, mb, cb, rfl, hmb, hrb⟩ := own_reads hob
  have hb10 : Below wq.heap.size wq wb := by rw [hwb]; exact below_drewN HB9.out nb
  have HOB := hide (show OwnBy wb wq.heap.size 5 (.slice (some ⟨g9, 0, none⟩) (headI vars ((m2 : Int) - 2) vx).length c9) (headI vars ((m2 : Int) - 2) vx) by rw [hwb]; exact HO9.out.below (below_drewN (Below.refl _ _) nb))
  have HB10 := hide hb10
  have HRB := hide hrb
  have HMB := Lib.hid hmb
  have hszb : wq.heap.size ≤ wb.heap.size := hb10.size
  clear hob hwb hmb hrb hb10 HO9 HB9 HBF9
  go_wp2_with (first
    | (at_builtin; refine stepApp rfl _ _ _ rfl Tryz.underlying28 wq.heap.size _ _ _ rfl HOB.out _ _ _ _ rfl HMB.out HRB.out (by omega) hszb ?_; intro v8 w8 ho8 hg8; have HB8 := hide (HOB.out.grown HB10.out hg8 (Nat.le_refl _) hszb); clear hg8; obtain ⟨g8, c8, e8, hr8⟩ := ho8.reads; subst e8; have HO8 := hide ho8; have HR8 := hide hr8; clear ho8 hr8)
    | fail)
  obtain ⟨L, HL⟩ : ∃ L, Hid ((headI vars ((m2 : Int) - 2) vx).length + (bodyL A ks).length = L) := ⟨_, Lib.hid rfl⟩
  have hL : L ≤ 600000 := by have := HL.out; omega
  have HLA := Lib.hid (show al.length = L by rw [← HAL.out, List.length_append]; exact HL.out)
  rw [List.length_append, HL.out, HAL.out] at HO8 HR8
  rw [HL.out]
  have HSU := hide (imgSum_any (some ⟨g8, 0, none⟩) L c8 al w8 HLA.out HR8.out (by omega))
  clear HR8 HOB HRB hszb HL
  refine (HSU.out).mono ?_
  rintro e w7 ⟨rfl, rfl⟩
  have hsl := sum_lt al
  have hi3 : I64 (sumB al : Int) := by unfold I64; omega
  have HIT := hide (itoa_any (sumB al : Int) w8 ((HGT.out.below HBQ.out).below HB8.out) hi3)
  have hs3 := itoa_sz2 _ hi3
  have HTV := Lib.hid (show ((⟨#[115, 117, 109, 32]⟩ ++ ⟨(Lib.itoa (sumB al : Int)).toArray⟩) ++ ⟨#[10]⟩ : ByteArray).data.toList = tailI al by
    unfold tailI
    simp)
  unfold TextP at HIT
  clear HSU hi3
  generalize (⟨(Lib.itoa (sumB al : Int)).toArray⟩ : ByteArray) = s3 at HIT HTV hs3
  generalize sumB al = sa at HIT hsl ⊢
  have q7 : ∀ w : World, (Op.stringOp .add ⟨#[115, 117, 109, 32]⟩ s3).run Tryz.prog w = .ok (.string (⟨#[115, 117, 109, 32]⟩ ++ s3)) w := fun w => run_string_add_sum (P := Tryz.prog) w _ _ (by show 4 + s3.size ≤ _; omega)
  have z7 : (⟨#[115, 117, 109, 32]⟩ ++ s3 : ByteArray).size ≤ 25 := by rw [ByteArray.size_append]; show 4 + s3.size ≤ 25; omega
  generalize (⟨#[115, 117, 109, 32]⟩ ++ s3 : ByteArray) = p7 at q7 z7 HTV
  have q8 : ∀ w : World, (Op.stringOp .add p7 ⟨#[10]⟩).run Tryz.prog w = .ok (.string (p7 ++ ⟨#[10]⟩)) w := fun w => run_string_add_sum (P := Tryz.prog) w _ _ (by show p7.size + 1 ≤ _; omega)
  have z8 : (p7 ++ ⟨#[10]⟩ : ByteArray).size ≤ 26 := by rw [ByteArray.size_append]; show p7.size + 1 ≤ 26; omega
  generalize (p7 ++ ⟨#[10]⟩ : ByteArray) = p8 at q8 z8 HTV
  have htl : (tailI al).length ≤ 40 := sum_small al
  go_wp2_with fail
  refine (HIT.out).mono ?_
  rintro e w6 ⟨rfl, hb6⟩
  have HO6 := hide (HO8.out.below hb6)
  have HB6 := hide (HB8.out.trans (hb6.mono HB8.out.size))
  have hsz6b : wq.heap.size ≤ w6.heap.size := HB6.out.size
  clear hb6 HO8 HB8 HIT
  go_wp2_with (first
    | (at_builtin; refine stepAppStr rfl _ _ _ _ rfl Tryz.underlying28 Tryz.underlying9 wq.heap.size _ _ _ rfl HO6.out _ rfl HTV.out (by rw [HLA.out]; omega) hsz6b ?_; intro v5 w5 ho5 hg5; have HB5 := hide (HO6.out.grown HB6.out hg5 (Nat.le_refl _) hsz6b); have HO5 := hide ho5; clear ho5 hg5)
    | fail)
  go_ret2
  exact ⟨v5, rfl, by rw [HGOAL.out]; exact HO5.out.base_le HWQ.out, HBE.out.trans ((imThen HBQ.out (HB5.out)).mono hw2)⟩
end
end Go.Proofs.YtdlcldhnbhlikaaGreatDoor
