/-
  A part of the proof: PaBody. Conditions: none.
-/
import Derived.Test.YtojgbcmhdnappaaGreatDoorAlPaR11
import Derived.Test.YtojgbcmhdnappaaGreatDoorAlRefTxt
import Derived.IntWalk
namespace Go.Proofs.YtojgbcmhdnappaaGreatDoor
open Go.RowKit Go.Shelf
open Classical
attribute [local go_sem] Oper.semAt_some
set_option maxRecDepth 100000
def CatParseP (t:ByteArray) (w:World) (e:Ending) (w':World):Prop :=
 (∃ u f,textR t=.inl f∧f.1≠0∧e=.returned (.tuple #[.pointer none,u])∧IsErr w' u f∧Below w.heap.size w w') ∨
 ∃ g qs,textR t=.inr (qs.map (·.1))∧e=.returned (.tuple #[.pointer (some ⟨g,0,none⟩),.nilIface])∧CatO w' w.heap.size g qs∧Below w.heap.size w w'
theorem cons_of {l:List Value} {n:Nat} (h:l.length=n+1):∃ x r,l=x :: r∧r.length=n:=by
 cases l with
 | nil=>cases h
 | cons x r=>exact ⟨x,r,rfl,Nat.succ.inj h⟩
theorem arr76 (t:Array Value) (h:t.size=76):∃ x0 x1 x2 x3 x4 x5 x6 x7 x8 x9 x10 x11 x12 x13 x14 x15 x16 x17 x18 x19 x20 x21 x22 x23 x24 x25 x26 x27 x28 x29 x30 x31 x32 x33 x34 x35 x36 x37 x38 x39 x40 x41 x42 x43 x44 x45 x46 x47 x48 x49 x50 x51 x52 x53 x54 x55 x56 x57 x58 x59 x60 x61 x62 x63 x64 x65 x66 x67 x68 x69 x70 x71 x72 x73 x74 x75:Value,t=#[x0,x1,x2,x3,x4,x5,x6,x7,x8,x9,x10,x11,x12,x13,x14,x15,x16,x17,x18,x19,x20,x21,x22,x23,x24,x25,x26,x27,x28,x29,x30,x31,x32,x33,x34,x35,x36,x37,x38,x39,x40,x41,x42,x43,x44,x45,x46,x47,x48,x49,x50,x51,x52,x53,x54,x55,x56,x57,x58,x59,x60,x61,x62,x63,x64,x65,x66,x67,x68,x69,x70,x71,x72,x73,x74,x75]:=by
 obtain ⟨l0⟩:=t
 have h0:l0.length=76:=h
 clear h
 obtain ⟨x0,l1,e0,h1⟩:=cons_of (l:=l0) (n:=75) h0
 obtain ⟨x1,l2,e1,h2⟩:=cons_of (l:=l1) (n:=74) h1
 obtain ⟨x2,l3,e2,h3⟩:=cons_of (l:=l2) (n:=73) h2
 obtain ⟨x3,l4,e3,h4⟩:=cons_of (l:=l3) (n:=72) h3
 obtain ⟨x4,l5,e4,h5⟩:=cons_of (l:=l4) (n:=71) h4
 obtain ⟨x5,l6,e5,h6⟩:=cons_of (l:=l5) (n:=70) h5
 obtain ⟨x6,l7,e6,h7⟩:=cons_of (l:=l6) (n:=69) h6
 obtain ⟨x7,l8,e7,h8⟩:=cons_of (l:=l7) (n:=68) h7
 obtain ⟨x8,l9,e8,h9⟩:=cons_of (l:=l8) (n:=67) h8
 obtain ⟨x9,l10,e9,h10⟩:=cons_of (l:=l9) (n:=66) h9
 obtain ⟨x10,l11,e10,h11⟩:=cons_of (l:=l10) (n:=65) h10
 obtain ⟨x11,l12,e11,h12⟩:=cons_of (l:=l11) (n:=64) h11
 obtain ⟨x12,l13,e12,h13⟩:=cons_of (l:=l12) (n:=63) h12
 obtain ⟨x13,l14,e13,h14⟩:=cons_of (l:=l13) (n:=62) h13
 obtain ⟨x14,l15,e14,h15⟩:=cons_of (l:=l14) (n:=61) h14
 obtain ⟨x15,l16,e15,h16⟩:=cons_of (l:=l15) (n:=60) h15
 obtain ⟨x16,l17,e16,h17⟩:=cons_of (l:=l16) (n:=59) h16
 obtain ⟨x17,l18,e17,h18⟩:=cons_of (l:=l17) (n:=58) h17
 obtain ⟨x18,l19,e18,h19⟩:=cons_of (l:=l18) (n:=57) h18
 obtain ⟨x19,l20,e19,h20⟩:=cons_of (l:=l19) (n:=56) h19
 obtain ⟨x20,l21,e20,h21⟩:=cons_of (l:=l20) (n:=55) h20
 obtain ⟨x21,l22,e21,h22⟩:=cons_of (l:=l21) (n:=54) h21
 obtain ⟨x22,l23,e22,h23⟩:=cons_of (l:=l22) (n:=53) h22
 obtain ⟨x23,l24,e23,h24⟩:=cons_of (l:=l23) (n:=52) h23
 obtain ⟨x24,l25,e24,h25⟩:=cons_of (l:=l24) (n:=51) h24
 obtain ⟨x25,l26,e25,h26⟩:=cons_of (l:=l25) (n:=50) h25
 obtain ⟨x26,l27,e26,h27⟩:=cons_of (l:=l26) (n:=49) h26
 obtain ⟨x27,l28,e27,h28⟩:=cons_of (l:=l27) (n:=48) h27
 obtain ⟨x28,l29,e28,h29⟩:=cons_of (l:=l28) (n:=47) h28
 obtain ⟨x29,l30,e29,h30⟩:=cons_of (l:=l29) (n:=46) h29
 obtain ⟨x30,l31,e30,h31⟩:=cons_of (l:=l30) (n:=45) h30
 obtain ⟨x31,l32,e31,h32⟩:=cons_of (l:=l31) (n:=44) h31
 obtain ⟨x32,l33,e32,h33⟩:=cons_of (l:=l32) (n:=43) h32
 obtain ⟨x33,l34,e33,h34⟩:=cons_of (l:=l33) (n:=42) h33
 obtain ⟨x34,l35,e34,h35⟩:=cons_of (l:=l34) (n:=41) h34
 obtain ⟨x35,l36,e35,h36⟩:=cons_of (l:=l35) (n:=40) h35
 obtain ⟨x36,l37,e36,h37⟩:=cons_of (l:=l36) (n:=39) h36
 obtain ⟨x37,l38,e37,h38⟩:=cons_of (l:=l37) (n:=38) h37
 obtain ⟨x38,l39,e38,h39⟩:=cons_of (l:=l38) (n:=37) h38
 obtain ⟨x39,l40,e39,h40⟩:=cons_of (l:=l39) (n:=36) h39
 obtain ⟨x40,l41,e40,h41⟩:=cons_of (l:=l40) (n:=35) h40
 obtain ⟨x41,l42,e41,h42⟩:=cons_of (l:=l41) (n:=34) h41
 obtain ⟨x42,l43,e42,h43⟩:=cons_of (l:=l42) (n:=33) h42
 obtain ⟨x43,l44,e43,h44⟩:=cons_of (l:=l43) (n:=32) h43
 obtain ⟨x44,l45,e44,h45⟩:=cons_of (l:=l44) (n:=31) h44
 obtain ⟨x45,l46,e45,h46⟩:=cons_of (l:=l45) (n:=30) h45
 obtain ⟨x46,l47,e46,h47⟩:=cons_of (l:=l46) (n:=29) h46
 obtain ⟨x47,l48,e47,h48⟩:=cons_of (l:=l47) (n:=28) h47
 obtain ⟨x48,l49,e48,h49⟩:=cons_of (l:=l48) (n:=27) h48
 obtain ⟨x49,l50,e49,h50⟩:=cons_of (l:=l49) (n:=26) h49
 obtain ⟨x50,l51,e50,h51⟩:=cons_of (l:=l50) (n:=25) h50
 obtain ⟨x51,l52,e51,h52⟩:=cons_of (l:=l51) (n:=24) h51
 obtain ⟨x52,l53,e52,h53⟩:=cons_of (l:=l52) (n:=23) h52
 obtain ⟨x53,l54,e53,h54⟩:=cons_of (l:=l53) (n:=22) h53
 obtain ⟨x54,l55,e54,h55⟩:=cons_of (l:=l54) (n:=21) h54
 obtain ⟨x55,l56,e55,h56⟩:=cons_of (l:=l55) (n:=20) h55
 obtain ⟨x56,l57,e56,h57⟩:=cons_of (l:=l56) (n:=19) h56
 obtain ⟨x57,l58,e57,h58⟩:=cons_of (l:=l57) (n:=18) h57
 obtain ⟨x58,l59,e58,h59⟩:=cons_of (l:=l58) (n:=17) h58
 obtain ⟨x59,l60,e59,h60⟩:=cons_of (l:=l59) (n:=16) h59
 obtain ⟨x60,l61,e60,h61⟩:=cons_of (l:=l60) (n:=15) h60
 obtain ⟨x61,l62,e61,h62⟩:=cons_of (l:=l61) (n:=14) h61
 obtain ⟨x62,l63,e62,h63⟩:=cons_of (l:=l62) (n:=13) h62
 obtain ⟨x63,l64,e63,h64⟩:=cons_of (l:=l63) (n:=12) h63
 obtain ⟨x64,l65,e64,h65⟩:=cons_of (l:=l64) (n:=11) h64
 obtain ⟨x65,l66,e65,h66⟩:=cons_of (l:=l65) (n:=10) h65
 obtain ⟨x66,l67,e66,h67⟩:=cons_of (l:=l66) (n:=9) h66
 obtain ⟨x67,l68,e67,h68⟩:=cons_of (l:=l67) (n:=8) h67
 obtain ⟨x68,l69,e68,h69⟩:=cons_of (l:=l68) (n:=7) h68
 obtain ⟨x69,l70,e69,h70⟩:=cons_of (l:=l69) (n:=6) h69
 obtain ⟨x70,l71,e70,h71⟩:=cons_of (l:=l70) (n:=5) h70
 obtain ⟨x71,l72,e71,h72⟩:=cons_of (l:=l71) (n:=4) h71
 obtain ⟨x72,l73,e72,h73⟩:=cons_of (l:=l72) (n:=3) h72
 obtain ⟨x73,l74,e73,h74⟩:=cons_of (l:=l73) (n:=2) h73
 obtain ⟨x74,l75,e74,h75⟩:=cons_of (l:=l74) (n:=1) h74
 obtain ⟨x75,l76,e75,h76⟩:=cons_of (l:=l75) (n:=0) h75
 have e76:=List.eq_nil_of_length_eq_zero h76
 refine ⟨x0,x1,x2,x3,x4,x5,x6,x7,x8,x9,x10,x11,x12,x13,x14,x15,x16,x17,x18,x19,x20,x21,x22,x23,x24,x25,x26,x27,x28,x29,x30,x31,x32,x33,x34,x35,x36,x37,x38,x39,x40,x41,x42,x43,x44,x45,x46,x47,x48,x49,x50,x51,x52,x53,x54,x55,x56,x57,x58,x59,x60,x61,x62,x63,x64,x65,x66,x67,x68,x69,x70,x71,x72,x73,x74,x75,?_⟩
 rw [e0,e1,e2,e3,e4,e5,e6,e7,e8,e9,e10,e11,e12,e13,e14,e15,e16,e17,e18,e19,e20,e21,e22,e23,e24,e25,e26,e27,e28,e29,e30,e31,e32,e33,e34,e35,e36,e37,e38,e39,e40,e41,e42,e43,e44,e45,e46,e47,e48,e49,e50,e51,e52,e53,e54,e55,e56,e57,e58,e59,e60,e61,e62,e63,e64,e65,e66,e67,e68,e69,e70,e71,e72,e73,e74,e75,e76]
theorem linesR_pos:∀ {l:List ByteArray} {a:Nat} {ls:List LnR} {ps:List Int} {o:List LnR×List Int},linesR l a ls ps=.inr o→(∀ p∈ps,0≤p)→∀ p∈o.2,0≤p
 | [],a,ls,ps,o,h,h0=>by
  rw [linesR] at h
  injection h with h
  subst h
  exact h0
 | s :: r,a,ls,ps,o,h,h0=>by
  rw [linesR] at h
  split at h
  ·exact linesR_pos h h0
  ·split at h
   ·cases h
   ·refine linesR_pos h (fun p hp=>?_)
    rcases List.mem_append.1 hp with hp | hp
    ·exact h0 p hp
    ·rw [List.mem_singleton.1 hp];omega
theorem ta_nil (w:World):(Instr.typeAssert .nilIface 37 183 true).run Tryz.prog w=.ok (.tuple #[.pointer none,.bool false]) w:=by kernel_rfl
theorem ta_no (c:Int) (w:World):(Instr.typeAssert (.iface 41 (.int .i64 c)) 37 183 true).run Tryz.prog w=.ok (.tuple #[.pointer none,.bool false]) w:=by kernel_rfl
theorem ta_yes (b:Nat) (w:World):(Instr.typeAssert (.iface 183 (.pointer (some ⟨b,0,none⟩))) 37 183 true).run Tryz.prog w=.ok (.tuple #[.pointer (some ⟨b,0,none⟩),.bool true]) w:=by kernel_rfl
theorem ownT_fr {S:Nat→Prop} {w w':World} {b s n:Nat} {e:TypeId} {v:Value} {xs:List Value} (h:w.ownsRow b e s v n xs) (hf:Fr S w w') (hs:∀ k cs,Blk w k e cs→b≤k→¬S k):w'.ownsRow b e s v n xs:=by
 refine ⟨h.1,?_⟩
 rcases h.2 with h2 | ⟨g,cap,cur,e9,hg,hgc,r⟩
 ·exact .inl h2
 ·have hk:Blk w g e cur:=hgc
  exact .inr ⟨g,cap,cur,e9,hg,hk.fr hf (hs g cur hk hg),r⟩
theorem CatO.fr3 {S:Nat→Prop} {w w':World} {base g:Nat} {qs:List LnQ} (h:CatO w base g qs) (hf:Fr S w w') (hs:∀ k,S k→k<base∧∀ cs,¬Blk w k 254 cs):CatO w' base g qs:=by
 obtain ⟨vl,vi,h1,h2,h3⟩:=h.is
 have hb:∀ k,base≤k→¬S k:=fun k hk e=>by have:=(hs k e).1;omega
 exact ⟨⟨vl,vi,h1.fr hf (hb _ h.ge),⟨ownT_fr h2.1 hf (fun k _ _ hk=>hb k hk),fun q hq=>⟨ownT_fr (h2.2 q hq).1 hf (fun k cs hk _ e=>(hs k e).2 cs hk),(h2.2 q hq).2⟩⟩,ownT_fr h3 hf (fun k _ _ hk=>hb k hk)⟩,h.ge⟩
theorem pa_end {V:World} {n:Nat} {x y:Value} (hb2:Blk V n 22 #[x]) (hb3:Blk V (n+1) 37 #[y]) (hK:V.heap[n+8]?=some (.deferred (some []))) (p u:Value) :
  Fr (fun k=>k=n∨k=n+1) V ((V.setCell ⟨n,0,none⟩ p).setCell ⟨n+1,0,none⟩ u)∧((V.setCell ⟨n,0,none⟩ p).setCell ⟨n+1,0,none⟩ u).heap[n+8]?=some (.deferred (some [])) ∧
  Fr (fun k=>k=n∨k=n+1∨k=n+8) V (((V.setCell ⟨n,0,none⟩ p).setCell ⟨n+1,0,none⟩ u).putObj (n+8) (.deferred none)) ∧
  (((V.setCell ⟨n,0,none⟩ p).setCell ⟨n+1,0,none⟩ u).putObj (n+8) (.deferred none)).cell? ⟨n,0,none⟩=some p∧(((V.setCell ⟨n,0,none⟩ p).setCell ⟨n+1,0,none⟩ u).putObj (n+8) (.deferred none)).cell? ⟨n+1,0,none⟩=some u:=by
 have hlt:n+8<V.heap.size:=by
  rcases Nat.lt_or_ge (n+8) V.heap.size with h9 | h9
  ·exact h9
  ·rw [Array.getElem?_eq_none h9] at hK;cases hK
 have hf:Fr (fun k=>k=n∨k=n+1) V ((V.setCell ⟨n,0,none⟩ p).setCell ⟨n+1,0,none⟩ u):=Fr.set_ (S:=fun k=>k=n∨k=n+1) (Fr.set_ (S:=fun k=>k=n∨k=n+1) (Fr.refl _ V) (p:=⟨n,0,none⟩) (.inl rfl) _) (p:=⟨n+1,0,none⟩) (.inr rfl) _
 have hK':=(hf.block (n+8) hlt (by omega)).trans hK
 have hg:=fr_putObj (S:=fun k=>k=n+8) ((V.setCell ⟨n,0,none⟩ p).setCell ⟨n+1,0,none⟩ u) (.deferred none) rfl
 have e0:=((hb2.set_ 0 p).far (p:=⟨n+1,0,none⟩) (by show n≠n+1;omega) u).fr hg (by omega)
 have e1:=((hb3.far (p:=⟨n,0,none⟩) (by show n+1≠n;omega) p).set_ 0 u).fr hg (by omega)
 exact ⟨hf,hK',(hf.mono fun k _ h=>by omega).trans (hg.mono fun k _ h=>by omega),e0.cell 0,e1.cell 0⟩
theorem pa_end2 {V:World} {n:Nat} {x y:Value} (hb2:Blk V n 22 #[x]) (hb3:Blk V (n+1) 37 #[y]) (hK:V.heap[n+8]?=some (.deferred (some []))) (p u:Value) (cs:Array Value) :
  ((((V.setCell ⟨n,0,none⟩ p).setCell ⟨n+1,0,none⟩ u).alloc (.cells cs 185)).drew).heap[n+8]?=some (.deferred (some [])) ∧
  Fr (fun k=>k=n∨k=n+1∨k=n+8) V (((((V.setCell ⟨n,0,none⟩ p).setCell ⟨n+1,0,none⟩ u).alloc (.cells cs 185)).drew).putObj (n+8) (.deferred none)) ∧
  (((((V.setCell ⟨n,0,none⟩ p).setCell ⟨n+1,0,none⟩ u).alloc (.cells cs 185)).drew).putObj (n+8) (.deferred none)).cell? ⟨n,0,none⟩=some p ∧
  (((((V.setCell ⟨n,0,none⟩ p).setCell ⟨n+1,0,none⟩ u).alloc (.cells cs 185)).drew).putObj (n+8) (.deferred none)).cell? ⟨n+1,0,none⟩=some u ∧
  Blk (((((V.setCell ⟨n,0,none⟩ p).setCell ⟨n+1,0,none⟩ u).alloc (.cells cs 185)).drew).putObj (n+8) (.deferred none)) V.heap.size 185 cs:=by
 obtain ⟨fr2,hK2,_⟩:=pa_end hb2 hb3 hK p u
 have hlt:n+8<V.heap.size:=by
  rcases Nat.lt_or_ge (n+8) V.heap.size with h9 | h9
  ·exact h9
  ·rw [Array.getElem?_eq_none h9] at hK;cases hK
 have e0:=(hb2.set_ 0 p).far (p:=⟨n+1,0,none⟩) (by show n≠n+1;omega) u
 have e1:=(hb3.far (p:=⟨n,0,none⟩) (by show n+1≠n;omega) p).set_ 0 u
 have hsz:((V.setCell ⟨n,0,none⟩ p).setCell ⟨n+1,0,none⟩ u).heap.size=V.heap.size:=by simp [World.setCell]
 generalize (V.setCell ⟨n,0,none⟩ p).setCell ⟨n+1,0,none⟩ u=V2 at fr2 hK2 e0 e1 hsz ⊢
 have hb4:=((Below.refl V2.heap.size V2).alloc (Nat.le_refl _) (.cells cs 185)).drew
 have hA:Blk (V2.alloc (.cells cs 185)).drew V.heap.size 185 cs:=by rw [←hsz];exact (Blk.new V2 _ _).drew
 have hK4:=(hb4.block (n+8) (by omega)).trans hK2
 have e0:=e0.below hb4 e0.lt
 have e1:=e1.below hb4 e1.lt
 have fr4:Fr (fun k=>k=n∨k=n+1) V (V2.alloc (.cells cs 185)).drew:=fr2.trans (.of_below hb4 (Nat.le_refl _))
 generalize (V2.alloc (.cells cs 185)).drew=V4 at hK4 e0 e1 fr4 hA ⊢
 have hg:=fr_putObj (S:=fun k=>k=n+8) V4 (.deferred none) rfl
 exact ⟨hK4,(fr4.mono fun k _ h=>by omega).trans (hg.mono fun k _ h=>by omega),(e0.fr hg (by omega)).cell 0,(e1.fr hg (by omega)).cell 0,hA.fr hg (by omega)⟩
def regOf (n:Nat):Code→Option (Array Oper)
 | .region i ops _=>if i=n then some ops else none
 | .seq a b=>match regOf n a with
  | some o=>some o
  | none=>regOf n b
 | .cond _ a b=>match regOf n a with
  | some o=>some o
  | none=>regOf n b
 | .block _ b=>regOf n b
 | .loop b=>regOf n b
 | .rangeFunc _ _ a b=>match regOf n a with
  | some o=>some o
  | none=>regOf n b
 | .scope b=>regOf n b
 | _=>none
noncomputable def opsP (n:Nat):Array Oper:=(Tryz.f43.body.bind (regOf n)).getD #[]
set_option maxHeartbeats 8000000 in
theorem step11 (w W:World) (u:Value) (f1:Int) (a:Nat) (l m:Nat) (a0:Act) (Q:Exit→Act→World→Prop)
  (f9:a0.tmps[9]?=some u) (f6:a0.tmps[6]?=some (.pointer (some ⟨w.heap.size+4,0,none⟩))) (f2:a0.tmps[2]?=some (.pointer (some ⟨w.heap.size,0,none⟩))) (f3:a0.tmps[3]?=some (.pointer (some ⟨w.heap.size+1,0,none⟩))) (HG:Hid (∀ lq ww,J11 w.heap.size W u f1 (a:Int) lq ww→GlobV ww)) :
  ∀ (i:Nat) (o:Oper) (listed:Array Bool) (a':Act) (ww:World),(opsP 11)[i]?=some o→listed.size=(opsP 11).size→i∈Region.ready .any (opsP 11) listed→StG (opsP 11) (r11 w.heap.size u f1 (a:Int)) (J11 w.heap.size W u f1 (a:Int)) a0 listed a' ww →
   Region.wanted o (yielded (opsP 11) a'.tmps)=true∧o.wpIn (Fence.wide.inRound l) m Tryz.prog a' ww (fun a'' w'=>∃ v,a''=a'.put o.dst v∧r11 w.heap.size u f1 (a:Int) i w' v∧(∀ k u9,listed.getD k false=true→r11 w.heap.size u f1 (a:Int) k ww u9→r11 w.heap.size u f1 (a:Int) k w' u9)∧J11 w.heap.size W u f1 (a:Int) (listed.setIfInBounds i true) w') Q:=by
 have hE:=(rfl:opsP 11=opsP 11)
 conv at hE=>rhs;whnf
 rw [hE]
 intro i o listed a' ww ho hls hr hI
 have hj:=hI.j
 have hfr:=StG.fresh hr
 have ho2:=ho
 have hlt:i<8:=(Array.getElem?_eq_some_iff.1 ho).1
 have hls2:listed.size=8:=hls
 rcases (show i=0∨i=1∨i=2∨i=3∨i=4∨i=5∨i=6∨i=7 by omega) with rfl | rfl | rfl | rfl | rfl | rfl | rfl | rfl
 ·injection ho with ho
  subst ho
  have r9:=hI.was (k:=9) (v:=u) (by kernel_rfl) f9
  have e9:=eval_slot r9
  refine ⟨rfl,oper_round (fun c e=>by cases e) ?_⟩
  clear hI hr
  go_simp
  exact ⟨_,rfl,rfl,hj.calm (by decide) (Below.refl _ _)⟩
 ·injection ho with ho
  subst ho
  obtain ⟨q30,r30,s30⟩:=hI.got hr ho2 0 30 (by kernel_rfl) rfl rfl
  obtain rfl:q30=u:=s30
  have e30:=eval_slot r30
  have hGE:=(HG.out _ _ hj).e
  refine ⟨rfl,oper_round (fun c e=>by cases e) ?_⟩
  have HT:=hide (tellU hj.er hGE)
  clear hI hr hGE
  go_simp
  refine HT.out.mono ?_
  rintro e w9 ⟨rfl,hb9⟩
  exact ⟨_,rfl,rfl,fun k v _ h=>r11_below hb9 h,hj.calm (by decide) hb9⟩
 ·injection ho with ho
  subst ho
  have r6:=hI.was (k:=6) (v:=.pointer (some ⟨w.heap.size+4,0,none⟩)) (by kernel_rfl) f6
  have e6:=eval_slot r6
  have y6:=hj.b6.cell 0
  refine ⟨rfl,oper_round (fun c e=>by cases e) ?_⟩
  clear hI hr
  go_simp
  exact ⟨_,rfl,rfl,hj.calm (by decide) (Below.refl _ _)⟩
 ·injection ho with ho
  subst ho
  obtain ⟨q31,r31,s31⟩:=hI.got hr ho2 1 31 (by kernel_rfl) rfl rfl
  obtain ⟨q32,r32,s32⟩:=hI.got hr ho2 2 32 (by kernel_rfl) rfl rfl
  obtain rfl:q31=.int .i64 f1:=s31
  obtain rfl:q32=.int .i64 (a:Int):=s32
  have e31:=eval_slot r31
  have e32:=eval_slot r32
  refine ⟨rfl,oper_round (fun c e=>by cases e) ?_⟩
  clear hI hr
  go_simp
  exact ⟨_,rfl,rfl,hj.calm (by decide) (Below.refl _ _)⟩
 ·injection ho with ho
  subst ho
  obtain ⟨q33,r33,s33⟩:=hI.got hr ho2 3 33 (by kernel_rfl) rfl rfl
  obtain rfl:q33=.agg #[.int .i64 f1,.int .i64 (a:Int)]:=s33
  have e33:=eval_slot r33
  have hal:=(Below.refl ww.heap.size ww).alloc (Nat.le_refl _) (.cells #[.int .i64 f1,.int .i64 (a:Int)] 185)
  refine ⟨rfl,oper_round (fun c e=>by cases e) ?_⟩
  clear hI hr
  go_simp
  exact ⟨_,rfl,⟨ww.heap.size,rfl,hj.big,Blk.new ww _ _⟩,fun k v _ h=>r11_below hal h,hj.calm (by decide) hal⟩
 ·injection ho with ho
  subst ho
  obtain ⟨q34,r34,s34⟩:=hI.got hr ho2 4 34 (by kernel_rfl) rfl rfl
  obtain ⟨g34,rfl,h34,k34⟩:=s34
  have e34:=eval_slot r34
  refine ⟨rfl,oper_round (fun c e=>by cases e) ?_⟩
  clear hI hr
  go_simp
  exact ⟨_,rfl,⟨g34,rfl,h34,k34⟩,hj.calm (by decide) (Below.refl _ _)⟩
 ·injection ho with ho
  subst ho
  have r2:=hI.was (k:=2) (v:=.pointer (some ⟨w.heap.size,0,none⟩)) (by kernel_rfl) f2
  have e2:=eval_slot r2
  have yb:=hj.b2.cell 0
  have fb:=hj.b2.frozen 0
  refine ⟨rfl,oper_round (fun c e=>by cases e) ?_⟩
  clear hI hr
  go_simp
  exact ⟨⟨undef,trivial⟩,fun k v _ h=>r11_keep (fun g cs hg hk=>hk.far (by show g≠w.heap.size;omega) _) h,hj.at6⟩
 ·injection ho with ho
  subst ho
  have r3:=hI.was (k:=3) (v:=.pointer (some ⟨w.heap.size+1,0,none⟩)) (by kernel_rfl) f3
  have e3:=eval_slot r3
  obtain ⟨q35,r35,s35⟩:=hI.got hr ho2 5 35 (by kernel_rfl) rfl rfl
  obtain ⟨g35,rfl,h35,k35⟩:=s35
  have e35:=eval_slot r35
  have kb:=hj.n3 hfr
  have yb:=kb.cell 0
  have fb:=kb.frozen 0
  refine ⟨rfl,oper_round (fun c e=>by cases e) ?_⟩
  clear hI hr
  go_simp
  exact ⟨⟨undef,trivial⟩,fun k v _ h=>r11_keep (fun g cs hg hk=>hk.far (by show g≠w.heap.size+1;omega) _) h,hj.at7 hfr (by omega) h35 k35⟩
set_option maxHeartbeats 8000000 in
theorem step12 (w w2 W:World) (v4 v5:Value) (qs:List LnQ) (ps:List Int) (y:LnR) (A6:Option Addr) (c6 a:Nat) (l m:Nat) (a0:Act) (Q:Exit→Act→World→Prop)
  (f4:a0.tmps[4]?=some (.pointer (some ⟨w.heap.size+2,0,none⟩))) (f5:a0.tmps[5]?=some (.pointer (some ⟨w.heap.size+3,0,none⟩))) (f6:a0.tmps[6]?=some (.pointer (some ⟨w.heap.size+4,0,none⟩))) (f8:a0.tmps[8]?=some (.pointer (some ⟨w2.heap.size,0,none⟩))) (hqn:qs.length≤80000000) (hpn:ps.length≤80000000) :
  ∀ (i:Nat) (o:Oper) (listed:Array Bool) (a':Act) (ww:World),(opsP 12)[i]?=some o→listed.size=(opsP 12).size→i∈Region.ready .any (opsP 12) listed→StG (opsP 12) (r12 w.heap.size v4 v5 qs ps (y,A6,y.rg.length,c6) (a:Int)) (J12 w.heap.size w2.heap.size W v4 v5 qs ps (y,A6,y.rg.length,c6) (a:Int)) a0 listed a' ww →
   Region.wanted o (yielded (opsP 12) a'.tmps)=true∧o.wpIn (Fence.wide.inRound l) m Tryz.prog a' ww (fun a'' w'=>∃ v,a''=a'.put o.dst v∧r12 w.heap.size v4 v5 qs ps (y,A6,y.rg.length,c6) (a:Int) i w' v∧(∀ k u,listed.getD k false=true→r12 w.heap.size v4 v5 qs ps (y,A6,y.rg.length,c6) (a:Int) k ww u→r12 w.heap.size v4 v5 qs ps (y,A6,y.rg.length,c6) (a:Int) k w' u)∧J12 w.heap.size w2.heap.size W v4 v5 qs ps (y,A6,y.rg.length,c6) (a:Int) (listed.setIfInBounds i true) w') Q:=by
 have hE:=(rfl:opsP 12=opsP 12)
 conv at hE=>rhs;whnf
 rw [hE]
 intro i o listed a' ww ho hls hr hI
 have hj:=hI.j
 have hfr:=StG.fresh hr
 have ho2:=ho
 have hlt:i<10:=(Array.getElem?_eq_some_iff.1 ho).1
 have hls2:listed.size=10:=hls
 rcases (show i=0∨i=1∨i=2∨i=3∨i=4∨i=5∨i=6∨i=7∨i=8∨i=9 by omega) with rfl | rfl | rfl | rfl | rfl | rfl | rfl | rfl | rfl | rfl
 ·injection ho with ho
  subst ho
  have r4:=hI.was (k:=4) (v:=.pointer (some ⟨w.heap.size+2,0,none⟩)) (by kernel_rfl) f4
  have e4:=eval_slot r4
  have y4:=(hj.A4 (hj.l8 hfr)).cell 0
  refine ⟨rfl,oper_round (fun c e=>by cases e) ?_⟩
  clear hI hr
  go_simp
  exact ⟨_,rfl,rfl,hj.calm (by decide) (Below.refl _ _)⟩
 ·injection ho with ho
  subst ho
  have r8:=hI.was (k:=8) (v:=.pointer (some ⟨w2.heap.size,0,none⟩)) (by kernel_rfl) f8
  have e8:=eval_slot r8
  have y0:ww.cell? ⟨w2.heap.size,0,none⟩=some (.int .i64 y.k):=hj.k.x8.cell 0
  have y1:ww.cell? ⟨w2.heap.size,1,none⟩=some (.string y.name):=hj.k.x8.cell 1
  have y2:ww.cell? ⟨w2.heap.size,2,none⟩=some (.int .i64 (y.ver 0)):=hj.k.x8.cell 2
  have y3:ww.cell? ⟨w2.heap.size,3,none⟩=some (.int .i64 (y.ver 1)):=hj.k.x8.cell 3
  have y4:ww.cell? ⟨w2.heap.size,4,none⟩=some (.int .i64 (y.ver 2)):=hj.k.x8.cell 4
  have y5:ww.cell? ⟨w2.heap.size,5,none⟩=some (.string y.other):=hj.k.x8.cell 5
  have y6:ww.cell? ⟨w2.heap.size,6,none⟩=some (.slice A6 y.rg.length c6):=hj.k.x8.cell 6
  refine ⟨rfl,oper_round (fun c e=>by cases e) ?_⟩
  clear hI hr
  go_simp
  exact ⟨_,rfl,rfl,hj.calm (by decide) (Below.refl _ _)⟩
 ·injection ho with ho
  subst ho
  obtain ⟨q37,r37,s37⟩:=hI.got hr ho2 1 37 (by kernel_rfl) rfl rfl
  rw [show q37=.agg #[.int .i64 y.k,.string y.name,.int .i64 (y.ver 0),.int .i64 (y.ver 1),.int .i64 (y.ver 2),.string y.other,.slice A6 y.rg.length c6] from s37] at r37
  have e37:=eval_slot r37
  have hal:=(Below.refl ww.heap.size ww).alloc (Nat.le_refl _) (.cells #[.int .i64 y.k,.string y.name,.int .i64 (y.ver 0),.int .i64 (y.ver 1),.int .i64 (y.ver 2),.string y.other,.slice A6 y.rg.length c6] 90)
  refine ⟨rfl,oper_round (fun c e=>by cases e) ?_⟩
  clear hI hr
  go_simp
  exact ⟨_,rfl,⟨ww.heap.size,rfl,Blk.new ww _ _,fun e=>Nat.lt_irrefl _ (hj.k.lt4 _ e)⟩,fun k u _ h=>r12_below hal h,hj.calm (by decide) hal⟩
 ·injection ho with ho
  subst ho
  obtain ⟨q36,r36,s36⟩:=hI.got hr ho2 0 36 (by kernel_rfl) rfl rfl
  obtain ⟨q38,r38,s38⟩:=hI.got hr ho2 2 38 (by kernel_rfl) rfl rfl
  obtain rfl:q36=v4:=s36
  obtain ⟨g38,rfl,k38,n38⟩:=s38
  have hh0:=StG.ahead hr ho2 0 (by kernel_rfl)
  have ty:∀ k,q36.ownBlock=some k→∃ cs,Blk ww k 90 cs:=fun k e=>(own_blk (hj.A hfr) e).imp fun _ h=>h.1
  refine and_of rfl fun hw=>oper_round (fun c e=>by cases e) (of_if (X:=False) hw (stepK1 elP ww linePInfo rfl (by decide) rfl (.tmp 36) (.tmp 38) _ rfl (w.heap.size+10) Tryz.underlying165 q36 qs (eval_slot r36) (hj.A hfr) g38 1 (y,A6,y.rg.length,c6) (eval_slot r38) k38 (by omega) (Nat.le_trans hj.k.h8 (Nat.le_of_lt hj.k.x8.lt)) ?_))
  intro v9 w9 ho9 hg9 _
  exact ⟨v9,rfl,ho9,fun k u hk h=>r12_keep hg9 (fun g cs h1 h2 e=>h2 e.symm) (fun g cs h1 _=>blk_apart h1 fun k e=>by obtain ⟨cs,h2⟩:=ty k e;exact ⟨_,cs,h2,by decide⟩) (fun e=>by subst e;rw [hfr] at hk;cases hk) (fun _ k e=>by obtain ⟨cs,h2⟩:=ty k e;exact ⟨_,cs,h2,by decide⟩) h,hj.at3 hfr hh0 (by omega) hg9⟩
 ·injection ho with ho
  subst ho
  have r5:=hI.was (k:=5) (v:=.pointer (some ⟨w.heap.size+3,0,none⟩)) (by kernel_rfl) f5
  have e5:=eval_slot r5
  have y5:=(hj.B5 (hj.l9 hfr)).cell 0
  refine ⟨rfl,oper_round (fun c e=>by cases e) ?_⟩
  clear hI hr
  go_simp
  exact ⟨_,rfl,rfl,hj.calm (by decide) (Below.refl _ _)⟩
 ·injection ho with ho
  subst ho
  have r6:=hI.was (k:=6) (v:=.pointer (some ⟨w.heap.size+4,0,none⟩)) (by kernel_rfl) f6
  have e6:=eval_slot r6
  have y6:=hj.k.b6.cell 0
  refine ⟨rfl,oper_round (fun c e=>by cases e) ?_⟩
  clear hI hr
  go_simp
  exact ⟨_,rfl,rfl,hj.calm (by decide) (Below.refl _ _)⟩
 ·injection ho with ho
  subst ho
  obtain ⟨q41,r41,s41⟩:=hI.got hr ho2 5 41 (by kernel_rfl) rfl rfl
  rw [show q41=.int .i64 (a:Int) from s41] at r41
  have e41:=eval_slot r41
  have hal:=(Below.refl ww.heap.size ww).alloc (Nat.le_refl _) (.cells #[.int .i64 (a:Int)] 3)
  refine ⟨rfl,oper_round (fun c e=>by cases e) ?_⟩
  clear hI hr
  go_simp
  exact ⟨_,rfl,⟨ww.heap.size,rfl,Blk.new ww _ _,fun e=>Nat.lt_irrefl _ (hj.k.lt5 _ e)⟩,fun k u _ h=>r12_below hal h,hj.calm (by decide) hal⟩
 ·injection ho with ho
  subst ho
  obtain ⟨q40,r40,s40⟩:=hI.got hr ho2 4 40 (by kernel_rfl) rfl rfl
  obtain ⟨q42,r42,s42⟩:=hI.got hr ho2 6 42 (by kernel_rfl) rfl rfl
  obtain rfl:q40=v5:=s40
  obtain ⟨g42,rfl,k42,n42⟩:=s42
  have hh4:=StG.ahead hr ho2 4 (by kernel_rfl)
  have ty:∀ k,q40.ownBlock=some k→∃ cs,Blk ww k 3 cs:=fun k e=>(own_blk (hj.B hfr) e).imp fun _ h=>h.1
  refine and_of rfl fun hw=>oper_round (fun c e=>by cases e) (of_if (X:=False) hw (stepI1 ww rfl (.tmp 40) (.tmp 42) _ rfl (w.heap.size+10) Tryz.underlying31 q40 ps (eval_slot r40) (hj.B hfr) (g42+1) (some ⟨g42,0,none⟩) 1 1 [(a:Int)] (eval_slot r42) (blk_reads (zs:=[(a:Int)]) k42) rfl (by omega) (Nat.le_trans hj.k.h8 (Nat.le_of_lt hj.k.x8.lt)) ?_))
  intro v9 w9 ho9 hg9 _
  exact ⟨v9,rfl,ho9,fun k u hk h=>r12_keep hg9 (fun g cs h1 _=>blk_apart h1 fun k e=>by obtain ⟨cs,h2⟩:=ty k e;exact ⟨_,cs,h2,by decide⟩) (fun g cs h1 h2 e=>h2 e.symm) (fun _ k e=>by obtain ⟨cs,h2⟩:=ty k e;exact ⟨_,cs,h2,by decide⟩) (fun e=>by subst e;rw [hfr] at hk;cases hk) h,hj.at7 hfr hh4 (by omega) hg9⟩
 ·injection ho with ho
  subst ho
  have r4:=hI.was (k:=4) (v:=.pointer (some ⟨w.heap.size+2,0,none⟩)) (by kernel_rfl) f4
  have e4:=eval_slot r4
  obtain ⟨q39,r39,s39⟩:=hI.got hr ho2 3 39 (by kernel_rfl) rfl rfl
  obtain ⟨A39,c39,rfl,_⟩:=(show OwnK elP ww _ q39 _ from s39).len
  have el:(qs++[(y,A6,y.rg.length,c6)]).length=qs.length+1:=by simp
  rw [el] at r39
  have t39:OwnK elP ww (w.heap.size+10) (.slice A39 (qs.length+1) c39) (qs++[(y,A6,y.rg.length,c6)]):=by rw [←el];exact s39
  have e39:=eval_slot r39
  have hh:=StG.ahead hr ho2 3 (by kernel_rfl)
  have kb:=hj.A4 hfr
  have yb:=kb.cell 0
  have fb:=kb.frozen 0
  have hg9:ww.grownBy (ww.setCell ⟨w.heap.size+2,0,none⟩ (.slice A39 (qs.length+1) c39)) (some (w.heap.size+2)):=only_setCell (p:=⟨w.heap.size+2,0,none⟩) (World.grownBy.refl ww _) (.inl rfl) _
  have ty:∀ k,some (w.heap.size+2)=some k→∃ cs,Blk ww k 165 cs:=fun k e=>by obtain rfl:=Option.some.inj e;exact ⟨_,kb⟩
  refine ⟨rfl,oper_round (fun c e=>by cases e) ?_⟩
  clear hI hr
  go_simp
  exact ⟨⟨undef,trivial⟩,fun k u hk h=>r12_keep hg9 (fun g cs h1 _=>blk_apart h1 fun k e=>by obtain ⟨cs,h2⟩:=ty k e;exact ⟨_,cs,h2,by decide⟩) (fun g cs h1 _=>blk_apart h1 fun k e=>by obtain ⟨cs,h2⟩:=ty k e;exact ⟨_,cs,h2,by decide⟩) (fun _ k e=>by obtain ⟨cs,h2⟩:=ty k e;exact ⟨_,cs,h2,by decide⟩) (fun _ k e=>by obtain ⟨cs,h2⟩:=ty k e;exact ⟨_,cs,h2,by decide⟩) h,hj.at8 hfr hh (by omega) t39⟩
 ·injection ho with ho
  subst ho
  have r5:=hI.was (k:=5) (v:=.pointer (some ⟨w.heap.size+3,0,none⟩)) (by kernel_rfl) f5
  have e5:=eval_slot r5
  obtain ⟨q43,r43,s43⟩:=hI.got hr ho2 7 43 (by kernel_rfl) rfl rfl
  obtain ⟨A43,c43,rfl⟩:=(show OwnI ww _ q43 _ from s43).len
  have el:(ps++[(a:Int)]).length=ps.length+1:=by simp
  rw [el] at r43
  have t43:OwnI ww (w.heap.size+10) (.slice A43 (ps.length+1) c43) (ps++[(a:Int)]):=by rw [←el];exact s43
  have e43:=eval_slot r43
  have hh:=StG.ahead hr ho2 7 (by kernel_rfl)
  have kb:=hj.B5 hfr
  have yb:=kb.cell 0
  have fb:=kb.frozen 0
  have hg9:ww.grownBy (ww.setCell ⟨w.heap.size+3,0,none⟩ (.slice A43 (ps.length+1) c43)) (some (w.heap.size+3)):=only_setCell (p:=⟨w.heap.size+3,0,none⟩) (World.grownBy.refl ww _) (.inl rfl) _
  have ty:∀ k,some (w.heap.size+3)=some k→∃ cs,Blk ww k 31 cs:=fun k e=>by obtain rfl:=Option.some.inj e;exact ⟨_,kb⟩
  refine ⟨rfl,oper_round (fun c e=>by cases e) ?_⟩
  clear hI hr
  go_simp
  exact ⟨⟨undef,trivial⟩,fun k u hk h=>r12_keep hg9 (fun g cs h1 _=>blk_apart h1 fun k e=>by obtain ⟨cs,h2⟩:=ty k e;exact ⟨_,cs,h2,by decide⟩) (fun g cs h1 _=>blk_apart h1 fun k e=>by obtain ⟨cs,h2⟩:=ty k e;exact ⟨_,cs,h2,by decide⟩) (fun _ k e=>by obtain ⟨cs,h2⟩:=ty k e;exact ⟨_,cs,h2,by decide⟩) (fun _ k e=>by obtain ⟨cs,h2⟩:=ty k e;exact ⟨_,cs,h2,by decide⟩) h,hj.at9 hfr hh (by omega) t43⟩
def rngOf:Code→Option Code
 | .seq a b=>match rngOf a with
  | some o=>some o
  | none=>rngOf b
 | .cond _ a b=>match rngOf a with
  | some o=>some o
  | none=>rngOf b
 | .block _ b=>rngOf b
 | .loop b=>rngOf b
 | .rangeFunc _ _ _ b=>some b
 | .scope b=>rngOf b
 | _=>none
noncomputable def bodyP:Code:=(Tryz.f43.body.bind rngOf).getD .skip
def frameP (t:ByteArray) (w:World) (x:ByteArray):Act:={ tmps:=#[.string t,undef,.pointer (some ⟨w.heap.size,0,none⟩),.pointer (some ⟨w.heap.size+1,0,none⟩),.pointer (some ⟨w.heap.size+2,0,none⟩),.pointer (some ⟨w.heap.size+3,0,none⟩),.pointer (some ⟨w.heap.size+4,0,none⟩),.string x,undef,undef,undef,undef,undef,undef,.string t,.int .i64 (t.size:Int),.bool false,undef,.string t,.func (.func 191) #[] #[.pointer (some ⟨w.heap.size+6,0,none⟩),.pointer (some ⟨w.heap.size+5,0,none⟩),.pointer (some ⟨w.heap.size+7,0,none⟩)],.string x,undef,undef,undef,undef,undef,undef,undef,undef,undef,undef,undef,undef,undef,undef,undef,undef,undef,undef,undef,undef,undef,undef,undef,undef,undef,undef,undef,undef,undef,undef,undef,undef,undef,undef,undef,undef,undef,undef,undef,undef,undef,undef,undef,undef,undef,undef,undef,undef,undef,undef,undef,undef,undef,undef,undef],defers:=[] }
set_option maxHeartbeats 8000000 in
theorem parseBody_any (t:ByteArray) (w:World) (hG:GlobV w) (hs:t.size≤9223372036854775807) (hl:¬20000<t.size) :
  ∀ (l:Nat) (pre:List ByteArray) (x:ByteArray) (r:List ByteArray) (W:World),PaI w t pre W→pre++x :: r=pieL ⟨#[10]⟩ t→w.heap.size+8+2≤W.heap.size →
   bodyP.wpIn (Fence.wide.inRound l) (4-1-1) Tryz.prog (seqPost (paX w.heap.size) (PaI w t) (fun _=>PaX w t) (pre++[x]) W) (frameP t w x) W:=by
 have HG:=hide hG
 have hz:¬(t.size:Int) > 20000:=by omega
 have hE:=(rfl:bodyP=bodyP)
 conv at hE=>rhs;whnf
 rw [hE]
 clear hE
 unfold frameP
 intro l pre x r W hI hpx hsz
 obtain ⟨v4,v5,qs,ps,a,hM,hi,hq,hpl,ha⟩:=hI.is
 have hmem:x∈nlL t:=by rw [show nlL t=pieL ⟨#[10]⟩ t from rfl,←hpx];exact List.mem_append_right _ (List.mem_cons_self ..)
 have hps:=Nat.le_trans (nl_le hmem) (Nat.le_of_not_lt hl)
 have hdr:(nlL t).drop pre.length=x :: r:=by rw [show nlL t=pieL ⟨#[10]⟩ t from rfl,←hpx,List.drop_left]
 have hbl:=nl_len t
 have hpre:pre.length<20002:=by
  have:(nlL t).length=pre.length+(r.length+1):=by rw [show nlL t=pieL ⟨#[10]⟩ t from rfl,←hpx];simp
  omega
 rw [hdr] at hi
 have HI:=Lib.hid hi
 have HM:=hide hM
 have HBW:=hide hI.bel
 have HPX:=Lib.hid hpx
 have HQ:=Lib.hid hq
 have HPL:=Lib.hid hpl
 have HA:=Lib.hid ha
 have HSZ:=Lib.hid hsz
 have HPS:=Lib.hid hps
 have HPRE:=Lib.hid hpre
 have HGW:=hide (HG.out.below hI.bel)
 have hpz:(x.size:Int)≤20000:=by omega
 have ha2:(a:Int)≤500000000:=by omega
 clear hI hmem hdr hbl hi hq hpl hps hpre hsz hpx ha hs hG hz hl
 have y6:=HM.out.b6.cell 0
 have f6:=HM.out.b6.frozen 0
 by_cases hp0:x.size=0
 ·have hpe:x.toList=[]:=by rw [ByteArray.toList_eq];exact List.eq_nil_of_length_eq_zero hp0
  have hr2:x.toList.isEmpty=true:=by rw [hpe];rfl
  have hr1:(!x.toList.isEmpty)=false:=by rw [hpe];rfl
  have HI2:=Lib.hid ((linesR_skip hp0).symm.trans HI.out)
  have HN:=Lib.hid (fun (W':World) (hW:W'=W.setCell ⟨w.heap.size+4,0,none⟩ (.int .i64 ((a+x.size+1:Nat):Int)))=>HM.out.next HBW.out HPX.out HI2.out (Nat.le_succ_of_le HQ.out) HPL.out (by have:=HA.out;omega) hW)
  have hN:=HN.out _ rfl
  rw [show ((a+x.size+1:Nat):Int)=(a:Int)+((x.size:Int)+1) by omega] at hN
  have HN2:=Lib.hid hN
  clear hp0 hN HN
  gi_wp2
  exact HN2.out
 ·have hpe:¬x.toList=[]:=by
   intro e
   rw [ByteArray.toList_eq] at e
   exact hp0 (congrArg List.length e:x.data.toList.length=0)
  have hr2:x.toList.isEmpty=false:=by simpa using hpe
  have hr1:(!x.toList.isEmpty)=true:=by rw [hr2];rfl
  have HP0:=Lib.hid hp0
  have HPR:=hide (parseLine_any x W HGW.out (by have:=HPS.out;omega))
  clear hp0
  gi_wp2_with fail
  refine ⟨trivial,?_⟩
  refine (CallsIn.inRound l (callsIn_wide.2 HPR.out)).mono ?_
  rintro e w2 (⟨f,u,hlr,hf0,rfl,her,hb2⟩ | ⟨y,v,hlr,hcan,rfl,ho,hb2⟩)
  ·obtain ⟨heu,hf1,hf2⟩:=errU_of her hf0
   have hsz2:w.heap.size+10≤w2.heap.size:=Nat.le_trans HSZ.out hb2.size
   have HBE:=Lib.hid (Eq.trans HI.out.symm (linesR_bad HP0.out hlr))
   have HJ:=hide (j11_start HM.out hb2 heu hsz2 (.cells #[.int .i64 0,.string ⟨#[]⟩,.int .i64 0,.int .i64 0,.int .i64 0,.string ⟨#[]⟩,.slice none 0 0] 90))
   have hmx:Tryz.prog.follows .mixedOrders=true:=by kernel_rfl
   unfold lnC ln0
   simp only []
   generalize f.1=f1 at hf0 heu hf1 hf2 HBE HJ
   clear hlr hf0 her hb2 HPR
   have HEU:=Lib.hid heu
   clear heu
   obtain ⟨Tu,xu,hu⟩:∃ T x,u=.iface T x:=by
    rcases HEU.out with hu | ⟨bu,pu,hu,_⟩
    ·exact ⟨_,_,hu⟩
    ·exact ⟨_,_,hu⟩
   ·rw [hu]
    gi_wp2_with fail
    rw [←hu]
    clear hu
    refine wpIn_region_stG (R:=r11 w.heap.size u f1 (a:Int)) (J:=J11 w.heap.size W u f1 (a:Int)) 76 hmx rfl (by kernel_rfl) (by kernel_rfl) (by kernel_rfl) HJ.out ?step ?fin
    case fin =>
     intro listed a' ww hall hI
     have hend:=hI.j.out (hall 7 (by decide)) HBW.out hf1 hf2 HBE.out
     clear hI hall
     gi_wp2
     exact hend
    case step =>
     refine step11 w W u f1 a _ _ _ _ ?_ ?_ ?_ ?_ (Lib.hid fun _ _ hj=>HG.out.below (HBW.out.trans (hj.fr.to_below HBW.out.size (fun k hk=>by unfold paX;omega))))
     all_goals rfl
  ·obtain ⟨A6,c6,rfl⟩:=ho.len
   have HLR:=Lib.hid hlr
   have hok:=lineR_ok hlr (by have:=HPS.out;omega) hcan
   have hsz2:w.heap.size+10≤w2.heap.size:=Nat.le_trans HSZ.out hb2.size
   have HJ:=hide (j12_start (q:=(y,A6,y.rg.length,c6)) HM.out hb2 (ho.mono HSZ.out) hok hsz2)
   have HI2:=Lib.hid ((linesR_add HP0.out hlr).symm.trans HI.out)
   have hmx:Tryz.prog.follows .mixedOrders=true:=by kernel_rfl
   unfold lnC
   clear hlr hcan ho hb2 hok HPR
   gi_wp2_with fail
   refine wpIn_region_stG (R:=r12 w.heap.size v4 v5 qs ps (y,A6,y.rg.length,c6) (a:Int)) (J:=J12 w.heap.size w2.heap.size W v4 v5 qs ps (y,A6,y.rg.length,c6) (a:Int)) 76 hmx rfl (by kernel_rfl) (by kernel_rfl) (by kernel_rfl) HJ.out ?step ?fin
   case fin =>
    intro listed a' ww hall hI
    obtain ⟨v4',v5',hM2⟩:=hI.j.out (hall 8 (by decide)) (hall 9 (by decide))
    have r6:=hI.was (k:=6) (v:=.pointer (some ⟨w.heap.size+4,0,none⟩)) (by kernel_rfl) rfl
    have e6:=eval_slot r6
    have r7:=hI.was (k:=7) (v:=.string x) (by kernel_rfl) rfl
    have e7:=eval_slot r7
    have hsz:a'.tmps.size=76:=hI.size
    have y6:=hM2.b6.cell 0
    have f6:=hM2.b6.frozen 0
    have hN:=hM2.next HBW.out HPX.out (a':=a+x.size+1) (by rw [List.map_append];exact HI2.out) (by have:=HQ.out;simp;omega) (by have:=HPL.out;simp;omega) (by have:=HA.out;have:=HPS.out;omega) rfl
    rw [show ((a+x.size+1:Nat):Int)=(a:Int)+((x.size:Int)+1) by omega] at hN
    have HN2:=Lib.hid hN
    clear hN hI hM2 HJ hall e6 e7
    obtain ⟨tm,df⟩:=a'
    obtain ⟨x0,x1,x2,x3,x4,x5,x6,x7,x8,x9,x10,x11,x12,x13,x14,x15,x16,x17,x18,x19,x20,x21,x22,x23,x24,x25,x26,x27,x28,x29,x30,x31,x32,x33,x34,x35,x36,x37,x38,x39,x40,x41,x42,x43,x44,x45,x46,x47,x48,x49,x50,x51,x52,x53,x54,x55,x56,x57,x58,x59,x60,x61,x62,x63,x64,x65,x66,x67,x68,x69,x70,x71,x72,x73,x74,x75,rfl⟩:=arr76 tm hsz
    simp only [List.getElem?_toArray,List.getElem?_cons_zero,List.getElem?_cons_succ,Option.some.injEq] at r6 r7
    subst r6 r7
    clear hsz
    gi_wp2
    exact HN2.out
   case step =>
    refine step12 w w2 W v4 v5 qs ps y A6 c6 a _ _ _ _ ?_ ?_ ?_ ?_ (by have:=HQ.out;have:=HPRE.out;omega) (by have:=HQ.out;have:=HPRE.out;have:=HPL.out;omega)
    all_goals rfl
end Go.Proofs.YtojgbcmhdnappaaGreatDoor
