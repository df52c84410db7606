/-
  A part of the proof: RuLits, ClOf. Conditions: none.
-/
import Derived.Test.YtojgbcmhdnappaaGreatDoorAlReaPure
import Derived.Test.YtojgbcmhdnappaaGreatDoorAlRuSame
namespace Go.Proofs.YtojgbcmhdnappaaGreatDoor
open Classical
def LitsIn (n:Nat) (z:List Int):Prop:=(∀ x∈z,x≠0∧(x.natAbs:Int)≤n)∧z.length≤n+2
theorem twinR_lits {nm:ByteArray} {k n:Nat} (hk:k<n):∀ (l:List ItR) (i:Nat),i+l.length≤n→∀ c∈twinR nm k l i,LitsIn n c.1
 | [],_,_,c,hc=>absurd hc List.not_mem_nil
 | a :: r,i,h,c,hc=>by
  rw [List.length_cons] at h
  have ih:=twinR_lits (nm:=nm) hk r (i+1) (by omega)
  rw [twinR] at hc
  split at hc
  ·rcases List.mem_cons.1 hc with rfl | hc
   ·refine ⟨fun x hx=>?_,by simp⟩
    simp only [List.mem_cons,List.not_mem_nil,or_false] at hx
    rcases hx with rfl | rfl <;> omega
   ·exact ih c hc
  ·exact ih c hc
theorem twinsR_lits {its:List ItR}:∀ (l:List ItR) (k:Nat),k+l.length≤its.length→∀ c∈twinsR its l k,LitsIn its.length c.1
 | [],_,_,c,hc=>absurd hc List.not_mem_nil
 | b :: r,k,h,c,hc=>by
  rw [List.length_cons] at h
  rw [twinsR] at hc
  rcases List.mem_append.1 hc with hc | hc
  ·exact twinR_lits (by omega) _ 0 (by rw [List.length_take];omega) c hc
  ·exact twinsR_lits r (k+1) (by omega) c hc
theorem amF_lits {nm:ByteArray} {rg:List (Nat×Nat)} {its:List ItR} {x:Int} (hx:x∈upF (amF nm rg its 0)):x≠0∧(x.natAbs:Int)≤its.length:=by
 unfold upF at hx
 obtain ⟨z,hz,rfl⟩:=List.mem_map.1 hx
 have:=amF_range nm rg its 0 z hz
 omega
theorem ruL_lits {its:List ItR} {x:LnR} (hx:x.k=2∨x.k=3→itL x∈its) (n:Nat):∀ c∈ruL its x n,LitsIn its.length c.1:=by
 intro c hc
 have h1:=amF_len x.name x.rg its 0
 have h2:=amF_len x.other x.rg its 0
 have hl:∀ zs:List Int,(upF zs).length=zs.length:=fun zs=>by unfold upF;rw [List.length_map]
 unfold ruL at hc
 split at hc
 ·rw [List.mem_singleton.1 hc]
  exact ⟨fun y hy=>amF_lits hy,by rw [hl];omega⟩
 ·split at hc
  ·rename_i h2k
   have hp:=posN_in (hx (.inl h2k))
   rw [List.mem_singleton.1 hc]
   refine ⟨fun y hy=>?_,by rw [List.length_cons,hl];omega⟩
   rcases List.mem_cons.1 hy with rfl | hy
   ·omega
   ·exact amF_lits hy
  ·split at hc
   ·rename_i h3k
    have hp:=posN_in (hx (.inr h3k))
    obtain ⟨z,hz,rfl⟩:=List.mem_map.1 hc
    have hr:=amF_range x.other x.rg its 0 z hz
    refine ⟨fun y hy=>?_,by simp⟩
    simp only [List.mem_cons,List.not_mem_nil,or_false] at hy
    rcases hy with rfl | rfl <;> omega
   ·exact absurd hc List.not_mem_nil
theorem rusL_lits {its:List ItR}:∀ (l:List LnR) (n:Nat),(∀ x∈l,x.k=2∨x.k=3→itL x∈its)→∀ c∈rusL its l n,LitsIn its.length c.1
 | [],_,_,c,hc=>absurd hc List.not_mem_nil
 | x :: r,n,h,c,hc=>by
  rw [rusL] at hc
  rcases List.mem_append.1 hc with hc | hc
  ·exact ruL_lits (h x List.mem_cons_self) n c hc
  ·exact rusL_lits r (n+1) (fun y hy=>h y (List.mem_cons_of_mem _ hy)) c hc
theorem rules_lits {ls:List LnR} {its0:List ItR} (h:catR ls=.inr its0):∀ c∈rulesF (itemsF ls) ls,LitsIn (itemsF ls).length c.1:=by
 intro c hc
 unfold rulesF at hc
 rcases List.mem_append.1 hc with hc | hc
 ·exact twinsR_lits _ 0 (by omega) c hc
 ·exact rusL_lits ls 0 (catR_in h) c hc
end Go.Proofs.YtojgbcmhdnappaaGreatDoor
namespace Go.Proofs.YtojgbcmhdnappaaGreatDoor
open Go.RowKit
def elZ:ElK Int:=⟨3,1,fun x=>[.int .i64 x],by decide,fun _=>rfl,fun _ u hu=>by rw [List.mem_singleton.1 hu];rfl⟩
theorem elZ_row (zs:List Int):elZ.row zs=intsV zs:=by
 induction zs with
 | nil=>rfl
 | cons a r ih=>rw [ElK.row_cons,ih];rfl
section
variable {w:World} {base n c:Nat} {A:Option Addr}
theorem OwnI.toK {v:Value} {zs:List Int} (h:OwnI w base v zs):OwnK elZ w base v zs:=by
 unfold OwnK
 rw [elZ_row]
 exact h
theorem OwnI.ints {zs:List Int} (h:OwnI w base (.slice A n c) zs) (hz:∀ z∈zs,I64 z):n≤c∧Ints w w.heap.size A n zs:=by
 have hr:=h.row
 rcases h.toK.form with ⟨e,e2⟩ | ⟨g,cap,e,_,hlc,hcm,_⟩
 ·injection e with e1 e3 e4
  subst e1 e3 e4
  exact ⟨Nat.le_refl _,hr.1,Nat.zero_le _,hz,hr.2⟩
 ·injection e with e1 e3 e4
  subst e1 e3 e4
  exact ⟨hlc,hr.1,Nat.le_trans hlc hcm,hz,hr.2⟩
theorem elC_row (qs:List ClQ):elC.row qs=qs.map slC:=by
 induction qs with
 | nil=>rfl
 | cons a r ih=>rw [ElK.row_cons,ih];rfl
theorem ClK.cls {cs:List (List Int)} (h:ClK w base (.slice A n c) cs) (hz:∀ z∈cs,∀ x∈z,I64 x):Cls w w.heap.size A n cs:=by
 obtain ⟨qs,rfl,h2,h3⟩:=h
 obtain ⟨hn,hr⟩:=h2.reads
 subst hn
 have hm:qs.length≤maxLen:=by
  rcases h2.form with ⟨_,e⟩ | ⟨_,cap,_,_,h4,h5,_⟩
  ·rw [e];exact Nat.zero_le _
  ·exact Nat.le_trans h4 h5
 refine ⟨by rw [List.length_map],hm,qs.map slC,by rw [←elC_row];exact hr,fun k hk=>?_⟩
 have h4:=OwnI.ints (A:=qs[k].2.1) (n:=qs[k].2.2.1) (c:=qs[k].2.2.2) (h3 qs[k] (List.getElem_mem hk)) (hz _ (List.mem_map.2 ⟨_,List.getElem_mem hk,rfl⟩))
 refine ⟨qs[k].2.1,qs[k].2.2.1,qs[k].2.2.2,?_,h4.1,?_⟩
 ·rw [List.getElem?_map,List.getElem?_eq_getElem hk]
  rfl
 ·rw [List.getD_eq_getElem?_getD,List.getElem?_map,List.getElem?_eq_getElem hk]
  exact h4.2
end
end Go.Proofs.YtojgbcmhdnappaaGreatDoor
