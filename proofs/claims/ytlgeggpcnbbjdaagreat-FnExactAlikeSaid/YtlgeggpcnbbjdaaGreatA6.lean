/- The reference's merging of states, and that it comes to the program's. Conditions: a right graph, states of it. The reference's merging of states, walked. Conditions: a right graph, states of it. All of a right graph, as the reference reckons it. Conditions: a right graph. Why an event is refused: both sides, and the law. Conditions: sizes that fit a machine. States ahead of and behind an event: both sides, and the laws. Conditions: sizes that fit a machine. Lists of numbers: striking those that answer a closure. Conditions: lengths that fit a machine. The ends of a history, as the program finds them. Conditions: a right graph. The ends and the current state: the reference, and both laws. Conditions: sizes that fit a machine. The ends and the current state: both laws. Conditions: sizes that fit a machine. Hubs, and what the laws do with them. Conditions: sizes that an input has. Maps of spots; the server of a hub. What the reference model reckons of a hub. Whether a stream fits the rooms, as the reference model reckons it. Whether a hub is right, as the reference model reckons it. Both models find the same hubs right. The law of HubRight, and of functions of hubs that hand back a number. The law of PosOf. The law of HiddenBy. The law of HiddenBy: the first of the stream that hides is the one with the least place. The law of HiddenBy. Peers: sizes, copies, comparisons. No conditions but lengths and bounds. Peers that are right: both models, and the law. Conditions: sizes that  -/
import Derived.Test.YtlgeggpcnbbjdaaGreatRows
import Derived.WalkKit
import Derived.ProofKit
import Derived.OpenShut
import Derived.ShutString
import Derived.ChangeOld
import Derived.Below
import Derived.SizedLaws
import Derived.Test.YtlgeggpcnbbjdaaGreatA5
set_option linter.unusedSimpArgs false
set_option linter.unusedVariables false
set_option maxRecDepth 10000
set_option maxHeartbeats 4000000
open Int renaming ofNat_lt → Za, le_refl → YF
open List renaming getElem?_eq_getElem → Zb, mem_of_getElem? → Zf, take_add_one → Zi, length_map → Zj, all_eq_true → Zn, contains_iff_mem → Zp, getElem?_eq_some_iff → Zr, length_take → Zs, getElem?_map → Zt, take_of_length_le → Zv, take → Zw, take_length → Zx, map_append → Zy, getElem?_of_mem → Zz, drop_eq_nil_of_le → ZA, mem_map → ZB, getElem_mem → ZD, mem_filter → ZE, getD_eq_getElem?_getD → ZF, map_cons → ZG, drop → ZH, replicate → ZI, mem_cons → ZJ, mem_cons_self → ZK, length_append → ZN, map_nil → ZO, mem_append → ZR, any_eq_false → ZT, mem_cons_of_mem → ZU, filter_sublist → ZV, mem_zipIdx_iff_getElem? → ZW, getElem?_take_of_lt → ZX, length_filter_le → ZY, append_nil → Ya, drop_zero → Yb, mem_singleton → Yd, mem_of_find?_eq_some → Ye, any_eq_true → Yf, mem_flatten → Yg, foldl_append → Yh, length_nil → Yi, filter_congr → Yl, filter_append → Ym, not_mem_nil → Yo, filter_cons → Yp, filter_nil → Yq, length_cons → Yr, foldl_cons → Ys, perm_ext_iff_of_nodup → Yt, mem_of_mem_take → Yu, take_zero → Yv, nil_append → Yw, map_singleton → Yx, map_const' → Yy, getElem?_cons_succ → Yz, getElem?_cons_zero → YA, filter_eq_self → YB, all_append → YE, all_cons → YI, find?_eq_none → YK, take_append_drop → YM, pairwise_map → YN, append_assoc → YP, map_congr_left → YQ, filter_filter → YR, idxOf_append → YS, length_singleton → YT, pairwise_iff_getElem → YU, pairwise_flatMap → YV, flatMap_cons → YW
open Nat renaming sub_lt_sub_left → Zc, lt_succ_self → Zd, zero_le → Zg, le_refl → Zo, lt_succ_iff_lt_or_eq → ZP, not_lt_zero → ZS, le_trans → Yj, sub_self → YD, lt_trichotomy → YJ, eq_zero_or_pos → YO
open Bool renaming not_true → Ze, true_and → Zh, and_false → Zl, false_and → Zm, and_eq_true → Zq, and_true → Zu, eq_iff_iff → ZC, beq_comm → ZL, not_eq_true' → ZM, not_eq_true → ZQ, false_eq_true → ZZ, and_assoc → Yn, and_comm → YC, false_or → YH, not_eq_false → YL
open Option renaming toList_some → Zk, map_some → Yc, isSome_iff_exists → Yk, getD_some → YG
section
namespace Go.Proofs.YtlgeggpcnbbjdaaGreat
open Go.Pm
open Go.Gm (Ev Gr)
theorem GG.ids {g : Gr} (h : GG g) : ∀ e ∈ g.events,0 < e.id:=fun e he=>by
 have:=h.ev e he
 simp only [Gm.evRight,Zq,Gm.isB_iff] at this
 omega
theorem SG.idpos {g : Gr} {s : List Ent} (h : GG g) (hs : SG g s) : ∀ x ∈ s,0 < x.id:=fun x hx=>by
 obtain ⟨e,he,h1⟩:=(entOf_iff h).1 (hs.has x hx)
 have:=h.ids e he
 have h2 : (entE e).id = x.id:=by rw [h1]
 have h3 : e.id = x.id:=h2
 omega
theorem ent_same {g : Gr} (h : GG g) {x y : Ent} (hx : entOf g x = true) (hy : entOf g y = true) (hid : x.id = y.id) : x = y:=by
 obtain ⟨e1,he1,h1⟩:=(entOf_iff h).1 hx
 obtain ⟨e2,he2,h2⟩:=(entOf_iff h).1 hy
 have a1 : (entE e1).id = x.id:=by rw [h1]
 have a2 : (entE e2).id = y.id:=by rw [h2]
 have a3 : e1.id = e2.id:=a1.trans (hid.trans a2.symm)
 have:=at_mem h.srt he1
 rw [a3,at_mem h.srt he2] at this
 injection this with this
 rw [← h1,← h2,this]
theorem srt_key {s : List Ent} (hs : s.Pairwise ltE) {x y : Ent} (hx : x ∈ s) (hy : y ∈ s) (h1 : x.kind = y.kind) (h2 : x.key = y.key) : x = y:=by
 obtain ⟨i,hi⟩:=Zz hx
 obtain ⟨j,hj⟩:=Zz hy
 rcases YJ i j with h | h | h
 ·have:=Gm.pw_get hs h hi hj
  unfold ltE at this; omega
 ·subst h; rw [hi] at hj; injection hj
 ·have:=Gm.pw_get hs h hj hi
  unfold ltE at this; omega
theorem SG.LS {g : Gr} {s : List Ent} (h : GG g) (hs : SG g s) : LS g s:=by
 refine ⟨⟨h.hx,h.srt,by have:=SG.len h hs; omega,hs.srt⟩,fun k q=>?_⟩
 unfold idS curE idS
 cases hf : s.find? (isK k q) with
 | none =>
  refine Or.inl ⟨rfl,?_⟩
  show atE g.events 0 = none
  refine YK.2 fun e he=>?_
  have:=h.ids e he
  simp only [beq_iff_eq]
  omega
 | some x =>
  have h1:=Ye hf
  obtain ⟨e,he,h2⟩:=(entOf_iff h).1 (hs.has x h1)
  have h3 : (entE e).id = x.id:=by rw [h2]
  refine Or.inr ⟨hs.idpos h x h1,?_⟩
  show Gm.hasId g.events x.id = true
  rw [← h3]
  exact has_mem he
def alkS (l : List (List Ent)) (x : Ent) : Bool:=l.all fun s=>idS s x.kind x.key == x.id
theorem idS_in {s : List Ent} (hs : s.Pairwise ltE) {x : Ent} (hx : x.id ≠ 0) : (idS s x.kind x.key == x.id) = s.any (entEq x):=by
 rw [ZC,beq_iff_eq,Yf]
 unfold idS
 cases hf : s.find? (isK x.kind x.key) with
 | none =>
  constructor
  ·intro h; exact absurd h.symm hx
  ·rintro ⟨y,hy,h⟩
   have e:=entEq_iff.1 h
   subst e
   have:=YK.1 hf x hy
   simp [isK] at this
 | some y =>
  have h1:=Ye hf
  have h2:=List.find?_some hf
  unfold isK at h2
  simp only [Zq,beq_iff_eq] at h2
  constructor
  ·intro h
   refine ⟨y,h1,entEq_iff.2 ?_⟩
   obtain ⟨a,b,c⟩:=x
   obtain ⟨a',b',c'⟩:=y
   simp only at h h2
   rw [h,h2.1,h2.2]
  ·rintro ⟨z,hz,h⟩
   have e:=entEq_iff.1 h
   subst e
   have:=srt_key hs h1 hz h2.1 h2.2
   rw [this]
theorem alk_miss {l : List (List Ent)} (hs : ∀ s ∈ l,s.Pairwise ltE) {x : Ent} (hx : x.id ≠ 0) : alkS l x = !missS l x:=by
 unfold alkS missS
 rw [ZC,Zn,ZM,ZT]
 constructor
 ·intro h s hm
  have:=h s hm
  rw [idS_in (hs s hm) hx] at this
  simp [this]
 ·intro h s hm
  rw [idS_in (hs s hm) hx]
  have:=h s hm
  simpa using this
theorem miss_iff {l : List (List Ent)} {x : Ent} : missS l x = false ↔ ∀ s ∈ l,x ∈ s:=by
 unfold missS
 rw [ZT]
 constructor
 ·intro h s hs
  have:=h s hs
  simp only [ZM,YL,Yf] at this
  obtain ⟨y,hy,e⟩:=this
  rw [entEq_iff.1 e]; exact hy
 ·intro h s hs
  simp only [ZM,YL,Yf]
  exact ⟨x,h s hs,entEq_iff.2 rfl⟩
def putR (o : List Ent) (x : Ent) : List Ent:=putL (without o x) x
theorem putR_I {o : List Ent} (hs : o.Pairwise ltE) {x : Ent} (hx : x.id ≠ 0) : putR o x = putI o x:=by
 rw [(put_same o x hs).1,putS,if_neg hx]; rfl
theorem putR_mem {o : List Ent} {x y : Ent} : y ∈ putR o x ↔ y = x ∨ (y ∈ o ∧ otherK x y = true):=by
 unfold putR putL
 have h1 : ∀ L : List Ent,∀ k,y ∈ L.take k ++ x :: L.drop k ↔ y = x ∨ y ∈ L:=fun L k=>by
  conv=>rhs; rw [← YM k L]
  simp only [ZR,ZJ]
  constructor
  ·rintro (h | h | h)
   ·exact .inr (.inl h)
   ·exact .inl h
   ·exact .inr (.inr h)
  ·rintro (h | h | h)
   ·exact .inr (.inl h)
   ·exact .inl h
   ·exact .inr (.inr h)
 rw [h1]
 unfold without
 rw [ZE]
theorem putR_len (o : List Ent) (x : Ent) : (putR o x).length ≤ o.length + 1:=by
 have h1 : (without o x).length ≤ o.length:=ZY _ _
 have h2:=lessN_le (without o x) x
 unfold putR putL
 simp only [ZN,Yr,Zs,List.length_drop]
 omega
def stepA (l : List (List Ent)) (o : List Ent) (x : Ent) : List Ent:=if alkS l x then putR o x else o
def stepB (l : List (List Ent)) (s : List Int) (x : Ent) : List Int:=if alkS l x then s else setI s x.id
def outA (l : List (List Ent)) (p : List Ent) : List Ent:=p.foldl (stepA l) []
def idsA (l : List (List Ent)) (p : List Ent) : List Int:=p.foldl (stepB l) []
theorem outA_len (l : List (List Ent)) : ∀ (p o : List Ent),(p.foldl (stepA l) o).length ≤ o.length + p.length
 | [],o=>Zo _
 | x :: p,o=>by
   have h1 : (stepA l o x).length ≤ o.length + 1:=by
    unfold stepA
    split
    ·exact putR_len o x
    ·omega
   have h2:=outA_len l p (stepA l o x)
   simp only [Ys,Yr]
   omega
theorem idsA_len (l : List (List Ent)) : ∀ (p : List Ent) (o : List Int),(p.foldl (stepB l) o).length ≤ o.length + p.length
 | [],o=>Zo _
 | x :: p,o=>by
   have h1 : (stepB l o x).length ≤ o.length + 1:=by
    unfold stepB
    split
    ·omega
    ·exact setI_len o x.id
   have h2:=idsA_len l p (stepB l o x)
   simp only [Ys,Yr]
   omega
theorem ltE_str : Gm.Str ltE:=⟨fun x h=>by unfold ltE at h; omega,fun x y z h1 h2=>ltE_trans h1 h2⟩
theorem ltE_nodup {l : List Ent} (h : l.Pairwise ltE) : l.Nodup:=List.Pairwise.imp (fun h=>ltE_ne h) h
theorem srt_same {l1 l2 : List Ent} (h1 : l1.Pairwise ltE) (h2 : l2.Pairwise ltE) (h : ∀ x,x ∈ l1 ↔ x ∈ l2) : l1 = l2 :=
 Gm.sorted_one ltE_str ((Yt (ltE_nodup h1) (ltE_nodup h2)).2 h) h1 h2
section
variable {g : Gr} {l : List (List Ent)} (h : GG g) (hs : ∀ s ∈ l,SG g s)
include h hs
theorem flat_ent {x : Ent} (hx : x ∈ l.flatten) : entOf g x = true ∧ x.id ≠ 0:=by
 obtain ⟨s,hm,hxs⟩:=Yg.1 hx
 have:=(hs s hm).idpos h x hxs
 exact ⟨(hs s hm).has x hxs,by omega⟩
theorem alk_iff {x : Ent} (hx : x ∈ l.flatten) : alkS l x = true ↔ ∀ s ∈ l,x ∈ s:=by
 rw [alk_miss (fun s hm=>(hs s hm).srt) (flat_ent h hs hx).2,ZM,miss_iff]
theorem outA_ok : ∀ (p o : List Ent),(∀ x ∈ p,x ∈ l.flatten) → o.Pairwise ltE → (∀ y ∈ o,y ∈ l.flatten ∧ alkS l y = true) →
  (p.foldl (stepA l) o).Pairwise ltE ∧ ∀ y,y ∈ p.foldl (stepA l) o ↔ y ∈ o ∨ (y ∈ p ∧ alkS l y = true)
 | [],o,_,ho,_=>⟨ho,fun y=>by simp⟩
 | x :: p,o,hp,ho,hoa=>by
   have hx:=hp x ZK
   have hstep : (stepA l o x).Pairwise ltE ∧ ∀ y,y ∈ stepA l o x ↔ y ∈ o ∨ (y = x ∧ alkS l y = true):=by
    unfold stepA
    split
    ·rename_i ha
     refine ⟨by rw [putR_I ho (flat_ent h hs hx).2]; exact (put_same o x ho).2,fun y=>?_⟩
     rw [putR_mem]
     constructor
     ·rintro (rfl | ⟨h1,_⟩)
      ·exact .inr ⟨rfl,ha⟩
      ·exact .inl h1
     ·rintro (h1 | ⟨rfl,_⟩)
      ·by_cases hk : otherK x y = true
       ·exact .inr ⟨h1,hk⟩
       ·left
        obtain ⟨g1,g2⟩:=hoa y h1
        obtain ⟨s,hm,hxs⟩:=Yg.1 hx
        have hys:=(alk_iff h hs g1).1 g2 s hm
        simp only [otherK,Bool.or_eq_true,bne_iff_ne,ne_eq,not_or,Decidable.not_not] at hk
        exact srt_key (hs s hm).srt hys hxs hk.1 hk.2
      ·exact .inl rfl
    ·rename_i ha
     refine ⟨ho,fun y=>⟨.inl,?_⟩⟩
     rintro (h1 | ⟨rfl,h2⟩)
     ·exact h1
     ·exact absurd h2 ha
   obtain ⟨h1,h2⟩:=hstep
   obtain ⟨h3,h4⟩:=outA_ok p (stepA l o x) (fun y hy=>hp y (ZU _ hy)) h1 (fun y hy=>by
    rcases (h2 y).1 hy with h | ⟨rfl,h⟩
    ·exact hoa y h
    ·exact ⟨hx,h⟩)
   refine ⟨h3,fun y=>?_⟩
   show y ∈ p.foldl (stepA l) (stepA l o x) ↔ _
   rw [h4,h2,ZJ]
   constructor
   ·rintro ((h | h) | h)
    ·exact .inl h
    ·exact .inr ⟨.inl h.1,h.2⟩
    ·exact .inr ⟨.inr h.1,h.2⟩
   ·rintro (h | ⟨h | h,k⟩)
    ·exact .inl (.inl h)
    ·exact .inl (.inr ⟨h,k⟩)
    ·exact .inr ⟨h,k⟩
theorem com_mem {y : Ent} : y ∈ com l ↔ y ∈ l.flatten ∧ alkS l y = true:=by
 constructor
 ·intro hy
  have hf : y ∈ l.flatten ∧ missS l y = false:=by
   unfold com at hy
   split at hy
   ·cases hy
   ·rename_i s l'
    obtain ⟨h1,h2⟩:=ZE.1 hy
    exact ⟨Yg.2 ⟨s,ZK,h1⟩,by simpa using h2⟩
  exact ⟨hf.1,(alk_iff h hs hf.1).2 (miss_iff.1 hf.2)⟩
 ·rintro ⟨h1,h2⟩
  have h3:=(alk_iff h hs h1).1 h2
  unfold com
  split
  ·simp at h1
  ·rename_i s l'
   exact ZE.2 ⟨h3 s ZK,by rw [miss_iff.2 h3]; rfl⟩
theorem outA_com : outA l l.flatten = com l:=by
 obtain ⟨h1,h2⟩:=outA_ok h hs l.flatten [] (fun x hx=>hx) List.Pairwise.nil (fun y hy=>by cases hy)
 have hc : (com l).Pairwise ltE:=by
  unfold com
  split
  ·exact List.Pairwise.nil
  ·rename_i s l'
   exact (hs s ZK).srt.sublist ZV
 refine srt_same h1 hc fun y=>?_
 rw [com_mem h hs]
 show y ∈ l.flatten.foldl (stepA l) [] ↔ _
 rw [h2]
 simp
end
theorem idsA_ok {l : List (List Ent)} : ∀ (p : List Ent) (o : List Int),Rise o → Rise (p.foldl (stepB l) o) ∧ ∀ z,z ∈ p.foldl (stepB l) o ↔ z ∈ o ∨ ∃ x ∈ p,alkS l x = false ∧ x.id = z
 | [],o,ho=>⟨ho,fun z=>by simp⟩
 | x :: p,o,ho=>by
   have hstep : Rise (stepB l o x) ∧ ∀ z,z ∈ stepB l o x ↔ z ∈ o ∨ (alkS l x = false ∧ x.id = z):=by
    unfold stepB
    cases ha : alkS l x with
    | true=>exact ⟨ho,fun z=>by simp⟩
    | false =>
     refine ⟨setI_rise ho,fun z=>?_⟩
     simp only [ZZ,if_false,true_and]
     rw [setI_mem ho]
     constructor
     ·rintro (h | h)
      ·exact .inr h.symm
      ·exact .inl h
     ·rintro (h | h)
      ·exact .inr h
      ·exact .inl h.symm
   obtain ⟨h3,h4⟩:=idsA_ok p (stepB l o x) hstep.1
   refine ⟨h3,fun z=>?_⟩
   show z ∈ p.foldl (stepB l) (stepB l o x) ↔ _
   rw [h4,hstep.2]
   constructor
   ·rintro ((h | h) | ⟨y,hy,h⟩)
    ·exact .inl h
    ·exact .inr ⟨x,ZK,h⟩
    ·exact .inr ⟨y,ZU _ hy,h⟩
   ·rintro (h | ⟨y,hy,h⟩)
    ·exact .inl (.inl h)
    ·rcases ZJ.1 hy with rfl | hy
     ·exact .inl (.inr h)
     ·exact .inr ⟨y,hy,h⟩
theorem metP_mem {met : List Int} {k z : Int} : z ∈ metP met k ↔ z ∈ met ∨ z = k:=by
 unfold metP
 split
 ·rename_i h
  have h:=Zp.1 h
  exact ⟨.inl,fun q=>q.elim id fun e=>e ▸ h⟩
 ·simp
theorem idsM_mem : ∀ (l : List Ent) (met : List Int) {z : Int},z ∈ l.foldl (fun m x=>metP m x.id) met ↔ z ∈ met ∨ ∃ x ∈ l,x.id = z
 | [],met,z=>by simp
 | x :: l,met,z=>by
   rw [Ys,idsM_mem l,metP_mem]
   constructor
   ·rintro ((h | h) | ⟨y,hy,h⟩)
    ·exact .inl h
    ·exact .inr ⟨x,ZK,h.symm⟩
    ·exact .inr ⟨y,ZU _ hy,h⟩
   ·rintro (h | ⟨y,hy,h⟩)
    ·exact .inl (.inl h)
    ·rcases ZJ.1 hy with rfl | hy
     ·exact .inl (.inr h.symm)
     ·exact .inr ⟨y,hy,h⟩
theorem othI_mem : ∀ (l : List Ent) (met : List Int) {z : Int},z ∈ othI met l ↔ z ∉ met ∧ ∃ x ∈ l,x.id = z
 | [],met,z=>by simp [othI]
 | x :: l,met,z=>by
   simp only [othI]
   split
   ·rename_i hc
    have hc:=Zp.1 hc
    rw [othI_mem l]
    constructor
    ·rintro ⟨h1,y,hy,h⟩
     exact ⟨h1,y,ZU _ hy,h⟩
    ·rintro ⟨h1,y,hy,h⟩
     rcases ZJ.1 hy with rfl | hy
     ·exact absurd (h ▸ hc) h1
     ·exact ⟨h1,y,hy,h⟩
   ·rename_i hc
    have hc : x.id ∉ met:=fun q=>hc (Zp.2 q)
    rw [ZJ,othI_mem l]
    constructor
    ·rintro (rfl | ⟨h1,y,hy,h⟩)
     ·exact ⟨hc,x,ZK,rfl⟩
     ·exact ⟨fun q=>h1 (List.mem_append_left _ q),y,ZU _ hy,h⟩
    ·rintro ⟨h1,y,hy,h⟩
     by_cases hz : z = x.id
     ·exact .inl hz
     ·refine .inr ⟨fun q=>?_,?_⟩
      ·rcases ZR.1 q with q | q
       ·exact h1 q
       ·exact hz (by simpa using q)
      ·rcases ZJ.1 hy with rfl | hy
       ·exact absurd h.symm hz
       ·exact ⟨y,hy,h⟩
def posB (lt : Int → Int → Bool) (o : List Int) (x : Int) : Nat → Nat
 | 0=>0
 | k + 1=>if lt x (o.getD k 0) then posB lt o x k else k + 1
def insB (lt : Int → Int → Bool) (o : List Int) (x : Int) : List Int:=o.take (posB lt o x o.length) ++ x :: o.drop (posB lt o x o.length)
theorem posB_le (lt : Int → Int → Bool) (o : List Int) (x : Int) : ∀ k,posB lt o x k ≤ k
 | 0=>Zo _
 | k + 1=>by
   unfold posB
   split
   ·have:=posB_le lt o x k; omega
   ·exact Zo _
theorem posB_ok (lt : Int → Int → Bool) (o : List Int) (x : Int) : ∀ k,(∀ j,posB lt o x k ≤ j → j < k → lt x (o.getD j 0) = true) ∧ (posB lt o x k = 0 ∨ lt x (o.getD (posB lt o x k - 1) 0) = false)
 | 0=>⟨fun j h1 h2=>by omega,.inl rfl⟩
 | k + 1=>by
   unfold posB
   cases hl : lt x (o.getD k 0) with
   | true =>
    simp only [if_true]
    obtain ⟨h1,h2⟩:=posB_ok lt o x k
    refine ⟨fun j h3 h4=>?_,h2⟩
    by_cases hj : j = k
    ·rw [hj]; exact hl
    ·exact h1 j h3 (by omega)
   | false =>
    simp only [ZZ,if_false]
    exact ⟨fun j h1 h2=>by omega,.inr hl⟩
theorem insB_perm (lt : Int → Int → Bool) (o : List Int) (x : Int) : (insB lt o x).Perm (x :: o):=by
 unfold insB
 refine List.perm_middle.trans (List.Perm.cons x ?_)
 rw [YM]
theorem insB_len (lt : Int → Int → Bool) (o : List Int) (x : Int) : (insB lt o x).length = o.length + 1:=by
 rw [(insB_perm lt o x).length_eq]; rfl
theorem insB_sorted {lt : Int → Int → Bool} {o : List Int} {x : Int} (hnt : ∀ a b c,lt a b = false → lt b c = false → lt a c = false) (has : ∀ a b,lt a b = true → lt b a = false) (ho : o.Pairwise fun a b=>lt b a = false) :
  (insB lt o x).Pairwise fun a b=>lt b a = false:=by
 obtain ⟨h1,h2⟩:=posB_ok lt o x o.length
 have hle:=posB_le lt o x o.length
 unfold insB
 generalize posB lt o x o.length = k at *
 have hb : ∀ y ∈ o.take k,lt x y = false:=by
  intro y hy
  obtain ⟨j,hj,hjy⟩:=Gm.mem_take_get hy
  rcases h2 with h2 | h2
  ·omega
  ·by_cases hjk : j = k - 1
   ·rw [← hjk,ZF,hjy] at h2
    exact h2
   ·obtain ⟨z,hz⟩ : ∃ z,o[k - 1]? = some z:=⟨_,Zb (by omega)⟩
    rw [ZF,hz] at h2
    have h3:=Gm.pw_get ho (by omega : j < k - 1) hjy hz
    exact hnt x z y h2 h3
 have ha : ∀ y ∈ o.drop k,lt y x = false:=by
  intro y hy
  obtain ⟨j,hj,hjy⟩:=Gm.mem_drop_get hy
  have h3:=h1 j hj (Zr.1 hjy).1
  rw [ZF,hjy] at h3
  exact has x y h3
 refine List.pairwise_append.2 ⟨ho.sublist (List.take_sublist _ _),List.pairwise_cons.2 ⟨ha,ho.sublist (List.drop_sublist _ _)⟩,fun y hy z hz=>?_⟩
 rcases ZJ.1 hz with rfl | hz
 ·exact hb y hy
 ·obtain ⟨i,hi,hiy⟩:=Gm.mem_take_get hy
  obtain ⟨j,hj,hjz⟩:=Gm.mem_drop_get hz
  exact Gm.pw_get ho (by omega : i < j) hiy hjz
def ltS (g : Gr) (a b : Int) : Bool:=decide (cmpD (DD g) (evOf g a) (evOf g b) < 0)
def ordS (g : Gr) (ids : List Int) : List Int:=ids.foldl (insB (ltS g)) []
theorem ordS_ok (g : Gr) : ∀ (ids o : List Int),(o.Pairwise fun a b=>ltS g b a = false) → ((ids.foldl (insB (ltS g)) o).Pairwise fun a b=>ltS g b a = false) ∧ (ids.foldl (insB (ltS g)) o).Perm (ids ++ o)
 | [],o,ho=>⟨ho,List.Perm.refl _⟩
 | x :: ids,o,ho=>by
   have h1:=insB_sorted (lt:=ltS g) (o:=o) (x:=x) (fun a b c h1 h2=>by
    simp only [ltS,decide_eq_false_iff_not] at *
    exact cmpD_nt h1 h2) (fun a b h1=>by
    simp only [ltS,decide_eq_false_iff_not,decide_eq_true_eq] at *
    exact fun h2=>cmpD_irr _ _ (cmpD_tr h1 h2)) ho
   obtain ⟨h2,h3⟩:=ordS_ok g ids (insB (ltS g) o x) h1
   refine ⟨h2,h3.trans ?_⟩
   refine ((insB_perm (ltS g) o x).append_left ids).trans ?_
   exact List.perm_middle
theorem ordS_ev {g : Gr} {l : List (List Ent)} (h : GG g) (hs : ∀ s ∈ l,SG g s) (hl : SL g l) : (ordS g (idsA l l.flatten)).map (evOf g) = ordR (DD g) (othE g l):=by
 obtain ⟨h1,h2⟩:=ordS_ok g (idsA l l.flatten) [] List.Pairwise.nil
 obtain ⟨h3,h4⟩:=idsA_ok (l:=l) l.flatten [] List.Pairwise.nil
 have hnd : (idsA l l.flatten).Nodup:=h3.nodup
 have hpm : (idsA l l.flatten).Perm (othI (idsM (com l)) l.flatten):=by
  refine (Yt hnd (othI_spec _ _).1).2 fun z=>?_
  rw [othI_mem]
  show z ∈ l.flatten.foldl (stepB l) [] ↔ _
  rw [h4]
  have hcm : z ∈ idsM (com l) ↔ ∃ x ∈ com l,x.id = z:=by
   unfold idsM
   rw [idsM_mem]
   simp
  rw [hcm]
  constructor
  ·rintro (h | ⟨x,hx,ha,hz⟩)
   ·cases h
   ·refine ⟨?_,x,hx,hz⟩
    rintro ⟨c,hc,hcz⟩
    obtain ⟨c1,c2⟩:=(com_mem h hs).1 hc
    have:=ent_same h (flat_ent h hs hx).1 (flat_ent h hs c1).1 (hz.trans hcz.symm)
    rw [this,c2] at ha
    cases ha
  ·rintro ⟨h5,x,hx,hz⟩
   refine .inr ⟨x,hx,?_,hz⟩
   cases ha : alkS l x with
   | false=>rfl
   | true=>exact absurd ⟨x,(com_mem h hs).2 ⟨hx,ha⟩,hz⟩ h5
 refine ordR_uniq (othE_nodup hl) ?_ ?_
 ·unfold othE
  rw [Ya] at h2
  exact (h2.trans hpm).map (evOf g)
 ·rw [YN]
  refine List.Pairwise.imp (fun {a b} hab=>?_) h1
  simpa [ltS] using hab
theorem ordS_has {g : Gr} {l : List (List Ent)} (h : GG g) (hs : ∀ s ∈ l,SG g s) : ∀ id ∈ idsA l l.flatten,Gm.hasId g.events id = true:=fun id hid=>by
 obtain ⟨h3,h4⟩:=idsA_ok (l:=l) l.flatten [] List.Pairwise.nil
 rcases (h4 id).1 hid with h5 | ⟨x,hx,_,rfl⟩
 ·cases h5
 ·obtain ⟨e,he,h6⟩:=(entOf_iff h).1 (flat_ent h hs hx).1
  have : e.id = x.id:=by rw [← h6]; rfl
  rw [← this]
  exact has_mem he
section
variable {P : Program} [Is P]
theorem c_l06Alike (l : List (List Ent)) (x : Ent) (hl : l.length ≤ 60) (hs : ∀ s ∈ l,s.length ≤ 400) : Con P 137 [.sl 1 (l.map encSS),.agg (encEnt x)] (.bool (alkS l x)):=by
 refine Con.of (n:=24) (rs:=[.tmp 4]) (Is.fn Tryz.func137) rfl (Is.call Tryz.call137) Tryz.results137 Tryz.ntmps137 trivial ?_
 simp only [method_specs_simp,seval,encEnt,encSS]
 refine SW.while (A:=Nat) (fun i=>⟨pad 24 [.sl 1 (l.map encSS),.junk,.junk,.ptr 0 0,.bool false,.int .i64 i],[.box true (encEnt x)],[]⟩) (fun i=>l.length - i) (fun i=>i ≤ l.length ∧ alkS l x = alkS (l.drop i) x) 0 [0] ⟨Zg _,rfl⟩ ?_ ?_
 ·simp only [mvcgen_simp,method_specs_simp,seval,encEnt,encSS]
 ·rintro i ⟨hi,hr⟩
  have w1 : IntKind.i64.wrap ((i : Int) + 1) = ((i + 1 : Nat) : Int):=wadd1 i (by omega)
  refine CW.sound ?_
  simp only [method_specs_simp,seval,encEnt,encSS]
  refine gB_split (fun h1=>?_) (fun h1=>?_)
  ·simp only [decide_eq_true_eq,Za] at h1
   obtain ⟨s,hsi⟩ : ∃ s,l[i]? = some s:=⟨_,Zb h1⟩
   have hsl:=hs s (Zf hsi)
   simp only [method_specs_simp,seval,encEnt,encSS,hsi]
   refine ⟨by kernel_rfl,by omega,by omega,?_⟩
   refine clY.con (c_l04At s x.kind x.key (by omega)) (by simp only [method_specs_simp,encEnt,encSS]) ?_
   simp only [method_specs_simp,seval,encEnt,encSS]
   have hcs : alkS (l.drop i) x = ((idS s x.kind x.key == x.id) && alkS (l.drop (i + 1)) x):=by rw [drop_cons hsi]; rfl
   cases hb : (idS s x.kind x.key == x.id) with
   | true =>
    have hb2 : (idS s x.kind x.key != x.id) = false:=by unfold bne; rw [hb]; rfl
    rw [hb,Zh] at hcs
    simp only [method_specs_simp,seval,encEnt,encSS,hb2]
    refine Again.mk (i + 1) [0] ⟨h1,hr.trans hcs⟩ (Zc h1 (Zd _)) ?_
    simp only [mvcgen_simp,method_specs_simp,seval,encEnt,encSS,w1]
   | false =>
    have hb2 : (idS s x.kind x.key != x.id) = true:=by unfold bne; rw [hb]; rfl
    rw [hb,Zm] at hcs
    rw [hr,hcs]
    simp only [method_specs_simp,seval,encEnt,encSS,hb2]
  ·have hi2 : i = l.length:=by simp only [decide_eq_false_iff_not,Ze,Za] at h1; omega
   rw [hr,hi2,List.drop_length]
   rfl
end
theorem preL_len {l : List (List Ent)} (hn : l.length ≤ 60) (hl : ∀ s ∈ l,s.length ≤ 400) (i : Nat) {s : List Ent} (hs : s.length ≤ 400) (j : Nat) : (preL l i s j).length ≤ 24400:=by
 have h2:=flat_len (l:=l.take i) fun s hs=>hl s (Yu hs)
 have h4 : (l.take i).length ≤ l.length:=by rw [Zs]; omega
 have h5 : (s.take j).length ≤ s.length:=by rw [Zs]; omega
 unfold preL
 rw [ZN]
 omega
theorem outA_snoc (l : List (List Ent)) (p : List Ent) (x : Ent) : outA l (p ++ [x]) = stepA l (outA l p) x:=by unfold outA; rw [Yh]; rfl
theorem idsA_snoc (l : List (List Ent)) (p : List Ent) (x : Ent) : idsA l (p ++ [x]) = stepB l (idsA l p) x:=by unfold idsA; rw [Yh]; rfl
theorem ordS_next {g : Gr} {ids : List Int} {i : Nat} {x : Int} (h : ids[i]? = some x) : ordS g (ids.take (i + 1)) = insB (ltS g) (ordS g (ids.take i)) x:=by
 unfold ordS
 rw [Zi,h,Zk,Yh]; rfl
theorem ordS_len (g : Gr) : ∀ ids : List Int,(ordS g ids).length = ids.length:=fun ids=>by
 have:=(ordS_ok g ids [] List.Pairwise.nil).2.length_eq
 unfold ordS
 simpa using this
theorem ordS_mem (g : Gr) (ids : List Int) : ∀ x ∈ ordS g ids,x ∈ ids:=fun x hx=>by
 have:=(ordS_ok g ids [] List.Pairwise.nil).2.mem_iff.1 hx
 simpa using this
section
variable {P : Program} [Is P]
theorem c_l06Resolve (g : Gr) (l : List (List Ent)) (h : GG g) (hs : ∀ s ∈ l,SG g s) (hn : l.length ≤ 60) : Con P 103 [.agg (encGr g),.sl 1 ((Gm.depthsE g.events).map encI),.sl 1 (l.map encSS)] (.sl 3 ((resI g (DD g) l).map encEnt)):=by
 have hl4 : ∀ s ∈ l,s.length ≤ 400:=fun s hm=>by have:=SG.len h (hs s hm); omega
 have h60:=h.n
 have hx:=h.hx
 obtain ⟨dl,hdl⟩ : ∃ dl,dl = Gm.depthsE g.events:=⟨_,rfl⟩
 rw [← hdl]
 refine Con.ofS (n:=138) (rs:=[.tmp 6]) (Is.fn Tryz.func103) rfl (Is.call Tryz.call103) Tryz.results103 Tryz.ntmps103 (by simp only [method_specs_simp]) ?_
 refine SW.seq (CW.sound ?_)
 simp only [method_specs_simp,seval,encGr]
 refine SW.seq (CW.sound ?_)
 simp only [method_specs_simp,seval,encGr]
 refine SW.seq (CW.sound ?_)
 simp only [method_specs_simp,seval,encGr]
 refine SW.freeze [1,2] ?_
 simp only [mvcgen_simp,method_specs_simp,seval,encGr,convs_r8j,conv_junkj]
 refine SW.seq (CW.sound ?_)
 simp only [method_specs_simp,seval,encGr]
 refine SW.while (A:=Nat) (fun i=>⟨pad 138 [.junk,.sl 1 (dl.map encI),.sl 1 (l.map encSS),.ptr 0 0,.junk,.junk,.nil,.sl 3 ((outA l (preL l i [] 0)).map encEnt),.sl 1 ((idsA l (preL l i [] 0)).map encI),.int .i64 i],[.box true (encGr g)],[]⟩) (fun i=>l.length - i) (fun i=>i ≤ l.length) 0 [0] (Zg _) ?_ ?_
 ·have h0 : outA l (preL l 0 [] 0) = []:=rfl
  have h1 : idsA l (preL l 0 [] 0) = []:=rfl
  rw [h0,h1]
  simp only [mvcgen_simp,method_specs_simp,seval,encGr]
 ·intro i hi
  have w1 : IntKind.i64.wrap ((i : Int) + 1) = ((i + 1 : Nat) : Int):=wadd1 i (by omega)
  refine CW.sound ?_
  simp only [method_specs_simp,seval,encGr]
  refine gB_split (fun h1=>?_) (fun h1=>?_)
  ·simp only [decide_eq_true_eq,Za] at h1
   obtain ⟨s,hsi⟩ : ∃ s,l[i]? = some s:=⟨_,Zb h1⟩
   have hsm:=Zf hsi
   have hsl:=hl4 s hsm
   refine SW.while (A:=Nat) (fun k=>⟨pad 138 [.junk,.sl 1 (dl.map encI),.sl 1 (l.map encSS),.ptr 0 0,.junk,.junk,.nil,.sl 3 ((outA l (preL l i s k)).map encEnt),.sl 1 ((idsA l (preL l i s k)).map encI),.int .i64 i,.int .i64 k],[.box true (encGr g)],[]⟩) (fun k=>s.length - k) (fun k=>k ≤ s.length) 0 [0] (Zg _) ?_ ?_
   ·rw [preL_zero l i s]
    simp only [mvcgen_simp,method_specs_simp,seval,encGr]
   ·intro k hk
    have hpl:=preL_len hn hl4 i hsl k
    have hol:=outA_len l (preL l i s k) []
    have hil:=idsA_len l (preL l i s k) []
    rw [Yi,Nat.zero_add] at hol hil
    have hol : (outA l (preL l i s k)).length ≤ 24400:=Yj hol hpl
    have hil : (idsA l (preL l i s k)).length ≤ 24400:=Yj hil hpl
    have w2 : IntKind.i64.wrap ((k : Int) + 1) = ((k + 1 : Nat) : Int):=wadd1 k (by omega)
    refine CW.sound ?_
    simp only [method_specs_simp,seval,encGr,hsi,encSS]
    refine ⟨by omega,by omega,?_⟩
    refine gB_split (fun h2=>?_) (fun h2=>?_)
    ·simp only [decide_eq_true_eq,Za] at h2
     obtain ⟨x,hxk⟩ : ∃ x,s[k]? = some x:=⟨_,Zb h2⟩
     have hstep:=preL_step (l:=l) (i:=i) hxk
     have ho2 : outA l (preL l i s (k + 1)) = stepA l (outA l (preL l i s k)) x:=by rw [hstep,outA_snoc]
     have hi2 : idsA l (preL l i s (k + 1)) = stepB l (idsA l (preL l i s k)) x:=by rw [hstep,idsA_snoc]
     obtain ⟨o,ho⟩ : ∃ o,o = outA l (preL l i s k):=⟨_,rfl⟩
     obtain ⟨ids,hids⟩ : ∃ ids,ids = idsA l (preL l i s k):=⟨_,rfl⟩
     rw [← ho] at hol ho2 ⊢
     rw [← hids] at hil hi2 ⊢
     simp only [method_specs_simp,seval,encGr,hxk,encEnt,hsi,encSS]
     refine ⟨by omega,by omega,by omega,by omega,?_⟩
     refine clY.con (c_l06Alike l x hn hl4) (by simp only [method_specs_simp,encEnt]) ?_
     cases ha : alkS l x with
     | true =>
      have e1 : stepA l o x = putR o x:=by unfold stepA; rw [ha]; rfl
      have e2 : stepB l ids x = ids:=by unfold stepB; rw [ha]; rfl
      rw [e1] at ho2
      rw [e2] at hi2
      simp only [method_specs_simp,seval,encGr,hxk,encEnt,hsi,encSS]
      refine ⟨by omega,by omega,by omega,by omega,?_⟩
      refine clY.con (c117 o x (by omega)) (by simp only [method_specs_simp,encEnt]) ?_
      simp only [method_specs_simp,seval,encGr]
      refine Again.mk (k + 1) [0] h2 (Zc h2 (Zd _)) ?_
      rw [ho2,hi2]
      simp only [mvcgen_simp,method_specs_simp,seval,encGr,w2,putR]
     | false =>
      have e1 : stepA l o x = o:=by unfold stepA; rw [ha]; rfl
      have e2 : stepB l ids x = setI ids x.id:=by unfold stepB; rw [ha]; rfl
      rw [e1] at ho2
      rw [e2] at hi2
      simp only [method_specs_simp,seval,encGr,hxk,encEnt,hsi,encSS]
      refine ⟨by omega,by omega,by omega,by omega,?_⟩
      refine clY.con (c_l03Set ids x.id (by omega)) (by simp only [method_specs_simp,encGr]) ?_
      simp only [method_specs_simp,seval,encGr]
      refine Again.mk (k + 1) [0] h2 (Zc h2 (Zd _)) ?_
      rw [ho2,hi2]
      simp only [mvcgen_simp,method_specs_simp,seval,encGr,w2]
    ·have hk2 : k = s.length:=by simp only [decide_eq_false_iff_not,Ze,Za] at h2; omega
     refine Again.mk (i + 1) [0] h1 (Zc h1 (Zd _)) ?_
     rw [hk2,← preL_next hsi]
     simp only [mvcgen_simp,method_specs_simp,seval,encGr,w1]
  ·have hi2 : i = l.length:=by simp only [decide_eq_false_iff_not,Ze,Za] at h1; omega
   rw [hi2,preL_all]
   have hcom:=outA_com h hs
   have hall:=ordS_has h hs
   have hidl : (idsA l l.flatten).length ≤ 24400:=by
    have a1:=idsA_len l l.flatten []
    have a2:=preL_len hn hl4 l.length (s:=[]) (Zg _) 0
    rw [preL_all] at a2
    rw [Yi,Nat.zero_add] at a1
    exact Yj a1 a2
   have hres : resI g (DD g) l = ((ordS g (idsA l l.flatten)).map (evOf g)).foldl (stepR g) (outA l l.flatten):=by
    rw [ordS_ev h hs (SL.of h hn hs),outA_com h hs]; rfl
   have hsc : SG g (outA l l.flatten):=by
    rw [outA_com h hs]
    cases l with
    | nil=>exact SG.nil g
    | cons s l =>
     have h1:=hs s ZK
     exact ⟨h1.srt.sublist ZV,fun x hx=>h1.has x (ZE.1 hx).1⟩
   rw [hres]
   obtain ⟨ids,hids⟩ : ∃ ids,ids = idsA l l.flatten:=⟨_,rfl⟩
   obtain ⟨o,ho⟩ : ∃ o,o = outA l l.flatten:=⟨_,rfl⟩
   rw [← hids] at hall hidl ⊢
   rw [← ho] at hsc ⊢
   refine SW.seq (CW.sound ?_)
   simp only [method_specs_simp,seval,encGr]
   refine SW.freeze [1] ?_
   simp only [mvcgen_simp,method_specs_simp,seval,encGr,convs_r8j,conv_junkj]
   refine SW.seq (CW.sound ?_)
   simp only [method_specs_simp,seval,encGr]
   refine SW.while (A:=Nat) (fun i=>⟨pad 138 [.junk,.sl 1 (dl.map encI),.junk,.ptr 0 0,.junk,.junk,.nil,.sl 3 (o.map encEnt),.sl 1 (ids.map encI),.junk,.junk,.sl 1 ((ordS g (ids.take i)).map encI),.int .i64 i],[.box true (encGr g)],[]⟩) (fun i=>ids.length - i) (fun i=>i ≤ ids.length) 0 [0] (Zg _) ?_ ?_
   ·have h0 : ordS g (ids.take 0) = []:=rfl
    rw [h0]
    simp only [mvcgen_simp,method_specs_simp,seval,encGr]
   ·intro i hi
    have w1 : IntKind.i64.wrap ((i : Int) + 1) = ((i + 1 : Nat) : Int):=wadd1 i (by omega)
    have hol : (ordS g (ids.take i)).length = i:=by rw [ordS_len,Zs]; omega
    refine SW.seq (CW.sound ?_)
    simp only [method_specs_simp,seval,encGr,hol]
    refine gB_split (fun h1=>?_) (fun h1=>?_)
    ·simp only [decide_eq_true_eq,Za] at h1
     obtain ⟨x,hxi⟩ : ∃ x,ids[i]? = some x:=⟨_,Zb h1⟩
     have hox:=hall x (Zf hxi)
     have hnx:=ordS_next (g:=g) hxi
     have hom : ∀ y ∈ ordS g (ids.take i),Gm.hasId g.events y = true:=fun y hy=>hall y (Yu (ordS_mem g _ y hy))
     obtain ⟨r,hr⟩ : ∃ r,r = ordS g (ids.take i):=⟨_,rfl⟩
     rw [← hr] at hol hnx hom ⊢
     refine SW.seq (SW.block ?_)
     refine SW.seq (CW.sound ?_)
     simp only [method_specs_simp,seval,encGr,hol]
     refine SW.seq (CW.sound ?_)
     simp only [method_specs_simp,seval,encGr,hol]
     refine SW.while (A:=Nat) (fun k=>⟨pad 138 [.junk,.sl 1 (dl.map encI),.junk,.ptr 0 0,.junk,.junk,.nil,.sl 3 (o.map encEnt),.sl 1 (ids.map encI),.junk,.junk,.sl 1 (r.map encI),.int .i64 i,.int .i64 k],[.box true (encGr g)],[]⟩) (fun k=>k) (fun k=>k ≤ i ∧ posB (ltS g) r x r.length = posB (ltS g) r x k) i [0] ⟨Zo _,by rw [hol]⟩ ?_ ?_
     ·simp only [mvcgen_simp,method_specs_simp,seval,encGr,hol]
     ·rintro k ⟨hk,hp⟩
      refine CW.sound ?_
      simp only [method_specs_simp,seval,encGr,hol]
      rcases YO k with rfl | hpos
      ·rw [show posB (ltS g) r x 0 = 0 from rfl] at hp
       simp only [method_specs_simp,seval,encGr,hxi,encI]
       refine ⟨by kernel_rfl,?_⟩
       have hall2 : [V.int .i64 x] :: r.map encI = (insB (ltS g) r x).map encI:=by unfold insB; rw [hp,Yv,Yb,Yw,ZG]; rfl
       have hins : (insB (ltS g) r x).length = i + 1:=by rw [insB_len]; omega
       refine CW.sound ?_
       simp only [method_specs_simp,seval,encGr,hxi,encI]
       refine ⟨by omega,by omega,by omega,by omega,by omega,by omega,by omega,?_⟩
       rw [hall2]
       refine SW.freeze [5] ?_
       simp only [mvcgen_simp,method_specs_simp,seval,encGr,convs_r8j,conv_junkj]
       refine CW.sound ?_
       simp only [method_specs_simp,seval,encGr]
       refine Again.mk (i + 1) [0] h1 (Zc h1 (Zd _)) ?_
       have e1 : Zw (1 + r.length) ((insB (ltS g) r x).map encI) = (insB (ltS g) r x).map encI:=Zv (by rw [Zj]; omega)
       rw [hnx]
       simp only [mvcgen_simp,method_specs_simp,seval,encGr,w1,e1]
      ·obtain ⟨j,hj⟩ : ∃ j,j = k - 1:=⟨_,rfl⟩
       obtain ⟨y,hy⟩ : ∃ y,r[j]? = some y:=⟨_,Zb (by omega)⟩
       have hoy:=hom y (Zf hy)
       have hgd : r.getD j 0 = y:=by rw [ZF,hy]; rfl
       have w2 : IntKind.i64.wrap ((k : Int) - 1) = (j : Int):=by rw [hj]; exact wsub1 k (by omega) hpos
       have g1 : decide ((k : Int) > 0) = true:=by simp; omega
       have hps : posB (ltS g) r x k = if ltS g x y = true then posB (ltS g) r x j else k:=by
        have e : k = j + 1:=by omega
        rw [e,posB,hgd]
       simp only [method_specs_simp,seval,encGr,g1,w2,hol,hxi,hy,encI]
       refine ⟨by kernel_rfl,by omega,by omega,by omega,by omega,?_⟩
       have hless:=c_l06Less (P:=P) g h x y hox hoy
       rw [← hdl] at hless
       refine clY.con hless (by simp only [method_specs_simp,encGr]) ?_
       have hlt : decide (cmpD (DD g) (evOf g x) (evOf g y) < 0) = ltS g x y:=rfl
       rw [hlt]
       cases hl : ltS g x y with
       | true =>
        rw [hl,if_pos rfl] at hps
        simp only [method_specs_simp,seval,encGr,w2]
        have hp2 : posB (ltS g) r x i = posB (ltS g) r x j:=by rw [← hol]; exact hp.trans hps
        refine Again.mk j [0] ⟨by omega,hp2⟩ (by omega) ?_
        simp only [mvcgen_simp,method_specs_simp,seval,encGr]
       | false =>
        rw [hl,if_neg (by decide)] at hps
        rw [hps] at hp
        have hlt : (r.take k).length = k:=by rw [Zs]; omega
        have hld : (r.drop k).length = i - k:=by rw [List.length_drop]; omega
        have hall2 : (r.take k).map encI ++ [[V.int .i64 x]] ++ (r.drop k).map encI = (insB (ltS g) r x).map encI:=by unfold insB; rw [hp,Zy,ZG,YP]; rfl
        have hins : (insB (ltS g) r x).length = i + 1:=by rw [insB_len]; omega
        simp only [method_specs_simp,seval,encGr]
        refine CW.sound ?_
        simp only [method_specs_simp,seval,encGr,← List.map_take,← List.map_drop,Zx,hxi,encI,hlt,hld]
        refine ⟨by omega,by omega,by omega,by omega,by omega,by omega,by omega,by omega,by omega,by omega,by omega,by omega,by omega,?_⟩
        rw [hall2]
        refine SW.freeze [5] ?_
        simp only [mvcgen_simp,method_specs_simp,seval,encGr,convs_r8j,conv_junkj]
        refine CW.sound ?_
        simp only [method_specs_simp,seval,encGr]
        refine Again.mk (i + 1) [0] h1 (Zc h1 (Zd _)) ?_
        have e1 : Zw (k + 1 + (i - k)) ((insB (ltS g) r x).map encI) = (insB (ltS g) r x).map encI:=Zv (by rw [Zj]; omega)
        rw [hnx]
        simp only [mvcgen_simp,method_specs_simp,seval,encGr,w1,e1]
    ·have hi3 : i = ids.length:=by simp only [decide_eq_false_iff_not,Ze,Za] at h1; omega
     rw [hi3,Zv (Zo _)]
     have hom : ∀ y ∈ ordS g ids,Gm.hasId g.events y = true:=fun y hy=>hall y (ordS_mem g _ y hy)
     have hol : (ordS g ids).length = ids.length:=ordS_len g ids
     obtain ⟨r,hr⟩ : ∃ r,r = ordS g ids:=⟨_,rfl⟩
     rw [← hr] at hol hom ⊢
     refine SW.seq (CW.sound ?_)
     simp only [method_specs_simp,seval,encGr]
     refine SW.while (A:=Nat) (fun j=>⟨pad 138 [.junk,.junk,.junk,.ptr 0 0,.junk,.junk,.nil,.sl 3 ((((r.take j).map (evOf g)).foldl (stepR g) o).map encEnt),.junk,.junk,.junk,.sl 1 (r.map encI),.junk,.junk,.junk,.int .i64 j],[.box true (encGr g)],[]⟩) (fun j=>r.length - j) (fun j=>j ≤ r.length) 0 [0] (Zg _) ?_ ?_
     ·simp only [mvcgen_simp,method_specs_simp,seval,encGr,Yv,ZO,List.foldl_nil]
     ·intro j hj
      have w3 : IntKind.i64.wrap ((j : Int) + 1) = ((j + 1 : Nat) : Int):=wadd1 j (by omega)
      have hsg : SG g (((r.take j).map (evOf g)).foldl (stepR g) o):=foldR_SG h _ (fun e he=>by
       obtain ⟨z,hz,rfl⟩:=ZB.1 he
       obtain ⟨e,h1,h2,_⟩:=evOf_at (hom z (Yu hz))
       rw [h2]; exact Zf h1) hsc
      refine CW.sound ?_
      simp only [method_specs_simp,seval,encGr]
      refine gB_split (fun h2=>?_) (fun h2=>?_)
      ·simp only [decide_eq_true_eq,Za] at h2
       obtain ⟨x,hxj⟩ : ∃ x,r[j]? = some x:=⟨_,Zb h2⟩
       have hox:=hom x (Zf hxj)
       obtain ⟨e,he1,he2,he3⟩:=evOf_at hox
       have hem:=Zf he1
       have hel:=Gm.fid_lt hox
       have hai : atI g.events x = ((Gm.fidE g.events x : Nat) : Int):=atI_yes hox
       obtain ⟨f,hf⟩ : ∃ f,f = Gm.fidE g.events x:=⟨_,rfl⟩
       rw [← hf] at he1 hel hai
       have hnx : ((r.take (j + 1)).map (evOf g)).foldl (stepR g) o = stepR g (((r.take j).map (evOf g)).foldl (stepR g) o) e:=by
        rw [Zi,hxj,Zk,Zy,Yh,Yx,he2]; rfl
       obtain ⟨u,hu⟩ : ∃ u,u = ((r.take j).map (evOf g)).foldl (stepR g) o:=⟨_,rfl⟩
       rw [← hu] at hsg hnx ⊢
       have hul:=SG.len h hsg
       simp only [method_specs_simp,seval,encGr,encEv,hxj,encI]
       refine ⟨by kernel_rfl,by omega,by omega,?_⟩
       refine clY.con (c_l03At g.events x (by omega)) (by simp only [method_specs_simp,encGr,encEv]) ?_
       simp only [method_specs_simp,seval,encGr,encEv,hai]
       simp only [method_specs_simp,seval,encGr,encEv,he1]
       refine ⟨by omega,by omega,?_⟩
       refine clY.con (c_l05Allowed g u e (SG.LS h hsg)) (by simp only [method_specs_simp,encGr,encEv]) ?_
       cases hal : (allowedE g u e == 0) with
       | true =>
        have hst : stepR g u e = putR u (entE e):=by
         have hid:=h.ids e hem
         unfold stepR
         rw [hal,if_pos rfl,putR_I hsg.srt (by show e.id ≠ 0; omega)]
        rw [hst] at hnx
        simp only [method_specs_simp,seval,encGr,encEv,hal]
        refine clY.con (c117 u (entE e) (by omega)) (by simp only [method_specs_simp,encEnt,entE]) ?_
        simp only [method_specs_simp,seval,encGr,encEv]
        refine Again.mk (j + 1) [0] h2 (Zc h2 (Zd _)) ?_
        rw [hnx]
        simp only [mvcgen_simp,method_specs_simp,seval,encGr,encEv,w3,putR]
       | false =>
        have hst : stepR g u e = u:=by unfold stepR; rw [hal]; rfl
        rw [hst] at hnx
        simp only [method_specs_simp,seval,encGr,encEv,hal]
        refine Again.mk (j + 1) [0] h2 (Zc h2 (Zd _)) ?_
        rw [hnx]
        simp only [mvcgen_simp,method_specs_simp,seval,encGr,encEv,w3]
      ·have hj2 : j = r.length:=by simp only [decide_eq_false_iff_not,Ze,Za] at h2; omega
       rw [hj2,Zv (Zo _)]
       refine CW.sound ?_
       simp only [method_specs_simp,seval,encGr,encEv]
end
def hsG (g : Gr) : Hs:=hsN g (DD g) (evsO g)
def oB (g : Gr) (A : List (Int × Option (List Ent))) : List (List V):=g.events.map fun e=>[fS (lookD A e.id none)]
def oR (g : Gr) (R : List (Int × Int)) : List (List V):=g.events.map fun e=>[V.int .i64 (lookD R e.id 0)]
theorem oB_len (g : Gr) (A : List (Int × Option (List Ent))) : (oB g A).length = g.events.length:=Zj _
theorem oR_len (g : Gr) (R : List (Int × Int)) : (oR g R).length = g.events.length:=Zj _
theorem oB_get {g : Gr} (A : List (Int × Option (List Ent))) {k : Nat} {e : Ev} (he : g.events[k]? = some e) : (oB g A)[k]? = some [fS (lookD A e.id none)]:=by unfold oB; rw [Zt,he]; rfl
theorem oR_get {g : Gr} (R : List (Int × Int)) {k : Nat} {e : Ev} (he : g.events[k]? = some e) : (oR g R)[k]? = some [V.int .i64 (lookD R e.id 0)]:=by unfold oR; rw [Zt,he]; rfl
theorem set_map {α : Type} {evs : List Ev} (hs : Gm.Srt evs) {k : Nat} {e : Ev} (he : evs[k]? = some e) (f f' : Ev → α) (h1 : ∀ x ∈ evs,x.id ≠ e.id → f' x = f x) : (evs.map f).set k (f' e) = evs.map f':=by
 apply List.ext_getElem?
 intro j
 rw [List.getElem?_set,Zj,Zt,Zt]
 have hkl:=(Zr.1 he).1
 by_cases hj : k = j
 ·subst hj
  rw [if_pos rfl,if_pos hkl,he]; rfl
 ·rw [if_neg hj]
  cases hx : evs[j]? with
  | none=>rfl
  | some x =>
   have hne : x.id ≠ e.id:=by
    rcases Nat.lt_or_gt_of_ne hj with h2 | h2
    ·have:=Gm.pw_get hs h2 he hx; omega
    ·have:=Gm.pw_get hs h2 hx he; omega
   simp only [Yc,h1 x (Zf hx) hne]
theorem oB_set {g : Gr} (h : GG g) (A : List (Int × Option (List Ent))) {k : Nat} {e : Ev} (he : g.events[k]? = some e) (s : List Ent) : (oB g A).set k [V.sl 3 (s.map encEnt)] = oB g (putK A e.id (some s)):=by
 have:=set_map h.srt he (fun e=>[fS (lookD A e.id none)]) (fun x=>[fS (lookD (putK A e.id (some s)) x.id none)]) (fun x _ hne=>by rw [lookD_ne A e.id x.id (some s) none hne])
 rw [lookD_putK] at this
 exact this
theorem oR_set {g : Gr} (h : GG g) (R : List (Int × Int)) {k : Nat} {e : Ev} (he : g.events[k]? = some e) (c : Int) : (oR g R).set k [V.int .i64 c] = oR g (putK R e.id c):=by
 have:=set_map h.srt he (fun e=>[V.int .i64 (lookD R e.id 0)]) (fun x=>[V.int .i64 (lookD (putK R e.id c) x.id 0)]) (fun x _ hne=>by rw [lookD_ne R e.id x.id c 0 hne])
 rw [lookD_putK] at this
 exact this
theorem oB_put {g : Gr} (h : GG g) (A : List (Int × Option (List Ent))) {k : Nat} {e : Ev} (he : g.events[k]? = some e) (s : List Ent) : (oB g A).set k (V.sl 3 (s.map encEnt) :: ZH 1 ((oB g A).getD k [])) = oB g (putK A e.id (some s)):=by
 rw [ZF,oB_get A he]
 exact oB_set h A he s
theorem oR_put {g : Gr} (h : GG g) (R : List (Int × Int)) {k : Nat} {e : Ev} (he : g.events[k]? = some e) (c : Int) : (oR g R).set k (V.int .i64 c :: ZH 1 ((oR g R).getD k [])) = oR g (putK R e.id c):=by
 rw [ZF,oR_get R he]
 exact oR_set h R he c
theorem oB_refs (ok : Nat → Prop) (g : Gr) (A : List (Int × Option (List Ent))) : Refss ok (oB g A) = True:=eq_true (Refss_map fun e=>⟨fS_ref ok _,trivial⟩)
theorem oR_refs (ok : Nat → Prop) (g : Gr) (R : List (Int × Int)) : Refss ok (oR g R) = True:=eq_true (Refss_map fun e=>⟨trivial,trivial⟩)
theorem oB_rens (ρ : Nat → Nat) (g : Gr) (A : List (Int × Option (List Ent))) : renss ρ (oB g A) = oB g A:=renss_map fun e=>⟨fS_ref _ _,trivial⟩
theorem oR_rens (ρ : Nat → Nat) (g : Gr) (R : List (Int × Int)) : renss ρ (oR g R) = oR g R:=renss_map fun e=>⟨trivial,trivial⟩
theorem oB_nil (g : Gr) : ZI g.events.length [V.nil] = oB g []:=by
 unfold oB
 rw [show (fun e : Ev=>[fS (lookD ([] : List (Int × Option (List Ent))) e.id none)]) = fun _=>[V.nil] from rfl,Yy]
theorem oR_nil (g : Gr) : ZI g.events.length [V.int .i64 0] = oR g []:=by
 unfold oR
 rw [show (fun e : Ev=>[V.int .i64 (lookD ([] : List (Int × Int)) e.id 0)]) = fun _=>[V.int .i64 0] from rfl,Yy]
theorem oB_take (g : Gr) (A : List (Int × Option (List Ent))) : Zw g.events.length (oB g A) = oB g A:=Zv (by rw [oB_len]; exact Zo _)
theorem oR_take (g : Gr) (A : List (Int × Int)) : Zw g.events.length (oR g A) = oR g A:=Zv (by rw [oR_len]; exact Zo _)
attribute [mvcgen_simp,method_specs_simp] oB_refs oR_refs oB_rens oR_rens oB_len oR_len
theorem oB_cv {m : List Ob} {q : Nat} {g : Gr} (h : GG g) (A : List (Int × Option (List Ent))) {k : Nat} {e : Ev} (he : g.events[k]? = some e) {s : List Ent} (hm : m[q]? = some (.arr false 3 (s.map encEnt))) : (((oB g A).set k (V.ar q 0 s.length :: ZH 1 ((oB g A).getD k []))).map fun x=>x.map (conv m)) = oB g (putK A e.id (some s)):=by
 have h1 : ZH 1 ((oB g A).getD k []) = []:=by rw [ZF,oB_get A he]; rfl
 have h2 : ((oB g A).map fun x=>x.map (conv m)) = oB g A:=by
  unfold oB
  rw [List.map_map]
  refine YQ fun x _=>?_
  show [conv m (fS (lookD A x.id none))] = [fS (lookD A x.id none)]
  cases lookD A x.id none <;> rfl
 have h3 : conv m (.ar q 0 s.length) = .sl 3 (s.map encEnt):=by
  simp only [conv,hm,Yb]
  rw [Zv (by rw [Zj]; exact Zo _)]
 rw [h1,List.map_set,h2,ZG,ZO,h3]
 exact oB_set h A he s
theorem allowed_hide {g : Gr} {s : List Ent} {e : Ev} (h1 : (allowedE g s e == 0) = true) (h2 : (e.kind == 8) = true) : Gm.hasId g.events e.key = true:=by
 have h8 : e.kind = 8:=by simpa using h2
 have h0 : allowedE g s e = 0:=by simpa using h1
 rw [← atE_has]
 cases ha : (atE g.events e.key).isSome with
 | true=>rfl
 | false =>
  exfalso
  unfold allowedE at h0
  rw [h8,ha] at h0
  simp only [show ((8 : Int) == 1) = false from rfl,show ((8 : Int) == 2) = false from rfl,show ((8 : Int) == 3) = false from rfl,show ((8 : Int) == 4) = false from rfl,show ((8 : Int) == 5) = false from rfl,show ((8 : Int) == 6) = false from rfl,show ((8 : Int) == 8) = true from rfl,ZZ,if_false,Zm,Bool.or_self,if_true] at h0
  split at h0
  ·omega
  ·split at h0 <;> omega
def kS (g : Gr) (x : Hs) : V:=.fptr [.sl 1 ((Gm.depthsE g.events).map encI),.sl 1 (oB g x.B),.sl 1 (oB g x.A),.sl 1 (oR g x.R)] 0
def kL (g : Gr) : V:=.fptr [.sl 1 ((Gm.depthsE g.events).map encI),.ar 1 0 g.events.length,.ar 2 0 g.events.length,.ar 3 0 g.events.length] 0
def kM (g : Gr) (x : Hs) : List Ob:=[.box true (encGr g),.arr true 1 (oB g x.B),.arr true 1 (oB g x.A),.arr true 1 (oR g x.R)]
theorem kS_ref (ok : Nat → Prop) (g : Gr) (x : Hs) : Ref ok (kS g x):=by
 simp only [kS,Refs,Ref,oB_refs,oR_refs,and_self,and_true]
 exact of_eq_true (encI_refs ok _)
section
variable {P : Program} [Is P]
theorem c_l06All (g : Gr) (h : GG g) : Con P 82 [.agg (encGr g)] (kS g (hsG g)):=by
 have h60:=h.n
 have hx:=h.hx
 have hdn:=(Gm.depths_ok g.events).len
 refine Con.ofS (n:=176) (rs:=[.tmp 2]) (Is.fn Tryz.func82) rfl (Is.call Tryz.call82) Tryz.results82 Tryz.ntmps82 (kS_ref _ g _) ?_
 refine SW.seq (CW.sound ?_)
 simp only [method_specs_simp,seval,encGr]
 refine SW.seq (CW.sound ?_)
 simp only [method_specs_simp,seval,encGr]
 refine SW.seq (CW.sound ?_)
 simp only [method_specs_simp,seval,encGr]
 refine ⟨by kernel_rfl,?_⟩
 refine clY.con (c_l03Depths g.events h.ok.1 h.ain) (by simp only [method_specs_simp]) ?_
 simp only [method_specs_simp,seval,encGr]
 refine ⟨by omega,by omega,by omega,by omega,by omega,by omega,by omega,by omega,by omega,?_⟩
 refine SW.freeze [4] ?_
 simp only [mvcgen_simp,method_specs_simp,seval,encGr,convs_r8j,conv_junkj]
 refine SW.wk [0,1,2,3] (st':=⟨pad 176 [.junk,.ptr 0 0,.junk,.int .i64 g.events.length,kL g],kM g ⟨DD g,[],[],[]⟩,[]⟩) ?_ ?_
 ·simp only [mvcgen_simp,method_specs_simp,seval,encGr,kL,kM,oB_nil,oR_nil]
 refine SW.seq (CW.sound ?_)
 simp only [method_specs_simp,seval,encGr,kM]
 refine clY.con (c_l03Sort g h.ok.1 h.ain h.pos) (by simp only [method_specs_simp,encGr]) ?_
 simp only [method_specs_simp,seval,encGr]
 refine SW.seq (CW.sound ?_)
 simp only [method_specs_simp,seval,encGr]
 refine SW.while (A:=Nat) (fun i=>⟨pad 176 [.junk,.ptr 0 0,.junk,.int .i64 g.events.length,kL g,.sl 1 ((orderE g.events).map encI),.int .i64 i],kM g (hsN g (DD g) ((evsO g).take i)),[]⟩) (fun i=>g.events.length - i) (fun i=>i ≤ g.events.length) 0 [0,1,2,3] (Zg _) ?_ ?_
 ·have h0 : hsN g (DD g) ((evsO g).take 0) = ⟨DD g,[],[],[]⟩:=rfl
  rw [h0]
  simp only [mvcgen_simp,method_specs_simp,seval,encGr,kM,kL]
 ·intro i hi
  have w1 : IntKind.i64.wrap ((i : Int) + 1) = ((i + 1 : Nat) : Int):=wadd1 i (by omega)
  refine SW.seq (CW.sound ?_)
  simp only [method_specs_simp,seval,encGr]
  refine gB_split (fun h1=>?_) (fun h1=>?_)
  ·simp only [decide_eq_true_eq,Za] at h1
   obtain ⟨id,hid⟩ : ∃ id,(orderE g.events)[i]? = some id:=⟨_,Zb (by rw [orderE_len]; exact h1)⟩
   obtain ⟨k',e,hk,hke',h3,h4,h5⟩:=order_place h hid
   have hev : (evsO g)[i]? = some e:=by unfold evsO; rw [Zt,hid,Yc,h4]
   have hnx : hsN g (DD g) ((evsO g).take (i + 1)) = addH g (hsN g (DD g) ((evsO g).take i)) e:=by rw [Zi,hev,Zk,hsN_snoc]
   have hDD : (hsN g (DD g) ((evsO g).take i)).D = DD g:=hsN_D g (DD g) _ _
   obtain ⟨hi1,hi2⟩:=(HI.at_ h (DD g) i hi).sts (order_prev h hev)
   have hfour:=h.four e h5
   have hhas : Gm.hasId g.events id = true:=by rw [← h3]; exact has_mem h5
   have hai : atI g.events id = ((Gm.fidE g.events id : Nat) : Int):=atI_yes hhas
   have hke : g.events[Gm.fidE g.events id]? = some e:=by
    obtain ⟨e2,he2,he3⟩:=Gm.fid_get hhas
    have a1:=at_mem h.srt (Zf he2)
    have a2:=at_mem h.srt h5
    rw [he3,← h3,a2] at a1
    injection a1 with a1
    rw [he2,← a1]
   have hkl:=Gm.fid_lt hhas
   obtain ⟨k,hkk⟩ : ∃ k,k = Gm.fidE g.events id:=⟨_,rfl⟩
   rw [← hkk] at hai hke hkl
   have hsl : SL g (stsA (hsN g (DD g) ((evsO g).take i)).A e.prev):=SL.of h (by rw [stsA_len]; omega) hi2
   obtain ⟨x,hxx⟩ : ∃ x,x = hsN g (DD g) ((evsO g).take i):=⟨_,rfl⟩
   rw [← hxx] at hi1 hi2 hsl hnx hDD ⊢
   refine SW.seq (SW.block ?_)
   refine SW.seq (CW.sound ?_)
   simp only [method_specs_simp,seval,encGr,encEv,kL,kM,hid,encI,orderE_len]
   refine ⟨by kernel_rfl,by omega,by omega,?_⟩
   refine clY.con (c_l03At g.events id (by omega)) (by simp only [method_specs_simp,encGr,encEv,kL,kM]) ?_
   simp only [method_specs_simp,seval,encGr,encEv,kL,kM,hai]
   refine SW.seq (CW.sound ?_)
   simp only [method_specs_simp,seval,encGr,encEv,kL,kM,hke]
   refine ⟨by omega,by omega,?_⟩
   refine SW.freeze [4] ?_
   simp only [mvcgen_simp,method_specs_simp,seval,encGr,encEv,kL,kM,convs_r8j,conv_junkj]
   refine SW.seq (CW.sound ?_)
   simp only [method_specs_simp,seval,encGr,encEv,kL,kM]
   refine SW.seq (CW.sound ?_)
   simp only [method_specs_simp,seval,encGr,encEv,kL,kM]
   have hSl : ∀ j,j ≤ e.prev.length → (stsA x.A (e.prev.take j)).length = j:=fun j hj=>by rw [stsA_len,Zs]; omega
   refine SW.while (A:=Nat) (fun j=>⟨pad 176 [.junk,.ptr 0 0,.junk,.int .i64 g.events.length,kL g,.sl 1 ((orderE g.events).map encI),.int .i64 i,.int .i64 k,.fptr (encEv e) 0,.ar 4 0 j,.int .i64 j],kM g x ++ [.arr true 1 ((stsA x.A (e.prev.take j)).map encSS)],[]⟩) (fun j=>e.prev.length - j) (fun j=>j ≤ e.prev.length) 0 [0,1,2,3,5] (Zg _) ?_ ?_
   ·have h0 : stsA x.A (e.prev.take 0) = []:=rfl
    rw [h0]
    simp only [mvcgen_simp,method_specs_simp,seval,encGr,encEv,kL,kM]
   ·intro j hj
    have hjl:=hSl j hj
    have w2 : IntKind.i64.wrap ((j : Int) + 1) = ((j + 1 : Nat) : Int):=wadd1 j (by omega)
    refine CW.sound ?_
    simp only [method_specs_simp,seval,encGr,encEv,kL,kM]
    refine gB_split (fun h2=>?_) (fun h2=>?_)
    ·simp only [decide_eq_true_eq,Za] at h2
     obtain ⟨p,hp⟩ : ∃ p,e.prev[j]? = some p:=⟨_,Zb h2⟩
     have hpm:=Zf hp
     obtain ⟨s,hsv⟩:=Yk.1 (hi1 p hpm)
     have hph : Gm.hasId g.events p = true:=by
      have:=h.ain e h5
      rw [Gm.allIn,Zn] at this
      exact this p hpm
     obtain ⟨ep,hep,hepi⟩:=Gm.fid_get hph
     have hpl:=Gm.fid_lt hph
     have hpi : atI g.events p = ((Gm.fidE g.events p : Nat) : Int):=atI_yes hph
     obtain ⟨f,hf⟩ : ∃ f,f = Gm.fidE g.events p:=⟨_,rfl⟩
     rw [← hf] at hep hpl hpi
     have hget : (oB g x.A)[f]? = some [V.sl 3 (s.map encEnt)]:=by rw [oB_get x.A hep,hepi,hsv]; rfl
     have hnS : stsA x.A (e.prev.take (j + 1)) = stsA x.A (e.prev.take j) ++ [s]:=by unfold stsA; rw [Zi,hp,Zk,Zy,Yx,hsv]; rfl
     have e1 : (stsA x.A (e.prev.take j)).map encSS ++ [[V.sl 3 (s.map encEnt)]] = (stsA x.A (e.prev.take (j + 1))).map encSS:=by rw [hnS,Zy]; rfl
     simp only [method_specs_simp,seval,encGr,encEv,kL,kM,hp,encI,hjl]
     refine ⟨by kernel_rfl,by omega,by omega,?_⟩
     refine clY.con (c_l03At g.events p (by omega)) (by simp only [method_specs_simp,encGr,encEv,kL,kM]) ?_
     simp only [method_specs_simp,seval,encGr,encEv,kL,kM,hpi]
     simp only [method_specs_simp,seval,encGr,encEv,kL,kM,hget]
     refine ⟨by omega,by omega,hjl,by omega,by omega,?_⟩
     rw [e1]
     refine Again.mk (j + 1) [0,1,2,3,6] h2 (Zc h2 (Zd _)) ?_
     simp only [mvcgen_simp,method_specs_simp,seval,encGr,encEv,kL,kM,w2]
    ·have hj2 : j = e.prev.length:=by simp only [decide_eq_false_iff_not,Ze,Za] at h2; omega
     have htk : e.prev.take j = e.prev:=by rw [hj2]; exact Zx
     rw [htk] at hjl ⊢
     obtain ⟨S,hS⟩ : ∃ S,S = stsA x.A e.prev:=⟨_,rfl⟩
     rw [← hS] at hjl hsl hi2 ⊢
     refine SW.freeze [4] ?_
     simp only [mvcgen_simp,method_specs_simp,seval,encGr,encEv,kL,kM,convs_r8j,conv_junkj]
     have e2 : Zw j (S.map encSS) = S.map encSS:=Zv (by rw [Zj]; omega)
     rw [e2]
     have hsg : SG g (resI g (DD g) S):=resI_SG h hi2
     refine SW.seq (CW.sound ?_)
     simp only [method_specs_simp,seval,encGr,encEv,kL,kM]
     refine ⟨by kernel_rfl,?_⟩
     refine clY.con (c_l06Resolve g S h hi2 (by omega)) (by simp only [method_specs_simp,encGr]) ?_
     obtain ⟨s,hs⟩ : ∃ s,s = resI g (DD g) S:=⟨_,rfl⟩
     rw [← hs] at hsg ⊢
     have hul:=SG.len h hsg
     simp only [method_specs_simp,seval,encGr,encEv,kL,kM]
     refine ⟨by omega,by omega,by omega,?_⟩
     rw [oB_put h x.B hke s]
     have hgB : (oB g (putK x.B e.id (some s)))[k]? = some [V.sl 3 (s.map encEnt)]:=by rw [oB_get _ hke,lookD_putK]; rfl
     obtain ⟨B2,hB2⟩ : ∃ B2,B2 = putK x.B e.id (some s):=⟨_,rfl⟩
     rw [← hB2] at hgB ⊢
     refine SW.seq (CW.sound ?_)
     simp only [method_specs_simp,seval,encGr,encEv,kL,kM,hgB]
     refine ⟨by kernel_rfl,by omega,by omega,?_⟩
     refine clY.con (c_l05Allowed g s e (SG.LS h hsg)) (by simp only [method_specs_simp,encGr,encEv]) ?_
     simp only [method_specs_simp,seval,encGr,encEv,kL,kM]
     refine ⟨by omega,by omega,by omega,?_⟩
     rw [oR_put h x.R hke (allowedE g s e)]
     have hgR : (oR g (putK x.R e.id (allowedE g s e)))[k]? = some [V.int .i64 (allowedE g s e)]:=by rw [oR_get _ hke,lookD_putK]
     have hR3 : ∀ c,(oR g (putK x.R e.id (allowedE g s e))).set k (V.int .i64 c :: ZH 1 ((oR g (putK x.R e.id (allowedE g s e))).getD k [])) = oR g (putK x.R e.id c):=fun c=>by rw [oR_put h _ hke c,putK_putK]
     refine sw_meet ⟨pad 176 [.junk,.ptr 0 0,.junk,.int .i64 g.events.length,kL g,.sl 1 ((orderE g.events).map encI),.int .i64 i,.int .i64 k,.fptr (encEv e) 0],[.box true (encGr g),.arr true 1 (oB g B2),.arr true 1 (oB g x.A),.arr true 1 (oR g (putK x.R e.id (codeH g s e)))],[]⟩ ?_ ?_
     ·refine CW.sound ?_
      simp only [method_specs_simp,seval,encGr,encEv,kL,kM,hgR]
      refine ⟨by omega,by omega,?_⟩
      cases k1 : (allowedE g s e == 0) with
      | false =>
       have hc : codeH g s e = allowedE g s e:=by unfold codeH; rw [k1]; rfl
       simp only [method_specs_simp,seval,encGr,encEv,kL,kM]
       refine again_meet [0,1,2,3] ?_
       rw [hc]
       simp only [mvcgen_simp,method_specs_simp,seval,encGr,encEv,kL,kM]
      | true =>
       simp only [method_specs_simp,seval,encGr,encEv,kL,kM,k1]
       cases k2 : (e.kind == 8) with
       | false =>
        have hc : codeH g s e = allowedE g s e:=by unfold codeH; rw [k2]; simp
        simp only [method_specs_simp,seval,encGr,encEv,kL,kM,k2]
        refine again_meet [0,1,2,3] ?_
        rw [hc]
        simp only [mvcgen_simp,method_specs_simp,seval,encGr,encEv,kL,kM]
       | true =>
        simp only [method_specs_simp,seval,encGr,encEv,kL,kM,k2]
        refine clY.con (c_l03Ahead g e.key e h h5 (allowed_hide k1 k2)) (by simp only [method_specs_simp,encGr]) ?_
        cases k3 : aheadE g e.key e with
        | true =>
         have hc : codeH g s e = allowedE g s e:=by unfold codeH; rw [k3]; simp
         simp only [method_specs_simp,seval,encGr,encEv,kL,kM]
         refine again_meet [0,1,2,3] ?_
         rw [hc]
         simp only [mvcgen_simp,method_specs_simp,seval,encGr,encEv,kL,kM]
        | false =>
         have hc : codeH g s e = 6:=by unfold codeH; rw [k3,k1,k2]; rfl
         simp only [method_specs_simp,seval,encGr,encEv,kL,kM]
         refine ⟨by omega,by omega,by omega,?_⟩
         rw [hR3]
         refine again_meet [0,1,2,3] ?_
         rw [hc]
         simp only [mvcgen_simp,method_specs_simp,seval,encGr,encEv,kL,kM]
     ·have hcR : (oR g (putK x.R e.id (codeH g s e)))[k]? = some [V.int .i64 (codeH g s e)]:=by rw [oR_get _ hke,lookD_putK]
      obtain ⟨R2,hR2⟩ : ∃ R2,R2 = putK x.R e.id (codeH g s e):=⟨_,rfl⟩
      rw [← hR2] at hcR ⊢
      refine SW.seq (SW.drawnK [0,1,2,3,4] 13 mixed (by kernel_rfl) (by kernel_rfl) (by kernel_rfl) ?_ ?_)
      ·simp only [method_specs_simp,seval,encGr,encEv,kL,kM,Yz,YA]
      show RQi P _ _ _ _ _
      simp only [method_specs_simp,seval,encGr,encEv,kL,kM,hgB]
      refine ⟨by omega,by omega,by omega,by omega,by omega,by omega,by omega,?_⟩
      refine SW.freeze [4] ?_
      simp only [mvcgen_simp,method_specs_simp,seval,encGr,encEv,kL,kM,convs_r8j,conv_junkj]
      refine SW.cvo 2 rfl (oB_cv h x.A hke rfl) ?_
      have hA3 : ∀ u,(oB g (putK x.A e.id (some s))).set k (V.sl 3 (u.map encEnt) :: ZH 1 ((oB g (putK x.A e.id (some s))).getD k [])) = oB g (putK x.A e.id (some u)):=fun u=>by rw [oB_put h _ hke u,putK_putK]
      have hend : ∀ b : Bool,(codeH g s e == 0 && decide (e.kind ≤ 6)) = b → behH g s e = if b then putI s (entE e) else s:=fun b hb=>by unfold behH; rw [hb]
      have hadd : addH g x e = ⟨DD g,B2,putK x.A e.id (some (behH g s e)),R2⟩:=by rw [hB2,hR2,hs,hS,← hDD]; rfl
      refine CW.sound ?_
      simp only [method_specs_simp,seval,encGr,encEv,kL,kM,hcR]
      refine ⟨by omega,by omega,?_⟩
      cases k1 : (codeH g s e == 0) with
      | false =>
       have hb:=hend false (by rw [k1]; rfl)
       rw [if_neg (by decide)] at hb
       rw [hb] at hadd
       simp only [method_specs_simp,seval,encGr,encEv,kL,kM,k1]
       refine CW.sound ?_
       simp only [method_specs_simp,seval,encGr,encEv,kL,kM]
       refine Again.mk (i + 1) [0,1,2,3] h1 (Zc h1 (Zd _)) ?_
       rw [hnx,hadd]
       simp only [mvcgen_simp,method_specs_simp,seval,encGr,encEv,kL,kM,w1]
      | true =>
       cases k2 : decide (e.kind ≤ 6) with
       | false =>
        have hb:=hend false (by rw [k1,k2]; rfl)
        rw [if_neg (by decide)] at hb
        rw [hb] at hadd
        simp only [method_specs_simp,seval,encGr,encEv,kL,kM,k1,k2]
        refine CW.sound ?_
        simp only [method_specs_simp,seval,encGr,encEv,kL,kM]
        refine Again.mk (i + 1) [0,1,2,3] h1 (Zc h1 (Zd _)) ?_
        rw [hnx,hadd]
        simp only [mvcgen_simp,method_specs_simp,seval,encGr,encEv,kL,kM,w1]
       | true =>
        have hb:=hend true (by rw [k1,k2]; rfl)
        rw [if_pos rfl] at hb
        have hid:=h.ids e h5
        rw [hb,← putR_I hsg.srt (show (entE e).id ≠ 0 by show e.id ≠ 0; omega)] at hadd
        simp only [method_specs_simp,seval,encGr,encEv,kL,kM,k1,k2,hgB]
        refine ⟨by kernel_rfl,by omega,by omega,?_⟩
        refine clY.con (c117 s (entE e) (by omega)) (by simp only [method_specs_simp,encEnt,entE]) ?_
        simp only [method_specs_simp,seval,encGr,encEv,kL,kM]
        refine ⟨by omega,by omega,by omega,?_⟩
        have hA4:=hA3 (putR s (entE e))
        unfold putR at hA4
        rw [hA4]
        refine CW.sound ?_
        simp only [method_specs_simp,seval,encGr,encEv,kL,kM]
        refine Again.mk (i + 1) [0,1,2,3] h1 (Zc h1 (Zd _)) ?_
        rw [hnx,hadd]
        simp only [mvcgen_simp,method_specs_simp,seval,encGr,encEv,kL,kM,w1,putR]
  ·have hi3 : i = g.events.length:=by simp only [decide_eq_false_iff_not,Ze,Za] at h1; omega
   have hev : (evsO g).take i = evsO g:=Zv (by rw [evsO_len,hi3]; exact Zo _)
   rw [hev]
   obtain ⟨x,hxx⟩ : ∃ x,x = hsN g (DD g) (evsO g):=⟨_,rfl⟩
   have hfin : hsG g = x:=hxx.symm
   rw [hfin,← hxx]
   refine SW.freeze [1,2,3] ?_
   simp only [mvcgen_simp,method_specs_simp,seval,encGr,kL,kM,convs_r8j,conv_junkj]
   refine sw_deep 2 ?_
   simp only [mvcgen_simp,method_specs_simp,seval,encGr,kL,kM,map_r8,ZG,ZO]
   refine CW.sound ?_
   simp only [method_specs_simp,seval,encGr,kL,kM,kS,oB_take,oR_take]
end
def thereG (g : Gr) (id : Int) : Bool:=Gm.grRight g && Gm.hasId g.events id
def refG (g : Gr) (id : Int) : Int:=if thereG g id then lookD (hsG g).R id 0 else -1
def aheadG (g : Gr) (id : Int) : List Ent:=(lookD (hsG g).B id none).getD []
def behindG (g : Gr) (id : Int) : List Ent:=(lookD (hsG g).A id none).getD []
theorem hsG_in {g : Gr} (h : GG g) {id : Int} (hi : Gm.hasId g.events id = true) : (lookD (hsG g).B id none = some (aheadG g id) ∧ SG g (aheadG g id)) ∧ (lookD (hsG g).A id none = some (behindG g id) ∧ SG g (behindG g id)):=by
 have hI:=HI.at_ h (DD g) g.events.length (Zo _)
 rw [Zv (by rw [orderE_len]; exact Zo _),Zv (by rw [evsO_len]; exact Zo _)] at hI
 have hm : id ∈ orderE g.events:=by
  obtain ⟨e,he,hid⟩:=Gm.hasId_iff.1 hi
  obtain ⟨z,hz,hze⟩:=ZB.1 (evsO_all h e he)
  obtain ⟨i,hzi⟩:=Zz hz
  obtain ⟨k,e',_,_,h1,h2,_⟩:=order_place h hzi
  rw [← hid,← hze,h2,h1]; exact hz
 obtain ⟨s,h1,h2⟩:=hI.B id hm
 obtain ⟨u,h3,h4⟩:=hI.A id hm
 have e1 : lookD (hsG g).B id none = some s:=h1
 have e2 : lookD (hsG g).A id none = some u:=h3
 unfold aheadG behindG
 rw [e1,e2]
 exact ⟨⟨rfl,h2⟩,rfl,h4⟩
end Go.Proofs.YtlgeggpcnbbjdaaGreat
end
section
namespace Go.Proofs.YtlgeggpcnbbjdaaGreat
open Go.Pm
def keptI (p : Int → Bool) (xs : List Int) : List Int:=xs.filter fun x=>!p x
end Go.Proofs.YtlgeggpcnbbjdaaGreat
end
section
namespace Go.Proofs.YtlgeggpcnbbjdaaGreat
open Go.Pm
open Go.Gm (Ev Gr)
def okE (x : Hs) (e : Ev) : Bool:=lookD x.R e.id 0 == 0
def accI (g : Gr) (x : Hs) : List Int:=(g.events.filter (okE x)).map (·.id)
def hitI (g : Gr) (id i : Int) : Bool:=(evOf g id).prev.contains i
def endsI (g : Gr) (ids l : List Int) : List Int:=ids.foldl (fun o id=>keptI (hitI g id) o) l
theorem endsI_filter (g : Gr) : ∀ (ids l : List Int),endsI g ids l = l.filter fun i=>!(ids.any fun id=>hitI g id i)
 | [],l=>by
   show l = l.filter fun i=>!(([] : List Int).any fun id=>hitI g id i)
   exact (YB.2 fun i _=>rfl).symm
 | id :: ids,l=>by
   show endsI g ids (keptI (hitI g id) l) = _
   rw [endsI_filter g ids]
   unfold keptI
   rw [YR]
   refine Yl fun i _=>?_
   simp only [List.any_cons,Bool.not_or,YC]
section
variable {P : Program} [Is P]
theorem c_accepted (g : Gr) (x : Hs) (h : GG g) : Con P 50 [hF g x] (.sl 1 ((accI g x).map encI)):=by
 have h60:=h.n
 refine Con.ofS (n:=32) (rs:=[.tmp 2]) (Is.fn Tryz.func50) rfl (Is.call Tryz.call50) Tryz.results50 Tryz.ntmps50 (by simp only [method_specs_simp]) ?_
 refine SW.seq (CW.sound ?_)
 simp only [method_specs_simp,seval,hF]
 refine SW.seq (CW.sound ?_)
 simp only [method_specs_simp,seval,hF]
 refine SW.seq (CW.sound ?_)
 simp only [method_specs_simp,seval,hF]
 obtain ⟨A,hA⟩ : ∃ A : Nat → List Int,A = fun i=>((g.events.take i).filter (okE x)).map (·.id):=⟨_,rfl⟩
 have hA0 : A 0 = []:=by rw [hA]; rfl
 have hAn : A g.events.length = accI g x:=by rw [hA]; unfold accI; show ((g.events.take g.events.length).filter (okE x)).map (·.id) = _; rw [Zx]
 have hAl : ∀ i,(A i).length ≤ i:=fun i=>by
  have h1:=ZY (okE x) (g.events.take i)
  rw [Zs] at h1
  rw [hA,Zj]; omega
 have hAs : ∀ i e,g.events[i]? = some e → A (i + 1) = A i ++ if okE x e then [e.id] else []:=fun i e he=>by
  rw [hA]
  show ((g.events.take (i + 1)).filter (okE x)).map (·.id) = _
  rw [Zi,he,Zk,Ym,Zy]
  cases ho : okE x e <;> simp [ho]
 refine SW.while (A:=Nat) (fun i=>⟨pad 32 [hF g x,.junk,.nil,.ar 0 0 (A i).length,.junk,.junk,.junk,.junk,.junk,.junk,.junk,.sl 9 (g.events.map encEv),.int .i64 g.events.length,.int .i64 i],[.arr true 1 ((A i).map encI)],[]⟩) (fun i=>g.events.length - i) (fun i=>i ≤ g.events.length) 0 [0] (Zg _) ?_ ?_
 ·rw [hA0]
  simp only [mvcgen_simp,method_specs_simp,seval,hF]
 ·intro i hi
  have w1 : IntKind.i64.wrap ((i : Int) + 1) = ((i + 1 : Nat) : Int):=wadd1 i (by omega)
  have hal:=hAl i
  refine CW.sound ?_
  simp only [method_specs_simp,seval,hF]
  refine gB_split (fun h1=>?_) (fun h1=>?_)
  ·simp only [decide_eq_true_eq,Za] at h1
   obtain ⟨e,he⟩ : ∃ e,g.events[i]? = some e:=⟨_,Zb h1⟩
   have hnx:=hAs i e he
   obtain ⟨a,ha⟩ : ∃ a,a = A i:=⟨_,rfl⟩
   rw [← ha] at hnx hal ⊢
   simp only [method_specs_simp,seval,hF,he,encEv]
   refine ⟨by omega,by omega,by kernel_rfl,?_⟩
   refine lkY.ints (V.int .i64) x.R 0 rfl (by simp only [method_specs_simp]) ?_
   simp only [method_specs_simp,seval,hF]
   have hok : okE x e = (lookD x.R e.id 0 == 0):=rfl
   rw [← hok]
   cases ho : okE x e with
   | true =>
    rw [ho,if_pos rfl] at hnx
    have e1 : a.map encI ++ [[V.int .i64 e.id]] = (A (i + 1)).map encI:=by rw [hnx,Zy]; rfl
    have e2 : a.length + 1 = (A (i + 1)).length:=by rw [hnx,ZN]; rfl
    simp only [method_specs_simp,seval,hF]
    refine ⟨by omega,by omega,?_⟩
    rw [e1,e2]
    refine Again.mk (i + 1) [3] h1 (Zc h1 (Zd _)) ?_
    simp only [mvcgen_simp,method_specs_simp,seval,hF,w1]
   | false =>
    rw [ho,if_neg (by decide),Ya] at hnx
    simp only [method_specs_simp,seval,hF]
    refine Again.mk (i + 1) [0] h1 (Zc h1 (Zd _)) ?_
    rw [hnx]
    simp only [mvcgen_simp,method_specs_simp,seval,hF,w1]
  ·have hi2 : i = g.events.length:=by simp only [decide_eq_false_iff_not,Ze,Za] at h1; omega
   rw [hi2,hAn]
   refine CW.sound ?_
   simp only [method_specs_simp,seval,hF,Zv,Zj,Zo]
def endsP (g : Gr) (ids S : List Int) (j : Nat) : List Int:=endsI g (ids.take j) S ++ ZI (S.length - (endsI g (ids.take j) S).length) 0
def endsG (g : Gr) (x : Hs) : List Int:=endsI g (accI g x) (accI g x)
end
def takL (g : Gr) (p : Ev → Bool) : List Bool:=g.events.map (p)
theorem takL_len (g : Gr) (p : Ev → Bool) : (takL g p).length = g.events.length:=Zj _
theorem takL_get {g : Gr} {p : Ev → Bool} {k : Nat} {e : Ev} (he : g.events[k]? = some e) : (takL g p)[k]? = some (p e):=by unfold takL; rw [Zt,he]; rfl
def tkP (g : Gr) (p : Ev → Bool) (i : Nat) : List Bool:=(takL g p).take i ++ ZI (g.events.length - i) false
theorem tkP_len {g : Gr} {p : Ev → Bool} {i : Nat} (h : i ≤ g.events.length) : (tkP g p i).length = g.events.length:=by
 unfold tkP
 rw [ZN,Zs,List.length_replicate,takL_len]
 omega
theorem tkP_next {g : Gr} {p : Ev → Bool} {i : Nat} {e : Ev} (he : g.events[i]? = some e) : (tkP g p i).set i (p e) = tkP g p (i + 1):=by
 have hi:=(Zr.1 he).1
 have hl : ((takL g p).take i).length = i:=by rw [Zs,takL_len]; omega
 unfold tkP
 rw [List.set_append_right _ _ (by omega),hl,YD,show g.events.length - i = (g.events.length - (i + 1)) + 1 by omega,List.replicate_succ,List.set_cons_zero,Zi,takL_get he,Zk,YP]
 rfl
def endB (g : Gr) (p : Ev → Bool) (e : Ev) : Bool:=p e && g.events.all fun e'=>!(p e' && e'.prev.contains e.id)
def endsR (g : Gr) (p : Ev → Bool) (i : Nat) : List Int:=((g.events.take i).filter (endB g p)).map (·.id)
theorem endsR_len (g : Gr) (p : Ev → Bool) (i : Nat) : (endsR g p i).length ≤ i:=by
 have h1:=ZY (endB g p) (g.events.take i)
 rw [Zs] at h1
 unfold endsR
 rw [Zj]; omega
theorem endsR_next {g : Gr} {p : Ev → Bool} {i : Nat} {e : Ev} (he : g.events[i]? = some e) : endsR g p (i + 1) = endsR g p i ++ if endB g p e then [e.id] else []:=by
 unfold endsR
 rw [Zi,he,Zk,Ym,Zy]
 cases ho : endB g p e <;> simp [ho]
theorem evOf_mem {g : Gr} (h : GG g) {e : Ev} (he : e ∈ g.events) : evOf g e.id = e:=by unfold evOf; rw [at_mem h.srt he]; rfl
def endsQ (g : Gr) (p : Ev → Bool) : List Int:=endsR g p g.events.length
theorem endsR_any {g : Gr} (h : GG g) (p : Ev → Bool) {ids : List Int} (hids : ∀ id,id ∈ ids ↔ ∃ e ∈ g.events,p e = true ∧ e.id = id) : endsI g ids ((g.events.filter p).map (·.id)) = endsQ g p:=by
 unfold endsQ endsR
 rw [Zx,endsI_filter]
 rw [List.filter_map,YR]
 congr 1
 refine Yl fun e he=>?_
 show ((!(ids.any fun id=>hitI g id e.id)) && p e) = endB g p e
 unfold endB
 rw [YC]
 congr 1
 rw [ZC,Zn,ZM,ZT]
 constructor
 ·intro h1 e' he'
  cases ho : p e' with
  | false=>rfl
  | true =>
   have:=h1 e'.id ((hids _).2 ⟨e',he',ho,rfl⟩)
   unfold hitI at this
   rw [evOf_mem h he'] at this
   simpa using this
 ·intro h1 id hid
  obtain ⟨e',h2,h3,rfl⟩:=(hids id).1 hid
  have:=h1 e' h2
  rw [h3,Zh] at this
  unfold hitI
  rw [evOf_mem h h2]
  simpa using this
theorem endsR_all {g : Gr} (h : GG g) (x : Hs) : endsR g (okE x) g.events.length = endsG g x:=by
 unfold endsG
 rw [show accI g x = (g.events.filter (okE x)).map (·.id) from rfl]
 refine (endsR_any h (okE x) fun id=>?_).symm
 rw [ZB]
 constructor
 ·rintro ⟨e,he,rfl⟩
  exact ⟨e,(ZE.1 he).1,(ZE.1 he).2,rfl⟩
 ·rintro ⟨e,h1,h2,rfl⟩
  exact ⟨e,ZE.2 ⟨h1,h2⟩,rfl⟩
def endK (g : Gr) (p : Ev → Bool) (e : Ev) (k : Nat) : Bool:=p e && (g.events.take k).all fun e'=>!(p e' && e'.prev.contains e.id)
def endJ (g : Gr) (p : Ev → Bool) (e : Ev) (k : Nat) (l : List Int) (j : Nat) : Bool:=endK g p e k && (l.take j).all fun q=>q != e.id
theorem endK_all (g : Gr) (p : Ev → Bool) (e : Ev) : endK g p e g.events.length = endB g p e:=by unfold endK; rw [Zx]; rfl
theorem endJ_zero (g : Gr) (p : Ev → Bool) (e : Ev) (k : Nat) (l : List Int) : endJ g p e k l 0 = endK g p e k:=by unfold endJ; simp
theorem endJ_next {g : Gr} {p : Ev → Bool} {e : Ev} {k : Nat} {l : List Int} {j : Nat} {q : Int} (h : l[j]? = some q) : endJ g p e k l (j + 1) = (endJ g p e k l j && (q != e.id)):=by
 unfold endJ
 rw [Zi,h,Zk,YE,Yn]
 simp
theorem endK_skip {g : Gr} {p : Ev → Bool} {e e' : Ev} {k : Nat} (h : g.events[k]? = some e') (ho : p e' = false) : endK g p e (k + 1) = endK g p e k:=by
 unfold endK
 rw [Zi,h,Zk,YE]
 simp [ho]
theorem endK_next {g : Gr} {p : Ev → Bool} {e e' : Ev} {k : Nat} (h : g.events[k]? = some e') (ho : p e' = true) : endK g p e (k + 1) = endJ g p e k e'.prev e'.prev.length:=by
 have hc : (!e'.prev.contains e.id) = e'.prev.all fun q=>q != e.id:=by
  rw [ZC,ZM,Zn]
  constructor
  ·intro h1 q hp
   rw [bne_iff_ne]
   rintro rfl
   rw [Zp.2 hp] at h1; cases h1
  ·intro h1
   cases hb : e'.prev.contains e.id with
   | false=>rfl
   | true =>
    have:=h1 e.id (Zp.1 hb)
    simp at this
 unfold endJ endK
 rw [Zi,h,Zk,YE,Zx,← hc]
 simp [ho,Yn]
section
variable {P : Program} [Is P]
theorem c_l06Taken (g : Gr) (x : Hs) (hn : g.events.length ≤ 60) : Con P 84 [kS g x] (.sl 1 ((takL g (okE x)).map encB)):=by
 refine Con.of (n:=29) (rs:=[.tmp 2]) (Is.fn Tryz.func84) rfl (Is.call Tryz.call84) Tryz.results84 Tryz.ntmps84 (by simp only [method_specs_simp]) ?_
 simp only [method_specs_simp,seval,kS]
 refine ⟨by omega,by omega,by omega,?_⟩
 have hz : ZI g.events.length [V.bool false] = (tkP g (okE x) 0).map encB:=by unfold tkP; rw [Yv,Yw,Nat.sub_zero,List.map_replicate]; rfl
 rw [hz]
 refine SW.while (A:=Nat) (fun i=>⟨pad 29 [kS g x,.junk,.nil,.ar 0 0 g.events.length,.int .i64 i],[.arr true 1 ((tkP g (okE x) i).map encB)],[]⟩) (fun i=>g.events.length - i) (fun i=>i ≤ g.events.length) 0 [0] (Zg _) ?_ ?_
 ·simp only [mvcgen_simp,method_specs_simp,seval,kS]
 ·intro i hi
  have w1 : IntKind.i64.wrap ((i : Int) + 1) = ((i + 1 : Nat) : Int):=wadd1 i (by omega)
  have htl:=tkP_len (p:=okE x) hi
  refine CW.sound ?_
  simp only [method_specs_simp,seval,kS]
  refine gB_split (fun h1=>?_) (fun h1=>?_)
  ·simp only [decide_eq_true_eq,Za] at h1
   obtain ⟨e,he⟩ : ∃ e,g.events[i]? = some e:=⟨_,Zb h1⟩
   have hgR:=oR_get x.R he
   have hnx:=tkP_next (p:=okE x) he
   have hok : (lookD x.R e.id 0 == 0) = okE x e:=rfl
   simp only [method_specs_simp,seval,kS,hgR,hok]
   refine ⟨by omega,by omega,by omega,by omega,by omega,?_⟩
   rw [hnx]
   refine Again.mk (i + 1) [0] h1 (Zc h1 (Zd _)) ?_
   simp only [mvcgen_simp,method_specs_simp,seval,kS,w1]
  ·have hi2 : i = g.events.length:=by simp only [decide_eq_false_iff_not,Ze,Za] at h1; omega
   have hall : tkP g (okE x) i = takL g (okE x):=by
    unfold tkP
    rw [hi2,YD,List.replicate_zero,Ya,Zv (by rw [takL_len]; exact Zo _)]
   have htk : Zw g.events.length ((takL g (okE x)).map encB) = (takL g (okE x)).map encB:=Zv (by rw [Zj,takL_len]; exact Zo _)
   rw [hall]
   simp only [method_specs_simp,seval,kS,htk]
theorem c_l06Ends (g : Gr) (p : Ev → Bool) (h : GG g) : Con P 107 [.agg (encGr g),.sl 1 ((takL g p).map encB)] (.sl 1 ((endsQ g p).map encI)):=by
 have h60:=h.n
 have htl:=takL_len g p
 unfold endsQ
 refine Con.ofS (n:=76) (rs:=[.tmp 4]) (Is.fn Tryz.func107) rfl (Is.call Tryz.call107) Tryz.results107 Tryz.ntmps107 (by simp only [method_specs_simp]) ?_
 refine SW.seq (CW.sound ?_)
 simp only [method_specs_simp,seval,encGr]
 refine SW.seq (CW.sound ?_)
 simp only [method_specs_simp,seval,encGr]
 refine SW.seq (CW.sound ?_)
 simp only [method_specs_simp,seval,encGr]
 refine SW.while (A:=Nat) (fun i=>⟨pad 76 [.junk,.sl 1 ((takL g p).map encB),.ptr 0 0,.junk,.nil,.ar 1 0 (endsR g p i).length,.int .i64 i],[.box true (encGr g),.arr true 1 ((endsR g p i).map encI)],[]⟩) (fun i=>g.events.length - i) (fun i=>i ≤ g.events.length) 0 [0,1] (Zg _) ?_ ?_
 ·have h0 : endsR g p 0 = []:=rfl
  rw [h0]
  simp only [mvcgen_simp,method_specs_simp,seval,encGr]
 ·intro i hi
  have w1 : IntKind.i64.wrap ((i : Int) + 1) = ((i + 1 : Nat) : Int):=wadd1 i (by omega)
  have hel:=endsR_len g p i
  refine CW.sound ?_
  simp only [method_specs_simp,seval,encGr]
  refine gB_split (fun h1=>?_) (fun h1=>?_)
  ·simp only [decide_eq_true_eq,Za] at h1
   obtain ⟨e,he⟩ : ∃ e,g.events[i]? = some e:=⟨_,Zb h1⟩
   have hnx:=endsR_next (p:=p) he
   have hgt:=takL_get (p:=p) he
   simp only [method_specs_simp,seval,encGr,hgt,encB]
   refine ⟨by omega,by omega,?_⟩
   refine SW.while (A:=Nat) (fun k=>⟨pad 76 [.junk,.sl 1 ((takL g p).map encB),.ptr 0 0,.junk,.nil,.ar 1 0 (endsR g p i).length,.int .i64 i,.bool (endK g p e k),.int .i64 k],[.box true (encGr g),.arr true 1 ((endsR g p i).map encI)],[]⟩) (fun k=>g.events.length - k) (fun k=>k ≤ g.events.length) 0 [0,1] (Zg _) ?_ ?_
   ·have h0 : endK g p e 0 = p e:=by unfold endK; simp
    rw [h0]
    simp only [mvcgen_simp,method_specs_simp,seval,encGr]
   ·intro k hk
    have w2 : IntKind.i64.wrap ((k : Int) + 1) = ((k + 1 : Nat) : Int):=wadd1 k (by omega)
    refine CW.sound ?_
    simp only [method_specs_simp,seval,encGr]
    refine gB_split (fun h2=>?_) (fun h2=>?_)
    ·simp only [decide_eq_true_eq,Za] at h2
     obtain ⟨e',he'⟩ : ∃ e',g.events[k]? = some e':=⟨_,Zb h2⟩
     have hgt':=takL_get (p:=p) he'
     have hf4:=h.four e' (Zf he')
     refine SW.while (A:=Nat) (fun j=>⟨pad 76 [.junk,.sl 1 ((takL g p).map encB),.ptr 0 0,.junk,.nil,.ar 1 0 (endsR g p i).length,.int .i64 i,.bool (endJ g p e k e'.prev j),.int .i64 k,.int .i64 j],[.box true (encGr g),.arr true 1 ((endsR g p i).map encI)],[]⟩) (fun j=>e'.prev.length - j) (fun j=>j ≤ e'.prev.length ∧ (p e' = false → j = 0)) 0 [0,1] ⟨Zg _,fun _=>rfl⟩ ?_ ?_
     ·rw [endJ_zero]
      simp only [mvcgen_simp,method_specs_simp,seval,encGr]
     ·rintro j ⟨hj,hj0⟩
      have w3 : IntKind.i64.wrap ((j : Int) + 1) = ((j + 1 : Nat) : Int):=wadd1 j (by omega)
      refine CW.sound ?_
      simp only [method_specs_simp,seval,encGr,hgt',encB,htl]
      cases ho : p e' with
      | false =>
       have hz:=hj0 ho
       subst hz
       have hks:=endK_skip (e:=e) he' ho
       simp only [method_specs_simp,seval,encGr]
       refine ⟨by omega,by omega,?_⟩
       refine Again.mk (k + 1) [0,1] h2 (Zc h2 (Zd _)) ?_
       rw [endJ_zero,hks]
       simp only [mvcgen_simp,method_specs_simp,seval,encGr,w2]
      | true =>
       simp only [method_specs_simp,seval,encGr,he',encEv]
       refine ⟨by omega,by omega,by omega,by omega,?_⟩
       refine gB_split (fun h3=>?_) (fun h3=>?_)
       ·simp only [decide_eq_true_eq,Za] at h3
        obtain ⟨q,hp⟩ : ∃ q,e'.prev[j]? = some q:=⟨_,Zb h3⟩
        have hjn:=endJ_next (g:=g) (p:=p) (e:=e) (k:=k) hp
        refine ⟨by kernel_rfl,?_⟩
        cases hb : endJ g p e k e'.prev j with
        | false =>
         rw [hb,Zm] at hjn
         simp only [method_specs_simp,seval,encGr]
         refine Again.mk (j + 1) [0,1] ⟨h3,fun q=>by cases q⟩ (Zc h3 (Zd _)) ?_
         rw [hjn]
         simp only [mvcgen_simp,method_specs_simp,seval,encGr,w3]
        | true =>
         rw [hb,Zh] at hjn
         simp only [method_specs_simp,seval,encGr,hp,encI,he,he',encEv]
         refine ⟨by omega,by omega,by omega,by omega,by omega,by omega,?_⟩
         refine Again.mk (j + 1) [0,1] ⟨h3,fun q=>by cases q⟩ (Zc h3 (Zd _)) ?_
         rw [hjn]
         simp only [mvcgen_simp,method_specs_simp,seval,encGr,w3]
       ·have hj2 : j = e'.prev.length:=by simp only [decide_eq_false_iff_not,Ze,Za] at h3; omega
        have hkn:=endK_next (p:=p) (e:=e) he' ho
        refine Again.mk (k + 1) [0,1] h2 (Zc h2 (Zd _)) ?_
        rw [hj2,← hkn]
        simp only [mvcgen_simp,method_specs_simp,seval,encGr,w2]
    ·have hk2 : k = g.events.length:=by simp only [decide_eq_false_iff_not,Ze,Za] at h2; omega
     rw [hk2,endK_all]
     cases hb : endB g p e with
     | true =>
      rw [hb,if_pos rfl] at hnx
      have e1 : (endsR g p i).map encI ++ [[V.int .i64 e.id]] = (endsR g p (i + 1)).map encI:=by rw [hnx,Zy]; rfl
      have e2 : (endsR g p i).length + 1 = (endsR g p (i + 1)).length:=by rw [hnx,ZN]; rfl
      simp only [method_specs_simp,seval,encGr,he,encEv]
      refine ⟨by omega,by omega,by omega,by omega,?_⟩
      rw [e1,e2]
      refine Again.mk (i + 1) [0,3] h1 (Zc h1 (Zd _)) ?_
      simp only [mvcgen_simp,method_specs_simp,seval,encGr,w1]
     | false =>
      rw [hb,if_neg (by decide),Ya] at hnx
      simp only [method_specs_simp,seval,encGr]
      refine Again.mk (i + 1) [0,1] h1 (Zc h1 (Zd _)) ?_
      rw [hnx]
      simp only [mvcgen_simp,method_specs_simp,seval,encGr,w1]
  ·have hi2 : i = g.events.length:=by simp only [decide_eq_false_iff_not,Ze,Za] at h1; omega
   rw [hi2]
   refine CW.sound ?_
   simp only [method_specs_simp,seval,encGr]
end
theorem sts_ok {g : Gr} (h : GG g) {ids : List Int} (hi : ∀ id ∈ ids,Gm.hasId g.events id = true) : (∀ id ∈ ids,(lookD (hsG g).A id none).isSome = true) ∧ ∀ s ∈ stsA (hsG g).A ids,SG g s:=by
 refine ⟨fun id hid=>?_,fun s hs=>?_⟩
 ·rw [(hsG_in h (hi id hid)).2.1]; rfl
 ·obtain ⟨id,hid,rfl⟩:=ZB.1 hs
  rw [(hsG_in h (hi id hid)).2.1]
  exact (hsG_in h (hi id hid)).2.2
def curG (g : Gr) : List Ent:=resI g (DD g) (stsA (hsG g).A (endsG g (hsG g)))
theorem endsQ_has {g : Gr} (p : Ev → Bool) : ∀ id ∈ endsQ g p,Gm.hasId g.events id = true:=fun id hid=>by
 unfold endsQ endsR at hid
 obtain ⟨e,he,rfl⟩:=ZB.1 hid
 rw [Zx] at he
 exact has_mem (ZE.1 he).1
def curQ (g : Gr) (p : Ev → Bool) : List Ent:=resI g (DD g) (stsA (hsG g).A (endsQ g p))
theorem curQ_G {g : Gr} (h : GG g) : curQ g (okE (hsG g)) = curG g:=by unfold curQ curG endsQ; rw [endsR_all h]
section
variable {P : Program} [Is P]
theorem c_l06Current (g : Gr) (p : Ev → Bool) (h : GG g) : Con P 83 [.agg (encGr g),kS g (hsG g),.sl 1 ((takL g p).map encB)] (.sl 3 ((curQ g p).map encEnt)):=by
 have h60:=h.n
 have hel : (endsQ g p).length ≤ 60:=Yj (endsR_len g p g.events.length) h60
 have hhas:=endsQ_has (g:=g) p
 obtain ⟨h1,h2⟩:=sts_ok h hhas
 refine Con.ofS (n:=43) (rs:=[.tmp 6]) (Is.fn Tryz.func83) rfl (Is.call Tryz.call83) Tryz.results83 Tryz.ntmps83 (by simp only [method_specs_simp]) ?_
 refine SW.seq (CW.sound ?_)
 simp only [method_specs_simp,seval,encGr,kS]
 refine SW.seq (CW.sound ?_)
 simp only [method_specs_simp,seval,encGr,kS]
 refine clY.con (c_l06Ends g p h) (by simp only [method_specs_simp,encGr]) ?_
 obtain ⟨ids,hids⟩ : ∃ ids,ids = endsQ g p:=⟨_,rfl⟩
 have hcur : curQ g p = resI g (DD g) (stsA (hsG g).A ids):=by rw [hids]; rfl
 rw [← hids] at hel hhas h1 h2 ⊢
 simp only [method_specs_simp,seval,encGr,kS]
 refine SW.seq (CW.sound ?_)
 simp only [method_specs_simp,seval,encGr,kS]
 refine SW.seq (CW.sound ?_)
 simp only [method_specs_simp,seval,encGr,kS]
 refine SW.while (A:=Nat) (fun j=>⟨pad 43 [.junk,kS g (hsG g),.junk,.ptr 0 0,.junk,.junk,.nil,.sl 1 (ids.map encI),.ar 1 0 j,.int .i64 j],[.box true (encGr g),.arr true 1 ((stsA (hsG g).A (ids.take j)).map encSS)],[]⟩) (fun j=>ids.length - j) (fun j=>j ≤ ids.length) 0 [0,1] (Zg _) ?_ ?_
 ·have h0 : stsA (hsG g).A (ids.take 0) = []:=rfl
  rw [h0]
  simp only [mvcgen_simp,method_specs_simp,seval,encGr,kS]
 ·intro j hj
  have hjl : (stsA (hsG g).A (ids.take j)).length = j:=by rw [stsA_len,Zs]; omega
  have w2 : IntKind.i64.wrap ((j : Int) + 1) = ((j + 1 : Nat) : Int):=wadd1 j (by omega)
  refine CW.sound ?_
  simp only [method_specs_simp,seval,encGr,kS]
  refine gB_split (fun h3=>?_) (fun h3=>?_)
  ·simp only [decide_eq_true_eq,Za] at h3
   obtain ⟨q,hp⟩ : ∃ q,ids[j]? = some q:=⟨_,Zb h3⟩
   have hpm:=Zf hp
   obtain ⟨s,hsv⟩:=Yk.1 (h1 q hpm)
   have hph:=hhas q hpm
   obtain ⟨ep,hep,hepi⟩:=Gm.fid_get hph
   have hpl:=Gm.fid_lt hph
   have hpi : atI g.events q = ((Gm.fidE g.events q : Nat) : Int):=atI_yes hph
   obtain ⟨f,hf⟩ : ∃ f,f = Gm.fidE g.events q:=⟨_,rfl⟩
   rw [← hf] at hep hpl hpi
   have hget : (oB g (hsG g).A)[f]? = some [V.sl 3 (s.map encEnt)]:=by rw [oB_get _ hep,hepi,hsv]; rfl
   have hnS : stsA (hsG g).A (ids.take (j + 1)) = stsA (hsG g).A (ids.take j) ++ [s]:=by unfold stsA; rw [Zi,hp,Zk,Zy,Yx,hsv]; rfl
   have e1 : (stsA (hsG g).A (ids.take j)).map encSS ++ [[V.sl 3 (s.map encEnt)]] = (stsA (hsG g).A (ids.take (j + 1))).map encSS:=by rw [hnS,Zy]; rfl
   simp only [method_specs_simp,seval,encGr,kS,hp,encI,hjl]
   refine ⟨by kernel_rfl,by omega,by omega,?_⟩
   refine clY.con (c_l03At g.events q (by omega)) (by simp only [method_specs_simp,encGr,kS]) ?_
   simp only [method_specs_simp,seval,encGr,kS,hpi]
   simp only [method_specs_simp,seval,encGr,kS,hget]
   refine ⟨by omega,by omega,hjl,by omega,by omega,?_⟩
   rw [e1]
   refine Again.mk (j + 1) [0,3] h3 (Zc h3 (Zd _)) ?_
   simp only [mvcgen_simp,method_specs_simp,seval,encGr,kS,w2]
  ·have hj2 : j = ids.length:=by simp only [decide_eq_false_iff_not,Ze,Za] at h3; omega
   have htk : ids.take j = ids:=by rw [hj2]; exact Zx
   rw [htk] at hjl ⊢
   refine SW.freeze [1] ?_
   simp only [mvcgen_simp,method_specs_simp,seval,encGr,kS,convs_r8j,conv_junkj]
   have e2 : Zw j ((stsA (hsG g).A ids).map encSS) = (stsA (hsG g).A ids).map encSS:=Zv (by rw [Zj]; omega)
   rw [e2]
   refine CW.sound ?_
   simp only [method_specs_simp,seval,encGr,kS]
   refine ⟨by kernel_rfl,?_⟩
   refine clY.con (c_l06Resolve g (stsA (hsG g).A ids) h h2 (by omega)) (by simp only [method_specs_simp,encGr]) ?_
   rw [← hcur]
   simp only [method_specs_simp,seval,encGr,kS]
theorem c_l06CurG (g : Gr) (h : GG g) : Con P 83 [.agg (encGr g),kS g (hsG g),.sl 1 ((takL g (okE (hsG g))).map encB)] (.sl 3 ((curG g).map encEnt)):=by
 rw [← curQ_G h]
 exact c_l06Current g _ h
end
structure Sp where
 room : Int
 id : Int
 deriving DecidableEq
instance : Inhabited Sp:=⟨⟨0,0⟩⟩
structure Hb where
 rooms : List Gr
 stream : List Sp
def encSp (x : Sp) : List V:=[.int .i64 x.room,.int .i64 x.id]
def encHb (h : Hb) : List V:=[.sl 3 (h.rooms.map encGr),.sl 2 (h.stream.map encSp)]
theorem encSp_ref1 (ok : Nat → Prop) (x : Sp) : Refs ok (encSp x):=by simp only [encSp,Refs,Ref,and_self]
@[method_specs_simp] theorem encSp_refs (ok : Nat → Prop) (xs : List Sp) : Refss ok (xs.map encSp) = True:=eq_true (Refss_map fun a=>encSp_ref1 ok a)
@[method_specs_simp] theorem encSp_rens (ρ : Nat → Nat) (xs : List Sp) : renss ρ (xs.map encSp) = xs.map encSp:=renss_map fun a=>encSp_ref1 _ a
@[method_specs_simp] theorem encGr_refs (ok : Nat → Prop) (xs : List Gr) : Refss ok (xs.map encGr) = True:=eq_true (Refss_map fun a=>encGr_ref1 ok a)
@[method_specs_simp] theorem encGr_rens (ρ : Nat → Nat) (xs : List Gr) : renss ρ (xs.map encGr) = xs.map encGr:=renss_map fun a=>encGr_ref1 _ a
theorem encHb_ref1 (ok : Nat → Prop) (h : Hb) : Refs ok (encHb h):=by simp only [encHb,Refs,Ref,encSp_refs,encGr_refs,and_self]
def GrsOK (l : List Gr) : Prop:=l.length * 56 ≤ 2 ^ 47 ∧ ∀ g ∈ l,GrOK g
def HbOK (h : Hb) : Prop:=GrsOK h.rooms ∧ h.stream.length * 16 ≤ 2 ^ 47
theorem wG_nn1 (g : Gr) : 0 ≤ wG g:=by have:=wEs_nn g.events; have:=wEs_nn g.parked; unfold wG; omega
def wGs : List Gr → Int
 | []=>0
 | g :: l=>wG g + wGs l
theorem wGs_nn : ∀ l : List Gr,0 ≤ wGs l
 | []=>YF _
 | g :: l=>by have:=wG_nn1 g; have:=wGs_nn l; unfold wGs; omega
def wH (h : Hb) : Int:=(h.rooms.length + wGs h.rooms) + h.stream.length
theorem wH_nn (h : Hb) : 0 ≤ wH h:=by have:=wGs_nn h.rooms; unfold wH; omega
def zGr : List V:=[.int .i64 0,.nil,.nil]
def zSp : List V:=[.int .i64 0,.int .i64 0]
@[method_specs_simp] theorem rowG_refs (ok : Nat → Prop) (xs : List Gr) (k : Nat) : Refss ok (rowZ encGr zGr xs k) = True:=eq_true (rowZ_refs (fun x=>encGr_ref1 ok x) (by simp [zGr,Refs,Ref]) xs k)
@[method_specs_simp] theorem rowG_rens (ρ : Nat → Nat) (xs : List Gr) (k : Nat) : renss ρ (rowZ encGr zGr xs k) = rowZ encGr zGr xs k:=rowZ_rens (fun x=>encGr_ref1 _ x) (by simp [zGr,Refs,Ref]) xs k
@[method_specs_simp] theorem rowS_refs (ok : Nat → Prop) (xs : List Sp) (k : Nat) : Refss ok (rowZ encSp zSp xs k) = True:=eq_true (rowZ_refs (fun x=>encSp_ref1 ok x) (by simp [zSp,Refs,Ref]) xs k)
@[method_specs_simp] theorem rowS_rens (ρ : Nat → Nat) (xs : List Sp) (k : Nat) : renss ρ (rowZ encSp zSp xs k) = rowZ encSp zSp xs k:=rowZ_rens (fun x=>encSp_ref1 _ x) (by simp [zSp,Refs,Ref]) xs k
section
variable {P : Program} [Is P]
theorem c_szGraphS (xs : List Gr) (l : Int) (h0 : 0 ≤ l) (h1 : l ≤ 1048576) (hx : GrsOK xs) : Con P 43 [.sl 3 (xs.map encGr),.int .i64 l] (.int .i64 (sb l (xs.length + wGs xs))):=by
 have hx1:=hx.1
 have w1 : IntKind.i64.wrap (l - xs.length) = l - xs.length:=wrap_id (by omega) (by omega)
 refine Con.of (n:=27) (rs:=[.tmp 4]) (Is.fn Tryz.func43) rfl (Is.call Tryz.call43) Tryz.results43 Tryz.ntmps43 trivial ?_
 simp only [method_specs_simp,seval]
 rw [w1]
 refine gB_split (fun h=>?_) (fun h=>?_)
 ·simp only [decide_eq_true_eq] at h; rw [sb_neg h (wGs_nn xs)]
 ·simp only [decide_eq_false_iff_not,Ze] at h
  refine SW.while (A:=Nat × Int) (fun a=>⟨pad 27 [.sl 3 (xs.map encGr),.int .i64 a.2,.junk,.junk,.int .i64 0,.int .i64 a.1],[],[]⟩) (fun a=>xs.length - a.1)
   (fun a=>a.1 ≤ xs.length ∧ 0 ≤ a.2 ∧ a.2 ≤ 1048576 ∧ sb l (xs.length + wGs xs) = sb a.2 (wGs (xs.drop a.1))) (0,l - xs.length) [] ⟨Zg _,by simp only; omega,by simp only; omega,?_⟩ ?_ ?_
  ·simp only [Yb]; rw [sb_sb (by omega) (wGs_nn xs)]
  ·simp only [mvcgen_simp,method_specs_simp,seval]
  ·rintro ⟨k,r⟩ ⟨hk,hr0,hr1,hr⟩
   simp only at hk hr0 hr1 hr
   rw [hr]
   refine CW.sound ?_
   simp only [method_specs_simp,seval]
   refine gB_split (fun h=>?_) (fun h=>?_)
   ·simp only [decide_eq_true_eq,Za] at h
    have hxk : xs[k]? = some xs[k]:=Zb h
    have hOK:=hx.2 _ (ZD h)
    generalize xs[k] = x at hxk hOK
    simp only [Zt,hxk,method_specs_simp]
    refine ⟨by omega,by omega,?_⟩
    refine clY.con (c_szGraph x r hr0 hr1 hOK) (by simp only [method_specs_simp,encGr]) ?_
    simp only [method_specs_simp,seval]
    rw [drop_cons hxk,wGs]
    have hn:=wGs_nn (xs.drop (k + 1))
    have hw:=wG_nn1 x
    refine gB_split (fun h'=>?_) (fun h'=>?_)
    ·simp only [decide_eq_true_eq] at h'
     have h2 : r - wG x < 0:=by unfold sb at h'; split at h' <;> omega
     rw [sb_neg h2 hn]
    ·simp only [decide_eq_false_iff_not,Ze] at h'
     have h2 : 0 ≤ r - wG x:=by unfold sb at h'; split at h' <;> omega
     rw [wrap_id (by omega) (by omega),sb_ge h2]
     refine Again.mk (k + 1,r - wG x) [] ⟨h,h2,by simp only; omega,?_⟩ (Zc h (Zd _)) ?_
     ·exact (sb_sb h2 hn).symm
     ·simp only [method_specs_simp,seval]
   ·simp only [decide_eq_false_iff_not,Ze,Za] at h
    rw [ZA (by omega),wGs,sb_ge (by omega)]
    simp
theorem c_szSpotS (xs : List Sp) (l : Int) (h0 : 0 ≤ l) (h1 : l ≤ 1048576) (hx : xs.length < 2 ^ 62) : Con P 44 [.sl 2 (xs.map encSp),.int .i64 l] (.int .i64 (sb l xs.length)):=by
 refine Con.of (n:=12) (rs:=[.tmp 4]) (Is.fn Tryz.func44) rfl (Is.call Tryz.call44) Tryz.results44 Tryz.ntmps44 trivial ?_
 simp only [method_specs_simp,seval]
 rw [wrap_id (by omega) (by omega)]
 refine gB_split (fun h=>?_) (fun h=>?_)
 ·simp only [decide_eq_true_eq] at h; rw [sb_lt h]
 ·simp only [decide_eq_false_iff_not,Ze] at h
  rw [sb_ge (by omega)]
theorem c_szHub (h : Hb) (l : Int) (h0 : 0 ≤ l) (h1 : l ≤ 1048576) (hh : HbOK h) : Con P 25 [.agg (encHb h),.int .i64 l] (.int .i64 (sb l (wH h))):=by
 have hh2:=hh.2
 have n1:=wGs_nn h.rooms
 refine Con.of (n:=18) (rs:=[.tmp 4]) (Is.fn Tryz.func25) rfl (Is.call Tryz.call25) Tryz.results25 Tryz.ntmps25 trivial ?_
 simp only [method_specs_simp,seval]
 simp only [method_specs_simp,seval,encHb]
 refine clY.con (c_szGraphS h.rooms l h0 h1 hh.1) (by simp only [method_specs_simp]) ?_
 simp only [method_specs_simp,seval]
 refine gB_split (fun h'=>?_) (fun h'=>?_)
 ·simp only [decide_eq_true_eq] at h'
  have h2 : l - (h.rooms.length + wGs h.rooms) < 0:=by unfold sb at h'; split at h' <;> omega
  rw [wH,sb_neg h2 (by omega)]
 ·simp only [decide_eq_false_iff_not,Ze] at h'
  have h2 : 0 ≤ l - (h.rooms.length + wGs h.rooms):=by unfold sb at h'; split at h' <;> omega
  rw [sb_ge h2]
  refine clY.con (c_szSpotS h.stream (l - (h.rooms.length + wGs h.rooms)) h2 (by omega) (by omega)) (by simp only [method_specs_simp]) ?_
  simp only [method_specs_simp,seval]
  rw [sb_sb h2 (by omega),← wH]
  refine gB_split (fun h=>?_) (fun h=>?_)
  ·simp only [decide_eq_true_eq] at h
   have : sb l (wH ‹Hb›) = -1:=by unfold sb at h ⊢; split at h <;> simp_all
   rw [this]
  ·trivial
theorem c_toGraphS (xs : List Gr) (hx : GrsOK xs) : Con P 46 [.sl 3 (xs.map encGr)] (.sl 3 (xs.map encGr)):=by
 have hx1:=hx.1
 refine Con.of (n:=23) (rs:=[.tmp 2]) (Is.fn Tryz.func46) rfl (Is.call Tryz.call46) Tryz.results46 Tryz.ntmps46 (by simp only [method_specs_simp]) ?_
 simp only [method_specs_simp,seval]
 refine ⟨by omega,by omega,by omega,?_⟩
 refine SW.while (A:=Nat) (fun k=>⟨pad 23 [.sl 3 (xs.map encGr),.junk,.nil,.ar 0 0 xs.length,.int .i64 k],[.arr true 3 (rowZ encGr zGr xs k)],[]⟩) (fun k=>xs.length - k) (fun k=>k ≤ xs.length) 0 [0] (Zg _) ?_ ?_
 ·have ez : ZI xs.length [V.int .i64 0,.nil,.nil] = rowZ encGr zGr xs 0:=(rowZ_zero _ _ _).symm
  rw [ez]
  simp only [mvcgen_simp,method_specs_simp,seval]
 ·intro k hk
  refine CW.sound ?_
  simp only [method_specs_simp,seval]
  refine gB_split (fun h=>?_) (fun h=>?_)
  ·simp only [decide_eq_true_eq,Za] at h
   have hxk : xs[k]? = some xs[k]:=Zb h
   have hOK:=hx.2 _ (ZD h)
   generalize xs[k] = x at hxk hOK
   simp only [Zt,hxk,method_specs_simp,seval]
   refine ⟨by omega,by omega,?_⟩
   refine clY.con (c_toGraph x hOK) (by simp only [method_specs_simp,encGr]) ?_
   simp only [method_specs_simp,seval]
   rw [rowZ_get h]
   refine ⟨by omega,by omega,by rw [rowZ_length hk]; exact h,by simp [encGr,oneV],rfl,by simp [encGr],?_⟩
   rw [wrap_id (by omega) (by omega),show encGr x ++ ZH (encGr x).length zGr = encGr x from rfl,rowZ_set hxk]
   refine Again.mk (k + 1) [0] h (Zc h (Zd _)) ?_
   simp only [mvcgen_simp,method_specs_simp,seval]
  ·simp only [decide_eq_false_iff_not,Ze,Za] at h
   have hi : k = xs.length:=by omega
   subst hi
   rw [rowZ_all]
   simp only [method_specs_simp,seval]
theorem c_toSpot (x : Sp) : Con P 63 [.agg (encSp x)] (.agg (encSp x)):=by
 refine Con.of (n:=11) (rs:=[.cell 2 108]) (Is.fn Tryz.func63) rfl (Is.call Tryz.call63) Tryz.results63 Tryz.ntmps63 (encSp_ref1 _ x) ?_
 simp only [method_specs_simp,seval]
 simp only [method_specs_simp,seval,encSp]
 try rfl
theorem c_toSpotS (xs : List Sp) (hx1 : xs.length * 16 ≤ 2 ^ 47) : Con P 47 [.sl 2 (xs.map encSp)] (.sl 2 (xs.map encSp)):=by
 refine Con.of (n:=23) (rs:=[.tmp 2]) (Is.fn Tryz.func47) rfl (Is.call Tryz.call47) Tryz.results47 Tryz.ntmps47 (by simp only [method_specs_simp]) ?_
 simp only [method_specs_simp,seval]
 refine ⟨by omega,by omega,by omega,?_⟩
 refine SW.while (A:=Nat) (fun k=>⟨pad 23 [.sl 2 (xs.map encSp),.junk,.nil,.ar 0 0 xs.length,.int .i64 k],[.arr true 2 (rowZ encSp zSp xs k)],[]⟩) (fun k=>xs.length - k) (fun k=>k ≤ xs.length) 0 [0] (Zg _) ?_ ?_
 ·have ez : ZI xs.length [V.int .i64 0,.int .i64 0] = rowZ encSp zSp xs 0:=(rowZ_zero _ _ _).symm
  rw [ez]
  simp only [mvcgen_simp,method_specs_simp,seval]
 ·intro k hk
  refine CW.sound ?_
  simp only [method_specs_simp,seval]
  refine gB_split (fun h=>?_) (fun h=>?_)
  ·simp only [decide_eq_true_eq,Za] at h
   have hxk : xs[k]? = some xs[k]:=Zb h
   generalize xs[k] = x at hxk
   simp only [Zt,hxk,method_specs_simp,seval]
   refine ⟨by omega,by omega,by simp [encSp],?_⟩
   rw [show Zw 2 (encSp x) = encSp x from rfl]
   refine clY.con (c_toSpot x) (by simp only [method_specs_simp,encSp]) ?_
   simp only [method_specs_simp,seval]
   rw [rowZ_get h]
   refine ⟨by omega,by omega,by rw [rowZ_length hk]; exact h,by simp [encSp,oneV],rfl,by simp [encSp],?_⟩
   rw [wrap_id (by omega) (by omega),show encSp x ++ ZH (encSp x).length zSp = encSp x from rfl,rowZ_set hxk]
   refine Again.mk (k + 1) [0] h (Zc h (Zd _)) ?_
   simp only [mvcgen_simp,method_specs_simp,seval]
  ·simp only [decide_eq_false_iff_not,Ze,Za] at h
   have hi : k = xs.length:=by omega
   subst hi
   rw [rowZ_all]
   simp only [method_specs_simp,seval]
theorem c_toHub (h : Hb) (hh : HbOK h) : Con P 31 [.agg (encHb h)] (.agg (encHb h)):=by
 refine Con.of (n:=13) (rs:=[.cell 2 45]) (Is.fn Tryz.func31) rfl (Is.call Tryz.call31) Tryz.results31 Tryz.ntmps31 (encHb_ref1 _ h) ?_
 simp only [method_specs_simp,seval]
 simp only [method_specs_simp,seval,encHb]
 refine clY.con (c_toGraphS h.rooms hh.1) (by simp only [method_specs_simp]) ?_
 simp only [method_specs_simp,seval]
 refine clY.con (c_toSpotS h.stream hh.2) (by simp only [method_specs_simp]) ?_
 simp only [method_specs_simp,seval]
 rfl
theorem c_eqGraphS (xs : List Gr) (hx : GrsOK xs) : Con P 56 [.sl 3 (xs.map encGr),.sl 3 (xs.map encGr)] (.bool true):=by
 have e5 : ∀ a : Int,(a != a) = false:=fun a=>by simp
 have hx1:=hx.1
 refine Con.of (n:=27) (rs:=[.tmp 4]) (Is.fn Tryz.func56) rfl (Is.call Tryz.call56) Tryz.results56 Tryz.ntmps56 trivial ?_
 simp only [method_specs_simp,seval]
 simp only [method_specs_simp,seval,e5]
 refine SW.while (A:=Nat) (fun k=>⟨pad 27 [.sl 3 (xs.map encGr),.sl 3 (xs.map encGr),.junk,.junk,.bool false,.int .i64 k],[],[]⟩) (fun k=>xs.length - k) (fun k=>k ≤ xs.length) 0 [] (Zg _) ?_ ?_
 ·simp only [mvcgen_simp,method_specs_simp,seval]
 ·intro k hk
  refine CW.sound ?_
  simp only [method_specs_simp,seval]
  refine gB_split (fun h=>?_) (fun h=>?_)
  ·simp only [decide_eq_true_eq,Za] at h
   have hxk : xs[k]? = some xs[k]:=Zb h
   have hOK:=hx.2 _ (ZD h)
   generalize xs[k] = x at hxk hOK
   simp only [Zt,hxk,method_specs_simp,seval]
   refine ⟨by kernel_rfl,by omega,by omega,by omega,by omega,?_⟩
   refine clY.con (c_eqGraph x hOK) (by simp only [method_specs_simp,encGr]) ?_
   simp only [method_specs_simp,seval]
   rw [wrap_id (by omega) (by omega)]
   refine Again.mk (k + 1) [] h (Zc h (Zd _)) ?_
   simp only [mvcgen_simp,method_specs_simp,seval]
  ·trivial
theorem c_eqSpot (x : Sp) : Con P 76 [.agg (encSp x),.agg (encSp x)] (.bool true):=by
 have e5 : ∀ a : Int,(a != a) = false:=fun a=>by simp
 refine Con.of (n:=15) (rs:=[.tmp 4]) (Is.fn Tryz.func76) rfl (Is.call Tryz.call76) Tryz.results76 Tryz.ntmps76 trivial ?_
 simp only [method_specs_simp,seval]
 simp only [method_specs_simp,seval,encSp,e5]
theorem c_eqSpotS (xs : List Sp) (hx1 : xs.length * 16 ≤ 2 ^ 47) : Con P 57 [.sl 2 (xs.map encSp),.sl 2 (xs.map encSp)] (.bool true):=by
 have e5 : ∀ a : Int,(a != a) = false:=fun a=>by simp
 refine Con.of (n:=27) (rs:=[.tmp 4]) (Is.fn Tryz.func57) rfl (Is.call Tryz.call57) Tryz.results57 Tryz.ntmps57 trivial ?_
 simp only [method_specs_simp,seval]
 simp only [method_specs_simp,seval,e5]
 refine SW.while (A:=Nat) (fun k=>⟨pad 27 [.sl 2 (xs.map encSp),.sl 2 (xs.map encSp),.junk,.junk,.bool false,.int .i64 k],[],[]⟩) (fun k=>xs.length - k) (fun k=>k ≤ xs.length) 0 [] (Zg _) ?_ ?_
 ·simp only [mvcgen_simp,method_specs_simp,seval]
 ·intro k hk
  refine CW.sound ?_
  simp only [method_specs_simp,seval]
  refine gB_split (fun h=>?_) (fun h=>?_)
  ·simp only [decide_eq_true_eq,Za] at h
   have hxk : xs[k]? = some xs[k]:=Zb h
   generalize xs[k] = x at hxk
   simp only [Zt,hxk,method_specs_simp,seval]
   refine ⟨by kernel_rfl,by omega,by omega,by simp [encSp],by omega,by omega,by simp [encSp],?_⟩
   rw [show Zw 2 (encSp x) = encSp x from rfl]
   refine clY.con (c_eqSpot x) (by simp only [method_specs_simp,encSp]) ?_
   simp only [method_specs_simp,seval]
   rw [wrap_id (by omega) (by omega)]
   refine Again.mk (k + 1) [] h (Zc h (Zd _)) ?_
   simp only [mvcgen_simp,method_specs_simp,seval]
  ·trivial
theorem c_eqHub (h : Hb) (hh : HbOK h) : Con P 41 [.agg (encHb h),.agg (encHb h)] (.bool true):=by
 refine Con.of (n:=17) (rs:=[.tmp 4]) (Is.fn Tryz.func41) rfl (Is.call Tryz.call41) Tryz.results41 Tryz.ntmps41 trivial ?_
 simp only [method_specs_simp,seval]
 simp only [method_specs_simp,seval,encHb]
 refine clY.con (c_eqGraphS h.rooms hh.1) (by simp only [method_specs_simp]) ?_
 simp only [method_specs_simp,seval]
 refine clY.con (c_eqSpotS h.stream hh.2) (by simp only [method_specs_simp]) ?_
 simp only [method_specs_simp,seval]
end
def kSp (l : List Sp) : List V:=l.map fun x=>V.agg (encSp x)
def vSp (l : List Sp) : List V:=l.map fun _=>V.bool true
theorem kSp_ref (ok : Nat → Prop) (l : List Sp) : Refs ok (kSp l):=by
 induction l with
 | nil=>trivial
 | cons x l ih=>exact ⟨encSp_ref1 ok x,ih⟩
theorem vSp_ref (ok : Nat → Prop) (l : List Sp) : Refs ok (vSp l):=by
 induction l with
 | nil=>trivial
 | cons x l ih=>exact ⟨trivial,ih⟩
@[method_specs_simp] theorem kSp_refs (ok : Nat → Prop) (l : List Sp) : Refs ok (kSp l) = True:=eq_true (kSp_ref ok l)
@[method_specs_simp] theorem vSp_refs (ok : Nat → Prop) (l : List Sp) : Refs ok (vSp l) = True:=eq_true (vSp_ref ok l)
@[method_specs_simp] theorem kSp_rens (ρ : Nat → Nat) (l : List Sp) : rens ρ (kSp l) = kSp l:=rens_pure _ (kSp_ref _ l)
@[method_specs_simp] theorem vSp_rens (ρ : Nat → Nat) (l : List Sp) : rens ρ (vSp l) = vSp l:=rens_pure _ (vSp_ref _ l)
theorem findA_sp (k : Sp) : ∀ l : List Sp,∃ r,findA [.int,.int] (encSp k) (l.map encSp) = some r ∧ r.isSome = l.contains k ∧ ∀ j,r = some j → l[j]? = some k
 | []=>⟨none,rfl,rfl,fun _ h=>by cases h⟩
 | x :: l=>by
   obtain ⟨r,h1,h2,h3⟩:=findA_sp k l
   have e : eqV [.int,.int] (encSp k) (encSp x) = some (k == x):=by
    obtain ⟨a,b⟩:=k
    obtain ⟨c,d⟩:=x
    simp only [eqV,encSp,if_true,Yc,Zu,Option.some.injEq]
    rw [ZC]
    simp
   simp only [ZG,findA,e,List.contains_cons]
   cases hb : k == x with
   | true=>exact ⟨_,rfl,rfl,fun j h=>by cases h; simp [eq_of_beq hb]⟩
   | false =>
    refine ⟨r.map (· + 1),by simp only [h1,Yc],by simp [h2],fun j h=>?_⟩
    obtain ⟨j',h4,rfl⟩:=Option.map_eq_some_iff.1 h
    simpa using h3 j' h4
theorem eqV_sp (k : Sp) : (eqV [.int,.int] (encSp k) (encSp k)).isSome = true:=by simp [eqV,encSp]
section
variable {P : Program} {e : TypeId} {m : List Ob} {x : V}
theorem lkY.spots (l : List Sp) {k : Sp} {K : V → Prop} (h1 : mpAt m x = some (kSp l,vSp l)) (h2 : mpA P e = some ([.int,.int],.bool false)) (h : K (.bool (l.contains k))) : @lkY P e m x (.agg (encSp k)) false ⟨K⟩:=by
 obtain ⟨r,g1,g2,g3⟩:=findA_sp k l
 refine ⟨_,_,.bool false,r,h1,.inr ⟨_,_,l.map encSp,h2,rfl,by simp [kSp],g1,eqV_sp k⟩,fun j hj=>?_,?_⟩
 ·have:=(Zr.1 (g3 j hj)).1
  simpa [vSp] using this
 ·rw [← g2] at h
  cases r with
  | none=>exact h
  | some j =>
   have:=(Zr.1 (g3 j rfl)).1
   have hv : (vSp l).getD j .junk = .bool true:=by simp [vSp,ZF,Zb this]
   simp only [Yc,YG,hv]
   exact h
theorem muY.spots (l : List Sp) {k : Sp} {q : Nat} {K : List Ob → Prop} (hn : l.contains k = false) (h1 : m[q]? = some (.mp true (kSp l) (vSp l))) (h2 : mpA P e = some ([.int,.int],.bool false)) (h : K (m.set q (.mp true (kSp (l ++ [k])) (vSp (l ++ [k]))))) : @muY P e m (.map q) (.agg (encSp k)) (.bool true) ⟨K⟩:=by
 obtain ⟨r,g1,g2,g3⟩:=findA_sp k l
 have hr : r = none:=by rw [hn] at g2; cases r <;> simp_all
 subst hr
 refine ⟨q,_,_,.bool false,none,rfl,h1,.inr ⟨_,_,l.map encSp,h2,rfl,by simp [kSp],g1,eqV_sp k⟩,fun j hj=>(nomatch hj),?_⟩
 have e1 : kSp l ++ [V.agg (encSp k)] = kSp (l ++ [k]):=by simp [kSp]
 have e2 : vSp l ++ [V.bool true] = vSp (l ++ [k]):=by simp [vSp]
 rw [e1,e2]
 exact h
end
theorem bxX_mapq {m : List Ob} {q : Nat} {lv : Bool} {ks vs : List V} {K : List V → Prop} (h : m[q]? = some (.mp lv ks vs)) (k : K [.map q]) : bxX m (.map q) K:=by
 have e : oneV m (.map q) = true:=by simp only [oneV,h]
 show Go.Pm.oB (nrm (if oneV m (.map q) = true then some [.map q] else none)) K
 rw [if_pos e]
 exact k
def okRm (i : Nat) (g : Gr) : Bool:=Gm.grRight g && decide (g.room = (i : Int) + 1)
def rmOK (l : List Gr) : Bool:=l.zipIdx.all fun p=>okRm p.2 p.1
theorem rmOK_at {l : List Gr} : rmOK l = true ↔ ∀ i g,l[i]? = some g → okRm i g = true:=by
 unfold rmOK
 rw [Zn]
 constructor
 ·intro h i g hg
  exact h (g,i) (ZW.2 hg)
 ·rintro h ⟨g,i⟩ hp
  exact h i g (ZW.1 hp)
def gAt (l : List Gr) (r : Int) : Gr:=l.getD (r - 1).toNat ⟨0,[],[]⟩
def okI (g : Gr) (id : Int) : Bool:=lookD (hsG g).R id 0 == 0
def okSp (l : List Gr) (met : List Sp) (x : Sp) : Bool :=
 Gm.isB x.room 1 3 && (!met.contains x && ((atE (gAt l x.room).events x.id).isSome && (okI (gAt l x.room) x.id &&
  !((atE (gAt l x.room).events x.id).getD zE).prev.any fun id=>okI (gAt l x.room) id && !met.contains ⟨x.room,id⟩)))
def stOK (l : List Gr) (s : List Sp) : Bool:=s.zipIdx.all fun p=>okSp l (s.take p.2) p.1
theorem stOK_at {l : List Gr} {s : List Sp} : stOK l s = true ↔ ∀ i x,s[i]? = some x → okSp l (s.take i) x = true:=by
 unfold stOK
 rw [Zn]
 constructor
 ·intro h i g hg
  exact h (g,i) (ZW.2 hg)
 ·rintro h ⟨g,i⟩ hp
  exact h i g (ZW.1 hp)
def lefts : List Gr → Nat
 | []=>0
 | g :: l=>(accI g (hsG g)).length + lefts l
theorem lefts_app : ∀ l l' : List Gr,lefts (l ++ l') = lefts l + lefts l'
 | [],l'=>by simp [lefts]
 | g :: l,l'=>by simp only [List.cons_append,lefts,lefts_app l l']; omega
def hRow1 (g : Gr) : List V:=[hF g (hsG g)]
def sRow (h : Hb) : List V:=[.sl 3 (h.rooms.map encGr),.sl 2 (h.stream.map encSp),.sl 1 (h.rooms.map hRow1)]
def srvV (h : Hb) : V:=.fptr (sRow h) 0
theorem hRow1_ref (ok : Nat → Prop) (g : Gr) : Refs ok (hRow1 g):=⟨hF_ref ok g _,trivial⟩
@[method_specs_simp] theorem hRow1_refs (ok : Nat → Prop) (l : List Gr) : Refss ok (l.map hRow1) = True:=eq_true (Refss_map fun g=>hRow1_ref ok g)
@[method_specs_simp] theorem hRow1_rens (ρ : Nat → Nat) (l : List Gr) : renss ρ (l.map hRow1) = l.map hRow1:=renss_map fun g=>hRow1_ref _ g
theorem srvV_ref (ok : Nat → Prop) (h : Hb) : Ref ok (srvV h):=by
 show Refs ok (sRow h)
 simp only [sRow,Refs,Ref,encGr_refs,encSp_refs,hRow1_refs,and_self]
@[method_specs_simp] theorem wk1_srv (ks : List Nat) (h : Hb) : wk1 ks (srvV h) (srvV h) = True:=eq_true (.inr ⟨srvV_ref _ h,(V.ren_pure _ (srvV_ref _ h)).symm⟩)
def nsR (h : Hb) : V:=if decide (h.rooms.length = 3) && (decide (h.stream.length ≤ 120) && (rmOK h.rooms && stOK h.rooms h.stream)) then .tup [srvV h,.bool (lefts h.rooms == h.stream.length)] else .tup [.np,.bool false]
theorem nsR_ref (ok : Nat → Prop) (h : Hb) : Ref ok (nsR h):=by
 unfold nsR
 split
 ·exact ⟨srvV_ref ok h,trivial,trivial⟩
 ·exact ⟨trivial,trivial,trivial⟩
section
variable {P : Program} [Is P]
theorem c_ns1 (g : Gr) (x : Sp) (met : List Sp) (id : Int) : Con P 53 [.int .i64 id,.fptr [hF g (hsG g)] 0,.fptr [.fmap (kSp met) (vSp met)] 0,.fptr (encSp x) 0] (.bool (okI g id && !met.contains ⟨x.room,id⟩)):=by
 refine Con.of (n:=22) (rs:=[.tmp 5]) (Is.fn Tryz.func53) rfl (Is.call Tryz.call53) Tryz.results53 Tryz.ntmps53 trivial ?_
 simp only [method_specs_simp,seval,hF,encSp]
 refine lkY.ints (V.int .i64) (hsG g).R 0 rfl (by simp only [method_specs_simp]) ?_
 unfold okI
 cases h : lookD (hsG g).R id 0 == 0 with
 | false =>
  simp only [method_specs_simp,seval,hF,encSp,h]
  rw [Zm]
 | true =>
  simp only [method_specs_simp,seval,hF,encSp,h]
  refine lkY.spots (k:=⟨x.room,id⟩) met (by rfl) (by simp only [method_specs_simp]) ?_
  simp only [method_specs_simp,seval,hF,encSp]
theorem c_sroom (gs : List Gr) (r : Int) (g : Gr) (a b : V) (h1 : 1 ≤ r) (h2 : gs[(r - 1).toNat]? = some g) (hl : gs.length < 2 ^ 40) : Con P 21 [.fptr [a,b,.sl 1 (gs.map hRow1)] 0,.int .i64 r] (hF g (hsG g)):=by
 have hlt:=(Zr.1 h2).1
 have w1 : IntKind.i64.wrap (r - 1) = r - 1:=wrap_id (by omega) (by omega)
 refine Con.of (n:=13) (rs:=[.tmp 4]) (Is.fn Tryz.func21) rfl (Is.call Tryz.call21) Tryz.results21 Tryz.ntmps21 (hF_ref _ g _) ?_
 simp only [method_specs_simp,seval]
 rw [w1,h2]
 refine ⟨by omega,by omega,?_⟩
 simp only [method_specs_simp,seval,hRow1]
 exact ⟨hF_ref _ _ _,rfl⟩
def sHv : Nat → V
 | 0=>.nil
 | i + 1=>.ar 2 0 (i + 1)
def sHo (l : List Gr) : Nat → List Ob
 | 0=>[]
 | i + 1=>[.arr true 1 ((l.take (i + 1)).map hRow1)]
theorem c_newServer (h : Hb) (hh : HbOK h) : Con P 34 [.agg (encHb h)] (nsR h):=by
 have hs2:=hh.2
 have hr1:=hh.1.1
 refine Con.ofS (n:=126) (rs:=[.tmp 2,.tmp 3]) (Is.fn Tryz.func34) rfl (Is.call Tryz.call34) Tryz.results34 Tryz.ntmps34 (nsR_ref _ h) ?_
 refine SW.seq (CW.sound ?_)
 simp only [method_specs_simp,seval,encHb,encGr]
 by_cases h3 : h.rooms.length = 3
 ·by_cases h120 : h.stream.length ≤ 120
  ·have e1 : ((h.rooms.length : Int) != 3) = false:=by rw [h3]; rfl
   have e2 : decide ((h.stream.length : Int) > 120) = false:=by simp; omega
   refine SW.seq (CW.sound ?_)
   simp only [method_specs_simp,seval,encHb,encGr,e1,e2]
   refine SW.seq (CW.sound ?_)
   simp only [method_specs_simp,seval,encHb,encGr]
   refine SW.seq (CW.sound ?_)
   simp only [method_specs_simp,seval,encHb,encGr]
   have hbad : ∀ (j : Nat) (g : Gr),h.rooms[j]? = some g → okRm j g = false → nsR h = .tup [.np,.bool false]:=fun j g hg hn=>by
    unfold nsR
    rw [if_neg]
    intro hc
    simp only [Zq] at hc
    rw [rmOK_at.1 hc.2.2.1 j g hg] at hn
    cases hn
   refine SW.while (A:=Nat) (fun i=>⟨pad 126 [.junk,.ptr 0 0,.junk,.bool false,.ptr 1 0,.int .i64 (lefts (h.rooms.take i)),.junk,.junk,.junk,.junk,.junk,.junk,.junk,.junk,.junk,.junk,.junk,.junk,.junk,.junk,.junk,.junk,.junk,.junk,.junk,.junk,.junk,.junk,.sl 3 (h.rooms.map encGr),.int .i64 h.rooms.length,.int .i64 i],[.box true (encHb h),.box true [.sl 3 (h.rooms.map encGr),.sl 2 (h.stream.map encSp),sHv i]] ++ sHo h.rooms i,[]⟩) (fun i=>h.rooms.length - i) (fun i=>i ≤ h.rooms.length ∧ lefts (h.rooms.take i) ≤ 60 * i ∧ ∀ j g,j < i → h.rooms[j]? = some g → okRm j g = true) 0 [0,1] ⟨Zg _,Zo _,fun j g hj=>absurd hj (ZS _)⟩ ?_ ?_
   ·simp only [mvcgen_simp,method_specs_simp,seval,encHb,encGr,sHv,sHo]
    rfl
   ·rintro i ⟨hi,hlf,hok⟩
    refine SW.seq (CW.sound ?_)
    simp only [method_specs_simp,seval,encHb,encGr]
    refine SW.seq (CW.sound ?_)
    simp only [method_specs_simp,seval,encHb,encGr]
    refine gB_split (fun h1=>?_) (fun h1=>?_)
    ·simp only [decide_eq_true_eq,Za] at h1
     obtain ⟨g,hg⟩ : ∃ g,h.rooms[i]? = some g:=⟨_,Zb h1⟩
     have hgOK:=hh.1.2 g (Zf hg)
     refine SW.seq (SW.block ?_)
     refine SW.seq (CW.sound ?_)
     have w1 : IntKind.i64.wrap ((i : Int) + 1) = ((i + 1 : Nat) : Int):=wadd1 i (by omega)
     rcases YO i with hi0 | hi0
     ·have z1 : sHv i = .nil:=by rw [hi0]; rfl
      have z2 : sHo h.rooms i = []:=by rw [hi0]; rfl
      simp only [method_specs_simp,seval,encHb,encGr,hg,z1,z2]
      refine ⟨by omega,by omega,?_⟩
      refine SW.seq (CW.sound ?_)
      simp only [method_specs_simp,seval,encHb,encGr]
      refine clY.con (c_GraphRight g hgOK) (by simp only [method_specs_simp,encGr]) ?_
      cases hr : Gm.grRight g with
      | false =>
       simp only [method_specs_simp,seval,encHb,encGr]
       exact ⟨trivial,(hbad i g hg (by unfold okRm; rw [hr]; rfl)).symm⟩
      | true =>
       have h2 : GG g:=⟨hgOK,hr⟩
       simp only [method_specs_simp,seval,encHb,encGr,w1]
       by_cases hb : g.room = (i : Int) + 1
       ·have hb2 : (g.room != (i : Int) + 1) = false:=by simp; omega
        simp only [method_specs_simp,seval,encHb,encGr,hb2]
        refine SW.seq (CW.sound ?_)
        simp only [method_specs_simp,seval,encHb,encGr]
        refine ⟨by kernel_rfl,?_⟩
        refine clY.con (c_newHistory g h2) (by simp only [method_specs_simp,encGr]) ?_
        obtain ⟨hc,hhc⟩ : ∃ cs,hF g (hsG g) = .fptr cs 0:=⟨_,rfl⟩
        rw [show hF g (hsN g (depM g.events (Gm.depthsE g.events) g.events.length) (evsO g)) = hF g (hsG g) from rfl,hhc]
        have hcr : Ref (fun _=>False) (.fptr hc 0):=by rw [← hhc]; exact hF_ref _ _ _
        have hacc : Con P 50 [.fptr hc 0] (.sl 1 ((accI g (hsG g)).map encI)):=by rw [← hhc]; exact c_accepted g (hsG g) h2
        have hal : (accI g (hsG g)).length ≤ 60:=by
         have:=ZY (okE (hsG g)) g.events
         have:=h2.n
         unfold accI
         rw [Zj]
         omega
        have hnl : lefts (h.rooms.take (i + 1)) = lefts (h.rooms.take i) + (accI g (hsG g)).length:=by
         rw [Zi,hg,Zk,lefts_app]; rfl
        have hna : (h.rooms.take i).map hRow1 ++ [[V.fptr hc 0]] = (h.rooms.take (i + 1)).map hRow1:=by
         rw [Zi,hg,Zk,Zy,← hhc]; rfl
        have hil : ((h.rooms.take i).map hRow1).length = i:=by rw [Zj,Zs]; omega
        simp only [method_specs_simp,seval,encHb,encGr,hil]
        have hgt : ([[V.fptr hc 0]] : List (List V))[i]? = some [V.fptr hc 0]:=by rw [hi0]; rfl
        have hnb : ([[V.fptr hc 0]] : List (List V)) = (h.rooms.take (i + 1)).map hRow1:=by rw [← hna,hi0]; rfl
        refine CW.sound ?_
        simp only [method_specs_simp,seval,encHb,encGr,hgt]
        refine ⟨by omega,by omega,?_⟩
        refine clY.con hacc ⟨hcr,trivial⟩ ?_
        simp only [method_specs_simp,seval,encHb,encGr]
        have w2 : IntKind.i64.wrap ((lefts (h.rooms.take i) : Int) + (accI g (hsG g)).length) = (lefts (h.rooms.take (i + 1)) : Int):=by rw [wrap_id (by omega) (by omega),hnl]; omega
        rw [w2,hnb]
        refine CW.sound ?_
        simp only [method_specs_simp,seval,encHb,encGr,w1]
        refine Again.mk (i + 1) [0,1,5] ⟨h1,by omega,fun j g' hj hg'=>?_⟩ (Zc h1 (Zd _)) ?_
        ·rcases ZP.1 hj with hj | rfl
         ·exact hok j g' hj hg'
         ·rw [hg] at hg'
          injection hg' with hg'
          subst hg'
          unfold okRm
          rw [hr,decide_eq_true hb]; rfl
        ·have z3 : sHv (i + 1) = .ar 2 0 (i + 1):=rfl
         have z4 : sHo h.rooms (i + 1) = [.arr true 1 ((h.rooms.take (i + 1)).map hRow1)]:=rfl
         subst hi0
         simp only [mvcgen_simp,method_specs_simp,seval,encHb,encGr,z3,z4]
       ·have hb2 : (g.room != (i : Int) + 1) = true:=by simp; omega
        simp only [method_specs_simp,seval,encHb,encGr,hb2]
        exact ⟨trivial,(hbad i g hg (by unfold okRm; rw [hr,decide_eq_false hb]; rfl)).symm⟩
     ·have z1 : sHv i = .ar 2 0 i:=by cases i with
       | zero=>omega
       | succ i=>rfl
      have z2 : sHo h.rooms i = [.arr true 1 ((h.rooms.take i).map hRow1)]:=by cases i with
       | zero=>omega
       | succ i=>rfl
      simp only [method_specs_simp,seval,encHb,encGr,hg,z1,z2]
      refine ⟨by omega,by omega,?_⟩
      refine SW.seq (CW.sound ?_)
      simp only [method_specs_simp,seval,encHb,encGr]
      refine clY.con (c_GraphRight g hgOK) (by simp only [method_specs_simp,encGr]) ?_
      cases hr : Gm.grRight g with
      | false =>
       simp only [method_specs_simp,seval,encHb,encGr]
       exact ⟨trivial,(hbad i g hg (by unfold okRm; rw [hr]; rfl)).symm⟩
      | true =>
       have h2 : GG g:=⟨hgOK,hr⟩
       simp only [method_specs_simp,seval,encHb,encGr,w1]
       by_cases hb : g.room = (i : Int) + 1
       ·have hb2 : (g.room != (i : Int) + 1) = false:=by simp; omega
        simp only [method_specs_simp,seval,encHb,encGr,hb2]
        refine SW.seq (CW.sound ?_)
        simp only [method_specs_simp,seval,encHb,encGr]
        refine ⟨by kernel_rfl,?_⟩
        refine clY.con (c_newHistory g h2) (by simp only [method_specs_simp,encGr]) ?_
        obtain ⟨hc,hhc⟩ : ∃ cs,hF g (hsG g) = .fptr cs 0:=⟨_,rfl⟩
        rw [show hF g (hsN g (depM g.events (Gm.depthsE g.events) g.events.length) (evsO g)) = hF g (hsG g) from rfl,hhc]
        have hcr : Ref (fun _=>False) (.fptr hc 0):=by rw [← hhc]; exact hF_ref _ _ _
        have hacc : Con P 50 [.fptr hc 0] (.sl 1 ((accI g (hsG g)).map encI)):=by rw [← hhc]; exact c_accepted g (hsG g) h2
        have hal : (accI g (hsG g)).length ≤ 60:=by
         have:=ZY (okE (hsG g)) g.events
         have:=h2.n
         unfold accI
         rw [Zj]
         omega
        have hnl : lefts (h.rooms.take (i + 1)) = lefts (h.rooms.take i) + (accI g (hsG g)).length:=by
         rw [Zi,hg,Zk,lefts_app]; rfl
        have hna : (h.rooms.take i).map hRow1 ++ [[V.fptr hc 0]] = (h.rooms.take (i + 1)).map hRow1:=by
         rw [Zi,hg,Zk,Zy,← hhc]; rfl
        have hil : ((h.rooms.take i).map hRow1).length = i:=by rw [Zj,Zs]; omega
        simp only [method_specs_simp,seval,encHb,encGr,hil]
        have hgt : ((h.rooms.take i).map hRow1 ++ [[V.fptr hc 0]])[i]? = some [V.fptr hc 0]:=by rw [List.getElem?_append_right (by omega),hil,YD]; rfl
        have hnb:=hna
        refine ⟨by omega,by omega,?_⟩
        refine CW.sound ?_
        simp only [method_specs_simp,seval,encHb,encGr,hgt]
        refine ⟨by omega,by omega,?_⟩
        refine clY.con hacc ⟨hcr,trivial⟩ ?_
        simp only [method_specs_simp,seval,encHb,encGr]
        have w2 : IntKind.i64.wrap ((lefts (h.rooms.take i) : Int) + (accI g (hsG g)).length) = (lefts (h.rooms.take (i + 1)) : Int):=by rw [wrap_id (by omega) (by omega),hnl]; omega
        rw [w2,hnb]
        refine CW.sound ?_
        simp only [method_specs_simp,seval,encHb,encGr,w1]
        refine Again.mk (i + 1) [0,1,5] ⟨h1,by omega,fun j g' hj hg'=>?_⟩ (Zc h1 (Zd _)) ?_
        ·rcases ZP.1 hj with hj | rfl
         ·exact hok j g' hj hg'
         ·rw [hg] at hg'
          injection hg' with hg'
          subst hg'
          unfold okRm
          rw [hr,decide_eq_true hb]; rfl
        ·have z3 : sHv (i + 1) = .ar 2 0 (i + 1):=rfl
         have z4 : sHo h.rooms (i + 1) = [.arr true 1 ((h.rooms.take (i + 1)).map hRow1)]:=rfl
         simp only [mvcgen_simp,method_specs_simp,seval,encHb,encGr,z3,z4]
       ·have hb2 : (g.room != (i : Int) + 1) = true:=by simp; omega
        simp only [method_specs_simp,seval,encHb,encGr,hb2]
        exact ⟨trivial,(hbad i g hg (by unfold okRm; rw [hr,decide_eq_false hb]; rfl)).symm⟩
    ·have hi3 : i = h.rooms.length:=by simp only [decide_eq_false_iff_not,Ze,Za] at h1; omega
     have hrm : rmOK h.rooms = true:=rmOK_at.2 fun j g hg=>hok j g (by have:=(Zr.1 hg).1; omega) hg
     have z1 : sHv i = .ar 2 0 h.rooms.length:=by rw [hi3,h3]; rfl
     have z2 : sHo h.rooms i = [.arr true 1 (h.rooms.map hRow1)]:=by rw [hi3,h3]; show [Ob.arr true 1 ((h.rooms.take 3).map hRow1)] = _; rw [← h3,Zx]
     have hll : lefts (h.rooms.take i) = lefts h.rooms:=by rw [hi3,Zx]
     rw [z1,z2,hll]
     rw [hi3,Zx] at hlf
     clear z1 z2 hll hok
     refine SW.freeze [0,1,2] ?_
     simp only [mvcgen_simp,method_specs_simp,seval,encHb,encGr,convs_r8j,conv_junkj]
     refine sw_deep 2 ?_
     simp only [mvcgen_simp,method_specs_simp,seval,encHb,encGr,map_r8,ZG,ZO]
     refine SW.wk [] (st':=⟨pad 126 [.junk,.fptr (encHb h) 0,.junk,.bool false,srvV h,.int .i64 (lefts h.rooms)],[],[]⟩) ?_ ?_
     ·simp only [mvcgen_simp,method_specs_simp,seval,encHb,encGr,srvV,sRow]
     have hsr:=srvV_ref (fun _=>False) h
     refine SW.seq (CW.sound ?_)
     simp only [method_specs_simp,seval,encHb,encGr]
     refine bxX_mapq (lv:=true) (ks:=[]) (vs:=[]) rfl ?_
     simp only [method_specs_simp,seval,encHb,encGr]
     refine SW.seq (CW.sound ?_)
     simp only [method_specs_simp,seval,encHb,encGr]
     have hbad2 : ∀ (j : Nat) (x : Sp),h.stream[j]? = some x → okSp h.rooms (h.stream.take j) x = false → nsR h = .tup [.np,.bool false]:=fun j g hg hn=>by
      unfold nsR
      rw [if_neg]
      intro hc
      simp only [Zq] at hc
      rw [stOK_at.1 hc.2.2.2 j g hg] at hn
      cases hn
     refine SW.while (A:=Nat) (fun k=>⟨pad 126 [.junk,.fptr (encHb h) 0,.junk,.bool false,srvV h,.int .i64 (lefts h.rooms),.junk,.junk,.ptr 1 0,.junk,.junk,.junk,.junk,.junk,.junk,.junk,.junk,.junk,.junk,.junk,.junk,.junk,.junk,.junk,.junk,.junk,.junk,.junk,.junk,.junk,.junk,.junk,.junk,.junk,.junk,.junk,.junk,.junk,.junk,.junk,.junk,.junk,.junk,.junk,.junk,.junk,.junk,.junk,.junk,.junk,.junk,.junk,.junk,.junk,.junk,.junk,.junk,.junk,.junk,.junk,.junk,.junk,.junk,.junk,.junk,.junk,.junk,.junk,.junk,.junk,.sl 2 (h.stream.map encSp),.int .i64 h.stream.length,.int .i64 k],[.mp true (kSp (h.stream.take k)) (vSp (h.stream.take k)),.box true [.map 0]],[]⟩) (fun k=>h.stream.length - k) (fun k=>k ≤ h.stream.length ∧ ∀ j x,j < k → h.stream[j]? = some x → okSp h.rooms (h.stream.take j) x = true) 0 [0,1] ⟨Zg _,fun j g hj=>absurd hj (ZS _)⟩ ?_ ?_
     ·have h0 : kSp (h.stream.take 0) = []:=rfl
      have h0' : vSp (h.stream.take 0) = []:=rfl
      rw [h0,h0']
      simp only [mvcgen_simp,method_specs_simp,seval,encHb,encGr]
     ·clear hi h1 hi3 i
      rintro k ⟨hk,hok⟩
      have w1 : IntKind.i64.wrap ((k : Int) + 1) = ((k + 1 : Nat) : Int):=wadd1 k (by omega)
      refine SW.seq (CW.sound ?_)
      simp only [method_specs_simp,seval,encHb,encGr]
      refine SW.seq (CW.sound ?_)
      simp only [method_specs_simp,seval,encHb,encGr]
      refine gB_split (fun h1=>?_) (fun h1=>?_)
      ·simp only [decide_eq_true_eq,Za] at h1
       obtain ⟨x,hx⟩ : ∃ x,h.stream[k]? = some x:=⟨_,Zb h1⟩
       obtain ⟨met,hmet⟩ : ∃ met,met = h.stream.take k:=⟨_,rfl⟩
       have hbx:=hbad2 k x hx
       rw [← hmet] at hbx ⊢
       refine SW.seq (SW.block ?_)
       refine SW.seq (CW.sound ?_)
       simp only [method_specs_simp,seval,encHb,encGr,hx,encSp]
       refine ⟨by omega,by omega,?_⟩
       refine SW.seq (CW.sound ?_)
       simp only [method_specs_simp,seval,encHb,encGr]
       refine clY.con (c_isRoom x.room) ⟨trivial,trivial⟩ ?_
       cases hb : Gm.isB x.room 1 3 with
       | false =>
        simp only [method_specs_simp,seval,encHb,encGr]
        exact ⟨trivial,(hbx (by unfold okSp; rw [hb]; rfl)).symm⟩
       | true =>
        simp only [method_specs_simp,seval,encHb,encGr]
        refine lkY.spots (k:=x) met (by rfl) (by simp only [method_specs_simp]) ?_
        cases hm : met.contains x with
        | true =>
         simp only [method_specs_simp,seval,encHb,encGr]
         exact ⟨trivial,(hbx (by unfold okSp; rw [hb,hm]; rfl)).symm⟩
        | false =>
         simp only [method_specs_simp,seval,encHb,encGr]
         obtain ⟨b1,b2⟩ : 1 ≤ x.room ∧ x.room ≤ 3:=by unfold Gm.isB at hb; simpa using hb
         obtain ⟨g,hgA⟩ : ∃ g,g = gAt h.rooms x.room:=⟨_,rfl⟩
         have hg : h.rooms[(x.room - 1).toNat]? = some g:=by
          rw [hgA]; unfold gAt
          rw [ZF,Zb (by omega)]; rfl
         have h2 : GG g:=⟨hh.1.2 g (Zf hg),by
          have:=rmOK_at.1 hrm _ g hg
          unfold okRm at this
          simp only [Zq] at this
          exact this.1⟩
         unfold okSp at hbx
         rw [← hgA,hb,hm,Zh,Bool.not_false,Zh] at hbx
         have hsrm : Con P 21 [srvV h,.int .i64 x.room] (hF g (hsG g)):=c_sroom h.rooms x.room g _ _ b1 hg (by omega)
         refine SW.seq (CW.sound ?_)
         simp only [method_specs_simp,seval,encHb,encGr]
         refine clY.con hsrm ⟨hsr,trivial,trivial⟩ ?_
         simp only [method_specs_simp,seval,encHb,encGr,hF]
         refine SW.seq (CW.sound ?_)
         simp only [method_specs_simp,seval,encHb,encGr]
         refine ⟨by kernel_rfl,?_⟩
         refine clY.con (c_at g x.id h2.hx h2.srt) (by simp only [method_specs_simp,encGr]) ?_
         obtain ⟨e,he⟩ : ∃ e,e = (atE g.events x.id).getD zE:=⟨_,rfl⟩
         rw [← he] at hbx ⊢
         cases hi : (atE g.events x.id).isSome with
         | false =>
          simp only [method_specs_simp,seval,encHb,encGr,encEv]
          refine SW.seq (CW.sound ?_)
          simp only [method_specs_simp,seval,encHb,encGr]
          refine ⟨by kernel_rfl,?_⟩
          exact ⟨trivial,(hbx (by rw [hi]; rfl)).symm⟩
         | true =>
          simp only [method_specs_simp,seval,encHb,encGr,encEv]
          refine SW.seq (CW.sound ?_)
          simp only [method_specs_simp,seval,encHb,encGr]
          refine ⟨by kernel_rfl,?_⟩
          refine lkY.ints (V.int .i64) (hsG g).R 0 rfl (by simp only [method_specs_simp]) ?_
          cases ho : okI g x.id with
          | false =>
           have ho2 : (lookD (hsG g).R x.id 0 != 0) = true:=by unfold okI at ho; simpa using ho
           simp only [method_specs_simp,seval,encHb,encGr,ho2]
           exact ⟨trivial,(hbx (by rw [hi,ho]; rfl)).symm⟩
          | true =>
           have ho2 : (lookD (hsG g).R x.id 0 != 0) = false:=by unfold okI at ho; simpa using ho
           simp only [method_specs_simp,seval,encHb,encGr,ho2]
           have hpl : e.prev.length < 2 ^ 62:=by
            have:=(h2.four e (by
             obtain ⟨y,hy⟩:=Yk.1 hi
             rw [hy] at he
             rw [he]
             exact Ye hy))
            omega
           refine clY.conD 3 (c_containsFI e.prev 53 [.fptr [hF g (hsG g)] 0,.fptr [.fmap (kSp met) (vSp met)] 0,.fptr (encSp x) 0] (fun id=>okI g id && !met.contains ⟨x.room,id⟩) ⟨⟨hF_ref _ _ _,trivial⟩,⟨⟨kSp_ref _ _,vSp_ref _ _⟩,trivial⟩,encSp_ref1 _ x,trivial⟩ (fun id _=>c_ns1 g x met id) hpl) ?_ ⟨of_eq_true (encI_refs _ _),⟨trivial,⟨hF_ref _ _ _,trivial⟩,⟨⟨kSp_ref _ _,vSp_ref _ _⟩,trivial⟩,encSp_ref1 _ x,trivial⟩,trivial⟩ trivial ?_
           ·simp only [Yw,Ya,ZG,ZO,dcv,YA,Yz]
            rw [List.map_id',List.map_id']
            rfl
           cases ha : e.prev.any fun id=>okI g id && !met.contains ⟨x.room,id⟩ with
           | true =>
            simp only [method_specs_simp,seval,encHb,encGr]
            exact ⟨trivial,(hbx (by rw [hi,ho,ha]; rfl)).symm⟩
           | false =>
            simp only [method_specs_simp,seval,encHb,encGr]
            refine CW.sound ?_
            simp only [method_specs_simp,seval,encHb,encGr]
            refine muY.spots met (k:=x) hm rfl (by simp only [method_specs_simp]) ?_
            simp only [method_specs_simp,seval,encHb,encGr]
            have hnm : met ++ [x] = h.stream.take (k + 1):=by rw [Zi,hx,hmet]; rfl
            rw [hnm]
            refine CW.sound ?_
            simp only [method_specs_simp,seval,encHb,encGr,w1]
            refine Again.mk (k + 1) [0,1] ⟨h1,fun j y hj hy=>?_⟩ (Zc h1 (Zd _)) ?_
            ·rcases ZP.1 hj with hj | rfl
             ·exact hok j y hj hy
             ·rw [hx] at hy
              injection hy with hy
              subst hy
              rw [← hmet]
              unfold okSp
              rw [← hgA,← he,hb,hm,hi,ho,ha]; rfl
            ·simp only [mvcgen_simp,method_specs_simp,seval,encHb,encGr]
      ·have hi3 : k = h.stream.length:=by simp only [decide_eq_false_iff_not,Ze,Za] at h1; omega
       have hst : stOK h.rooms h.stream = true:=stOK_at.2 fun j g hg=>hok j g (by have:=(Zr.1 hg).1; omega) hg
       refine CW.sound ?_
       simp only [method_specs_simp,seval,encHb,encGr]
       have hns : nsR h = .tup [srvV h,.bool (lefts h.rooms == h.stream.length)]:=by
        unfold nsR
        rw [if_pos]
        rw [hrm,hst,decide_eq_true h3,decide_eq_true h120]; rfl
       have hbe : (((lefts h.rooms : Nat) : Int) == ((h.stream.length : Nat) : Int)) = (lefts h.rooms == h.stream.length):=by rw [ZC]; simp only [beq_iff_eq]; omega
       rw [hns,hbe]
       exact ⟨by kernel_rfl,hsr,rfl⟩
  ·have e2 : decide ((h.stream.length : Int) > 120) = true:=by simp; omega
   have e1 : ((h.rooms.length : Int) != 3) = false:=by rw [h3]; rfl
   have hn : nsR h = .tup [.np,.bool false]:=by unfold nsR; rw [if_neg]; simp [h120]
   rw [hn]
   refine SW.seq (CW.sound ?_)
   simp only [method_specs_simp,seval,encHb,encGr,e1,e2]
   exact ⟨trivial,rfl⟩
 ·have e1 : ((h.rooms.length : Int) != 3) = true:=by simp; omega
  have hn : nsR h = .tup [.np,.bool false]:=by unfold nsR; rw [if_neg]; simp [h3]
  rw [hn]
  refine SW.seq (CW.sound ?_)
  simp only [method_specs_simp,seval,encHb,encGr,e1]
  exact ⟨trivial,rfl⟩
end
def posS (s : List Sp) (x : Sp) : Int:=if s.contains x then (s.idxOf x : Int) + 1 else 0
theorem posS_snoc {s : List Sp} {x : Sp} (h : s.contains x = false) (y : Sp) : posS (s ++ [x]) y = if y = x then (s.length : Int) + 1 else posS s y:=by
 unfold posS
 by_cases hy : y = x
 ·subst hy
  have hn : y ∉ s:=fun hm=>by rw [Zp.2 hm] at h; cases h
  rw [if_pos rfl,if_pos (by simp),YS,if_neg hn]
  simp
 ·rw [if_neg hy]
  have hc : (s ++ [x]).contains y = s.contains y:=by
   rw [ZC]
   simp [hy]
  rw [hc]
  cases hs : s.contains y with
  | false=>rfl
  | true =>
   rw [if_pos rfl,if_pos rfl,YS,if_pos (Zp.1 hs)]
def posL (s : List Sp) (g : Gr) : List Int:=g.events.map fun e=>posS s ⟨g.room,e.id⟩
theorem posL_len (s : List Sp) (g : Gr) : (posL s g).length = g.events.length:=Zj _
theorem posL_get {g : Gr} (s : List Sp) {k : Nat} {e : Ev} (he : g.events[k]? = some e) : (posL s g)[k]? = some (posS s ⟨g.room,e.id⟩):=by unfold posL; rw [Zt,he]; rfl
theorem posL_snoc {g : Gr} (h : GG g) {s : List Sp} {x : Sp} (hn : s.contains x = false) : posL (s ++ [x]) g = if x.room = g.room ∧ Gm.hasId g.events x.id = true then (posL s g).set (Gm.fidE g.events x.id) ((s.length : Int) + 1) else posL s g:=by
 split
 ·rename_i hc
  obtain ⟨h1,h2⟩:=hc
  obtain ⟨e,he,hei⟩:=Gm.fid_get h2
  have:=set_map h.srt he (fun e=>posS s ⟨g.room,e.id⟩) (fun e=>posS (s ++ [x]) ⟨g.room,e.id⟩) (fun y hy hne=>by
   rw [posS_snoc hn,if_neg]
   rintro rfl
   exact hne hei.symm)
  unfold posL
  rw [← this,posS_snoc hn,if_pos]
  rw [hei,← h1]
 ·rename_i hc
  unfold posL
  refine YQ fun e he=>?_
  rw [posS_snoc hn,if_neg]
  rintro rfl
  exact hc ⟨rfl,has_mem he⟩
def ndS (s : List Sp) : Bool:=s.zipIdx.all fun p=>!(s.take p.2).contains p.1
theorem ndS_at {s : List Sp} : ndS s = true ↔ ∀ i x,s[i]? = some x → (s.take i).contains x = false:=by
 unfold ndS
 rw [Zn]
 constructor
 ·intro h i g hg
  simpa using h (g,i) (ZW.2 hg)
 ·rintro h ⟨g,i⟩ hp
  simpa using h i g (ZW.1 hp)
def kRow1 (g : Gr) : List V:=[kS g (hsG g)]
def pRow1 (s : List Sp) (g : Gr) : List V:=[.sl 1 ((posL s g).map encI)]
def nRow1 (g : Gr) : List V:=[.sl 3 ((curG g).map encEnt)]
def wRow (h : Hb) : List V:=[.sl 3 (h.rooms.map encGr),.sl 2 (h.stream.map encSp),.sl 1 (h.rooms.map kRow1),.sl 1 (h.rooms.map (pRow1 h.stream)),.sl 1 (h.rooms.map nRow1)]
def wV (h : Hb) : V:=.fptr (wRow h) 0
theorem kRow1_ref (ok : Nat → Prop) (g : Gr) : Refs ok (kRow1 g):=⟨kS_ref ok g _,trivial⟩
theorem pRow1_ref (ok : Nat → Prop) (s : List Sp) (g : Gr) : Refs ok (pRow1 s g):=⟨of_eq_true (encI_refs ok _),trivial⟩
theorem nRow1_ref (ok : Nat → Prop) (g : Gr) : Refs ok (nRow1 g):=⟨of_eq_true (encEnt_refs ok _),trivial⟩
@[method_specs_simp] theorem kRow1_refs (ok : Nat → Prop) (l : List Gr) : Refss ok (l.map kRow1) = True:=eq_true (Refss_map fun g=>kRow1_ref ok g)
@[method_specs_simp] theorem kRow1_rens (ρ : Nat → Nat) (l : List Gr) : renss ρ (l.map kRow1) = l.map kRow1:=renss_map fun g=>kRow1_ref _ g
@[method_specs_simp] theorem pRow1_refs (ok : Nat → Prop) (s : List Sp) (l : List Gr) : Refss ok (l.map (pRow1 s)) = True:=eq_true (Refss_map fun g=>pRow1_ref ok s g)
@[method_specs_simp] theorem pRow1_rens (ρ : Nat → Nat) (s : List Sp) (l : List Gr) : renss ρ (l.map (pRow1 s)) = l.map (pRow1 s):=renss_map fun g=>pRow1_ref _ s g
@[method_specs_simp] theorem nRow1_refs (ok : Nat → Prop) (l : List Gr) : Refss ok (l.map nRow1) = True:=eq_true (Refss_map fun g=>nRow1_ref ok g)
@[method_specs_simp] theorem nRow1_rens (ρ : Nat → Nat) (l : List Gr) : renss ρ (l.map nRow1) = l.map nRow1:=renss_map fun g=>nRow1_ref _ g
theorem wV_ref (ok : Nat → Prop) (h : Hb) : Ref ok (wV h):=by
 show Refs ok (wRow h)
 simp only [wRow,Refs,Ref,encGr_refs,encSp_refs,kRow1_refs,pRow1_refs,nRow1_refs,and_self]
section
variable {P : Program} [Is P]
theorem c_l07All (h : Hb) (hh : HbOK h) (h3 : h.rooms.length = 3) (h120 : h.stream.length ≤ 120) (hrm : rmOK h.rooms = true) (hnd : ndS h.stream = true) : Con P 60 [.agg (encHb h)] (wV h):=by
 have hs2:=hh.2
 refine Con.ofS (n:=100) (rs:=[.tmp 2]) (Is.fn Tryz.func60) rfl (Is.call Tryz.call60) Tryz.results60 Tryz.ntmps60 (wV_ref _ h) ?_
 refine SW.seq (CW.sound ?_)
 simp only [method_specs_simp,seval,encHb,encGr]
 refine SW.seq (CW.sound ?_)
 simp only [method_specs_simp,seval,encHb,encGr]
 refine SW.nilcell 1 2 1 rfl rfl (by decide) ?_
 refine SW.nilcell 1 3 1 rfl rfl (by decide) ?_
 refine SW.nilcell 1 4 1 rfl rfl (by decide) ?_
 refine SW.seq (CW.sound ?_)
 simp only [method_specs_simp,seval,encHb,encGr]
 refine SW.while (A:=Nat) (fun i=>⟨pad 100 [.junk,.ptr 0 0,.junk,.ptr 1 0,.int .i64 i],[.box true (encHb h),.box true [.sl 3 (h.rooms.map encGr),.sl 2 (h.stream.map encSp),.ar 2 0 i,.ar 3 0 i,.ar 4 0 i],.arr true 1 ((h.rooms.take i).map kRow1),.arr true 1 ((h.rooms.take i).map (pRow1 h.stream)),.arr true 1 ((h.rooms.take i).map nRow1)],[]⟩) (fun i=>h.rooms.length - i) (fun i=>i ≤ h.rooms.length) 0 [0,1,2,3,4] (Zg _) ?_ ?_
 ·have z1 : (h.rooms.take 0).map kRow1 = []:=rfl
  have z2 : (h.rooms.take 0).map (pRow1 h.stream) = []:=rfl
  have z3 : (h.rooms.take 0).map nRow1 = []:=rfl
  rw [z1,z2,z3]
  simp only [mvcgen_simp,method_specs_simp,seval,encHb,encGr]
 ·intro i hi
  have w1 : IntKind.i64.wrap ((i : Int) + 1) = ((i + 1 : Nat) : Int):=wadd1 i (by omega)
  have l1 : ((h.rooms.take i).map kRow1).length = i:=by rw [Zj,Zs]; omega
  have l2 : ((h.rooms.take i).map (pRow1 h.stream)).length = i:=by rw [Zj,Zs]; omega
  have l3 : ((h.rooms.take i).map nRow1).length = i:=by rw [Zj,Zs]; omega
  refine SW.seq (CW.sound ?_)
  simp only [method_specs_simp,seval,encHb,encGr]
  refine gB_split (fun h1=>?_) (fun h1=>?_)
  ·simp only [decide_eq_true_eq,Za] at h1
   obtain ⟨g,hg⟩ : ∃ g,h.rooms[i]? = some g:=⟨_,Zb h1⟩
   have hgOK:=hh.1.2 g (Zf hg)
   have h2 : GG g:=⟨hgOK,by
    have:=rmOK_at.1 hrm i g hg
    unfold okRm at this
    simp only [Zq] at this
    exact this.1⟩
   have h60:=h2.n
   have n1 : (h.rooms.take i).map kRow1 ++ [[kS g (hsG g)]] = (h.rooms.take (i + 1)).map kRow1:=by
    rw [Zi,hg,Zk,Zy]; rfl
   have n2 : (h.rooms.take i).map (pRow1 h.stream) ++ [[V.sl 1 ((posL h.stream g).map encI)]] = (h.rooms.take (i + 1)).map (pRow1 h.stream):=by
    rw [Zi,hg,Zk,Zy]; rfl
   have n3 : (h.rooms.take i).map nRow1 ++ [[V.sl 3 ((curG g).map encEnt)]] = (h.rooms.take (i + 1)).map nRow1:=by
    rw [Zi,hg,Zk,Zy]; rfl
   refine SW.seq (SW.block ?_)
   refine SW.seq (CW.sound ?_)
   simp only [method_specs_simp,seval,encHb,encGr,hg]
   refine ⟨by omega,by omega,?_⟩
   refine SW.seq (CW.sound ?_)
   simp only [method_specs_simp,seval,encHb,encGr]
   refine clY.con (c_l06All g h2) (by simp only [method_specs_simp,encGr]) ?_
   obtain ⟨kc,hkc⟩ : ∃ cs,kS g (hsG g) = .fptr cs 0:=⟨_,rfl⟩
   have hkr : Ref (fun _=>False) (.fptr kc 0):=by rw [← hkc]; exact kS_ref _ _ _
   have htk : Con P 84 [.fptr kc 0] (.sl 1 ((takL g (okE (hsG g))).map encB)):=by rw [← hkc]; exact c_l06Taken g _ h60
   have hcu : Con P 83 [.agg (encGr g),.fptr kc 0,.sl 1 ((takL g (okE (hsG g))).map encB)] (.sl 3 ((curG g).map encEnt)):=by rw [← hkc]; exact c_l06CurG g h2
   rw [hkc] at n1 ⊢
   simp only [method_specs_simp,seval,encHb,encGr]
   refine SW.seq (CW.sound ?_)
   simp only [method_specs_simp,seval,encHb,encGr,l1,n1]
   refine ⟨by omega,by omega,?_⟩
   refine SW.seq (CW.sound ?_)
   simp only [method_specs_simp,seval,encHb,encGr]
   refine ⟨by kernel_rfl,?_⟩
   refine clY.con htk ⟨hkr,trivial⟩ ?_
   simp only [method_specs_simp,seval,encHb,encGr]
   refine clY.con hcu ⟨encGr_ref1 _ g,hkr,of_eq_true (encB_refs _ _),trivial⟩ ?_
   simp only [method_specs_simp,seval,encHb,encGr,l3,n3]
   refine ⟨by omega,by omega,?_⟩
   refine SW.seq (CW.sound ?_)
   simp only [method_specs_simp,seval,encHb,encGr]
   refine ⟨by omega,by omega,by omega,?_⟩
   refine SW.seq (CW.sound ?_)
   simp only [method_specs_simp,seval,encHb,encGr]
   refine SW.while (A:=Nat) (fun k=>⟨pad 100 [.junk,.ptr 0 0,.junk,.ptr 1 0,.int .i64 i,.ptr 3 0,.junk,.ar 6 0 g.events.length,.int .i64 k],[.box true (encHb h),.box true [.sl 3 (h.rooms.map encGr),.sl 2 (h.stream.map encSp),.ar 4 0 (i + 1),.ar 2 0 i,.ar 5 0 (i + 1)],.arr true 1 ((h.rooms.take i).map (pRow1 h.stream)),.box true (encGr g),.arr true 1 ((h.rooms.take (i + 1)).map kRow1),.arr true 1 ((h.rooms.take (i + 1)).map nRow1),.arr true 1 ((posL (h.stream.take k) g).map encI)],[]⟩) (fun k=>h.stream.length - k) (fun k=>k ≤ h.stream.length) 0 [0,1,3,5,7,9,10] (Zg _) ?_ ?_
   ·have h0 : (posL (h.stream.take 0) g).map encI = ZI g.events.length [V.int .i64 0]:=by
     unfold posL
     rw [List.map_map]
     show g.events.map (fun _=>[V.int .i64 0]) = _
     simp only [Yy]
    rw [← h0]
    simp only [mvcgen_simp,method_specs_simp,seval,encHb,encGr]
   ·intro k hk
    have w2 : IntKind.i64.wrap ((k : Int) + 1) = ((k + 1 : Nat) : Int):=wadd1 k (by omega)
    refine SW.seq (CW.sound ?_)
    simp only [method_specs_simp,seval,encHb,encGr]
    refine gB_split (fun h4=>?_) (fun h4=>?_)
    ·simp only [decide_eq_true_eq,Za] at h4
     obtain ⟨x,hx⟩ : ∃ x,h.stream[k]? = some x:=⟨_,Zb h4⟩
     have hnx:=ndS_at.1 hnd k x hx
     have hlk : (h.stream.take k).length = k:=by rw [Zs]; omega
     have hps:=posL_snoc h2 hnx
     rw [show h.stream.take k ++ [x] = h.stream.take (k + 1) by rw [Zi,hx]; rfl,hlk] at hps
     obtain ⟨L,hL⟩ : ∃ L,L = posL (h.stream.take k) g:=⟨_,rfl⟩
     have hLl : L.length = g.events.length:=by rw [hL,posL_len]
     rw [← hL] at hps ⊢
     refine SW.seq (SW.block ?_)
     refine SW.seq (CW.sound ?_)
     simp only [method_specs_simp,seval,encHb,encGr,hx,encSp]
     refine ⟨by kernel_rfl,by omega,by omega,?_⟩
     refine clY.con (c_l03At g.events x.id (by omega)) ⟨of_eq_true (encEv_refs _ _),trivial,trivial⟩ ?_
     simp only [method_specs_simp,seval,encHb,encGr]
     refine CW.sound ?_
     simp only [method_specs_simp,seval,encHb,encGr,hx,encSp]
     refine ⟨by kernel_rfl,by omega,by omega,?_⟩
     cases hr : x.room == g.room with
     | false =>
      have hps2 : posL (h.stream.take (k + 1)) g = L:=by rw [hps,if_neg]; rintro ⟨q,_⟩; rw [q] at hr; simp at hr
      simp only [method_specs_simp,seval,encHb,encGr]
      refine CW.sound ?_
      simp only [method_specs_simp,seval,encHb,encGr,w2]
      refine Again.mk (k + 1) [0,1,2,3,4,5,6] h4 (Zc h4 (Zd _)) ?_
      rw [hps2]
      simp only [mvcgen_simp,method_specs_simp,seval,encHb,encGr]
     | true =>
      cases hhas : Gm.hasId g.events x.id with
      | false =>
       have hps2 : posL (h.stream.take (k + 1)) g = L:=by rw [hps,if_neg]; rintro ⟨_,q⟩; rw [q] at hhas; cases hhas
       have ha : decide (atI g.events x.id ≥ 0) = false:=by rw [atI_no hhas]; rfl
       simp only [method_specs_simp,seval,encHb,encGr,ha]
       refine CW.sound ?_
       simp only [method_specs_simp,seval,encHb,encGr,w2]
       refine Again.mk (k + 1) [0,1,2,3,4,5,6] h4 (Zc h4 (Zd _)) ?_
       rw [hps2]
       simp only [mvcgen_simp,method_specs_simp,seval,encHb,encGr]
      | true =>
       have hfl:=Gm.fid_lt hhas
       have hps2 : posL (h.stream.take (k + 1)) g = L.set (Gm.fidE g.events x.id) ((k : Int) + 1):=by rw [hps,if_pos ⟨eq_of_beq hr,hhas⟩]
       have hai:=atI_yes hhas
       have ha : decide (atI g.events x.id ≥ 0) = true:=by rw [hai]; simp
       have ha2 : (atI g.events x.id).toNat = Gm.fidE g.events x.id:=by rw [hai]; rfl
       simp only [method_specs_simp,seval,encHb,encGr,ha]
       refine ⟨by omega,by omega,by omega,?_⟩
       rw [ha2,w2]
       refine CW.sound ?_
       simp only [method_specs_simp,seval,encHb,encGr,w2]
       refine Again.mk (k + 1) [0,1,2,3,4,5,6] h4 (Zc h4 (Zd _)) ?_
       rw [hps2]
       simp only [mvcgen_simp,method_specs_simp,seval,encHb,encGr]
    ·have hk2 : k = h.stream.length:=by simp only [decide_eq_false_iff_not,Ze,Za] at h4; omega
     rw [hk2,Zx]
     refine SW.freeze [6] ?_
     simp only [mvcgen_simp,method_specs_simp,seval,encHb,encGr,convs_r8j,conv_junkj]
     have htl : Zw g.events.length ((posL h.stream g).map encI) = (posL h.stream g).map encI:=Zv (by rw [Zj,posL_len]; omega)
     rw [htl]
     refine CW.sound ?_
     simp only [method_specs_simp,seval,encHb,encGr,l2,n2]
     refine ⟨by omega,by omega,?_⟩
     refine CW.sound ?_
     simp only [method_specs_simp,seval,encHb,encGr,w1]
     refine Again.mk (i + 1) [0,1,4,8,5] h1 (Zc h1 (Zd _)) ?_
     simp only [mvcgen_simp,method_specs_simp,seval,encHb,encGr]
  ·have hi3 : i = h.rooms.length:=by simp only [decide_eq_false_iff_not,Ze,Za] at h1; omega
   rw [hi3,Zx]
   refine SW.freeze [0,1,2,3,4] ?_
   simp only [mvcgen_simp,method_specs_simp,seval,encHb,encGr,convs_r8j,conv_junkj]
   refine sw_deep 2 ?_
   simp only [mvcgen_simp,method_specs_simp,seval,encHb,encGr,map_r8,ZG,ZO]
   refine CW.sound ?_
   simp only [method_specs_simp,seval,encHb,encGr]
   rfl
end
def posE (s : List Sp) (g : Gr) (e : Ev) : Int:=posS s ⟨g.room,e.id⟩
def strB (s : List Sp) (g : Gr) (e : Ev) : Bool:=!decide (posE s g e > 0) || e.prev.all fun p=>decide (posS s ⟨g.room,p⟩ < posE s g e)
def strE (s : List Sp) (g : Gr) (e : Ev) : Bool:=(okI g e.id == decide (posE s g e > 0)) && strB s g e
def strS (h : Hb) : Bool:=h.rooms.all fun g=>g.events.all fun e=>strE h.stream g e
def cntE (s : List Sp) (g : Gr) (l : List Ev) : Nat:=(l.filter fun e=>decide (posE s g e > 0)).length
def cntS (s : List Sp) : List Gr → Nat
 | []=>0
 | g :: l=>cntE s g g.events + cntS s l
theorem cntS_app (s : List Sp) : ∀ l l' : List Gr,cntS s (l ++ l') = cntS s l + cntS s l'
 | [],l'=>by simp [cntS]
 | g :: l,l'=>by simp only [List.cons_append,cntS,cntS_app s l l']; omega
theorem cntE_app (s : List Sp) (g : Gr) (l l' : List Ev) : cntE s g (l ++ l') = cntE s g l + cntE s g l':=by unfold cntE; rw [Ym,ZN]
section
variable {P : Program} [Is P]
theorem c_l07Streamed (h : Hb) (hh : HbOK h) (h3 : h.rooms.length = 3) (h120 : h.stream.length ≤ 120) (hrm : rmOK h.rooms = true) : Con P 61 [wV h] (.bool (strS h && (cntS h.stream h.rooms == h.stream.length))):=by
 have hbad : ∀ (i : Nat) (g : Gr) (k : Nat) (e : Ev),h.rooms[i]? = some g → g.events[k]? = some e → strE h.stream g e = false → (strS h && (cntS h.stream h.rooms == h.stream.length)) = false:=fun i g k e hg he hb=>by
  have : strS h = false:=by
   cases hs : strS h with
   | false=>rfl
   | true =>
    unfold strS at hs
    rw [Zn] at hs
    have h1:=hs g (Zf hg)
    rw [Zn] at h1
    rw [h1 e (Zf he)] at hb
    cases hb
  rw [this]; rfl
 have hwr:=wV_ref (fun _=>False) h
 refine Con.ofS (n:=136) (rs:=[.tmp 2]) (Is.fn Tryz.func61) rfl (Is.call Tryz.call61) Tryz.results61 Tryz.ntmps61 trivial ?_
 refine SW.seq (CW.sound ?_)
 simp only [method_specs_simp,seval,encGr,kS,wV,wRow]
 refine SW.seq (CW.sound ?_)
 simp only [method_specs_simp,seval,encGr,kS,wV,wRow]
 refine SW.seq (CW.sound ?_)
 simp only [method_specs_simp,seval,encGr,kS,wV,wRow]
 refine SW.while (A:=Nat) (fun i=>⟨pad 136 [wV h,.junk,.bool false,.int .i64 (cntS h.stream (h.rooms.take i)),.int .i64 i],[],[]⟩) (fun i=>h.rooms.length - i) (fun i=>i ≤ h.rooms.length ∧ cntS h.stream (h.rooms.take i) ≤ 60 * i ∧ ∀ g ∈ h.rooms.take i,∀ e ∈ g.events,strE h.stream g e = true) 0 [] ⟨Zg _,Zo _,fun g hg=>absurd hg (Yo)⟩ ?_ ?_
 ·simp only [mvcgen_simp,method_specs_simp,seval,encGr,kS,wV,wRow]
  rfl
 ·rintro i ⟨hi,hcn,hal⟩
  have w1 : IntKind.i64.wrap ((i : Int) + 1) = ((i + 1 : Nat) : Int):=wadd1 i (by omega)
  refine SW.seq (CW.sound ?_)
  simp only [method_specs_simp,seval,encGr,kS,wV,wRow]
  refine gB_split (fun h1=>?_) (fun h1=>?_)
  ·simp only [decide_eq_true_eq,Za] at h1
   obtain ⟨g,hg⟩ : ∃ g,h.rooms[i]? = some g:=⟨_,Zb h1⟩
   have hgOK:=hh.1.2 g (Zf hg)
   have h2 : GG g:=⟨hgOK,by
    have:=rmOK_at.1 hrm i g hg
    unfold okRm at this
    simp only [Zq] at this
    exact this.1⟩
   have h60:=h2.n
   refine SW.seq (SW.block ?_)
   refine SW.seq (CW.sound ?_)
   simp only [method_specs_simp,seval,encGr,kS,wV,wRow,hg]
   refine ⟨by omega,by omega,?_⟩
   refine SW.seq (CW.sound ?_)
   simp only [method_specs_simp,seval,encGr,kS,wV,wRow]
   refine SW.block ?_
   refine SW.while (A:=Nat) (fun k=>⟨pad 136 [wV h,.junk,.bool false,.int .i64 (cntS h.stream (h.rooms.take i) + cntE h.stream g (g.events.take k) : Nat),.int .i64 i,.ptr 0 0,.int .i64 k],[.box true (encGr g)],[]⟩) (fun k=>g.events.length - k) (fun k=>k ≤ g.events.length ∧ cntE h.stream g (g.events.take k) ≤ k ∧ ∀ e ∈ g.events.take k,strE h.stream g e = true) 0 [0] ⟨Zg _,Zo _,fun e he=>absurd he (Yo)⟩ ?_ ?_
   ·have z : cntE h.stream g [] = 0:=rfl
    simp only [mvcgen_simp,method_specs_simp,seval,encGr,kS,wV,wRow]
    rw [z]
    exact Int.add_zero _
   ·rintro k ⟨hk,hce,hae⟩
    have w2 : IntKind.i64.wrap ((k : Int) + 1) = ((k + 1 : Nat) : Int):=wadd1 k (by omega)
    refine SW.seq (CW.sound ?_)
    simp only [method_specs_simp,seval,encGr,kS,wV,wRow]
    refine gB_split (fun h4=>?_) (fun h4=>?_)
    ·simp only [decide_eq_true_eq,Za] at h4
     obtain ⟨e,he⟩ : ∃ e,g.events[k]? = some e:=⟨_,Zb h4⟩
     have hem:=Zf he
     have hoR : (oR g (hsG g).R)[k]? = some [V.int .i64 (lookD (hsG g).R e.id 0)]:=oR_get _ he
     have hpo : (posL h.stream g)[k]? = some (posE h.stream g e):=posL_get _ he
     have hkr : h.rooms[i]?.map kRow1 = some [kS g (hsG g)]:=by rw [hg]; rfl
     have hpr : h.rooms[i]?.map (pRow1 h.stream) = some [V.sl 1 ((posL h.stream g).map encI)]:=by rw [hg]; rfl
     have hbe:=hbad i g k e hg he
     have hpll : (posL h.stream g).length = g.events.length:=posL_len _ _
     refine SW.seq (SW.block ?_)
     refine SW.seq (CW.sound ?_)
     simp only [method_specs_simp,seval,encGr,kS,wV,wRow,hkr,hpr]
     refine ⟨by kernel_rfl,by omega,by omega,by omega,by omega,?_⟩
     simp only [method_specs_simp,seval,encGr,kS,wV,wRow,hoR,hkr,hpr,hpo,encI]
     refine ⟨by omega,by omega,by omega,by omega,?_⟩
     rw [show (lookD (hsG g).R e.id 0 == 0) = okI g e.id from rfl]
     obtain ⟨pe,hpe⟩ : ∃ pe,pe = posE h.stream g e:=⟨_,rfl⟩
     rw [← hpe] at hpo ⊢
     cases hA : (okI g e.id != decide (pe > 0)) with
     | true =>
      simp only [method_specs_simp,seval,encGr,kS,wV,wRow]
      refine (hbe ?_).symm
      unfold strE
      rw [← hpe]
      have : (okI g e.id == decide (pe > 0)) = false:=by simpa [bne] using hA
      rw [this]; rfl
     | false =>
      have hA2 : (okI g e.id == decide (pe > 0)) = true:=by simpa [bne] using hA
      simp only [method_specs_simp,seval,encGr,kS,wV,wRow]
      refine SW.seq (CW.sound ?_)
      simp only [method_specs_simp,seval,encGr,kS,wV,wRow]
      have hfour:=h2.four e hem
      refine SW.while (A:=Nat) (fun j=>⟨pad 136 [wV h,.junk,.bool false,.int .i64 (cntS h.stream (h.rooms.take i) + cntE h.stream g (g.events.take k) : Nat),.int .i64 i,.ptr 0 0,.int .i64 k,.int .i64 j],[.box true (encGr g)],[]⟩) (fun j=>e.prev.length - j) (fun j=>j ≤ e.prev.length ∧ (0 < j → decide (pe > 0) = true) ∧ ∀ p ∈ e.prev.take j,posS h.stream ⟨g.room,p⟩ < pe) 0 [0] ⟨Zg _,fun q=>absurd q (Nat.lt_irrefl _),fun e he=>absurd he (Yo)⟩ ?_ ?_
      ·simp only [mvcgen_simp,method_specs_simp,seval,encGr,kS,wV,wRow]
      ·rintro j ⟨hj,hjp,hjl⟩
       have w3 : IntKind.i64.wrap ((j : Int) + 1) = ((j + 1 : Nat) : Int):=wadd1 j (by omega)
       refine SW.seq (CW.sound ?_)
       simp only [method_specs_simp,seval,encGr,kS,wV,wRow,hkr,hpr,hpo,he,encEv,encI]
       refine ⟨by omega,by omega,?_⟩
       refine gB_split (fun h5=>?_) (fun h5=>?_)
       ·simp only [decide_eq_true_eq,Za] at h5
        refine ⟨by omega,by omega,by omega,by omega,?_⟩
        cases hP : decide (pe > 0) with
        | true =>
         obtain ⟨p,hp⟩ : ∃ p,e.prev[j]? = some p:=⟨_,Zb h5⟩
         have hpm:=Zf hp
         have hph : Gm.hasId g.events p = true:=by
          have:=h2.ain e hem
          unfold Gm.allIn at this
          exact (Zn.1 this) p hpm
         obtain ⟨e',he',hei⟩:=Gm.fid_get hph
         have hfl:=Gm.fid_lt hph
         have hai:=atI_yes hph
         obtain ⟨f,hf⟩ : ∃ f,f = Gm.fidE g.events p:=⟨_,rfl⟩
         rw [← hf] at he' hfl hai
         have hpf : (posL h.stream g)[f]? = some (posS h.stream ⟨g.room,p⟩):=by rw [posL_get _ he',hei]
         simp only [method_specs_simp,seval,encGr,kS,wV,wRow]
         refine SW.seq (SW.block ?_)
         refine CW.sound ?_
         simp only [method_specs_simp,seval,encGr,kS,wV,wRow,hkr,hpr,hpo,he,hp,encEv,encI]
         refine ⟨by kernel_rfl,by omega,by omega,by omega,by omega,by omega,by omega,?_⟩
         refine clY.con (c_l03At g.events p (by omega)) ⟨of_eq_true (encEv_refs _ _),trivial,trivial⟩ ?_
         rw [hai]
         simp only [method_specs_simp,seval,encGr,kS,wV,wRow,hpf,hkr,hpr,hpo,encI]
         refine ⟨by omega,by omega,by omega,by omega,by omega,by omega,?_⟩
         refine gB_split (fun h6=>?_) (fun h6=>?_)
         ·simp only [decide_eq_true_eq] at h6
          refine (hbe ?_).symm
          have hB : strB h.stream g e = false:=by
           unfold strB
           rw [← hpe,hP,Ze,YH,← ZQ,Zn]
           intro q
           have:=of_decide_eq_true (q p hpm)
           omega
          unfold strE
          rw [hB,Zl]
         ·simp only [decide_eq_false_iff_not,Ze] at h6
          refine CW.sound ?_
          simp only [method_specs_simp,seval,encGr,kS,wV,wRow,w3]
          refine Again.mk (j + 1) [0] ⟨h5,fun _=>by first | exact hP | trivial,fun q hq=>?_⟩ (Zc h5 (Zd _)) ?_
          ·rw [Zi,hp,Zk,ZR,Yd] at hq
           rcases hq with hq | rfl
           ·exact hjl q hq
           ·omega
          ·simp only [mvcgen_simp,method_specs_simp,seval,encGr,kS,wV,wRow]
        | false =>
         have hB : strB h.stream g e = true:=by unfold strB; rw [← hpe,hP]; rfl
         simp only [method_specs_simp,seval,encGr,kS,wV,wRow]
         have hE : strE h.stream g e = true:=by unfold strE; rw [← hpe,hA2,hB]; rfl
         have hae2 : ∀ e' ∈ g.events.take (k + 1),strE h.stream g e' = true:=fun e' he'=>by
          rw [Zi,he,Zk,ZR,Yd] at he'
          rcases he' with he' | rfl
          ·exact hae e' he'
          ·exact hE
         refine SW.seq (CW.sound ?_)
         simp only [method_specs_simp,seval,encGr,kS,wV,wRow,hkr,hpr,hpo]
         refine ⟨by omega,by omega,by omega,by omega,?_⟩
         simp only [method_specs_simp,seval,encGr,kS,wV,wRow,encI]
         cases hP : decide (pe > 0) with
         | true =>
          have hcs : cntE h.stream g (g.events.take (k + 1)) = cntE h.stream g (g.events.take k) + 1:=by
           rw [Zi,he,Zk,cntE_app]
           show _ + ([e].filter _).length = _
           simp only [Yp,← hpe,hP,Yq,if_true,YT]
          have w4 : IntKind.i64.wrap ((cntS h.stream (h.rooms.take i) : Int) + (cntE h.stream g (g.events.take k) : Int) + 1) = ((cntS h.stream (h.rooms.take i) + cntE h.stream g (g.events.take (k + 1)) : Nat) : Int):=by rw [wrap_id (by omega) (by omega),hcs]; omega
          refine CW.sound ?_
          simp only [method_specs_simp,seval,encGr,kS,wV,wRow,w4]
          refine CW.sound ?_
          simp only [method_specs_simp,seval,encGr,kS,wV,wRow,w2]
          refine Again.mk (k + 1) [0] ⟨h4,by omega,hae2⟩ (Zc h4 (Zd _)) ?_
          simp only [mvcgen_simp,method_specs_simp,seval,encGr,kS,wV,wRow]
         | false =>
          have hcs : cntE h.stream g (g.events.take (k + 1)) = cntE h.stream g (g.events.take k):=by
           rw [Zi,he,Zk,cntE_app]
           show _ + ([e].filter _).length = _
           simp only [Yp,← hpe,hP,Yq,ZZ,if_false,Yi,Nat.add_zero]
          refine CW.sound ?_
          simp only [method_specs_simp,seval,encGr,kS,wV,wRow]
          refine CW.sound ?_
          simp only [method_specs_simp,seval,encGr,kS,wV,wRow,w2]
          refine Again.mk (k + 1) [0] ⟨h4,by omega,hae2⟩ (Zc h4 (Zd _)) ?_
          simp only [mvcgen_simp,method_specs_simp,seval,encGr,kS,wV,wRow,hcs]
       ·have hj3 : j = e.prev.length:=by simp only [decide_eq_false_iff_not,Ze,Za] at h5; omega
        have hB : strB h.stream g e = true:=by
         unfold strB
         rw [← hpe,Bool.or_eq_true,Zn]
         refine .inr fun p hp=>decide_eq_true (hjl p ?_)
         rw [hj3,Zx]; exact hp
        have hE : strE h.stream g e = true:=by unfold strE; rw [← hpe,hA2,hB]; rfl
        have hae2 : ∀ e' ∈ g.events.take (k + 1),strE h.stream g e' = true:=fun e' he'=>by
         rw [Zi,he,Zk,ZR,Yd] at he'
         rcases he' with he' | rfl
         ·exact hae e' he'
         ·exact hE
        refine SW.seq (CW.sound ?_)
        simp only [method_specs_simp,seval,encGr,kS,wV,wRow,hkr,hpr,hpo]
        refine ⟨by omega,by omega,by omega,by omega,?_⟩
        simp only [method_specs_simp,seval,encGr,kS,wV,wRow,encI]
        cases hP : decide (pe > 0) with
        | true =>
         have hcs : cntE h.stream g (g.events.take (k + 1)) = cntE h.stream g (g.events.take k) + 1:=by
          rw [Zi,he,Zk,cntE_app]
          show _ + ([e].filter _).length = _
          simp only [Yp,← hpe,hP,Yq,if_true,YT]
         have w4 : IntKind.i64.wrap ((cntS h.stream (h.rooms.take i) : Int) + (cntE h.stream g (g.events.take k) : Int) + 1) = ((cntS h.stream (h.rooms.take i) + cntE h.stream g (g.events.take (k + 1)) : Nat) : Int):=by rw [wrap_id (by omega) (by omega),hcs]; omega
         refine CW.sound ?_
         simp only [method_specs_simp,seval,encGr,kS,wV,wRow,w4]
         refine CW.sound ?_
         simp only [method_specs_simp,seval,encGr,kS,wV,wRow,w2]
         refine Again.mk (k + 1) [0] ⟨h4,by omega,hae2⟩ (Zc h4 (Zd _)) ?_
         simp only [mvcgen_simp,method_specs_simp,seval,encGr,kS,wV,wRow]
        | false =>
         have hcs : cntE h.stream g (g.events.take (k + 1)) = cntE h.stream g (g.events.take k):=by
          rw [Zi,he,Zk,cntE_app]
          show _ + ([e].filter _).length = _
          simp only [Yp,← hpe,hP,Yq,ZZ,if_false,Yi,Nat.add_zero]
         refine CW.sound ?_
         simp only [method_specs_simp,seval,encGr,kS,wV,wRow]
         refine CW.sound ?_
         simp only [method_specs_simp,seval,encGr,kS,wV,wRow,w2]
         refine Again.mk (k + 1) [0] ⟨h4,by omega,hae2⟩ (Zc h4 (Zd _)) ?_
         simp only [mvcgen_simp,method_specs_simp,seval,encGr,kS,wV,wRow,hcs]
    ·have hk2 : k = g.events.length:=by simp only [decide_eq_false_iff_not,Ze,Za] at h4; omega
     rw [hk2,Zx] at hae hce ⊢
     have hcs : cntS h.stream (h.rooms.take (i + 1)) = cntS h.stream (h.rooms.take i) + cntE h.stream g g.events:=by
      rw [Zi,hg,Zk,cntS_app]; rfl
     refine CW.sound ?_
     simp only [method_specs_simp,seval,encGr,kS,wV,wRow,w1]
     refine Again.mk (i + 1) [] ⟨h1,by omega,fun g' hg'=>?_⟩ (Zc h1 (Zd _)) ?_
     ·rw [Zi,hg,Zk,ZR,Yd] at hg'
      rcases hg' with hg' | rfl
      ·exact hal g' hg'
      ·exact hae
     ·simp only [mvcgen_simp,method_specs_simp,seval,encGr,kS,wV,wRow,hcs]
  ·have hi3 : i = h.rooms.length:=by simp only [decide_eq_false_iff_not,Ze,Za] at h1; omega
   rw [hi3,Zx] at hal ⊢
   have hS : strS h = true:=by
    unfold strS
    rw [Zn]
    intro g hg
    rw [Zn]
    exact hal g hg
   have hbe : (((cntS h.stream h.rooms : Nat) : Int) == ((h.stream.length : Nat) : Int)) = (cntS h.stream h.rooms == h.stream.length):=by rw [ZC]; simp only [beq_iff_eq]; omega
   rw [hS,Zh,← hbe]
   refine CW.sound ?_
   simp only [method_specs_simp,seval,encGr,kS,wV,wRow]
end
def rightS (h : Hb) : Bool:=decide (h.rooms.length = 3) && (decide (h.stream.length ≤ 120) && (rmOK h.rooms && (ndS h.stream && (strS h && (cntS h.stream h.rooms == h.stream.length)))))
def zW : V:=.fptr [.nil,.nil,.nil,.nil,.nil] 0
def rtR (h : Hb) : V:=if rightS h then .tup [wV h,.bool true] else .tup [zW,.bool false]
theorem rtR_ref (ok : Nat → Prop) (h : Hb) : Ref ok (rtR h):=by
 unfold rtR
 split
 ·exact ⟨wV_ref ok h,trivial,trivial⟩
 ·exact ⟨⟨trivial,trivial,trivial,trivial,trivial,trivial⟩,trivial,trivial⟩
theorem sp_eq (x y : Sp) : (x.room == y.room && x.id == y.id) = (x == y):=by
 obtain ⟨a,b⟩:=x
 obtain ⟨c,d⟩:=y
 rw [ZC]
 simp
section
variable {P : Program} [Is P]
theorem c_l07Right (h : Hb) (hh : HbOK h) : Con P 45 [.agg (encHb h)] (rtR h):=by
 have hs2:=hh.2
 have hbad : rightS h = false → rtR h = .tup [zW,.bool false]:=fun hb=>by unfold rtR; rw [hb]; rfl
 refine Con.ofS (n:=80) (rs:=[.tmp 2,.tmp 3]) (Is.fn Tryz.func45) rfl (Is.call Tryz.call45) Tryz.results45 Tryz.ntmps45 (rtR_ref _ h) ?_
 refine SW.seq (CW.sound ?_)
 simp only [method_specs_simp,seval,encHb,encGr]
 by_cases h3 : h.rooms.length = 3
 ·by_cases h120 : h.stream.length ≤ 120
  ·have e1 : ((h.rooms.length : Int) != 3) = false:=by rw [h3]; rfl
   have e2 : decide ((h.stream.length : Int) > 120) = false:=by simp; omega
   refine SW.seq (CW.sound ?_)
   simp only [method_specs_simp,seval,encHb,encGr,e1,e2]
   refine SW.seq (CW.sound ?_)
   simp only [method_specs_simp,seval,encHb,encGr]
   refine SW.while (A:=Nat) (fun i=>⟨pad 80 [.junk,.ptr 0 0,.junk,.bool false,.int .i64 i],[.box true (encHb h)],[]⟩) (fun i=>h.rooms.length - i) (fun i=>i ≤ h.rooms.length ∧ ∀ j g,j < i → h.rooms[j]? = some g → okRm j g = true) 0 [0] ⟨Zg _,fun j g hj=>absurd hj (ZS _)⟩ ?_ ?_
   ·simp only [mvcgen_simp,method_specs_simp,seval,encHb,encGr]
   ·rintro i ⟨hi,hok⟩
    have w1 : IntKind.i64.wrap ((i : Int) + 1) = ((i + 1 : Nat) : Int):=wadd1 i (by omega)
    have hbr : ∀ g,h.rooms[i]? = some g → okRm i g = false → rtR h = .tup [zW,.bool false]:=fun g hg hb=>hbad (by
     unfold rightS
     have : rmOK h.rooms = false:=by
      cases hr : rmOK h.rooms with
      | false=>rfl
      | true=>rw [rmOK_at.1 hr i g hg] at hb; cases hb
     rw [this,Zm,Zl,Zl])
    refine SW.seq (CW.sound ?_)
    simp only [method_specs_simp,seval,encHb,encGr]
    refine gB_split (fun h1=>?_) (fun h1=>?_)
    ·simp only [decide_eq_true_eq,Za] at h1
     obtain ⟨g,hg⟩ : ∃ g,h.rooms[i]? = some g:=⟨_,Zb h1⟩
     have hgOK:=hh.1.2 g (Zf hg)
     refine SW.seq (SW.block ?_)
     refine SW.seq (CW.sound ?_)
     simp only [method_specs_simp,seval,encHb,encGr,hg]
     refine ⟨by omega,by omega,?_⟩
     refine clY.con (c_sGraphRight g hgOK) (by simp only [method_specs_simp,encGr]) ?_
     cases hr : Gm.grRight g with
     | false =>
      simp only [method_specs_simp,seval,encHb,encGr]
      refine CW.sound ?_
      simp only [method_specs_simp,seval,encHb,encGr]
      exact (hbr g hg (by unfold okRm; rw [hr]; rfl)).symm
     | true =>
      simp only [method_specs_simp,seval,encHb,encGr,hg,w1]
      refine ⟨by omega,by omega,?_⟩
      by_cases hb : g.room = (i : Int) + 1
      ·have hb2 : (g.room != (i : Int) + 1) = false:=by simp; omega
       rw [hb2]
       refine CW.sound ?_
       simp only [method_specs_simp,seval,encHb,encGr]
       refine CW.sound ?_
       simp only [method_specs_simp,seval,encHb,encGr,w1]
       refine Again.mk (i + 1) [0] ⟨h1,fun j g' hj hg'=>?_⟩ (Zc h1 (Zd _)) ?_
       ·rcases ZP.1 hj with hj | rfl
        ·exact hok j g' hj hg'
        ·rw [hg] at hg'
         injection hg' with hg'
         subst hg'
         unfold okRm
         rw [hr,decide_eq_true hb]; rfl
       ·simp only [mvcgen_simp,method_specs_simp,seval,encHb,encGr]
      ·have hb2 : (g.room != (i : Int) + 1) = true:=by simp; omega
       rw [hb2]
       refine CW.sound ?_
       simp only [method_specs_simp,seval,encHb,encGr]
       exact (hbr g hg (by unfold okRm; rw [hr,decide_eq_false hb]; rfl)).symm
    ·have hi3 : i = h.rooms.length:=by simp only [decide_eq_false_iff_not,Ze,Za] at h1; omega
     have hrm : rmOK h.rooms = true:=rmOK_at.2 fun j g hg=>hok j g (by have:=(Zr.1 hg).1; omega) hg
     clear hok hbr h1 hi w1
     refine SW.seq (CW.sound ?_)
     simp only [method_specs_simp,seval,encHb,encGr]
     refine SW.while (A:=Nat) (fun a=>⟨pad 80 [.junk,.ptr 0 0,.junk,.bool false,.junk,.int .i64 a],[.box true (encHb h)],[]⟩) (fun a=>h.stream.length - a) (fun a=>a ≤ h.stream.length ∧ ∀ j x,j < a → h.stream[j]? = some x → (h.stream.take j).contains x = false) 0 [0] ⟨Zg _,fun j g hj=>absurd hj (ZS _)⟩ ?_ ?_
     ·simp only [mvcgen_simp,method_specs_simp,seval,encHb,encGr]
     ·rintro a ⟨ha,hok⟩
      have w1 : IntKind.i64.wrap ((a : Int) + 1) = ((a + 1 : Nat) : Int):=wadd1 a (by omega)
      refine SW.seq (CW.sound ?_)
      simp only [method_specs_simp,seval,encHb,encGr]
      refine gB_split (fun h1=>?_) (fun h1=>?_)
      ·simp only [decide_eq_true_eq,Za] at h1
       obtain ⟨x,hx⟩ : ∃ x,h.stream[a]? = some x:=⟨_,Zb h1⟩
       have hbx : (h.stream.take a).contains x = true → rtR h = .tup [zW,.bool false]:=fun hb=>hbad (by
        unfold rightS
        have : ndS h.stream = false:=by
         cases hr : ndS h.stream with
         | false=>rfl
         | true=>rw [ndS_at.1 hr a x hx] at hb; cases hb
        rw [this,Zm,Zl,Zl,Zl])
       refine SW.seq (SW.block ?_)
       refine SW.seq (CW.sound ?_)
       simp only [method_specs_simp,seval,encHb,encGr]
       refine SW.block ?_
       refine SW.while (A:=Nat) (fun b=>⟨pad 80 [.junk,.ptr 0 0,.junk,.bool false,.junk,.int .i64 a,.int .i64 b],[.box true (encHb h)],[]⟩) (fun b=>a - b) (fun b=>b ≤ a ∧ (h.stream.take b).contains x = false) 0 [0] ⟨Zg _,rfl⟩ ?_ ?_
       ·simp only [mvcgen_simp,method_specs_simp,seval,encHb,encGr]
       ·rintro b ⟨hb,hnb⟩
        have w2 : IntKind.i64.wrap ((b : Int) + 1) = ((b + 1 : Nat) : Int):=wadd1 b (by omega)
        refine SW.seq (CW.sound ?_)
        simp only [method_specs_simp,seval,encHb,encGr]
        refine gB_split (fun h2=>?_) (fun h2=>?_)
        ·simp only [decide_eq_true_eq,Za] at h2
         obtain ⟨y,hy⟩ : ∃ y,h.stream[b]? = some y:=⟨_,Zb (by omega)⟩
         refine SW.seq (SW.block ?_)
         refine CW.sound ?_
         simp only [method_specs_simp,seval,encHb,encGr,hx,hy,encSp]
         refine ⟨by kernel_rfl,by omega,by omega,by omega,by omega,?_⟩
         rw [sp_eq]
         cases hq : x == y with
         | true =>
          simp only [method_specs_simp,seval,encHb,encGr]
          refine (hbx (Zp.2 (Zf (i:=b) ?_))).symm
          rw [ZX h2,hy,eq_of_beq hq]
         | false =>
          have hnx : (h.stream.take (b + 1)).contains x = false:=by
           rw [Zi,hy,Zk,← ZQ,Zp,ZR,Yd]
           rintro (q | q)
           ·rw [Zp.2 q] at hnb; cases hnb
           ·rw [q] at hq; simp at hq
          simp only [method_specs_simp,seval,encHb,encGr]
          refine CW.sound ?_
          simp only [method_specs_simp,seval,encHb,encGr,w2]
          refine Again.mk (b + 1) [0] ⟨h2,hnx⟩ (Zc h2 (Zd _)) ?_
          simp only [mvcgen_simp,method_specs_simp,seval,encHb,encGr]
        ·have hb2 : b = a:=by simp only [decide_eq_false_iff_not,Ze,Za] at h2; omega
         rw [hb2] at hnb
         refine CW.sound ?_
         simp only [method_specs_simp,seval,encHb,encGr,w1]
         refine Again.mk (a + 1) [0] ⟨h1,fun j y hj hy=>?_⟩ (Zc h1 (Zd _)) ?_
         ·rcases ZP.1 hj with hj | rfl
          ·exact hok j y hj hy
          ·rw [hx] at hy
           injection hy with hy
           subst hy
           exact hnb
         ·simp only [mvcgen_simp,method_specs_simp,seval,encHb,encGr]
      ·have ha2 : a = h.stream.length:=by simp only [decide_eq_false_iff_not,Ze,Za] at h1; omega
       have hnd : ndS h.stream = true:=ndS_at.2 fun j x hx=>hok j x (by have:=(Zr.1 hx).1; omega) hx
       refine SW.seq (CW.sound ?_)
       simp only [method_specs_simp,seval,encHb,encGr]
       refine clY.con (c_l07All h hh h3 h120 hrm hnd) (by simp only [method_specs_simp,encHb]) ?_
       simp only [method_specs_simp,seval,encHb,encGr]
       refine SW.seq (CW.sound ?_)
       simp only [method_specs_simp,seval,encHb,encGr]
       refine clY.con (c_l07Streamed h hh h3 h120 hrm) ⟨wV_ref _ h,trivial⟩ ?_
       have hri : rightS h = (strS h && (cntS h.stream h.rooms == h.stream.length)):=by
        unfold rightS
        rw [decide_eq_true h3,decide_eq_true h120,hrm,hnd]; rfl
       rw [← hri]
       cases hr : rightS h with
       | false =>
        simp only [method_specs_simp,seval,encHb,encGr]
        exact (hbad hr).symm
       | true =>
        have hrt : rtR h = .tup [wV h,.bool true]:=by unfold rtR; rw [hr]; rfl
        rw [hrt]
        simp only [method_specs_simp,seval,encHb,encGr]
        refine CW.sound ?_
        simp only [method_specs_simp,seval,encHb,encGr]
        exact ⟨wV_ref _ h,rfl⟩
  ·have e2 : decide ((h.stream.length : Int) > 120) = true:=by simp; omega
   have e1 : ((h.rooms.length : Int) != 3) = false:=by rw [h3]; rfl
   have hn:=hbad (by unfold rightS; rw [decide_eq_false h120,Zm,Zl])
   rw [hn]
   refine SW.seq (CW.sound ?_)
   simp only [method_specs_simp,seval,encHb,encGr,e1,e2]
   rfl
 ·have e1 : ((h.rooms.length : Int) != 3) = true:=by simp; omega
  have hn:=hbad (by unfold rightS; rw [decide_eq_false h3,Zm])
  rw [hn]
  refine SW.seq (CW.sound ?_)
  simp only [method_specs_simp,seval,encHb,encGr,e1]
  rfl
end
def spG (g : Gr) (e : Ev) : Sp:=⟨g.room,e.id⟩
def allS (l : List Gr) : List Sp:=l.flatMap fun g=>g.events.map (spG g)
def accS (l : List Gr) : List Sp:=l.flatMap fun g=>(g.events.filter fun e=>okI g e.id).map (spG g)
def RmG (l : List Gr) : Prop:=∀ (i : Nat) (g : Gr),l[i]? = some g → GG g ∧ g.room = (i : Int) + 1
theorem RmG.of {h : Hb} (hh : HbOK h) (hrm : rmOK h.rooms = true) : RmG h.rooms:=fun i g hg=>by
 have:=rmOK_at.1 hrm i g hg
 unfold okRm at this
 simp only [Zq,decide_eq_true_eq] at this
 exact ⟨⟨hh.1.2 g (Zf hg),this.1⟩,this.2⟩
theorem RmG.same {l : List Gr} (h : RmG l) {g g' : Gr} (hg : g ∈ l) (hg' : g' ∈ l) (hr : g.room = g'.room) : g = g':=by
 obtain ⟨i,hi⟩:=Zz hg
 obtain ⟨j,hj⟩:=Zz hg'
 have h1:=(h i g hi).2
 have h2:=(h j g' hj).2
 have : i = j:=by omega
 subst this
 rw [hi] at hj
 injection hj
theorem RmG.gg {l : List Gr} (h : RmG l) {g : Gr} (hg : g ∈ l) : GG g:=by
 obtain ⟨i,hi⟩:=Zz hg
 exact (h i g hi).1
theorem ev_same {l : List Ev} (h : Gm.Srt l) {e e' : Ev} (he : e ∈ l) (he' : e' ∈ l) (hi : e.id = e'.id) : e = e':=by
 have h1:=at_mem h he
 have h2:=at_mem h he'
 rw [hi,h2] at h1
 injection h1 with h1
 exact h1.symm
theorem mem_allS {l : List Gr} {x : Sp} : x ∈ allS l ↔ ∃ g ∈ l,∃ e ∈ g.events,x = spG g e:=by
 unfold allS
 simp only [List.mem_flatMap,ZB]
 constructor
 ·rintro ⟨g,hg,e,he,rfl⟩; exact ⟨g,hg,e,he,rfl⟩
 ·rintro ⟨g,hg,e,he,rfl⟩; exact ⟨g,hg,e,he,rfl⟩
theorem mem_accS {l : List Gr} {x : Sp} : x ∈ accS l ↔ ∃ g ∈ l,∃ e ∈ g.events,okI g e.id = true ∧ x = spG g e:=by
 unfold accS
 simp only [List.mem_flatMap,ZB,ZE]
 constructor
 ·rintro ⟨g,hg,e,⟨he,ho⟩,rfl⟩; exact ⟨g,hg,e,he,ho,rfl⟩
 ·rintro ⟨g,hg,e,he,ho,rfl⟩; exact ⟨g,hg,e,⟨he,ho⟩,rfl⟩
theorem RmG.pw {l : List Gr} (h : RmG l) : l.Pairwise fun g g'=>g.room ≠ g'.room:=by
 rw [YU]
 intro i j hi hj hij hr
 have h1:=(h i _ (Zb hi)).2
 have h2:=(h j _ (Zb hj)).2
 omega
theorem evs_nodup {g : Gr} (h : GG g) : (g.events.map (spG g)).Nodup:=by
 unfold List.Nodup
 rw [YN]
 exact h.srt.imp fun {a b} hab heq=>by
  injection heq with _ h2
  exact absurd h2 (by have:=hab; omega)
theorem allS_nodup {l : List Gr} (h : RmG l) : (allS l).Nodup:=by
 unfold allS List.Nodup
 rw [YV]
 refine ⟨fun g hg=>evs_nodup (h.gg hg),h.pw.imp fun {g g'} hr x hx y hy hxy=>?_⟩
 obtain ⟨e,_,rfl⟩:=ZB.1 hx
 obtain ⟨e',_,rfl⟩:=ZB.1 hy
 injection hxy with h1
 exact hr h1
theorem accS_nodup {l : List Gr} (h : RmG l) : (accS l).Nodup:=by
 unfold accS List.Nodup
 rw [YV]
 refine ⟨fun g hg=>(evs_nodup (h.gg hg)).sublist (List.Sublist.map _ ZV),h.pw.imp fun {g g'} hr x hx y hy hxy=>?_⟩
 obtain ⟨e,_,rfl⟩:=ZB.1 hx
 obtain ⟨e',_,rfl⟩:=ZB.1 hy
 injection hxy with h1
 exact hr h1
theorem accS_len : ∀ l : List Gr,(accS l).length = lefts l
 | []=>rfl
 | g :: l=>by
   have:=accS_len l
   unfold accS at this ⊢
   rw [YW,ZN,this,Zj,lefts]
   unfold accI
   rw [Zj]
   rfl
theorem posS_pos {s : List Sp} {x : Sp} : decide (posS s x > 0) = s.contains x:=by
 unfold posS
 cases h : s.contains x with
 | false=>rfl
 | true=>rw [if_pos rfl]; exact decide_eq_true (by omega)
theorem allS_cnt (s : List Sp) : ∀ l : List Gr,((allS l).filter fun x=>s.contains x).length = cntS s l
 | []=>rfl
 | g :: l=>by
   have:=allS_cnt s l
   unfold allS at this ⊢
   rw [YW,Ym,ZN,this,List.filter_map,Zj,cntS]
   unfold cntE
   congr 2
   refine Yl fun e _=>?_
   unfold posE
   rw [posS_pos]; rfl
theorem two_ways {α : Type} [DecidableEq α] {A s : List α} (hA : A.Nodup) (hs : s.Nodup) : (A.filter fun x=>s.contains x).length = (s.filter fun x=>A.contains x).length:=by
 refine List.Perm.length_eq ((Yt (hA.sublist ZV) (hs.sublist ZV)).2 fun a=>?_)
 simp only [ZE,Zp]
 exact And.comm
theorem nd_nodup {s : List Sp} (h : ndS s = true) : s.Nodup:=by
 rw [List.nodup_iff_pairwise_ne,YU]
 intro i j hi hj hij he
 have:=ndS_at.1 h j _ (Zb hj)
 rw [← ZQ,Zp] at this
 refine this (Zf (i:=i) ?_)
 rw [ZX hij,Zb hi,he]
theorem posS_at {s : List Sp} (h : ndS s = true) {k : Nat} {x : Sp} (hx : s[k]? = some x) : posS s x = (k : Int) + 1:=by
 have hm:=Zf hx
 have hk:=(Zr.1 hx).1
 unfold posS
 rw [if_pos (Zp.2 hm)]
 have : s.idxOf x = k:=by
  have h1:=List.idxOf_lt_length_of_mem hm
  have h2 : s[s.idxOf x]? = some x:=by rw [Zb h1,List.getElem_idxOf h1]
  have hn:=nd_nodup h
  rcases YJ (s.idxOf x) k with hlt | heq | hgt
  ·have:=ndS_at.1 h k x hx
   rw [← ZQ,Zp] at this
   exact absurd (Zf (i:=s.idxOf x) (by rw [ZX hlt,h2])) this
  ·exact heq
  ·have:=ndS_at.1 h (s.idxOf x) x h2
   rw [← ZQ,Zp] at this
   exact absurd (Zf (i:=k) (by rw [ZX hgt,hx])) this
 rw [this]
theorem posS_take {s : List Sp} (h : ndS s = true) {k : Nat} (hk : k ≤ s.length) {y : Sp} : (s.take k).contains y = decide (0 < posS s y ∧ posS s y ≤ k):=by
 rw [ZC,Zp,decide_eq_true_eq]
 constructor
 ·intro hm
  obtain ⟨j,hj⟩:=Zz hm
  have hjl:=(Zr.1 hj).1
  rw [Zs] at hjl
  rw [ZX (by omega)] at hj
  rw [posS_at h hj]
  omega
 ·rintro ⟨h1,h2⟩
  have hc : s.contains y = true:=by rw [← posS_pos]; exact decide_eq_true h1
  obtain ⟨j,hj⟩:=Zz (Zp.1 hc)
  rw [posS_at h hj] at h2
  exact Zf (i:=j) (by rw [ZX (by omega)]; exact hj)
theorem gAt_of {l : List Gr} {i : Nat} {g : Gr} (hg : l[i]? = some g) : gAt l ((i : Int) + 1) = g:=by
 unfold gAt
 rw [show (((i : Int) + 1) - 1).toNat = i by omega,ZF,hg]; rfl
theorem okSp_acc {l : List Gr} (hl : RmG l) (h3 : l.length = 3) {met : List Sp} {x : Sp} (hx : okSp l met x = true) :
  met.contains x = false ∧ ∃ g ∈ l,∃ e ∈ g.events,okI g e.id = true ∧ x = spG g e ∧ ∀ p ∈ e.prev,okI g p = true → met.contains ⟨g.room,p⟩ = true:=by
 unfold okSp at hx
 simp only [Zq,ZM] at hx
 obtain ⟨hb,hm,hs,ho,ha⟩:=hx
 obtain ⟨b1,b2⟩ : 1 ≤ x.room ∧ x.room ≤ 3:=by unfold Gm.isB at hb; simpa using hb
 obtain ⟨g,hg⟩ : ∃ g,l[(x.room - 1).toNat]? = some g:=⟨_,Zb (by omega)⟩
 have hr:=(hl _ g hg).2
 have hrx : x.room = g.room:=by omega
 have hga : gAt l x.room = g:=by
  have:=gAt_of hg
  rwa [show (((x.room - 1).toNat : Int) + 1) = x.room by omega] at this
 rw [hga] at hs ho ha
 obtain ⟨e,he⟩:=Yk.1 hs
 rw [he,YG] at ha
 have hem:=Ye he
 have hei : e.id = x.id:=by have:=List.find?_some he; simpa using this
 refine ⟨hm,g,Zf hg,e,hem,by rw [hei]; exact ho,?_,fun p hp hop=>?_⟩
 ·obtain ⟨a,b⟩:=x
  simp only at hrx hei
  unfold spG
  rw [hei,hrx]
 ·rw [ZT] at ha
  have:=ha p hp
  rw [hop,Zh,hrx] at this
  simpa using this
theorem filter_all_of_len {α : Type} {p : α → Bool} {l : List α} (h : (l.filter p).length = l.length) : ∀ x ∈ l,p x = true:=by
 have:=YB.1 (List.Sublist.eq_of_length ZV h)
 exact this
theorem strS_at {h : Hb} : strS h = true ↔ ∀ g ∈ h.rooms,∀ e ∈ g.events,strE h.stream g e = true:=by
 unfold strS
 simp only [Zn]
theorem posE_eq (s : List Sp) (g : Gr) (e : Ev) : posE s g e = posS s (spG g e):=rfl
theorem lefts_cnt {s : List Sp} : ∀ {l : List Gr},(∀ g ∈ l,∀ e ∈ g.events,(okI g e.id == decide (posE s g e > 0)) = true) → lefts l = cntS s l
 | [],_=>rfl
 | g :: l,h=>by
   have:=lefts_cnt (s:=s) (l:=l) fun g' hg'=>h g' (ZU _ hg')
   rw [lefts,cntS,this]
   unfold accI cntE
   rw [Zj]
   congr 2
   refine Yl fun e he=>?_
   have:=h g ZK e he
   exact eq_of_beq this
theorem right_go {h : Hb} (hh : HbOK h) (h3 : h.rooms.length = 3) (hrm : rmOK h.rooms = true) (hst : stOK h.rooms h.stream = true) (hl : lefts h.rooms = h.stream.length) : ndS h.stream = true ∧ strS h = true ∧ cntS h.stream h.rooms = h.stream.length:=by
 have hR:=RmG.of hh hrm
 have hk:=stOK_at.1 hst
 have hnd : ndS h.stream = true:=ndS_at.2 fun i x hx=>(okSp_acc hR h3 (hk i x hx)).1
 have hN:=nd_nodup hnd
 have hsub : ∀ x ∈ h.stream,x ∈ accS h.rooms:=fun x hx=>by
  obtain ⟨i,hi⟩:=Zz hx
  obtain ⟨_,g,hg,e,he,ho,rfl,_⟩:=okSp_acc hR h3 (hk i x hi)
  exact mem_accS.2 ⟨g,hg,e,he,ho,rfl⟩
 have hacc : ∀ x ∈ accS h.rooms,h.stream.contains x = true:=by
  refine filter_all_of_len ?_
  rw [two_ways (accS_nodup hR) hN,accS_len,hl]
  congr 1
  exact YB.2 fun x hx=>Zp.2 (hsub x hx)
 have hok : ∀ g ∈ h.rooms,∀ e ∈ g.events,(okI g e.id == decide (posE h.stream g e > 0)) = true:=fun g hg e he=>by
  rw [posE_eq,posS_pos]
  cases ho : okI g e.id with
  | true=>rw [hacc _ (mem_accS.2 ⟨g,hg,e,he,ho,rfl⟩)]; rfl
  | false =>
   cases hc : h.stream.contains (spG g e) with
   | false=>rfl
   | true =>
    obtain ⟨g',hg',e',he',ho',heq⟩:=mem_accS.1 (hsub _ (Zp.1 hc))
    injection heq with q1 q2
    have:=hR.same hg hg' q1
    subst this
    rw [q2,ho'] at ho
    cases ho
 refine ⟨hnd,strS_at.2 fun g hg e he=>?_,?_⟩
 ·unfold strE
  rw [hok g hg e he,Zh]
  unfold strB
  cases hp : decide (posE h.stream g e > 0) with
  | false=>rfl
  | true =>
   rw [Ze,YH,Zn]
   intro p hpm
   rw [decide_eq_true_eq]
   have hc : h.stream.contains (spG g e) = true:=by rw [← posS_pos]; exact hp
   obtain ⟨k,hkx⟩:=Zz (Zp.1 hc)
   have hpos:=posS_at hnd hkx
   rw [posE_eq,hpos]
   obtain ⟨_,g',hg',e',he',ho',heq,hpr⟩:=okSp_acc hR h3 (hk k _ hkx)
   injection heq with q1 q2
   have:=hR.same hg hg' q1
   subst this
   have:=ev_same (hR.gg hg).srt he he' q2
   subst this
   cases hop : okI g p with
   | true =>
    have:=hpr p hpm hop
    rw [posS_take hnd (by have:=(Zr.1 hkx).1; omega),decide_eq_true_eq] at this
    omega
   | false =>
    have hph : Gm.hasId g.events p = true:=by
     have:=(hR.gg hg).ain e he
     unfold Gm.allIn at this
     exact (Zn.1 this) p hpm
    obtain ⟨e2,he2,hei⟩:=Gm.fid_get hph
    have h5:=hok g hg e2 (Zf he2)
    rw [hei,hop,posE_eq] at h5
    have h6 : ¬ (posS h.stream (spG g e2) > 0):=fun q=>by rw [decide_eq_true q] at h5; cases h5
    have : spG g e2 = ⟨g.room,p⟩:=by unfold spG; rw [hei]
    rw [this] at h6
    omega
 ·rw [← lefts_cnt hok,hl]
theorem right_back {h : Hb} (hh : HbOK h) (h3 : h.rooms.length = 3) (hrm : rmOK h.rooms = true) (hnd : ndS h.stream = true) (hs : strS h = true) (hc : cntS h.stream h.rooms = h.stream.length) : stOK h.rooms h.stream = true ∧ lefts h.rooms = h.stream.length:=by
 have hR:=RmG.of hh hrm
 have hs:=strS_at.1 hs
 have hN:=nd_nodup hnd
 have hok : ∀ g ∈ h.rooms,∀ e ∈ g.events,(okI g e.id == decide (posE h.stream g e > 0)) = true:=fun g hg e he=>by
  have:=hs g hg e he
  unfold strE at this
  rw [Zq] at this
  exact this.1
 have hsub : ∀ x ∈ h.stream,(allS h.rooms).contains x = true:=by
  refine filter_all_of_len ?_
  rw [← two_ways (allS_nodup hR) hN,allS_cnt,hc]
 refine ⟨stOK_at.2 fun k x hx=>?_,by rw [lefts_cnt hok,hc]⟩
 have hkl:=(Zr.1 hx).1
 obtain ⟨g,hg,e,he,rfl⟩:=mem_allS.1 (Zp.1 (hsub x (Zf hx)))
 obtain ⟨i,hi⟩:=Zz hg
 have hil:=(Zr.1 hi).1
 have hr:=(hR i g hi).2
 have hpos:=posS_at hnd hx
 have hga : gAt h.rooms g.room = g:=by rw [hr]; exact gAt_of hi
 have h1:=hnd
 have hat:=at_mem (hR.gg hg).srt he
 have hpe : posE h.stream g e = (k : Int) + 1:=hpos
 have hoi : okI g e.id = true:=by
  have:=hok g hg e he
  rw [hpe,decide_eq_true (by omega)] at this
  exact eq_of_beq this
 unfold okSp
 show (Gm.isB g.room 1 3 && (!(h.stream.take k).contains (spG g e) && ((atE (gAt h.rooms g.room).events e.id).isSome && (okI (gAt h.rooms g.room) e.id && !((atE (gAt h.rooms g.room).events e.id).getD zE).prev.any fun id=>okI (gAt h.rooms g.room) id && !(h.stream.take k).contains ⟨g.room,id⟩)))) = true
 have hb : Gm.isB g.room 1 3 = true:=by unfold Gm.isB; simp; omega
 rw [hga,hat,hoi,hb,ndS_at.1 hnd k _ hx,YG]
 have ha : (e.prev.any fun id=>okI g id && !(h.stream.take k).contains ⟨g.room,id⟩) = false:=by
  rw [ZT]
  intro p hpm
  cases hop : okI g p with
  | false=>simp
  | true =>
   have hph : Gm.hasId g.events p = true:=by
    have:=(hR.gg hg).ain e he
    unfold Gm.allIn at this
    exact (Zn.1 this) p hpm
   obtain ⟨e2,he2,hei⟩:=Gm.fid_get hph
   have h5:=hok g hg e2 (Zf he2)
   rw [hei,hop,posE_eq,show spG g e2 = ⟨g.room,p⟩ by unfold spG; rw [hei]] at h5
   have h6 : posS h.stream ⟨g.room,p⟩ > 0:=of_decide_eq_true (eq_of_beq h5).symm
   have h7:=hs g hg e he
   unfold strE strB at h7
   rw [hpe,decide_eq_true (show (k : Int) + 1 > 0 by omega),Zq,Ze,YH,Zn] at h7
   have h8:=of_decide_eq_true (h7.2 p hpm)
   rw [posS_take hnd (by omega),decide_eq_true (show 0 < posS h.stream ⟨g.room,p⟩ ∧ posS h.stream ⟨g.room,p⟩ ≤ k by omega)]
   simp
 rw [ha]; rfl
def rightI (h : Hb) : Bool:=decide (h.rooms.length = 3) && (decide (h.stream.length ≤ 120) && (rmOK h.rooms && (stOK h.rooms h.stream && (lefts h.rooms == h.stream.length))))
theorem right_same {h : Hb} (hh : HbOK h) : rightI h = rightS h:=by
 unfold rightI rightS
 by_cases h3 : h.rooms.length = 3
 ·by_cases h120 : h.stream.length ≤ 120
  ·cases hrm : rmOK h.rooms with
   | false=>rfl
   | true =>
    congr 3
    rw [ZC]
    simp only [Zq,beq_iff_eq]
    constructor
    ·rintro ⟨a,b⟩; exact right_go hh h3 hrm a b
    ·rintro ⟨a,b,c⟩; exact right_back hh h3 hrm a b c
  ·rw [decide_eq_false h120]; rfl
 ·rw [decide_eq_false h3]; rfl
theorem nsR_yes {h : Hb} (hr : rightI h = true) : nsR h = .tup [srvV h,.bool true]:=by
 unfold rightI at hr
 simp only [Zq] at hr
 obtain ⟨a,b,c,d,e⟩:=hr
 unfold nsR
 rw [a,b,c,d,e]; rfl
theorem nsR_no {h : Hb} (hr : rightI h = false) : ∃ v,nsR h = .tup [v,.bool false] ∧ Ref (fun _=>False) v:=by
 unfold nsR
 split
 ·rename_i hc
  simp only [Zq] at hc
  obtain ⟨a,b,c,d⟩:=hc
  unfold rightI at hr
  rw [a,b,c,d,Zh,Zh,Zh,Zh] at hr
  exact ⟨_,by rw [hr],srvV_ref _ h⟩
 ·exact ⟨_,rfl,trivial⟩
section
variable {P : Program} [Is P]
theorem c_sHubRight (h : Hb) (hh : HbOK h) : Con P 27 [.agg (encHb h)] (.bool (rightS h)):=by
 have hr:=c_l07Right (P:=P) h hh
 have hrr:=rtR_ref (fun _=>False) h
 refine Con.of (n:=11) (rs:=[.tmp 2]) (Is.fn Tryz.func27) rfl (Is.call Tryz.call27) Tryz.results27 Tryz.ntmps27 trivial ?_
 simp only [method_specs_simp,seval,encHb]
 refine clY.con hr (by simp only [method_specs_simp,encHb]) ?_
 unfold rtR
 cases hb : rightS h with
 | true =>
  rw [if_pos rfl]
  simp only [method_specs_simp,seval,encHb]
 | false =>
  rw [if_neg (by decide)]
  simp only [method_specs_simp,seval,encHb]
end
theorem right_nd {h : Hb} (hr : rightS h = true) : ndS h.stream = true ∧ h.stream.length ≤ 120 ∧ h.rooms.length = 3 ∧ rmOK h.rooms = true:=by
 unfold rightS at hr
 simp only [Zq,decide_eq_true_eq] at hr
 exact ⟨hr.2.2.2.1,hr.2.1,hr.1,hr.2.2.1⟩
def posOf (h : Hb) (x : Sp) : Int:=if rightS h then posS h.stream x else 0
def hidE (id : Int) (e : Ev) : Bool:=e.kind == 8 && e.key == id
def hidX (g : Gr) (id : Int) (x : Sp) : Bool:=x.room == g.room && hidE id ((atE g.events x.id).getD zE)
def hidI (h : Hb) (g : Gr) (id : Int) : Int:=((h.stream.find? (hidX g id)).map (·.id)).getD 0
def hidF (s : List Sp) (g : Gr) (id : Int) (b : Int × Int) (e : Ev) : Int × Int:=if hidE id e && (decide (posE s g e > 0) && (b.1 == 0 || decide (posE s g e < b.2))) then (e.id,posE s g e) else b
def hidS (s : List Sp) (g : Gr) (id : Int) (l : List Ev) : Int × Int:=l.foldl (hidF s g id) (0,0)
def candE (s : List Sp) (g : Gr) (id : Int) (e : Ev) : Prop:=hidE id e = true ∧ posE s g e > 0
def hidOf (h : Hb) (room id : Int) : Int:=if rightS h && Gm.isB room 1 3 then hidI h (gAt h.rooms room) id else 0
theorem gAt_in {h : Hb} (hh : HbOK h) (hr : rightS h = true) {room : Int} (hb : Gm.isB room 1 3 = true) : gAt h.rooms room ∈ h.rooms ∧ (gAt h.rooms room).room = room:=by
 obtain ⟨hnd,h120,h3,hrm⟩:=right_nd hr
 have hR:=RmG.of hh hrm
 obtain ⟨b1,b2⟩ : 1 ≤ room ∧ room ≤ 3:=by unfold Gm.isB at hb; simpa using hb
 obtain ⟨g,hg⟩ : ∃ g,h.rooms[(room - 1).toNat]? = some g:=⟨_,Zb (by omega)⟩
 have hga : gAt h.rooms room = g:=by
  have:=gAt_of hg
  rwa [show (((room - 1).toNat : Int) + 1) = room by omega] at this
 rw [hga]
 exact ⟨Zf hg,by have:=(hR _ g hg).2; omega⟩
section
variable {P : Program} [Is P]
theorem c_l08Room (room : Int) : Con P 12 [.int .i64 room] (.bool (Gm.isB room 1 3)):=by
 refine Con.of (n:=5) (rs:=[.tmp 2]) (Is.fn Tryz.func12) rfl (Is.call Tryz.call12) Tryz.results12 Tryz.ntmps12 trivial ?_
 simp only [method_specs_simp,seval]
 refine clY.con (c_l02Is room 1 3) (by simp only [method_specs_simp]) ?_
 simp only [method_specs_simp,seval]
end
structure Lt where
 kind : Int
 src : Int
 dst : Int
 room : Int
 text : ByteArray
structure Ps where
 hubs : List Hb
 letters : List Lt
def encLt (x : Lt) : List V:=[.int .i64 x.kind,.int .i64 x.src,.int .i64 x.dst,.int .i64 x.room,.str x.text]
def encPs (p : Ps) : List V:=[.sl 2 (p.hubs.map encHb),.sl 5 (p.letters.map encLt)]
theorem encLt_ref1 (ok : Nat → Prop) (x : Lt) : Refs ok (encLt x):=by simp only [encLt,Refs,Ref,and_self]
@[method_specs_simp] theorem encLt_refs (ok : Nat → Prop) (xs : List Lt) : Refss ok (xs.map encLt) = True:=eq_true (Refss_map fun a=>encLt_ref1 ok a)
@[method_specs_simp] theorem encLt_rens (ρ : Nat → Nat) (xs : List Lt) : renss ρ (xs.map encLt) = xs.map encLt:=renss_map fun a=>encLt_ref1 _ a
@[method_specs_simp] theorem encHb_refs (ok : Nat → Prop) (xs : List Hb) : Refss ok (xs.map encHb) = True:=eq_true (Refss_map fun a=>encHb_ref1 ok a)
@[method_specs_simp] theorem encHb_rens (ρ : Nat → Nat) (xs : List Hb) : renss ρ (xs.map encHb) = xs.map encHb:=renss_map fun a=>encHb_ref1 _ a
theorem encLt_len (xs : List Lt) : (∀ z ∈ xs.map encLt,z.length = 5) = True:=eq_true fun z hz=>by
 obtain ⟨a,_,rfl⟩:=ZB.1 hz; rfl
theorem encLt_one1 (m : List Ob) (e : Lt) : ∀ z ∈ encLt e,oneV m z = true:=fun z hz=>by
 simp only [encLt,ZJ,Yo,or_false] at hz
 rcases hz with rfl | rfl | rfl | rfl | rfl <;> rfl
theorem encLt_one (m : List Ob) (xs : List Lt) : (∀ z ∈ (xs.map encLt).flatten,oneV m z = true) = True:=eq_true fun z hz=>by
 obtain ⟨l,hl,hz⟩:=Yg.1 hz
 obtain ⟨a,_,rfl⟩:=ZB.1 hl
 exact encLt_one1 m a z hz
attribute [method_specs_simp ↓] encLt_len encLt_one
theorem encPs_ref1 (ok : Nat → Prop) (p : Ps) : Refs ok (encPs p):=by simp only [encPs,Refs,Ref,encHb_refs,encLt_refs,and_self]
def HbsOK (l : List Hb) : Prop:=l.length * 48 ≤ 2 ^ 47 ∧ ∀ h ∈ l,HbOK h
def LtsOK (l : List Lt) : Prop:=l.length * 48 ≤ 2 ^ 47 ∧ ∀ x ∈ l,x.text.size < 2 ^ 50
def PsOK (p : Ps) : Prop:=HbsOK p.hubs ∧ LtsOK p.letters
def wHs : List Hb → Int
 | []=>0
 | g :: l=>wH g + wHs l
theorem wHs_nn : ∀ l : List Hb,0 ≤ wHs l
 | []=>YF _
 | g :: l=>by have:=wH_nn g; have:=wHs_nn l; unfold wHs; omega
def wL (x : Lt) : Int:=x.text.size
theorem wL_nn (x : Lt) : 0 ≤ wL x:=by unfold wL; omega
def wLs : List Lt → Int
 | []=>0
 | g :: l=>wL g + wLs l
theorem wLs_nn : ∀ l : List Lt,0 ≤ wLs l
 | []=>YF _
 | g :: l=>by have:=wL_nn g; have:=wLs_nn l; unfold wLs; omega
def wP (p : Ps) : Int:=(p.hubs.length + wHs p.hubs) + (p.letters.length + wLs p.letters)
def zHb : List V:=[.nil,.nil]
def zLt : List V:=[.int .i64 0,.int .i64 0,.int .i64 0,.int .i64 0,.str ByteArray.empty]
@[method_specs_simp] theorem rowH_refs (ok : Nat → Prop) (xs : List Hb) (k : Nat) : Refss ok (rowZ encHb zHb xs k) = True:=eq_true (rowZ_refs (fun x=>encHb_ref1 ok x) (by simp [zHb,Refs,Ref]) xs k)
@[method_specs_simp] theorem rowH_rens (ρ : Nat → Nat) (xs : List Hb) (k : Nat) : renss ρ (rowZ encHb zHb xs k) = rowZ encHb zHb xs k:=rowZ_rens (fun x=>encHb_ref1 _ x) (by simp [zHb,Refs,Ref]) xs k
@[method_specs_simp] theorem rowL_refs (ok : Nat → Prop) (xs : List Lt) (k : Nat) : Refss ok (rowZ encLt zLt xs k) = True:=eq_true (rowZ_refs (fun x=>encLt_ref1 ok x) (by simp [zLt,Refs,Ref]) xs k)
@[method_specs_simp] theorem rowL_rens (ρ : Nat → Nat) (xs : List Lt) (k : Nat) : renss ρ (rowZ encLt zLt xs k) = rowZ encLt zLt xs k:=rowZ_rens (fun x=>encLt_ref1 _ x) (by simp [zLt,Refs,Ref]) xs k
section
variable {P : Program} [Is P]
theorem c_szHubS (xs : List Hb) (l : Int) (h0 : 0 ≤ l) (h1 : l ≤ 1048576) (hx : HbsOK xs) : Con P 9 [.sl 2 (xs.map encHb),.int .i64 l] (.int .i64 (sb l (xs.length + wHs xs))):=by
 have hx1:=hx.1
 have w1 : IntKind.i64.wrap (l - xs.length) = l - xs.length:=wrap_id (by omega) (by omega)
 refine Con.of (n:=27) (rs:=[.tmp 4]) (Is.fn Tryz.func9) rfl (Is.call Tryz.call9) Tryz.results9 Tryz.ntmps9 trivial ?_
 simp only [method_specs_simp,seval]
 rw [w1]
 refine gB_split (fun h=>?_) (fun h=>?_)
 ·simp only [decide_eq_true_eq] at h; rw [sb_neg h (wHs_nn xs)]
 ·simp only [decide_eq_false_iff_not,Ze] at h
  refine SW.while (A:=Nat × Int) (fun a=>⟨pad 27 [.sl 2 (xs.map encHb),.int .i64 a.2,.junk,.junk,.int .i64 0,.int .i64 a.1],[],[]⟩) (fun a=>xs.length - a.1)
   (fun a=>a.1 ≤ xs.length ∧ 0 ≤ a.2 ∧ a.2 ≤ 1048576 ∧ sb l (xs.length + wHs xs) = sb a.2 (wHs (xs.drop a.1))) (0,l - xs.length) [] ⟨Zg _,by simp only; omega,by simp only; omega,?_⟩ ?_ ?_
  ·simp only [Yb]; rw [sb_sb (by omega) (wHs_nn xs)]
  ·simp only [mvcgen_simp,method_specs_simp,seval]
  ·rintro ⟨k,r⟩ ⟨hk,hr0,hr1,hr⟩
   simp only at hk hr0 hr1 hr
   rw [hr]
   refine CW.sound ?_
   simp only [method_specs_simp,seval]
   refine gB_split (fun h=>?_) (fun h=>?_)
   ·simp only [decide_eq_true_eq,Za] at h
    have hxk : xs[k]? = some xs[k]:=Zb h
    have hOK:=hx.2 _ (ZD h)
    generalize xs[k] = x at hxk hOK
    simp only [Zt,hxk,method_specs_simp]
    refine ⟨by omega,by omega,by simp [encHb],?_⟩
    rw [show Zw 2 (encHb x) = encHb x from rfl]
    refine clY.con (c_szHub x r hr0 hr1 hOK) (by simp only [method_specs_simp,encHb]) ?_
    simp only [method_specs_simp,seval]
    rw [drop_cons hxk,wHs]
    have hn:=wHs_nn (xs.drop (k + 1))
    have hw:=wH_nn x
    refine gB_split (fun h'=>?_) (fun h'=>?_)
    ·simp only [decide_eq_true_eq] at h'
     have h2 : r - wH x < 0:=by unfold sb at h'; split at h' <;> omega
     rw [sb_neg h2 hn]
    ·simp only [decide_eq_false_iff_not,Ze] at h'
     have h2 : 0 ≤ r - wH x:=by unfold sb at h'; split at h' <;> omega
     rw [wrap_id (by omega) (by omega),sb_ge h2]
     refine Again.mk (k + 1,r - wH x) [] ⟨h,h2,by simp only; omega,?_⟩ (Zc h (Zd _)) ?_
     ·exact (sb_sb h2 hn).symm
     ·simp only [method_specs_simp,seval]
   ·simp only [decide_eq_false_iff_not,Ze,Za] at h
    rw [ZA (by omega),wHs,sb_ge (by omega)]
    simp
theorem c_szLetter (x : Lt) (l : Int) (h0 : 0 ≤ l) (h1 : l ≤ 1048576) (hx : x.text.size < 2 ^ 50) : Con P 26 [.agg (encLt x),.int .i64 l] (.int .i64 (sb l (wL x))):=by
 refine Con.of (n:=13) (rs:=[.tmp 4]) (Is.fn Tryz.func26) rfl (Is.call Tryz.call26) Tryz.results26 Tryz.ntmps26 trivial ?_
 simp only [method_specs_simp,seval]
 simp only [method_specs_simp,seval,encLt]
 rw [wrap_id (by omega) (by omega)]
 refine gB_split (fun h=>?_) (fun h=>?_)
 ·simp only [decide_eq_true_eq] at h; rw [wL,sb_lt h]
 ·simp only [decide_eq_false_iff_not,Ze] at h
  rw [wL,sb_ge (by omega)]
theorem c_szLetterS (xs : List Lt) (l : Int) (h0 : 0 ≤ l) (h1 : l ≤ 1048576) (hx : LtsOK xs) : Con P 10 [.sl 5 (xs.map encLt),.int .i64 l] (.int .i64 (sb l (xs.length + wLs xs))):=by
 have hx1:=hx.1
 have w1 : IntKind.i64.wrap (l - xs.length) = l - xs.length:=wrap_id (by omega) (by omega)
 refine Con.of (n:=27) (rs:=[.tmp 4]) (Is.fn Tryz.func10) rfl (Is.call Tryz.call10) Tryz.results10 Tryz.ntmps10 trivial ?_
 simp only [method_specs_simp,seval]
 rw [w1]
 refine gB_split (fun h=>?_) (fun h=>?_)
 ·simp only [decide_eq_true_eq] at h; rw [sb_neg h (wLs_nn xs)]
 ·simp only [decide_eq_false_iff_not,Ze] at h
  refine SW.while (A:=Nat × Int) (fun a=>⟨pad 27 [.sl 5 (xs.map encLt),.int .i64 a.2,.junk,.junk,.int .i64 0,.int .i64 a.1],[],[]⟩) (fun a=>xs.length - a.1)
   (fun a=>a.1 ≤ xs.length ∧ 0 ≤ a.2 ∧ a.2 ≤ 1048576 ∧ sb l (xs.length + wLs xs) = sb a.2 (wLs (xs.drop a.1))) (0,l - xs.length) [] ⟨Zg _,by simp only; omega,by simp only; omega,?_⟩ ?_ ?_
  ·simp only [Yb]; rw [sb_sb (by omega) (wLs_nn xs)]
  ·simp only [mvcgen_simp,method_specs_simp,seval]
  ·rintro ⟨k,r⟩ ⟨hk,hr0,hr1,hr⟩
   simp only at hk hr0 hr1 hr
   rw [hr]
   refine CW.sound ?_
   simp only [method_specs_simp,seval]
   refine gB_split (fun h=>?_) (fun h=>?_)
   ·simp only [decide_eq_true_eq,Za] at h
    have hxk : xs[k]? = some xs[k]:=Zb h
    have hOK:=hx.2 _ (ZD h)
    generalize xs[k] = x at hxk hOK
    simp only [Zt,hxk,method_specs_simp]
    refine ⟨by omega,by omega,by simp [encLt],?_⟩
    rw [show Zw 5 (encLt x) = encLt x from rfl]
    refine clY.con (c_szLetter x r hr0 hr1 hOK) (by simp only [method_specs_simp,encLt]) ?_
    simp only [method_specs_simp,seval]
    rw [drop_cons hxk,wLs]
    have hn:=wLs_nn (xs.drop (k + 1))
    have hw:=wL_nn x
    refine gB_split (fun h'=>?_) (fun h'=>?_)
    ·simp only [decide_eq_true_eq] at h'
     have h2 : r - wL x < 0:=by unfold sb at h'; split at h' <;> omega
     rw [sb_neg h2 hn]
    ·simp only [decide_eq_false_iff_not,Ze] at h'
     have h2 : 0 ≤ r - wL x:=by unfold sb at h'; split at h' <;> omega
     rw [wrap_id (by omega) (by omega),sb_ge h2]
     refine Again.mk (k + 1,r - wL x) [] ⟨h,h2,by simp only; omega,?_⟩ (Zc h (Zd _)) ?_
     ·exact (sb_sb h2 hn).symm
     ·simp only [method_specs_simp,seval]
   ·simp only [decide_eq_false_iff_not,Ze,Za] at h
    rw [ZA (by omega),wLs,sb_ge (by omega)]
    simp
theorem c_szPeers (p : Ps) (l : Int) (h0 : 0 ≤ l) (h1 : l ≤ 1048576) (hp : PsOK p) : Con P 4 [.agg (encPs p),.int .i64 l] (.int .i64 (sb l (wP p))):=by
 have n1:=wHs_nn p.hubs
 have n2:=wLs_nn p.letters
 refine Con.of (n:=18) (rs:=[.tmp 4]) (Is.fn Tryz.func4) rfl (Is.call Tryz.call4) Tryz.results4 Tryz.ntmps4 trivial ?_
 simp only [method_specs_simp,seval]
 simp only [method_specs_simp,seval,encPs]
 refine clY.con (c_szHubS p.hubs l h0 h1 hp.1) (by simp only [method_specs_simp]) ?_
 simp only [method_specs_simp,seval]
 refine gB_split (fun h'=>?_) (fun h'=>?_)
 ·simp only [decide_eq_true_eq] at h'
  have h2 : l - (p.hubs.length + wHs p.hubs) < 0:=by unfold sb at h'; split at h' <;> omega
  rw [wP,sb_neg h2 (by omega)]
 ·simp only [decide_eq_false_iff_not,Ze] at h'
  have h2 : 0 ≤ l - (p.hubs.length + wHs p.hubs):=by unfold sb at h'; split at h' <;> omega
  rw [sb_ge h2]
  refine clY.con (c_szLetterS p.letters (l - (p.hubs.length + wHs p.hubs)) h2 (by omega) hp.2) (by simp only [method_specs_simp]) ?_
  simp only [method_specs_simp,seval]
  rw [sb_sb h2 (by omega),← wP]
  refine gB_split (fun h=>?_) (fun h=>?_)
  ·simp only [decide_eq_true_eq] at h
   have : sb l (wP ‹Ps›) = -1:=by unfold sb at h ⊢; split at h <;> simp_all
   rw [this]
  ·trivial
theorem c_toHubS (xs : List Hb) (hx : HbsOK xs) : Con P 14 [.sl 2 (xs.map encHb)] (.sl 2 (xs.map encHb)):=by
 have hx1:=hx.1
 refine Con.of (n:=23) (rs:=[.tmp 2]) (Is.fn Tryz.func14) rfl (Is.call Tryz.call14) Tryz.results14 Tryz.ntmps14 (by simp only [method_specs_simp]) ?_
 simp only [method_specs_simp,seval]
 refine ⟨by omega,by omega,by omega,?_⟩
 refine SW.while (A:=Nat) (fun k=>⟨pad 23 [.sl 2 (xs.map encHb),.junk,.nil,.ar 0 0 xs.length,.int .i64 k],[.arr true 2 (rowZ encHb zHb xs k)],[]⟩) (fun k=>xs.length - k) (fun k=>k ≤ xs.length) 0 [0] (Zg _) ?_ ?_
 ·have ez : ZI xs.length [V.nil,.nil] = rowZ encHb zHb xs 0:=(rowZ_zero _ _ _).symm
  rw [ez]
  simp only [mvcgen_simp,method_specs_simp,seval]
 ·intro k hk
  refine CW.sound ?_
  simp only [method_specs_simp,seval]
  refine gB_split (fun h=>?_) (fun h=>?_)
  ·simp only [decide_eq_true_eq,Za] at h
   have hxk : xs[k]? = some xs[k]:=Zb h
   have hOK:=hx.2 _ (ZD h)
   generalize xs[k] = x at hxk hOK
   simp only [Zt,hxk,method_specs_simp,seval]
   refine ⟨by omega,by omega,by simp [encHb],?_⟩
   rw [show Zw 2 (encHb x) = encHb x from rfl]
   refine clY.con (c_toHub x hOK) (by simp only [method_specs_simp,encHb]) ?_
   simp only [method_specs_simp,seval]
   rw [rowZ_get h]
   refine ⟨by omega,by omega,by rw [rowZ_length hk]; exact h,by simp [encHb,oneV],rfl,by simp [encHb],?_⟩
   rw [wrap_id (by omega) (by omega),show encHb x ++ ZH (encHb x).length zHb = encHb x from rfl,rowZ_set hxk]
   refine Again.mk (k + 1) [0] h (Zc h (Zd _)) ?_
   simp only [mvcgen_simp,method_specs_simp,seval]
  ·simp only [decide_eq_false_iff_not,Ze,Za] at h
   have hi : k = xs.length:=by omega
   subst hi
   rw [rowZ_all]
   simp only [method_specs_simp,seval]
theorem c_toLetter (x : Lt) (hx : x.text.size < 2 ^ 50) : Con P 32 [.agg (encLt x)] (.agg (encLt x)):=by
 refine Con.of (n:=20) (rs:=[.cell 2 79]) (Is.fn Tryz.func32) rfl (Is.call Tryz.call32) Tryz.results32 Tryz.ntmps32 (encLt_ref1 _ x) ?_
 simp only [method_specs_simp,seval]
 simp only [method_specs_simp,seval,encLt]
 try rfl
theorem c_toLetterS (xs : List Lt) (hx : LtsOK xs) : Con P 15 [.sl 5 (xs.map encLt)] (.sl 5 (xs.map encLt)):=by
 have hx1:=hx.1
 refine Con.of (n:=23) (rs:=[.tmp 2]) (Is.fn Tryz.func15) rfl (Is.call Tryz.call15) Tryz.results15 Tryz.ntmps15 (by simp only [method_specs_simp]) ?_
 simp only [method_specs_simp,seval]
 refine ⟨by omega,by omega,by omega,?_⟩
 refine SW.while (A:=Nat) (fun k=>⟨pad 23 [.sl 5 (xs.map encLt),.junk,.nil,.ar 0 0 xs.length,.int .i64 k],[.arr true 5 (rowZ encLt zLt xs k)],[]⟩) (fun k=>xs.length - k) (fun k=>k ≤ xs.length) 0 [0] (Zg _) ?_ ?_
 ·have ez : ZI xs.length [V.int .i64 0,.int .i64 0,.int .i64 0,.int .i64 0,.str ByteArray.empty] = rowZ encLt zLt xs 0:=(rowZ_zero _ _ _).symm
  rw [ez]
  simp only [mvcgen_simp,method_specs_simp,seval]
 ·intro k hk
  refine CW.sound ?_
  simp only [method_specs_simp,seval]
  refine gB_split (fun h=>?_) (fun h=>?_)
  ·simp only [decide_eq_true_eq,Za] at h
   have hxk : xs[k]? = some xs[k]:=Zb h
   have hOK:=hx.2 _ (ZD h)
   generalize xs[k] = x at hxk hOK
   simp only [Zt,hxk,method_specs_simp,seval]
   refine ⟨by omega,by omega,by simp [encLt],?_⟩
   rw [show Zw 5 (encLt x) = encLt x from rfl]
   refine clY.con (c_toLetter x hOK) (by simp only [method_specs_simp,encLt]) ?_
   simp only [method_specs_simp,seval]
   rw [rowZ_get h]
   refine ⟨by omega,by omega,by rw [rowZ_length hk]; exact h,by simp [encLt,oneV],rfl,by simp [encLt],?_⟩
   rw [wrap_id (by omega) (by omega),show encLt x ++ ZH (encLt x).length zLt = encLt x from rfl,rowZ_set hxk]
   refine Again.mk (k + 1) [0] h (Zc h (Zd _)) ?_
   simp only [mvcgen_simp,method_specs_simp,seval]
  ·simp only [decide_eq_false_iff_not,Ze,Za] at h
   have hi : k = xs.length:=by omega
   subst hi
   rw [rowZ_all]
   simp only [method_specs_simp,seval]
theorem c_toPeers (p : Ps) (hp : PsOK p) : Con P 6 [.agg (encPs p)] (.agg (encPs p)):=by
 refine Con.of (n:=13) (rs:=[.cell 2 31]) (Is.fn Tryz.func6) rfl (Is.call Tryz.call6) Tryz.results6 Tryz.ntmps6 (encPs_ref1 _ p) ?_
 simp only [method_specs_simp,seval]
 simp only [method_specs_simp,seval,encPs]
 refine clY.con (c_toHubS p.hubs hp.1) (by simp only [method_specs_simp]) ?_
 simp only [method_specs_simp,seval]
 refine clY.con (c_toLetterS p.letters hp.2) (by simp only [method_specs_simp]) ?_
 simp only [method_specs_simp,seval]
 try rfl
theorem c_eqHubS (xs : List Hb) (hx : HbsOK xs) : Con P 23 [.sl 2 (xs.map encHb),.sl 2 (xs.map encHb)] (.bool true):=by
 have e5 : ∀ a : Int,(a != a) = false:=fun a=>by simp
 have hx1:=hx.1
 refine Con.of (n:=27) (rs:=[.tmp 4]) (Is.fn Tryz.func23) rfl (Is.call Tryz.call23) Tryz.results23 Tryz.ntmps23 trivial ?_
 simp only [method_specs_simp,seval]
 simp only [method_specs_simp,seval,e5]
 refine SW.while (A:=Nat) (fun k=>⟨pad 27 [.sl 2 (xs.map encHb),.sl 2 (xs.map encHb),.junk,.junk,.bool false,.int .i64 k],[],[]⟩) (fun k=>xs.length - k) (fun k=>k ≤ xs.length) 0 [] (Zg _) ?_ ?_
 ·simp only [mvcgen_simp,method_specs_simp,seval]
 ·intro k hk
  refine CW.sound ?_
  simp only [method_specs_simp,seval]
  refine gB_split (fun h=>?_) (fun h=>?_)
  ·simp only [decide_eq_true_eq,Za] at h
   have hxk : xs[k]? = some xs[k]:=Zb h
   have hOK:=hx.2 _ (ZD h)
   generalize xs[k] = x at hxk hOK
   simp only [Zt,hxk,method_specs_simp,seval]
   refine ⟨by kernel_rfl,by omega,by omega,by simp [encHb],by omega,by omega,by simp [encHb],?_⟩
   rw [show Zw 2 (encHb x) = encHb x from rfl]
   refine clY.con (c_eqHub x hOK) (by simp only [method_specs_simp,encHb]) ?_
   simp only [method_specs_simp,seval]
   rw [wrap_id (by omega) (by omega)]
   refine Again.mk (k + 1) [] h (Zc h (Zd _)) ?_
   simp only [mvcgen_simp,method_specs_simp,seval]
  ·trivial
theorem c_eqLetter (x : Lt) (hx : x.text.size < 2 ^ 50) : Con P 42 [.agg (encLt x),.agg (encLt x)] (.bool true):=by
 have e5 : ∀ a : Int,(a != a) = false:=fun a=>by simp
 have e6 : (x.text.toList == x.text.toList) = true:=beq_self_eq_true _
 refine Con.of (n:=30) (rs:=[.tmp 4]) (Is.fn Tryz.func42) rfl (Is.call Tryz.call42) Tryz.results42 Tryz.ntmps42 trivial ?_
 simp only [method_specs_simp,seval]
 simp only [method_specs_simp,seval,encLt,e5,e6]
theorem c_eqLetterS (xs : List Lt) (hx : LtsOK xs) : Con P 24 [.sl 5 (xs.map encLt),.sl 5 (xs.map encLt)] (.bool true):=by
 have e5 : ∀ a : Int,(a != a) = false:=fun a=>by simp
 have hx1:=hx.1
 refine Con.of (n:=27) (rs:=[.tmp 4]) (Is.fn Tryz.func24) rfl (Is.call Tryz.call24) Tryz.results24 Tryz.ntmps24 trivial ?_
 simp only [method_specs_simp,seval]
 simp only [method_specs_simp,seval,e5]
 refine SW.while (A:=Nat) (fun k=>⟨pad 27 [.sl 5 (xs.map encLt),.sl 5 (xs.map encLt),.junk,.junk,.bool false,.int .i64 k],[],[]⟩) (fun k=>xs.length - k) (fun k=>k ≤ xs.length) 0 [] (Zg _) ?_ ?_
 ·simp only [mvcgen_simp,method_specs_simp,seval]
 ·intro k hk
  refine CW.sound ?_
  simp only [method_specs_simp,seval]
  refine gB_split (fun h=>?_) (fun h=>?_)
  ·simp only [decide_eq_true_eq,Za] at h
   have hxk : xs[k]? = some xs[k]:=Zb h
   have hOK:=hx.2 _ (ZD h)
   generalize xs[k] = x at hxk hOK
   simp only [Zt,hxk,method_specs_simp,seval]
   refine ⟨by kernel_rfl,by omega,by omega,by simp [encLt],by omega,by omega,by simp [encLt],?_⟩
   rw [show Zw 5 (encLt x) = encLt x from rfl]
   refine clY.con (c_eqLetter x hOK) (by simp only [method_specs_simp,encLt]) ?_
   simp only [method_specs_simp,seval]
   rw [wrap_id (by omega) (by omega)]
   refine Again.mk (k + 1) [] h (Zc h (Zd _)) ?_
   simp only [mvcgen_simp,method_specs_simp,seval]
  ·trivial
theorem c_eqPeers (p : Ps) (hp : PsOK p) : Con P 8 [.agg (encPs p),.agg (encPs p)] (.bool true):=by
 refine Con.of (n:=17) (rs:=[.tmp 4]) (Is.fn Tryz.func8) rfl (Is.call Tryz.call8) Tryz.results8 Tryz.ntmps8 trivial ?_
 simp only [method_specs_simp,seval]
 simp only [method_specs_simp,seval,encPs]
 refine clY.con (c_eqHubS p.hubs hp.1) (by simp only [method_specs_simp]) ?_
 simp only [method_specs_simp,seval]
 refine clY.con (c_eqLetterS p.letters hp.2) (by simp only [method_specs_simp]) ?_
 simp only [method_specs_simp,seval]
end
def sRow1 (h : Hb) : List V:=[srvV h]
theorem sRow1_ref (ok : Nat → Prop) (h : Hb) : Refs ok (sRow1 h):=⟨srvV_ref ok h,trivial⟩
@[method_specs_simp] theorem sRow1_refs (ok : Nat → Prop) (xs : List Hb) : Refss ok (xs.map sRow1) = True:=eq_true (Refss_map fun a=>sRow1_ref ok a)
@[method_specs_simp] theorem sRow1_rens (ρ : Nat → Nat) (xs : List Hb) : renss ρ (xs.map sRow1) = xs.map sRow1:=renss_map fun a=>sRow1_ref _ a
def netV (p : Ps) : V:=.fptr [.sl 1 (p.hubs.map sRow1),.sl 5 (p.letters.map encLt)] 0
theorem netV_ref (ok : Nat → Prop) (p : Ps) : Ref ok (netV p):=by
 simp only [netV,Ref,Refs,sRow1_refs,encLt_refs,and_self]
def hasP (p : Ps) (at_ : Int) : Bool:=Gm.isB at_ 0 ((p.hubs.length : Int) - 1)
def twoP (p : Ps) (a b : Int) : Bool:=hasP p a && (hasP p b && (a != b))
def badL (p : Ps) (x : Lt) : Bool:=((x.kind != 1) && (x.kind != 2)) || (!twoP p x.src x.dst || (!Gm.isB x.room 1 3 || decide ((x.text.size : Int) > 8000)))
def psRight (p : Ps) : Bool:=(p.hubs.all rightS) && (Gm.isB p.hubs.length 1 4 && (decide ((p.letters.length : Int) ≤ 60) && !p.letters.any (badL p)))
section
variable {P : Program} [Is P]
theorem n_cloneL (xs : List Lt) (hx : xs.length * 48 ≤ 2 ^ 47) : NCon P 33 [.sl 5 (xs.map encLt)] (.ar 0 0 xs.length) [.arr true 5 (xs.map encLt)]:=by
 refine LCon.new (LCon.of (n:=8) (rs:=[.tmp 2]) (Is.fn Tryz.func33) rfl (Is.call Tryz.call33) Tryz.results33 Tryz.ntmps33 ?_) (pure1 (Refss_map fun a=>encLt_ref1 _ a))
 simp only [method_specs_simp,seval]
 refine nilY.eql (fun h=>?_) ?_
 ·rw [List.map_eq_nil_iff] at h
  subst h
  simp only [method_specs_simp,seval]
  exact LResY.nil (by decide)
 ·simp only [method_specs_simp,seval]
  refine ⟨by omega,by omega,?_⟩
  refine LResY.mk [1] ?_
  simp only [mvcgen_simp,method_specs_simp,seval]
theorem c_cloneL (xs : List Lt) (hx : xs.length * 48 ≤ 2 ^ 47) : Con P 33 [.sl 5 (xs.map encLt)] (.sl 5 (xs.map encLt)):=by
 have h1:=(n_cloneL (P:=P) xs hx).con (by simp only [method_specs_simp,Zv,Zj,Zo])
 have e : convR [Ob.arr true 5 (xs.map encLt)] (.ar 0 0 xs.length) = .sl 5 (xs.map encLt):=by
  simp only [method_specs_simp,Zv,Zj,Zo]
 rwa [e] at h1
theorem c_indexFL (xs : List Lt) (f : FuncId) (caps : List V) (p : Lt → Bool) (hc : Refs (fun _=>False) caps) (hf : ∀ x ∈ xs,Con P f ([.agg (encLt x)] ++ caps) (.bool (p x))) (hx : xs.length < 2 ^ 62) : Con P 54 [.sl 5 (xs.map encLt),.fn f [] caps] (.int .i64 (idxP p xs)):=by
 refine Con.of (n:=19) (rs:=[.tmp 4]) (Is.fn Tryz.func54) rfl (Is.call Tryz.call54) Tryz.results54 Tryz.ntmps54 trivial ?_
 simp only [method_specs_simp,seval]
 refine SW.while (A:=Nat) (fun k=>⟨pad 19 [.sl 5 (xs.map encLt),.fn f [] caps,.junk,.junk,.int .i64 0,.junk,.sl 5 (xs.map encLt),.int .i64 xs.length,.int .i64 k],[],[]⟩) (fun k=>xs.length - k)
  (fun k=>k ≤ xs.length ∧ idxP p xs = if (xs.drop k).any p then (k : Int) + (((xs.drop k).findIdx p : Nat) : Int) else -1) 0 [] ⟨Zg _,by simp [idxP]⟩ ?_ ?_
 ·simp only [mvcgen_simp,method_specs_simp,seval,rens_pure _ hc]
  exact Refs.mono (fun _ h=>h.elim) _ hc
 ·rintro k ⟨hk,hr⟩
  rw [hr]
  refine CW.sound ?_
  simp only [method_specs_simp,seval]
  refine gB_split (fun h=>?_) (fun h=>?_)
  ·simp only [decide_eq_true_eq,Za] at h
   have hxk : xs[k]? = some xs[k]:=Zb h
   have hfk:=hf _ (ZD h)
   generalize xs[k] = x at hxk hfk
   rw [drop_cons hxk]
   simp only [Zt,hxk,method_specs_simp,seval]
   refine ⟨by omega,by omega,by simp [encLt],?_⟩
   rw [show Zw 5 (encLt x) = encLt x from rfl]
   refine clY.conC hfk rfl ⟨encLt_ref1 _ x,hc⟩ ?_
   simp only [method_specs_simp,seval]
   refine gB_split (fun h1=>?_) (fun h1=>?_)
   ·rw [idxP_hit h1]
   ·rw [wrap_id (by omega) (by omega),idxP_miss h1]
    refine Again.mk (k + 1) [] ⟨h,rfl⟩ (Zc h (Zd _)) ?_
    simp only [mvcgen_simp,method_specs_simp,seval,rens_pure _ hc]
    exact Refs.mono (fun _ h=>h.elim) _ hc
  ·simp only [decide_eq_false_iff_not,Ze,Za] at h
   rw [ZA (by omega)]
   simp
theorem c_containsFL (xs : List Lt) (f : FuncId) (caps : List V) (p : Lt → Bool) (hc : Refs (fun _=>False) caps) (hf : ∀ x ∈ xs,Con P f ([.agg (encLt x)] ++ caps) (.bool (p x))) (hx : xs.length < 2 ^ 62) : Con P 35 [.sl 5 (xs.map encLt),.fn f [] caps] (.bool (xs.any p)):=by
 refine Con.of (n:=9) (rs:=[.tmp 4]) (Is.fn Tryz.func35) rfl (Is.call Tryz.call35) Tryz.results35 Tryz.ntmps35 trivial ?_
 simp only [method_specs_simp,seval]
 refine clY.con (c_indexFL xs f caps p hc hf hx) ⟨of_eq_true (encLt_refs _ xs),⟨trivial,hc⟩,trivial⟩ ?_
 simp only [method_specs_simp,seval]
 exact idxP_ge p xs
theorem c_nhas (p : Ps) (a : Int) (h : p.hubs.length < 2 ^ 44) : Con P 55 [netV p,.int .i64 a] (.bool (hasP p a)):=by
 have w : IntKind.i64.wrap ((p.hubs.length : Int) - 1) = (p.hubs.length : Int) - 1:=wrap_id (by omega) (by omega)
 refine Con.of (n:=13) (rs:=[.tmp 4]) (Is.fn Tryz.func55) rfl (Is.call Tryz.call55) Tryz.results55 Tryz.ntmps55 trivial ?_
 simp only [method_specs_simp,seval,netV]
 rw [w]
 refine clY.con (c_in a 0 ((p.hubs.length : Int) - 1)) (by simp only [method_specs_simp,netV]) ?_
 simp only [method_specs_simp,seval,netV]
 rfl
theorem c_areTwo (p : Ps) (a b : Int) (h : p.hubs.length < 2 ^ 44) : Con P 37 [netV p,.int .i64 a,.int .i64 b] (.bool (twoP p a b)):=by
 refine Con.of (n:=20) (rs:=[.tmp 6]) (Is.fn Tryz.func37) rfl (Is.call Tryz.call37) Tryz.results37 Tryz.ntmps37 trivial ?_
 simp only [method_specs_simp,seval]
 refine clY.con (c_nhas p a h) ⟨netV_ref _ p,trivial,trivial⟩ ?_
 unfold twoP
 cases h1 : hasP p a with
 | false =>
  simp only [method_specs_simp,seval]
  rfl
 | true =>
  simp only [method_specs_simp,seval]
  refine clY.con (c_nhas p b h) ⟨netV_ref _ p,trivial,trivial⟩ ?_
  cases h2 : hasP p b with
  | false =>
   simp only [method_specs_simp,seval]
   rfl
  | true =>
   simp only [method_specs_simp,seval]
   try rfl
theorem c_nn1 (p : Ps) (x : Lt) (h : p.hubs.length < 2 ^ 44) : Con P 36 [.agg (encLt x),.fptr [netV p] 0] (.bool (badL p x)):=by
 have hn:=netV_ref (fun _=>False) p
 have h2:=c_areTwo (P:=P) p x.src x.dst h
 unfold badL
 obtain ⟨nv,hnv⟩ : ∃ nv,nv = netV p:=⟨_,rfl⟩
 rw [← hnv] at hn h2 ⊢
 refine Con.of (n:=33) (rs:=[.tmp 3]) (Is.fn Tryz.func36) rfl (Is.call Tryz.call36) Tryz.results36 Tryz.ntmps36 trivial ?_
 simp only [method_specs_simp,seval,encLt]
 have tail : ∀ (b1 b2 : Bool),b1 && b2 = false → True:=fun _ _ _=>trivial
 cases c12 : ((x.kind != 1) && (x.kind != 2)) with
 | true =>
  rw [Zq] at c12
  simp only [method_specs_simp,seval,encLt,c12.1,c12.2]
  try rfl
 | false =>
  cases c1 : (x.kind != 1) with
  | true =>
   rw [c1,Zh] at c12
   simp only [method_specs_simp,seval,encLt,c12]
   refine clY.con h2 ⟨hn,trivial,trivial,trivial⟩ ?_
   cases c3 : twoP p x.src x.dst with
   | false =>
    simp only [method_specs_simp,seval,encLt]
    try rfl
   | true =>
    simp only [method_specs_simp,seval,encLt]
    refine clY.con (c_isRoom x.room) ⟨trivial,trivial⟩ ?_
    cases c4 : Gm.isB x.room 1 3 with
    | false =>
     simp only [method_specs_simp,seval,encLt]
     try rfl
    | true =>
     simp only [method_specs_simp,seval,encLt]
     try rfl
  | false =>
   simp only [method_specs_simp,seval,encLt]
   refine clY.con h2 ⟨hn,trivial,trivial,trivial⟩ ?_
   cases c3 : twoP p x.src x.dst with
   | false =>
    simp only [method_specs_simp,seval,encLt]
    try rfl
   | true =>
    simp only [method_specs_simp,seval,encLt]
    refine clY.con (c_isRoom x.room) ⟨trivial,trivial⟩ ?_
    cases c4 : Gm.isB x.room 1 3 with
    | false =>
     simp only [method_specs_simp,seval,encLt]
     try rfl
    | true =>
     simp only [method_specs_simp,seval,encLt]
     try rfl
def netR (p : Ps) : V:=if p.hubs.all rightS then .tup [netV p,.bool (Gm.isB p.hubs.length 1 4 && (decide ((p.letters.length : Int) ≤ 60) && !p.letters.any (badL p)))] else .tup [.np,.bool false]
theorem netR_ref (ok : Nat → Prop) (p : Ps) : Ref ok (netR p):=by
 unfold netR
 split
 ·exact ⟨netV_ref ok p,trivial,trivial⟩
 ·exact ⟨trivial,trivial,trivial⟩
theorem c_newNet (p : Ps) (hp : PsOK p) : Con P 16 [.agg (encPs p)] (netR p):=by
 have hh1:=hp.1.1
 have hl1:=hp.2.1
 refine Con.ofS (n:=59) (rs:=[.tmp 2,.tmp 3]) (Is.fn Tryz.func16) rfl (Is.call Tryz.call16) Tryz.results16 Tryz.ntmps16 (netR_ref _ p) ?_
 refine SW.seq (CW.sound ?_)
 simp only [method_specs_simp,seval,encPs]
 refine SW.seq (CW.sound ?_)
 simp only [method_specs_simp,seval,encPs]
 refine clY.con (c_cloneL p.letters hl1) ⟨of_eq_true (encLt_refs _ _),trivial⟩ ?_
 simp only [method_specs_simp,seval,encPs]
 refine SW.seq (CW.sound ?_)
 simp only [method_specs_simp,seval,encPs]
 refine SW.nilcell 1 0 1 rfl rfl (by decide) ?_
 refine SW.freeze [2] ?_
 simp only [mvcgen_simp,method_specs_simp,seval,encPs,convs_r8j,conv_junkj]
 refine SW.while (A:=Nat) (fun k=>⟨pad 59 [.junk,.ptr 0 0,.junk,.bool false,.fptr [.ptr 1 0] 0,.junk,.junk,.junk,.junk,.junk,.junk,.junk,.junk,.junk,.junk,.junk,.sl 2 (p.hubs.map encHb),.int .i64 p.hubs.length,.int .i64 k],[.box true (encPs p),.box true [.ar 2 0 k,.sl 5 (p.letters.map encLt)],.arr true 1 ((p.hubs.take k).map sRow1)],[]⟩) (fun k=>p.hubs.length - k) (fun k=>k ≤ p.hubs.length ∧ ∀ j h,j < k → p.hubs[j]? = some h → rightS h = true) 0 [0,1,3] ⟨Zg _,fun j h hj=>absurd hj (ZS _)⟩ ?_ ?_
 ·simp only [mvcgen_simp,method_specs_simp,seval,encPs]
 ·rintro k ⟨hk,hok⟩
  have w1 : IntKind.i64.wrap ((k : Int) + 1) = ((k + 1 : Nat) : Int):=wadd1 k (by omega)
  refine SW.seq (CW.sound ?_)
  simp only [method_specs_simp,seval,encPs]
  refine SW.seq (CW.sound ?_)
  simp only [method_specs_simp,seval,encPs]
  refine gB_split (fun h1=>?_) (fun h1=>?_)
  ·simp only [decide_eq_true_eq,Za] at h1
   obtain ⟨h,hg⟩ : ∃ h,p.hubs[k]? = some h:=⟨_,Zb h1⟩
   have hhOK:=hp.1.2 h (Zf hg)
   refine SW.seq (SW.block ?_)
   refine SW.seq (CW.sound ?_)
   simp only [method_specs_simp,seval,encPs,hg,encHb]
   refine ⟨by omega,by omega,?_⟩
   refine SW.seq (CW.sound ?_)
   simp only [method_specs_simp,seval,encPs]
   refine clY.con (c_newServer h hhOK) (by simp only [method_specs_simp,encHb]) ?_
   cases hr : rightS h with
   | false =>
    have hri : rightI h = false:=by rw [right_same hhOK]; exact hr
    obtain ⟨v,hv,_⟩:=nsR_no hri
    have hall : p.hubs.all rightS = false:=by
     rw [← ZQ,Zn]
     intro q
     rw [q h (Zf hg)] at hr
     cases hr
    have hn : netR p = .tup [.np,.bool false]:=by unfold netR; rw [hall]; rfl
    rw [hv,hn]
    simp only [method_specs_simp,seval,encPs]
    refine SW.seq (CW.sound ?_)
    simp only [method_specs_simp,seval,encPs]
    exact ⟨trivial,rfl⟩
   | true =>
    have hri : rightI h = true:=by rw [right_same hhOK]; exact hr
    rw [nsR_yes hri]
    obtain ⟨sv,hsv⟩ : ∃ cs,srvV h = .fptr cs 0:=⟨_,rfl⟩
    have hsr:=srvV_ref (fun _=>False) h
    rw [hsv] at hsr ⊢
    have hna : (p.hubs.take k).map sRow1 ++ [[V.fptr sv 0]] = (p.hubs.take (k + 1)).map sRow1:=by
     rw [Zi,hg,Zk,Zy,← hsv]; rfl
    have hil : ((p.hubs.take k).map sRow1).length = k:=by rw [Zj,Zs]; omega
    simp only [method_specs_simp,seval,encPs]
    refine SW.seq (CW.sound ?_)
    simp only [method_specs_simp,seval,encPs]
    refine SW.drawnK [0] 7 mixed (by kernel_rfl) (by kernel_rfl) (by kernel_rfl) ?_ ?_
    ·simp only [method_specs_simp,seval,encPs,Yz,YA]
    show RQi P _ _ _ _ _
    simp only [method_specs_simp,seval,encPs,hil]
    refine ⟨by omega,by omega,?_⟩
    rw [hna]
    refine CW.sound ?_
    simp only [method_specs_simp,seval,encPs,w1]
    refine Again.mk (k + 1) [0,1,5] ⟨h1,fun j h' hj hj'=>?_⟩ (Zc h1 (Zd _)) ?_
    ·rcases ZP.1 hj with hj | rfl
     ·exact hok j h' hj hj'
     ·rw [hg] at hj'
      injection hj' with hj'
      subst hj'
      exact hr
    ·simp only [mvcgen_simp,method_specs_simp,seval,encPs]
  ·have hk2 : k = p.hubs.length:=by simp only [decide_eq_false_iff_not,Ze,Za] at h1; omega
   rw [hk2,Zx]
   refine SW.freeze [0,1,2] ?_
   simp only [mvcgen_simp,method_specs_simp,seval,encPs,convs_r8j,conv_junkj]
   refine sw_deep 3 ?_
   simp only [mvcgen_simp,method_specs_simp,seval,encPs,map_r8,ZG,ZO]
   refine sw_deep 3 ?_
   simp only [mvcgen_simp,method_specs_simp,seval,encPs,map_r8,ZG,ZO]
   refine SW.wk [] (st':=⟨pad 59 [.junk,.fptr (encPs p) 0,.junk,.bool false,.fptr [netV p] 0],[],[]⟩) ?_ ?_
   ·simp only [mvcgen_simp,method_specs_simp,seval,encPs,netV]
   have hall : p.hubs.all rightS = true:=by
    rw [Zn]
    intro h hm
    obtain ⟨j,hj⟩:=Zz hm
    exact hok j h (by have:=(Zr.1 hj).1; omega) hj
   have hn : netR p = .tup [netV p,.bool (Gm.isB p.hubs.length 1 4 && (decide ((p.letters.length : Int) ≤ 60) && !p.letters.any (badL p)))]:=by unfold netR; rw [hall]; rfl
   rw [hn]
   have hnr:=netV_ref (fun _=>False) p
   have hcl:=c_containsFL (P:=P) p.letters 36 [.fptr [netV p] 0] (badL p) ⟨⟨hnr,trivial⟩,trivial⟩ (fun x _=>c_nn1 p x (by omega)) (by omega)
   obtain ⟨nv,hnv⟩ : ∃ v,v = netV p:=⟨_,rfl⟩
   have hpe : encPs p = [.sl 2 (p.hubs.map encHb),.sl 5 (p.letters.map encLt)]:=rfl
   refine SW.seq (CW.sound ?_)
   simp only [method_specs_simp,seval,encPs,hpe]
   refine clY.con hcl ⟨of_eq_true (encLt_refs _ _),⟨trivial,⟨hnr,trivial⟩,trivial⟩,trivial⟩ ?_
   simp only [method_specs_simp,seval,encPs]
   refine CW.sound ?_
   simp only [method_specs_simp,seval,encPs]
   refine ⟨by kernel_rfl,?_⟩
   refine clY.con (c_in (p.hubs.length : Int) 1 4) (by simp only [method_specs_simp,encPs]) ?_
   simp only [method_specs_simp,seval,encPs]
   cases c1 : Gm.isB p.hubs.length 1 4 with
   | false =>
    simp only [method_specs_simp,seval,encPs]
    exact ⟨hnr,rfl⟩
   | true =>
    simp only [method_specs_simp,seval,encPs]
    cases c2 : decide ((p.letters.length : Int) ≤ 60) with
    | false =>
     simp only [method_specs_simp,seval,encPs]
     exact ⟨hnr,rfl⟩
    | true =>
     simp only [method_specs_simp,seval,encPs]
     exact ⟨hnr,rfl⟩
theorem c_l17There (p : Ps) (a : Int) (hp : PsOK p) : Con P 29 [.agg (encPs p),.int .i64 a] (.bool (hasP p a)):=by
 have h1:=hp.1.1
 have w : IntKind.i64.wrap ((p.hubs.length : Int) - 1) = (p.hubs.length : Int) - 1:=wrap_id (by omega) (by omega)
 refine Con.of (n:=11) (rs:=[.tmp 4]) (Is.fn Tryz.func29) rfl (Is.call Tryz.call29) Tryz.results29 Tryz.ntmps29 trivial ?_
 simp only [method_specs_simp,seval,encPs]
 rw [w]
 refine clY.con (c_l02Is a 0 ((p.hubs.length : Int) - 1)) (by simp only [method_specs_simp,encPs]) ?_
 simp only [method_specs_simp,seval,encPs]
 rfl
theorem c_sPeersRight (p : Ps) (hp : PsOK p) : Con P 11 [.agg (encPs p)] (.bool (psRight p)):=by
 have hh1:=hp.1.1
 have hl1:=hp.2.1
 have hno : ¬ (1 ≤ p.hubs.length ∧ p.hubs.length ≤ 4 ∧ p.letters.length ≤ 60) → psRight p = false:=fun q=>by
  rw [← ZQ]
  intro hc
  unfold psRight Gm.isB at hc
  simp only [Zq,decide_eq_true_eq] at hc
  omega
 refine Con.of (n:=85) (rs:=[.tmp 2]) (Is.fn Tryz.func11) rfl (Is.call Tryz.call11) Tryz.results11 Tryz.ntmps11 trivial ?_
 simp only [method_specs_simp,seval,encPs]
 cases c1 : decide ((p.hubs.length : Int) < 1) with
 | true =>
  rw [hno (by simp only [decide_eq_true_eq] at c1; omega)]
  simp only [method_specs_simp,seval,encPs]
 | false =>
  simp only [method_specs_simp,seval,encPs]
  cases c2 : decide ((p.hubs.length : Int) > 4) with
  | true =>
   rw [hno (by simp only [decide_eq_true_eq] at c2; omega)]
   simp only [method_specs_simp,seval,encPs]
  | false =>
   simp only [method_specs_simp,seval,encPs]
   cases c3 : decide ((p.letters.length : Int) > 60) with
   | true =>
    rw [hno (by simp only [decide_eq_true_eq] at c3; omega)]
    simp only [method_specs_simp,seval,encPs]
   | false =>
    simp only [decide_eq_false_iff_not] at c1 c2 c3
    simp only [method_specs_simp,seval,encPs]
    refine SW.while (A:=Nat) (fun i=>⟨pad 85 [.junk,.ptr 0 0,.bool false,.int .i64 i],[.box true (encPs p)],[]⟩) (fun i=>p.hubs.length - i) (fun i=>i ≤ p.hubs.length ∧ ∀ j h,j < i → p.hubs[j]? = some h → rightS h = true) 0 [0] ⟨Zg _,fun j h hj=>absurd hj (ZS _)⟩ ?_ ?_
    ·simp only [mvcgen_simp,method_specs_simp,seval,encPs]
    ·rintro i ⟨hi,hok⟩
     have w1 : IntKind.i64.wrap ((i : Int) + 1) = ((i + 1 : Nat) : Int):=wadd1 i (by omega)
     refine CW.sound ?_
     simp only [method_specs_simp,seval,encPs]
     refine gB_split (fun h1=>?_) (fun h1=>?_)
     ·simp only [decide_eq_true_eq,Za] at h1
      obtain ⟨h,hg⟩ : ∃ h,p.hubs[i]? = some h:=⟨_,Zb h1⟩
      have hhOK:=hp.1.2 h (Zf hg)
      simp only [method_specs_simp,seval,encPs,hg,encHb]
      refine ⟨by omega,by omega,?_⟩
      refine clY.con (c_sHubRight h hhOK) (by simp only [method_specs_simp,encHb]) ?_
      cases hr : rightS h with
      | false =>
       have hf : psRight p = false:=by
        rw [← ZQ]
        intro hc
        unfold psRight at hc
        rw [Zq,Zn] at hc
        rw [hc.1 h (Zf hg)] at hr
        cases hr
       rw [hf]
       simp only [method_specs_simp,seval,encPs]
      | true =>
       simp only [method_specs_simp,seval,encPs]
       refine Again.mk (i + 1) [0] ⟨h1,fun j h' hj hj'=>?_⟩ (Zc h1 (Zd _)) ?_
       ·rcases ZP.1 hj with hj | rfl
        ·exact hok j h' hj hj'
        ·rw [hg] at hj'
         injection hj' with hj'
         subst hj'
         exact hr
       ·simp only [mvcgen_simp,method_specs_simp,seval,encPs,w1]
     ·have hi2 : i = p.hubs.length:=by simp only [decide_eq_false_iff_not,Ze,Za] at h1; omega
      have hall : p.hubs.all rightS = true:=by
       rw [Zn]
       intro h hm
       obtain ⟨j,hj⟩:=Zz hm
       exact hok j h (by have:=(Zr.1 hj).1; omega) hj
      have hps : psRight p = !p.letters.any (badL p):=by
       unfold psRight Gm.isB
       rw [hall,decide_eq_true (by omega),decide_eq_true (by omega),decide_eq_true (by omega)]; rfl
      rw [hps]
      refine SW.while (A:=Nat) (fun k=>⟨pad 85 [.junk,.ptr 0 0,.bool false,.junk,.int .i64 k],[.box true (encPs p)],[]⟩) (fun k=>p.letters.length - k) (fun k=>k ≤ p.letters.length ∧ ∀ j x,j < k → p.letters[j]? = some x → badL p x = false) 0 [0] ⟨Zg _,fun j h hj=>absurd hj (ZS _)⟩ ?_ ?_
      ·simp only [mvcgen_simp,method_specs_simp,seval,encPs]
      ·rintro k ⟨hk,hokL⟩
       have w1 : IntKind.i64.wrap ((k : Int) + 1) = ((k + 1 : Nat) : Int):=wadd1 k (by omega)
       refine CW.sound ?_
       simp only [method_specs_simp,seval,encPs]
       refine gB_split (fun h2=>?_) (fun h2=>?_)
       ·simp only [decide_eq_true_eq,Za] at h2
        obtain ⟨x,hx⟩ : ∃ x,p.letters[k]? = some x:=⟨_,Zb h2⟩
        have hbad : badL p x = true → (!p.letters.any (badL p)) = false:=fun q=>by
         rw [Bool.not_eq_false',Yf]
         exact ⟨x,Zf hx,q⟩
        have hokN : badL p x = false → ∀ j y,j < k + 1 → p.letters[j]? = some y → badL p y = false:=fun q j y hj hj'=>by
         rcases ZP.1 hj with hj | rfl
         ·exact hokL j y hj hj'
         ·rw [hx] at hj'
          injection hj' with hj'
          subst hj'
          exact q
        have hbe : badL p x = (!Gm.isB x.kind 1 2 || (!hasP p x.src || (!hasP p x.dst || ((x.src == x.dst) || (!Gm.isB x.room 1 3 || decide ((x.text.size : Int) > 8000)))))):=by
         have hk : ((x.kind != 1) && (x.kind != 2)) = !Gm.isB x.kind 1 2:=by
          unfold Gm.isB
          rw [ZC]
          simp only [Zq,bne_iff_ne,ZM,Bool.and_eq_false_iff,decide_eq_false_iff_not]
          omega
         unfold badL twoP
         rw [hk]
         cases Gm.isB x.kind 1 2 <;> cases hasP p x.src <;> cases hasP p x.dst <;> cases hq : x.src == x.dst <;> simp [bne,hq]
        simp only [method_specs_simp,seval,encPs,hx,encLt]
        refine ⟨by omega,by omega,?_⟩
        rw [hbe] at hbad hokN
        refine clY.con (c_l02Is x.kind 1 2) ⟨trivial,trivial,trivial,trivial⟩ ?_
        cases b1 : Gm.isB x.kind 1 2 with
        | false =>
         rw [hbad (by rw [b1]; rfl)]
         simp only [method_specs_simp,seval,encPs]
        | true =>
         simp only [method_specs_simp,seval,encPs]
         refine clY.con (c_l17There p x.src hp) (by simp only [method_specs_simp,encPs]) ?_
         cases b2 : hasP p x.src with
         | false =>
          rw [hbad (by rw [b1,b2]; rfl)]
          simp only [method_specs_simp,seval,encPs]
         | true =>
          simp only [method_specs_simp,seval,encPs]
          refine clY.con (c_l17There p x.dst hp) (by simp only [method_specs_simp,encPs]) ?_
          cases b3 : hasP p x.dst with
          | false =>
           rw [hbad (by rw [b1,b2,b3]; rfl)]
           simp only [method_specs_simp,seval,encPs]
          | true =>
           simp only [method_specs_simp,seval,encPs]
           cases b4 : x.src == x.dst with
           | true =>
            rw [hbad (by rw [b1,b2,b3,b4]; rfl)]
            simp only [method_specs_simp,seval,encPs]
           | false =>
            simp only [method_specs_simp,seval,encPs]
            refine clY.con (c_l08Room x.room) ⟨trivial,trivial⟩ ?_
            cases b5 : Gm.isB x.room 1 3 with
            | false =>
             rw [hbad (by rw [b1,b2,b3,b4,b5]; rfl)]
             simp only [method_specs_simp,seval,encPs]
            | true =>
             simp only [method_specs_simp,seval,encPs]
             cases b6 : decide ((x.text.size : Int) > 8000) with
             | true =>
              rw [hbad (by rw [b1,b2,b3,b4,b5,b6]; rfl)]
              simp only [method_specs_simp,seval,encPs]
             | false =>
              simp only [method_specs_simp,seval,encPs]
              refine Again.mk (k + 1) [0] ⟨h2,hokN (by rw [b1,b2,b3,b4,b5,b6]; rfl)⟩ (Zc h2 (Zd _)) ?_
              simp only [mvcgen_simp,method_specs_simp,seval,encPs,w1]
       ·have hk2 : k = p.letters.length:=by simp only [decide_eq_false_iff_not,Ze,Za] at h2; omega
        have hany : p.letters.any (badL p) = false:=by
         rw [ZT]
         intro x hm
         obtain ⟨j,hj⟩:=Zz hm
         rw [hokL j x (by have:=(Zr.1 hj).1; omega) hj]
         decide
        rw [hany]
        rfl
end
def eqIs : List Int → List Int → Bool
 | [],[]=>true
 | x :: xs,y :: ys=>x == y && eqIs xs ys
 | _,_=>false
theorem eqIs_ne : ∀ {xs ys : List Int},xs.length ≠ ys.length → eqIs xs ys = false
 | [],[],h=>absurd rfl h
 | [],_ :: _,_=>rfl
 | _ :: _,[],_=>rfl
 | x :: xs,y :: ys,h=>by rw [eqIs,eqIs_ne (xs:=xs) (ys:=ys) (fun q=>h (by simp [q])),Zl]
theorem eqIs_comm : ∀ (xs ys : List Int),eqIs xs ys = eqIs ys xs
 | [],[]=>rfl
 | [],_ :: _=>rfl
 | _ :: _,[]=>rfl
 | x :: xs,y :: ys=>by rw [eqIs,eqIs,eqIs_comm xs ys,ZL]
theorem eqIs_self : ∀ (xs : List Int),eqIs xs xs = true
 | []=>rfl
 | x :: xs=>by rw [eqIs,eqIs_self xs]; simp
def sameE (a b : Ev) : Bool:=(a.id == b.id) && (a.room == b.room) && (a.author == b.author) && (a.kind == b.kind) && (a.key == b.key) && (a.n == b.n) && (a.text.toList == b.text.toList) && (eqIs a.prev b.prev) && (a.time == b.time)
def sameE2 (a b : Ev) : Bool:=(a.id == b.id) && (a.room == b.room) && (a.author == b.author) && (a.kind == b.kind) && (a.key == b.key) && (a.n == b.n) && (a.text.toList == b.text.toList) && (a.time == b.time) && (eqIs a.prev b.prev)
theorem sameE_eq (a b : Ev) : sameE2 a b = sameE a b:=by
 unfold sameE sameE2
 rw [Yn,YC (a.time == b.time),← Yn]
section
variable {P : Program} [Is P]
theorem c_equalI (xs ys : List Int) (h1 : xs.length < 2 ^ 62) (h2 : ys.length < 2 ^ 62) : Con P 40 [.sl 1 (xs.map encI),.sl 1 (ys.map encI)] (.bool (eqIs xs ys)):=by
 refine Con.of (n:=26) (rs:=[.tmp 4]) (Is.fn Tryz.func40) rfl (Is.call Tryz.call40) Tryz.results40 Tryz.ntmps40 trivial ?_
 simp only [method_specs_simp,seval]
 cases hl : ((xs.length : Int) != ys.length) with
 | true =>
  rw [eqIs_ne (fun q=>by rw [q] at hl; simp at hl)]
  simp only [method_specs_simp,seval]
 | false =>
  have hl2 : xs.length = ys.length:=by simp only [bne_eq_false_iff_eq] at hl; omega
  simp only [method_specs_simp,seval]
  refine SW.while (A:=Nat) (fun k=>⟨pad 26 [.sl 1 (xs.map encI),.sl 1 (ys.map encI),.junk,.junk,.bool false,.junk,.junk,.junk,.junk,.junk,.junk,.sl 1 (xs.map encI),.int .i64 xs.length,.int .i64 k],[],[]⟩) (fun k=>xs.length - k) (fun k=>k ≤ xs.length ∧ eqIs xs ys = eqIs (xs.drop k) (ys.drop k)) 0 [] ⟨Zg _,rfl⟩ ?_ ?_
  ·simp only [mvcgen_simp,method_specs_simp,seval]
  ·rintro k ⟨hk,hr⟩
   rw [hr]
   refine CW.sound ?_
   simp only [method_specs_simp,seval]
   refine gB_split (fun h=>?_) (fun h=>?_)
   ·simp only [decide_eq_true_eq,Za] at h
    obtain ⟨x,hx⟩ : ∃ x,xs[k]? = some x:=⟨_,Zb h⟩
    obtain ⟨y,hy⟩ : ∃ y,ys[k]? = some y:=⟨_,Zb (by omega)⟩
    have w1 : IntKind.i64.wrap ((k : Int) + 1) = ((k + 1 : Nat) : Int):=wadd1 k (by omega)
    rw [drop_cons hx,drop_cons hy,eqIs]
    simp only [method_specs_simp,seval,hx,hy,encI]
    refine ⟨by kernel_rfl,by omega,by omega,by omega,by omega,?_⟩
    cases hq : x == y with
    | true =>
     have hq2 : (x != y) = false:=by unfold bne; rw [hq]; rfl
     simp only [method_specs_simp,seval,hq2]
     refine Again.mk (k + 1) [] ⟨h,rfl⟩ (Zc h (Zd _)) ?_
     simp only [mvcgen_simp,method_specs_simp,seval,w1]
    | false =>
     have hq2 : (x != y) = true:=by unfold bne; rw [hq]; rfl
     simp only [method_specs_simp,seval,hq2]
     rfl
   ·simp only [decide_eq_false_iff_not,Ze,Za] at h
    rw [ZA (by omega),ZA (by omega)]
    rfl
theorem c_l02Nums (xs ys : List Int) (h1 : xs.length < 2 ^ 62) (h2 : ys.length < 2 ^ 62) : Con P 30 [.sl 1 (xs.map encI),.sl 1 (ys.map encI)] (.bool (eqIs xs ys)):=by
 refine Con.of (n:=26) (rs:=[.tmp 4]) (Is.fn Tryz.func30) rfl (Is.call Tryz.call30) Tryz.results30 Tryz.ntmps30 trivial ?_
 simp only [method_specs_simp,seval]
 cases hl : ((xs.length : Int) != ys.length) with
 | true =>
  rw [eqIs_ne (fun q=>by rw [q] at hl; simp at hl)]
  simp only [method_specs_simp,seval]
 | false =>
  have hl2 : xs.length = ys.length:=by simp only [bne_eq_false_iff_eq] at hl; omega
  simp only [method_specs_simp,seval]
  refine SW.while (A:=Nat) (fun k=>⟨pad 26 [.sl 1 (xs.map encI),.sl 1 (ys.map encI),.junk,.junk,.bool false,.int .i64 k],[],[]⟩) (fun k=>xs.length - k) (fun k=>k ≤ xs.length ∧ eqIs xs ys = eqIs (xs.drop k) (ys.drop k)) 0 [] ⟨Zg _,rfl⟩ ?_ ?_
  ·simp only [mvcgen_simp,method_specs_simp,seval]
  ·rintro k ⟨hk,hr⟩
   rw [hr]
   refine CW.sound ?_
   simp only [method_specs_simp,seval]
   refine gB_split (fun h=>?_) (fun h=>?_)
   ·simp only [decide_eq_true_eq,Za] at h
    obtain ⟨x,hx⟩ : ∃ x,xs[k]? = some x:=⟨_,Zb h⟩
    obtain ⟨y,hy⟩ : ∃ y,ys[k]? = some y:=⟨_,Zb (by omega)⟩
    have w1 : IntKind.i64.wrap ((k : Int) + 1) = ((k + 1 : Nat) : Int):=wadd1 k (by omega)
    rw [drop_cons hx,drop_cons hy,eqIs]
    simp only [method_specs_simp,seval,hx,hy,encI]
    refine ⟨by kernel_rfl,by omega,by omega,by omega,by omega,?_⟩
    cases hq : x == y with
    | true =>
     have hq2 : (x != y) = false:=by unfold bne; rw [hq]; rfl
     simp only [method_specs_simp,seval,hq2]
     refine Again.mk (k + 1) [] ⟨h,rfl⟩ (Zc h (Zd _)) ?_
     simp only [mvcgen_simp,method_specs_simp,seval,w1]
    | false =>
     have hq2 : (x != y) = true:=by unfold bne; rw [hq]; rfl
     simp only [method_specs_simp,seval,hq2]
     rfl
   ·simp only [decide_eq_false_iff_not,Ze,Za] at h
    rw [ZA (by omega),ZA (by omega)]
    rfl
theorem c_SameEvent (a b : Ev) (ha : EvOK a) (hb : EvOK b) : Con P 22 [.agg (encEv a),.agg (encEv b)] (.bool (sameE a b)):=by
 have a2:=ha.2
 have b2:=hb.2
 refine Con.of (n:=66) (rs:=[.tmp 4]) (Is.fn Tryz.func22) rfl (Is.call Tryz.call22) Tryz.results22 Tryz.ntmps22 trivial ?_
 simp only [method_specs_simp,seval,encEv]
 cases g1 : a.id == b.id
 ·(try simp only [g1,method_specs_simp,seval])
  simp only [sameE,g1,Zh,Zm,Zu,Zl]
 ·(try simp only [g1,method_specs_simp,seval])
  cases g2 : a.room == b.room
  ·(try simp only [g2,method_specs_simp,seval])
   simp only [sameE,g1,g2,Zh,Zm,Zu,Zl]
  ·(try simp only [g2,method_specs_simp,seval])
   cases g3 : a.author == b.author
   ·(try simp only [g3,method_specs_simp,seval])
    simp only [sameE,g1,g2,g3,Zh,Zm,Zu,Zl]
   ·(try simp only [g3,method_specs_simp,seval])
    cases g4 : a.kind == b.kind
    ·(try simp only [g4,method_specs_simp,seval])
     simp only [sameE,g1,g2,g3,g4,Zh,Zm,Zu,Zl]
    ·(try simp only [g4,method_specs_simp,seval])
     cases g5 : a.key == b.key
     ·(try simp only [g5,method_specs_simp,seval])
      simp only [sameE,g1,g2,g3,g4,g5,Zh,Zm,Zu,Zl]
     ·(try simp only [g5,method_specs_simp,seval])
      cases g6 : a.n == b.n
      ·(try simp only [g6,method_specs_simp,seval])
       simp only [sameE,g1,g2,g3,g4,g5,g6,Zh,Zm,Zu,Zl]
      ·(try simp only [g6,method_specs_simp,seval])
       cases g7 : a.text.toList == b.text.toList
       ·(try simp only [g7,method_specs_simp,seval])
        simp only [sameE,g1,g2,g3,g4,g5,g6,g7,Zh,Zm,Zu,Zl]
       ·(try simp only [g7,method_specs_simp,seval])
        refine clY.con (c_equalI a.prev b.prev (by omega) (by omega)) (by simp only [method_specs_simp,encEv]) ?_
        simp only [method_specs_simp,seval,encEv]
        cases g8 : eqIs a.prev b.prev
        ·(try simp only [g8,method_specs_simp,seval])
         simp only [sameE,g1,g2,g3,g4,g5,g6,g7,g8,Zh,Zm,Zu,Zl]
        ·(try simp only [g8,method_specs_simp,seval])
         cases g9 : a.time == b.time <;> (try simp only [g9,method_specs_simp,seval]) <;> simp only [sameE,g1,g2,g3,g4,g5,g6,g7,g8,g9,Zh,Zm,Zu,Zl]
theorem c_sSameEvent (a b : Ev) (ha : EvOK a) (hb : EvOK b) : Con P 13 [.agg (encEv a),.agg (encEv b)] (.bool (sameE2 a b)):=by
 have a2:=ha.2
 have b2:=hb.2
 refine Con.of (n:=66) (rs:=[.tmp 4]) (Is.fn Tryz.func13) rfl (Is.call Tryz.call13) Tryz.results13 Tryz.ntmps13 trivial ?_
 simp only [method_specs_simp,seval,encEv]
 cases g1 : a.id == b.id
 ·(try simp only [g1,method_specs_simp,seval])
  simp only [sameE2,g1,Zh,Zm,Zu,Zl]
 ·(try simp only [g1,method_specs_simp,seval])
  cases g2 : a.room == b.room
  ·(try simp only [g2,method_specs_simp,seval])
   simp only [sameE2,g1,g2,Zh,Zm,Zu,Zl]
  ·(try simp only [g2,method_specs_simp,seval])
   cases g3 : a.author == b.author
   ·(try simp only [g3,method_specs_simp,seval])
    simp only [sameE2,g1,g2,g3,Zh,Zm,Zu,Zl]
   ·(try simp only [g3,method_specs_simp,seval])
    cases g4 : a.kind == b.kind
    ·(try simp only [g4,method_specs_simp,seval])
     simp only [sameE2,g1,g2,g3,g4,Zh,Zm,Zu,Zl]
    ·(try simp only [g4,method_specs_simp,seval])
     cases g5 : a.key == b.key
     ·(try simp only [g5,method_specs_simp,seval])
      simp only [sameE2,g1,g2,g3,g4,g5,Zh,Zm,Zu,Zl]
     ·(try simp only [g5,method_specs_simp,seval])
      cases g6 : a.n == b.n
      ·(try simp only [g6,method_specs_simp,seval])
       simp only [sameE2,g1,g2,g3,g4,g5,g6,Zh,Zm,Zu,Zl]
      ·(try simp only [g6,method_specs_simp,seval])
       cases g7 : a.text.toList == b.text.toList
       ·(try simp only [g7,method_specs_simp,seval])
        simp only [sameE2,g1,g2,g3,g4,g5,g6,g7,Zh,Zm,Zu,Zl]
       ·(try simp only [g7,method_specs_simp,seval])
        cases g8 : a.time == b.time
        ·(try simp only [g8,method_specs_simp,seval])
         simp only [sameE2,g1,g2,g3,g4,g5,g6,g7,g8,Zh,Zm,Zu,Zl]
        ·(try simp only [g8,method_specs_simp,seval])
         refine clY.con (c_l02Nums a.prev b.prev (by omega) (by omega)) (by simp only [method_specs_simp,encEv]) ?_
         simp only [method_specs_simp,seval,encEv]
         cases g9 : eqIs a.prev b.prev <;> (try simp only [g9,method_specs_simp,seval]) <;> simp only [sameE2,g1,g2,g3,g4,g5,g6,g7,g8,g9,Zh,Zm,Zu,Zl]
end
def eqEvs : List Ev → List Ev → Bool
 | [],[]=>true
 | x :: xs,y :: ys=>sameE x y && eqEvs xs ys
 | _,_=>false
theorem eqEvs_ne : ∀ {xs ys : List Ev},xs.length ≠ ys.length → eqEvs xs ys = false
 | [],[],h=>absurd rfl h
 | [],_ :: _,_=>rfl
 | _ :: _,[],_=>rfl
 | x :: xs,y :: ys,h=>by rw [eqEvs,eqEvs_ne (xs:=xs) (ys:=ys) (fun q=>h (by simp [q])),Zl]
theorem sameE_comm (a b : Ev) : sameE a b = sameE b a:=by
 unfold sameE
 rw [eqIs_comm a.prev b.prev,ZL (a:=a.id),ZL (a:=a.room),ZL (a:=a.author),ZL (a:=a.kind),ZL (a:=a.key),ZL (a:=a.n),ZL (a:=a.text.toList),ZL (a:=a.time)]
theorem sameE_self (a : Ev) : sameE a a = true:=by
 unfold sameE
 rw [eqIs_self]; simp
theorem eqEvs_comm : ∀ (xs ys : List Ev),eqEvs xs ys = eqEvs ys xs
 | [],[]=>rfl
 | [],_ :: _=>rfl
 | _ :: _,[]=>rfl
 | x :: xs,y :: ys=>by rw [eqEvs,eqEvs,eqEvs_comm xs ys,sameE_comm]
theorem eqEvs_self : ∀ (xs : List Ev),eqEvs xs xs = true
 | []=>rfl
 | x :: xs=>by rw [eqEvs,eqEvs_self xs,sameE_self]; rfl
section
variable {P : Program} [Is P]
theorem c_equalFE (xs ys : List Ev) (hx : EvsOK xs) (hy : EvsOK ys) : Con P 20 [.sl 9 (xs.map encEv),.sl 9 (ys.map encEv),.fn 22 [] []] (.bool (eqEvs xs ys)):=by
 have h1:=hx.1
 have h2:=hy.1
 refine Con.of (n:=32) (rs:=[.tmp 6]) (Is.fn Tryz.func20) rfl (Is.call Tryz.call20) Tryz.results20 Tryz.ntmps20 trivial ?_
 simp only [method_specs_simp,seval]
 cases hl : ((xs.length : Int) != ys.length) with
 | true =>
  rw [eqEvs_ne (fun q=>by rw [q] at hl; simp at hl)]
  simp only [method_specs_simp,seval]
 | false =>
  have hl2 : xs.length = ys.length:=by simp only [bne_eq_false_iff_eq] at hl; omega
  simp only [method_specs_simp,seval]
  refine SW.while (A:=Nat) (fun k=>⟨pad 32 [.sl 9 (xs.map encEv),.sl 9 (ys.map encEv),.fn 22 [] [],.junk,.junk,.junk,.bool false,.junk,.junk,.junk,.junk,.junk,.junk,.junk,.junk,.sl 9 (xs.map encEv),.int .i64 xs.length,.int .i64 k],[],[]⟩) (fun k=>xs.length - k) (fun k=>k ≤ xs.length ∧ eqEvs xs ys = eqEvs (xs.drop k) (ys.drop k)) 0 [] ⟨Zg _,rfl⟩ ?_ ?_
  ·simp only [mvcgen_simp,method_specs_simp,seval]
  ·rintro k ⟨hk,hr⟩
   rw [hr]
   refine CW.sound ?_
   simp only [method_specs_simp,seval]
   refine gB_split (fun h=>?_) (fun h=>?_)
   ·simp only [decide_eq_true_eq,Za] at h
    obtain ⟨x,hxk⟩ : ∃ x,xs[k]? = some x:=⟨_,Zb h⟩
    obtain ⟨y,hyk⟩ : ∃ y,ys[k]? = some y:=⟨_,Zb (by omega)⟩
    have w1 : IntKind.i64.wrap ((k : Int) + 1) = ((k + 1 : Nat) : Int):=wadd1 k (by omega)
    have hsm:=c_SameEvent (P:=P) x y (hx.2 x (Zf hxk)) (hy.2 y (Zf hyk))
    rw [drop_cons hxk,drop_cons hyk,eqEvs]
    simp only [method_specs_simp,seval,hxk,hyk,encEv]
    refine ⟨by omega,by omega,by omega,by omega,?_⟩
    refine clY.conC hsm rfl ⟨encEv_ref1 _ x,encEv_ref1 _ y,trivial⟩ ?_
    cases hq : sameE x y with
    | true =>
     simp only [method_specs_simp,seval,w1]
     refine Again.mk (k + 1) [] ⟨h,rfl⟩ (Zc h (Zd _)) ?_
     simp only [mvcgen_simp,method_specs_simp,seval]
    | false =>
     simp only [method_specs_simp,seval]
     rfl
   ·simp only [decide_eq_false_iff_not,Ze,Za] at h
    rw [ZA (by omega),ZA (by omega)]
    rfl
theorem c_indexFS (xs : List Hb) (f : FuncId) (caps : List V) (p : Hb → Bool) (hc : Refs (fun _=>False) caps) (hf : ∀ x ∈ xs,Con P f ([srvV x] ++ caps) (.bool (p x))) (hx : xs.length < 2 ^ 62) : Con P 39 [.sl 1 (xs.map sRow1),.fn f [] caps] (.int .i64 (idxP p xs)):=by
 refine Con.of (n:=19) (rs:=[.tmp 4]) (Is.fn Tryz.func39) rfl (Is.call Tryz.call39) Tryz.results39 Tryz.ntmps39 trivial ?_
 simp only [method_specs_simp,seval]
 refine SW.while (A:=Nat) (fun k=>⟨pad 19 [.sl 1 (xs.map sRow1),.fn f [] caps,.junk,.junk,.int .i64 0,.junk,.sl 1 (xs.map sRow1),.int .i64 xs.length,.int .i64 k],[],[]⟩) (fun k=>xs.length - k)
  (fun k=>k ≤ xs.length ∧ idxP p xs = if (xs.drop k).any p then (k : Int) + (((xs.drop k).findIdx p : Nat) : Int) else -1) 0 [] ⟨Zg _,by simp [idxP]⟩ ?_ ?_
 ·simp only [mvcgen_simp,method_specs_simp,seval,rens_pure _ hc]
  exact Refs.mono (fun _ h=>h.elim) _ hc
 ·rintro k ⟨hk,hr⟩
  rw [hr]
  refine CW.sound ?_
  simp only [method_specs_simp,seval]
  refine gB_split (fun h=>?_) (fun h=>?_)
  ·simp only [decide_eq_true_eq,Za] at h
   have hxk : xs[k]? = some xs[k]:=Zb h
   have hfk:=hf _ (ZD h)
   generalize xs[k] = x at hxk hfk
   rw [drop_cons hxk]
   simp only [method_specs_simp,seval,hxk,sRow1]
   refine ⟨by omega,by omega,?_⟩
   refine clY.conC hfk rfl ⟨srvV_ref _ x,hc⟩ ?_
   simp only [method_specs_simp,seval]
   refine gB_split (fun h1=>?_) (fun h1=>?_)
   ·rw [idxP_hit h1]
   ·rw [wrap_id (by omega) (by omega),idxP_miss h1]
    refine Again.mk (k + 1) [] ⟨h,rfl⟩ (Zc h (Zd _)) ?_
    simp only [mvcgen_simp,method_specs_simp,seval,rens_pure _ hc]
    exact Refs.mono (fun _ h=>h.elim) _ hc
  ·simp only [decide_eq_false_iff_not,Ze,Za] at h
   rw [ZA (by omega)]
   simp
theorem c_containsFS (xs : List Hb) (f : FuncId) (caps : List V) (p : Hb → Bool) (hc : Refs (fun _=>False) caps) (hf : ∀ x ∈ xs,Con P f ([srvV x] ++ caps) (.bool (p x))) (hx : xs.length < 2 ^ 62) : Con P 18 [.sl 1 (xs.map sRow1),.fn f [] caps] (.bool (xs.any p)):=by
 refine Con.of (n:=9) (rs:=[.tmp 4]) (Is.fn Tryz.func18) rfl (Is.call Tryz.call18) Tryz.results18 Tryz.ntmps18 trivial ?_
 simp only [method_specs_simp,seval]
 refine clY.con (c_indexFS xs f caps p hc hf hx) ⟨of_eq_true (sRow1_refs _ xs),⟨trivial,hc⟩,trivial⟩ ?_
 simp only [method_specs_simp,seval]
 exact idxP_ge p xs
def rmEv (h : Hb) (room : Int) : List Ev:=(gAt h.rooms room).events
def diffH (h0 : Hb) (room : Int) (h : Hb) : Bool:=!eqEvs (rmEv h room) (rmEv h0 room)
theorem c_roomH (h : Hb) (hh : HbOK h) (hr : rightS h = true) (room : Int) (hb : Gm.isB room 1 3 = true) : Con P 21 [srvV h,.int .i64 room] (hF (gAt h.rooms room) (hsG (gAt h.rooms room))):=by
 obtain ⟨hnd,h120,h3,hrm⟩:=right_nd hr
 have hR:=RmG.of hh hrm
 obtain ⟨g1,g2⟩:=gAt_in hh hr hb
 obtain ⟨b1,b2⟩ : 1 ≤ room ∧ room ≤ 3:=by unfold Gm.isB at hb; simpa using hb
 obtain ⟨g,hg⟩ : ∃ g,h.rooms[(room - 1).toNat]? = some g:=⟨_,Zb (by omega)⟩
 have hga : gAt h.rooms room = g:=by
  have:=gAt_of hg
  rwa [show (((room - 1).toNat : Int) + 1) = room by omega] at this
 rw [hga]
 exact c_sroom h.rooms room g _ _ (by omega) hg (by omega)
theorem rmEv_ok {h : Hb} (hh : HbOK h) (hr : rightS h = true) {room : Int} (hb : Gm.isB room 1 3 = true) : EvsOK (rmEv h room):=(hh.1.2 _ (gAt_in hh hr hb).1).1
theorem c_alike1 (p : Ps) (h0 h : Hb) (room : Int) (hp : PsOK p) (hall : p.hubs.all rightS = true) (hh : h ∈ p.hubs) (hz : p.hubs[0]? = some h0) (hb : Gm.isB room 1 3 = true) : Con P 19 [srvV h,.fptr [.int .i64 room] 0,.fptr [netV p] 0] (.bool (diffH h0 room h)):=by
 rw [Zn] at hall
 have hm0:=Zf hz
 have hr:=hall h hh
 have hr0:=hall h0 hm0
 have hO:=hp.1.2 h hh
 have hO0:=hp.1.2 h0 hm0
 have hl0:=(Zr.1 hz).1
 have hc1:=c_roomH (P:=P) h hO hr room hb
 have hc0:=c_roomH (P:=P) h0 hO0 hr0 room hb
 have hsr:=srvV_ref (fun _=>False) h
 have hsr0:=srvV_ref (fun _=>False) h0
 have hnr:=netV_ref (fun _=>False) p
 have heq:=c_equalFE (P:=P) (rmEv h room) (rmEv h0 room) (rmEv_ok hO hr hb) (rmEv_ok hO0 hr0 hb)
 unfold rmEv at heq
 unfold diffH rmEv
 refine Con.of (n:=26) (rs:=[.tmp 4]) (Is.fn Tryz.func19) rfl (Is.call Tryz.call19) Tryz.results19 Tryz.ntmps19 trivial ?_
 simp only [method_specs_simp,seval,netV]
 refine ⟨by kernel_rfl,?_⟩
 refine clY.con hc1 ⟨hsr,trivial,trivial⟩ ?_
 simp only [method_specs_simp,seval,netV,hF,hz,sRow1]
 refine ⟨by omega,?_⟩
 refine clY.con hc0 ⟨hsr0,trivial,trivial⟩ ?_
 simp only [method_specs_simp,seval,netV,hF,encGr]
 refine clY.con heq (by simp only [method_specs_simp]) ?_
 simp only [method_specs_simp,seval,netV]
def alikeI (p : Ps) (room : Int) : Bool:=(psRight p && Gm.isB room 1 3) && !(p.hubs.any (diffH (p.hubs.headD ⟨[],[]⟩) room))
theorem ps_hubs {p : Ps} (h : psRight p = true) : p.hubs.all rightS = true ∧ ∃ h0,p.hubs[0]? = some h0 ∧ p.hubs.headD ⟨[],[]⟩ = h0:=by
 unfold psRight Gm.isB at h
 simp only [Zq,decide_eq_true_eq] at h
 refine ⟨h.1,?_⟩
 cases hq : p.hubs with
 | nil=>rw [hq] at h; simp at h
 | cons a l=>exact ⟨a,rfl,rfl⟩
theorem c_Alike (p : Ps) (room : Int) (hp : PsOK p) : Con P 7 [.agg (encPs p),.int .i64 room] (.bool (alikeI p room)):=by
 have hn:=c_newNet (P:=P) p hp
 have hnr:=netV_ref (fun _=>False) p
 have h48:=hp.1.1
 have hpe : encPs p = [.sl 2 (p.hubs.map encHb),.sl 5 (p.letters.map encLt)]:=rfl
 unfold alikeI
 cases hr : psRight p with
 | false =>
  have hn2 : netR p = .tup [netV p,.bool false] ∨ netR p = .tup [.np,.bool false]:=by
   unfold netR
   unfold psRight at hr
   cases hall : p.hubs.all rightS with
   | true =>
    rw [hall,Zh] at hr
    rw [if_pos rfl,hr]
    exact .inl rfl
   | false=>exact .inr rfl
  rcases hn2 with h | h
  ·rw [h] at hn
   refine Con.of (n:=26) (rs:=[.tmp 4]) (Is.fn Tryz.func7) rfl (Is.call Tryz.call7) Tryz.results7 Tryz.ntmps7 trivial ?_
   simp only [method_specs_simp,seval]
   simp only [method_specs_simp,seval,hpe]
   refine clY.con hn (by simp only [method_specs_simp,hpe]) ?_
   simp only [method_specs_simp,seval,netV]
   rfl
  ·rw [h] at hn
   refine Con.of (n:=26) (rs:=[.tmp 4]) (Is.fn Tryz.func7) rfl (Is.call Tryz.call7) Tryz.results7 Tryz.ntmps7 trivial ?_
   simp only [method_specs_simp,seval]
   simp only [method_specs_simp,seval,hpe]
   refine clY.con hn (by simp only [method_specs_simp,hpe]) ?_
   simp only [method_specs_simp,seval]
   rfl
 | true =>
  obtain ⟨hall,h0,hz,hz2⟩:=ps_hubs hr
  have hn2 : netR p = .tup [netV p,.bool true]:=by
   unfold netR
   rw [hall,if_pos rfl]
   unfold psRight at hr
   rw [hall,Zh] at hr
   rw [hr]
  rw [hn2] at hn
  rw [hz2]
  have hcl:=fun (hb : Gm.isB room 1 3 = true)=>c_containsFS (P:=P) p.hubs 19 [.fptr [.int .i64 room] 0,.fptr [netV p] 0] (diffH h0 room) ⟨⟨trivial,trivial⟩,⟨hnr,trivial⟩,trivial⟩ (fun x hx=>c_alike1 p h0 x room hp hall hx hz hb) (by omega)
  refine Con.of (n:=26) (rs:=[.tmp 4]) (Is.fn Tryz.func7) rfl (Is.call Tryz.call7) Tryz.results7 Tryz.ntmps7 trivial ?_
  simp only [method_specs_simp,seval]
  simp only [method_specs_simp,seval,hpe]
  refine clY.con hn (by simp only [method_specs_simp,hpe]) ?_
  simp only [method_specs_simp,seval,netV]
  refine clY.con (c_isRoom room) ⟨trivial,trivial⟩ ?_
  cases hb : Gm.isB room 1 3 with
  | false =>
   simp only [method_specs_simp,seval]
   try rfl
  | true =>
   simp only [method_specs_simp,seval]
   refine clY.conF (hcl hb) (by simp only [method_specs_simp,netV]) ⟨of_eq_true (sRow1_refs _ _),⟨trivial,⟨trivial,trivial⟩,⟨hnr,trivial⟩,trivial⟩,trivial⟩ trivial ?_
   simp only [method_specs_simp,seval]
def sameH (h0 : Hb) (room : Int) (h : Hb) : Bool:=eqEvs (rmEv h0 room) (rmEv h room)
def alikeS (p : Ps) (room : Int) : Bool:=(psRight p && Gm.isB room 1 3) && (p.hubs.drop 1).all (sameH (p.hubs.headD ⟨[],[]⟩) room)
theorem alike_same (p : Ps) (room : Int) : alikeI p room = alikeS p room:=by
 unfold alikeI alikeS
 cases hb : psRight p && Gm.isB room 1 3 with
 | false=>rfl
 | true =>
  rw [Zh,Zh]
  cases p.hubs with
  | nil=>rfl
  | cons a l =>
   have e : ∀ t : List Hb,(!t.any (diffH a room)) = t.all (sameH a room):=fun t=>by
    induction t with
    | nil=>rfl
    | cons x t ih =>
     rw [List.any_cons,YI,← ih,Bool.not_or]
     unfold diffH sameH
     rw [Bool.not_not,eqEvs_comm]
   show (!(a :: l).any (diffH a room)) = l.all (sameH a room)
   rw [e,YI]
   unfold sameH
   rw [eqEvs_self,Zh]
theorem c_sAlike (p : Ps) (room : Int) (hp : PsOK p) : Con P 5 [.agg (encPs p),.int .i64 room] (.bool (alikeS p room)):=by
 have hpr:=c_sPeersRight (P:=P) p hp
 have h48:=hp.1.1
 have hpe : encPs p = [.sl 2 (p.hubs.map encHb),.sl 5 (p.letters.map encLt)]:=rfl
 unfold alikeS
 refine Con.of (n:=66) (rs:=[.tmp 4]) (Is.fn Tryz.func5) rfl (Is.call Tryz.call5) Tryz.results5 Tryz.ntmps5 trivial ?_
 simp only [method_specs_simp,seval]
 simp only [method_specs_simp,seval,hpe]
 refine clY.con hpr (by simp only [method_specs_simp,hpe]) ?_
 cases hr : psRight p with
 | false =>
  simp only [method_specs_simp,seval]
  try rfl
 | true =>
  obtain ⟨hall,h0,hz,hz2⟩:=ps_hubs hr
  rw [Zn] at hall
  rw [hz2]
  simp only [method_specs_simp,seval]
  refine clY.con (c_l08Room room) ⟨trivial,trivial⟩ ?_
  cases hb : Gm.isB room 1 3 with
  | false =>
   simp only [method_specs_simp,seval]
   try rfl
  | true =>
   have hm0:=Zf hz
   have hl0:=(Zr.1 hz).1
   have hO0:=hp.1.2 h0 hm0
   have hr0:=hall h0 hm0
   obtain ⟨b1,b2⟩ : 1 ≤ room ∧ room ≤ 3:=by unfold Gm.isB at hb; simpa using hb
   obtain ⟨i0,hi0⟩ : ∃ i0 : Nat,room = (i0 : Int) + 1:=⟨(room - 1).toNat,by omega⟩
   have w0 : IntKind.i64.wrap (room - 1) = (i0 : Int):=by rw [wrap_id (by omega) (by omega)]; omega
   have rmat : ∀ h ∈ p.hubs,∃ g,h.rooms[i0]? = some g ∧ rmEv h room = g.events ∧ i0 < h.rooms.length:=fun h hm=>by
    obtain ⟨_,_,h3,_⟩:=right_nd (hall h hm)
    obtain ⟨g,hg⟩ : ∃ g,h.rooms[i0]? = some g:=⟨_,Zb (by omega)⟩
    refine ⟨g,hg,?_,by omega⟩
    unfold rmEv
    rw [hi0,gAt_of hg]
   obtain ⟨g0,hg0,he0,hlt0⟩:=rmat h0 hm0
   have hev0:=rmEv_ok hO0 hr0 hb
   simp only [method_specs_simp,seval]
   refine SW.while (A:=Nat) (fun i=>⟨pad 66 [.junk,.int .i64 room,.ptr 0 0,.junk,.bool false,.int .i64 i],[.box true (encPs p)],[]⟩) (fun i=>p.hubs.length - i) (fun i=>1 ≤ i ∧ i ≤ p.hubs.length ∧ (p.hubs.drop 1).all (sameH h0 room) = (p.hubs.drop i).all (sameH h0 room)) 1 [0] ⟨Zo _,by omega,rfl⟩ ?_ ?_
   ·simp only [mvcgen_simp,method_specs_simp,seval,hpe]
   ·rintro i ⟨hi1,hi,hr2⟩
    have w1 : IntKind.i64.wrap ((i : Int) + 1) = ((i + 1 : Nat) : Int):=wadd1 i (by omega)
    rw [hr2]
    refine CW.sound ?_
    simp only [method_specs_simp,seval,hpe]
    refine gB_split (fun h=>?_) (fun h=>?_)
    ·simp only [decide_eq_true_eq,Za] at h
     obtain ⟨x,hx⟩ : ∃ x,p.hubs[i]? = some x:=⟨_,Zb h⟩
     have hmx:=Zf hx
     obtain ⟨gx,hgx,hex,hltx⟩:=rmat x hmx
     have hevx:=rmEv_ok (hp.1.2 x hmx) (hall x hmx) hb
     rw [drop_cons hx,YI]
     have hsame : sameH h0 room x = eqEvs g0.events gx.events:=by unfold sameH; rw [he0,hex]
     rw [he0] at hev0
     rw [hex] at hevx
     rw [hsame]
     simp only [method_specs_simp,seval,hpe,hz,hx,encHb,w0,hg0,hgx,encGr]
     refine ⟨by kernel_rfl,by omega,by omega,by omega,by omega,by omega,by omega,by omega,?_⟩
     have hx1:=hev0.1
     have hx2:=hevx.1
     cases hl : ((g0.events.length : Int) != gx.events.length) with
     | true =>
      rw [eqEvs_ne (fun q=>by rw [q] at hl; simp at hl)]
      simp only [method_specs_simp,seval]
      try rfl
     | false =>
      have hl2 : g0.events.length = gx.events.length:=by simp only [bne_eq_false_iff_eq] at hl; omega
      simp only [method_specs_simp,seval]
      refine SW.while (A:=Nat) (fun k=>⟨pad 66 [.junk,.int .i64 room,.ptr 0 0,.junk,.bool false,.int .i64 i,.sl 9 (g0.events.map encEv),.sl 9 (gx.events.map encEv),.int .i64 k],[.box true (encPs p)],[]⟩) (fun k=>g0.events.length - k) (fun k=>k ≤ g0.events.length ∧ eqEvs g0.events gx.events = eqEvs (g0.events.drop k) (gx.events.drop k)) 0 [0] ⟨Zg _,rfl⟩ ?_ ?_
      ·simp only [mvcgen_simp,method_specs_simp,seval,hpe]
      ·rintro k ⟨hk,hr3⟩
       have w2 : IntKind.i64.wrap ((k : Int) + 1) = ((k + 1 : Nat) : Int):=wadd1 k (by omega)
       rw [hr3]
       refine CW.sound ?_
       simp only [method_specs_simp,seval]
       refine gB_split (fun h1=>?_) (fun h1=>?_)
       ·simp only [decide_eq_true_eq,Za] at h1
        obtain ⟨a,ha⟩ : ∃ a,g0.events[k]? = some a:=⟨_,Zb h1⟩
        obtain ⟨b,hb2⟩ : ∃ b,gx.events[k]? = some b:=⟨_,Zb (by omega)⟩
        have hsm:=c_sSameEvent (P:=P) a b (hev0.2 a (Zf ha)) (hevx.2 b (Zf hb2))
        rw [sameE_eq] at hsm
        rw [drop_cons ha,drop_cons hb2,eqEvs]
        simp only [method_specs_simp,seval,ha,hb2,encEv]
        refine ⟨by kernel_rfl,by omega,by omega,by omega,by omega,?_⟩
        refine clY.con hsm ⟨encEv_ref1 _ a,encEv_ref1 _ b,trivial⟩ ?_
        cases hq : sameE a b with
        | true =>
         simp only [method_specs_simp,seval]
         refine Again.mk (k + 1) [0] ⟨h1,rfl⟩ (Zc h1 (Zd _)) ?_
         simp only [mvcgen_simp,method_specs_simp,seval,w2,hpe]
        | false =>
         simp only [method_specs_simp,seval]
         try rfl
       ·simp only [decide_eq_false_iff_not,Ze,Za] at h1
        rw [ZA (by omega),ZA (by omega),eqEvs,Zh]
        refine Again.mk (i + 1) [0] ⟨by omega,h,rfl⟩ (Zc h (Zd _)) ?_
        simp only [mvcgen_simp,method_specs_simp,seval,w1,hpe]
    ·simp only [decide_eq_false_iff_not,Ze,Za] at h
     rw [ZA (by omega)]
     try rfl
theorem c_FnExactAlike (p : Ps) (room : Int) (hp : PsOK p) : Con P 3 [.agg (encPs p),.int .i64 room] (.bool true):=by
 refine Con.of (n:=31) (rs:=[.tmp 4]) (Is.fn Tryz.func3) rfl (Is.call Tryz.call3) Tryz.results3 Tryz.ntmps3 trivial ?_
 simp only [method_specs_simp,seval,encPs]
 refine clY.con (c_szPeers p 1048576 (by decide) (by decide) hp) (by simp only [method_specs_simp,encPs]) ?_
 simp only [method_specs_simp,seval,encPs]
 refine gB_split (fun _=>trivial) (fun w1=>?_)
 refine clY.con (c_toPeers p hp) (by simp only [method_specs_simp,encPs]) ?_
 simp only [method_specs_simp,seval,encPs]
 have hs:=c_sAlike (P:=P) p room hp
 rw [← alike_same] at hs
 refine clY.con hs (by simp only [method_specs_simp,encPs]) ?_
 simp only [method_specs_simp,seval,encPs]
 refine clY.con (c_toPeers p hp) (by simp only [method_specs_simp,encPs]) ?_
 simp only [method_specs_simp,seval,encPs]
 refine clY.con (c_Alike p room hp) (by simp only [method_specs_simp,encPs]) ?_
 simp only [method_specs_simp,seval,encPs,bne_self_eq_false]
 refine ⟨by kernel_rfl,?_⟩
 refine clY.con (c_toPeers p hp) (by simp only [method_specs_simp,encPs]) ?_
 simp only [method_specs_simp,seval,encPs]
 refine clY.con (c_eqPeers p hp) (by simp only [method_specs_simp,encPs]) ?_
 simp only [method_specs_simp,seval,encPs]
end
end Go.Proofs.YtlgeggpcnbbjdaaGreat
end
section
namespace Go.Proofs.YtlgeggpcnbbjdaaGreat
open Go.Pm
open Go.Gm (Ev Gr)
open Go.ChangeShapes Go.WideShapes Go.ChangeAt Go.RowKit
set_option maxRecDepth 100000
def tSpot : Ty:=.st [.int .i64,.int .i64]
def tSpots : Ty:=.sl 2 16 tSpot
def tGraphs : Ty:=.sl 3 56 tGraph
def tHub : Ty:=.st [tGraphs,tSpots]
theorem in_hub {xs : List V} (h : In tHub xs) : ∃ x : Hb,xs = encHb x ∧ HbOK x:=by
 obtain ⟨_,_,rfl,⟨ra,rfl,hla,hra⟩,_,_,rfl,⟨rb,rfl,hlb,hrb⟩,rfl⟩:=h
 have h0:=reachBytes_lt
 obtain ⟨a,rfl,ha⟩:=list_map_ofG (p:=fun a b=>a = encGr b ∧ GrOK b) (q:=GrOK) (fun _ _ h=>h) fun r hr'=>in_graph (hra r hr')
 obtain ⟨b,rfl,_⟩:=list_map_ofG (p:=fun a b=>a = encSp b) (q:=fun _=>True) (fun _ _ h=>⟨h,trivial⟩) fun r hr'=>by
  obtain ⟨_,_,rfl,⟨n,rfl,_⟩,_,_,rfl,⟨m,rfl,_⟩,rfl⟩:=hrb r hr'
  exact ⟨⟨n,m⟩,rfl⟩
 rw [Zj] at hla hlb
 exact ⟨⟨a,b⟩,rfl,⟨by show a.length * 56 ≤ _; omega,ha⟩,by show b.length * 16 ≤ _; omega⟩
theorem ok_hub : OKT Tryz.prog tHub 74:=by
 refine ⟨_,Tryz.underlying74,rfl,⟨_,Tryz.underlying71,ok_graph,?_,?_,?_⟩,rfl,⟨_,Tryz.underlying72,⟨_,Tryz.underlying128,rfl,Tryz.underlying2,rfl,Tryz.underlying2,?_⟩,?_,?_,?_⟩,?_⟩
 all_goals first | kernel_rfl | decide | (show (_ : Nat) = _; kernel_rfl)
set_option maxRecDepth 100000
def tLetter : Ty:=.st [.int .i64,.int .i64,.int .i64,.int .i64,.str]
def tLetters : Ty:=.sl 5 48 tLetter
def tHubs : Ty:=.sl 2 48 tHub
def tPeers : Ty:=.st [tHubs,tLetters]
theorem in_peers {xs : List V} (h : In tPeers xs) : ∃ x : Ps,xs = encPs x ∧ PsOK x:=by
 obtain ⟨_,_,rfl,⟨ra,rfl,hla,hra⟩,_,_,rfl,⟨rb,rfl,hlb,hrb⟩,rfl⟩:=h
 have h0:=reachBytes_lt
 obtain ⟨a,rfl,ha⟩:=list_map_ofG (p:=fun a b=>a = encHb b ∧ HbOK b) (q:=HbOK) (fun _ _ h=>h) fun r hr'=>in_hub (hra r hr')
 obtain ⟨b,rfl,hb⟩:=list_map_ofG (p:=fun a b=>a = encLt b ∧ b.text.size < 2 ^ 50) (q:=fun b=>b.text.size < 2 ^ 50) (fun _ _ h=>h) fun r hr'=>by
  obtain ⟨_,_,rfl,⟨k,rfl,_⟩,_,_,rfl,⟨f,rfl,_⟩,_,_,rfl,⟨t,rfl,_⟩,_,_,rfl,⟨m,rfl,_⟩,_,_,rfl,⟨s,rfl,hs⟩,rfl⟩:=hrb r hr'
  exact ⟨⟨k,f,t,m,s⟩,rfl,by show s.size < _; omega⟩
 rw [Zj] at hla hlb
 exact ⟨⟨a,b⟩,rfl,⟨by show a.length * 48 ≤ _; omega,ha⟩,by show b.length * 48 ≤ _; omega,hb⟩
theorem ok_peers : OKT Tryz.prog tPeers 25:=by
 refine ⟨_,Tryz.underlying25,rfl,⟨_,Tryz.underlying22,ok_hub,?_,?_,?_⟩,rfl,⟨_,Tryz.underlying23,⟨_,Tryz.underlying77,rfl,Tryz.underlying2,rfl,Tryz.underlying2,rfl,Tryz.underlying2,rfl,Tryz.underlying2,rfl,Tryz.underlying9,?_⟩,?_,?_,?_⟩,?_⟩
 all_goals first | kernel_rfl | decide | (show (_ : Nat) = _; kernel_rfl)
end Go.Proofs.YtlgeggpcnbbjdaaGreat
end
section
namespace Go.Proofs.YtlgeggpcnbbjdaaGreat
set_option maxRecDepth 100000
theorem and_mk {a b : Bool} (ha : a = true) (hb : b = true) : (a && b) = true:=by rw [ha,hb]; rfl
theorem p_own : ownKnob Tryz.prog.godebug = none:=by kernel_rfl
theorem p_laid : laidOutB Tryz.prog = true:=by kernel_rfl
theorem p_maps : mapsRowed Tryz.prog = true:=by kernel_rfl
theorem p_stops : (Tryz.prog.stops == []) = true:=by kernel_rfl
theorem p_knobs : (Tryz.prog.stopKnobs == []) = true:=by kernel_rfl
theorem p_keys : (false == Tryz.prog.plainKeys) = true:=by kernel_rfl
theorem p_heard : Tryz.prog.stopsHeard = true:=by kernel_rfl
theorem p_enter : Tryz.prog.mayEnter = true:=by kernel_rfl
end Go.Proofs.YtlgeggpcnbbjdaaGreat
end
